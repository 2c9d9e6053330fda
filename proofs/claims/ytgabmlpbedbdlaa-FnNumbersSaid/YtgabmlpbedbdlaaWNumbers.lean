/-
  The law FnNumbers: the walk.
-/
import Derived.Test.YtgabmlpbedbdlaaCur3
import Derived.Test.YtgabmlpbedbdlaaBig1
import Derived.Test.YtgabmlpbedbdlaaNum3
import Derived.Test.YtgabmlpbedbdlaaNum4
import Derived.Test.YtgabmlpbedbdlaaNum8
import Derived.Test.YtgabmlpbedbdlaaNum9
import Derived.Test.YtgabmlpbedbdlaaNum10
import Derived.Test.YtgabmlpbedbdlaaNum11
import Derived.Test.YtgabmlpbedbdlaaDec1
import Derived.Test.YtgabmlpbedbdlaaNm0
namespace Go.Proofs.Ytgabmlpbedbdlaa.fnNumbers
open Go.ChangeShapes Go.WideShapes Go.ChangeAt Go.RowKit
set_option linter.unusedVariables false
set_option maxRecDepth 100000

/-- What is asked of the number and of its texts. -/
def NumOk (n : Int) (s : List UInt8) (x k : Int) (t : List UInt8) (y : Int) (is : Bool) (d : Int) (fine : Bool) : Prop :=
  ((s.isEmpty = true ∧ s.length = 0 ∧ (n < 0 ∨ 562949953421311 < n)) ∨ (s.isEmpty = false ∧ x = n ∧ k = (s.length : Int) ∧ 0 ≤ n ∧ n ≤ 562949953421311)) ∧
  ((t.isEmpty = true ∧ t.length = 0 ∧ (n < 0 ∨ 72057594037927936 ≤ n)) ∨ (t.isEmpty = false ∧ y = n ∧ is = true ∧ t.length = 7 ∧ 0 ≤ n ∧ n < 72057594037927936)) ∧
  ((fine = true ∧ d = n ∧ -1000000000 < n ∧ n < 1000000000) ∨ (fine = false ∧ (n ≤ -1000000000 ∨ 1000000000 ≤ n)))
theorem S_empty {s : List UInt8} (h : s.length = 0) : s.isEmpty = true := by
  obtain rfl := List.eq_nil_of_length_eq_zero h
  rfl
theorem S_full {s : List UInt8} (h : 1 ≤ s.length) : s.isEmpty = false := by
  cases s with
  | nil => simp at h
  | cons a t => rfl
theorem decS_len (n : Int) : (decS n).length ≤ 20 := by
  unfold decS
  have := decF_len 19 n.natAbs
  split
  · simp
  · split <;> simp <;> omega
theorem num_ok (n : Int) (tl : List UInt8) (h1 : n ≤ 9223372036854775807) (h2 : -9223372036854775808 ≤ n) :
    NumOk n (varS n) (readVarS (varS n ++ tl)).1 (readVarS (varS n ++ tl)).2 (fixedS n 7) (readFixedS (fixedS n 7 ++ tl) 7).1 (readFixedS (fixedS n 7 ++ tl) 7).2 (readDecS (decS n)).1 (readDecS (decS n)).2 := by
  refine ⟨?_, ?_, ?_⟩
  · rcases varS_size n with ⟨h, hn⟩ | ⟨h, _, h0, hM⟩
    · exact .inl ⟨S_empty h, h, hn⟩
    · have hr := readVar_varS h0 hM tl
      exact .inr ⟨S_full h, hr.1, by rw [hr.2], h0, hM⟩
  · rcases fixed7_size n with ⟨h, hn⟩ | ⟨h, h0, hM⟩
    · exact .inl ⟨S_empty h, h, hn⟩
    · have hr := readFixed_fixed h0 hM tl
      exact .inr ⟨S_full (by omega), hr.1, hr.2, h, h0, hM⟩
  · rcases readDec_dec n h1 h2 with ⟨ha, hb, hr⟩ | ⟨ha, hr⟩
    · rw [hr]; exact .inl ⟨rfl, rfl, by omega, hb⟩
    · rw [hr]; exact .inr ⟨rfl, ha⟩

set_option maxHeartbeats 4000000 in
theorem walk_c0 (A : Option Addr) (c : Nat) (l : List UInt8) (w : World) (n : Int) (s t dd tl rv vz hh : List UInt8) (x k y d : Int) (isf fine : Bool) (zz j : Nat)
    (hl : l.length ≤ 9223372036854775807) (hbig : decide (1048576 < l.length) = false) (hb0 : Below w.heap.size w w) (hn1 : -9223372036854775808 ≤ n) (hn2 : n ≤ 9223372036854775807)
    (HV : Hid (∀ W : World, BReads W W.heap.size A l → Calls Try.prog 37 #[.slice A l.length c] W fun e w' => e = .returned (.int .i64 n) ∧ Below W.heap.size W w'))
    (HX : Hid (∀ W : World, BReads W W.heap.size A l → Calls Try.prog 38 #[.slice A l.length c] W fun e w' => e = .returned (.string (S tl)) ∧ Below W.heap.size W w'))
    (HRV : Hid (∀ W : World, BReads W W.heap.size A l → Calls Try.prog 39 #[.slice A l.length c] W fun e w' => e = .returned (.string (S rv)) ∧ Below W.heap.size W w'))
    (hl1 : s.length + tl.length ≤ 100) (hl2 : t.length + tl.length ≤ 100) (hrv : rv.length ≤ 1001)
    (H1 : Hid (∀ W : World, Calls Try.prog 18 #[.int .i64 n] W fun e w' => e = .returned (.string (S s)) ∧ Below W.heap.size W w'))
    (H2 : Hid (∀ W : World, Calls Try.prog 34 #[.string (S (s ++ tl))] W fun e w' => e = .returned (.tuple #[.int .i64 x, .int .i64 k]) ∧ Below W.heap.size W w'))
    (H3 : Hid (∀ W : World, Calls Try.prog 20 #[.int .i64 n, .int .i64 7] W fun e w' => e = .returned (.string (S t)) ∧ Below W.heap.size W w'))
    (H4 : Hid (∀ W : World, Calls Try.prog 16 #[.string (S (t ++ tl)), .int .i64 7] W fun e w' => e = .returned (.tuple #[.int .i64 y, .bool isf]) ∧ W = w'))
    (H5 : Hid (∀ W : World, Calls Try.prog 30 #[.int .i64 n] W fun e w' => e = .returned (.string (S dd)) ∧ Below W.heap.size W w'))
    (H6 : Hid (∀ W : World, Calls Try.prog 36 #[.string (S dd)] W fun e w' => e = .returned (.tuple #[.int .i64 d, .bool fine]) ∧ Below W.heap.size W w'))
    (H7 : Hid (∀ W : World, Calls Try.prog 14 #[.string (S tl)] W fun e w' => e = .returned (.string (S hh)) ∧ Below W.heap.size W w'))
    (H8 : Hid (∀ W : World, Calls Try.prog 32 #[.string (S hh)] W fun e w' => e = .returned (.tuple #[.string (S tl), .bool true]) ∧ Below W.heap.size W w'))
    (H9 : Hid (∀ W : World, Calls Try.prog 34 #[.string (S rv)] W fun e w' => e = .returned (.tuple #[.int .i64 (zz : Int), .int .i64 (j : Int)]) ∧ Below W.heap.size W w'))
    (HA : Hid (∀ W : World, Calls Try.prog 18 #[.int .i64 (zz : Int)] W fun e w' => e = .returned (.string (S vz)) ∧ Below W.heap.size W w'))
    (hR0 : Hid (∀ W : World, Below w.heap.size w W → BReads W W.heap.size A l))
    (hz : ((j : Int) = 0 ∧ True) ∨ (¬ (j : Int) = 0 ∧ 0 < (j : Int) ∧ (j : Int) ≤ rv.length ∧ (S rv).extract 0 j = S vz))
    (q1 : s.isEmpty = true) (q1n : n < 0) (q2 : t.isEmpty = true) (h0 : fine = true) (h1 : d = n) (q3n : -1000000000 < n) :
    Calls Try.prog 12 #[.slice A l.length c] w fun e w' => e = .returned (.bool true) ∧ Below w.heap.size w w' := by
  subst h0
  subst h1
  go_enter Try.func12, Try.ntmps12
  go_wp2_with fail
  refine (big_any _ _ _ _ hl).mono ?_
  rintro e w1 ⟨rfl, rfl⟩
  rw [hbig]
  go_wp2_with fail
  refine (HV.out _ (hR0.out _ hb0)).mono ?_
  rintro e w1 ⟨rfl, b1⟩
  have hb := Below.next hb0 b1
  go_wp2_with fail
  refine (HX.out _ (hR0.out _ hb)).mono ?_
  rintro e w2 ⟨rfl, b2⟩
  have hb := Below.next hb b2
  go_wp2_with fail
  refine (H1.out _).mono ?_
  rintro e w3 ⟨rfl, b3⟩
  have hb := Below.next hb b3
  go_wp2_with fail
  refine (H2.out _).mono ?_
  rintro e w4 ⟨rfl, b4⟩
  have hb := Below.next hb b4
  go_wp2_with fail
  refine (H3.out _).mono ?_
  rintro e w5 ⟨rfl, b5⟩
  have hb := Below.next hb b5
  go_wp2_with fail
  refine (H4.out _).mono ?_
  rintro e w6 ⟨rfl, rfl⟩
  go_wp2_with fail
  refine (H5.out _).mono ?_
  rintro e w7 ⟨rfl, b7⟩
  have hb := Below.next hb b7
  go_wp2_with fail
  refine (H6.out _).mono ?_
  rintro e w8 ⟨rfl, b8⟩
  have hb := Below.next hb b8
  go_wp2_with fail
  refine (H7.out _).mono ?_
  rintro e w9 ⟨rfl, b9⟩
  have hb := Below.next hb b9
  go_wp2_with fail
  refine (H8.out _).mono ?_
  rintro e w10 ⟨rfl, b10⟩
  have hb := Below.next hb b10
  go_wp2_with fail
  refine (HRV.out _ (hR0.out _ hb)).mono ?_
  rintro e w11 ⟨rfl, b11⟩
  have hb := Below.next hb b11
  go_wp2_with fail
  refine (H9.out _).mono ?_
  rintro e w12 ⟨rfl, b12⟩
  have hb := Below.next hb b12
  rcases hz with ⟨hz, _⟩ | ⟨hz, hz1, hz2, hz3⟩
  · go_wp2
    go_ret
    exact ⟨rfl, hb⟩
  · go_wp2_with fail
    refine (HRV.out _ (hR0.out _ hb)).mono ?_
    rintro e w13 ⟨rfl, b13⟩
    have hb := Below.next hb b13
    go_wp2_with fail
    refine (HA.out _).mono ?_
    rintro e w14 ⟨rfl, b14⟩
    have hb := Below.next hb b14
    go_wp2_with fail
    refine (HRV.out _ (hR0.out _ hb)).mono ?_
    rintro e w15 ⟨rfl, b15⟩
    have hb := Below.next hb b15
    go_wp2
    go_ret
    exact ⟨rfl, hb⟩

set_option maxHeartbeats 4000000 in
theorem walk_c1 (A : Option Addr) (c : Nat) (l : List UInt8) (w : World) (n : Int) (s t dd tl rv vz hh : List UInt8) (x k y d : Int) (isf fine : Bool) (zz j : Nat)
    (hl : l.length ≤ 9223372036854775807) (hbig : decide (1048576 < l.length) = false) (hb0 : Below w.heap.size w w) (hn1 : -9223372036854775808 ≤ n) (hn2 : n ≤ 9223372036854775807)
    (HV : Hid (∀ W : World, BReads W W.heap.size A l → Calls Try.prog 37 #[.slice A l.length c] W fun e w' => e = .returned (.int .i64 n) ∧ Below W.heap.size W w'))
    (HX : Hid (∀ W : World, BReads W W.heap.size A l → Calls Try.prog 38 #[.slice A l.length c] W fun e w' => e = .returned (.string (S tl)) ∧ Below W.heap.size W w'))
    (HRV : Hid (∀ W : World, BReads W W.heap.size A l → Calls Try.prog 39 #[.slice A l.length c] W fun e w' => e = .returned (.string (S rv)) ∧ Below W.heap.size W w'))
    (hl1 : s.length + tl.length ≤ 100) (hl2 : t.length + tl.length ≤ 100) (hrv : rv.length ≤ 1001)
    (H1 : Hid (∀ W : World, Calls Try.prog 18 #[.int .i64 n] W fun e w' => e = .returned (.string (S s)) ∧ Below W.heap.size W w'))
    (H2 : Hid (∀ W : World, Calls Try.prog 34 #[.string (S (s ++ tl))] W fun e w' => e = .returned (.tuple #[.int .i64 x, .int .i64 k]) ∧ Below W.heap.size W w'))
    (H3 : Hid (∀ W : World, Calls Try.prog 20 #[.int .i64 n, .int .i64 7] W fun e w' => e = .returned (.string (S t)) ∧ Below W.heap.size W w'))
    (H4 : Hid (∀ W : World, Calls Try.prog 16 #[.string (S (t ++ tl)), .int .i64 7] W fun e w' => e = .returned (.tuple #[.int .i64 y, .bool isf]) ∧ W = w'))
    (H5 : Hid (∀ W : World, Calls Try.prog 30 #[.int .i64 n] W fun e w' => e = .returned (.string (S dd)) ∧ Below W.heap.size W w'))
    (H6 : Hid (∀ W : World, Calls Try.prog 36 #[.string (S dd)] W fun e w' => e = .returned (.tuple #[.int .i64 d, .bool fine]) ∧ Below W.heap.size W w'))
    (H7 : Hid (∀ W : World, Calls Try.prog 14 #[.string (S tl)] W fun e w' => e = .returned (.string (S hh)) ∧ Below W.heap.size W w'))
    (H8 : Hid (∀ W : World, Calls Try.prog 32 #[.string (S hh)] W fun e w' => e = .returned (.tuple #[.string (S tl), .bool true]) ∧ Below W.heap.size W w'))
    (H9 : Hid (∀ W : World, Calls Try.prog 34 #[.string (S rv)] W fun e w' => e = .returned (.tuple #[.int .i64 (zz : Int), .int .i64 (j : Int)]) ∧ Below W.heap.size W w'))
    (HA : Hid (∀ W : World, Calls Try.prog 18 #[.int .i64 (zz : Int)] W fun e w' => e = .returned (.string (S vz)) ∧ Below W.heap.size W w'))
    (hR0 : Hid (∀ W : World, Below w.heap.size w W → BReads W W.heap.size A l))
    (hz : ((j : Int) = 0 ∧ True) ∨ (¬ (j : Int) = 0 ∧ 0 < (j : Int) ∧ (j : Int) ≤ rv.length ∧ (S rv).extract 0 j = S vz))
    (q1 : s.isEmpty = true) (q1n : n < 0) (q2 : t.isEmpty = true) (h0 : fine = false) (q3n : n ≤ -1000000000) :
    Calls Try.prog 12 #[.slice A l.length c] w fun e w' => e = .returned (.bool true) ∧ Below w.heap.size w w' := by
  subst h0
  go_enter Try.func12, Try.ntmps12
  go_wp2_with fail
  refine (big_any _ _ _ _ hl).mono ?_
  rintro e w1 ⟨rfl, rfl⟩
  rw [hbig]
  go_wp2_with fail
  refine (HV.out _ (hR0.out _ hb0)).mono ?_
  rintro e w1 ⟨rfl, b1⟩
  have hb := Below.next hb0 b1
  go_wp2_with fail
  refine (HX.out _ (hR0.out _ hb)).mono ?_
  rintro e w2 ⟨rfl, b2⟩
  have hb := Below.next hb b2
  go_wp2_with fail
  refine (H1.out _).mono ?_
  rintro e w3 ⟨rfl, b3⟩
  have hb := Below.next hb b3
  go_wp2_with fail
  refine (H2.out _).mono ?_
  rintro e w4 ⟨rfl, b4⟩
  have hb := Below.next hb b4
  go_wp2_with fail
  refine (H3.out _).mono ?_
  rintro e w5 ⟨rfl, b5⟩
  have hb := Below.next hb b5
  go_wp2_with fail
  refine (H4.out _).mono ?_
  rintro e w6 ⟨rfl, rfl⟩
  go_wp2_with fail
  refine (H5.out _).mono ?_
  rintro e w7 ⟨rfl, b7⟩
  have hb := Below.next hb b7
  go_wp2_with fail
  refine (H6.out _).mono ?_
  rintro e w8 ⟨rfl, b8⟩
  have hb := Below.next hb b8
  go_wp2_with fail
  refine (H7.out _).mono ?_
  rintro e w9 ⟨rfl, b9⟩
  have hb := Below.next hb b9
  go_wp2_with fail
  refine (H8.out _).mono ?_
  rintro e w10 ⟨rfl, b10⟩
  have hb := Below.next hb b10
  go_wp2_with fail
  refine (HRV.out _ (hR0.out _ hb)).mono ?_
  rintro e w11 ⟨rfl, b11⟩
  have hb := Below.next hb b11
  go_wp2_with fail
  refine (H9.out _).mono ?_
  rintro e w12 ⟨rfl, b12⟩
  have hb := Below.next hb b12
  rcases hz with ⟨hz, _⟩ | ⟨hz, hz1, hz2, hz3⟩
  · go_wp2
    go_ret
    exact ⟨rfl, hb⟩
  · go_wp2_with fail
    refine (HRV.out _ (hR0.out _ hb)).mono ?_
    rintro e w13 ⟨rfl, b13⟩
    have hb := Below.next hb b13
    go_wp2_with fail
    refine (HA.out _).mono ?_
    rintro e w14 ⟨rfl, b14⟩
    have hb := Below.next hb b14
    go_wp2_with fail
    refine (HRV.out _ (hR0.out _ hb)).mono ?_
    rintro e w15 ⟨rfl, b15⟩
    have hb := Below.next hb b15
    go_wp2
    go_ret
    exact ⟨rfl, hb⟩

set_option maxHeartbeats 4000000 in
theorem walk_c2 (A : Option Addr) (c : Nat) (l : List UInt8) (w : World) (n : Int) (s t dd tl rv vz hh : List UInt8) (x k y d : Int) (isf fine : Bool) (zz j : Nat)
    (hl : l.length ≤ 9223372036854775807) (hbig : decide (1048576 < l.length) = false) (hb0 : Below w.heap.size w w) (hn1 : -9223372036854775808 ≤ n) (hn2 : n ≤ 9223372036854775807)
    (HV : Hid (∀ W : World, BReads W W.heap.size A l → Calls Try.prog 37 #[.slice A l.length c] W fun e w' => e = .returned (.int .i64 n) ∧ Below W.heap.size W w'))
    (HX : Hid (∀ W : World, BReads W W.heap.size A l → Calls Try.prog 38 #[.slice A l.length c] W fun e w' => e = .returned (.string (S tl)) ∧ Below W.heap.size W w'))
    (HRV : Hid (∀ W : World, BReads W W.heap.size A l → Calls Try.prog 39 #[.slice A l.length c] W fun e w' => e = .returned (.string (S rv)) ∧ Below W.heap.size W w'))
    (hl1 : s.length + tl.length ≤ 100) (hl2 : t.length + tl.length ≤ 100) (hrv : rv.length ≤ 1001)
    (H1 : Hid (∀ W : World, Calls Try.prog 18 #[.int .i64 n] W fun e w' => e = .returned (.string (S s)) ∧ Below W.heap.size W w'))
    (H2 : Hid (∀ W : World, Calls Try.prog 34 #[.string (S (s ++ tl))] W fun e w' => e = .returned (.tuple #[.int .i64 x, .int .i64 k]) ∧ Below W.heap.size W w'))
    (H3 : Hid (∀ W : World, Calls Try.prog 20 #[.int .i64 n, .int .i64 7] W fun e w' => e = .returned (.string (S t)) ∧ Below W.heap.size W w'))
    (H4 : Hid (∀ W : World, Calls Try.prog 16 #[.string (S (t ++ tl)), .int .i64 7] W fun e w' => e = .returned (.tuple #[.int .i64 y, .bool isf]) ∧ W = w'))
    (H5 : Hid (∀ W : World, Calls Try.prog 30 #[.int .i64 n] W fun e w' => e = .returned (.string (S dd)) ∧ Below W.heap.size W w'))
    (H6 : Hid (∀ W : World, Calls Try.prog 36 #[.string (S dd)] W fun e w' => e = .returned (.tuple #[.int .i64 d, .bool fine]) ∧ Below W.heap.size W w'))
    (H7 : Hid (∀ W : World, Calls Try.prog 14 #[.string (S tl)] W fun e w' => e = .returned (.string (S hh)) ∧ Below W.heap.size W w'))
    (H8 : Hid (∀ W : World, Calls Try.prog 32 #[.string (S hh)] W fun e w' => e = .returned (.tuple #[.string (S tl), .bool true]) ∧ Below W.heap.size W w'))
    (H9 : Hid (∀ W : World, Calls Try.prog 34 #[.string (S rv)] W fun e w' => e = .returned (.tuple #[.int .i64 (zz : Int), .int .i64 (j : Int)]) ∧ Below W.heap.size W w'))
    (HA : Hid (∀ W : World, Calls Try.prog 18 #[.int .i64 (zz : Int)] W fun e w' => e = .returned (.string (S vz)) ∧ Below W.heap.size W w'))
    (hR0 : Hid (∀ W : World, Below w.heap.size w W → BReads W W.heap.size A l))
    (hz : ((j : Int) = 0 ∧ True) ∨ (¬ (j : Int) = 0 ∧ 0 < (j : Int) ∧ (j : Int) ≤ rv.length ∧ (S rv).extract 0 j = S vz))
    (q1 : s.isEmpty = true) (q1n : 562949953421311 < n) (q2 : t.isEmpty = true) (q2m : 72057594037927936 ≤ n) (h0 : fine = false) :
    Calls Try.prog 12 #[.slice A l.length c] w fun e w' => e = .returned (.bool true) ∧ Below w.heap.size w w' := by
  subst h0
  go_enter Try.func12, Try.ntmps12
  go_wp2_with fail
  refine (big_any _ _ _ _ hl).mono ?_
  rintro e w1 ⟨rfl, rfl⟩
  rw [hbig]
  go_wp2_with fail
  refine (HV.out _ (hR0.out _ hb0)).mono ?_
  rintro e w1 ⟨rfl, b1⟩
  have hb := Below.next hb0 b1
  go_wp2_with fail
  refine (HX.out _ (hR0.out _ hb)).mono ?_
  rintro e w2 ⟨rfl, b2⟩
  have hb := Below.next hb b2
  go_wp2_with fail
  refine (H1.out _).mono ?_
  rintro e w3 ⟨rfl, b3⟩
  have hb := Below.next hb b3
  go_wp2_with fail
  refine (H2.out _).mono ?_
  rintro e w4 ⟨rfl, b4⟩
  have hb := Below.next hb b4
  go_wp2_with fail
  refine (H3.out _).mono ?_
  rintro e w5 ⟨rfl, b5⟩
  have hb := Below.next hb b5
  go_wp2_with fail
  refine (H4.out _).mono ?_
  rintro e w6 ⟨rfl, rfl⟩
  go_wp2_with fail
  refine (H5.out _).mono ?_
  rintro e w7 ⟨rfl, b7⟩
  have hb := Below.next hb b7
  go_wp2_with fail
  refine (H6.out _).mono ?_
  rintro e w8 ⟨rfl, b8⟩
  have hb := Below.next hb b8
  go_wp2_with fail
  refine (H7.out _).mono ?_
  rintro e w9 ⟨rfl, b9⟩
  have hb := Below.next hb b9
  go_wp2_with fail
  refine (H8.out _).mono ?_
  rintro e w10 ⟨rfl, b10⟩
  have hb := Below.next hb b10
  go_wp2_with fail
  refine (HRV.out _ (hR0.out _ hb)).mono ?_
  rintro e w11 ⟨rfl, b11⟩
  have hb := Below.next hb b11
  go_wp2_with fail
  refine (H9.out _).mono ?_
  rintro e w12 ⟨rfl, b12⟩
  have hb := Below.next hb b12
  rcases hz with ⟨hz, _⟩ | ⟨hz, hz1, hz2, hz3⟩
  · go_wp2
    go_ret
    exact ⟨rfl, hb⟩
  · go_wp2_with fail
    refine (HRV.out _ (hR0.out _ hb)).mono ?_
    rintro e w13 ⟨rfl, b13⟩
    have hb := Below.next hb b13
    go_wp2_with fail
    refine (HA.out _).mono ?_
    rintro e w14 ⟨rfl, b14⟩
    have hb := Below.next hb b14
    go_wp2_with fail
    refine (HRV.out _ (hR0.out _ hb)).mono ?_
    rintro e w15 ⟨rfl, b15⟩
    have hb := Below.next hb b15
    go_wp2
    go_ret
    exact ⟨rfl, hb⟩

set_option maxHeartbeats 4000000 in
theorem walk_c3 (A : Option Addr) (c : Nat) (l : List UInt8) (w : World) (n : Int) (s t dd tl rv vz hh : List UInt8) (x k y d : Int) (isf fine : Bool) (zz j : Nat)
    (hl : l.length ≤ 9223372036854775807) (hbig : decide (1048576 < l.length) = false) (hb0 : Below w.heap.size w w) (hn1 : -9223372036854775808 ≤ n) (hn2 : n ≤ 9223372036854775807)
    (HV : Hid (∀ W : World, BReads W W.heap.size A l → Calls Try.prog 37 #[.slice A l.length c] W fun e w' => e = .returned (.int .i64 n) ∧ Below W.heap.size W w'))
    (HX : Hid (∀ W : World, BReads W W.heap.size A l → Calls Try.prog 38 #[.slice A l.length c] W fun e w' => e = .returned (.string (S tl)) ∧ Below W.heap.size W w'))
    (HRV : Hid (∀ W : World, BReads W W.heap.size A l → Calls Try.prog 39 #[.slice A l.length c] W fun e w' => e = .returned (.string (S rv)) ∧ Below W.heap.size W w'))
    (hl1 : s.length + tl.length ≤ 100) (hl2 : t.length + tl.length ≤ 100) (hrv : rv.length ≤ 1001)
    (H1 : Hid (∀ W : World, Calls Try.prog 18 #[.int .i64 n] W fun e w' => e = .returned (.string (S s)) ∧ Below W.heap.size W w'))
    (H2 : Hid (∀ W : World, Calls Try.prog 34 #[.string (S (s ++ tl))] W fun e w' => e = .returned (.tuple #[.int .i64 x, .int .i64 k]) ∧ Below W.heap.size W w'))
    (H3 : Hid (∀ W : World, Calls Try.prog 20 #[.int .i64 n, .int .i64 7] W fun e w' => e = .returned (.string (S t)) ∧ Below W.heap.size W w'))
    (H4 : Hid (∀ W : World, Calls Try.prog 16 #[.string (S (t ++ tl)), .int .i64 7] W fun e w' => e = .returned (.tuple #[.int .i64 y, .bool isf]) ∧ W = w'))
    (H5 : Hid (∀ W : World, Calls Try.prog 30 #[.int .i64 n] W fun e w' => e = .returned (.string (S dd)) ∧ Below W.heap.size W w'))
    (H6 : Hid (∀ W : World, Calls Try.prog 36 #[.string (S dd)] W fun e w' => e = .returned (.tuple #[.int .i64 d, .bool fine]) ∧ Below W.heap.size W w'))
    (H7 : Hid (∀ W : World, Calls Try.prog 14 #[.string (S tl)] W fun e w' => e = .returned (.string (S hh)) ∧ Below W.heap.size W w'))
    (H8 : Hid (∀ W : World, Calls Try.prog 32 #[.string (S hh)] W fun e w' => e = .returned (.tuple #[.string (S tl), .bool true]) ∧ Below W.heap.size W w'))
    (H9 : Hid (∀ W : World, Calls Try.prog 34 #[.string (S rv)] W fun e w' => e = .returned (.tuple #[.int .i64 (zz : Int), .int .i64 (j : Int)]) ∧ Below W.heap.size W w'))
    (HA : Hid (∀ W : World, Calls Try.prog 18 #[.int .i64 (zz : Int)] W fun e w' => e = .returned (.string (S vz)) ∧ Below W.heap.size W w'))
    (hR0 : Hid (∀ W : World, Below w.heap.size w W → BReads W W.heap.size A l))
    (hz : ((j : Int) = 0 ∧ True) ∨ (¬ (j : Int) = 0 ∧ 0 < (j : Int) ∧ (j : Int) ≤ rv.length ∧ (S rv).extract 0 j = S vz))
    (q1 : s.isEmpty = true) (q1n : 562949953421311 < n) (q2 : t.isEmpty = false) (h2 : y = n) (h3 : isf = true) (q2l : t.length = 7) (q2m : n < 72057594037927936) (h0 : fine = false) :
    Calls Try.prog 12 #[.slice A l.length c] w fun e w' => e = .returned (.bool true) ∧ Below w.heap.size w w' := by
  subst h2
  subst h3
  subst h0
  go_enter Try.func12, Try.ntmps12
  go_wp2_with fail
  refine (big_any _ _ _ _ hl).mono ?_
  rintro e w1 ⟨rfl, rfl⟩
  rw [hbig]
  go_wp2_with fail
  refine (HV.out _ (hR0.out _ hb0)).mono ?_
  rintro e w1 ⟨rfl, b1⟩
  have hb := Below.next hb0 b1
  go_wp2_with fail
  refine (HX.out _ (hR0.out _ hb)).mono ?_
  rintro e w2 ⟨rfl, b2⟩
  have hb := Below.next hb b2
  go_wp2_with fail
  refine (H1.out _).mono ?_
  rintro e w3 ⟨rfl, b3⟩
  have hb := Below.next hb b3
  go_wp2_with fail
  refine (H2.out _).mono ?_
  rintro e w4 ⟨rfl, b4⟩
  have hb := Below.next hb b4
  go_wp2_with fail
  refine (H3.out _).mono ?_
  rintro e w5 ⟨rfl, b5⟩
  have hb := Below.next hb b5
  go_wp2_with fail
  refine (H4.out _).mono ?_
  rintro e w6 ⟨rfl, rfl⟩
  go_wp2_with fail
  refine (H5.out _).mono ?_
  rintro e w7 ⟨rfl, b7⟩
  have hb := Below.next hb b7
  go_wp2_with fail
  refine (H6.out _).mono ?_
  rintro e w8 ⟨rfl, b8⟩
  have hb := Below.next hb b8
  go_wp2_with fail
  refine (H7.out _).mono ?_
  rintro e w9 ⟨rfl, b9⟩
  have hb := Below.next hb b9
  go_wp2_with fail
  refine (H8.out _).mono ?_
  rintro e w10 ⟨rfl, b10⟩
  have hb := Below.next hb b10
  go_wp2_with fail
  refine (HRV.out _ (hR0.out _ hb)).mono ?_
  rintro e w11 ⟨rfl, b11⟩
  have hb := Below.next hb b11
  go_wp2_with fail
  refine (H9.out _).mono ?_
  rintro e w12 ⟨rfl, b12⟩
  have hb := Below.next hb b12
  rcases hz with ⟨hz, _⟩ | ⟨hz, hz1, hz2, hz3⟩
  · go_wp2
    go_ret
    exact ⟨rfl, hb⟩
  · go_wp2_with fail
    refine (HRV.out _ (hR0.out _ hb)).mono ?_
    rintro e w13 ⟨rfl, b13⟩
    have hb := Below.next hb b13
    go_wp2_with fail
    refine (HA.out _).mono ?_
    rintro e w14 ⟨rfl, b14⟩
    have hb := Below.next hb b14
    go_wp2_with fail
    refine (HRV.out _ (hR0.out _ hb)).mono ?_
    rintro e w15 ⟨rfl, b15⟩
    have hb := Below.next hb b15
    go_wp2
    go_ret
    exact ⟨rfl, hb⟩

set_option maxHeartbeats 4000000 in
theorem walk_c4 (A : Option Addr) (c : Nat) (l : List UInt8) (w : World) (n : Int) (s t dd tl rv vz hh : List UInt8) (x k y d : Int) (isf fine : Bool) (zz j : Nat)
    (hl : l.length ≤ 9223372036854775807) (hbig : decide (1048576 < l.length) = false) (hb0 : Below w.heap.size w w) (hn1 : -9223372036854775808 ≤ n) (hn2 : n ≤ 9223372036854775807)
    (HV : Hid (∀ W : World, BReads W W.heap.size A l → Calls Try.prog 37 #[.slice A l.length c] W fun e w' => e = .returned (.int .i64 n) ∧ Below W.heap.size W w'))
    (HX : Hid (∀ W : World, BReads W W.heap.size A l → Calls Try.prog 38 #[.slice A l.length c] W fun e w' => e = .returned (.string (S tl)) ∧ Below W.heap.size W w'))
    (HRV : Hid (∀ W : World, BReads W W.heap.size A l → Calls Try.prog 39 #[.slice A l.length c] W fun e w' => e = .returned (.string (S rv)) ∧ Below W.heap.size W w'))
    (hl1 : s.length + tl.length ≤ 100) (hl2 : t.length + tl.length ≤ 100) (hrv : rv.length ≤ 1001)
    (H1 : Hid (∀ W : World, Calls Try.prog 18 #[.int .i64 n] W fun e w' => e = .returned (.string (S s)) ∧ Below W.heap.size W w'))
    (H2 : Hid (∀ W : World, Calls Try.prog 34 #[.string (S (s ++ tl))] W fun e w' => e = .returned (.tuple #[.int .i64 x, .int .i64 k]) ∧ Below W.heap.size W w'))
    (H3 : Hid (∀ W : World, Calls Try.prog 20 #[.int .i64 n, .int .i64 7] W fun e w' => e = .returned (.string (S t)) ∧ Below W.heap.size W w'))
    (H4 : Hid (∀ W : World, Calls Try.prog 16 #[.string (S (t ++ tl)), .int .i64 7] W fun e w' => e = .returned (.tuple #[.int .i64 y, .bool isf]) ∧ W = w'))
    (H5 : Hid (∀ W : World, Calls Try.prog 30 #[.int .i64 n] W fun e w' => e = .returned (.string (S dd)) ∧ Below W.heap.size W w'))
    (H6 : Hid (∀ W : World, Calls Try.prog 36 #[.string (S dd)] W fun e w' => e = .returned (.tuple #[.int .i64 d, .bool fine]) ∧ Below W.heap.size W w'))
    (H7 : Hid (∀ W : World, Calls Try.prog 14 #[.string (S tl)] W fun e w' => e = .returned (.string (S hh)) ∧ Below W.heap.size W w'))
    (H8 : Hid (∀ W : World, Calls Try.prog 32 #[.string (S hh)] W fun e w' => e = .returned (.tuple #[.string (S tl), .bool true]) ∧ Below W.heap.size W w'))
    (H9 : Hid (∀ W : World, Calls Try.prog 34 #[.string (S rv)] W fun e w' => e = .returned (.tuple #[.int .i64 (zz : Int), .int .i64 (j : Int)]) ∧ Below W.heap.size W w'))
    (HA : Hid (∀ W : World, Calls Try.prog 18 #[.int .i64 (zz : Int)] W fun e w' => e = .returned (.string (S vz)) ∧ Below W.heap.size W w'))
    (hR0 : Hid (∀ W : World, Below w.heap.size w W → BReads W W.heap.size A l))
    (hz : ((j : Int) = 0 ∧ True) ∨ (¬ (j : Int) = 0 ∧ 0 < (j : Int) ∧ (j : Int) ≤ rv.length ∧ (S rv).extract 0 j = S vz))
    (q1 : s.isEmpty = false) (h4 : x = n) (h5 : k = (s.length : Int)) (q1n : 0 ≤ n) (q2 : t.isEmpty = false) (h2 : y = n) (h3 : isf = true) (q2l : t.length = 7) (h0 : fine = true) (h1 : d = n) (q3m : n < 1000000000) :
    Calls Try.prog 12 #[.slice A l.length c] w fun e w' => e = .returned (.bool true) ∧ Below w.heap.size w w' := by
  subst h4
  subst h5
  subst h2
  subst h3
  subst h0
  subst h1
  go_enter Try.func12, Try.ntmps12
  go_wp2_with fail
  refine (big_any _ _ _ _ hl).mono ?_
  rintro e w1 ⟨rfl, rfl⟩
  rw [hbig]
  go_wp2_with fail
  refine (HV.out _ (hR0.out _ hb0)).mono ?_
  rintro e w1 ⟨rfl, b1⟩
  have hb := Below.next hb0 b1
  go_wp2_with fail
  refine (HX.out _ (hR0.out _ hb)).mono ?_
  rintro e w2 ⟨rfl, b2⟩
  have hb := Below.next hb b2
  go_wp2_with fail
  refine (H1.out _).mono ?_
  rintro e w3 ⟨rfl, b3⟩
  have hb := Below.next hb b3
  go_wp2_with fail
  refine (H2.out _).mono ?_
  rintro e w4 ⟨rfl, b4⟩
  have hb := Below.next hb b4
  go_wp2_with fail
  refine (H3.out _).mono ?_
  rintro e w5 ⟨rfl, b5⟩
  have hb := Below.next hb b5
  go_wp2_with fail
  refine (H4.out _).mono ?_
  rintro e w6 ⟨rfl, rfl⟩
  go_wp2_with fail
  refine (H5.out _).mono ?_
  rintro e w7 ⟨rfl, b7⟩
  have hb := Below.next hb b7
  go_wp2_with fail
  refine (H6.out _).mono ?_
  rintro e w8 ⟨rfl, b8⟩
  have hb := Below.next hb b8
  go_wp2_with fail
  refine (H7.out _).mono ?_
  rintro e w9 ⟨rfl, b9⟩
  have hb := Below.next hb b9
  go_wp2_with fail
  refine (H8.out _).mono ?_
  rintro e w10 ⟨rfl, b10⟩
  have hb := Below.next hb b10
  go_wp2_with fail
  refine (HRV.out _ (hR0.out _ hb)).mono ?_
  rintro e w11 ⟨rfl, b11⟩
  have hb := Below.next hb b11
  go_wp2_with fail
  refine (H9.out _).mono ?_
  rintro e w12 ⟨rfl, b12⟩
  have hb := Below.next hb b12
  rcases hz with ⟨hz, _⟩ | ⟨hz, hz1, hz2, hz3⟩
  · go_wp2
    go_ret
    exact ⟨rfl, hb⟩
  · go_wp2_with fail
    refine (HRV.out _ (hR0.out _ hb)).mono ?_
    rintro e w13 ⟨rfl, b13⟩
    have hb := Below.next hb b13
    go_wp2_with fail
    refine (HA.out _).mono ?_
    rintro e w14 ⟨rfl, b14⟩
    have hb := Below.next hb b14
    go_wp2_with fail
    refine (HRV.out _ (hR0.out _ hb)).mono ?_
    rintro e w15 ⟨rfl, b15⟩
    have hb := Below.next hb b15
    go_wp2
    go_ret
    exact ⟨rfl, hb⟩

set_option maxHeartbeats 4000000 in
theorem walk_c5 (A : Option Addr) (c : Nat) (l : List UInt8) (w : World) (n : Int) (s t dd tl rv vz hh : List UInt8) (x k y d : Int) (isf fine : Bool) (zz j : Nat)
    (hl : l.length ≤ 9223372036854775807) (hbig : decide (1048576 < l.length) = false) (hb0 : Below w.heap.size w w) (hn1 : -9223372036854775808 ≤ n) (hn2 : n ≤ 9223372036854775807)
    (HV : Hid (∀ W : World, BReads W W.heap.size A l → Calls Try.prog 37 #[.slice A l.length c] W fun e w' => e = .returned (.int .i64 n) ∧ Below W.heap.size W w'))
    (HX : Hid (∀ W : World, BReads W W.heap.size A l → Calls Try.prog 38 #[.slice A l.length c] W fun e w' => e = .returned (.string (S tl)) ∧ Below W.heap.size W w'))
    (HRV : Hid (∀ W : World, BReads W W.heap.size A l → Calls Try.prog 39 #[.slice A l.length c] W fun e w' => e = .returned (.string (S rv)) ∧ Below W.heap.size W w'))
    (hl1 : s.length + tl.length ≤ 100) (hl2 : t.length + tl.length ≤ 100) (hrv : rv.length ≤ 1001)
    (H1 : Hid (∀ W : World, Calls Try.prog 18 #[.int .i64 n] W fun e w' => e = .returned (.string (S s)) ∧ Below W.heap.size W w'))
    (H2 : Hid (∀ W : World, Calls Try.prog 34 #[.string (S (s ++ tl))] W fun e w' => e = .returned (.tuple #[.int .i64 x, .int .i64 k]) ∧ Below W.heap.size W w'))
    (H3 : Hid (∀ W : World, Calls Try.prog 20 #[.int .i64 n, .int .i64 7] W fun e w' => e = .returned (.string (S t)) ∧ Below W.heap.size W w'))
    (H4 : Hid (∀ W : World, Calls Try.prog 16 #[.string (S (t ++ tl)), .int .i64 7] W fun e w' => e = .returned (.tuple #[.int .i64 y, .bool isf]) ∧ W = w'))
    (H5 : Hid (∀ W : World, Calls Try.prog 30 #[.int .i64 n] W fun e w' => e = .returned (.string (S dd)) ∧ Below W.heap.size W w'))
    (H6 : Hid (∀ W : World, Calls Try.prog 36 #[.string (S dd)] W fun e w' => e = .returned (.tuple #[.int .i64 d, .bool fine]) ∧ Below W.heap.size W w'))
    (H7 : Hid (∀ W : World, Calls Try.prog 14 #[.string (S tl)] W fun e w' => e = .returned (.string (S hh)) ∧ Below W.heap.size W w'))
    (H8 : Hid (∀ W : World, Calls Try.prog 32 #[.string (S hh)] W fun e w' => e = .returned (.tuple #[.string (S tl), .bool true]) ∧ Below W.heap.size W w'))
    (H9 : Hid (∀ W : World, Calls Try.prog 34 #[.string (S rv)] W fun e w' => e = .returned (.tuple #[.int .i64 (zz : Int), .int .i64 (j : Int)]) ∧ Below W.heap.size W w'))
    (HA : Hid (∀ W : World, Calls Try.prog 18 #[.int .i64 (zz : Int)] W fun e w' => e = .returned (.string (S vz)) ∧ Below W.heap.size W w'))
    (hR0 : Hid (∀ W : World, Below w.heap.size w W → BReads W W.heap.size A l))
    (hz : ((j : Int) = 0 ∧ True) ∨ (¬ (j : Int) = 0 ∧ 0 < (j : Int) ∧ (j : Int) ≤ rv.length ∧ (S rv).extract 0 j = S vz))
    (q1 : s.isEmpty = false) (h4 : x = n) (h5 : k = (s.length : Int)) (q1n : 0 ≤ n) (q1m : n ≤ 562949953421311) (q2 : t.isEmpty = false) (h2 : y = n) (h3 : isf = true) (q2l : t.length = 7) (h0 : fine = false) (q3m : 1000000000 ≤ n) :
    Calls Try.prog 12 #[.slice A l.length c] w fun e w' => e = .returned (.bool true) ∧ Below w.heap.size w w' := by
  subst h4
  subst h5
  subst h2
  subst h3
  subst h0
  go_enter Try.func12, Try.ntmps12
  go_wp2_with fail
  refine (big_any _ _ _ _ hl).mono ?_
  rintro e w1 ⟨rfl, rfl⟩
  rw [hbig]
  go_wp2_with fail
  refine (HV.out _ (hR0.out _ hb0)).mono ?_
  rintro e w1 ⟨rfl, b1⟩
  have hb := Below.next hb0 b1
  go_wp2_with fail
  refine (HX.out _ (hR0.out _ hb)).mono ?_
  rintro e w2 ⟨rfl, b2⟩
  have hb := Below.next hb b2
  go_wp2_with fail
  refine (H1.out _).mono ?_
  rintro e w3 ⟨rfl, b3⟩
  have hb := Below.next hb b3
  go_wp2_with fail
  refine (H2.out _).mono ?_
  rintro e w4 ⟨rfl, b4⟩
  have hb := Below.next hb b4
  go_wp2_with fail
  refine (H3.out _).mono ?_
  rintro e w5 ⟨rfl, b5⟩
  have hb := Below.next hb b5
  go_wp2_with fail
  refine (H4.out _).mono ?_
  rintro e w6 ⟨rfl, rfl⟩
  go_wp2_with fail
  refine (H5.out _).mono ?_
  rintro e w7 ⟨rfl, b7⟩
  have hb := Below.next hb b7
  go_wp2_with fail
  refine (H6.out _).mono ?_
  rintro e w8 ⟨rfl, b8⟩
  have hb := Below.next hb b8
  go_wp2_with fail
  refine (H7.out _).mono ?_
  rintro e w9 ⟨rfl, b9⟩
  have hb := Below.next hb b9
  go_wp2_with fail
  refine (H8.out _).mono ?_
  rintro e w10 ⟨rfl, b10⟩
  have hb := Below.next hb b10
  go_wp2_with fail
  refine (HRV.out _ (hR0.out _ hb)).mono ?_
  rintro e w11 ⟨rfl, b11⟩
  have hb := Below.next hb b11
  go_wp2_with fail
  refine (H9.out _).mono ?_
  rintro e w12 ⟨rfl, b12⟩
  have hb := Below.next hb b12
  rcases hz with ⟨hz, _⟩ | ⟨hz, hz1, hz2, hz3⟩
  · go_wp2
    go_ret
    exact ⟨rfl, hb⟩
  · go_wp2_with fail
    refine (HRV.out _ (hR0.out _ hb)).mono ?_
    rintro e w13 ⟨rfl, b13⟩
    have hb := Below.next hb b13
    go_wp2_with fail
    refine (HA.out _).mono ?_
    rintro e w14 ⟨rfl, b14⟩
    have hb := Below.next hb b14
    go_wp2_with fail
    refine (HRV.out _ (hR0.out _ hb)).mono ?_
    rintro e w15 ⟨rfl, b15⟩
    have hb := Below.next hb b15
    go_wp2
    go_ret
    exact ⟨rfl, hb⟩

set_option maxHeartbeats 4000000 in
theorem walk (A : Option Addr) (c : Nat) (l : List UInt8) (w : World) (hl : l.length ≤ 9223372036854775807) (hR : BReads w w.heap.size A l) :
    Calls Try.prog 12 #[.slice A l.length c] w fun e w' => e = .returned (.bool true) ∧ Below w.heap.size w w' := by
  have hb := Below.refl w.heap.size w
  by_cases h : l.length ≤ 1048576
  · have hbig : decide (1048576 < l.length) = false := by simp; omega
    obtain ⟨n, hn1, hn2, HV⟩ := drawVar_ex ⟨A, c, l⟩ h
    obtain ⟨tl, htl, HX⟩ := drawHex_ex ⟨A, c, l⟩ h
    obtain ⟨rv, hrv, HRV⟩ := drawReadVar_ex ⟨A, c, l⟩ h
    have HV := Lib.hid HV
    have HX := Lib.hid HX
    have HRV := Lib.hid HRV
    have hsz := varS_size n
    have hfz := fixed7_size n
    have hok := num_ok n tl hn2 hn1
    have hl1 : (varS n).length + tl.length ≤ 100 := by omega
    have hl2 : (fixedS n 7).length + tl.length ≤ 100 := by omega
    have H1 := Lib.hid fun W : World => iVar_any n W
    have H2 := Lib.hid fun W : World => iReadVar_any (varS n ++ tl) W (by rw [List.length_append]; omega)
    have H3 := Lib.hid fun W : World => iFixed_any n 7 W hn2
    have H4 := Lib.hid fun W : World => iReadFixed_any (fixedS n 7 ++ tl) 7 W (by rw [List.length_append]; omega)
    have H5 := Lib.hid fun W : World => iDec_any n W hn2 hn1
    have H6 := Lib.hid fun W : World => iReadDec_any (decS n) W (by have := decS_len n; omega)
    have H7 := Lib.hid fun W : World => iHex_any tl W (by omega)
    have H8 := Lib.hid fun W : World => iUnhex_any (hexL tl) W (by rw [hexL_len]; omega)
    rw [unhex_hex] at H8
    have H9 := Lib.hid fun W : World => iReadVar_any rv W (by omega)
    have hback := readVar_back rv
    have HA := Lib.hid fun W : World => iVar_any ((readVarS rv).1 : Int) W
    have hR0 := Lib.hid fun (W : World) (h2 : Below w.heap.size w W) => (hR.below h2 (Nat.le_refl _)).more h2.size
    have hdn : nb (readFixedS (fixedS n 7 ++ tl) 7) = .tuple #[.int .i64 ((readFixedS (fixedS n 7 ++ tl) 7).1 : Int), .bool (readFixedS (fixedS n 7 ++ tl) 7).2] := rfl
    rw [hdn] at H4
    clear hsz hfz hdn hR
    generalize ((readVarS (varS n ++ tl)).1 : Int) = x at *
    generalize ((readVarS (varS n ++ tl)).2 : Int) = k at *
    generalize ((readFixedS (fixedS n 7 ++ tl) 7).1 : Int) = y at *
    generalize (readFixedS (fixedS n 7 ++ tl) 7).2 = isf at *
    generalize (readDecS (decS n)).1 = d at *
    generalize (readDecS (decS n)).2 = fine at *
    generalize varS n = s at *
    generalize fixedS n 7 = t at *
    generalize decS n = dd at *
    generalize hexL tl = hh at *
    generalize readVarS rv = P at *
    obtain ⟨zz, j⟩ := P
    simp only at H9 HA hback
    have hz : ((j : Int) = 0 ∧ True) ∨ (¬ (j : Int) = 0 ∧ 0 < (j : Int) ∧ (j : Int) ≤ rv.length ∧ (S rv).extract 0 j = S (varS (zz : Int))) := by
      rcases hback with h | ⟨h1, h2, h3⟩
      · left; exact ⟨by omega, trivial⟩
      · right; exact ⟨by omega, by omega, by omega, by rw [S_cut, h3]; simp⟩
    generalize varS (zz : Int) = vz at *
    clear hback
    obtain ⟨q1, q2, q3⟩ := hok
    have hb0 := Below.refl w.heap.size w
    rcases q1 with ⟨q1, q1l, q1n | q1n⟩ | ⟨q1, rfl, rfl, q1n, q1m⟩ <;> rcases q2 with ⟨q2, q2l, q2n | q2n⟩ | ⟨q2, rfl, rfl, q2l, q2n, q2m⟩ <;> rcases q3 with ⟨rfl, rfl, q3n, q3m⟩ | ⟨rfl, q3n | q3n⟩
    any_goals (exfalso; omega)
    · exact walk_c0 A c l w _ _ _ _ _ _ _ _ _ _ _ _ _ _ _ _ hl hbig hb0 hn1 hn2 HV HX HRV hl1 hl2 hrv H1 H2 H3 H4 H5 H6 H7 H8 H9 HA hR0 hz q1 (by omega) q2 rfl rfl (by omega)
    · exact walk_c1 A c l w _ _ _ _ _ _ _ _ _ _ _ _ _ _ _ _ hl hbig hb0 hn1 hn2 HV HX HRV hl1 hl2 hrv H1 H2 H3 H4 H5 H6 H7 H8 H9 HA hR0 hz q1 (by omega) q2 rfl (by omega)
    · exact walk_c2 A c l w _ _ _ _ _ _ _ _ _ _ _ _ _ _ _ _ hl hbig hb0 hn1 hn2 HV HX HRV hl1 hl2 hrv H1 H2 H3 H4 H5 H6 H7 H8 H9 HA hR0 hz q1 (by omega) q2 (by omega) rfl
    · exact walk_c3 A c l w _ _ _ _ _ _ _ _ _ _ _ _ _ _ _ _ hl hbig hb0 hn1 hn2 HV HX HRV hl1 hl2 hrv H1 H2 H3 H4 H5 H6 H7 H8 H9 HA hR0 hz q1 (by omega) q2 rfl rfl q2l (by omega) rfl
    · exact walk_c4 A c l w _ _ _ _ _ _ _ _ _ _ _ _ _ _ _ _ hl hbig hb0 hn1 hn2 HV HX HRV hl1 hl2 hrv H1 H2 H3 H4 H5 H6 H7 H8 H9 HA hR0 hz q1 rfl rfl (by omega) q2 rfl rfl q2l rfl rfl (by omega)
    · exact walk_c5 A c l w _ _ _ _ _ _ _ _ _ _ _ _ _ _ _ _ hl hbig hb0 hn1 hn2 HV HX HRV hl1 hl2 hrv H1 H2 H3 H4 H5 H6 H7 H8 H9 HA hR0 hz q1 rfl rfl (by omega) (by omega) q2 rfl rfl q2l rfl (by omega)
  · have hbig : decide (1048576 < l.length) = true := by simp; omega
    go_enter Try.func12, Try.ntmps12
    go_wp2_with fail
    refine (big_any _ _ _ _ hl).mono ?_
    rintro e w1 ⟨rfl, rfl⟩
    rw [hbig]
    go_wp2
    go_ret
    exact ⟨rfl, hb⟩
end Go.Proofs.Ytgabmlpbedbdlaa.fnNumbers
