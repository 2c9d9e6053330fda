/-
  Texts of this proof, laid into one: But0, Rec1, Srt, Str0.
-/
import Derived.Test.YtecimgkgdpnaeaaDoorGFnExactCommitOk1
import Derived.Test.YtecimgkgdpnaeaaDoorGFnExactCommitOk2
import Derived.Shelf.Sort.Plain
import Derived.Shelf.Slices.CompactI
import Derived.Shelf.Slices.In.SortNone
import Derived.Sort.OwnSortedInts
import Derived.Lib.OwnBridge
import Derived.Test.YtecimgkgdpnaeaaDoorGFnExactCommitOk0
import Derived.Deep.AppendLies
/-
  Worlds in which one block alone has turned. No program in sight.
-/
namespace Go.Proofs.YtecimgkgdpnaeaaDoor
open Go.ChangeShapes Go.WideShapes Go.ChangeAt Go.RowKit
set_option linter.unusedVariables false

theorem S_cut (l : List UInt8) (a b : Nat) : (S l).extract a b = S ((l.drop a).take (b - a)) := by
  unfold S
  simp [ByteArray.extract_mk]
/-- But for block B all is as it was. -/
def But (B : Nat) (w w' : World) : Prop := w.grownBy w' (some B)
theorem But.below {B k : Nat} {w w' : World} (h : But B w w') (hk : k ≤ B) (hs : k ≤ w.heap.size) : Below k w w' := ⟨h.os, h.tape, h.output, h.size, fun i hi => h.block i (by omega) (by intro e; cases e; omega)⟩
theorem But.of_below {B : Nat} {w w' : World} (h : Below w.heap.size w w') : But B w w' := ⟨h.os, h.tape, h.output, h.size, fun k hk _ => h.block k hk⟩
theorem But.trans {B : Nat} {a b c : World} (h : But B a b) (k : But B b c) : But B a c :=
  ⟨k.os.trans h.os, k.tape.trans h.tape, k.output.trans h.output, Nat.le_trans h.size k.size, fun i hi hn => (k.block i (Nat.lt_of_lt_of_le hi h.size) hn).trans (h.block i hi hn)⟩
theorem But.refl (B : Nat) (w : World) : But B w w := ⟨rfl, rfl, rfl, Nat.le_refl _, fun _ _ _ => rfl⟩
theorem But.set {B : Nat} {a w : World} (h : But B a w) (i : Nat) (u : Value) : But B a (w.setCell ⟨B, i, none⟩ u) :=
  h.trans ⟨rfl, rfl, rfl, by simp [World.setCell], fun k hk hn => Below.heap_setCell _ _ _ _ (by intro e; subst e; exact hn rfl)⟩
theorem But.drew {B : Nat} {a w : World} (h : But B a w) : But B a w.drew := ⟨h.os, h.tape, h.output, h.size, h.block⟩
theorem But.alloc {B : Nat} {a w : World} (h : But B a w) (o : Obj) : But B a (w.alloc o) := h.trans (But.of_below (Below.alloc (Below.refl _ _) (Nat.le_refl _) o))
theorem But.next {B : Nat} {a w w' : World} (h : But B a w) (k : Below w.heap.size w w') : But B a w' := h.trans (But.of_below k)
theorem But.cell {B : Nat} {w w' : World} (h : But B w w') {b o : Nat} (hb : b < w.heap.size) (hn : b ≠ B) : w'.cell? ⟨b, o, none⟩ = w.cell? ⟨b, o, none⟩ := World.cell?_of_block (w := w) (h.block b hb (by intro e; cases e; exact hn rfl))
theorem But.frozen {B : Nat} {w w' : World} (h : But B w w') {b o : Nat} (hb : b < w.heap.size) (hn : b ≠ B) : w'.frozen? ⟨b, o, none⟩ = w.frozen? ⟨b, o, none⟩ := World.frozen?_of_block (w := w) (h.block b hb (by intro e; cases e; exact hn rfl))
theorem But.setFar {B : Nat} {a w : World} (h : But B a w) {g : Nat} (hg : a.heap.size ≤ g) (i : Nat) (u : Value) : But B a (w.setCell ⟨g, i, none⟩ u) :=
  ⟨h.os, h.tape, h.output, by simpa [World.setCell] using h.size, fun k hk hn => (Below.heap_setCell _ _ _ _ (by intro e; subst e; omega)).trans (h.block k hk hn)⟩
/-- Below a base nothing has changed. -/
theorem But.low {B : Nat} {a w w' : World} (h : But B a w) (k : Below a.heap.size w w') : But B a w' :=
  ⟨k.os.trans h.os, k.tape.trans h.tape, k.output.trans h.output, Nat.le_trans h.size k.size, fun i hi hn => (k.block i hi).trans (h.block i hi hn)⟩
/-- A row of the call's own, over a step that leaves all blocks but one alone. -/
theorem own_but {w w' : World} {base B : Nat} {e : TypeId} {size n : Nat} {v : Value} {xs : List Value} (h : w.ownsRow base e size v n xs) (hb : But B w w') (hB : B < base) : w'.ownsRow base e size v n xs :=
  own_gb h hb (fun q hq => by have := (h.lt q hq).1; intro e; cases e; omega)
theorem own_set {w : World} {base : Nat} {e : TypeId} {size n : Nat} {v : Value} {xs : List Value} (h : w.ownsRow base e size v n xs) {g : Nat} (hg : ∀ q, v.ownBlock = some q → q ≠ g) (i : Nat) (u : Value) : (w.setCell ⟨g, i, none⟩ u).ownsRow base e size v n xs :=
  own_gb h (gb_set g i u) (fun q hq => by intro e; cases e; exact hg _ hq rfl)
theorem own_base {w : World} {base base' : Nat} {e : TypeId} {size n : Nat} {v : Value} {xs : List Value} (h : w.ownsRow base e size v n xs) (hb : base' ≤ base) : w.ownsRow base' e size v n xs := by
  refine ⟨h.1, ?_⟩
  rcases h.2 with h1 | ⟨g, cap, cur, h1, h2, h3, h4⟩
  · exact .inl h1
  · exact .inr ⟨g, cap, cur, h1, by omega, h3, h4⟩
theorem own_nil (w : World) (base : Nat) (e : TypeId) (size : Nat) : w.ownsRow base e size (.slice none 0 0) 0 [] := by
  refine ⟨by simp, .inl ⟨rfl, rfl⟩⟩
theorem one_cell_ii (a b : Int) : ∀ u ∈ (#[Value.int .i64 a, Value.int .i64 b] : Array Value).toList, u.oneCell' = true := by
  intro u hu; simp at hu; rcases hu with rfl | rfl <;> rfl
theorem one_cell_is (a : Int) (b : ByteArray) : ∀ u ∈ (#[Value.int .i64 a, Value.string b] : Array Value).toList, u.oneCell' = true := by
  intro u hu; simp at hu; rcases hu with rfl | rfl <;> rfl
/-- append of a literal that has just been laid, onto a row of the call's own: below the base nothing changes. -/
theorem app_low {P : Program} {ops : Array Oper} {rest : List Oper} {o : Oper} {a : Act} {Q : Exit → Act → World → Prop} (hg : o.guard = none) (s x : Operand) (t : TypeId)
    (ho : o.op = .call { callee := .builtin .append, args := #[s, x], argTypes := #[t, t] })
    {w : World} {base : Nat} {e : TypeId} {i : TypeInfo} {z : Value} {size bytes : Nat} (ht : P.underlying t = some (.slice e)) (hi : P.info? e = some i) (hz : i.zero = some z)
    (hsize : i.size = size) (hby : i.bytes = bytes) (hzs : z.cells.size = size) (hsz : 0 < size)
    {v : Value} {n : Nat} {xs : List Value} (hs : a.eval s = v) (hown : w.ownsRow base e size v n xs) (hz0 : base ≤ w.heap.size) {g : Nat} (hgs : w.heap.size = g)
    {us : Array Value} {m c : Nat} (hx : a.eval x = .slice (some ⟨g, 0, none⟩) m c) (hm : us.size = m * size) (h1 : ∀ u ∈ us.toList, u.oneCell' = true)
    (h63 : n + m ≤ maxLen) (hbd : (n + m) * bytes ≤ 140737488355328)
    (h : ∀ v' w', w'.ownsRow base e size v' (n + m) (xs ++ us.toList) → Below base w w' → wpList P ops Q rest (a.put o.dst v') w') :
    wpList P ops Q (o :: rest) a (w.alloc (.cells us e)) := by
  subst hgs
  refine wpList_append_own _ hg s x t ho base e i z size bytes ht hi hz hsize hby hzs hsz v n xs hs (hown.alloc _) ⟨w.heap.size, 0, none⟩ m c us.toList hx (by simpa using hm) (fun j u hj => ?_) h1 h63 hbd (by simp; omega) (fun v' w' ho' hg' _ => h v' w' ho' ?_)
  · have e : (⟨w.heap.size, 0, none⟩ : Addr).add j = ⟨w.heap.size, j, none⟩ := by unfold Addr.add; split <;> simp_all
    rw [e, World.cell?_alloc_new]
    simpa using hj
  · exact ((Below.refl base w).alloc hz0 _).grown hg' (by simp; omega) (fun k hk => (hown.lt k hk).1)
end Go.Proofs.YtecimgkgdpnaeaaDoor

/-
  Votes and headers as plain data, and their tests.
-/
namespace Go.Proofs.YtecimgkgdpnaeaaDoor
open Go.RowKit

structure VoteT where
  h : Int
  r : Int
  s : Int
  id : List UInt8
  v : Int
def VoteT.val (x : VoteT) : Value := .agg #[.int .i64 x.h, .int .i64 x.r, .int .i64 x.s, .string (S x.id), .int .i64 x.v]
structure HeadT where
  h : Int
  t : Int
  last : List UInt8
  vals : List UInt8
  next : List UInt8
  data : List UInt8
def HeadT.val (x : HeadT) : Value := .agg #[.int .i64 x.h, .int .i64 x.t, .string (S x.last), .string (S x.vals), .string (S x.next), .string (S x.data)]
def VoteT.ok (x : VoteT) : Prop := -9223372036854775808 ≤ x.h ∧ x.h ≤ 9223372036854775807 ∧ -9223372036854775808 ≤ x.r ∧ x.r ≤ 9223372036854775807 ∧ -9223372036854775808 ≤ x.s ∧ x.s ≤ 9223372036854775807 ∧ x.id.length ≤ 9223372036854775807 ∧ -9223372036854775808 ≤ x.v ∧ x.v ≤ 9223372036854775807
def HeadT.ok (x : HeadT) : Prop := -9223372036854775808 ≤ x.h ∧ x.h ≤ 9223372036854775807 ∧ -9223372036854775808 ≤ x.t ∧ x.t ≤ 9223372036854775807 ∧ x.last.length ≤ 9223372036854775807 ∧ x.vals.length ≤ 9223372036854775807 ∧ x.next.length ≤ 9223372036854775807 ∧ x.data.length ≤ 9223372036854775807
def isIdB (id : List UInt8) : Bool := id.length == 8 || id.length == 0
def voteOkB (x : VoteT) : Bool := inB x.h 1 1000000 && inB x.r 0 1000 && inB x.s 1 2 && isIdB x.id && inB x.v 1 99
def headOkB (x : HeadT) : Bool := inB x.h 1 1000000 && inB x.t 0 1000000 && x.vals.length == 8 && x.next.length == 8 && (x.last.length == if x.h = 1 then 0 else 8) && decide (x.data.length ≤ 20)
end Go.Proofs.YtecimgkgdpnaeaaDoor

/-
  slices.Sort and slices.Compact of numbers, on a row of the call's own.
-/
namespace Go.Proofs.YtecimgkgdpnaeaaDoor
open Go.ChangeShapes Go.WideShapes Go.ChangeAt Go.RowKit Go.Sort Go.Shelf
set_option linter.unusedVariables false
set_option linter.unusedSimpArgs false
set_option maxRecDepth 100000

theorem sort_ints {base n c : Nat} {A : Option Addr} {zs : List Int} {w : World} (h : w.ownsRow base 3 1 (.slice A n c) n (zs.map iv)) (hn : n ≤ 1000000) (hb : base ≤ w.heap.size) :
    Calls Tryd.prog 69 #[.slice A n c] w fun e w' => e = .returned (.tuple #[]) ∧ w'.ownsRow base 3 1 (.slice A n c) n ((sortI zs).map iv) ∧ Below base w w' := by
  have hl : zs.length = n := by simpa using h.1
  rcases h.2 with ⟨e0, hx⟩ | ⟨g, cap, cur, hv, hbase, hg, h1, h2, h3, h4⟩
  · simp only [Value.slice.injEq] at e0
    obtain ⟨rfl, rfl, rfl⟩ := e0
    obtain rfl : zs = [] := List.eq_nil_of_length_eq_zero hl
    have hc := Any.slices_Sort_int_none laysSort none 0 w
    refine hc.mono ?_
    rintro e w' ⟨rfl, rfl⟩
    exact ⟨rfl, by simpa [sortI] using h, Below.refl _ _⟩
  · simp only [Value.slice.injEq] at hv
    obtain ⟨rfl, _, rfl⟩ := hv
    obtain ⟨g', cap', hv', _, hgl, _, _, _, hH⟩ := Lib.holds_of_ownsRow (enc := Value.int .i64) h (by simp)
    simp only [Value.slice.injEq, Option.some.injEq, Addr.mk.injEq] at hv'
    obtain ⟨⟨rfl, _⟩, _, rfl⟩ := hv'
    have hc := Any.slices_Sort_int laysSort g 0 c zs w hH hgl (by omega)
    rw [hl] at hc
    refine hc.mono ?_
    rintro e w' ⟨rfl, nn, os, rfl⟩
    subst hl
    refine ⟨rfl, ownsRow_sortedI (sortI_len zs) hbase hg h1 h2 h3, (Below.refl base w).grown (grownBy_sortedI _) hb (fun j hj => by cases hj; exact hbase)⟩
theorem compact_ints {base n c : Nat} {A : Option Addr} {zs : List Int} {w : World} (h : w.ownsRow base 3 1 (.slice A n c) n (zs.map iv)) (hn : n ≤ 1000000) (hb : base ≤ w.heap.size) :
    Calls Tryd.prog 70 #[.slice A n c] w fun e w' => e = .returned (.slice A (Lib.compact zs).length c) ∧ w'.ownsRow base 3 1 (.slice A (Lib.compact zs).length c) (Lib.compact zs).length ((Lib.compact zs).map iv) ∧ Below base w w' := by
  have hl : zs.length = n := by simpa using h.1
  have hle := Lib.compact_length_le zs
  rcases h.2 with ⟨e0, hx⟩ | ⟨g, cap, cur, hv, hbase, hg, h1, h2, h3, h4⟩
  · simp only [Value.slice.injEq] at e0
    obtain ⟨rfl, rfl, rfl⟩ := e0
    obtain rfl : zs = [] := List.eq_nil_of_length_eq_zero hl
    have hc := Any.slices_Compact_int_empty laysCompact none 0 w
    refine hc.mono ?_
    rintro e w' ⟨rfl, rfl⟩
    exact ⟨rfl, by simpa [Lib.compact, Lib.compactUpTo] using h, Below.refl _ _⟩
  · simp only [Value.slice.injEq] at hv
    obtain ⟨rfl, _, rfl⟩ := hv
    obtain ⟨g', cap', hv', _, hgl, _, _, _, hH⟩ := Lib.holds_of_ownsRow (enc := Value.int .i64) h (by simp)
    simp only [Value.slice.injEq, Option.some.injEq, Addr.mk.injEq] at hv'
    obtain ⟨⟨rfl, _⟩, _, rfl⟩ := hv'
    have hc := Any.slices_Compact_int laysCompact g 0 c zs w hH (by omega) (by omega)
    rw [hl] at hc
    refine hc.mono ?_
    rintro e w' ⟨rfl, q, rfl⟩
    have ho := Lib.ownsRow_putRow (enc := Value.int .i64) (q := q) (k := (Lib.compact zs).length) (ys := Lib.compact zs ++ List.replicate (n - (Lib.compact zs).length) 0) h (by simp; omega) (by omega)
    rw [List.take_left] at ho
    exact ⟨rfl, ho, Lib.below_putRow (Below.refl base w) hbase⟩
end Go.Proofs.YtecimgkgdpnaeaaDoor

/-
  Slices of texts in memory, as lists. No program in sight.
-/
namespace Go.Proofs.YtecimgkgdpnaeaaDoor
open Go.RowKit
set_option linter.unusedVariables false

def tv (x : List UInt8) : Value := .string (S x)
/-- A slice at A reads as these numbers, below block B. -/
def TReads (w : World) (B : Nat) (A : Option Addr) (l : List (List UInt8)) : Prop :=
  0 < l.length → ∃ b off, A = some ⟨b, off, none⟩ ∧ b < B ∧ ∀ (j : Nat) (h : j < l.length), w.cell? ⟨b, off + j, none⟩ = some (.string (S l[j]))
theorem TReads.below {w w' : World} {B B' : Nat} {A : Option Addr} {l : List (List UInt8)} (h : TReads w B A l) (hb : Below B' w w') (hB : B ≤ B') : TReads w' B A l := fun hl => by
  obtain ⟨b, off, rfl, hbB, hc⟩ := h hl
  exact ⟨b, off, rfl, hbB, fun j hj => (hb.cell (p := ⟨b, _, none⟩) (by show b < B'; omega)).trans (hc j hj)⟩
theorem TReads.more {w : World} {B B' : Nat} {A : Option Addr} {l : List (List UInt8)} (h : TReads w B A l) (hB : B ≤ B') : TReads w B' A l := fun hl => by
  obtain ⟨b, off, rfl, hbB, hc⟩ := h hl
  exact ⟨b, off, rfl, by omega, hc⟩
theorem TReads.to {w w' : World} {A : Option Addr} {l : List (List UInt8)} (h : TReads w w.heap.size A l) (hb : Below w.heap.size w w') : TReads w' w'.heap.size A l := (h.below hb (Nat.le_refl _)).more hb.size
theorem TReads.of_own {w : World} {base : Nat} {e : TypeId} {A : Option Addr} {c : Nat} {l : List (List UInt8)} (h : w.ownsRow base e 1 (.slice A l.length c) l.length (l.map tv)) : TReads w w.heap.size A l := fun hl => by
  obtain ⟨g, cap, hv, _, hlt⟩ := h.form hl
  simp only [Value.slice.injEq] at hv
  obtain ⟨rfl, _, _⟩ := hv
  refine ⟨g, 0, rfl, hlt, fun j hj => ?_⟩
  have h1 := h.cellAt j (by omega)
  rw [List.getElem?_map, List.getElem?_eq_getElem hj] at h1
  rw [Nat.zero_add]
  exact h1
end Go.Proofs.YtecimgkgdpnaeaaDoor
