/-
  Texts of this proof, laid into one: Scan2, Scan3, ShowH, RdH.
-/
import Derived.Test.YtecimgkgdpnaeaaDoorGFnHeaders11
import Derived.Test.YtecimgkgdpnaeaaDoorGFnHeaders2
import Derived.Deep.RegionHeld3
import Derived.Test.YtecimgkgdpnaeaaDoorGFnHeaders5
import Derived.Test.YtecimgkgdpnaeaaDoorGFnHeaders10
import Derived.Test.YtecimgkgdpnaeaaDoorGFnHeaders9
/-
  l6Vars, l6Take of the reference.
-/
namespace Go.Proofs.YtecimgkgdpnaeaaDoor
open Go.ChangeShapes Go.WideShapes Go.ChangeAt Go.RowKit
set_option linter.unusedVariables false
set_option linter.unusedSimpArgs false
set_option maxRecDepth 100000

/-- Numbers one behind the other. -/
def numsAt (s : Sc) : Nat → List Int × Sc
  | 0 => ([], s)
  | i + 1 => ((numsAt s i).1 ++ [((numP (numsAt s i).2).1 : Int)], (numP (numsAt s i).2).2)
theorem numsAt_len (s : Sc) (i : Nat) : (numsAt s i).1.length = i := by
  induction i with
  | zero => rfl
  | succ i ih => simp only [numsAt, List.length_append, List.length_singleton, ih]
theorem numsAt_bad {s : Sc} {i j : Nat} (h : (numsAt s i).2.2 = true) (hij : i ≤ j) : (numsAt s j).2.2 = true := by
  induction j with
  | zero => obtain rfl : i = 0 := by omega
            exact h
  | succ j ih =>
    rcases Nat.lt_or_ge j i with h1 | h1
    · obtain rfl : i = j + 1 := by omega
      exact h
    · exact numP_stay (ih h1)
/-- The place of what is left; -1 where it went wrong. -/
def posOf (l : List UInt8) (s : Sc) : Int := if s.2 = true then -1 else (l.length : Int) - s.1.length
/-- What is left is an end of it. -/
def Suf (l : List UInt8) (s : Sc) : Prop := ∃ k, k ≤ l.length ∧ s.1 = l.drop k
theorem Suf.start (l : List UInt8) : Suf l (l, false) := ⟨0, by omega, rfl⟩
theorem Suf.num {l : List UInt8} {s : Sc} (h : Suf l s) : Suf l (numP s).2 := by
  obtain ⟨k, hk, e⟩ := h
  unfold numP
  split
  · exact ⟨k, hk, e⟩
  · have hsp := readVar_spec s.1
    refine ⟨k + (readVarS s.1).2, ?_, by rw [e, List.drop_drop]⟩
    have : (readVarS s.1).2 ≤ s.1.length := by rcases hsp with h | h <;> omega
    rw [e, List.length_drop] at this
    rw [e]; omega
theorem Suf.cut {l : List UInt8} {s : Sc} (h : Suf l s) (n : Int) : Suf l (cutP s n).2 := by
  obtain ⟨k, hk, e⟩ := h
  unfold cutP
  split
  · exact ⟨k, hk, e⟩
  · rename_i hc
    refine ⟨k + n.toNat, ?_, by rw [e, List.drop_drop]⟩
    have := congrArg List.length e
    rw [List.length_drop] at this
    omega
theorem Suf.text {l : List UInt8} {s : Sc} (h : Suf l s) : Suf l (textP s).2 := h.num.cut _
theorem Suf.nums {l : List UInt8} {s : Sc} (h : Suf l s) (i : Nat) : Suf l (numsAt s i).2 := by
  induction i with
  | zero => exact h
  | succ i ih => exact ih.num
theorem posOf_bad {l : List UInt8} {s : Sc} (h : s.2 = true) : posOf l s = -1 := by unfold posOf; rw [if_pos h]
theorem posOf_good {l : List UInt8} {s : Sc} (hs : Suf l s) (h : s.2 = false) : ∃ k, k ≤ l.length ∧ s = (l.drop k, false) ∧ posOf l s = (k : Int) := by
  obtain ⟨k, hk, e⟩ := hs
  obtain ⟨r, b⟩ := s
  simp only at h e
  subst h e
  refine ⟨k, hk, rfl, ?_⟩
  unfold posOf
  rw [if_neg (by simp)]
  simp; omega
/-- The reference's test that all is read. -/
theorem posOf_all {l : List UInt8} {s : Sc} (hs : Suf l s) : posOf l s = (l.length : Int) ↔ s.2 = false ∧ s.1 = [] := by
  cases h : s.2
  · obtain ⟨k, hk, e, hp⟩ := posOf_good hs h
    rw [hp, e]
    simp only [List.drop_eq_nil_iff, true_and]
    omega
  · rw [posOf_bad h]; simp <;> omega
theorem readVar_drop {l : List UInt8} (k : Nat) : numP (l.drop k, false) = if (readVarS (l.drop k)).2 = 0 then (0, (l.drop k, true)) else ((readVarS (l.drop k)).1, ((l.drop k).drop (readVarS (l.drop k)).2, false)) := by
  by_cases h : (readVarS (l.drop k)).2 = 0
  · rw [if_pos h, numP_none h]
  · rw [if_neg h, numP_some h]

set_option maxHeartbeats 1000000 in
theorem l6Vars_own (l : List UInt8) (s : Sc) (n : Nat) (w : World) (hl : l.length ≤ 1048576) (hs : Suf l s) (hn : n ≤ 1000) :
    Calls Tryd.prog 51 #[.string (S l), .int .i64 (posOf l s), .int .i64 (n : Int)] w fun e w' => ∃ A m c, e = .returned (.tuple #[.slice A m c, .int .i64 (posOf l (numsAt s n).2)]) ∧ ((numsAt s n).2.2 = false → m = n ∧ w'.ownsRow w.heap.size 3 1 (.slice A m c) m ((numsAt s n).1.map iv)) ∧ Below w.heap.size w w' := by
  obtain ⟨i0, hi, hz0, hz1, hz2⟩ := info_parts own_info
  have hb := Below.refl w.heap.size w
  have HBAD := Lib.hid fun (k : Nat) (hk : k ≤ n) (h : (numsAt s k).2.2 = true) => numsAt_bad h hk
  have HP := Lib.hid fun (h : (numsAt s n).2.2 = true) => posOf_bad (l := l) h
  have HSUF := Lib.hid fun k => hs.nums k
  have HLEN := Lib.hid fun k => numsAt_len s k
  have HS0 : Hid (posOf l s = posOf l (numsAt s 0).2) := rfl
  have HSTEP : Hid (∀ k, numsAt s (k + 1) = ((numsAt s k).1 ++ [((numP (numsAt s k).2).1 : Int)], (numP (numsAt s k).2).2)) := fun k => rfl
  have HN0 : Hid ((numsAt s 0).1 = []) := rfl
  rw [HS0.out]
  clear hs HS0
  generalize hNA : numsAt s = NA at *
  clear hNA
  go_enter Tryd.func51, Tryd.ntmps51
  go_wp2_with fail
  go_loopw [1, 8, 9] (fun at_ out i wr => ∃ k : Nat, k ≤ n ∧ i = .int .i64 (k : Int) ∧ at_ = .int .i64 (posOf l (NA k).2) ∧ wr.ownsRow w.heap.size 3 1 out k ((NA k).1.map iv) ∧ Below w.heap.size w wr) (fun _ _ i _ => n - (intOf i).toNat)
  case atStart => exact ⟨0, by omega, rfl, rfl, by rw [HN0.out]; exact World.ownsRow_lit w #[] 0 (Nat.le_refl _) (by simp [maxLen]) rfl, hb.alloc (Nat.le_refl _) _⟩
  case round =>
    obtain ⟨k, hk, rfl, rfl, hown, hb⟩ := hrel
    have hki : 0 ≤ (k : Int) ∧ (k : Int) ≤ n := by omega
    obtain ⟨A, c, rfl⟩ := own_slice hown
    by_cases hlt : k < n
    · cases hg : (NA k).2.2
      · obtain ⟨q, hq, hqe, hqp⟩ := posOf_good (HSUF.out k) hg
        rw [hqp]
        have hqi : 0 ≤ (q : Int) ∧ (q : Int) ≤ l.length := by omega
        have hx : (S l).extract q l.length = S (l.drop q) := by rw [S_cut, List.take_of_length_le (by simp)]
        have HR := Lib.hid fun W : World => sReadVar_any (l.drop q) W (by simp; omega)
        have hst := HSTEP.out k
        rw [hqe, readVar_drop] at hst
        have hpl : (readVarS (l.drop q)).2 ≤ l.length - q := by
          have hsp := readVar_spec (l.drop q)
          rw [List.length_drop] at hsp
          rcases hsp with h | h <;> omega
        have hpn : (readVarS (l.drop q)).1 < 562949953421312 := by
          have hsp := readVar_spec (l.drop q)
          rcases hsp with h | h <;> omega
        have HDR := Lib.hid fun j => (List.drop_drop (i := j) (j := q) (l := l))
        have HST := Lib.hid hst
        have HSF := Lib.hid (HSUF.out (k + 1))
        clear hst
        generalize l.drop q = r at *
        generalize (readVarS r).1 = x at *
        generalize (readVarS r).2 = p at *
        by_cases hp : p = 0
        · subst hp
          have hbd : (NA (k + 1)).2.2 = true := by rw [HST.out, if_pos rfl]
          have HV := Lib.hid (HBAD.out (k + 1) (by omega) hbd)
          have HW := Lib.hid (HP.out HV.out)
          clear hbd
          go_wp2_with (go_at_call 89; refine (HR.out _).mono ?_; rintro e wn ⟨rfl, hbn⟩; have hb := Below.next (w := w) hb hbn)
          go_ret2
          exact ⟨A, k, c, by rw [HW.out]; rfl, (fun h => by rw [HV.out] at h; cases h), hb⟩
        · have hst2 : NA (k + 1) = ((NA k).1 ++ [(x : Int)], (r.drop p, false)) := by rw [HST.out, if_neg hp]
          have hpos : posOf l (NA (k + 1)).2 = (q : Int) + p := by
            rw [hst2]
            unfold posOf
            have := HDR.out p
            rw [if_neg (by simp), this]
            simp; omega
          have HPOS := Lib.hid hpos
          have HMAP : Hid ((NA (k + 1)).1.map iv = (NA k).1.map iv ++ [.int .i64 (x : Int)]) := by unfold Hid; rw [hst2, List.map_append]; rfl
          clear hst2 hpos
          go_wp2_with (first | (go_at_call 89; refine (HR.out _).mono ?_; rintro e wn ⟨rfl, hbn⟩; have hb := Below.next (w := w) hb hbn; have hown := own_below hown hbn) | (at_builtin; refine app_lit rfl _ _ 43 rfl Tryd.underlying43 hi hz0 hz1 hz2 rfl (by decide) rfl hown hb rfl rfl (one_cell1 _ _) (by unfold maxLen; omega) (by omega) ?_; intro v1 w2 hown1 hb2))
          go_roundw
          case rel => exact ⟨k + 1, by omega, by go_num, by (try rw [HPOS.out]); (try go_num), by rw [HMAP.out]; exact hown1, hb2⟩
          case measure => simp [intOf]; omega
      · have HV := Lib.hid (HBAD.out k hk hg)
        have HW := Lib.hid (HP.out HV.out)
        rw [posOf_bad hg]
        go_wp2
        go_ret2
        exact ⟨A, k, c, by rw [HW.out]; rfl, (fun h => by rw [HV.out] at h; cases h), hb⟩
    · obtain rfl : k = n := by omega
      go_wp2
      go_ret2
      exact ⟨A, k, c, rfl, (fun _ => ⟨rfl, hown⟩), hb⟩

theorem l6Vars_any (l : List UInt8) (s : Sc) (n : Nat) (w : World) (hl : l.length ≤ 1048576) (hs : Suf l s) (hn : n ≤ 1000) :
    Calls Tryd.prog 51 #[.string (S l), .int .i64 (posOf l s), .int .i64 (n : Int)] w fun e w' => ∃ A m c, e = .returned (.tuple #[.slice A m c, .int .i64 (posOf l (numsAt s n).2)]) ∧ ((numsAt s n).2.2 = false → m = n ∧ IReads w' w'.heap.size A (numsAt s n).1) ∧ Below w.heap.size w w' :=
  (l6Vars_own l s n w hl hs hn).mono fun e w' ⟨A, m, c, h1, h2, h3⟩ => ⟨A, m, c, h1, fun h => ⟨(h2 h).1, own_ireads (h2 h).2 (by rw [(h2 h).1]; exact numsAt_len s n)⟩, h3⟩
theorem l6Take_any (l : List UInt8) (s : Sc) (w : World) (hl : l.length ≤ 1048576) (hs : Suf l s) :
    Calls Tryd.prog 52 #[.string (S l), .int .i64 (posOf l s)] w fun e w' => e = .returned (.tuple #[.string (S (textP s).1), .int .i64 (posOf l (textP s).2)]) ∧ Below w.heap.size w w' := by
  have HV := Lib.hid (l6Vars_any l s 1 w hl hs (by omega))
  have hn1 : numsAt s 1 = ([((numP s).1 : Int)], (numP s).2) := rfl
  rw [hn1] at HV
  have hT : textP s = cutP (numP s).2 ((numP s).1 : Int) := rfl
  have hlt := numP_lt s
  have hS2 := hs.num
  clear hs hn1
  generalize (numP s).1 = n at *
  generalize (numP s).2 = t at *
  generalize textP s = V at *
  cases hg : t.2
  · obtain ⟨q, hq, rfl, hqp⟩ := posOf_good hS2 hg
    rw [hqp] at HV
    have hqi : 0 ≤ (q : Int) ∧ (q : Int) ≤ l.length := by omega
    by_cases hc : n ≤ l.length - q
    · have hx : (S l).extract q (q + n) = S ((l.drop q).take n) := by rw [S_cut]; congr 2; omega
      have hqn : ((q : Int) + n).toNat = q + n := by omega
      have hT2 : Hid (V = ((l.drop q).take n, ((l.drop q).drop n, false))) := by unfold Hid; rw [hT, cutP_yes (by simp; omega)]
      have hP : Hid (posOf l ((l.drop q).drop n, false) = (q : Int) + n) := by
        unfold Hid posOf
        rw [if_neg (by simp), List.drop_drop]
        simp; omega
      clear hT
      go_enter Tryd.func52, Tryd.ntmps52
      go_wp2_with fail
      refine HV.out.mono ?_
      rintro e wn ⟨A, m, c, rfl, hm, hbn⟩
      obtain ⟨hm1, hr⟩ := hm (by first | trivial | rfl)
      subst hm1
      obtain ⟨b, off, rfl, hbb, hcl⟩ := hr (by simp)
      have c0 := hcl 0 (by simp)
      simp only [List.getElem_cons_zero, Nat.add_zero] at c0
      have hb := hbn
      clear hcl hr hm
      go_wp2_with fail
      (try go_region)
      go_wp2
      go_ret2
      exact ⟨by rw [hT2.out, hP.out]; rfl, by first | exact hb | exact hb.drew⟩
    · have hT2 : Hid (V = ([], (l.drop q, true))) := by unfold Hid; rw [hT, cutP_no (by right; simp; omega)]
      have hP : Hid (posOf l (l.drop q, true) = -1) := posOf_bad rfl
      clear hT
      go_enter Tryd.func52, Tryd.ntmps52
      go_wp2_with fail
      refine HV.out.mono ?_
      rintro e wn ⟨A, m, c, rfl, hm, hbn⟩
      obtain ⟨hm1, hr⟩ := hm (by first | trivial | rfl)
      subst hm1
      obtain ⟨b, off, rfl, hbb, hcl⟩ := hr (by simp)
      have c0 := hcl 0 (by simp)
      simp only [List.getElem_cons_zero, Nat.add_zero] at c0
      have hb := hbn
      clear hcl hr hm
      go_wp2_with fail
      (try go_region)
      go_wp2
      go_ret2
      exact ⟨by rw [hT2.out, hP.out]; rfl, hb⟩
  · obtain ⟨r, b⟩ := t
    simp only at hg
    subst hg
    have hT2 : Hid (V = ([], (r, true))) := by unfold Hid; rw [hT, cutP_bad]
    have hP : posOf l (r, true) = -1 := posOf_bad rfl
    rw [hP] at HV
    have HP := Lib.hid hP
    clear hT hP
    go_enter Tryd.func52, Tryd.ntmps52
    go_wp2_with fail
    refine HV.out.mono ?_
    rintro e wn ⟨A, m, c, rfl, hm, hbn⟩
    have hb := hbn
    clear hm
    go_wp2
    go_ret2
    exact ⟨by rw [hT2.out, HP.out]; rfl, hb⟩
end Go.Proofs.YtecimgkgdpnaeaaDoor

/-
  The scanner, more: what a call leaves alone; appends onto rows of the call's own.
-/
namespace Go.Proofs.YtecimgkgdpnaeaaDoor
open Go.ChangeShapes Go.WideShapes Go.ChangeAt Go.RowKit
set_option linter.unusedVariables false
set_option linter.unusedSimpArgs false
set_option maxRecDepth 100000

theorem ScanAt.far {B : Nat} {w : World} {s : Sc} (h : ScanAt w B s) {g : Nat} (hg : g ≠ B) (i : Nat) (u : Value) : ScanAt (w.setCell ⟨g, i, none⟩ u) B s := by
  obtain ⟨h1, c0, c1, f0, f1⟩ := h
  have k : (w.setCell ⟨g, i, none⟩ u).heap[B]? = w.heap[B]? := Below.heap_setCell _ _ _ _ (by intro e; subst e; exact hg rfl)
  exact ⟨by simpa [World.setCell] using h1, (World.cell?_of_block (w := w) k).trans c0, (World.cell?_of_block (w := w) k).trans c1, (World.frozen?_of_block (w := w) k).trans f0, (World.frozen?_of_block (w := w) k).trans f1⟩
theorem ScanAt.alloc {B : Nat} {w : World} {s : Sc} (h : ScanAt w B s) (o : Obj) : ScanAt (w.alloc o) B s := h.next (Below.alloc (Below.refl _ _) (Nat.le_refl _) o)
theorem ScanAt.new (w : World) (t : TypeId) (l : List UInt8) (b : Bool) : ScanAt (w.alloc (.cells #[.string (S l), .bool b] t)) w.heap.size (l, b) :=
  ⟨by simp, by go_simp, by go_simp, by go_simp, by go_simp⟩
theorem num_eq {B : Nat} {s : Sc} {w : World} {n : Nat} {t : Sc} (h : numP s = (n, t)) (hl : s.1.length ≤ 1048576) (hs : ScanAt w B s) :
    Calls Tryd.prog 43 #[.pointer (some ⟨B, 0, none⟩)] w fun e w' => e = .returned (.int .i64 (n : Int)) ∧ ScanAt w' B t ∧ But B w w' :=
  (num_any B s w hs hl).mono fun e w' ⟨h1, h2, h3⟩ => by rw [h] at h1 h2; exact ⟨h1, h2, h3⟩
theorem text_eq {B : Nat} {s : Sc} {w : World} {x : List UInt8} {t : Sc} (h : textP s = (x, t)) (hl : s.1.length ≤ 1048576) (hs : ScanAt w B s) :
    Calls Tryd.prog 44 #[.pointer (some ⟨B, 0, none⟩)] w fun e w' => e = .returned (.string (S x)) ∧ ScanAt w' B t ∧ But B w w' :=
  (text_any B s w hs hl).mono fun e w' ⟨h1, h2, h3⟩ => by rw [h] at h1 h2; exact ⟨h1, h2, h3⟩
theorem take_eq {l : List UInt8} {s : Sc} {w : World} {x : List UInt8} {t : Sc} (h : textP s = (x, t)) (hl : l.length ≤ 1048576) (hs : Suf l s) :
    Calls Tryd.prog 52 #[.string (S l), .int .i64 (posOf l s)] w fun e w' => e = .returned (.tuple #[.string (S x), .int .i64 (posOf l t)]) ∧ Below w.heap.size w w' :=
  (l6Take_any l s w hl hs).mono fun e w' ⟨h1, h2⟩ => by rw [h] at h1; exact ⟨h1, h2⟩

theorem ScanAt.low {B k : Nat} {w w' : World} {s : Sc} (h : ScanAt w B s) (hb : Below k w w') (hB : B < k) : ScanAt w' B s := by
  obtain ⟨h1, c0, c1, f0, f1⟩ := h
  exact ⟨Nat.lt_of_lt_of_le h1 hb.size, (hb.cell (p := ⟨B, 0, none⟩) hB).trans c0, (hb.cell (p := ⟨B, 1, none⟩) hB).trans c1, (hb.frozen (p := ⟨B, 0, none⟩) hB).trans f0, (hb.frozen (p := ⟨B, 1, none⟩) hB).trans f1⟩
theorem own_ne {w : World} {b1 b2 : Nat} {e1 e2 : TypeId} {s1 s2 n1 n2 : Nat} {v1 v2 : Value} {x1 x2 : List Value} (h1 : w.ownsRow b1 e1 s1 v1 n1 x1) (h2 : w.ownsRow b2 e2 s2 v2 n2 x2) (he : e1 ≠ e2) : ∀ q, v1.ownBlock = some q → some q ≠ v2.ownBlock := by
  intro q hq h
  rcases h1.2 with ⟨rfl, _⟩ | ⟨g, cap, cur, rfl, _, k1, _⟩
  · cases hq
  · rcases h2.2 with ⟨rfl, _⟩ | ⟨g', cap', cur', rfl, _, k2, _⟩
    · cases h
    · cases hq; cases h
      rw [k1] at k2
      injection k2 with k2
      injection k2 with _ k2
      exact he k2
end Go.Proofs.YtecimgkgdpnaeaaDoor

/-
  sized, l6Piece; ShowHeader, both.
-/
namespace Go.Proofs.YtecimgkgdpnaeaaDoor
open Go.ChangeShapes Go.WideShapes Go.ChangeAt Go.RowKit
set_option linter.unusedVariables false
set_option linter.unusedSimpArgs false
set_option maxRecDepth 100000

theorem sizedS_len (l : List UInt8) : (sizedS l).length ≤ 8 + l.length := by
  have := varS_len (l.length : Int)
  unfold sizedS; rw [List.length_append]; omega
theorem sized_any (l : List UInt8) (w : World) (hl : l.length ≤ 4194304) :
    Calls Tryd.prog 47 #[.string (S l)] w fun e w' => e = .returned (.string (S (sizedS l))) ∧ Below w.heap.size w w' := by
  have q := varS_len (l.length : Int)
  have hb := Below.refl w.heap.size w
  go_enter Tryd.func47, Tryd.ntmps47
  go_wp2_with (go_at_call 46; refine (iVar_any _ _).mono ?_; rintro e wn ⟨rfl, hbn⟩; have hb := Below.next (w := w) (by repeat (first | with_reducible exact hb | with_reducible exact Below.refl _ _ | refine Below.drew ?_ | refine Below.setCell ?_ (by simp <;> omega) _ | refine Below.alloc ?_ (by simp <;> omega) _)) hbn; clear hbn)
  go_ret
  exact ⟨rfl, hb⟩
theorem l6Piece_any (l : List UInt8) (w : World) (hl : l.length ≤ 4194304) :
    Calls Tryd.prog 62 #[.string (S l)] w fun e w' => e = .returned (.string (S (sizedS l))) ∧ Below w.heap.size w w' := by
  have q := varS_len (l.length : Int)
  have hb := Below.refl w.heap.size w
  go_enter Tryd.func62, Tryd.ntmps62
  go_wp2_with (go_at_call 61; refine (sVar_any _ _).mono ?_; rintro e wn ⟨rfl, hbn⟩; have hb := Below.next (w := w) (by repeat (first | with_reducible exact hb | with_reducible exact Below.refl _ _ | refine Below.drew ?_ | refine Below.setCell ?_ (by simp <;> omega) _ | refine Below.alloc ?_ (by simp <;> omega) _)) hbn; clear hbn)
  go_ret
  exact ⟨rfl, hb⟩
/-- Six cells are held over a call that makes memory. -/
theorem held6 {w cur wm : World} {B : Nat} {u0 u1 u2 u3 u4 u5 : Value}
    (H : Below w.heap.size w cur ∧ B < cur.heap.size ∧ cur.cell? ⟨B, 0, none⟩ = some u0 ∧ cur.cell? ⟨B, 1, none⟩ = some u1 ∧ cur.cell? ⟨B, 2, none⟩ = some u2 ∧ cur.cell? ⟨B, 3, none⟩ = some u3 ∧ cur.cell? ⟨B, 4, none⟩ = some u4 ∧ cur.cell? ⟨B, 5, none⟩ = some u5) (hb : Below cur.heap.size cur wm) :
    Below w.heap.size w wm ∧ B < wm.heap.size ∧ wm.cell? ⟨B, 0, none⟩ = some u0 ∧ wm.cell? ⟨B, 1, none⟩ = some u1 ∧ wm.cell? ⟨B, 2, none⟩ = some u2 ∧ wm.cell? ⟨B, 3, none⟩ = some u3 ∧ wm.cell? ⟨B, 4, none⟩ = some u4 ∧ wm.cell? ⟨B, 5, none⟩ = some u5 := by
  obtain ⟨h1, h2, c0, c1, c2, c3, c4, c5⟩ := H
  have k : ∀ i, wm.cell? ⟨B, i, none⟩ = cur.cell? ⟨B, i, none⟩ := fun i => hb.cell (p := ⟨B, i, none⟩) h2
  exact ⟨Below.next h1 hb, Nat.lt_of_lt_of_le h2 hb.size, (k 0).trans c0, (k 1).trans c1, (k 2).trans c2, (k 3).trans c3, (k 4).trans c4, (k 5).trans c5⟩
theorem headOk_len {x : HeadT} (h : headOkB x = true) : x.last.length ≤ 8 ∧ x.vals.length ≤ 8 ∧ x.next.length ≤ 8 ∧ x.data.length ≤ 20 := by
  unfold headOkB at h
  simp only [Bool.and_eq_true, beq_iff_eq, decide_eq_true_eq] at h
  obtain ⟨⟨⟨⟨⟨_, _⟩, a⟩, b⟩, c⟩, d⟩ := h
  refine ⟨?_, by omega, by omega, d⟩
  rw [c]; split <;> omega

set_option maxHeartbeats 1600000 in
theorem iShowHeader_yes (x : HeadT) (w : World) (hok : headOkB x = true) :
    Calls Tryd.prog 10 #[x.val] w fun e w' => e = .returned (.string (S (showHeadS x))) ∧ Below w.heap.size w w' := by
  have HV : Hid (showHeadS x = varS x.h ++ varS x.t ++ sizedS x.last ++ sizedS x.vals ++ sizedS x.next ++ sizedS x.data) := by unfold Hid showHeadS; rw [if_pos hok]
  obtain ⟨l1, l2, l3, l4⟩ := headOk_len hok
  obtain ⟨h, t, last, vals, next, data⟩ := x
  have hv : HeadT.val ⟨h, t, last, vals, next, data⟩ = .agg #[.int .i64 h, .int .i64 t, .string (S last), .string (S vals), .string (S next), .string (S data)] := rfl
  rw [hv]
  simp only at l1 l2 l3 l4 HV
  have q1 := varS_len h
  have q2 := varS_len t
  have q3 := sizedS_len last
  have q4 := sizedS_len vals
  have q5 := sizedS_len next
  have q6 := sizedS_len data
  have hb := Below.refl w.heap.size w
  go_enter Tryd.func10, Tryd.ntmps10
  go_wp2_with (go_at_call 45; refine (iHeaderOk_any ⟨h, t, last, vals, next, data⟩ _ (by simp only; omega) (by simp only; omega) (by simp only; omega) (by simp only; omega)).mono ?_; rintro e wn ⟨rfl, hbn⟩; have hb := Below.next (w := w) (by repeat (first | with_reducible exact hb | with_reducible exact Below.refl _ _ | refine Below.drew ?_ | refine Below.setCell ?_ (by simp <;> omega) _ | refine Below.alloc ?_ (by simp <;> omega) _)) hbn; obtain ⟨hc, hf⟩ := bcell hbn; have hz := hbn.size; (try simp at hz); (try have hz1 : w.heap.size < wn.heap.size := (by omega)); (try have hz2 : w.heap.size + 1 < wn.heap.size := (by omega)); (try have hz3 : w.heap.size + 1 + 1 < wn.heap.size := (by omega)); clear hbn)
  have c0 : wn.cell? ⟨w.heap.size, 0, none⟩ = some (.int .i64 h) := by go_simp
  have c1 : wn.cell? ⟨w.heap.size, 1, none⟩ = some (.int .i64 t) := by go_simp
  have c2 : wn.cell? ⟨w.heap.size, 2, none⟩ = some (.string (S last)) := by go_simp
  have c3 : wn.cell? ⟨w.heap.size, 3, none⟩ = some (.string (S vals)) := by go_simp
  have c4 : wn.cell? ⟨w.heap.size, 4, none⟩ = some (.string (S next)) := by go_simp
  have c5 : wn.cell? ⟨w.heap.size, 5, none⟩ = some (.string (S data)) := by go_simp
  have hz1 : w.heap.size < wn.heap.size := by omega
  have m1 := fun W : World => run_string_add_sum (P := Tryd.prog) W (S (varS h)) (S (varS t)) (by simp; omega)
  have m2 := fun W : World => run_string_add_sum (P := Tryd.prog) W (S (varS h ++ varS t)) (S (sizedS last)) (by simp; omega)
  have m3 := fun W : World => run_string_add_sum (P := Tryd.prog) W (S (varS h ++ (varS t ++ sizedS last))) (S (sizedS vals)) (by simp; omega)
  have m4 := fun W : World => run_string_add_sum (P := Tryd.prog) W (S (varS h ++ (varS t ++ (sizedS last ++ sizedS vals)))) (S (sizedS next)) (by simp; omega)
  have m5 := fun W : World => run_string_add_sum (P := Tryd.prog) W (S (varS h ++ (varS t ++ (sizedS last ++ (sizedS vals ++ sizedS next))))) (S (sizedS data)) (by simp; omega)
  clear hc hf
  go_region_held3 (fun w' => Below w.heap.size w w' ∧ w.heap.size < w'.heap.size ∧ w'.cell? ⟨w.heap.size, 0, none⟩ = some (.int .i64 h) ∧ w'.cell? ⟨w.heap.size, 1, none⟩ = some (.int .i64 t) ∧ w'.cell? ⟨w.heap.size, 2, none⟩ = some (.string (S last)) ∧ w'.cell? ⟨w.heap.size, 3, none⟩ = some (.string (S vals)) ∧ w'.cell? ⟨w.heap.size, 4, none⟩ = some (.string (S next)) ∧ w'.cell? ⟨w.heap.size, 5, none⟩ = some (.string (S data))) (first | exact ⟨hb.drew, hz1, c0, c1, c2, c3, c4, c5⟩ | exact held6 (by assumption) hbm | go_keep)
    (first | (go_at_call 46; refine (iVar_any _ _).mono ?_; rintro e wm ⟨rfl, hbm⟩) | (go_at_call 47; refine (sized_any _ _ (by omega)).mono ?_; rintro e wm ⟨rfl, hbm⟩))
  all_goals
    go_wp2
    go_ret
    refine ⟨ret_string (by rw [HV.out]; simp), ?_⟩; apply And.left; assumption

theorem iShowHeader_no (x : HeadT) (w : World) (h1 : x.last.length ≤ 9223372036854775807) (h2 : x.vals.length ≤ 9223372036854775807) (h3 : x.next.length ≤ 9223372036854775807) (h4 : x.data.length ≤ 9223372036854775807) (hok : headOkB x = false) :
    Calls Tryd.prog 10 #[x.val] w fun e w' => e = .returned (.string (S (showHeadS x))) ∧ Below w.heap.size w w' := by
  have HV : Hid (showHeadS x = []) := by unfold Hid showHeadS; rw [hok]; rfl
  obtain ⟨h, t, last, vals, next, data⟩ := x
  have hv : HeadT.val ⟨h, t, last, vals, next, data⟩ = .agg #[.int .i64 h, .int .i64 t, .string (S last), .string (S vals), .string (S next), .string (S data)] := rfl
  rw [hv]
  simp only at h1 h2 h3 h4 HV
  have hb := Below.refl w.heap.size w
  go_enter Tryd.func10, Tryd.ntmps10
  go_wp2_with (go_at_call 45; refine (iHeaderOk_any ⟨h, t, last, vals, next, data⟩ _ h1 h2 h3 h4).mono ?_; rintro e wn ⟨rfl, hbn⟩; have hb := Below.next (w := w) (by repeat (first | with_reducible exact hb | with_reducible exact Below.refl _ _ | refine Below.drew ?_ | refine Below.setCell ?_ (by simp <;> omega) _ | refine Below.alloc ?_ (by simp <;> omega) _)) hbn; obtain ⟨hc, hf⟩ := bcell hbn; have hz := hbn.size; (try simp at hz); (try have hz1 : w.heap.size < wn.heap.size := (by omega)); (try have hz2 : w.heap.size + 1 < wn.heap.size := (by omega)); (try have hz3 : w.heap.size + 1 + 1 < wn.heap.size := (by omega)); clear hbn)
  go_ret
  exact ⟨ret_string (by rw [HV.out]; rfl), hb⟩
theorem iShowHeader_any (x : HeadT) (w : World) (h1 : x.last.length ≤ 9223372036854775807) (h2 : x.vals.length ≤ 9223372036854775807) (h3 : x.next.length ≤ 9223372036854775807) (h4 : x.data.length ≤ 9223372036854775807) :
    Calls Tryd.prog 10 #[x.val] w fun e w' => e = .returned (.string (S (showHeadS x))) ∧ Below w.heap.size w w' := by
  cases hok : headOkB x
  · exact iShowHeader_no x w h1 h2 h3 h4 hok
  · exact iShowHeader_yes x w hok

set_option maxHeartbeats 1600000 in
theorem sShowHeader_yes (x : HeadT) (w : World) (hok : headOkB x = true) :
    Calls Tryd.prog 48 #[x.val] w fun e w' => e = .returned (.string (S (showHeadS x))) ∧ Below w.heap.size w w' := by
  have HV : Hid (showHeadS x = varS x.h ++ varS x.t ++ sizedS x.last ++ sizedS x.vals ++ sizedS x.next ++ sizedS x.data) := by unfold Hid showHeadS; rw [if_pos hok]
  obtain ⟨l1, l2, l3, l4⟩ := headOk_len hok
  obtain ⟨h, t, last, vals, next, data⟩ := x
  have hv : HeadT.val ⟨h, t, last, vals, next, data⟩ = .agg #[.int .i64 h, .int .i64 t, .string (S last), .string (S vals), .string (S next), .string (S data)] := rfl
  rw [hv]
  simp only at l1 l2 l3 l4 HV
  have q1 := varS_len h
  have q2 := varS_len t
  have q3 := sizedS_len last
  have q4 := sizedS_len vals
  have q5 := sizedS_len next
  have q6 := sizedS_len data
  have hb := Below.refl w.heap.size w
  go_enter Tryd.func48, Tryd.ntmps48
  go_wp2_with (go_at_call 18; refine (sHeaderOk_any ⟨h, t, last, vals, next, data⟩ _ (by simp only; omega) (by simp only; omega) (by simp only; omega) (by simp only; omega)).mono ?_; rintro e wn ⟨rfl, hbn⟩; have hb := Below.next (w := w) (by repeat (first | with_reducible exact hb | with_reducible exact Below.refl _ _ | refine Below.drew ?_ | refine Below.setCell ?_ (by simp <;> omega) _ | refine Below.alloc ?_ (by simp <;> omega) _)) hbn; obtain ⟨hc, hf⟩ := bcell hbn; have hz := hbn.size; (try simp at hz); (try have hz1 : w.heap.size < wn.heap.size := (by omega)); (try have hz2 : w.heap.size + 1 < wn.heap.size := (by omega)); (try have hz3 : w.heap.size + 1 + 1 < wn.heap.size := (by omega)); clear hbn)
  have c0 : wn.cell? ⟨w.heap.size, 0, none⟩ = some (.int .i64 h) := by go_simp
  have c1 : wn.cell? ⟨w.heap.size, 1, none⟩ = some (.int .i64 t) := by go_simp
  have c2 : wn.cell? ⟨w.heap.size, 2, none⟩ = some (.string (S last)) := by go_simp
  have c3 : wn.cell? ⟨w.heap.size, 3, none⟩ = some (.string (S vals)) := by go_simp
  have c4 : wn.cell? ⟨w.heap.size, 4, none⟩ = some (.string (S next)) := by go_simp
  have c5 : wn.cell? ⟨w.heap.size, 5, none⟩ = some (.string (S data)) := by go_simp
  have hz1 : w.heap.size < wn.heap.size := by omega
  have m1 := fun W : World => run_string_add_sum (P := Tryd.prog) W (S (varS h)) (S (varS t)) (by simp; omega)
  have m2 := fun W : World => run_string_add_sum (P := Tryd.prog) W (S (varS h ++ varS t)) (S (sizedS last)) (by simp; omega)
  have m3 := fun W : World => run_string_add_sum (P := Tryd.prog) W (S (varS h ++ (varS t ++ sizedS last))) (S (sizedS vals)) (by simp; omega)
  have m4 := fun W : World => run_string_add_sum (P := Tryd.prog) W (S (varS h ++ (varS t ++ (sizedS last ++ sizedS vals)))) (S (sizedS next)) (by simp; omega)
  have m5 := fun W : World => run_string_add_sum (P := Tryd.prog) W (S (varS h ++ (varS t ++ (sizedS last ++ (sizedS vals ++ sizedS next))))) (S (sizedS data)) (by simp; omega)
  clear hc hf
  go_region_held3 (fun w' => Below w.heap.size w w' ∧ w.heap.size < w'.heap.size ∧ w'.cell? ⟨w.heap.size, 0, none⟩ = some (.int .i64 h) ∧ w'.cell? ⟨w.heap.size, 1, none⟩ = some (.int .i64 t) ∧ w'.cell? ⟨w.heap.size, 2, none⟩ = some (.string (S last)) ∧ w'.cell? ⟨w.heap.size, 3, none⟩ = some (.string (S vals)) ∧ w'.cell? ⟨w.heap.size, 4, none⟩ = some (.string (S next)) ∧ w'.cell? ⟨w.heap.size, 5, none⟩ = some (.string (S data))) (first | exact ⟨hb.drew, hz1, c0, c1, c2, c3, c4, c5⟩ | exact held6 (by assumption) hbm | go_keep)
    (first | (go_at_call 61; refine (sVar_any _ _).mono ?_; rintro e wm ⟨rfl, hbm⟩) | (go_at_call 62; refine (l6Piece_any _ _ (by omega)).mono ?_; rintro e wm ⟨rfl, hbm⟩))
  all_goals
    go_wp2
    go_ret
    refine ⟨ret_string (by rw [HV.out]; simp), ?_⟩; apply And.left; assumption

theorem sShowHeader_no (x : HeadT) (w : World) (h1 : x.last.length ≤ 9223372036854775807) (h2 : x.vals.length ≤ 9223372036854775807) (h3 : x.next.length ≤ 9223372036854775807) (h4 : x.data.length ≤ 9223372036854775807) (hok : headOkB x = false) :
    Calls Tryd.prog 48 #[x.val] w fun e w' => e = .returned (.string (S (showHeadS x))) ∧ Below w.heap.size w w' := by
  have HV : Hid (showHeadS x = []) := by unfold Hid showHeadS; rw [hok]; rfl
  obtain ⟨h, t, last, vals, next, data⟩ := x
  have hv : HeadT.val ⟨h, t, last, vals, next, data⟩ = .agg #[.int .i64 h, .int .i64 t, .string (S last), .string (S vals), .string (S next), .string (S data)] := rfl
  rw [hv]
  simp only at h1 h2 h3 h4 HV
  have hb := Below.refl w.heap.size w
  go_enter Tryd.func48, Tryd.ntmps48
  go_wp2_with (go_at_call 18; refine (sHeaderOk_any ⟨h, t, last, vals, next, data⟩ _ h1 h2 h3 h4).mono ?_; rintro e wn ⟨rfl, hbn⟩; have hb := Below.next (w := w) (by repeat (first | with_reducible exact hb | with_reducible exact Below.refl _ _ | refine Below.drew ?_ | refine Below.setCell ?_ (by simp <;> omega) _ | refine Below.alloc ?_ (by simp <;> omega) _)) hbn; obtain ⟨hc, hf⟩ := bcell hbn; have hz := hbn.size; (try simp at hz); (try have hz1 : w.heap.size < wn.heap.size := (by omega)); (try have hz2 : w.heap.size + 1 < wn.heap.size := (by omega)); (try have hz3 : w.heap.size + 1 + 1 < wn.heap.size := (by omega)); clear hbn)
  go_ret
  exact ⟨ret_string (by rw [HV.out]; rfl), hb⟩
theorem sShowHeader_any (x : HeadT) (w : World) (h1 : x.last.length ≤ 9223372036854775807) (h2 : x.vals.length ≤ 9223372036854775807) (h3 : x.next.length ≤ 9223372036854775807) (h4 : x.data.length ≤ 9223372036854775807) :
    Calls Tryd.prog 48 #[x.val] w fun e w' => e = .returned (.string (S (showHeadS x))) ∧ Below w.heap.size w w' := by
  cases hok : headOkB x
  · exact sShowHeader_no x w h1 h2 h3 h4 hok
  · exact sShowHeader_yes x w hok
end Go.Proofs.YtecimgkgdpnaeaaDoor

/-
  ReadHeader, both.
-/
namespace Go.Proofs.YtecimgkgdpnaeaaDoor
open Go.ChangeShapes Go.WideShapes Go.ChangeAt Go.RowKit
set_option linter.unusedVariables false
set_option linter.unusedSimpArgs false
set_option maxRecDepth 100000

/-- Six cells of one block, writable. -/
def Hd (w : World) (b : Nat) (u0 u1 u2 u3 u4 u5 : Value) : Prop := b < w.heap.size ∧ w.cell? ⟨b, 0, none⟩ = some u0 ∧ w.cell? ⟨b, 1, none⟩ = some u1 ∧ w.cell? ⟨b, 2, none⟩ = some u2 ∧ w.cell? ⟨b, 3, none⟩ = some u3 ∧ w.cell? ⟨b, 4, none⟩ = some u4 ∧ w.cell? ⟨b, 5, none⟩ = some u5 ∧ ∀ i, w.frozen? ⟨b, i, none⟩ = false
theorem Hd.but {w w' : World} {b B : Nat} {u0 u1 u2 u3 u4 u5 : Value} (h : Hd w b u0 u1 u2 u3 u4 u5) (hb : But B w w') (hn : b ≠ B) : Hd w' b u0 u1 u2 u3 u4 u5 := by
  obtain ⟨h1, c0, c1, c2, c3, c4, c5, hf⟩ := h
  exact ⟨Nat.lt_of_lt_of_le h1 hb.size, (hb.cell h1 hn).trans c0, (hb.cell h1 hn).trans c1, (hb.cell h1 hn).trans c2, (hb.cell h1 hn).trans c3, (hb.cell h1 hn).trans c4, (hb.cell h1 hn).trans c5, fun i => (hb.frozen h1 hn).trans (hf i)⟩
/-- What the scanner reads of a header, a name for each. -/
theorem head_parts (l : List UInt8) : ∃ (n1 n2 : Nat) (t1 t2 t3 t4 : List UInt8) (s2 s3 s4 s5 s6 s7 : Sc),
    numP (l, false) = (n1, s2) ∧ numP s2 = (n2, s3) ∧ textP s3 = (t1, s4) ∧ textP s4 = (t2, s5) ∧ textP s5 = (t3, s6) ∧ textP s6 = (t4, s7) ∧
    headP l = (⟨n1, n2, t1, t2, t3, t4⟩, s7) ∧ s2.1.length ≤ l.length ∧ s3.1.length ≤ l.length ∧ s4.1.length ≤ l.length ∧ s5.1.length ≤ l.length ∧ s6.1.length ≤ l.length ∧
    t1.length ≤ l.length ∧ t2.length ≤ l.length ∧ t3.length ≤ l.length ∧ t4.length ≤ l.length := by
  obtain ⟨n1, s2, h1⟩ : ∃ n s, numP (l, false) = (n, s) := ⟨_, _, rfl⟩
  obtain ⟨n2, s3, h2⟩ : ∃ n s, numP s2 = (n, s) := ⟨_, _, rfl⟩
  obtain ⟨t1, s4, h3⟩ : ∃ n s, textP s3 = (n, s) := ⟨_, _, rfl⟩
  obtain ⟨t2, s5, h4⟩ : ∃ n s, textP s4 = (n, s) := ⟨_, _, rfl⟩
  obtain ⟨t3, s6, h5⟩ : ∃ n s, textP s5 = (n, s) := ⟨_, _, rfl⟩
  obtain ⟨t4, s7, h6⟩ : ∃ n s, textP s6 = (n, s) := ⟨_, _, rfl⟩
  have a1 := numP_len (l, false)
  have a2 := numP_len s2
  have a3 := textP_len s3
  have a4 := textP_len s4
  have a5 := textP_len s5
  have a6 := textP_len s6
  rw [h1] at a1
  rw [h2] at a2
  rw [h3] at a3
  rw [h4] at a4
  rw [h5] at a5
  rw [h6] at a6
  simp only at a1 a2 a3 a4 a5 a6
  refine ⟨n1, n2, t1, t2, t3, t4, s2, s3, s4, s5, s6, s7, h1, h2, h3, h4, h5, h6, ?_, ?_⟩
  · unfold headP
    simp only [h1, h2, h3, h4, h5, h6]
  · omega

theorem Hd.new (w : World) (t : TypeId) (u0 u1 u2 u3 u4 u5 : Value) : Hd (w.alloc (.cells #[u0, u1, u2, u3, u4, u5] t)) w.heap.size u0 u1 u2 u3 u4 u5 :=
  ⟨by simp, by go_simp, by go_simp, by go_simp, by go_simp, by go_simp, by go_simp, fun i => by go_simp⟩
theorem Hd.set {w : World} {b : Nat} {u0 u1 u2 u3 u4 u5 : Value} (h : Hd w b u0 u1 u2 u3 u4 u5) (v : Value) :
    Hd (w.setCell ⟨b, 1, none⟩ v) b u0 v u2 u3 u4 u5 ∧ Hd (w.setCell ⟨b, 2, none⟩ v) b u0 u1 v u3 u4 u5 ∧ Hd (w.setCell ⟨b, 3, none⟩ v) b u0 u1 u2 v u4 u5 ∧ Hd (w.setCell ⟨b, 4, none⟩ v) b u0 u1 u2 u3 v u5 ∧ Hd (w.setCell ⟨b, 5, none⟩ v) b u0 u1 u2 u3 u4 v := by
  obtain ⟨h1, c0, c1, c2, c3, c4, c5, hf⟩ := h
  refine ⟨?_, ?_, ?_, ?_, ?_⟩ <;> exact ⟨by simpa [World.setCell] using h1, by go_simp, by go_simp, by go_simp, by go_simp, by go_simp, by go_simp, fun i => by go_simp⟩

set_option maxHeartbeats 4000000 in
theorem iReadHeader_any (l : List UInt8) (w : World) (hl : l.length ≤ 1048576) :
    Calls Tryd.prog 9 #[.string (S l)] w fun e w' => e = .returned (.tuple #[(readHeadS l).1.val, .bool (readHeadS l).2]) ∧ Below w.heap.size w w' := by
  obtain ⟨n1, n2, t1, t2, t3, t4, s2, s3, s4, s5, s6, s7, h1, h2, h3, h4, h5, h6, hP, l2, l3, l4, l5, l6, q1, q2, q3, q4⟩ := head_parts l
  obtain ⟨r7, bad⟩ := s7
  have hV : readHeadS l = if bad = false ∧ showHeadS ⟨n1, n2, t1, t2, t3, t4⟩ = l ∧ l ≠ [] then (⟨n1, n2, t1, t2, t3, t4⟩, true) else (zeroHead, false) := by unfold readHeadS; rw [hP]
  have hgood : bad = false → l ≠ [] := fun h => (headP_good (by rw [hP]; exact h)).2
  have HV := Lib.hid hV
  have HG := Lib.hid hgood
  have H1 := Lib.hid fun (W : World) (h : ScanAt W (w.heap.size + 1) (l, false)) => num_eq h1 hl h
  have H2 := Lib.hid fun (W : World) (h : ScanAt W (w.heap.size + 1) s2) => num_eq h2 (Nat.le_trans l2 hl) h
  have H3 := Lib.hid fun (W : World) (h : ScanAt W (w.heap.size + 1) s3) => text_eq h3 (Nat.le_trans l3 hl) h
  have H4 := Lib.hid fun (W : World) (h : ScanAt W (w.heap.size + 1) s4) => text_eq h4 (Nat.le_trans l4 hl) h
  have H5 := Lib.hid fun (W : World) (h : ScanAt W (w.heap.size + 1) s5) => text_eq h5 (Nat.le_trans l5 hl) h
  have H6 := Lib.hid fun (W : World) (h : ScanAt W (w.heap.size + 1) s6) => text_eq h6 (Nat.le_trans l6 hl) h
  have HSH := Lib.hid fun W : World => iShowHeader_any ⟨n1, n2, t1, t2, t3, t4⟩ W (by simp only; omega) (by simp only; omega) (by simp only; omega) (by simp only; omega)
  clear hV hgood h1 h2 h3 h4 h5 h6 hP l2 l3 l4 l5 l6 q1 q2 q3 q4
  have hb := Below.refl w.heap.size w
  generalize readHeadS l = V at *
  go_enter Tryd.func9, Tryd.ntmps9
  go_wp2_with fail
  have hR := Lib.hid (Hd.new w 25 (.int .i64 0) (.int .i64 0) (.string ⟨#[]⟩) (.string ⟨#[]⟩) (.string ⟨#[]⟩) (.string ⟨#[]⟩))
  generalize hWA : w.alloc (.cells #[.int .i64 0, .int .i64 0, .string ⟨#[]⟩, .string ⟨#[]⟩, .string ⟨#[]⟩, .string ⟨#[]⟩] 25) = WA at *
  have hWAs : WA.heap.size = w.heap.size + 1 := by rw [← hWA]; simp
  have hS := ScanAt.new WA 69 l false
  have hBW : Below w.heap.size w WA := by rw [← hWA]; exact hb.alloc (Nat.le_refl _) _
  rw [hWAs] at hS
  clear hWA
  generalize hWB : WA.alloc (.cells #[.string (S l), .bool false] 69) = WB at *
  have hWBs : WB.heap.size = w.heap.size + 1 + 1 := by rw [← hWB]; simp [hWAs]
  have hRB := Lib.hid (hR.out.but (w' := WB) (B := w.heap.size + 1) (by rw [← hWB]; exact But.of_below ((Below.refl _ _).alloc (Nat.le_refl _) _)) (by omega))
  have hBB : Below w.heap.size w WB := by rw [← hWB]; exact hBW.alloc (by omega) _
  clear hWB hR hBW
  refine (H1.out _ hS).mono ?_
  rintro e w1 ⟨rfl, t1', b1⟩
  have z1 := b1.size
  go_wp2_with fail
  have hH := Hd.new w1 25 (.int .i64 (n1 : Int)) (.int .i64 0) (.string ⟨#[]⟩) (.string ⟨#[]⟩) (.string ⟨#[]⟩) (.string ⟨#[]⟩)
  have hbt := But.alloc b1 (.cells #[.int .i64 (n1 : Int), .int .i64 0, .string ⟨#[]⟩, .string ⟨#[]⟩, .string ⟨#[]⟩, .string ⟨#[]⟩] 25)
  have hsc := t1'.alloc (.cells #[.int .i64 (n1 : Int), .int .i64 0, .string ⟨#[]⟩, .string ⟨#[]⟩, .string ⟨#[]⟩, .string ⟨#[]⟩] 25)
  have hHB : w.heap.size + 1 + 1 ≤ w1.heap.size := by omega
  generalize w1.alloc (.cells #[.int .i64 (n1 : Int), .int .i64 0, .string ⟨#[]⟩, .string ⟨#[]⟩, .string ⟨#[]⟩, .string ⟨#[]⟩] 25) = W2 at *
  generalize w1.heap.size = H at *
  clear b1 t1' z1 hS
  refine (H2.out _ hsc).mono ?_
  rintro e w2 ⟨rfl, hsc', b2⟩
  have hH' := hH.but b2 (by omega)
  have hbt' := hbt.trans b2
  obtain ⟨hl2, c0, c1, c2, c3, c4, c5, hf⟩ := id hH'
  go_wp2_with fail
  have hH2 := (hH'.set (.int .i64 (n2 : Int))).1
  have hbt2 := hbt'.setFar (g := H) (by omega) 1 (.int .i64 (n2 : Int))
  have hsc2 := hsc'.far (g := H) (by omega) 1 (.int .i64 (n2 : Int))
  clear hH hbt hsc hH' hbt' hsc' b2 c0 c1 c2 c3 c4 c5 hf hl2
  have hH := hH2
  have hbt := hbt2
  have hsc := hsc2
  clear hH2 hbt2 hsc2
  generalize w2.setCell ⟨H, 1, none⟩ (.int .i64 (n2 : Int)) = W3 at *
  refine (H3.out _ hsc).mono ?_
  rintro e w3 ⟨rfl, hsc', b3⟩
  have hH' := hH.but b3 (by omega)
  have hbt' := hbt.trans b3
  obtain ⟨hl3, c0, c1, c2, c3, c4, c5, hf⟩ := id hH'
  go_wp2_with fail
  have hH3 := (hH'.set (.string (S t1))).2.1
  have hbt3 := hbt'.setFar (g := H) (by omega) 2 (.string (S t1))
  have hsc3 := hsc'.far (g := H) (by omega) 2 (.string (S t1))
  clear hH hbt hsc hH' hbt' hsc' b3 c0 c1 c2 c3 c4 c5 hf hl3
  have hH := hH3
  have hbt := hbt3
  have hsc := hsc3
  clear hH3 hbt3 hsc3
  generalize w3.setCell ⟨H, 2, none⟩ (.string (S t1)) = W4 at *
  refine (H4.out _ hsc).mono ?_
  rintro e w4 ⟨rfl, hsc', b4⟩
  have hH' := hH.but b4 (by omega)
  have hbt' := hbt.trans b4
  obtain ⟨hl4, c0, c1, c2, c3, c4, c5, hf⟩ := id hH'
  go_wp2_with fail
  have hH4 := (hH'.set (.string (S t2))).2.2.1
  have hbt4 := hbt'.setFar (g := H) (by omega) 3 (.string (S t2))
  have hsc4 := hsc'.far (g := H) (by omega) 3 (.string (S t2))
  clear hH hbt hsc hH' hbt' hsc' b4 c0 c1 c2 c3 c4 c5 hf hl4
  have hH := hH4
  have hbt := hbt4
  have hsc := hsc4
  clear hH4 hbt4 hsc4
  generalize w4.setCell ⟨H, 3, none⟩ (.string (S t2)) = W5 at *
  refine (H5.out _ hsc).mono ?_
  rintro e w5 ⟨rfl, hsc', b5⟩
  have hH' := hH.but b5 (by omega)
  have hbt' := hbt.trans b5
  obtain ⟨hl5, c0, c1, c2, c3, c4, c5, hf⟩ := id hH'
  go_wp2_with fail
  have hH5 := (hH'.set (.string (S t3))).2.2.2.1
  have hbt5 := hbt'.setFar (g := H) (by omega) 4 (.string (S t3))
  have hsc5 := hsc'.far (g := H) (by omega) 4 (.string (S t3))
  clear hH hbt hsc hH' hbt' hsc' b5 c0 c1 c2 c3 c4 c5 hf hl5
  have hH := hH5
  have hbt := hbt5
  have hsc := hsc5
  clear hH5 hbt5 hsc5
  generalize w5.setCell ⟨H, 4, none⟩ (.string (S t3)) = W6 at *
  refine (H6.out _ hsc).mono ?_
  rintro e w6 ⟨rfl, hsc', b6⟩
  have hH' := hH.but b6 (by omega)
  have hbt' := hbt.trans b6
  have hRf := hRB.out.but hbt' (by omega)
  have hbB : Below w.heap.size w w6 := hBB.trans (hbt'.below (k := w.heap.size) (by omega) (by omega))
  obtain ⟨hBs, d0, d1, g0, g1⟩ := hsc'
  obtain ⟨hHl, c0, c1, c2, c3, c4, c5, hf⟩ := hH'
  obtain ⟨hRl, r0, r1, r2, r3, r4, r5, rf⟩ := hRf
  simp only at d0 d1
  have e1 : ¬ H = w.heap.size + 1 := by omega
  have e2 : ¬ H = w.heap.size := by omega
  have e3 : ¬ w.heap.size = H := by omega
  have e4 : ¬ w.heap.size + 1 = H := by omega
  clear hsc hH hbt hbt' b6 hWBs hb H1 H2 H3 H4 H5 H6
  have hb := hbB
  clear hbB
  cases bad
  · have hne : l.isEmpty = false := by
      have := HG.out rfl
      cases l with
      | nil => exact absurd rfl this
      | cons a t => rfl
    by_cases hs : showHeadS ⟨n1, n2, t1, t2, t3, t4⟩ = l
    · have HV2 : Hid (V = (⟨n1, n2, t1, t2, t3, t4⟩, true)) := by unfold Hid; rw [HV.out, if_pos ⟨rfl, hs, HG.out rfl⟩]
      rw [hs] at HSH
      go_wp2_with (go_at_call 10; refine (HSH.out _).mono ?_; rintro e wn ⟨rfl, hbn⟩; have hb := Below.next (w := w) (by repeat (first | with_reducible exact hb | with_reducible exact Below.refl _ _ | refine Below.drew ?_ | refine Below.setCell ?_ (by simp <;> omega) _ | refine Below.alloc ?_ (by simp <;> omega) _)) hbn; obtain ⟨hcc, hff⟩ := bcell hbn; have hzz := hbn.size; simp at hzz; clear hbn)
      refine bodyPost_ret (v := .tuple #[.agg #[.int .i64 (n1 : Int), .int .i64 (n2 : Int), .string (S t1), .string (S t2), .string (S t3), .string (S t4)], .bool true]) (by simp [results, Tryd.results9, go_sem, *]) rfl ⟨by rw [HV2.out]; rfl, ?_⟩
      repeat (first | with_reducible exact hb | with_reducible refine Below.setCell ?_ (by simp <;> omega) _)
    · have HV2 : Hid (V = (zeroHead, false)) := by unfold Hid; rw [HV.out, if_neg (fun h => hs h.2.1)]
      have hs' : (showHeadS ⟨n1, n2, t1, t2, t3, t4⟩ == l) = false := by simpa using hs
      generalize showHeadS ⟨n1, n2, t1, t2, t3, t4⟩ = Z at *
      go_wp2_with (go_at_call 10; refine (HSH.out _).mono ?_; rintro e wn ⟨rfl, hbn⟩; have hb := Below.next (w := w) (by repeat (first | with_reducible exact hb | with_reducible exact Below.refl _ _ | refine Below.drew ?_ | refine Below.setCell ?_ (by simp <;> omega) _ | refine Below.alloc ?_ (by simp <;> omega) _)) hbn; obtain ⟨hcc, hff⟩ := bcell hbn; have hzz := hbn.size; simp at hzz; clear hbn)
      refine bodyPost_ret (v := .tuple #[.agg #[.int .i64 0, .int .i64 0, .string ⟨#[]⟩, .string ⟨#[]⟩, .string ⟨#[]⟩, .string ⟨#[]⟩], .bool false]) (by simp [results, Tryd.results9, go_sem, *]) rfl ⟨by rw [HV2.out]; rfl, ?_⟩
      repeat (first | with_reducible exact hb | with_reducible refine Below.setCell ?_ (by simp <;> omega) _)
  · have HV2 : Hid (V = (zeroHead, false)) := by unfold Hid; rw [HV.out, if_neg (by simp)]
    go_wp2_with fail
    refine bodyPost_ret (v := .tuple #[.agg #[.int .i64 0, .int .i64 0, .string ⟨#[]⟩, .string ⟨#[]⟩, .string ⟨#[]⟩, .string ⟨#[]⟩], .bool false]) (by simp [results, Tryd.results9, go_sem, *]) rfl ⟨by rw [HV2.out]; rfl, ?_⟩
    repeat (first | with_reducible exact hb | with_reducible refine Below.setCell ?_ (by simp <;> omega) _)

theorem Hd.next {w w' : World} {b : Nat} {u0 u1 u2 u3 u4 u5 : Value} (h : Hd w b u0 u1 u2 u3 u4 u5) (hb : Below w.heap.size w w') : Hd w' b u0 u1 u2 u3 u4 u5 := h.but (B := b + 1) (But.of_below hb) (by omega)
set_option maxHeartbeats 4000000 in
theorem sReadHeader_any (l : List UInt8) (w : World) (hl : l.length ≤ 1048576) :
    Calls Tryd.prog 12 #[.string (S l)] w fun e w' => e = .returned (.tuple #[(readHeadS l).1.val, .bool (readHeadS l).2]) ∧ Below w.heap.size w w' := by
  obtain ⟨n1, n2, t1, t2, t3, t4, s2, s3, s4, s5, s6, s7, h1, h2, h3, h4, h5, h6, hP, l2, l3, l4, l5, l6, q1, q2, q3, q4⟩ := head_parts l
  have hV : readHeadS l = if s7.2 = false ∧ s7.1 = [] ∧ showHeadS ⟨n1, n2, t1, t2, t3, t4⟩ = l then (⟨n1, n2, t1, t2, t3, t4⟩, true) else (zeroHead, false) := by rw [readHead_spec, hP]
  have hbd : s3.2 = true → s7.2 = true := fun h => by
    have k4 := textP_stay h
    rw [h3] at k4
    have k5 := textP_stay k4
    rw [h4] at k5
    have k6 := textP_stay k5
    rw [h5] at k6
    have k7 := textP_stay k6
    rw [h6] at k7
    exact k7
  have u2 : Suf l s2 := by have := (Suf.start l).num; rw [h1] at this; exact this
  have u3 : Suf l s3 := by have := u2.num; rw [h2] at this; exact this
  have u4 : Suf l s4 := by have := u3.text; rw [h3] at this; exact this
  have u5 : Suf l s5 := by have := u4.text; rw [h4] at this; exact this
  have u6 : Suf l s6 := by have := u5.text; rw [h5] at this; exact this
  have u7 : Suf l s7 := by have := u6.text; rw [h6] at this; exact this
  have hn : numsAt (l, false) 2 = ([(n1 : Int), (n2 : Int)], s3) := by simp only [numsAt, h1, h2, List.nil_append, List.cons_append]
  have hp0 : posOf l (l, false) = 0 := by unfold posOf; rw [if_neg (by simp)]; simp
  have hN := fun W : World => l6Vars_any l (l, false) 2 W hl (Suf.start l) (by omega)
  rw [hn, hp0] at hN
  have HN := Lib.hid hN
  have HV := Lib.hid hV
  have H3 := Lib.hid fun (W : World) => take_eq (w := W) h3 hl u3
  have H4 := Lib.hid fun (W : World) => take_eq (w := W) h4 hl u4
  have H5 := Lib.hid fun (W : World) => take_eq (w := W) h5 hl u5
  have H6 := Lib.hid fun (W : World) => take_eq (w := W) h6 hl u6
  have HA := Lib.hid (posOf_all u7)
  have HSH := Lib.hid fun W : World => sShowHeader_any ⟨n1, n2, t1, t2, t3, t4⟩ W (by simp only; omega) (by simp only; omega) (by simp only; omega) (by simp only; omega)
  have HP := Lib.hid (fun h : s3.2 = true => posOf_bad (l := l) h)
  have HQ := Lib.hid (fun h : s3.2 = false => posOf_good u3 h)
  clear hV hN hn hp0 h1 h2 h3 h4 h5 h6 hP l2 l3 l4 l5 l6 q1 q2 q3 q4 u2 u3 u4 u5 u6 u7
  have hb := Below.refl w.heap.size w
  generalize readHeadS l = V at *
  generalize posOf l s4 = p4 at *
  generalize posOf l s5 = p5 at *
  generalize posOf l s6 = p6 at *
  generalize posOf l s7 = p7 at *
  go_enter Tryd.func12, Tryd.ntmps12
  go_wp2_with fail
  have hR := (Hd.new w 25 (.int .i64 0) (.int .i64 0) (.string ⟨#[]⟩) (.string ⟨#[]⟩) (.string ⟨#[]⟩) (.string ⟨#[]⟩))
  have hb1 := hb.alloc (Nat.le_refl _) (.cells #[.int .i64 0, .int .i64 0, .string ⟨#[]⟩, .string ⟨#[]⟩, .string ⟨#[]⟩, .string ⟨#[]⟩] 25)
  generalize hWA : w.alloc (.cells #[.int .i64 0, .int .i64 0, .string ⟨#[]⟩, .string ⟨#[]⟩, .string ⟨#[]⟩, .string ⟨#[]⟩] 25) = WA at *
  refine (HN.out _).mono ?_
  rintro e w1 ⟨A, m, c, rfl, him, b1⟩
  have hR := hR.next b1
  have hb := Below.next hb1 b1
  clear hWA hb1 b1
  cases h3b : s3.2
  · obtain ⟨q, hq, _, hqp⟩ := HQ.out h3b
    rw [hqp] at H3
    rw [hqp]
    obtain ⟨rfl, hI⟩ := him h3b
    have hqi : 0 ≤ (q : Int) ∧ (q : Int) ≤ l.length := by omega
    clear him
    go_wp2_with fail
    refine (H3.out _).mono ?_
    rintro e w2 ⟨rfl, b⟩
    have hR := hR.next b
    have hb := Below.next hb b
    have hI := hI.to b
    go_wp2_with fail
    refine (H4.out _).mono ?_
    rintro e w3 ⟨rfl, b⟩
    have hR := hR.next b
    have hb := Below.next hb b
    have hI := hI.to b
    go_wp2_with fail
    refine (H5.out _).mono ?_
    rintro e w4 ⟨rfl, b⟩
    have hR := hR.next b
    have hb := Below.next hb b
    have hI := hI.to b
    go_wp2_with fail
    refine (H6.out _).mono ?_
    rintro e w5 ⟨rfl, b⟩
    have hR := hR.next b
    have hb := Below.next hb b
    have hI := hI.to b
    obtain ⟨bl, off, rfl, hbb, hcl⟩ := hI (by simp)
    have k0 := hcl 0 (by simp)
    have k1 := hcl 1 (by simp)
    simp only [List.getElem_cons_zero, List.getElem_cons_succ, Nat.add_zero] at k0 k1
    obtain ⟨hRl, r0, r1, r2, r3, r4, r5, rf⟩ := hR
    have hRl1 : w.heap.size < w5.heap.size + 1 := by omega
    clear hcl hI H3 H4 H5 H6 b
    by_cases hp : p7 = (l.length : Int)
    · obtain ⟨hg7, hn7⟩ := HA.out.1 hp
      have HPP := Lib.hid hp
      clear hp
      rw [HPP.out]
      clear HPP HA
      by_cases hs : showHeadS ⟨n1, n2, t1, t2, t3, t4⟩ = l
      · have HV2 : Hid (V = (⟨n1, n2, t1, t2, t3, t4⟩, true)) := by unfold Hid; rw [HV.out, if_pos ⟨hg7, hn7, hs⟩]
        rw [hs] at HSH
        go_wp2_with fail
        go_region
        go_wp2_with (go_at_call 48; refine (HSH.out _).mono ?_; rintro e wn ⟨rfl, hbn⟩; have hb := Below.next (w := w) (by repeat (first | with_reducible exact hb | with_reducible exact Below.refl _ _ | refine Below.drew ?_ | refine Below.setCell ?_ (by first | omega | (simp <;> omega)) _ | refine Below.alloc ?_ (by first | omega | (simp <;> omega)) _)) hbn; obtain ⟨hcc, hff⟩ := bcell hbn; have hzz := hbn.size; simp at hzz; clear hbn)
        refine bodyPost_ret (v := .tuple #[.agg #[.int .i64 (n1 : Int), .int .i64 (n2 : Int), .string (S t1), .string (S t2), .string (S t3), .string (S t4)], .bool true]) (by simp [results, Tryd.results12, go_sem, *]) rfl ⟨by rw [HV2.out]; rfl, ?_⟩
        repeat (first | with_reducible exact hb | with_reducible refine Below.drew ?_ | with_reducible refine Below.setCell ?_ (by first | omega | (simp <;> omega)) _ | with_reducible refine Below.alloc ?_ (by first | omega | (simp <;> omega)) _)
      · have HV2 : Hid (V = (zeroHead, false)) := by unfold Hid; rw [HV.out, if_neg (fun h => hs h.2.2)]
        have hs' : (showHeadS ⟨n1, n2, t1, t2, t3, t4⟩ == l) = false := by simpa using hs
        generalize showHeadS ⟨n1, n2, t1, t2, t3, t4⟩ = Z at *
        go_wp2_with fail
        go_region
        go_wp2_with (go_at_call 48; refine (HSH.out _).mono ?_; rintro e wn ⟨rfl, hbn⟩; have hb := Below.next (w := w) (by repeat (first | with_reducible exact hb | with_reducible exact Below.refl _ _ | refine Below.drew ?_ | refine Below.setCell ?_ (by first | omega | (simp <;> omega)) _ | refine Below.alloc ?_ (by first | omega | (simp <;> omega)) _)) hbn; obtain ⟨hcc, hff⟩ := bcell hbn; have hzz := hbn.size; simp at hzz; clear hbn)
        refine bodyPost_ret (v := .tuple #[.agg #[.int .i64 0, .int .i64 0, .string ⟨#[]⟩, .string ⟨#[]⟩, .string ⟨#[]⟩, .string ⟨#[]⟩], .bool false]) (by simp [results, Tryd.results12, go_sem, *]) rfl ⟨by rw [HV2.out]; rfl, ?_⟩
        repeat (first | with_reducible exact hb | with_reducible refine Below.drew ?_ | with_reducible refine Below.setCell ?_ (by first | omega | (simp <;> omega)) _ | with_reducible refine Below.alloc ?_ (by first | omega | (simp <;> omega)) _)
    · have HV2 : Hid (V = (zeroHead, false)) := by unfold Hid; rw [HV.out, if_neg (fun h => hp (HA.out.2 ⟨h.1, h.2.1⟩))]
      clear HA
      go_wp2_with fail
      go_region
      go_wp2
      refine bodyPost_ret (v := .tuple #[.agg #[.int .i64 0, .int .i64 0, .string ⟨#[]⟩, .string ⟨#[]⟩, .string ⟨#[]⟩, .string ⟨#[]⟩], .bool false]) (by simp [results, Tryd.results12, go_sem, *]) rfl ⟨by rw [HV2.out]; rfl, ?_⟩
      repeat (first | with_reducible exact hb | with_reducible refine Below.drew ?_ | with_reducible refine Below.setCell ?_ (by first | omega | (simp <;> omega)) _ | with_reducible refine Below.alloc ?_ (by first | omega | (simp <;> omega)) _)
  · have HV2 : Hid (V = (zeroHead, false)) := by unfold Hid; rw [HV.out, if_neg (fun h => by rw [hbd h3b] at h; cases h.1)]
    rw [HP.out h3b]
    obtain ⟨hRl, r0, r1, r2, r3, r4, r5, rf⟩ := hR
    clear H3 H4 H5 H6 HN him
    go_wp2_with fail
    refine bodyPost_ret (v := .tuple #[.agg #[.int .i64 0, .int .i64 0, .string ⟨#[]⟩, .string ⟨#[]⟩, .string ⟨#[]⟩, .string ⟨#[]⟩], .bool false]) (by simp [results, Tryd.results12, go_sem, *]) rfl ⟨by rw [HV2.out]; rfl, ?_⟩
    repeat (first | with_reducible exact hb | with_reducible refine Below.drew ?_ | with_reducible refine Below.setCell ?_ (by first | omega | (simp <;> omega)) _ | with_reducible refine Below.alloc ?_ (by first | omega | (simp <;> omega)) _)

end Go.Proofs.YtecimgkgdpnaeaaDoor
