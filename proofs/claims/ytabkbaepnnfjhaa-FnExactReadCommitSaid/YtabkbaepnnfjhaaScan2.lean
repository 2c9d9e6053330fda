/-
  l6Vars, l6Take of the reference.
-/
import Derived.Test.YtabkbaepnnfjhaaScan1
import Derived.Test.YtabkbaepnnfjhaaOwn0
namespace Go.Proofs.Ytabkbaepnnfjhaa
open Go.ChangeShapes Go.WideShapes Go.ChangeAt Go.RowKit
set_option linter.unusedVariables false
set_option linter.unusedSimpArgs false
set_option maxRecDepth 100000

/-- Numbers one behind the other. -/
def numsAt (s : Sc) : Nat → List Int × Sc
  | 0 => ([], s)
  | i + 1 => ((numsAt s i).1 ++ [((numP (numsAt s i).2).1 : Int)], (numP (numsAt s i).2).2)
theorem numsAt_len (s : Sc) (i : Nat) : (numsAt s i).1.length = i := by
  induction i with
  | zero => rfl
  | succ i ih => simp only [numsAt, List.length_append, List.length_singleton, ih]
theorem numsAt_bad {s : Sc} {i j : Nat} (h : (numsAt s i).2.2 = true) (hij : i ≤ j) : (numsAt s j).2.2 = true := by
  induction j with
  | zero => obtain rfl : i = 0 := by omega
            exact h
  | succ j ih =>
    rcases Nat.lt_or_ge j i with h1 | h1
    · obtain rfl : i = j + 1 := by omega
      exact h
    · exact numP_stay (ih h1)
/-- The place of what is left; -1 where it went wrong. -/
def posOf (l : List UInt8) (s : Sc) : Int := if s.2 = true then -1 else (l.length : Int) - s.1.length
/-- What is left is an end of it. -/
def Suf (l : List UInt8) (s : Sc) : Prop := ∃ k, k ≤ l.length ∧ s.1 = l.drop k
theorem Suf.start (l : List UInt8) : Suf l (l, false) := ⟨0, by omega, rfl⟩
theorem Suf.num {l : List UInt8} {s : Sc} (h : Suf l s) : Suf l (numP s).2 := by
  obtain ⟨k, hk, e⟩ := h
  unfold numP
  split
  · exact ⟨k, hk, e⟩
  · have hsp := readVar_spec s.1
    refine ⟨k + (readVarS s.1).2, ?_, by rw [e, List.drop_drop]⟩
    have : (readVarS s.1).2 ≤ s.1.length := by rcases hsp with h | h <;> omega
    rw [e, List.length_drop] at this
    rw [e]; omega
theorem Suf.cut {l : List UInt8} {s : Sc} (h : Suf l s) (n : Int) : Suf l (cutP s n).2 := by
  obtain ⟨k, hk, e⟩ := h
  unfold cutP
  split
  · exact ⟨k, hk, e⟩
  · rename_i hc
    refine ⟨k + n.toNat, ?_, by rw [e, List.drop_drop]⟩
    have := congrArg List.length e
    rw [List.length_drop] at this
    omega
theorem Suf.text {l : List UInt8} {s : Sc} (h : Suf l s) : Suf l (textP s).2 := h.num.cut _
theorem Suf.nums {l : List UInt8} {s : Sc} (h : Suf l s) (i : Nat) : Suf l (numsAt s i).2 := by
  induction i with
  | zero => exact h
  | succ i ih => exact ih.num
theorem posOf_bad {l : List UInt8} {s : Sc} (h : s.2 = true) : posOf l s = -1 := by unfold posOf; rw [if_pos h]
theorem posOf_good {l : List UInt8} {s : Sc} (hs : Suf l s) (h : s.2 = false) : ∃ k, k ≤ l.length ∧ s = (l.drop k, false) ∧ posOf l s = (k : Int) := by
  obtain ⟨k, hk, e⟩ := hs
  obtain ⟨r, b⟩ := s
  simp only at h e
  subst h e
  refine ⟨k, hk, rfl, ?_⟩
  unfold posOf
  rw [if_neg (by simp)]
  simp; omega
/-- The reference's test that all is read. -/
theorem posOf_all {l : List UInt8} {s : Sc} (hs : Suf l s) : posOf l s = (l.length : Int) ↔ s.2 = false ∧ s.1 = [] := by
  cases h : s.2
  · obtain ⟨k, hk, e, hp⟩ := posOf_good hs h
    rw [hp, e]
    simp only [List.drop_eq_nil_iff, true_and]
    omega
  · rw [posOf_bad h]; simp <;> omega
theorem readVar_drop {l : List UInt8} (k : Nat) : numP (l.drop k, false) = if (readVarS (l.drop k)).2 = 0 then (0, (l.drop k, true)) else ((readVarS (l.drop k)).1, ((l.drop k).drop (readVarS (l.drop k)).2, false)) := by
  by_cases h : (readVarS (l.drop k)).2 = 0
  · rw [if_pos h, numP_none h]
  · rw [if_neg h, numP_some h]

set_option maxHeartbeats 1000000 in
theorem l6Vars_own (l : List UInt8) (s : Sc) (n : Nat) (w : World) (hl : l.length ≤ 1048576) (hs : Suf l s) (hn : n ≤ 1000) :
    Calls Try.prog 68 #[.string (S l), .int .i64 (posOf l s), .int .i64 (n : Int)] w fun e w' => ∃ A m c, e = .returned (.tuple #[.slice A m c, .int .i64 (posOf l (numsAt s n).2)]) ∧ ((numsAt s n).2.2 = false → m = n ∧ w'.ownsRow w.heap.size 3 1 (.slice A m c) m ((numsAt s n).1.map iv)) ∧ Below w.heap.size w w' := by
  obtain ⟨i0, hi, hz0, hz1, hz2⟩ := info_parts own_info
  have hb := Below.refl w.heap.size w
  have HBAD := Lib.hid fun (k : Nat) (hk : k ≤ n) (h : (numsAt s k).2.2 = true) => numsAt_bad h hk
  have HP := Lib.hid fun (h : (numsAt s n).2.2 = true) => posOf_bad (l := l) h
  have HSUF := Lib.hid fun k => hs.nums k
  have HLEN := Lib.hid fun k => numsAt_len s k
  have HS0 : Hid (posOf l s = posOf l (numsAt s 0).2) := rfl
  have HSTEP : Hid (∀ k, numsAt s (k + 1) = ((numsAt s k).1 ++ [((numP (numsAt s k).2).1 : Int)], (numP (numsAt s k).2).2)) := fun k => rfl
  have HN0 : Hid ((numsAt s 0).1 = []) := rfl
  rw [HS0.out]
  clear hs HS0
  generalize hNA : numsAt s = NA at *
  clear hNA
  go_enter Try.func68, Try.ntmps68
  go_wp2_with fail
  go_loopw [1, 8, 9] (fun at_ out i wr => ∃ k : Nat, k ≤ n ∧ i = .int .i64 (k : Int) ∧ at_ = .int .i64 (posOf l (NA k).2) ∧ wr.ownsRow w.heap.size 3 1 out k ((NA k).1.map iv) ∧ Below w.heap.size w wr) (fun _ _ i _ => n - (intOf i).toNat)
  case atStart => exact ⟨0, by omega, rfl, rfl, by rw [HN0.out]; exact World.ownsRow_lit w #[] 0 (Nat.le_refl _) (by simp [maxLen]) rfl, hb.alloc (Nat.le_refl _) _⟩
  case round =>
    obtain ⟨k, hk, rfl, rfl, hown, hb⟩ := hrel
    have hki : 0 ≤ (k : Int) ∧ (k : Int) ≤ n := by omega
    obtain ⟨A, c, rfl⟩ := own_slice hown
    by_cases hlt : k < n
    · cases hg : (NA k).2.2
      · obtain ⟨q, hq, hqe, hqp⟩ := posOf_good (HSUF.out k) hg
        rw [hqp]
        have hqi : 0 ≤ (q : Int) ∧ (q : Int) ≤ l.length := by omega
        have hx : (S l).extract q l.length = S (l.drop q) := by rw [S_cut, List.take_of_length_le (by simp)]
        have HR := Lib.hid fun W : World => sReadVar_any (l.drop q) W (by simp; omega)
        have hst := HSTEP.out k
        rw [hqe, readVar_drop] at hst
        have hpl : (readVarS (l.drop q)).2 ≤ l.length - q := by
          have hsp := readVar_spec (l.drop q)
          rw [List.length_drop] at hsp
          rcases hsp with h | h <;> omega
        have hpn : (readVarS (l.drop q)).1 < 562949953421312 := by
          have hsp := readVar_spec (l.drop q)
          rcases hsp with h | h <;> omega
        have HDR := Lib.hid fun j => (List.drop_drop (i := j) (j := q) (l := l))
        have HST := Lib.hid hst
        have HSF := Lib.hid (HSUF.out (k + 1))
        clear hst
        generalize l.drop q = r at *
        generalize (readVarS r).1 = x at *
        generalize (readVarS r).2 = p at *
        by_cases hp : p = 0
        · subst hp
          have hbd : (NA (k + 1)).2.2 = true := by rw [HST.out, if_pos rfl]
          have HV := Lib.hid (HBAD.out (k + 1) (by omega) hbd)
          have HW := Lib.hid (HP.out HV.out)
          clear hbd
          go_wp2_with (go_at_call 90; refine (HR.out _).mono ?_; rintro e wn ⟨rfl, hbn⟩; have hb := Below.next (w := w) hb hbn)
          go_ret2
          exact ⟨A, k, c, by rw [HW.out]; rfl, (fun h => by rw [HV.out] at h; cases h), hb⟩
        · have hst2 : NA (k + 1) = ((NA k).1 ++ [(x : Int)], (r.drop p, false)) := by rw [HST.out, if_neg hp]
          have hpos : posOf l (NA (k + 1)).2 = (q : Int) + p := by
            rw [hst2]
            unfold posOf
            have := HDR.out p
            rw [if_neg (by simp), this]
            simp; omega
          have HPOS := Lib.hid hpos
          have HMAP : Hid ((NA (k + 1)).1.map iv = (NA k).1.map iv ++ [.int .i64 (x : Int)]) := by unfold Hid; rw [hst2, List.map_append]; rfl
          clear hst2 hpos
          go_wp2_with (first | (go_at_call 90; refine (HR.out _).mono ?_; rintro e wn ⟨rfl, hbn⟩; have hb := Below.next (w := w) hb hbn; have hown := own_below hown hbn) | (at_builtin; refine app_lit rfl _ _ 25 rfl Try.underlying25 hi hz0 hz1 hz2 rfl (by decide) rfl hown hb rfl rfl (one_cell1 _ _) (by unfold maxLen; omega) (by omega) ?_; intro v1 w2 hown1 hb2))
          go_roundw
          case rel => exact ⟨k + 1, by omega, by go_num, by (try rw [HPOS.out]); (try go_num), by rw [HMAP.out]; exact hown1, hb2⟩
          case measure => simp [intOf]; omega
      · have HV := Lib.hid (HBAD.out k hk hg)
        have HW := Lib.hid (HP.out HV.out)
        rw [posOf_bad hg]
        go_wp2
        go_ret2
        exact ⟨A, k, c, by rw [HW.out]; rfl, (fun h => by rw [HV.out] at h; cases h), hb⟩
    · obtain rfl : k = n := by omega
      go_wp2
      go_ret2
      exact ⟨A, k, c, rfl, (fun _ => ⟨rfl, hown⟩), hb⟩

theorem l6Vars_any (l : List UInt8) (s : Sc) (n : Nat) (w : World) (hl : l.length ≤ 1048576) (hs : Suf l s) (hn : n ≤ 1000) :
    Calls Try.prog 68 #[.string (S l), .int .i64 (posOf l s), .int .i64 (n : Int)] w fun e w' => ∃ A m c, e = .returned (.tuple #[.slice A m c, .int .i64 (posOf l (numsAt s n).2)]) ∧ ((numsAt s n).2.2 = false → m = n ∧ IReads w' w'.heap.size A (numsAt s n).1) ∧ Below w.heap.size w w' :=
  (l6Vars_own l s n w hl hs hn).mono fun e w' ⟨A, m, c, h1, h2, h3⟩ => ⟨A, m, c, h1, fun h => ⟨(h2 h).1, own_ireads (h2 h).2 (by rw [(h2 h).1]; exact numsAt_len s n)⟩, h3⟩
theorem l6Take_any (l : List UInt8) (s : Sc) (w : World) (hl : l.length ≤ 1048576) (hs : Suf l s) :
    Calls Try.prog 69 #[.string (S l), .int .i64 (posOf l s)] w fun e w' => e = .returned (.tuple #[.string (S (textP s).1), .int .i64 (posOf l (textP s).2)]) ∧ Below w.heap.size w w' := by
  have HV := Lib.hid (l6Vars_any l s 1 w hl hs (by omega))
  have hn1 : numsAt s 1 = ([((numP s).1 : Int)], (numP s).2) := rfl
  rw [hn1] at HV
  have hT : textP s = cutP (numP s).2 ((numP s).1 : Int) := rfl
  have hlt := numP_lt s
  have hS2 := hs.num
  clear hs hn1
  generalize (numP s).1 = n at *
  generalize (numP s).2 = t at *
  generalize textP s = V at *
  cases hg : t.2
  · obtain ⟨q, hq, rfl, hqp⟩ := posOf_good hS2 hg
    rw [hqp] at HV
    have hqi : 0 ≤ (q : Int) ∧ (q : Int) ≤ l.length := by omega
    by_cases hc : n ≤ l.length - q
    · have hx : (S l).extract q (q + n) = S ((l.drop q).take n) := by rw [S_cut]; congr 2; omega
      have hqn : ((q : Int) + n).toNat = q + n := by omega
      have hT2 : Hid (V = ((l.drop q).take n, ((l.drop q).drop n, false))) := by unfold Hid; rw [hT, cutP_yes (by simp; omega)]
      have hP : Hid (posOf l ((l.drop q).drop n, false) = (q : Int) + n) := by
        unfold Hid posOf
        rw [if_neg (by simp), List.drop_drop]
        simp; omega
      clear hT
      go_enter Try.func69, Try.ntmps69
      go_wp2_with fail
      refine HV.out.mono ?_
      rintro e wn ⟨A, m, c, rfl, hm, hbn⟩
      obtain ⟨hm1, hr⟩ := hm (by first | trivial | rfl)
      subst hm1
      obtain ⟨b, off, rfl, hbb, hcl⟩ := hr (by simp)
      have c0 := hcl 0 (by simp)
      simp only [List.getElem_cons_zero, Nat.add_zero] at c0
      have hb := hbn
      clear hcl hr hm
      go_wp2_with fail
      (try go_region)
      go_wp2
      go_ret2
      exact ⟨by rw [hT2.out, hP.out]; rfl, by first | exact hb | exact hb.drew⟩
    · have hT2 : Hid (V = ([], (l.drop q, true))) := by unfold Hid; rw [hT, cutP_no (by right; simp; omega)]
      have hP : Hid (posOf l (l.drop q, true) = -1) := posOf_bad rfl
      clear hT
      go_enter Try.func69, Try.ntmps69
      go_wp2_with fail
      refine HV.out.mono ?_
      rintro e wn ⟨A, m, c, rfl, hm, hbn⟩
      obtain ⟨hm1, hr⟩ := hm (by first | trivial | rfl)
      subst hm1
      obtain ⟨b, off, rfl, hbb, hcl⟩ := hr (by simp)
      have c0 := hcl 0 (by simp)
      simp only [List.getElem_cons_zero, Nat.add_zero] at c0
      have hb := hbn
      clear hcl hr hm
      go_wp2_with fail
      (try go_region)
      go_wp2
      go_ret2
      exact ⟨by rw [hT2.out, hP.out]; rfl, hb⟩
  · obtain ⟨r, b⟩ := t
    simp only at hg
    subst hg
    have hT2 : Hid (V = ([], (r, true))) := by unfold Hid; rw [hT, cutP_bad]
    have hP : posOf l (r, true) = -1 := posOf_bad rfl
    rw [hP] at HV
    have HP := Lib.hid hP
    clear hT hP
    go_enter Try.func69, Try.ntmps69
    go_wp2_with fail
    refine HV.out.mono ?_
    rintro e wn ⟨A, m, c, rfl, hm, hbn⟩
    have hb := hbn
    clear hm
    go_wp2
    go_ret2
    exact ⟨by rw [hT2.out, HP.out]; rfl, hb⟩
end Go.Proofs.Ytabkbaepnnfjhaa
