/-
  PathRoot, l4Up, Includes: both sides.
-/
import Derived.Test.YtnmgecaflildoaaDoorTree1
import Derived.Test.YtnmgecaflildoaaDoorNum1
namespace Go.Proofs.YtnmgecaflildoaaDoor
open Go.ChangeShapes Go.WideShapes Go.ChangeAt Go.RowKit
set_option linter.unusedVariables false
set_option linter.unusedSimpArgs false
set_option maxRecDepth 100000

theorem inB_mk {x lo hi : Int} (h1 : lo ≤ x) (h2 : x ≤ hi) : inB x lo hi = true := by unfold inB; rw [decide_eq_true h1, decide_eq_true h2]; rfl
theorem inB_no {x lo hi : Int} (h : x < lo ∨ hi < x) : inB x lo hi = false := by unfold inB; simp; omega
/-- What follows, or nothing. -/
def upV (o : Option (List UInt8)) : List UInt8 := o.getD []
theorem upS_len {leaf : List UInt8} {i n : Nat} {p : List (List UInt8)} : (upV (upS leaf i n p)).length ≤ leaf.length + 32 := by
  unfold upV
  cases h : upS leaf i n p with
  | none => simp
  | some r => exact upF_len n leaf i n p r h
theorem last_at {w : World} {B b off : Nat} {p : List (List UInt8)} (hp : 0 < p.length) (h : TReads w B (some ⟨b, off, none⟩) p) : w.cell? ⟨b, off + (p.length - 1), none⟩ = some (.string (S (p.getD (p.length - 1) []))) := by
  obtain ⟨b', off', e, _, hc⟩ := h hp
  cases e
  rw [hc (p.length - 1) (by omega)]
  simp [List.getD, List.getElem?_eq_getElem (show p.length - 1 < p.length by omega)]
theorem last_len {p : List (List UInt8)} (hx : ∀ x ∈ p, x.length ≤ 1048576) : (p.getD (p.length - 1) []).length ≤ 1048576 := by
  rw [List.getD]
  cases h : p[p.length - 1]? with
  | none => simp
  | some x => exact hx x (List.mem_of_getElem? h)


set_option maxHeartbeats 4000000 in
theorem iUp_any (leaf : List UInt8) (hlf : leaf.length ≤ 1048576) (m : Nat) : ∀ (i n : Nat) (p : List (List UInt8)) (A : Option Addr) (q c : Nat) (w : World), n ≤ m → 1 ≤ n → n ≤ 40 → i < n → p.length = q → q ≤ c → q ≤ 1048576 → c ≤ 9223372036854775807 → (∀ x ∈ p, x.length ≤ 1048576) → TReads w w.heap.size A p → HasK w →
    Calls Tryd.prog 37 #[.string (S leaf), .int .i64 (i : Int), .int .i64 (n : Int), .slice A q c] w fun e w' => e = .returned (.tuple #[.string (S (upV (upS leaf i n p))), .bool (upS leaf i n p).isSome]) ∧ Below w.heap.size w w' := by
  induction m using Nat.strongRecOn with
  | _ m ih =>
    intro i n p A q c w hm h1 h40 hi hq hqc hq2 hc hx hR hK
    have hb := Below.refl w.heap.size w
    have HR := Lib.hid hR
    have HX := Lib.hid hx
    have HK := Lib.hid hK
    clear hR hx hK
    have g1 : 1 ≤ (n : Int) ∧ (n : Int) ≤ 40 := by omega
    have g2 : 0 ≤ (i : Int) ∧ (i : Int) ≤ (n : Int) - 1 := by omega
    have gb1 : inB (n : Int) 1 40 = true := inB_mk g1.1 g1.2
    have gb2 : inB (i : Int) 0 ((n : Int) - 1) = true := inB_mk g2.1 g2.2
    by_cases hn1 : n = 1
    · subst hn1
      have gb3 : inB (i : Int) 0 0 = true := inB_mk (by omega) (by omega)
      by_cases hp : q = 0
      · have HV : Hid (upS leaf i 1 p = some leaf) := by unfold Hid; rw [upS_one, if_pos (by omega)]
        subst hp
        go_enter Tryd.func37, Tryd.ntmps37
        go_wp2_with (go_at_call 36; refine (within_b _ _ _ _).mono ?_; rintro e w' ⟨rfl, rfl⟩)
        go_ret2
        exact ⟨by rw [HV.out]; rfl, hb⟩
      · have HV : Hid (upS leaf i 1 p = none) := by unfold Hid; rw [upS_one, if_neg (by omega)]
        have hp0 : 0 < (q : Int) := by omega
        go_enter Tryd.func37, Tryd.ntmps37
        go_wp2_with (go_at_call 36; refine (within_b _ _ _ _).mono ?_; rintro e w' ⟨rfl, rfl⟩)
        go_ret2
        exact ⟨by rw [HV.out]; rfl, hb⟩
    have hn1' : ((n : Int) == 1) = false := by simp; omega
    by_cases hp : q = 0
    · have HV : Hid (upS leaf i n p = none) := by unfold Hid; rw [List.eq_nil_of_length_eq_zero (show p.length = 0 by omega)]; exact upS_none (by omega) _ _
      subst hp
      go_enter Tryd.func37, Tryd.ntmps37
      go_wp2_with (go_at_call 36; refine (within_b _ _ _ _).mono ?_; rintro e w' ⟨rfl, rfl⟩)
      go_ret2
      exact ⟨by rw [HV.out]; rfl, hb⟩
    have hp1 : 0 ≤ (q : Int) - 1 ∧ (q : Int) - 1 < q := by omega
    have hp2 : (q : Int) - 1 ≤ c := by omega
    have tq : ((q : Int) - 1).toNat = q - 1 := by omega
    have hsp := splitN_bound (n := n) (by omega)
    obtain ⟨b, off, rfl, hbB, hcc⟩ := HR.out (by omega)
    clear hcc
    have HC := Lib.hid fun (W : World) (h : Below w.heap.size w W) => last_at (by omega) ((HR.out.below h (Nat.le_refl _)).more h.size)
    have hyl := last_len HX.out
    have HF := Lib.hid fun (W : World) => firsts_any n W (by omega) (by omega)
    by_cases his : i < splitN n
    · have HV := Lib.hid (upS_left (leaf := leaf) (p := p) (i := i) (by omega) (by omega) his)
      have HI := Lib.hid fun (W : World) (h : Below w.heap.size w W) => ih (n - 1) (by omega) i (splitN n) (p.take (p.length - 1)) (some ⟨b, off, none⟩) (q - 1) c W (by omega) (by omega) (by omega) his (by simp; omega) (by omega) (by omega) hc (fun x hx => HX.out x (List.mem_of_mem_take hx)) (((HR.out.below h (Nat.le_refl _)).more h.size).take _) (HK.out.to h)
      have hul := upS_len (leaf := leaf) (i := i) (n := splitN n) (p := p.take (p.length - 1))
      generalize p.getD (p.length - 1) [] = y at *
      have his' : (i : Int) < (splitN n : Int) := by omega
      rw [hq] at HC
      cases hu : upS leaf i (splitN n) (p.take (p.length - 1)) with
      | none =>
        rw [hu] at HV HI
        simp only [upV, Option.getD_none, Option.isSome_none, Option.map_none] at HI HV
        generalize splitN n = k at *
        go_enter Tryd.func37, Tryd.ntmps37
        go_wp2_with (first | (go_at_call 36; refine (within_b _ _ _ _).mono ?_; rintro e w' ⟨rfl, rfl⟩) | (go_at_call 32; refine (HF.out _).mono ?_; rintro e w' ⟨rfl, rfl⟩) | (go_at_call 37; refine (HI.out _ hb).mono ?_; rintro e wn ⟨rfl, hbn⟩; have hb := Below.next (w := w) (by repeat (first | with_reducible exact hb | with_reducible exact Below.refl _ _ | refine Below.drew ?_ | refine Below.setCell ?_ (by simp <;> omega) _ | refine Below.alloc ?_ (by simp <;> omega) _)) hbn; clear hbn))
        go_ret2
        exact ⟨by rw [HV.out]; rfl, hb⟩
      | some r =>
        rw [hu] at HV HI hul
        simp only [upV, Option.getD_some, Option.isSome_some, Option.map_some] at HI HV hul
        have HN := Lib.hid fun (W : World) (h : HasK W) => iNodeHash_any r y W (by omega) h
        generalize splitN n = k at *
        go_enter Tryd.func37, Tryd.ntmps37
        go_wp2_with (first | (go_at_call 36; refine (within_b _ _ _ _).mono ?_; rintro e w' ⟨rfl, rfl⟩) | (go_at_call 32; refine (HF.out _).mono ?_; rintro e w' ⟨rfl, rfl⟩) | (go_at_call 37; refine (HI.out _ hb).mono ?_; rintro e wn ⟨rfl, hbn⟩; have hb := Below.next (w := w) hb hbn; have c1 := HC.out _ hb; clear hbn) | (go_at_call 33; refine (HN.out _ (HK.out.to hb)).mono ?_; rintro e wn ⟨rfl, hbn⟩; have hb := Below.next (w := w) (by repeat (first | with_reducible exact hb | with_reducible exact Below.refl _ _ | refine Below.drew ?_ | refine Below.setCell ?_ (by simp <;> omega) _ | refine Below.alloc ?_ (by simp <;> omega) _)) hbn; clear hbn))
        go_ret2
        exact ⟨by rw [HV.out]; rfl, hb⟩
    · have HV := Lib.hid (upS_right (leaf := leaf) (p := p) (i := i) (by omega) (by omega) his)
      have HI := Lib.hid fun (W : World) (h : Below w.heap.size w W) => ih (n - 1) (by omega) (i - splitN n) (n - splitN n) (p.take (p.length - 1)) (some ⟨b, off, none⟩) (q - 1) c W (by omega) (by omega) (by omega) (by omega) (by simp; omega) (by omega) (by omega) hc (fun x hx => HX.out x (List.mem_of_mem_take hx)) (((HR.out.below h (Nat.le_refl _)).more h.size).take _) (HK.out.to h)
      rw [show ((i - splitN n : Nat) : Int) = (i : Int) - (splitN n : Int) from by omega, show ((n - splitN n : Nat) : Int) = (n : Int) - (splitN n : Int) from by omega] at HI
      have hul := upS_len (leaf := leaf) (i := i - splitN n) (n := n - splitN n) (p := p.take (p.length - 1))
      generalize p.getD (p.length - 1) [] = y at *
      have his' : ¬ (i : Int) < (splitN n : Int) := by omega
      rw [hq] at HC
      cases hu : upS leaf (i - splitN n) (n - splitN n) (p.take (p.length - 1)) with
      | none =>
        rw [hu] at HV HI
        simp only [upV, Option.getD_none, Option.isSome_none, Option.map_none] at HI HV
        generalize splitN n = k at *
        go_enter Tryd.func37, Tryd.ntmps37
        go_wp2_with (first | (go_at_call 36; refine (within_b _ _ _ _).mono ?_; rintro e w' ⟨rfl, rfl⟩) | (go_at_call 32; refine (HF.out _).mono ?_; rintro e w' ⟨rfl, rfl⟩) | (go_at_call 37; refine (HI.out _ hb).mono ?_; rintro e wn ⟨rfl, hbn⟩; have hb := Below.next (w := w) (by repeat (first | with_reducible exact hb | with_reducible exact Below.refl _ _ | refine Below.drew ?_ | refine Below.setCell ?_ (by simp <;> omega) _ | refine Below.alloc ?_ (by simp <;> omega) _)) hbn; clear hbn))
        go_ret2
        exact ⟨by rw [HV.out]; rfl, hb⟩
      | some r =>
        rw [hu] at HV HI hul
        simp only [upV, Option.getD_some, Option.isSome_some, Option.map_some] at HI HV hul
        have HN := Lib.hid fun (W : World) (h : HasK W) => iNodeHash_any y r W (by omega) h
        generalize splitN n = k at *
        go_enter Tryd.func37, Tryd.ntmps37
        go_wp2_with (first | (go_at_call 36; refine (within_b _ _ _ _).mono ?_; rintro e w' ⟨rfl, rfl⟩) | (go_at_call 32; refine (HF.out _).mono ?_; rintro e w' ⟨rfl, rfl⟩) | (go_at_call 37; refine (HI.out _ hb).mono ?_; rintro e wn ⟨rfl, hbn⟩; have hb := Below.next (w := w) hb hbn; have c1 := HC.out _ hb; clear hbn) | (go_at_call 33; refine (HN.out _ (HK.out.to hb)).mono ?_; rintro e wn ⟨rfl, hbn⟩; have hb := Below.next (w := w) (by repeat (first | with_reducible exact hb | with_reducible exact Below.refl _ _ | refine Below.drew ?_ | refine Below.setCell ?_ (by simp <;> omega) _ | refine Below.alloc ?_ (by simp <;> omega) _)) hbn; clear hbn))
        go_ret2
        exact ⟨by rw [HV.out]; rfl, hb⟩


set_option maxHeartbeats 4000000 in
theorem sUp_any (leaf : List UInt8) (hlf : leaf.length ≤ 1048576) (m : Nat) : ∀ (i n : Nat) (p : List (List UInt8)) (A : Option Addr) (q c : Nat) (w : World), n ≤ m → 1 ≤ n → n ≤ 40 → i < n → p.length = q → q ≤ c → q ≤ 1048576 → c ≤ 9223372036854775807 → (∀ x ∈ p, x.length ≤ 1048576) → TReads w w.heap.size A p →
    Calls Tryd.prog 55 #[.string (S leaf), .int .i64 (i : Int), .int .i64 (n : Int), .slice A q c] w fun e w' => ∃ z, e = .returned (.tuple #[.string (S z), .bool (upS leaf i n p).isSome]) ∧ z.length ≤ leaf.length + 32 ∧ (∀ r, upS leaf i n p = some r → z = r) ∧ Below w.heap.size w w' := by
  induction m using Nat.strongRecOn with
  | _ m ih =>
    intro i n p A q c w hm h1 h40 hi hq hqc hq2 hc hx hR
    have hb := Below.refl w.heap.size w
    have HR := Lib.hid hR
    have HX := Lib.hid hx
    clear hR hx
    by_cases hn1 : n = 1
    · subst hn1
      by_cases hp : q = 0
      · have HV : Hid (upS leaf i 1 p = some leaf) := by unfold Hid; rw [upS_one, if_pos (by omega)]
        subst hp
        go_enter Tryd.func55, Tryd.ntmps55
        go_wp2
        go_ret2
        exact ⟨leaf, by rw [HV.out]; rfl, by omega, fun r h => by rw [HV.out] at h; exact Option.some.inj h, hb⟩
      · have HV : Hid (upS leaf i 1 p = none) := by unfold Hid; rw [upS_one, if_neg (by omega)]
        have hp0 : ((q : Int) == 0) = false := by simp; omega
        go_enter Tryd.func55, Tryd.ntmps55
        go_wp2
        go_ret2
        exact ⟨leaf, by rw [HV.out]; rfl, by omega, fun r h => (by rw [HV.out] at h; cases h), hb⟩
    have hn1' : ((n : Int) == 1) = false := by simp; omega
    by_cases hp : q = 0
    · have HV : Hid (upS leaf i n p = none) := by unfold Hid; rw [List.eq_nil_of_length_eq_zero (show p.length = 0 by omega)]; exact upS_none (by omega) _ _
      subst hp
      go_enter Tryd.func55, Tryd.ntmps55
      go_wp2
      go_ret2
      exact ⟨[], by rw [HV.out]; rfl, by simp, fun r h => (by rw [HV.out] at h; cases h), hb⟩
    have hp1 : 0 ≤ (q : Int) - 1 ∧ (q : Int) - 1 < q := by omega
    have hp2 : (q : Int) - 1 ≤ c := by omega
    have tq : ((q : Int) - 1).toNat = q - 1 := by omega
    have hsp := splitN_bound (n := n) (by omega)
    obtain ⟨b, off, rfl, hbB, hcc⟩ := HR.out (by omega)
    clear hcc
    have HC := Lib.hid fun (W : World) (h : Below w.heap.size w W) => last_at (by omega) ((HR.out.below h (Nat.le_refl _)).more h.size)
    have hyl := last_len HX.out
    have HF := Lib.hid fun (W : World) => l4Split_any n W (by omega) (by omega)
    by_cases his : i < splitN n
    · have HV := Lib.hid (upS_left (leaf := leaf) (p := p) (i := i) (by omega) (by omega) his)
      have HI := Lib.hid fun (W : World) (h : Below w.heap.size w W) => ih (n - 1) (by omega) i (splitN n) (p.take (p.length - 1)) (some ⟨b, off, none⟩) (q - 1) c W (by omega) (by omega) (by omega) his (by simp; omega) (by omega) (by omega) hc (fun x hx => HX.out x (List.mem_of_mem_take hx)) (((HR.out.below h (Nat.le_refl _)).more h.size).take _)
      generalize p.getD (p.length - 1) [] = y at *
      have his' : (i : Int) < (splitN n : Int) := by omega
      rw [hq] at HC
      have hsm : (upS leaf i n p).isSome = (upS leaf i (splitN n) (p.take (p.length - 1))).isSome := by rw [HV.out, Option.isSome_map]
      rw [hsm]
      generalize upS leaf i (splitN n) (p.take (p.length - 1)) = o at *
      clear hsm
      generalize splitN n = k at *
      go_enter Tryd.func55, Tryd.ntmps55
      go_wp2_with (first | (go_at_call 53; refine (HF.out _).mono ?_; rintro e w' ⟨rfl, rfl⟩) | (go_at_call 55; refine (HI.out _ hb).mono ?_; rintro e wn ⟨z, rfl, hzl, hzr, hbn⟩; have hb := Below.next (w := w) hb hbn; have c1 := HC.out _ hb; have HZ := Lib.hid hzr; have HN := Lib.hid fun (W : World) => sNodeHash_any z y W (by omega); clear hbn hzr) | (go_at_call 54; refine (HN.out _).mono ?_; rintro e wn ⟨rfl, hbn⟩; have hb := Below.next (w := w) (by repeat (first | with_reducible exact hb | with_reducible exact Below.refl _ _ | refine Below.drew ?_ | refine Below.setCell ?_ (by simp <;> omega) _ | refine Below.alloc ?_ (by simp <;> omega) _)) hbn; clear hbn))
      go_ret2
      exact ⟨nodeS z y, rfl, by simp, fun r h => (by
        rw [HV.out] at h
        obtain ⟨r', h1, h2⟩ := Option.map_eq_some_iff.1 h
        rw [HZ.out r' h1]; exact h2), hb⟩
    · have HV := Lib.hid (upS_right (leaf := leaf) (p := p) (i := i) (by omega) (by omega) his)
      have HI := Lib.hid fun (W : World) (h : Below w.heap.size w W) => ih (n - 1) (by omega) (i - splitN n) (n - splitN n) (p.take (p.length - 1)) (some ⟨b, off, none⟩) (q - 1) c W (by omega) (by omega) (by omega) (by omega) (by simp; omega) (by omega) (by omega) hc (fun x hx => HX.out x (List.mem_of_mem_take hx)) (((HR.out.below h (Nat.le_refl _)).more h.size).take _)
      rw [show ((i - splitN n : Nat) : Int) = (i : Int) - (splitN n : Int) from by omega, show ((n - splitN n : Nat) : Int) = (n : Int) - (splitN n : Int) from by omega] at HI
      generalize p.getD (p.length - 1) [] = y at *
      have his' : ¬ (i : Int) < (splitN n : Int) := by omega
      rw [hq] at HC
      have hsm : (upS leaf i n p).isSome = (upS leaf (i - splitN n) (n - splitN n) (p.take (p.length - 1))).isSome := by rw [HV.out, Option.isSome_map]
      rw [hsm]
      generalize upS leaf (i - splitN n) (n - splitN n) (p.take (p.length - 1)) = o at *
      clear hsm
      generalize splitN n = k at *
      go_enter Tryd.func55, Tryd.ntmps55
      go_wp2_with (first | (go_at_call 53; refine (HF.out _).mono ?_; rintro e w' ⟨rfl, rfl⟩) | (go_at_call 55; refine (HI.out _ hb).mono ?_; rintro e wn ⟨z, rfl, hzl, hzr, hbn⟩; have hb := Below.next (w := w) hb hbn; have c1 := HC.out _ hb; have HZ := Lib.hid hzr; have HN := Lib.hid fun (W : World) => sNodeHash_any y z W (by omega); clear hbn hzr) | (go_at_call 54; refine (HN.out _).mono ?_; rintro e wn ⟨rfl, hbn⟩; have hb := Below.next (w := w) (by repeat (first | with_reducible exact hb | with_reducible exact Below.refl _ _ | refine Below.drew ?_ | refine Below.setCell ?_ (by simp <;> omega) _ | refine Below.alloc ?_ (by simp <;> omega) _)) hbn; clear hbn))
      go_ret2
      exact ⟨nodeS y z, rfl, by simp, fun r h => (by
        rw [HV.out] at h
        obtain ⟨r', h1, h2⟩ := Option.map_eq_some_iff.1 h
        rw [HZ.out r' h1]; exact h2), hb⟩

/-! The whole functions. -/
theorem pathRoot_no {leaf : List UInt8} {i n : Int} {p : List (List UInt8)} (h : i < 0 ∨ n ≤ i ∨ 40 < n) : pathRootS leaf i n p = ([], false) := by unfold pathRootS; rw [if_pos h]
theorem pathRoot_yes {leaf : List UInt8} {i n : Nat} {p : List (List UInt8)} (h1 : i < n) (h2 : n ≤ 40) : pathRootS leaf i n p = (upV (upS leaf i n p), (upS leaf i n p).isSome) := by
  unfold pathRootS
  rw [if_neg (by omega), Int.toNat_natCast, Int.toNat_natCast]
  cases upS leaf i n p <;> rfl
theorem pathRoot_len {leaf : List UInt8} {i n : Int} {p : List (List UInt8)} : (pathRootS leaf i n p).1.length ≤ leaf.length + 32 := by
  by_cases h : i < 0 ∨ n ≤ i ∨ 40 < n
  · rw [pathRoot_no h]; simp
  · obtain ⟨a, rfl⟩ := Int.eq_ofNat_of_zero_le (a := i) (by omega)
    obtain ⟨b, rfl⟩ := Int.eq_ofNat_of_zero_le (a := n) (by omega)
    rw [pathRoot_yes (by omega) (by omega)]; exact upS_len
theorem iPathRoot_any (leaf : List UInt8) (i n : Int) (p : List (List UInt8)) (A : Option Addr) (q c : Nat) (w : World) (hlf : leaf.length ≤ 1048576) (hn : -9223372036854775808 ≤ n) (hq : p.length = q) (hqc : q ≤ c) (hq2 : q ≤ 1048576) (hc : c ≤ 9223372036854775807) (hx : ∀ x ∈ p, x.length ≤ 1048576) (hR : TReads w w.heap.size A p) (hK : HasK w) :
    Calls Tryd.prog 37 #[.string (S leaf), .int .i64 i, .int .i64 n, .slice A q c] w fun e w' => e = .returned (.tuple #[.string (S (pathRootS leaf i n p).1), .bool (pathRootS leaf i n p).2]) ∧ Below w.heap.size w w' := by
  by_cases h : i < 0 ∨ n ≤ i ∨ 40 < n
  · have HV := Lib.hid (pathRoot_no (leaf := leaf) (p := p) h)
    have hb := Below.refl w.heap.size w
    clear hR hK hx
    by_cases h1 : 1 ≤ n ∧ n ≤ 40
    · have gb1 := inB_mk h1.1 h1.2
      have gb2 : inB i 0 (n - 1) = false := inB_no (by omega)
      go_enter Tryd.func37, Tryd.ntmps37
      go_wp2_with (go_at_call 36; refine (within_b _ _ _ _).mono ?_; rintro e w' ⟨rfl, rfl⟩)
      go_ret2
      exact ⟨by rw [HV.out]; rfl, hb⟩
    · have gb1 : inB n 1 40 = false := inB_no (by omega)
      go_enter Tryd.func37, Tryd.ntmps37
      go_wp2_with (go_at_call 36; refine (within_b _ _ _ _).mono ?_; rintro e w' ⟨rfl, rfl⟩)
      go_ret2
      exact ⟨by rw [HV.out]; rfl, hb⟩
  · obtain ⟨a, rfl⟩ := Int.eq_ofNat_of_zero_le (a := i) (by omega)
    obtain ⟨b, rfl⟩ := Int.eq_ofNat_of_zero_le (a := n) (by omega)
    rw [pathRoot_yes (by omega) (by omega)]
    exact iUp_any leaf hlf b a b p A q c w (Nat.le_refl _) (by omega) (by omega) (by omega) hq hqc hq2 hc hx hR hK
theorem sPathRoot_any (leaf : List UInt8) (i n : Int) (p : List (List UInt8)) (A : Option Addr) (q c : Nat) (w : World) (hlf : leaf.length ≤ 1048576) (hq : p.length = q) (hqc : q ≤ c) (hq2 : q ≤ 1048576) (hc : c ≤ 9223372036854775807) (hx : ∀ x ∈ p, x.length ≤ 1048576) (hR : TReads w w.heap.size A p) :
    Calls Tryd.prog 38 #[.string (S leaf), .int .i64 i, .int .i64 n, .slice A q c] w fun e w' => e = .returned (.tuple #[.string (S (pathRootS leaf i n p).1), .bool (pathRootS leaf i n p).2]) ∧ Below w.heap.size w w' := by
  by_cases h : i < 0 ∨ n ≤ i ∨ 40 < n
  · have HV := Lib.hid (pathRoot_no (leaf := leaf) (p := p) h)
    have hb := Below.refl w.heap.size w
    clear hR hx
    by_cases h1 : i < 0
    · go_enter Tryd.func38, Tryd.ntmps38
      go_wp2
      go_ret2
      exact ⟨by rw [HV.out]; rfl, hb⟩
    · by_cases h2 : n ≤ i
      · go_enter Tryd.func38, Tryd.ntmps38
        go_wp2
        go_ret2
        exact ⟨by rw [HV.out]; rfl, hb⟩
      · have h3 : 40 < n := by omega
        go_enter Tryd.func38, Tryd.ntmps38
        go_wp2
        go_ret2
        exact ⟨by rw [HV.out]; rfl, hb⟩
  · obtain ⟨a, rfl⟩ := Int.eq_ofNat_of_zero_le (a := i) (by omega)
    obtain ⟨b, rfl⟩ := Int.eq_ofNat_of_zero_le (a := n) (by omega)
    have hb := Below.refl w.heap.size w
    have HI := Lib.hid (sUp_any leaf hlf b a b p A q c w (Nat.le_refl _) (by omega) (by omega) (by omega) hq hqc hq2 hc hx hR)
    rw [pathRoot_yes (by omega) (by omega)]
    have h1 : ¬ (a : Int) < 0 := by omega
    have h2 : (a : Int) < b := by omega
    have h3 : ¬ 40 < (b : Int) := by omega
    clear hR hx
    cases hu : upS leaf a b p with
    | none =>
      rw [hu] at HI
      simp only [Option.isSome_none] at HI
      go_enter Tryd.func38, Tryd.ntmps38
      go_wp2_with (go_at_call 55; refine HI.out.mono ?_; rintro e wn ⟨z, rfl, hzl, hzr, hbn⟩; have hb := hbn; clear hbn hzr)
      go_ret2
      exact ⟨rfl, hb⟩
    | some r =>
      rw [hu] at HI
      simp only [Option.isSome_some] at HI
      go_enter Tryd.func38, Tryd.ntmps38
      go_wp2_with (go_at_call 55; refine HI.out.mono ?_; rintro e wn ⟨z, rfl, hzl, hzr, hbn⟩; have hb := hbn; have HZ := Lib.hid (hzr r rfl); clear hbn hzr)
      go_ret2
      exact ⟨by rw [HZ.out]; rfl, hb⟩

theorem iIncludes_any (root d : List UInt8) (i n : Int) (p : List (List UInt8)) (A : Option Addr) (q c : Nat) (w : World) (hd : d.length ≤ 4194000) (hn : -9223372036854775808 ≤ n) (hq : p.length = q) (hqc : q ≤ c) (hq2 : q ≤ 1048576) (hc : c ≤ 9223372036854775807) (hx : ∀ x ∈ p, x.length ≤ 1048576) (hR : TReads w w.heap.size A p) (hK : HasK w) :
    Calls Tryd.prog 15 #[.string (S root), .string (S d), .int .i64 i, .int .i64 n, .slice A q c] w fun e w' => e = .returned (.bool (includesS root d i n p)) ∧ Below w.heap.size w w' := by
  have hb := Below.refl w.heap.size w
  have HR := Lib.hid hR
  have HK := Lib.hid hK
  clear hK
  have HL := Lib.hid fun (W : World) (h : HasK W) => iLeafHash_any d W (by omega) h
  have HP := Lib.hid fun (W : World) (h : Below w.heap.size w W) => iPathRoot_any (leafS d) i n p A q c W (by simp) hn hq hqc hq2 hc hx ((HR.out.below h (Nat.le_refl _)).more h.size) (HK.out.to h)
  have HV : Hid (includesS root d i n p = ((pathRootS (leafS d) i n p).2 && (pathRootS (leafS d) i n p).1 == root)) := rfl
  clear hR hx
  generalize pathRootS (leafS d) i n p = pr at *
  obtain ⟨x, ok⟩ := pr
  simp only at HV HP
  cases ok
  · go_enter Tryd.func15, Tryd.ntmps15
    go_wp2_with (first | (go_at_call 31; refine (HL.out _ (HK.out.to hb)).mono ?_; rintro e wn ⟨rfl, hbn⟩; have hb := Below.next (w := w) (by repeat (first | with_reducible exact hb | with_reducible exact Below.refl _ _ | refine Below.drew ?_ | refine Below.setCell ?_ (by simp <;> omega) _ | refine Below.alloc ?_ (by simp <;> omega) _)) hbn; clear hbn) | (go_at_call 37; refine (HP.out _ hb).mono ?_; rintro e wn ⟨rfl, hbn⟩; have hb := Below.next (w := w) (by repeat (first | with_reducible exact hb | with_reducible exact Below.refl _ _ | refine Below.drew ?_ | refine Below.setCell ?_ (by simp <;> omega) _ | refine Below.alloc ?_ (by simp <;> omega) _)) hbn; clear hbn))
    go_ret
    exact ⟨ret_bool (by rw [HV.out]; rfl), hb⟩
  · by_cases hxr : x = root
    · have hbe : (x == root) = true := by rw [hxr]; simp
      clear hxr
      go_enter Tryd.func15, Tryd.ntmps15
      go_wp2_with (first | (go_at_call 31; refine (HL.out _ (HK.out.to hb)).mono ?_; rintro e wn ⟨rfl, hbn⟩; have hb := Below.next (w := w) (by repeat (first | with_reducible exact hb | with_reducible exact Below.refl _ _ | refine Below.drew ?_ | refine Below.setCell ?_ (by simp <;> omega) _ | refine Below.alloc ?_ (by simp <;> omega) _)) hbn; clear hbn) | (go_at_call 37; refine (HP.out _ hb).mono ?_; rintro e wn ⟨rfl, hbn⟩; have hb := Below.next (w := w) (by repeat (first | with_reducible exact hb | with_reducible exact Below.refl _ _ | refine Below.drew ?_ | refine Below.setCell ?_ (by simp <;> omega) _ | refine Below.alloc ?_ (by simp <;> omega) _)) hbn; clear hbn))
      go_ret
      exact ⟨ret_bool (by rw [HV.out, hbe]; rfl), hb⟩
    · have hbe : (x == root) = false := by simpa using hxr
      clear hxr
      go_enter Tryd.func15, Tryd.ntmps15
      go_wp2_with (first | (go_at_call 31; refine (HL.out _ (HK.out.to hb)).mono ?_; rintro e wn ⟨rfl, hbn⟩; have hb := Below.next (w := w) (by repeat (first | with_reducible exact hb | with_reducible exact Below.refl _ _ | refine Below.drew ?_ | refine Below.setCell ?_ (by simp <;> omega) _ | refine Below.alloc ?_ (by simp <;> omega) _)) hbn; clear hbn) | (go_at_call 37; refine (HP.out _ hb).mono ?_; rintro e wn ⟨rfl, hbn⟩; have hb := Below.next (w := w) (by repeat (first | with_reducible exact hb | with_reducible exact Below.refl _ _ | refine Below.drew ?_ | refine Below.setCell ?_ (by simp <;> omega) _ | refine Below.alloc ?_ (by simp <;> omega) _)) hbn; clear hbn))
      go_ret
      exact ⟨ret_bool (by rw [HV.out, hbe]; rfl), hb⟩

theorem sIncludes_any (root d : List UInt8) (i n : Int) (p : List (List UInt8)) (A : Option Addr) (q c : Nat) (w : World) (hd : d.length ≤ 4194000) (hq : p.length = q) (hqc : q ≤ c) (hq2 : q ≤ 1048576) (hc : c ≤ 9223372036854775807) (hx : ∀ x ∈ p, x.length ≤ 1048576) (hR : TReads w w.heap.size A p) :
    Calls Tryd.prog 16 #[.string (S root), .string (S d), .int .i64 i, .int .i64 n, .slice A q c] w fun e w' => e = .returned (.bool (includesS root d i n p)) ∧ Below w.heap.size w w' := by
  have hb := Below.refl w.heap.size w
  have HR := Lib.hid hR
  have HL := Lib.hid fun (W : World) => sLeafHash_any d W (by omega)
  have HP := Lib.hid fun (W : World) (h : Below w.heap.size w W) => sPathRoot_any (leafS d) i n p A q c W (by simp) hq hqc hq2 hc hx ((HR.out.below h (Nat.le_refl _)).more h.size)
  have HV : Hid (includesS root d i n p = ((pathRootS (leafS d) i n p).2 && (pathRootS (leafS d) i n p).1 == root)) := rfl
  clear hR hx
  generalize pathRootS (leafS d) i n p = pr at *
  obtain ⟨x, ok⟩ := pr
  simp only at HV HP
  cases ok
  · go_enter Tryd.func16, Tryd.ntmps16
    go_wp2_with (first | (go_at_call 39; refine (HL.out _).mono ?_; rintro e wn ⟨rfl, hbn⟩; have hb := Below.next (w := w) (by repeat (first | with_reducible exact hb | with_reducible exact Below.refl _ _ | refine Below.drew ?_ | refine Below.setCell ?_ (by simp <;> omega) _ | refine Below.alloc ?_ (by simp <;> omega) _)) hbn; clear hbn) | (go_at_call 38; refine (HP.out _ hb).mono ?_; rintro e wn ⟨rfl, hbn⟩; have hb := Below.next (w := w) (by repeat (first | with_reducible exact hb | with_reducible exact Below.refl _ _ | refine Below.drew ?_ | refine Below.setCell ?_ (by simp <;> omega) _ | refine Below.alloc ?_ (by simp <;> omega) _)) hbn; clear hbn))
    go_ret
    exact ⟨ret_bool (by rw [HV.out]; rfl), hb⟩
  · by_cases hxr : x = root
    · have hbe : (x == root) = true := by rw [hxr]; simp
      clear hxr
      go_enter Tryd.func16, Tryd.ntmps16
      go_wp2_with (first | (go_at_call 39; refine (HL.out _).mono ?_; rintro e wn ⟨rfl, hbn⟩; have hb := Below.next (w := w) (by repeat (first | with_reducible exact hb | with_reducible exact Below.refl _ _ | refine Below.drew ?_ | refine Below.setCell ?_ (by simp <;> omega) _ | refine Below.alloc ?_ (by simp <;> omega) _)) hbn; clear hbn) | (go_at_call 38; refine (HP.out _ hb).mono ?_; rintro e wn ⟨rfl, hbn⟩; have hb := Below.next (w := w) (by repeat (first | with_reducible exact hb | with_reducible exact Below.refl _ _ | refine Below.drew ?_ | refine Below.setCell ?_ (by simp <;> omega) _ | refine Below.alloc ?_ (by simp <;> omega) _)) hbn; clear hbn))
      go_ret
      exact ⟨ret_bool (by rw [HV.out, hbe]; rfl), hb⟩
    · have hbe : (x == root) = false := by simpa using hxr
      clear hxr
      go_enter Tryd.func16, Tryd.ntmps16
      go_wp2_with (first | (go_at_call 39; refine (HL.out _).mono ?_; rintro e wn ⟨rfl, hbn⟩; have hb := Below.next (w := w) (by repeat (first | with_reducible exact hb | with_reducible exact Below.refl _ _ | refine Below.drew ?_ | refine Below.setCell ?_ (by simp <;> omega) _ | refine Below.alloc ?_ (by simp <;> omega) _)) hbn; clear hbn) | (go_at_call 38; refine (HP.out _ hb).mono ?_; rintro e wn ⟨rfl, hbn⟩; have hb := Below.next (w := w) (by repeat (first | with_reducible exact hb | with_reducible exact Below.refl _ _ | refine Below.drew ?_ | refine Below.setCell ?_ (by simp <;> omega) _ | refine Below.alloc ?_ (by simp <;> omega) _)) hbn; clear hbn))
      go_ret
      exact ⟨ret_bool (by rw [HV.out, hbe]; rfl), hb⟩

end Go.Proofs.YtnmgecaflildoaaDoor
