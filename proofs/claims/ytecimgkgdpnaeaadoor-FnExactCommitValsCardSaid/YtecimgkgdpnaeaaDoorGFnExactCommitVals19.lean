/-
  Texts of this proof, laid into one: ComV0, CVi, CVs.
-/
import Derived.Test.YtecimgkgdpnaeaaDoorGFnExactCommitVals18
import Derived.Test.YtecimgkgdpnaeaaDoorGFnExactCommitVals11
import Derived.Test.YtecimgkgdpnaeaaDoorGFnExactCommitVals0
import Derived.Test.YtecimgkgdpnaeaaDoorGFnExactCommitVals3
import Derived.Test.YtecimgkgdpnaeaaDoorGFnExactCommitVals12
/-
  Who has signed a commit. No program in sight.
-/
namespace Go.Proofs.YtecimgkgdpnaeaaDoor
set_option linter.unusedVariables false
set_option linter.unusedSimpArgs false

def goodS (x : CommitT) (s : SigT) : Bool := signedB ⟨x.h, x.r, 2, x.id, s.val⟩ s.sig
def comHit (x : CommitT) (v : Int) (s : SigT) : Bool := decide (s.val = v) && signedB ⟨x.h, x.r, 2, x.id, v⟩ s.sig
def comHas (x : CommitT) (v : Int) : Bool := x.sigs.any (comHit x v)
/-- What CommitVals returns. -/
def comValsS (x : CommitT) : List Int := if 12 < x.sigs.length then [] else upTo (comHas x) 99
theorem comVals_no {x : CommitT} (h : 12 < x.sigs.length) : comValsS x = [] := by unfold comValsS; rw [if_pos h]
theorem comVals_yes {x : CommitT} (h : x.sigs.length ≤ 12) : comValsS x = upTo (comHas x) 99 := by unfold comValsS; rw [if_neg (by omega)]
theorem comVals_len (x : CommitT) : (comValsS x).length ≤ 99 := by
  unfold comValsS
  split
  · simp
  · exact upTo_len _ _
/-- Those of the first k signatures that hold. -/
def goodL (x : CommitT) (k : Nat) : List Int := ((x.sigs.take k).filter (goodS x)).map fun s => s.val
theorem goodL_zero (x : CommitT) : goodL x 0 = [] := by simp [goodL]
theorem goodL_succ (x : CommitT) (k : Nat) (hk : k < x.sigs.length) : goodL x (k + 1) = goodL x k ++ (if goodS x x.sigs[k] then [x.sigs[k].val] else []) := by
  unfold goodL
  rw [List.take_succ_eq_append_getElem hk, List.filter_append, List.map_append]
  congr 1
  by_cases h : goodS x x.sigs[k] <;> simp [h]
theorem goodL_len (x : CommitT) (k : Nat) : (goodL x k).length ≤ k := by
  unfold goodL
  rw [List.length_map]
  refine Nat.le_trans (List.length_filter_le _ _) ?_
  rw [List.length_take]
  omega
theorem good_in {x : CommitT} {s : SigT} (h : goodS x s = true) : 1 ≤ s.val ∧ s.val ≤ 99 := by
  unfold goodS signedB voteOkB at h
  simp only [Bool.and_eq_true] at h
  have := inB_true h.1.2
  omega
theorem good_compact (x : CommitT) : Lib.compact (sortI (goodL x x.sigs.length)) = upTo (comHas x) 99 := by
  refine sort_compact _ _ _ (fun v => ?_)
  unfold goodL comHas
  rw [List.take_length, List.mem_map]
  constructor
  · rintro ⟨s, hs, rfl⟩
    rw [List.mem_filter] at hs
    have := good_in hs.2
    refine ⟨this.1, by omega, List.any_eq_true.2 ⟨s, hs.1, ?_⟩⟩
    unfold comHit
    rw [Bool.and_eq_true]
    exact ⟨by simp, hs.2⟩
  · rintro ⟨_, _, h⟩
    obtain ⟨s, hs, h2⟩ := List.any_eq_true.1 h
    unfold comHit at h2
    rw [Bool.and_eq_true, decide_eq_true_eq] at h2
    obtain ⟨rfl, h3⟩ := h2
    exact ⟨s, List.mem_filter.2 ⟨hs, h3⟩, rfl⟩
/-- The inner loop of the reference: one of the first k signatures. -/
def hitL (x : CommitT) (v : Int) (k : Nat) : Bool := (x.sigs.take k).any (comHit x v)
theorem hitL_zero (x : CommitT) (v : Int) : hitL x v 0 = false := by simp [hitL]
theorem hitL_succ (x : CommitT) (v : Int) (k : Nat) (hk : k < x.sigs.length) : hitL x v (k + 1) = (hitL x v k || comHit x v x.sigs[k]) := by
  unfold hitL
  rw [List.take_succ_eq_append_getElem hk, List.any_append]
  simp
theorem hitL_all (x : CommitT) (v : Int) : hitL x v x.sigs.length = comHas x v := by unfold hitL comHas; rw [List.take_length]
end Go.Proofs.YtecimgkgdpnaeaaDoor

/-
  impl.CommitVals.
-/
namespace Go.Proofs.YtecimgkgdpnaeaaDoor
open Go.ChangeShapes Go.WideShapes Go.ChangeAt Go.RowKit
set_option linter.unusedVariables false
set_option linter.unusedSimpArgs false
set_option maxRecDepth 100000

theorem infoInt : (Tryd.prog.info? 3).map (fun i => (i.zero, i.size, i.bytes)) = some (some (.int .i64 0), 1, 8) := by kernel_rfl
theorem one_cell_i (a : Int) : ∀ u ∈ (#[Value.int .i64 a] : Array Value).toList, u.oneCell' = true := by
  intro u hu; simp at hu; subst hu; rfl

set_option maxHeartbeats 2000000 in
theorem iCommitVals_any (x : CommitT) (A : Option Addr) (c : Nat) (w : World) (hid : x.id.length ≤ 9223372036854775807) (hn : x.sigs.length ≤ 9223372036854775807) (hsl : ∀ s ∈ x.sigs, s.sig.length ≤ 9223372036854775807) (hR : SReads w w.heap.size A x.sigs) (hK : HasK w) :
    Calls Tryd.prog 25 #[.agg #[.int .i64 x.h, .int .i64 x.r, .string (S x.id), .slice A x.sigs.length c]] w fun e w' => ∃ (A' : Option Addr) (c' : Nat), e = .returned (.slice A' (comValsS x).length c') ∧ w'.ownsRow w.heap.size 3 1 (.slice A' (comValsS x).length c') (comValsS x).length ((comValsS x).map iv) ∧ Below w.heap.size w w' := by
  obtain ⟨i0, hi, hzA, hzB, hzC⟩ := info_parts infoInt
  by_cases h12 : 12 < x.sigs.length
  · have HV := Lib.hid (comVals_no h12)
    obtain ⟨h, r, id, l⟩ := x
    simp only at h12 ⊢
    have h12i : 12 < (l.length : Int) := by omega
    rw [HV.out]
    have hb0 := (Below.refl w.heap.size w).alloc (Nat.le_refl _) (.cells #[.int .i64 h, .int .i64 r, .string (S id), .slice A l.length c] 33)
    clear hR hsl hK
    go_enter Tryd.func25, Tryd.ntmps25
    go_wp2
    go_ret
    exact ⟨none, 0, rfl, own_nil _ _ _ _, hb0⟩
  · have HV := Lib.hid (comVals_yes (x := x) (by omega))
    have HGC := Lib.hid (good_compact x)
    rw [← HV.out] at HGC
    have HG0 := Lib.hid (goodL_zero x)
    have HGS := Lib.hid (goodL_succ x)
    have HGL := Lib.hid (goodL_len x)
    have HSG : Hid (∀ (W : World) (s : SigT), s.sig.length ≤ 9223372036854775807 → HasK W → Calls Tryd.prog 68 #[.agg #[.int .i64 x.h, .int .i64 x.r, .int .i64 2, .string (S x.id), .int .i64 s.val], .string (S s.sig)] W fun e w' => e = .returned (.bool (goodS x s)) ∧ Below W.heap.size W w') := fun W s hs hk => iSigned_any ⟨x.h, x.r, 2, x.id, s.val⟩ s.sig W hid hk
    generalize goodS x = gd at *
    generalize goodL x = G at *
    generalize comValsS x = V at *
    clear HV
    obtain ⟨h, r, id, l⟩ := x
    simp only at *
    have h12i : ¬ 12 < (l.length : Int) := by omega
    have HR := Lib.hid hR
    have HK := Lib.hid hK
    have HSL := Lib.hid hsl
    have hb0 := (Below.refl w.heap.size w).alloc (Nat.le_refl _) (.cells #[.int .i64 h, .int .i64 r, .string (S id), .slice A l.length c] 33)
    have hz : (w.alloc (.cells #[.int .i64 h, .int .i64 r, .string (S id), .slice A l.length c] 33)).heap.size = w.heap.size + 1 := by simp
    have e0 : (w.alloc (.cells #[.int .i64 h, .int .i64 r, .string (S id), .slice A l.length c] 33)).cell? ⟨w.heap.size, 0, none⟩ = some (.int .i64 h) := by go_simp
    have e1 : (w.alloc (.cells #[.int .i64 h, .int .i64 r, .string (S id), .slice A l.length c] 33)).cell? ⟨w.heap.size, 1, none⟩ = some (.int .i64 r) := by go_simp
    have e2 : (w.alloc (.cells #[.int .i64 h, .int .i64 r, .string (S id), .slice A l.length c] 33)).cell? ⟨w.heap.size, 2, none⟩ = some (.string (S id)) := by go_simp
    clear hR hsl hK
    go_enter Tryd.func25, Tryd.ntmps25
    go_wp2_with fail
    generalize w.alloc (.cells #[.int .i64 h, .int .i64 r, .string (S id), .slice A l.length c] 33) = W0 at *
    have HO : Hid ((W0.alloc (.cells #[] 3)).ownsRow W0.heap.size 3 1 (.slice (some ⟨w.heap.size + 1, 0, none⟩) 0 0) 0 ((G 0).map iv)) := by
      rw [HG0.out]
      rw [← hz]
      exact World.ownsRow_lit (e := 3) (size := 1) (base := W0.heap.size) W0 #[] 0 (Nat.le_refl _) (by simp [maxLen]) rfl
    have HB0 := Lib.hid ((Below.refl W0.heap.size W0).alloc (Nat.le_refl _) (.cells #[] 3))
    have HBW := Lib.hid hb0
    clear hb0
    go_loopw [3, 14] (fun out i wr => ∃ k : Nat, k ≤ l.length ∧ i = .int .i64 (k : Int) ∧ wr.ownsRow W0.heap.size 3 1 out (G k).length ((G k).map iv) ∧ Below W0.heap.size W0 wr) (fun _ i _ => l.length - (intOf i).toNat)
    case atStart => exact ⟨0, by omega, rfl, by have := HO.out; rw [HG0.out] at this ⊢; exact this, HB0.out⟩
    case round =>
      obtain ⟨k, hk, rfl, hown, hb⟩ := hrel
      have hki : 0 ≤ (k : Int) ∧ (k : Int) ≤ l.length := by omega
      obtain ⟨Ao, co, rfl⟩ := own_slice hown
      have hbw := Below.next HBW.out hb
      have hz1 := hb.size
      have hwl : w.heap.size < wr.heap.size := by omega
      by_cases hlt : k < l.length
      · have hlti : (k : Int) < l.length := by omega
        obtain ⟨b, off, rfl, hbB, hc⟩ := HR.out.to hbw (by omega)
        obtain ⟨c0, c1⟩ := hc k hlt
        have hgk := HGL.out k
        have hgs := HGS.out k hlt
        have hsg := HSL.out l[k] (List.getElem_mem hlt)
        have f0 := (hb.cell (p := ⟨w.heap.size, 0, none⟩) (by show w.heap.size < W0.heap.size; omega)).trans e0
        have f1 := (hb.cell (p := ⟨w.heap.size, 1, none⟩) (by show w.heap.size < W0.heap.size; omega)).trans e1
        have f2 := (hb.cell (p := ⟨w.heap.size, 2, none⟩) (by show w.heap.size < W0.heap.size; omega)).trans e2
        have HS1 := Lib.hid fun (W : World) (hk : HasK W) => HSG.out W l[k] hsg hk
        have HOWN := Lib.hid hown
        have HB := Lib.hid hb
        have HW := Lib.hid hbw
        have HGK := Lib.hid hgs
        clear hc hown hb hgs
        generalize l[k] = g at *
        obtain ⟨gv, gs⟩ := g
        simp only at c0 c1 hsg HGK HS1
        generalize gd ⟨gv, gs⟩ = ok at *
        go_wp2_with fail
        refine (HS1.out _ (HK.out.to ((HW.out).alloc HW.out.size _))).mono ?_
        rintro e w5 ⟨rfl, b5⟩
        have d0 : w5.cell? ⟨wr.heap.size, 0, none⟩ = some (.int .i64 gv) := by rw [b5.cell (p := ⟨wr.heap.size, 0, none⟩) (by simp)]; go_simp
        have o5 := own_below (HOWN.out.alloc (.cells #[.int .i64 gv, .string (S gs)] 85)) b5
        have hb5 : Below W0.heap.size W0 w5 := Below.next (HB.out.alloc HB.out.size _) b5
        have hz5 := hb5.size
        clear b5 f0 f1 f2 c0 c1 hbw
        cases hok : ok
        · rw [hok] at HGK
          go_wp2_with fail
          go_roundw
          case rel => exact ⟨k + 1, by omega, by go_num, by rw [HGK.out]; simpa using o5, hb5⟩
          case measure => simp [intOf]; omega
        · rw [hok, if_pos rfl] at HGK
          go_wp2_with (at_builtin; refine app_low rfl _ _ 43 rfl Tryd.underlying43 hi hzA hzB hzC rfl (by decide) rfl o5 (by omega) rfl rfl rfl (one_cell_i _) (by unfold maxLen; omega) (by omega) ?_; intro v1 w6 hown1 hlow)
          go_roundw
          case rel => exact ⟨k + 1, by omega, by go_num, by rw [HGK.out, List.length_append, List.length_singleton, List.map_append]; exact hown1, hb5.trans hlow⟩
          case measure => simp [intOf]; omega
      · have hkl : Hid (k = l.length) := by unfold Hid; omega
        have hgk := HGL.out k
        have HB := Lib.hid hb
        have HW := Lib.hid hbw
        have HOWN := Lib.hid hown
        clear hown hb hbw
        go_wp2_with fail
        refine (sort_ints HOWN.out (by omega) hz1).mono ?_
        rintro e w6 ⟨rfl, o6, b6⟩
        go_wp2_with fail
        refine (compact_ints o6 (by omega) (Nat.le_trans hz1 b6.size)).mono ?_
        rintro e w7 ⟨rfl, o7, b7⟩
        have hfin : Below w.heap.size w w7 := (HW.out.trans (b6.mono (by omega))).trans (b7.mono (by omega))
        rw [hkl.out, HGC.out] at o7 ⊢
        go_wp2
        go_ret
        exact ⟨_, _, rfl, own_base o7 (by omega), hfin⟩
end Go.Proofs.YtecimgkgdpnaeaaDoor

/-
  spec.CommitVals.
-/
namespace Go.Proofs.YtecimgkgdpnaeaaDoor
open Go.ChangeShapes Go.WideShapes Go.ChangeAt Go.RowKit
set_option linter.unusedVariables false
set_option linter.unusedSimpArgs false
set_option maxRecDepth 100000

theorem cv_keep {w0 cur wm : World} {b o : Nat} {v0 v1 : Value} {B : Nat} {u0 u1 u2 u3 : Value} (hb1 : b < w0.heap.size) (hb2 : B < w0.heap.size)
    (H : Below w0.heap.size w0 cur) (c0 : w0.cell? ⟨b, o, none⟩ = some v0) (c1 : w0.cell? ⟨b, o + 1, none⟩ = some v1) (e0 : w0.cell? ⟨B, 0, none⟩ = some u0) (e1 : w0.cell? ⟨B, 1, none⟩ = some u1) (e2 : w0.cell? ⟨B, 2, none⟩ = some u2) (e3 : w0.cell? ⟨B, 3, none⟩ = some u3) (hb : Below cur.heap.size cur wm) :
    Below w0.heap.size w0 wm ∧ wm.cell? ⟨b, o, none⟩ = some v0 ∧ wm.cell? ⟨b, o + 1, none⟩ = some v1 ∧ wm.cell? ⟨B, 0, none⟩ = some u0 ∧ wm.cell? ⟨B, 1, none⟩ = some u1 ∧ wm.cell? ⟨B, 2, none⟩ = some u2 ∧ wm.cell? ⟨B, 3, none⟩ = some u3 := by
  have h := Below.next H hb
  exact ⟨h, (h.cell (p := ⟨b, o, none⟩) hb1).trans c0, (h.cell (p := ⟨b, o + 1, none⟩) hb1).trans c1, (h.cell (p := ⟨B, 0, none⟩) hb2).trans e0, (h.cell (p := ⟨B, 1, none⟩) hb2).trans e1, (h.cell (p := ⟨B, 2, none⟩) hb2).trans e2, (h.cell (p := ⟨B, 3, none⟩) hb2).trans e3⟩

set_option maxHeartbeats 4000000 in
theorem sCommitVals_any (x : CommitT) (A : Option Addr) (c : Nat) (w : World) (hid : x.id.length ≤ 9223372036854775807) (hn : x.sigs.length ≤ 9223372036854775807) (hsl : ∀ s ∈ x.sigs, s.sig.length ≤ 9223372036854775807) (hR : SReads w w.heap.size A x.sigs) :
    Calls Tryd.prog 23 #[.agg #[.int .i64 x.h, .int .i64 x.r, .string (S x.id), .slice A x.sigs.length c]] w fun e w' => ∃ (A' : Option Addr) (c' : Nat), e = .returned (.slice A' (comValsS x).length c') ∧ w'.ownsRow w.heap.size 3 1 (.slice A' (comValsS x).length c') (comValsS x).length ((comValsS x).map iv) ∧ Below w.heap.size w w' := by
  obtain ⟨i0, hi, hzA, hzB, hzC⟩ := info_parts infoInt
  by_cases h12 : 12 < x.sigs.length
  · have HV := Lib.hid (comVals_no h12)
    obtain ⟨h, r, id, l⟩ := x
    simp only at h12 ⊢
    have h12i : 12 < (l.length : Int) := by omega
    rw [HV.out]
    have hb0 := (Below.refl w.heap.size w).alloc (Nat.le_refl _) (.cells #[.int .i64 h, .int .i64 r, .string (S id), .slice A l.length c] 33)
    have hb1 := hb0.alloc hb0.size (.cells #[] 3)
    have HO := Lib.hid (World.ownsRow_lit (e := 3) (size := 1) (base := w.heap.size) (w.alloc (.cells #[.int .i64 h, .int .i64 r, .string (S id), .slice A l.length c] 33)) #[] 0 hb0.size (by simp [maxLen]) rfl)
    clear hR hsl
    go_enter Tryd.func23, Tryd.ntmps23
    go_wp2
    go_ret
    refine ⟨_, _, rfl, ?_, hb1⟩
    have := HO.out
    simpa using this
  · have HV := Lib.hid (comVals_yes (x := x) (by omega))
    have HU := Lib.hid (upTo_succ (comHas x))
    have HUL := Lib.hid (upTo_len (comHas x))
    have HU0 : Hid (upTo (comHas x) 0 = []) := rfl
    have HH0 := Lib.hid (hitL_zero x)
    have HHS := Lib.hid (hitL_succ x)
    have HHA := Lib.hid (hitL_all x)
    have HSG : Hid (∀ (W : World) (v : Int) (sg : List UInt8), Calls Tryd.prog 66 #[.agg #[.int .i64 x.h, .int .i64 x.r, .int .i64 2, .string (S x.id), .int .i64 v], .string (S sg)] W fun e w' => e = .returned (.bool (signedB ⟨x.h, x.r, 2, x.id, v⟩ sg)) ∧ Below W.heap.size W w') := fun W v sg => sSigned_any ⟨x.h, x.r, 2, x.id, v⟩ sg W hid
    have HL9 : Hid (∀ (W : World) (v : Int), Calls Tryd.prog 60 #[.agg #[.int .i64 x.h, .int .i64 x.r, .string (S x.id), .slice A x.sigs.length c], .int .i64 v] W fun e w' => e = .returned (.agg #[.int .i64 x.h, .int .i64 x.r, .int .i64 2, .string (S x.id), .int .i64 v]) ∧ Below W.heap.size W w') := fun W v => l9Vote_any x.h x.r v x.id A x.sigs.length c W
    have HIT : Hid (∀ (v : Int) (s : SigT), comHit x v s = (decide (s.val = v) && signedB ⟨x.h, x.r, 2, x.id, v⟩ s.sig)) := fun v s => rfl
    have HSB : ∃ f : Int → List UInt8 → Bool, (fun v sg => signedB ⟨x.h, x.r, 2, x.id, v⟩ sg) = f := ⟨_, rfl⟩
    obtain ⟨sb, hsb⟩ := HSB
    have hsb' : ∀ v sg, signedB ⟨x.h, x.r, 2, x.id, v⟩ sg = sb v sg := fun v sg => by rw [← hsb]
    simp only [Hid, hsb'] at HSG HIT
    replace HSG := Lib.hid HSG
    replace HIT := Lib.hid HIT
    clear hsb hsb'
    generalize upTo (comHas x) = U at *
    generalize comHas x = CH at *
    generalize hitL x = HT at *
    generalize comHit x = ht at *
    generalize comValsS x = V at *
    obtain ⟨h, r, id, l⟩ := x
    simp only at *
    have h12i : ¬ 12 < (l.length : Int) := by omega
    have hl12 : l.length ≤ 12 := by omega
    have HR := Lib.hid hR
    have HSL := Lib.hid hsl
    have hb0 := (Below.refl w.heap.size w).alloc (Nat.le_refl _) (.cells #[.int .i64 h, .int .i64 r, .string (S id), .slice A l.length c] 33)
    have hz : (w.alloc (.cells #[.int .i64 h, .int .i64 r, .string (S id), .slice A l.length c] 33)).heap.size = w.heap.size + 1 := by simp
    have e0 : (w.alloc (.cells #[.int .i64 h, .int .i64 r, .string (S id), .slice A l.length c] 33)).cell? ⟨w.heap.size, 0, none⟩ = some (.int .i64 h) := by go_simp
    have e1 : (w.alloc (.cells #[.int .i64 h, .int .i64 r, .string (S id), .slice A l.length c] 33)).cell? ⟨w.heap.size, 1, none⟩ = some (.int .i64 r) := by go_simp
    have e2 : (w.alloc (.cells #[.int .i64 h, .int .i64 r, .string (S id), .slice A l.length c] 33)).cell? ⟨w.heap.size, 2, none⟩ = some (.string (S id)) := by go_simp
    have e3 : (w.alloc (.cells #[.int .i64 h, .int .i64 r, .string (S id), .slice A l.length c] 33)).cell? ⟨w.heap.size, 3, none⟩ = some (.slice A l.length c) := by go_simp
    clear hR hsl
    go_enter Tryd.func23, Tryd.ntmps23
    go_wp2_with fail
    generalize w.alloc (.cells #[.int .i64 h, .int .i64 r, .string (S id), .slice A l.length c] 33) = W0 at *
    have HO : Hid ((W0.alloc (.cells #[] 3)).ownsRow W0.heap.size 3 1 (.slice (some ⟨w.heap.size + 1, 0, none⟩) 0 0) 0 ((U 0).map iv)) := by
      rw [HU0.out]
      rw [← hz]
      exact World.ownsRow_lit (e := 3) (size := 1) (base := W0.heap.size) W0 #[] 0 (Nat.le_refl _) (by simp [maxLen]) rfl
    have HB0 := Lib.hid ((Below.refl W0.heap.size W0).alloc (Nat.le_refl _) (.cells #[] 3))
    have HBW := Lib.hid hb0
    clear hb0
    go_loopw [3, 4] (fun out v wr => ∃ j : Nat, j ≤ 99 ∧ v = .int .i64 ((j : Int) + 1) ∧ wr.ownsRow W0.heap.size 3 1 out (U j).length ((U j).map iv) ∧ Below W0.heap.size W0 wr) (fun _ v _ => 100 - (intOf v).toNat)
    case atStart => exact ⟨0, by omega, rfl, by have := HO.out; rw [HU0.out] at this ⊢; exact this, HB0.out⟩
    case round =>
      rename World => wo
      obtain ⟨j, hj, rfl, hown, hb⟩ := hrel
      have hji : 0 ≤ (j : Int) ∧ (j : Int) ≤ 99 := by omega
      obtain ⟨Ao, co, rfl⟩ := own_slice hown
      have hbw := Below.next HBW.out hb
      have hz1 := hb.size
      have hul := HUL.out j
      by_cases hlt : j < 99
      · have hlti : (j : Int) + 1 ≤ 99 := by omega
        have f0 := (hb.cell (p := ⟨w.heap.size, 0, none⟩) (by show w.heap.size < W0.heap.size; omega)).trans e0
        have f1 := (hb.cell (p := ⟨w.heap.size, 1, none⟩) (by show w.heap.size < W0.heap.size; omega)).trans e1
        have f2 := (hb.cell (p := ⟨w.heap.size, 2, none⟩) (by show w.heap.size < W0.heap.size; omega)).trans e2
        have f3 := (hb.cell (p := ⟨w.heap.size, 3, none⟩) (by show w.heap.size < W0.heap.size; omega)).trans e3
        have HOWN := Lib.hid hown
        have HB := Lib.hid hb
        have HW := Lib.hid hbw
        have HUJ := Lib.hid (HU.out j)
        have HALL := Lib.hid (HHA.out ((j : Int) + 1))
        have HHJ := Lib.hid (fun k hk => HHS.out ((j : Int) + 1) k hk)
        have HHJ0 := Lib.hid (HH0.out ((j : Int) + 1))
        have HITJ := Lib.hid (HIT.out ((j : Int) + 1))
        have HSJ := Lib.hid fun (W : World) => HSG.out W ((j : Int) + 1)
        have HLJ := Lib.hid fun (W : World) => HL9.out W ((j : Int) + 1)
        have hwv : IntKind.i64.wrap ((j : Int) + 1 + 1) = (j : Int) + 1 + 1 := by rw [IntKind.wrap_i64]; omega
        generalize HT ((j : Int) + 1) = HJ at *
        generalize ht ((j : Int) + 1) = hj1 at *
        generalize CH ((j : Int) + 1) = chj at *
        generalize hvv : (j : Int) + 1 = vj at *
        clear hown hb hbw
        go_wp2_with fail
        go_loopw [5, 6] (fun is i wi => ∃ k : Nat, k ≤ l.length ∧ i = .int .i64 (k : Int) ∧ is = .bool (HJ k) ∧ Below wo.heap.size wo wi) (fun _ i _ => l.length - (intOf i).toNat)
        case atStart => exact ⟨0, by omega, rfl, by rw [HHJ0.out], Below.refl _ _⟩
        case round =>
          rename World => wi
          obtain ⟨k, hk, rfl, rfl, hb2⟩ := hrel
          have hki : 0 ≤ (k : Int) ∧ (k : Int) ≤ l.length := by omega
          have hzr := hb2.size
          have hwl : w.heap.size < wo.heap.size := by omega
          by_cases hlt2 : k < l.length
          · have hlti2 : (k : Int) < l.length := by omega
            have hbw2 := Below.next HW.out hb2
            obtain ⟨b, off, rfl, hbB, hc⟩ := HR.out.to hbw2 (by omega)
            obtain ⟨c0, c1⟩ := hc k hlt2
            have g0 := (hb2.cell (p := ⟨w.heap.size, 0, none⟩) hwl).trans f0
            have g1 := (hb2.cell (p := ⟨w.heap.size, 1, none⟩) hwl).trans f1
            have g2 := (hb2.cell (p := ⟨w.heap.size, 2, none⟩) hwl).trans f2
            have g3 := (hb2.cell (p := ⟨w.heap.size, 3, none⟩) hwl).trans f3
            have HN := Lib.hid (HHJ.out k hlt2)
            have HI2 := Lib.hid (HITJ.out l[k])
            have HB2 := Lib.hid hb2
            clear hc hb2 hbw2
            generalize l[k] = g at *
            obtain ⟨gv, gs⟩ := g
            simp only at c0 c1 HI2
            cases hv0 : HJ k
            · rw [hv0] at HN
              by_cases hgv : gv = vj
              · have HNx : Hid (HJ (k + 1) = sb vj gs) := by unfold Hid; rw [HN.out, HI2.out, decide_eq_true hgv]; simp
                subst hgv
                have HSS := Lib.hid fun (W : World) => HSJ.out W gs
                generalize sb gv gs = z at *
                have hbB' : b < wi.drew.heap.size := hbB
                have hC := cv_keep (w0 := wi.drew) (B := w.heap.size) hbB' (by show w.heap.size < wi.heap.size; omega) (Below.refl _ _) c0 c1 g0 g1 g2 g3 (Below.refl _ _)
                have hsz2 : w.heap.size < wi.drew.heap.size := by show w.heap.size < wi.heap.size; omega
                go_wp2_with fail
                go_region_held3 (fun w' => Below wi.drew.heap.size wi.drew w' ∧ w'.cell? ⟨b, off + k * 2, none⟩ = some (.int .i64 gv) ∧ w'.cell? ⟨b, off + k * 2 + 1, none⟩ = some (.string (S gs)) ∧ w'.cell? ⟨w.heap.size, 0, none⟩ = some (.int .i64 h) ∧ w'.cell? ⟨w.heap.size, 1, none⟩ = some (.int .i64 r) ∧ w'.cell? ⟨w.heap.size, 2, none⟩ = some (.string (S id)) ∧ w'.cell? ⟨w.heap.size, 3, none⟩ = some (.slice (some ⟨b, off, none⟩) l.length c)) (first | exact hC | exact cv_keep hbB' hsz2 (And.left (by assumption)) c0 c1 g0 g1 g2 g3 hbm | go_keep)
                  (first | (go_at_call 60; refine (HLJ.out _).mono ?_; rintro e wm ⟨rfl, hbm⟩) | (go_at_call 66; refine (HSS.out _).mono ?_; rintro e wm ⟨rfl, hbm⟩))
                all_goals
                  have hbx : Below wi.drew.heap.size wi.drew wm := by apply And.left; assumption
                  have HBX : Below wo.heap.size wo wm := Below.next HB2.out.drew hbx
                  go_wp2
                  go_roundw
                  case rel => exact ⟨k + 1, by omega, by go_num, by rw [HNx.out], HBX⟩
                  case measure => simp [intOf]; omega
              · have HNx : Hid (HJ (k + 1) = false) := by unfold Hid; rw [HN.out, HI2.out, decide_eq_false hgv]; simp
                go_wp2_with fail
                go_quiet (fail)
                go_wp2
                go_roundw
                case rel => exact ⟨k + 1, by omega, by go_num, by rw [HNx.out], below_drewN HB2.out _⟩
                case measure => simp [intOf]; omega
            · have HNx : Hid (HJ (k + 1) = true) := by unfold Hid; rw [HN.out, hv0]; simp
              go_wp2_with fail
              go_region
              go_wp2
              go_roundw
              case rel => exact ⟨k + 1, by omega, by go_num, by rw [HNx.out], HB2.out.drew⟩
              case measure => simp [intOf]; omega
          · have hkl : k = l.length := by omega
            have HB2 := Lib.hid hb2
            have o2 := own_below HOWN.out hb2
            have g3 := (hb2.cell (p := ⟨w.heap.size, 3, none⟩) hwl).trans f3
            have hbx0 := Below.next HB.out hb2
            have HBX := Lib.hid hbx0
            have hzz := hbx0.size
            have hHJ : HJ k = chj := by rw [hkl]; exact HALL.out
            rw [hHJ]
            have HO2 := Lib.hid o2
            clear hb2 o2 hbx0 hHJ
            cases hcv : chj
            · rw [hcv] at HUJ
              go_wp2_with fail
              go_roundw
              case rel => exact ⟨j + 1, by omega, by go_num, by rw [HUJ.out]; simpa using HO2.out, HBX.out⟩
              case measure => simp [intOf]; omega
            · rw [hcv, if_pos rfl] at HUJ
              have o2 := HO2.out
              go_wp2_with (at_builtin; refine app_low rfl _ _ 43 rfl Tryd.underlying43 hi hzA hzB hzC rfl (by decide) rfl o2 (by omega) rfl rfl rfl (one_cell_i _) (by unfold maxLen; omega) (by omega) ?_; intro v1 w4 hown1 hlow)
              go_roundw
              case rel => exact ⟨j + 1, by omega, by go_num, by rw [HUJ.out, List.length_append, List.length_singleton, List.map_append]; exact hown1, HBX.out.trans hlow⟩
              case measure => simp [intOf]; omega
      · have hlti : ¬ (j : Int) + 1 ≤ 99 := by omega
        have hj99 : Hid (j = 99) := by unfold Hid; omega
        have HOWN := Lib.hid hown
        have HW := Lib.hid hbw
        clear hown hb hbw
        go_wp2
        go_ret
        have := HOWN.out
        rw [hj99.out, ← HV.out] at this ⊢
        exact ⟨_, _, rfl, own_base this (by omega), HW.out⟩
end Go.Proofs.YtecimgkgdpnaeaaDoor
