/-
  The law FnTree: the walk.
-/
import Derived.Test.YtnmgecaflildoaaDoorDrT
import Derived.Test.YtnmgecaflildoaaDoorApT
import Derived.Test.YtnmgecaflildoaaDoorTree3
import Derived.Test.YtnmgecaflildoaaDoorTree4I
import Derived.Test.YtnmgecaflildoaaDoorBig1
namespace Go.Proofs.YtnmgecaflildoaaDoor.fnTree
open Go.ChangeShapes Go.WideShapes Go.ChangeAt Go.RowKit
set_option linter.unusedVariables false
set_option maxRecDepth 100000

theorem tree_keep {w1 wp cur wm : World} {a : Addr} {v : Value} (hbl : a.block < wp.heap.size) (H : (Below w1.heap.size w1 cur ∧ Below wp.heap.size wp cur) ∧ cur.cell? a = some v) (hb : Below cur.heap.size cur wm) :
    (Below w1.heap.size w1 wm ∧ Below wp.heap.size wp wm) ∧ wm.cell? a = some v := by
  obtain ⟨⟨h1, h2⟩, h3⟩ := H
  exact ⟨⟨Below.next h1 hb, Below.next h2 hb⟩, (hb.cell (p := a) (Nat.lt_of_lt_of_le hbl h2.size)).trans h3⟩
set_option maxHeartbeats 4000000 in
theorem walk (A : Option Addr) (c : Nat) (l : List UInt8) (w : World) (hl : l.length ≤ 9223372036854775807) (hR : BReads w w.heap.size A l) (hK : HasK w) :
    Calls Tryd.prog 4 #[.slice A l.length c] w fun e w' => e = .returned (.bool true) ∧ Below w.heap.size w w' := by
  have hb := Below.refl w.heap.size w
  by_cases h : l.length ≤ 1048576
  · have hbig : decide (1048576 < l.length) = false := by simp; omega
    have HD := Lib.hid (drawTreeRoot_in ⟨A, c, l⟩ w h hR)
    have HK := Lib.hid hK
    obtain ⟨i0, hi, hz0, hz1, hz2⟩ := info_parts infoT
    clear hK hR
    go_enter Tryd.func4, Tryd.ntmps4
    go_wp2_with fail
    refine (big_any _ _ _ _ hl).mono ?_
    rintro e w' ⟨rfl, hw⟩
    have hw := hw.symm
    subst hw
    rw [hbig]
    go_wp2_with fail
    refine HD.out.mono ?_
    rintro e w1 ⟨L, A1, c1, rfl, h41, h4, hc1, hc2, hnn, HT, b1⟩
    have HX : Hid (∀ x ∈ L, x.length ≤ 1048576) := fun x hx => Nat.le_trans (h4.out x hx) (by omega)
    have HK1 := Lib.hid (HK.out.to b1)
    have HB1 := Lib.hid b1
    have HIT := Lib.hid fun (W : World) (h : Below w1.heap.size w1 W) => iTree_any L.length L A1 L.length c1 W (Nat.le_refl _) rfl hc1 (by omega) hc2 HX.out (HT.out.to h) (HK1.out.to h)
    have HST := Lib.hid fun (W : World) (h : Below w1.heap.size w1 W) => sTreeRoot_any L A1 L.length c1 W rfl hc1 (by omega) hc2 HX.out (HT.out.to h)
    clear HD HK b1
    have hLi : 0 ≤ (L.length : Int) ∧ (L.length : Int) ≤ 41 := by omega
    by_cases h40 : L.length ≤ 40
    · have h40i : ¬ 40 < (L.length : Int) := by omega
      rw [treeRoot_small h40] at HIT HST
      have hrl := treeS_len L
      have HINC := Lib.hid fun (k : Nat) (hk : k < L.length) => tree_inc h40 hk
      have HSHORT := Lib.hid fun (k : Nat) (hk : k < L.length) (hp : 0 < (pathS L k).length) => tree_short h40 hk hp (treeS L) L[k]
      generalize treeS L = root at *
      go_wp2_with fail
      refine (HIT.out _ (Below.refl _ _)).mono ?_
      rintro e w2 ⟨rfl, b2⟩
      go_wp2_with fail
      refine (HST.out _ b2).mono ?_
      rintro e w3 ⟨rfl, b3⟩
      have b3' := Below.next b2 b3
      clear b2 b3 HIT HST
      go_wp2_with fail
      have HPATH := Lib.hid fun (k : Nat) (W : World) (hk : k < L.length) (h : Below w1.heap.size w1 W) => iPath_any L.length L A1 L.length c1 k W (Nat.le_refl _) rfl (by omega) h40 hk hc1 hc2 HX.out (HT.out.to h) (HK1.out.to h)
      go_loopw [5] (fun i wr => ∃ k : Nat, k ≤ L.length ∧ i = .int .i64 (k : Int) ∧ Below w1.heap.size w1 wr) (fun i _ => L.length - (intOf i).toNat)
      case atStart => exact ⟨0, by omega, rfl, b3'⟩
      case round =>
        obtain ⟨k, hkL, rfl, hbr⟩ := hrel
        clear b3'
        have hki : 0 ≤ (k : Int) ∧ (k : Int) ≤ L.length := by omega
        by_cases hlt : k < L.length ∧ k < 10
        · obtain ⟨hlt, hk10⟩ := hlt
          have hli : (k : Int) < L.length ∧ (k : Int) < 10 := by omega
          obtain ⟨bl, off, rfl, hbl, hcl⟩ := HT.out.to hbr (by omega)
          have kL := hcl k hlt
          have HP := Lib.hid (HPATH.out k _ hlt hbr)
          have hzr := hbr.size
          have HBR := Lib.hid hbr
          clear hcl hbr
          go_wp2_with fail
          refine HP.out.mono ?_
          rintro e wp ⟨vp, rfl, op, bp⟩
          have hpl := pathS_len L k
          have hpa := Lib.hid (pathS_all L k)
          have HI1 := HINC.out k hlt
          have HSH1 := Lib.hid (HSHORT.out k hlt)
          have hd4 : L[k].length ≤ 4 := h4.out _ (List.getElem_mem _)
          have HLS : Hid (∀ v : List UInt8, v.length ≤ 100 → ∀ x ∈ L.set k v, x.length ≤ 1048576) := fun v hv x hx => by
            rcases List.mem_or_eq_of_mem_set hx with h | rfl
            · exact HX.out x h
            · omega
          generalize hdk : L[k] = d at *
          generalize pathS L k = p at *
          obtain ⟨Ap, cp, rfl⟩ := own_slice op
          have hcap := own_capA op
          have HTP := Lib.hid (TReads.of_own op)
          have hbp := Below.next HBR.out bp
          have kLp := (bp.cell (p := ⟨bl, off + k, none⟩) hbl).trans kL
          have hzp := bp.size
          have e120 : S (d ++ [120]) = S d ++ ⟨#[120]⟩ := by rw [show (⟨#[120]⟩ : ByteArray) = S [120] from rfl]; simp
          have e121 : S (d ++ [121]) = S d ++ ⟨#[121]⟩ := by rw [show (⟨#[121]⟩ : ByteArray) = S [121] from rfl]; simp
          have HI := Lib.hid fun (W : World) (dd : List UInt8) (hd : dd.length ≤ 100) (h1 : Below w1.heap.size w1 W) (h2 : Below wp.heap.size wp W) => iIncludes_any root dd (k : Int) (L.length : Int) p Ap p.length cp W (by omega) (by omega) rfl hcap.1 (by omega) hcap.2 (fun x hx => by rw [hpa.out x hx]; omega) (HTP.out.to h2) (HK1.out.to h1)
          have HS := Lib.hid fun (W : World) (dd : List UInt8) (hd : dd.length ≤ 100) (h2 : Below wp.heap.size wp W) => sIncludes_any root dd (k : Int) (L.length : Int) p Ap p.length cp W (by omega) rfl hcap.1 (by omega) hcap.2 (fun x hx => by rw [hpa.out x hx]; omega) (HTP.out.to h2)
          have HIa := Lib.hid fun (W : World) (h1 : Below w1.heap.size w1 W) (h2 : Below wp.heap.size wp W) => HI.out W d (by omega) h1 h2
          have HSa := Lib.hid fun (W : World) (h2 : Below wp.heap.size wp W) => HS.out W d (by omega) h2
          have HIb := Lib.hid fun (W : World) (h1 : Below w1.heap.size w1 W) (h2 : Below wp.heap.size wp W) => HI.out W (d ++ [120]) (by simp; omega) h1 h2
          have HSb := Lib.hid fun (W : World) (h2 : Below wp.heap.size wp W) => HS.out W (d ++ [120]) (by simp; omega) h2
          rw [HI1] at HIa HSa
          rw [e120] at HIb HSb
          generalize includesS root (d ++ [120]) (k : Int) (L.length : Int) p = z2 at *
          have m1 := fun W : World => run_string_add_sum (P := Tryd.prog) W (S d) ⟨#[120]⟩ (by rw [show (⟨#[120]⟩ : ByteArray) = S [120] from rfl]; simp; omega)
          have m2 := fun W : World => run_string_add_sum (P := Tryd.prog) W (S d) ⟨#[121]⟩ (by rw [show (⟨#[121]⟩ : ByteArray) = S [121] from rfl]; simp; omega)
          have hC : (Below w1.heap.size w1 wp.drew ∧ Below wp.heap.size wp wp.drew) ∧ wp.drew.cell? ⟨bl, off + k, none⟩ = some (.string (S d)) := ⟨⟨hbp.drew, (Below.refl _ _).drew⟩, kLp⟩
          have hblp : bl < wp.heap.size := by omega
          clear HP op bp kL HI HS HI1
          go_wp2_with fail
          go_region_held3 (fun w' => (Below w1.heap.size w1 w' ∧ Below wp.heap.size wp w') ∧ w'.cell? ⟨bl, off + k, none⟩ = some (.string (S d))) (first | exact hC | exact tree_keep hblp (by assumption) hbm | go_keep)
            (first | (go_at_call 15; first | (with_reducible refine (HIa.out _ (And.left (And.left (by assumption))) (And.right (And.left (by assumption)))).mono ?_; rintro e wm ⟨rfl, hbm⟩) | (with_reducible refine (HIb.out _ (And.left (And.left (by assumption))) (And.right (And.left (by assumption)))).mono ?_; rintro e wm ⟨rfl, hbm⟩)) | (go_at_call 16; first | (with_reducible refine (HSa.out _ (And.right (And.left (by assumption)))).mono ?_; rintro e wm ⟨rfl, hbm⟩) | (with_reducible refine (HSb.out _ (And.right (And.left (by assumption)))).mono ?_; rintro e wm ⟨rfl, hbm⟩)))
          all_goals
            rename_i hH
            obtain ⟨⟨hbm1, hbmp⟩, kLm⟩ := hH
            have HJ := Lib.hid (World.ownsRow_lit (e := 9) (size := 1) (base := wm.heap.size) wm #[] 0 (Nat.le_refl _) (by simp [maxLen]) rfl)
            have HBL := Lib.hid ((Below.refl wm.heap.size wm).alloc (Nat.le_refl _) (.cells #[] 9))
            have HTA := Lib.hid ((HT.out.to hbm1).to HBL.out)
            have HX2 := Lib.hid (HLS.out (d ++ [121]) (by simp; omega))
            have HIX := Lib.hid fun (W : World) (g cap : Nat) (h : Below w1.heap.size w1 W) (hT : TReads W W.heap.size (some ⟨g, 0, none⟩) (L.set k (d ++ [121]))) (h1 : L.length ≤ cap) (h2 : cap ≤ 9223372036854775807) => iTree_any L.length (L.set k (d ++ [121])) (some ⟨g, 0, none⟩) L.length cap W (by rw [List.length_set]; exact Nat.le_refl _) (List.length_set ..) h1 (by omega) h2 HX2.out hT (HK1.out.to h)
            have HSX := Lib.hid fun (W : World) (g cap : Nat) (hT : TReads W W.heap.size (some ⟨g, 0, none⟩) (L.set k (d ++ [121]))) (h1 : L.length ≤ cap) (h2 : cap ≤ 9223372036854775807) => sTreeRoot_any (L.set k (d ++ [121])) (some ⟨g, 0, none⟩) L.length cap W (List.length_set ..) h1 (by omega) h2 HX2.out hT
            generalize treeRootS (L.set k (d ++ [121])) = rx at *
            have HBM1 := Lib.hid hbm1
            have HBMP := Lib.hid hbmp
            have KLM := Lib.hid kLm
            have hzm := hbmp.size
            clear hbm1 hbmp kLm hC HIa HSa HIb HSb hbm HX2 kLp hbp m1
            go_wp2_with (at_builtin; refine app_texts rfl _ _ 31 rfl Tryd.underlying31 hi hz0 hz1 hz2 rfl HJ.out (by simp) rfl HTA.out hnn (by omega) ?_; intro v1 w9 o9 b9; obtain ⟨g, cg, rfl, hg0, hgl, hgc, hgm, kx, fx, HXT⟩ := tree_x hlt o9 (d ++ [121]); rw [hdk] at kx; rw [e121] at HXT; have b9' := Lib.hid (HBL.out.trans b9); clear o9 b9)
            have BX : Below wm.heap.size wm (w9.setCell ⟨g, k, none⟩ (.string (S d ++ ⟨#[121]⟩))) := b9'.out.setCell hg0 _
            have BX1 := Below.next HBM1.out BX
            have BXP := Below.next HBMP.out BX
            generalize w9.setCell ⟨g, k, none⟩ (.string (S d ++ ⟨#[121]⟩)) = W9 at *
            refine (HIX.out _ g cg BX1 HXT.out hgc hgm).mono ?_
            rintro e wa ⟨rfl, ba⟩
            go_wp2_with fail
            refine (HSX.out _ g cg (HXT.out.to ba) hgc hgm).mono ?_
            rintro e wb ⟨rfl, bb⟩
            have hb1 := Below.next (Below.next BX1 ba) bb
            have hbP := Below.next (Below.next BXP ba) bb
            have kLb := (hbP.cell (p := ⟨bl, off + k, none⟩) hblp).trans ((HBMP.out.cell (p := ⟨bl, off + k, none⟩) hblp).symm.trans KLM.out)
            clear BX BX1 BXP ba bb HIX HSX HXT KLM kx fx HTA HJ HBL b9'
            by_cases hp0 : 0 < p.length
            · have hp0i : 0 < (p.length : Int) := by omega
              have hC2 : (Below w1.heap.size w1 wb.drew ∧ Below wp.heap.size wp wb.drew) ∧ wb.drew.cell? ⟨bl, off + k, none⟩ = some (.string (S d)) := ⟨⟨hb1.drew, hbP.drew⟩, kLb⟩
              obtain ⟨bq, oq, rfl, hbq, hcq⟩ := HTP.out.to hbP hp0
              have HSF := Lib.hid (HSH1.out hp0)
              have hpl1 : (p.drop 1).length = p.length - 1 := List.length_drop
              have HPX : Hid (∀ x ∈ p.drop 1, x.length ≤ 1048576) := fun x hx => by rw [hpa.out x (List.mem_of_mem_drop hx)]; omega
              clear hb1 hbP hcq m2
              have hs1 : (1 : Int) ≤ (p.length : Int) := by omega
              have hs2 : (p.length : Int) ≤ (cp : Int) := by omega
              have hs3 : 1 ≤ p.length := by omega
              have hs4 : p.length ≤ cp := by omega
              by_cases hcp1 : cp = 1
              · have hp1 : p.length = 1 := by omega
                have HIs := Lib.hid fun (W : World) (A' : Option Addr) (h1 : Below w1.heap.size w1 W) (h2 : Below wp.heap.size wp W) => iIncludes_any root d (k : Int) (L.length : Int) (p.drop 1) A' 0 0 W (by omega) (by omega) (by omega) (by omega) (by omega) (by omega) HPX.out (fun h => absurd h (by omega)) (HK1.out.to h1)
                rw [HSF.out] at HIs
                go_wp2_with fail
                go_region_held3 (fun w' => (Below w1.heap.size w1 w' ∧ Below wp.heap.size wp w') ∧ w'.cell? ⟨bl, off + k, none⟩ = some (.string (S d))) (first | exact hC2 | exact tree_keep hblp (by assumption) hbm | go_keep)
                  (first | (go_at_call 15; refine (HIs.out _ _ (And.left (And.left (by assumption))) (And.right (And.left (by assumption)))).mono ?_; rintro e wm' ⟨rfl, hbm⟩))
                all_goals
                  have HBx : Below w1.heap.size w1 wm' := by apply And.left; apply And.left; assumption
                  go_wp2
                  go_roundw
                  case rel => exact ⟨k + 1, by omega, by go_num, HBx⟩
                  case measure => simp [intOf]; omega
              · have hcp1i : ¬ (cp : Int) = 1 := by omega
                have HTD := Lib.hid fun (W : World) (h : Below wp.heap.size wp W) => (HTP.out.to h).drop 1
                have HIs := Lib.hid fun (W : World) (h1 : Below w1.heap.size w1 W) (h2 : Below wp.heap.size wp W) => iIncludes_any root d (k : Int) (L.length : Int) (p.drop 1) (some ⟨bq, oq + 1, none⟩) (p.length - 1) (cp - 1) W (by omega) (by omega) (by omega) (by omega) (by omega) (by omega) HPX.out (HTD.out W h2) (HK1.out.to h1)
                rw [HSF.out] at HIs
                go_wp2_with fail
                go_region_held3 (fun w' => (Below w1.heap.size w1 w' ∧ Below wp.heap.size wp w') ∧ w'.cell? ⟨bl, off + k, none⟩ = some (.string (S d))) (first | exact hC2 | exact tree_keep hblp (by assumption) hbm | go_keep)
                  (first | (go_at_call 15; refine (HIs.out _  (And.left (And.left (by assumption))) (And.right (And.left (by assumption)))).mono ?_; rintro e wm' ⟨rfl, hbm⟩))
                all_goals
                  have HBx : Below w1.heap.size w1 wm' := by apply And.left; apply And.left; assumption
                  go_wp2
                  go_roundw
                  case rel => exact ⟨k + 1, by omega, by go_num, HBx⟩
                  case measure => simp [intOf]; omega
            · have hp0i : ¬ 0 < (p.length : Int) := by omega
              have hpz : p.length = 0 := by omega
              have HB := Lib.hid hb1
              clear hb1 hbP kLb
              go_wp2_with fail
              go_region
              go_wp2
              go_roundw
              case rel => exact ⟨k + 1, by omega, by go_num, HB.out.drew⟩
              case measure => simp [intOf]; omega
        · have hgd : ¬ ((k : Int) < L.length) ∨ ((k : Int) < L.length ∧ ¬ (k : Int) < 10) := by omega
          have HF := Lib.hid (Below.next HB1.out hbr)
          clear hbr
          rcases hgd with hgd | ⟨hgd, hgd2⟩
          all_goals
            go_wp2
            go_ret
            exact ⟨rfl, HF.out⟩
    · have h40i : 40 < (L.length : Int) := by omega
      have hv : treeRootS L = [] := by unfold treeRootS; rw [if_pos (by omega)]
      rw [hv] at HIT
      go_wp2_with fail
      refine (HIT.out _ (Below.refl _ _)).mono ?_
      rintro e w2 ⟨rfl, b2⟩
      have hS0 : S [] = ⟨#[]⟩ := rfl
      go_wp2
      go_ret
      exact ⟨rfl, Below.next HB1.out b2⟩
  · have hbig : decide (1048576 < l.length) = true := by simp; omega
    go_enter Tryd.func4, Tryd.ntmps4
    go_wp2_with fail
    refine (big_any _ _ _ _ hl).mono ?_
    rintro e w' ⟨rfl, hw⟩
    have hw := hw.symm
    subst hw
    rw [hbig]
    go_wp2
    go_ret
    exact ⟨rfl, hb⟩
end Go.Proofs.YtnmgecaflildoaaDoor.fnTree
