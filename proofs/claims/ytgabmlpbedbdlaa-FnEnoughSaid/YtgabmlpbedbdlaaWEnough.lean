/-
  The law FnEnough: the walk.
-/
import Derived.Test.YtgabmlpbedbdlaaEn2
import Derived.Test.YtgabmlpbedbdlaaBig1
import Derived.Test.YtgabmlpbedbdlaaEn0
namespace Go.Proofs.Ytgabmlpbedbdlaa.fnEnough
open Go.ChangeShapes Go.WideShapes Go.ChangeAt Go.RowKit
set_option linter.unusedVariables false
set_option maxRecDepth 100000

/-- The power that both have, at place k. -/
def BothAt (L : List ValT) (f : Int → Bool) (k : Nat) (v : Int) : Prop := -9223372036854775808 ≤ v ∧ v ≤ 9223372036854775807 ∧ (valsOkB L = true → v = pwOf f (L.take k))
theorem both_step {L : List ValT} {f : Int → Bool} {k : Nat} {v : Int} (h : BothAt L f k v) (hk : k < L.length) (hf : f L[k].id = true) : BothAt L f (k + 1) (wrap64 (v + L[k].power)) := by
  refine ⟨by unfold wrap64; omega, by unfold wrap64; omega, fun hok => ?_⟩
  have h1 := pw_step f L hok k hk
  rw [pwOf_take f L k hk, if_pos hf, h.2.2 hok]
  unfold wrap64; omega
theorem both_skip {L : List ValT} {f : Int → Bool} {k : Nat} {v : Int} (h : BothAt L f k v) (hk : k < L.length) (hf : f L[k].id = false) : BothAt L f (k + 1) v := by
  refine ⟨h.1, h.2.1, fun hok => ?_⟩
  rw [pwOf_take f L k hk, if_neg (by rw [hf]; decide), h.2.2 hok]

set_option maxHeartbeats 4000000 in
theorem walk (A : Option Addr) (c : Nat) (l : List UInt8) (w : World) (hl : l.length ≤ 9223372036854775807) (hR : BReads w w.heap.size A l) :
    Calls Try.prog 7 #[.slice A l.length c] w fun e w' => e = .returned (.bool true) ∧ Below w.heap.size w w' := by
  have hb := Below.refl w.heap.size w
  by_cases h : l.length ≤ 1048576
  · have hbig : decide (1048576 < l.length) = false := by simp; omega
    obtain ⟨i0, hi, hz0, hz1, hz2⟩ := info_parts info_int2
    have HD := Lib.hid (drawEnough_in ⟨A, c, l⟩ w h hR)
    have HF := Lib.hid fun (W : World) (h2 : Below w.heap.size w W) => fresh_in A c l W h ((hR.below h2 (Nat.le_refl _)).more h2.size)
    go_enter Try.func7, Try.ntmps7
    go_wp2_with fail
    refine (big_any _ _ _ _ hl).mono ?_
    rintro e w1 ⟨rfl, rfl⟩
    rw [hbig]
    go_wp2_with fail
    refine HD.out.mono ?_
    rintro e w1 ⟨L, a, A1, A2, c1, c2, rfl, hL8, ha, VR1, IR1, hn1, b1⟩
    go_wp2_with fail
    refine (HF.out _ b1).mono ?_
    rintro e w2 ⟨t, A3, c3, rfl, ht, BR, b2⟩
    have HD2 := Lib.hid (drawEnough_in ⟨A3, c3, t⟩ w2 (by simp only; omega) BR)
    have hb2 := Below.next b1 b2
    have VR2 := VR1.to b2
    have IR2 := IR1.to b2
    clear VR1 IR1 b1 b2 HD HF BR
    go_wp2_with fail
    refine HD2.out.mono ?_
    rintro e w3 ⟨L', b, A4, A5, c4, c5, rfl, _, hb', _, JR3, hn2, b3⟩
    have hb3 := Below.next hb2 b3
    have VR3 := VR2.to b3
    have IR3 := IR2.to b3
    clear VR2 IR2 b3 HD2 hb2
    go_wp2_with fail
    refine (iEnough_any A1 c1 L A2 c2 a _ (by omega) (by omega) VR3 IR3).mono ?_
    rintro e w4 ⟨rfl, b4⟩
    have hb4 := Below.next hb3 b4
    have VR4 := VR3.to b4
    have IR4 := IR3.to b4
    have JR4 := JR3.to b4
    clear VR3 IR3 JR3 b4 hb3
    go_wp2_with fail
    refine (iEnough_any A1 c1 L A5 c5 b _ (by omega) (by omega) VR4 JR4).mono ?_
    rintro e w5 ⟨rfl, b5⟩
    have hb5 := Below.next hb4 b5
    have VR5 := VR4.to b5
    have IR5 := IR4.to b5
    have JR5 := JR4.to b5
    clear VR4 IR4 JR4 b5 hb4
    go_wp2_with fail
    refine (sEnough_any A1 c1 L A2 c2 a _ (by omega) (by omega) VR5 IR5).mono ?_
    rintro e w6 ⟨rfl, b6⟩
    have hb6 := Below.next hb5 b6
    have VR6 := VR5.to b6
    have IR6 := IR5.to b6
    have JR6 := JR5.to b6
    clear VR5 IR5 JR5 b6 hb5
    go_wp2_with fail
    refine (iPowerOf_any A1 c1 L _ (by omega) VR6).mono ?_
    rintro e w7 ⟨rfl, b7⟩
    have hb7 := Below.next hb6 b7
    have VR7 := VR6.to b7
    have IR7 := IR6.to b7
    have JR7 := JR6.to b7
    clear VR6 IR6 JR6 b7 hb6
    go_wp2_with fail
    refine (sPowerOf_any A1 c1 L _ (by omega) VR7).mono ?_
    rintro e w8 ⟨rfl, b8⟩
    have HB8 := Lib.hid (Below.next hb7 b8)
    have VR8 := Lib.hid (VR7.to b8)
    have IR8 := Lib.hid (IR7.to b8)
    have JR8 := Lib.hid (JR7.to b8)
    clear VR7 IR7 JR7 b8 hb7
    have HA := Lib.hid fun x => has_any A2 c2 a x w8 (by omega) IR8.out
    have HB := Lib.hid fun x => has_any A5 c5 b x w8 (by omega) JR8.out
    go_wp2_with fail
    go_loop [9, 10] (fun both i => ∃ (k : Nat) (v : Int), k ≤ L.length ∧ i = .int .i64 (k : Int) ∧ both = .int .i64 v ∧ Hid (BothAt L (fun x => hasB a x && hasB b x) k v)) (fun _ i => L.length - (intOf i).toNat)
    case atStart => exact ⟨0, 0, by omega, rfl, rfl, by decide, by decide, fun _ => rfl⟩
    case round =>
      obtain ⟨k, v, hk, rfl, rfl, HV⟩ := hrel
      have hki : 0 ≤ (k : Int) ∧ (k : Int) ≤ L.length := by omega
      by_cases hlt : k < L.length
      · have hlti : (k : Int) < L.length := by omega
        obtain ⟨g, off, rfl, hgl, hcl⟩ := VR8.out (by omega)
        obtain ⟨k0, k1⟩ := hcl k hlt
        have HS := Lib.hid fun hf => both_step HV.out hlt hf
        have HK := Lib.hid fun hf => both_skip HV.out hlt hf
        have HAk := Lib.hid (HA.out L[k].id)
        have HBk := Lib.hid (HB.out L[k].id)
        clear hcl
        cases h1 : hasB a L[k].id
        · rw [h1] at HAk
          have HN := Lib.hid (HK.out (by simp [h1]))
          go_wp2_with fail
          refine HAk.out.mono ?_
          rintro e w' ⟨rfl, rfl⟩
          go_wp2
          go_round
          case rel => exact ⟨k + 1, v, by omega, by go_num, rfl, HN.out⟩
          case measure => simp [intOf]; omega
        · rw [h1] at HAk
          cases h2 : hasB b L[k].id
          · rw [h2] at HBk
            have HN := Lib.hid (HK.out (by simp [h1, h2]))
            go_wp2_with fail
            refine HAk.out.mono ?_
            rintro e w' ⟨rfl, rfl⟩
            go_wp2_with fail
            refine HBk.out.mono ?_
            rintro e w' ⟨rfl, rfl⟩
            go_wp2
            go_round
            case rel => exact ⟨k + 1, v, by omega, by go_num, rfl, HN.out⟩
            case measure => simp [intOf]; omega
          · rw [h2] at HBk
            have HN := Lib.hid (HS.out (by simp [h1, h2]))
            go_wp2_with fail
            refine HAk.out.mono ?_
            rintro e w' ⟨rfl, rfl⟩
            go_wp2_with fail
            refine HBk.out.mono ?_
            rintro e w' ⟨rfl, rfl⟩
            go_wp2
            go_round
            case rel => exact ⟨k + 1, _, by omega, by go_num, rfl, HN.out⟩
            case measure => simp [intOf]; omega
      · obtain rfl : k = L.length := by omega
        have hlti : ¬ (L.length : Int) < L.length := by omega
        have HJ := Lib.hid (World.ownsRow_lit (e := 3) (size := 1) (base := w8.heap.size) w8 #[] 0 (Nat.le_refl _) (by simp [maxLen]) rfl)
        have HBL := (Below.refl w8.heap.size w8).alloc (Nat.le_refl _) (.cells #[] 3)
        have HIA := Lib.hid (IR8.out.to HBL)
        have HJA := Lib.hid fun (W : World) (h : Below w8.heap.size w8 W) => JR8.out.to h
        have HVA := Lib.hid fun (W : World) (h : Below w8.heap.size w8 W) => VR8.out.to h
        have HBL := Lib.hid HBL
        have HPO := Lib.hid fun (W : World) (h : Below w8.heap.size w8 W) => iPowerOf_any A1 c1 L W (by omega) (VR8.out.to h)
        have hab : (a ++ b).length = a.length + b.length := List.length_append
        have HEN := Lib.hid fun (W : World) (Am : Option Addr) (cm : Nat) (h : Below w8.heap.size w8 W) (hM : IReads W W.heap.size Am (a ++ b)) => iEnough_any A1 c1 L Am cm (a ++ b) W (by omega) (by omega) (VR8.out.to h) hM
        rw [hab] at HEN
        have HMORE := Lib.hid fun (h : enoughB L a = true) => enough_more (b := b) h
        have HMEET := Lib.hid fun (h1 : enoughB L a = true) (h2 : enoughB L b = true) => enough_meet h1 h2
        have HVAL : Hid (enoughB L a = true → 0 ≤ v ∧ v ≤ 7000 ∧ v = pwOf (fun x => hasB a x && hasB b x) L) := fun h => by
          have hok : valsOkB L = true := by unfold enoughB at h; rw [Bool.and_eq_true] at h; exact h.1
          have h1 := HV.out.2.2 hok
          rw [List.take_length] at h1
          have h2 := valsOk_bound (fun x => hasB a x && hasB b x) hok
          rw [← h1] at h2
          exact ⟨h2.1, h2.2, h1⟩
        generalize enoughB L (a ++ b) = z at *
        generalize hpb : pwOf (fun x => hasB a x && hasB b x) L = pb at *
        clear HA HB HV
        cases hx : enoughB L a
        · go_wp2_with (first | (at_builtin; refine app_ints rfl _ _ 34 rfl Try.underlying34 hi hz0 hz1 hz2 rfl HJ.out (by simp) rfl HIA.out hn1 (by omega) ?_; intro v1 w9 o9 b9; have HB9 := Below.trans (HBL.out) b9) | (at_builtin; refine app_ints rfl _ _ 34 rfl Try.underlying34 hi hz0 hz1 hz2 rfl o9 HB9.size rfl (HJA.out _ HB9) hn2 (by omega) ?_; intro v2 w10 o10 b10))
          go_ret
          exact ⟨rfl, HB8.out.trans ((HB9.trans b10).mono HB8.out.size)⟩
        · skip
          have hz := HMORE.out (by first | exact hx | rfl)
          subst hz
          obtain ⟨hv0, hv7, hvp⟩ := HVAL.out (by first | exact hx | rfl)
          subst hvp
          cases hy : enoughB L b
          · skip
            go_wp2_with (first | (at_builtin; refine app_ints rfl _ _ 34 rfl Try.underlying34 hi hz0 hz1 hz2 rfl HJ.out (by simp) rfl HIA.out hn1 (by omega) ?_; intro v1 w9 o9 b9; have HB9 := Below.trans (HBL.out) b9) | (at_builtin; refine app_ints rfl _ _ 34 rfl Try.underlying34 hi hz0 hz1 hz2 rfl o9 HB9.size rfl (HJA.out _ HB9) hn2 (by omega) ?_; intro v2 w10 o10 b10; obtain ⟨Am, cm, rfl⟩ := own_slice o10))
            have HB10 := HB9.trans b10
            refine (HEN.out _ Am cm HB10 (own_ireads (l := a ++ b) (by rw [List.map_append]; exact o10) (by simp))).mono ?_
            rintro e w11 ⟨rfl, b11⟩
            go_wp2
            go_ret
            exact ⟨rfl, Below.next (HB8.out.trans (HB10.mono HB8.out.size)) b11⟩
          · skip
            have hm := HMEET.out (by first | exact hx | rfl) (by first | exact hy | rfl)
            have hmi : powerS L < 3 * v := hm
            have HPW := Lib.hid hmi
            go_wp2_with (first | (at_builtin; refine app_ints rfl _ _ 34 rfl Try.underlying34 hi hz0 hz1 hz2 rfl HJ.out (by simp) rfl HIA.out hn1 (by omega) ?_; intro v1 w9 o9 b9; have HB9 := Below.trans (HBL.out) b9) | (at_builtin; refine app_ints rfl _ _ 34 rfl Try.underlying34 hi hz0 hz1 hz2 rfl o9 HB9.size rfl (HJA.out _ HB9) hn2 (by omega) ?_; intro v2 w10 o10 b10; obtain ⟨Am, cm, rfl⟩ := own_slice o10))
            have HB10 := HB9.trans b10
            refine (HPO.out _ HB10).mono ?_
            rintro e w11 ⟨rfl, b11⟩
            have HB11 := Below.next HB10 b11
            have o11 := own_below o10 b11
            go_wp2_with fail
            refine (HEN.out _ Am cm HB11 (own_ireads (l := a ++ b) (by rw [List.map_append]; exact o11) (by simp))).mono ?_
            rintro e w12 ⟨rfl, b12⟩
            go_wp2
            go_ret
            exact ⟨rfl, Below.next (HB8.out.trans (HB11.mono HB8.out.size)) b12⟩
  · have hbig : decide (1048576 < l.length) = true := by simp; omega
    go_enter Try.func7, Try.ntmps7
    go_wp2_with fail
    refine (big_any _ _ _ _ hl).mono ?_
    rintro e w1 ⟨rfl, rfl⟩
    rw [hbig]
    go_wp2
    go_ret
    exact ⟨rfl, hb⟩
end Go.Proofs.Ytgabmlpbedbdlaa.fnEnough
