/-
  Sha of the program.
-/
import Derived.Test.YtnmgecaflildoaaDoorSha2
import Derived.Test.YtnmgecaflildoaaDoorNum3
import Derived.Deep.AppendLies
import Derived.Deep.RegionWith
import Derived.Deep.RegionLaw
import Derived.StillTailTactics
import Derived.Deep.CutRange
namespace Go.Proofs.YtnmgecaflildoaaDoor
open Go.ChangeShapes Go.WideShapes Go.ChangeAt Go.RowKit
set_option linter.unusedVariables false
set_option linter.unusedSimpArgs false
set_option maxRecDepth 100000

/-- The words of a state, as bytes. -/
def outN (x : St) : Nat → List UInt8
  | 0 => []
  | k + 1 => outN x k ++ fixedL 4 (x.at k).toNat
theorem outN_8 (x : St) : outN x 8 = x.out := by simp [outN, St.out, St.at]
theorem outN_len (x : St) (k : Nat) : (outN x k).length = 4 * k := by
  induction k with
  | zero => rfl
  | succ k ih => rw [outN, List.length_append, ih, fixedL_length]; omega
theorem fixed_w (x : W32) : fixedS (wn x) 4 = fixedL 4 x.toNat := fixedS_yes (v := 4) (by omega) (by omega) (by have := x.isLt; omega)
/-- So many bytes 0. -/
def ZAt (W : World) (g m : Nat) : Prop := ∀ j, j < m → W.cell? ⟨g, j, none⟩ = some (.int .u8 0)
theorem S_take (l : List UInt8) (a b : Nat) : (S l).extract a b = S ((l.drop a).take (b - a)) := by
  unfold S
  simp [ByteArray.extract_mk]
theorem infoB : (Tryd.prog.info? 5).map (fun i => (i.zero, i.size, i.bytes)) = some (some (.int .u8 0), 1, 1) := by kernel_rfl
theorem makeZ (z : Nat) (hz : z ≤ 63) : ∃ cs : Array Value, (∀ W : World, (Instr.makeSlice 22 (.int .i64 ((z : Int) + 1)) (.int .i64 ((z : Int) + 1))).run Tryd.prog W = .ok (.slice (some ⟨W.heap.size, 0, none⟩) (z + 1) (z + 1)) (W.alloc (.cells cs 5))) ∧
    (∀ W : World, ZAt (W.alloc (.cells cs 5)) W.heap.size (z + 1)) ∧ ∀ (W : World) (g : Nat), ZAt W g (z + 1) → (convert 22 9 (.slice (some ⟨g, 0, none⟩) (z + 1) (z + 1))).run Tryd.prog W = .ok (.string (S (List.replicate (z + 1) 0))) W := by
  obtain ⟨i0, hi, hz0, hz1, hz2⟩ := info_parts infoB
  refine ⟨madeCells (Value.int .u8 0).cells ((z + 1) * i0.size), fun W => ?_, fun W j hj => ?_, fun W g hZ => ?_⟩
  · have := run_make W 22 5 i0 _ Tryd.underlying22 hi hz0 .i64 .i64 ((z : Int) + 1) ((z : Int) + 1) (by omega) (by omega) (by rw [hz2]; omega) (by omega)
    rw [show ((z : Int) + 1).toNat = z + 1 from by omega] at this
    exact this
  · rw [World.cell?_alloc_new, ← Array.getElem?_toList, hz1, Nat.mul_one, made_bytes, List.map_replicate, List.getElem?_replicate, if_pos hj]; rfl
  · have hc := run_convert_bytes_arg (P := Tryd.prog) W 22 5 Tryd.underlying22 Tryd.underlying5 g 0 (z + 1) (z + 1) (List.replicate (z + 1) 0) (by simp) (fun i hi => by
      rw [Nat.zero_add, hZ i hi]; simp [List.getD, List.getElem?_replicate, hi]) 9 Tryd.underlying9
    rw [hc]
    simp [strOfNums, S]

theorem iv_start (w : World) (t : TypeId) : GAt (w.alloc (.cells #[.int .u32 1779033703, .int .u32 3144134277, .int .u32 1013904242, .int .u32 2773480762, .int .u32 1359893119, .int .u32 2600822924, .int .u32 528734635, .int .u32 1541459225] t)) w.heap.size iv0.at := GAt.start w t iv0.at
theorem GAt.get8 {w : World} {V : Nat} {x : St} (h : GAt w V x.at) :
    w.cell? ⟨V, 0, none⟩ = some (.int .u32 (wn x.a)) ∧ w.cell? ⟨V, 1, none⟩ = some (.int .u32 (wn x.b)) ∧ w.cell? ⟨V, 2, none⟩ = some (.int .u32 (wn x.c)) ∧ w.cell? ⟨V, 3, none⟩ = some (.int .u32 (wn x.d)) ∧
    w.cell? ⟨V, 4, none⟩ = some (.int .u32 (wn x.e)) ∧ w.cell? ⟨V, 5, none⟩ = some (.int .u32 (wn x.f)) ∧ w.cell? ⟨V, 6, none⟩ = some (.int .u32 (wn x.g)) ∧ w.cell? ⟨V, 7, none⟩ = some (.int .u32 (wn x.h)) :=
  ⟨h.2.1 0 (by omega), h.2.1 1 (by omega), h.2.1 2 (by omega), h.2.1 3 (by omega), h.2.1 4 (by omega), h.2.1 5 (by omega), h.2.1 6 (by omega), h.2.1 7 (by omega)⟩
theorem idx8 (x : St) (k : Nat) (hk : k < 8) (W : World) : (Instr.index 62 x.val (.int .i64 (k : Int))).run Tryd.prog W = .ok (.int .u32 (wn (x.at k))) W := by
  match k, hk with
  | 0, _ => rfl
  | 1, _ => rfl
  | 2, _ => rfl
  | 3, _ => rfl
  | 4, _ => rfl
  | 5, _ => rfl
  | 6, _ => rfl
  | 7, _ => rfl
set_option maxHeartbeats 16000000 in
theorem iSha_any (l : List UInt8) (w : World) (hl : l.length ≤ 4194304) (hK : HasK w) :
    Calls Tryd.prog 30 #[.string (S l)] w fun e w' => e = .returned (.string (S (shaS l))) ∧ Below w.heap.size w w' := by
  have HK := Lib.hid hK
  clear hK
  have e1 : ((l.length : Int) + 9).tmod 64 = ((l.length : Int) + 9) % 64 := Int.tmod_eq_emod_of_nonneg (by omega)
  have e2 : (64 - ((l.length : Int) + 9) % 64).tmod 64 = (zerosN l.length : Int) := by
    rw [Int.tmod_eq_emod_of_nonneg (by omega)]; unfold zerosN; omega
  have hz : zerosN l.length ≤ 63 := by unfold zerosN; omega
  have HP : Hid (padS l = l ++ (128 :: (List.replicate (zerosN l.length + 1) 0 ++ fixedL 7 (8 * l.length)))) := rfl
  have HF : Hid (fixedS (8 * (l.length : Int)) 7 = fixedL 7 (8 * l.length)) := by
    have := fixedS_yes (m := 8 * l.length) (v := 7) (by omega) (by omega) (by omega)
    unfold Hid
    rw [← this]; rfl
  obtain ⟨cs, hmk, hZ, hcv⟩ := makeZ (zerosN l.length) hz
  generalize zerosN l.length = z at *
  have hZ2 : ∀ W : World, ZAt (W.alloc (.cells cs 5)).drew W.heap.size (z + 1) := hZ
  rw [← HF.out] at HP
  have hFl : (fixedS (8 * (l.length : Int)) 7).length = 7 := by rw [HF.out]; simp
  have hFx := fun W : World => iFixed_any (8 * (l.length : Int)) 7 W (by omega)
  clear HF
  generalize fixedS (8 * (l.length : Int)) 7 = F at *
  have hZl : (List.replicate (z + 1) (0 : UInt8)).length = z + 1 := List.length_replicate
  generalize List.replicate (z + 1) (0 : UInt8) = Zs at *
  have hFX := Lib.hid hFx
  have hw1 : IntKind.i64.wrap ((z : Int) + 1) = (z : Int) + 1 := by rw [IntKind.wrap_i64]; omega
  have hS : S l ++ ByteArray.mk #[128] = S (l ++ [128]) := S_append l [128]
  have m1 := fun W : World => run_string_add_sum (P := Tryd.prog) W (S l) (ByteArray.mk #[128]) (by rw [S_size]; show l.length + 1 ≤ _; omega)
  have m2 := fun W : World => run_string_add_sum (P := Tryd.prog) W (S (l ++ [128])) (S Zs) (by simp; omega)
  have m3 := fun W : World => run_string_add_sum (P := Tryd.prog) W (S (l ++ 128 :: Zs)) (S F) (by simp; omega)
  clear hFx
  have hb := Below.refl w.heap.size w
  go_enter Tryd.func30, Tryd.ntmps30
  go_wp2
  go_cut [5] from 20 to 29 (fun v wc => v = .string (S (padS l)) ∧ Below w.heap.size w wc)
  case first =>
    go_region_with (go_at_call 27; refine (hFX.out _).mono ?_; rintro e wn ⟨rfl, hbn⟩; try have hZ3 : ZAt wn w.heap.size (z + 1) := (fun j hj => (hbn.cell (p := ⟨w.heap.size, j, none⟩) (by simp)).trans (hZ w j hj)))
    all_goals
      go_wp2_with fail
      go_meet
      refine ⟨by rw [HP.out], ?_⟩
      first
        | exact Below.next (((Below.refl _ _).alloc (Nat.le_refl _) _).drew) hbn
        | exact (Below.next (Below.refl _ _).drew hbn).alloc (Below.next (w := w) (Below.refl _ _).drew hbn).size _
  case rest =>
    obtain ⟨rfl, hb⟩ := hcut
    have HM : Hid (padS l = padS l) := rfl
    have hpm := padS_mod l
    have hpl : (padS l).length ≤ 4194500 := by rw [padS_len]; unfold zerosN; omega
    have HSH : Hid (shaS l = (blocks (padS l) ((padS l).length / 64)).out) := rfl
    clear HP hZ hZ2 hcv hmk e1 e2 hz hFl hFX hw1 hS m1 m2 m3 hZl hl HM
    generalize padS l = p at *
    have hbz := hb.size
    have h0 : (0 : Int) ≤ p.length := by omega
    go_wp2
    go_loopw [7] (fun i wq => ∃ k : Nat, 64 * k ≤ p.length ∧ i = .int .i64 (64 * (k : Int)) ∧ GAt wq wc.heap.size (blocks p k).at ∧ Below w.heap.size w wq) (fun i _ => p.length - (intOf i).toNat)
    case atStart => exact ⟨0, by omega, rfl, iv_start wc 62, hb.alloc hbz _⟩
    case round =>
      obtain ⟨k, hk, rfl, hG, hbw⟩ := hrel
      have hki : 0 ≤ 64 * (k : Int) ∧ 64 * (k : Int) ≤ p.length := by omega
      by_cases hlt : 64 * k < p.length
      · have hlt2 : 64 * (k : Int) < p.length := by omega
        have hk64 : 64 * k + 64 ≤ p.length := by omega
        have t0 : (64 * (k : Int)).toNat = 64 * k := by omega
        have t1 : (64 * (k : Int) + 64).toNat = 64 * k + 64 := by omega
        have e1 : (S p).extract (64 * k) (64 * k + 64) = S ((p.drop (64 * k)).take 64) := by rw [S_take]; congr 2; omega
        have hlen : ((p.drop (64 * k)).take 64).length = 64 := by simp; omega
        have hx1 : 64 * (k : Int) + 64 ≤ p.length := by omega
        have hx2 : 64 * (k : Int) ≤ 64 * (k : Int) + 64 := by omega
        have hw2 : IntKind.i64.wrap (64 * (k : Int) + 64) = 64 * (k : Int) + 64 := by rw [IntKind.wrap_i64]; omega
        have hx3 : 0 ≤ 64 * (k : Int) + 64 := by omega
        have HB : Hid (blocks p (k + 1) = shaBlk (blocks p k) ((p.drop (64 * k)).take 64)) := rfl
        have hc := fun (W : World) (h : HasK W) => shaBlock_any (blocks p k) ((p.drop (64 * k)).take 64) W hlen h
        generalize (p.drop (64 * k)).take 64 = ch at *
        generalize blocks p k = x at *
        generalize shaBlk x ch = y at *
        simp only [St.val] at hc
        have HC := Lib.hid hc
        have HG := Lib.hid hG.drew
        have HW := Lib.hid hbw.drew
        clear hc hG hbw
        go_wp2
        refine wp_region_still_tail 6 (by kernel_rfl) (by kernel_rfl) ?_
        simp only [List.take_succ_cons, List.take_zero, List.drop_succ_cons, List.drop_zero]
        change wpStill _ _ wr.drew (fun a' => wpList _ _ _ _ a' wr.drew) _ _
        generalize wr.drew = wx at *
        obtain ⟨c0, c1, c2, c3, c4, c5, c6, c7⟩ := HG.out.get8
        repeat still_step
        refine wpStill_nil ?_
        clear c0 c1 c2 c3 c4 c5 c6 c7
        go_wp2_with (go_at_call 50; refine (HC.out _ (HK.out.to HW.out)).mono ?_; rintro e w3 ⟨rfl, hb3⟩; have HP3 := Lib.hid ((HG.out.below hb3).put y.at); have HB3 := Below.next HW.out hb3; obtain ⟨c0, c1, c2, c3, c4, c5, c6, c7⟩ := (HG.out.below hb3).get8; have hfz := (HG.out.below hb3).2.2)
        go_roundw
        case rel =>
          have nb : ∀ j, w.heap.size ≤ (⟨wc.heap.size, j, none⟩ : Addr).block := fun j => hbz
          refine ⟨k + 1, by omega, by congr 1, by rw [HB.out]; exact HP3.out, ?_⟩
          exact (((((((HB3.setCell (nb _) _).setCell (nb _) _).setCell (nb _) _).setCell (nb _) _).setCell (nb _) _).setCell (nb _) _).setCell (nb _) _).setCell (nb _) _
        case measure => simp [intOf]; omega
      · have hk' : k = p.length / 64 := by omega
        rw [← hk'] at HSH
        generalize blocks p k = x at *
        obtain ⟨c0, c1, c2, c3, c4, c5, c6, c7⟩ := hG.get8
        clear hG hpm hpl hk' hk
        go_wp2_with fail
        go_loopw [8, 45] (fun o i wq => ∃ k : Nat, k ≤ 8 ∧ i = .int .i64 (k : Int) ∧ o = .string (S (outN x k)) ∧ Below w.heap.size w wq) (fun _ i _ => 8 - (intOf i).toNat)
        case atStart => exact ⟨0, by omega, rfl, rfl, hbw⟩
        clear c0 c1 c2 c3 c4 c5 c6 c7 hbw hlt
        case round =>
          obtain ⟨k, hk, rfl, rfl, hb⟩ := hrel
          have hki : 0 ≤ (k : Int) ∧ (k : Int) ≤ 8 := by omega
          by_cases hlt : k < 8
          · have hf := fun W : World => iFixed_any (wn (x.at k)) 4 W (by have := wn_hi (x.at k); omega)
            rw [fixed_w] at hf
            have hlen := outN_len x k
            have HN : Hid (outN x (k + 1) = outN x k ++ fixedL 4 (x.at k).toNat) := rfl
            have hfl : (fixedL 4 (x.at k).toNat).length = 4 := by simp
            generalize fixedL 4 (x.at k).toNat = f at *
            generalize outN x k = o at *
            have hix := idx8 x k hlt
            simp only [St.val] at hix
            generalize x.at k = q at *
            have HFX := Lib.hid hf
            clear hf
            have hlt2 : (k : Int) < 8 := by omega
            go_wp2_with (go_at_call 27; refine (HFX.out _).mono ?_; rintro e wn ⟨rfl, hbn⟩; have hb := Below.next (w := w) (by repeat (first | with_reducible exact hb | with_reducible exact Below.refl _ _ | refine Below.drew ?_ | refine Below.setCell ?_ (by simp <;> omega) _ | refine Below.alloc ?_ (by simp <;> omega) _)) hbn; clear hbn)
            go_roundw
            case rel => exact ⟨k + 1, by omega, by go_num, by rw [HN.out], hb⟩
            case measure => simp [intOf]; omega
          · have hk' : k = 8 := by omega
            have HO : Hid (outN x k = shaS l) := by unfold Hid; rw [hk', outN_8, HSH.out]
            clear hk' hk
            go_wp2
            go_ret
            exact ⟨ret_string (by rw [HO.out]), hb⟩
end Go.Proofs.YtnmgecaflildoaaDoor
