/-
  Links and secrets of hash-based signatures; SignAs: both sides.
-/
import Derived.Test.YtllfnhkloaenhaaDoorLeaf1
import Derived.Test.YtllfnhkloaenhaaDoorHs0
import Derived.Test.YtllfnhkloaenhaaDoorInts0
namespace Go.Proofs.YtllfnhkloaenhaaDoor
open Go.ChangeShapes Go.WideShapes Go.ChangeAt Go.RowKit
set_option linter.unusedVariables false
set_option linter.unusedSimpArgs false
set_option maxRecDepth 100000

theorem l5Chain_any (c : Int) (w : World) :
    Calls Tryd.prog 34 #[.int .i64 c] w fun e w' => e = .returned (.bool (decide (0 ≤ c) && decide (c ≤ 10))) ∧ w = w' := by
  go_enter Tryd.func34, Tryd.ntmps34
  go_wp2
  all_goals (go_ret; refine ⟨ret_bool ?_, rfl⟩; rw [Bool.eq_iff_iff]; simp only [Bool.and_eq_true, decide_eq_true_eq, Bool.false_eq_true, false_iff, not_and]; omega)
theorem l5Chain_b (c : Int) (w : World) :
    Calls Tryd.prog 34 #[.int .i64 c] w fun e w' => e = .returned (.bool (inB c 0 10)) ∧ w = w' := l5Chain_any c w
theorem l5Leaf_any (c : Int) (w : World) :
    Calls Tryd.prog 17 #[.int .i64 c] w fun e w' => e = .returned (.bool (decide (0 ≤ c) && decide (c ≤ 3))) ∧ w = w' := by
  go_enter Tryd.func17, Tryd.ntmps17
  go_wp2
  all_goals (go_ret; refine ⟨ret_bool ?_, rfl⟩; rw [Bool.eq_iff_iff]; simp only [Bool.and_eq_true, decide_eq_true_eq, Bool.false_eq_true, false_iff, not_and]; omega)
theorem l5Leaf_b (c : Int) (w : World) :
    Calls Tryd.prog 17 #[.int .i64 c] w fun e w' => e = .returned (.bool (inB c 0 3)) ∧ w = w' := l5Leaf_any c w
/-- The three cells of a literal, as bytes. -/
theorem conv_three (p : Int) {a b c : Nat} (hp : p = (a : Int)) (ha : a < 256) (hb : b < 256) (hc : c < 256) (W : World) :
    (convert 33 9 (.slice (some ⟨W.heap.size, 0, none⟩) 3 3)).run Tryd.prog (W.alloc (.cells #[.int .u8 p, .int .u8 (b : Int), .int .u8 (c : Int)] 5)) = .ok (.string (S [UInt8.ofNat a, UInt8.ofNat b, UInt8.ofNat c])) (W.alloc (.cells #[.int .u8 p, .int .u8 (b : Int), .int .u8 (c : Int)] 5)) := by
  subst hp
  have h := World.ownsRow_lit W #[.int .u8 (a : Int), .int .u8 (b : Int), .int .u8 (c : Int)] 3 (e := 5) (size := 1) (base := W.heap.size) (Nat.le_refl _) (by simp [maxLen]) rfl
  have e : (#[.int .u8 (a : Int), .int .u8 (b : Int), .int .u8 (c : Int)] : Array Value).toList = [UInt8.ofNat a, UInt8.ofNat b, UInt8.ofNat c].map bv := by
    simp only [List.map_cons, List.map_nil, bv_ofNat a ha, bv_ofNat b hb, bv_ofNat c hc]
  rw [e] at h
  exact conv_own Tryd.underlying33 Tryd.underlying5 Tryd.underlying9 h

/-- Three numbers as bytes. -/
def three (a b c : Nat) : Nat → Nat
  | 0 => a
  | 1 => b
  | _ => c
theorem bytesOf_any (a b c : Nat) (ha : a < 256) (hb' : b < 256) (hc : c < 256) (G : Nat) (w : World) (h0 : w.cell? ⟨G, 0, none⟩ = some (.int .i64 (a : Int))) (h1 : w.cell? ⟨G, 1, none⟩ = some (.int .i64 (b : Int))) (h2 : w.cell? ⟨G, 2, none⟩ = some (.int .i64 (c : Int))) :
    Calls Tryd.prog 23 #[.slice (some ⟨G, 0, none⟩) 3 3] w fun e w' => e = .returned (.string (S [UInt8.ofNat a, UInt8.ofNat b, UInt8.ofNat c])) ∧ Below w.heap.size w w' := by
  obtain ⟨i0, hi, hz0, hz1, hz2⟩ := info_parts info_u8
  have hlt := World.block_lt_of_cell? w _ h0
  have hcell : Hid (∀ k, k < 3 → w.cell? ⟨G, k, none⟩ = some (.int .i64 (three a b c k : Int))) := by
    intro k hk
    match k, hk with
    | 0, _ => exact h0
    | 1, _ => exact h1
    | 2, _ => exact h2
  have hby : Hid (∀ k, three a b c k < 256) := by
    intro k
    match k with
    | 0 => exact ha
    | 1 => exact hb'
    | (_ + 2) => exact hc
  have htk : Hid (∀ k, k < 3 → ([UInt8.ofNat a, UInt8.ofNat b, UInt8.ofNat c].take (k + 1)) = [UInt8.ofNat a, UInt8.ofNat b, UInt8.ofNat c].take k ++ [UInt8.ofNat (three a b c k)]) := by
    intro k hk
    match k, hk with
    | 0, _ => rfl
    | 1, _ => rfl
    | 2, _ => rfl
  have hln : [UInt8.ofNat a, UInt8.ofNat b, UInt8.ofNat c].length = 3 := rfl
  clear h0 h1 h2
  generalize [UInt8.ofNat a, UInt8.ofNat b, UInt8.ofNat c] = L at *
  generalize three a b c = f at *
  have hlt' : G < w.heap.size := hlt
  go_enter Tryd.func23, Tryd.ntmps23
  go_wp2_with fail
  go_loopw [3, 9] (fun out i wr => ∃ k : Nat, k ≤ 3 ∧ i = .int .i64 (k : Int) ∧ wr.ownsRow w.heap.size 5 1 out k ((L.take k).map bv) ∧ Below w.heap.size w wr) (fun _ i _ => 3 - (intOf i).toNat)
  case atStart => exact ⟨0, by omega, rfl, World.ownsRow_lit w #[] 0 (Nat.le_refl _) (by simp [maxLen]) rfl, (Below.refl _ _).alloc (Nat.le_refl _) _⟩
  case round =>
    obtain ⟨k, hk, rfl, hown, hb⟩ := hrel
    have hki : 0 ≤ (k : Int) ∧ (k : Int) ≤ 3 := by omega
    by_cases hlt3 : k < 3
    · have hlt2 : (k : Int) < 3 := by omega
      have c0 := (hb.cell (p := ⟨G, k, none⟩) hlt').trans (hcell.out k hlt3)
      have hfk := hby.out k
      have HT := Lib.hid (htk.out k hlt3)
      have hu : IntKind.u8.wrap (f k : Int) = (f k : Int) := by simp [IntKind.wrap, IntKind.bits, IntKind.signed]; omega
      have hbv := Lib.hid (bv_ofNat (f k) hfk)
      go_wp2_with (at_builtin; refine app_lit rfl _ _ 33 rfl Tryd.underlying33 hi hz0 hz1 hz2 rfl (by decide) rfl hown hb rfl rfl (one_cell1 _ _) (by unfold maxLen; omega) (by omega) ?_; intro v1 w1 hown1 hb1)
      go_roundw
      case rel => exact ⟨k + 1, by omega, by go_num, by rw [HT.out, List.map_append, List.map_singleton, hbv.out]; exact hown1, hb1⟩
      case measure => simp [intOf]; omega
    · have hT : L.take k = L := List.take_of_length_le (by omega)
      rw [hT] at hown
      have hcv := conv_own Tryd.underlying33 Tryd.underlying5 Tryd.underlying9 hown
      go_wp2
      go_ret
      exact ⟨rfl, hb⟩
theorem u8_small {c : Int} {a : Nat} (h : c = (a : Int)) (ha : a < 256) : IntKind.u8.wrap c = (a : Int) := by subst h; simp [IntKind.wrap, IntKind.bits, IntKind.signed]; omega

/-! HsLink. -/
theorem sHsLink_any (c step : Int) (x : List UInt8) (w : World) (hl : x.length ≤ 4194000) :
    Calls Tryd.prog 27 #[.int .i64 c, .int .i64 step, .string (S x)] w fun e w' => e = .returned (.string (S (linkS c step x))) ∧ Below w.heap.size w w' := by
  have hb := Below.refl w.heap.size w
  by_cases h1 : inB c 0 10 = true
  · by_cases h2 : inB step 1 3 = true
    · have HV : Hid (linkS c step x = shortS ([2, UInt8.ofNat c.toNat, UInt8.ofNat step.toNat] ++ x)) := by unfold Hid linkS; rw [h1, h2]; rfl
      obtain ⟨b1, b2⟩ := inB_true h1
      obtain ⟨b3, b4⟩ := inB_true h2
      obtain ⟨a, rfl⟩ := Int.eq_ofNat_of_zero_le (a := c) (by omega)
      obtain ⟨b, rfl⟩ := Int.eq_ofNat_of_zero_le (a := step) (by omega)
      have hu1 := u8_small (c := (a : Int)) rfl (by omega)
      have hu2 := u8_small (c := (b : Int)) rfl (by omega)
      have hcv := fun W : World => conv_three 2 (a := 2) (by rfl) (b := a) (c := b) (by omega) (by omega) (by omega) W
      simp only [Int.toNat_natCast] at HV
      have hS : S [UInt8.ofNat 2, UInt8.ofNat a, UInt8.ofNat b] ++ S x = S ([2, UInt8.ofNat a, UInt8.ofNat b] ++ x) := S_append _ _
      have hsz : (S [UInt8.ofNat 2, UInt8.ofNat a, UInt8.ofNat b]).size = 3 := S_size _
      have HSH := Lib.hid fun W : World => sShort_any ([2, UInt8.ofNat a, UInt8.ofNat b] ++ x) W (by simp; omega)
      generalize S [UInt8.ofNat 2, UInt8.ofNat a, UInt8.ofNat b] = T at *
      generalize [2, UInt8.ofNat a, UInt8.ofNat b] ++ x = y at *
      go_enter Tryd.func27, Tryd.ntmps27
      go_wp2_with (first | (go_at_call 34; refine (l5Chain_b _ _).mono ?_; rintro e w' ⟨rfl, rfl⟩) | (go_at_call 42; refine (l1In_b _ _ _ _).mono ?_; rintro e w' ⟨rfl, rfl⟩) | (go_at_call 12; refine (HSH.out _).mono ?_; rintro e wn ⟨rfl, hbn⟩; have hb := Below.next (w := w) (by repeat (first | with_reducible exact hb | with_reducible exact Below.refl _ _ | refine Below.drew ?_ | refine Below.setCell ?_ (by simp <;> omega) _ | refine Below.alloc ?_ (by simp <;> omega) _)) hbn; clear hbn))
      go_ret
      exact ⟨ret_string (by rw [HV.out]), hb⟩
    · have h2' : inB step 1 3 = false := by simpa using h2
      have HV : Hid (linkS c step x = []) := by unfold Hid linkS; rw [h2', Bool.and_false]; rfl
      clear h2
      go_enter Tryd.func27, Tryd.ntmps27
      go_wp2_with (first | (go_at_call 34; refine (l5Chain_b _ _).mono ?_; rintro e w' ⟨rfl, rfl⟩) | (go_at_call 42; refine (l1In_b _ _ _ _).mono ?_; rintro e w' ⟨rfl, rfl⟩))
      go_ret
      exact ⟨ret_string (by rw [HV.out]; rfl), hb⟩
  · have h1' : inB c 0 10 = false := by simpa using h1
    have HV : Hid (linkS c step x = []) := by unfold Hid linkS; rw [h1']; rfl
    clear h1
    go_enter Tryd.func27, Tryd.ntmps27
    go_wp2_with (first | (go_at_call 34; refine (l5Chain_b _ _).mono ?_; rintro e w' ⟨rfl, rfl⟩) | (go_at_call 42; refine (l1In_b _ _ _ _).mono ?_; rintro e w' ⟨rfl, rfl⟩))
    go_ret
    exact ⟨ret_string (by rw [HV.out]; rfl), hb⟩
theorem iHsLink_any (c step : Int) (x : List UInt8) (w : World) (hl : x.length ≤ 4194000) (hK : HasK w) :
    Calls Tryd.prog 31 #[.int .i64 c, .int .i64 step, .string (S x)] w fun e w' => e = .returned (.string (S (linkS c step x))) ∧ Below w.heap.size w w' := by
  have hb := Below.refl w.heap.size w
  have HK := Lib.hid hK
  clear hK
  by_cases h1 : inB c 0 10 = true
  · by_cases h2 : inB step 1 3 = true
    · have HV : Hid (linkS c step x = shortS ([2, UInt8.ofNat c.toNat, UInt8.ofNat step.toNat] ++ x)) := by unfold Hid linkS; rw [h1, h2]; rfl
      obtain ⟨b1, b2⟩ := inB_true h1
      obtain ⟨b3, b4⟩ := inB_true h2
      obtain ⟨a, rfl⟩ := Int.eq_ofNat_of_zero_le (a := c) (by omega)
      obtain ⟨b, rfl⟩ := Int.eq_ofNat_of_zero_le (a := step) (by omega)
      simp only [Int.toNat_natCast] at HV
      have hS : S [UInt8.ofNat 2, UInt8.ofNat a, UInt8.ofNat b] ++ S x = S ([2, UInt8.ofNat a, UInt8.ofNat b] ++ x) := S_append _ _
      have hsz : (S [UInt8.ofNat 2, UInt8.ofNat a, UInt8.ofNat b]).size = 3 := S_size _
      have HSH := Lib.hid fun (W : World) (h : HasK W) => iShort_any ([2, UInt8.ofNat a, UInt8.ofNat b] ++ x) W (by simp; omega) h
      have HBY := Lib.hid fun (G : Nat) (W : World) h0 h1 h2 => bytesOf_any 2 a b (by omega) (by omega) (by omega) G W h0 h1 h2
      generalize S [UInt8.ofNat 2, UInt8.ofNat a, UInt8.ofNat b] = T at *
      generalize [2, UInt8.ofNat a, UInt8.ofNat b] ++ x = y at *
      go_enter Tryd.func31, Tryd.ntmps31
      go_wp2_with (first | (go_at_call 21; refine (within_b _ _ _ _).mono ?_; rintro e w' ⟨rfl, rfl⟩) | (go_at_call 23; refine (HBY.out _ _ (by simp) (by simp) (by simp)).mono ?_; rintro e wn ⟨rfl, hbn⟩; have hb := Below.next (w := w) (by repeat (first | with_reducible exact hb | with_reducible exact Below.refl _ _ | refine Below.drew ?_ | refine Below.setCell ?_ (by simp <;> omega) _ | refine Below.alloc ?_ (by simp <;> omega) _)) hbn; clear hbn) | (go_at_call 16; refine (HSH.out _ (HK.out.to hb)).mono ?_; rintro e wn ⟨rfl, hbn⟩; have hb := Below.next (w := w) (by repeat (first | with_reducible exact hb | with_reducible exact Below.refl _ _ | refine Below.drew ?_ | refine Below.setCell ?_ (by simp <;> omega) _ | refine Below.alloc ?_ (by simp <;> omega) _)) hbn; clear hbn))
      go_ret
      exact ⟨ret_string (by rw [HV.out]), hb⟩
    · have h2' : inB step 1 3 = false := by simpa using h2
      have HV : Hid (linkS c step x = []) := by unfold Hid linkS; rw [h2', Bool.and_false]; rfl
      clear h2
      go_enter Tryd.func31, Tryd.ntmps31
      go_wp2_with (go_at_call 21; refine (within_b _ _ _ _).mono ?_; rintro e w' ⟨rfl, rfl⟩)
      go_ret
      exact ⟨ret_string (by rw [HV.out]; rfl), hb⟩
  · have h1' : inB c 0 10 = false := by simpa using h1
    have HV : Hid (linkS c step x = []) := by unfold Hid linkS; rw [h1']; rfl
    clear h1
    go_enter Tryd.func31, Tryd.ntmps31
    go_wp2_with (go_at_call 21; refine (within_b _ _ _ _).mono ?_; rintro e w' ⟨rfl, rfl⟩)
    go_ret
    exact ⟨ret_string (by rw [HV.out]; rfl), hb⟩

/-! HsSecret. -/
theorem sHsSecret_any (x : List UInt8) (c step : Int) (w : World) (hl : x.length ≤ 4194000) :
    Calls Tryd.prog 18 #[.string (S x), .int .i64 c, .int .i64 step] w fun e w' => e = .returned (.string (S (secretS x c step))) ∧ Below w.heap.size w w' := by
  have hb := Below.refl w.heap.size w
  by_cases h1 : inB c 0 3 = true
  · by_cases h2 : inB step 0 10 = true
    · have HV : Hid (secretS x c step = shortS ([3, UInt8.ofNat c.toNat, UInt8.ofNat step.toNat] ++ x)) := by unfold Hid secretS; rw [h1, h2]; rfl
      obtain ⟨b1, b2⟩ := inB_true h1
      obtain ⟨b3, b4⟩ := inB_true h2
      obtain ⟨a, rfl⟩ := Int.eq_ofNat_of_zero_le (a := c) (by omega)
      obtain ⟨b, rfl⟩ := Int.eq_ofNat_of_zero_le (a := step) (by omega)
      have hu1 := u8_small (c := (a : Int)) rfl (by omega)
      have hu2 := u8_small (c := (b : Int)) rfl (by omega)
      have hcv := fun W : World => conv_three 3 (a := 3) (by rfl) (b := a) (c := b) (by omega) (by omega) (by omega) W
      simp only [Int.toNat_natCast] at HV
      have hS : S [UInt8.ofNat 3, UInt8.ofNat a, UInt8.ofNat b] ++ S x = S ([3, UInt8.ofNat a, UInt8.ofNat b] ++ x) := S_append _ _
      have hsz : (S [UInt8.ofNat 3, UInt8.ofNat a, UInt8.ofNat b]).size = 3 := S_size _
      have HSH := Lib.hid fun W : World => sShort_any ([3, UInt8.ofNat a, UInt8.ofNat b] ++ x) W (by simp; omega)
      generalize S [UInt8.ofNat 3, UInt8.ofNat a, UInt8.ofNat b] = T at *
      generalize [3, UInt8.ofNat a, UInt8.ofNat b] ++ x = y at *
      go_enter Tryd.func18, Tryd.ntmps18
      go_wp2_with (first | (go_at_call 17; refine (l5Leaf_b _ _).mono ?_; rintro e w' ⟨rfl, rfl⟩) | (go_at_call 34; refine (l5Chain_b _ _).mono ?_; rintro e w' ⟨rfl, rfl⟩) | (go_at_call 12; refine (HSH.out _).mono ?_; rintro e wn ⟨rfl, hbn⟩; have hb := Below.next (w := w) (by repeat (first | with_reducible exact hb | with_reducible exact Below.refl _ _ | refine Below.drew ?_ | refine Below.setCell ?_ (by simp <;> omega) _ | refine Below.alloc ?_ (by simp <;> omega) _)) hbn; clear hbn))
      go_ret
      exact ⟨ret_string (by rw [HV.out]), hb⟩
    · have h2' : inB step 0 10 = false := by simpa using h2
      have HV : Hid (secretS x c step = []) := by unfold Hid secretS; rw [h2', Bool.and_false]; rfl
      clear h2
      go_enter Tryd.func18, Tryd.ntmps18
      go_wp2_with (first | (go_at_call 17; refine (l5Leaf_b _ _).mono ?_; rintro e w' ⟨rfl, rfl⟩) | (go_at_call 34; refine (l5Chain_b _ _).mono ?_; rintro e w' ⟨rfl, rfl⟩))
      go_ret
      exact ⟨ret_string (by rw [HV.out]; rfl), hb⟩
  · have h1' : inB c 0 3 = false := by simpa using h1
    have HV : Hid (secretS x c step = []) := by unfold Hid secretS; rw [h1']; rfl
    clear h1
    go_enter Tryd.func18, Tryd.ntmps18
    go_wp2_with (first | (go_at_call 17; refine (l5Leaf_b _ _).mono ?_; rintro e w' ⟨rfl, rfl⟩) | (go_at_call 34; refine (l5Chain_b _ _).mono ?_; rintro e w' ⟨rfl, rfl⟩))
    go_ret
    exact ⟨ret_string (by rw [HV.out]; rfl), hb⟩
theorem iHsSecret_any (x : List UInt8) (c step : Int) (w : World) (hl : x.length ≤ 4194000) (hK : HasK w) :
    Calls Tryd.prog 22 #[.string (S x), .int .i64 c, .int .i64 step] w fun e w' => e = .returned (.string (S (secretS x c step))) ∧ Below w.heap.size w w' := by
  have hb := Below.refl w.heap.size w
  have HK := Lib.hid hK
  clear hK
  by_cases h1 : inB c 0 3 = true
  · by_cases h2 : inB step 0 10 = true
    · have HV : Hid (secretS x c step = shortS ([3, UInt8.ofNat c.toNat, UInt8.ofNat step.toNat] ++ x)) := by unfold Hid secretS; rw [h1, h2]; rfl
      obtain ⟨b1, b2⟩ := inB_true h1
      obtain ⟨b3, b4⟩ := inB_true h2
      obtain ⟨a, rfl⟩ := Int.eq_ofNat_of_zero_le (a := c) (by omega)
      obtain ⟨b, rfl⟩ := Int.eq_ofNat_of_zero_le (a := step) (by omega)
      simp only [Int.toNat_natCast] at HV
      have hS : S [UInt8.ofNat 3, UInt8.ofNat a, UInt8.ofNat b] ++ S x = S ([3, UInt8.ofNat a, UInt8.ofNat b] ++ x) := S_append _ _
      have hsz : (S [UInt8.ofNat 3, UInt8.ofNat a, UInt8.ofNat b]).size = 3 := S_size _
      have HSH := Lib.hid fun (W : World) (h : HasK W) => iShort_any ([3, UInt8.ofNat a, UInt8.ofNat b] ++ x) W (by simp; omega) h
      have HBY := Lib.hid fun (G : Nat) (W : World) h0 h1 h2 => bytesOf_any 3 a b (by omega) (by omega) (by omega) G W h0 h1 h2
      generalize S [UInt8.ofNat 3, UInt8.ofNat a, UInt8.ofNat b] = T at *
      generalize [3, UInt8.ofNat a, UInt8.ofNat b] ++ x = y at *
      go_enter Tryd.func22, Tryd.ntmps22
      go_wp2_with (first | (go_at_call 21; refine (within_b _ _ _ _).mono ?_; rintro e w' ⟨rfl, rfl⟩) | (go_at_call 23; refine (HBY.out _ _ (by simp) (by simp) (by simp)).mono ?_; rintro e wn ⟨rfl, hbn⟩; have hb := Below.next (w := w) (by repeat (first | with_reducible exact hb | with_reducible exact Below.refl _ _ | refine Below.drew ?_ | refine Below.setCell ?_ (by simp <;> omega) _ | refine Below.alloc ?_ (by simp <;> omega) _)) hbn; clear hbn) | (go_at_call 16; refine (HSH.out _ (HK.out.to hb)).mono ?_; rintro e wn ⟨rfl, hbn⟩; have hb := Below.next (w := w) (by repeat (first | with_reducible exact hb | with_reducible exact Below.refl _ _ | refine Below.drew ?_ | refine Below.setCell ?_ (by simp <;> omega) _ | refine Below.alloc ?_ (by simp <;> omega) _)) hbn; clear hbn))
      go_ret
      exact ⟨ret_string (by rw [HV.out]), hb⟩
    · have h2' : inB step 0 10 = false := by simpa using h2
      have HV : Hid (secretS x c step = []) := by unfold Hid secretS; rw [h2', Bool.and_false]; rfl
      clear h2
      go_enter Tryd.func22, Tryd.ntmps22
      go_wp2_with (go_at_call 21; refine (within_b _ _ _ _).mono ?_; rintro e w' ⟨rfl, rfl⟩)
      go_ret
      exact ⟨ret_string (by rw [HV.out]; rfl), hb⟩
  · have h1' : inB c 0 3 = false := by simpa using h1
    have HV : Hid (secretS x c step = []) := by unfold Hid secretS; rw [h1']; rfl
    clear h1
    go_enter Tryd.func22, Tryd.ntmps22
    go_wp2_with (go_at_call 21; refine (within_b _ _ _ _).mono ?_; rintro e w' ⟨rfl, rfl⟩)
    go_ret
    exact ⟨ret_string (by rw [HV.out]; rfl), hb⟩

end Go.Proofs.YtllfnhkloaenhaaDoor
