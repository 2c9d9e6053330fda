/-
  Rows of links; HsPub: both sides.
-/
import Derived.Test.YtllfnhkloaenhaaDoorHs1
namespace Go.Proofs.YtllfnhkloaenhaaDoor
open Go.ChangeShapes Go.WideShapes Go.ChangeAt Go.RowKit
set_option linter.unusedVariables false
set_option linter.unusedSimpArgs false
set_option maxRecDepth 100000

theorem sLinks_any (c a tt : Int) (n : Nat) (x : List UInt8) (f : Int) (hf : f = a + 1) (w : World) (hl : x.length ≤ 4190000) (ha : 0 ≤ a) (ht : tt = a + n) (ht3 : tt ≤ 3) :
    Calls Tryd.prog 10 #[.int .i64 c, .int .i64 f, .int .i64 tt, .string (S x)] w fun e w' => e = .returned (.string (S (linksN c a x n))) ∧ Below w.heap.size w w' := by
  subst hf ht
  go_enter Tryd.func10, Tryd.ntmps10
  go_wp2_with fail
  go_loopw [3, 9] (fun s i wr => ∃ k : Nat, k ≤ n ∧ i = .int .i64 (a + 1 + (k : Int)) ∧ s = .string (S (linksN c a x k)) ∧ Below w.heap.size w wr) (fun _ i _ => (4 - intOf i).toNat)
  case atStart => exact ⟨0, by omega, by simp, rfl, Below.refl _ _⟩
  case round =>
    obtain ⟨k, hk, rfl, rfl, hb⟩ := hrel
    have hlen := linksN_len c a x k
    have HN : Hid (linksN c a x (k + 1) = linkS c (a + 1 + (k : Int)) (linksN c a x k)) := by unfold Hid; rw [linksN, show a + (k : Int) + 1 = a + 1 + (k : Int) from by omega]
    by_cases hlt : k < n
    · have h1 : a + 1 + (k : Int) ≤ a + n := by omega
      generalize linksN c a x k = y at *
      go_wp2_with (go_at_call 27; refine (sHsLink_any _ _ _ _ (by omega)).mono ?_; rintro e wn ⟨rfl, hbn⟩; have hb := Below.next (w := w) (by repeat (first | with_reducible exact hb | with_reducible exact Below.refl _ _ | refine Below.drew ?_ | refine Below.setCell ?_ (by simp <;> omega) _ | refine Below.alloc ?_ (by simp <;> omega) _)) hbn; clear hbn)
      go_roundw
      case rel => exact ⟨k + 1, by omega, by congr 1; omega, by rw [HN.out], hb⟩
      case measure => simp [intOf]; omega
    · have hkn : k = n := by omega
      have h1 : ¬ a + 1 + (k : Int) ≤ a + n := by omega
      have HO : Hid (linksN c a x k = linksN c a x n) := by rw [hkn]; rfl
      clear HN
      generalize linksN c a x k = y at *
      clear hkn
      go_wp2
      go_ret
      exact ⟨ret_string (by rw [HO.out]), hb⟩

theorem iLinks_any (c a tt : Int) (n : Nat) (x : List UInt8) (f : Int) (hf : a = f) (w : World) (hl : x.length ≤ 4190000) (ha : 0 ≤ a) (ht : tt = a + n) (ht3 : tt ≤ 3) (hK : HasK w) :
    Calls Tryd.prog 14 #[.int .i64 c, .int .i64 f, .int .i64 tt, .string (S x)] w fun e w' => e = .returned (.string (S (linksN c a x n))) ∧ Below w.heap.size w w' := by
  subst hf ht
  have HK := Lib.hid hK
  clear hK
  go_enter Tryd.func14, Tryd.ntmps14
  go_wp2_with fail
  go_loopw [3, 9] (fun s i wr => ∃ k : Nat, k ≤ n ∧ i = .int .i64 (a + 1 + (k : Int)) ∧ s = .string (S (linksN c a x k)) ∧ Below w.heap.size w wr) (fun _ i _ => (4 - intOf i).toNat)
  case atStart => exact ⟨0, by omega, by simp, rfl, Below.refl _ _⟩
  case round =>
    obtain ⟨k, hk, rfl, rfl, hb⟩ := hrel
    have hlen := linksN_len c a x k
    have HN : Hid (linksN c a x (k + 1) = linkS c (a + 1 + (k : Int)) (linksN c a x k)) := by unfold Hid; rw [linksN, show a + (k : Int) + 1 = a + 1 + (k : Int) from by omega]
    by_cases hlt : k < n
    · have h1 : a + 1 + (k : Int) ≤ a + n := by omega
      generalize linksN c a x k = y at *
      go_wp2_with (go_at_call 31; refine (iHsLink_any _ _ _ _ (by omega) (HK.out.to hb)).mono ?_; rintro e wn ⟨rfl, hbn⟩; have hb := Below.next (w := w) (by repeat (first | with_reducible exact hb | with_reducible exact Below.refl _ _ | refine Below.drew ?_ | refine Below.setCell ?_ (by simp <;> omega) _ | refine Below.alloc ?_ (by simp <;> omega) _)) hbn; clear hbn)
      go_roundw
      case rel => exact ⟨k + 1, by omega, by congr 1; omega, by rw [HN.out], hb⟩
      case measure => simp [intOf]; omega
    · have hkn : k = n := by omega
      have h1 : ¬ a + 1 + (k : Int) ≤ a + n := by omega
      have HO : Hid (linksN c a x k = linksN c a x n) := by rw [hkn]; rfl
      clear HN
      generalize linksN c a x k = y at *
      clear hkn
      go_wp2
      go_ret
      exact ⟨ret_string (by rw [HO.out]), hb⟩

theorem sHsPub_any (seed : List UInt8) (leaf : Int) (w : World) (hl : seed.length ≤ 4190000) :
    Calls Tryd.prog 36 #[.string (S seed), .int .i64 leaf] w fun e w' => e = .returned (.string (S (pubS seed leaf))) ∧ Below w.heap.size w w' := by
  by_cases h1 : inB leaf 0 3 = true
  · have HV : Hid (pubS seed leaf = shortS (pubAll seed leaf 11)) := by unfold Hid pubS; rw [h1]; rfl
    go_enter Tryd.func36, Tryd.ntmps36
    go_wp2_with (go_at_call 17; refine (l5Leaf_b _ _).mono ?_; rintro e w' ⟨rfl, rfl⟩)
    go_loopw [5, 6] (fun s i wr => ∃ k : Nat, k ≤ 11 ∧ i = .int .i64 (k : Int) ∧ s = .string (S (pubAll seed leaf k)) ∧ Below w.heap.size w wr) (fun _ i _ => (11 - intOf i).toNat)
    case atStart => exact ⟨0, by omega, rfl, rfl, Below.refl _ _⟩
    case round =>
      obtain ⟨k, hk, rfl, rfl, hb⟩ := hrel
      have hlen := pubAll_len seed leaf k
      by_cases hlt : k < 11
      · have h2 : (k : Int) < 11 := by omega
        have HN : Hid (pubAll seed leaf (k + 1) = pubAll seed leaf k ++ linksN k 0 (secretS seed leaf k) 3) := rfl
        have hs := secretS_len seed leaf k
        have hln := linksN_len k 0 (secretS seed leaf k) 3
        have HS := Lib.hid fun (W : World) => sHsSecret_any seed leaf (k : Int) W (by omega)
        have HL := Lib.hid fun (W : World) => sLinks_any (k : Int) 0 3 3 (secretS seed leaf k) 1 (by omega) W (by omega) (by omega) (by omega) (by omega)
        generalize linksN k 0 (secretS seed leaf k) 3 = y at *
        generalize secretS seed leaf k = z at *
        generalize pubAll seed leaf k = o at *
        go_wp2_with (first | (go_at_call 18; refine (HS.out _).mono ?_; rintro e wn ⟨rfl, hbn⟩; have hb := Below.next (w := w) (by repeat (first | with_reducible exact hb | with_reducible exact Below.refl _ _ | refine Below.drew ?_ | refine Below.setCell ?_ (by simp <;> omega) _ | refine Below.alloc ?_ (by simp <;> omega) _)) hbn; clear hbn) | (go_at_call 10; refine (HL.out _).mono ?_; rintro e wn ⟨rfl, hbn⟩; have hb := Below.next (w := w) (by repeat (first | with_reducible exact hb | with_reducible exact Below.refl _ _ | refine Below.drew ?_ | refine Below.setCell ?_ (by simp <;> omega) _ | refine Below.alloc ?_ (by simp <;> omega) _)) hbn; clear hbn))
        go_roundw
        case rel => exact ⟨k + 1, by omega, by go_num, by rw [HN.out], hb⟩
        case measure => simp [intOf]; omega
      · have hk' : k = 11 := by omega
        have h2 : ¬ (k : Int) < 11 := by omega
        rw [← hk'] at HV
        have HS := Lib.hid fun (W : World) => sShort_any (pubAll seed leaf k) W (by omega)
        generalize pubAll seed leaf k = o at *
        clear hk'
        go_wp2_with (go_at_call 12; refine (HS.out _).mono ?_; rintro e wn ⟨rfl, hbn⟩; have hb := Below.next (w := w) (by repeat (first | with_reducible exact hb | with_reducible exact Below.refl _ _ | refine Below.drew ?_ | refine Below.setCell ?_ (by simp <;> omega) _ | refine Below.alloc ?_ (by simp <;> omega) _)) hbn; clear hbn)
        go_ret
        exact ⟨ret_string (by rw [HV.out]), hb⟩
  · have h1' : inB leaf 0 3 = false := by simpa using h1
    have HV : Hid (pubS seed leaf = []) := by unfold Hid pubS; rw [h1']; rfl
    clear h1
    go_enter Tryd.func36, Tryd.ntmps36
    go_wp2_with (go_at_call 17; refine (l5Leaf_b _ _).mono ?_; rintro e w' ⟨rfl, rfl⟩)
    go_ret
    exact ⟨ret_string (by rw [HV.out]; rfl), Below.refl _ _⟩

theorem iHsPub_any (seed : List UInt8) (leaf : Int) (w : World) (hl : seed.length ≤ 4190000) (hK : HasK w) :
    Calls Tryd.prog 39 #[.string (S seed), .int .i64 leaf] w fun e w' => e = .returned (.string (S (pubS seed leaf))) ∧ Below w.heap.size w w' := by
  have HK := Lib.hid hK
  clear hK
  by_cases h1 : inB leaf 0 3 = true
  · have HV : Hid (pubS seed leaf = shortS (pubAll seed leaf 11)) := by unfold Hid pubS; rw [h1]; rfl
    go_enter Tryd.func39, Tryd.ntmps39
    go_wp2_with (go_at_call 21; refine (within_b _ _ _ _).mono ?_; rintro e w' ⟨rfl, rfl⟩)
    go_loopw [5, 10] (fun s i wr => ∃ k : Nat, k ≤ 11 ∧ i = .int .i64 (k : Int) ∧ s = .string (S (pubAll seed leaf k)) ∧ Below w.heap.size w wr) (fun _ i _ => (11 - intOf i).toNat)
    case atStart => exact ⟨0, by omega, rfl, rfl, Below.refl _ _⟩
    case round =>
      obtain ⟨k, hk, rfl, rfl, hb⟩ := hrel
      have hlen := pubAll_len seed leaf k
      by_cases hlt : k < 11
      · have h2 : (k : Int) < 11 := by omega
        have HN : Hid (pubAll seed leaf (k + 1) = pubAll seed leaf k ++ linksN k 0 (secretS seed leaf k) 3) := rfl
        have hs := secretS_len seed leaf k
        have hln := linksN_len k 0 (secretS seed leaf k) 3
        have HS := Lib.hid fun (W : World) (h : HasK W) => iHsSecret_any seed leaf (k : Int) W (by omega) h
        have HL := Lib.hid fun (W : World) (h : HasK W) => iLinks_any (k : Int) 0 3 3 (secretS seed leaf k) 0 (by omega) W (by omega) (by omega) (by omega) (by omega) h
        generalize linksN k 0 (secretS seed leaf k) 3 = y at *
        generalize secretS seed leaf k = z at *
        generalize pubAll seed leaf k = o at *
        go_wp2_with (first | (go_at_call 22; refine (HS.out _ (HK.out.to hb)).mono ?_; rintro e wn ⟨rfl, hbn⟩; have hb := Below.next (w := w) (by repeat (first | with_reducible exact hb | with_reducible exact Below.refl _ _ | refine Below.drew ?_ | refine Below.setCell ?_ (by simp <;> omega) _ | refine Below.alloc ?_ (by simp <;> omega) _)) hbn; clear hbn) | (go_at_call 14; refine (HL.out _ (HK.out.to hb)).mono ?_; rintro e wn ⟨rfl, hbn⟩; have hb := Below.next (w := w) (by repeat (first | with_reducible exact hb | with_reducible exact Below.refl _ _ | refine Below.drew ?_ | refine Below.setCell ?_ (by simp <;> omega) _ | refine Below.alloc ?_ (by simp <;> omega) _)) hbn; clear hbn))
        go_roundw
        case rel => exact ⟨k + 1, by omega, by go_num, by rw [HN.out], hb⟩
        case measure => simp [intOf]; omega
      · have hk' : k = 11 := by omega
        have h2 : ¬ (k : Int) < 11 := by omega
        rw [← hk'] at HV
        have HS := Lib.hid fun (W : World) (h : HasK W) => iShort_any (pubAll seed leaf k) W (by omega) h
        generalize pubAll seed leaf k = o at *
        clear hk'
        go_wp2_with (go_at_call 16; refine (HS.out _ (HK.out.to hb)).mono ?_; rintro e wn ⟨rfl, hbn⟩; have hb := Below.next (w := w) (by repeat (first | with_reducible exact hb | with_reducible exact Below.refl _ _ | refine Below.drew ?_ | refine Below.setCell ?_ (by simp <;> omega) _ | refine Below.alloc ?_ (by simp <;> omega) _)) hbn; clear hbn)
        go_ret
        exact ⟨ret_string (by rw [HV.out]), hb⟩
  · have h1' : inB leaf 0 3 = false := by simpa using h1
    have HV : Hid (pubS seed leaf = []) := by unfold Hid pubS; rw [h1']; rfl
    clear h1
    go_enter Tryd.func39, Tryd.ntmps39
    go_wp2_with (go_at_call 21; refine (within_b _ _ _ _).mono ?_; rintro e w' ⟨rfl, rfl⟩)
    go_ret
    exact ⟨ret_string (by rw [HV.out]; rfl), Below.refl _ _⟩

end Go.Proofs.YtllfnhkloaenhaaDoor
