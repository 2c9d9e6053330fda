/-
  HsSign: both sides.
-/
import Derived.Test.YtllfnhkloaenhaaDoorHs4
import Derived.Test.YtllfnhkloaenhaaDoorTree5
import Derived.Deep.RegionHeld3
namespace Go.Proofs.YtllfnhkloaenhaaDoor
open Go.ChangeShapes Go.WideShapes Go.ChangeAt Go.RowKit
set_option linter.unusedVariables false
set_option linter.unusedSimpArgs false
set_option maxRecDepth 100000

theorem bytesOf_one (a : Nat) (ha : a < 256) (G : Nat) (w : World) (h0 : w.cell? ⟨G, 0, none⟩ = some (.int .i64 (a : Int))) :
    Calls Tryd.prog 23 #[.slice (some ⟨G, 0, none⟩) 1 1] w fun e w' => e = .returned (.string (S [UInt8.ofNat a])) ∧ Below w.heap.size w w' := by
  obtain ⟨i0, hi, hz0, hz1, hz2⟩ := info_parts info_u8
  have hlt := World.block_lt_of_cell? w _ h0
  have hlt' : G < w.heap.size := hlt
  have HC := Lib.hid h0
  have hu : IntKind.u8.wrap (a : Int) = (a : Int) := by simp [IntKind.wrap, IntKind.bits, IntKind.signed]; omega
  have hbv := Lib.hid (bv_ofNat a ha)
  have hln : [UInt8.ofNat a].length = 1 := rfl
  have ht1 : Hid (([UInt8.ofNat a].take 1).map bv = [UInt8.ofNat a].map bv) := rfl
  have ht2 : Hid (([UInt8.ofNat a].take (0 + 1)).map bv = ([UInt8.ofNat a].take 0).map bv ++ [bv (UInt8.ofNat a)]) := rfl
  clear h0
  generalize [UInt8.ofNat a] = L at *
  go_enter Tryd.func23, Tryd.ntmps23
  go_wp2_with fail
  go_loopw [3, 9] (fun out i wr => ∃ k : Nat, k ≤ 1 ∧ i = .int .i64 (k : Int) ∧ wr.ownsRow w.heap.size 5 1 out k ((L.take k).map bv) ∧ Below w.heap.size w wr) (fun _ i _ => 1 - (intOf i).toNat)
  case atStart => exact ⟨0, by omega, rfl, World.ownsRow_lit w #[] 0 (Nat.le_refl _) (by simp [maxLen]) rfl, (Below.refl _ _).alloc (Nat.le_refl _) _⟩
  case round =>
    obtain ⟨k, hk, rfl, hown, hb⟩ := hrel
    have hki : 0 ≤ (k : Int) ∧ (k : Int) ≤ 1 := by omega
    by_cases hlt3 : k < 1
    · obtain rfl : k = 0 := by omega
      have c0 := (hb.cell (p := ⟨G, 0, none⟩) hlt').trans HC.out
      go_wp2_with (at_builtin; refine app_lit rfl _ _ 33 rfl Tryd.underlying33 hi hz0 hz1 hz2 rfl (by decide) rfl hown hb rfl rfl (one_cell1 _ _) (by unfold maxLen; omega) (by omega) ?_; intro v1 w1 hown1 hb1)
      go_roundw
      case rel => exact ⟨0 + 1, by omega, rfl, by rw [ht2.out, hbv.out]; exact hown1, hb1⟩
      case measure => simp [intOf]
    · obtain rfl : k = 1 := by omega
      rw [ht1.out] at hown
      have hcv := conv_own Tryd.underlying33 Tryd.underlying5 Tryd.underlying9 hown
      go_wp2
      go_ret
      exact ⟨rfl, hb⟩
theorem own_slice' {w : World} {base : Nat} {e : TypeId} {size n : Nat} {v : Value} {xs : List Value} (h : w.ownsRow base e size v n xs) : ∃ A c, v = .slice A n c := by
  rcases h.2 with ⟨rfl, rfl⟩ | ⟨g, cap, cur, rfl, _⟩
  · exact ⟨_, _, rfl⟩
  · exact ⟨_, _, rfl⟩
theorem treePath_all (l : List (List UInt8)) (i : Int) : ∀ x ∈ treePathS l i, x.length ≤ 32 := by
  by_cases h : 40 < l.length ∨ i < 0 ∨ (l.length : Int) ≤ i
  · rw [treePath_no h]; intro x hx; simp at hx
  · obtain ⟨a, rfl⟩ := Int.eq_ofNat_of_zero_le (a := i) (by omega)
    rw [treePath_yes (by omega) (by omega)]
    intro x hx; rw [pathS_all _ _ x hx]; exact Nat.le_refl _
theorem flat_len (p : List (List UInt8)) (h : ∀ x ∈ p, x.length ≤ 32) : p.flatten.length ≤ 32 * p.length := by
  induction p with
  | nil => simp
  | cons x p ih =>
    have h1 := h x (by simp)
    have h2 := ih (fun y hy => h y (by simp [hy]))
    simp only [List.flatten_cons, List.length_append, List.length_cons]
    omega
theorem flat_take (p : List (List UInt8)) (k : Nat) (h : k < p.length) : (p.take (k + 1)).flatten = (p.take k).flatten ++ p[k] := by
  rw [List.take_succ_eq_append_getElem h, List.flatten_append]; simp
theorem digitsS_at (msg : List UInt8) (k : Nat) : (digitsS msg).getD k 0 ≤ 3 := by
  rw [List.getD]
  cases h : (digitsS msg)[k]? with
  | none => simp
  | some d => exact digitsS_le msg d (List.mem_of_getElem? h)

set_option maxHeartbeats 4000000 in
theorem iHsSign_any (seed : List UInt8) (leaf : Int) (msg : List UInt8) (w : World) (hl : seed.length ≤ 4190000) (hm : msg.length ≤ 4194304) (hK : HasK w) :
    Calls Tryd.prog 8 #[.string (S seed), .int .i64 leaf, .string (S msg)] w fun e w' => e = .returned (.string (S (hsSignS seed leaf msg))) ∧ Below w.heap.size w w' := by
  have HK := Lib.hid hK
  clear hK
  by_cases h1 : inB leaf 0 3 = true
  case neg =>
    have h1' : inB leaf 0 3 = false := by simpa using h1
    have HV : Hid (hsSignS seed leaf msg = []) := by unfold Hid hsSignS; rw [h1']; rfl
    clear h1
    go_enter Tryd.func8, Tryd.ntmps8
    go_wp2_with (go_at_call 21; refine (within_b _ _ _ _).mono ?_; rintro e w' ⟨rfl, rfl⟩)
    go_ret
    exact ⟨ret_string (by rw [HV.out]; rfl), Below.refl _ _⟩
  have hbr := Below.refl w.heap.size w
  obtain ⟨hl0, hl3⟩ := inB_true h1
  have HV : Hid (hsSignS seed leaf msg = signAll seed leaf (digitsS msg) 11 ++ [UInt8.ofNat leaf.toNat] ++ (treePathS (pubsS seed) leaf).flatten) := by unfold Hid hsSignS; rw [h1]; rfl
  have HD := Lib.hid (iDigits_any msg w hm HK.out)
  have hds := digitsS_at msg
  have HP := Lib.hid fun (W : World) (h : HasK W) => iPubs_any seed W hl h
  have HT := Lib.hid fun (A : Option Addr) (c : Nat) (W : World) (hc1 : 4 ≤ c) (hc2 : c ≤ 9223372036854775807) (hR : TReads W W.heap.size A (pubsS seed)) (h : HasK W) => iTreePath_any (pubsS seed) leaf A 4 c W rfl (by omega) hc1 hc2 (pubsS_all seed) hR h
  have hta := treePath_all (pubsS seed) leaf
  have htl := treePathS_le (pubsS seed) leaf
  generalize treePathS (pubsS seed) leaf = P at *
  generalize digitsS msg = ds at *
  go_enter Tryd.func8, Tryd.ntmps8
  go_wp2_with (go_at_call 21; refine (within_b _ _ _ _).mono ?_; rintro e w' ⟨rfl, rfl⟩)
  refine HD.out.mono ?_
  rintro e w1 ⟨g, cap, rfl, hg, hcell, b1⟩
  have HC := Lib.hid fun (W : World) (h : Below w1.heap.size w1 W) (j : Nat) (hj : j < 11) => (h.cell (p := ⟨g, j, none⟩) hg).trans (hcell j hj)
  have HB1 := Lib.hid b1
  have hg1 := hg
  clear hcell b1 HD
  go_wp2_with fail
  go_loopw [7, 18] (fun s i wr => ∃ k : Nat, k ≤ 11 ∧ i = .int .i64 (k : Int) ∧ s = .string (S (signAll seed leaf ds k)) ∧ Below w1.heap.size w1 wr) (fun _ i _ => (11 - intOf i).toNat)
  case atStart => exact ⟨0, by omega, rfl, rfl, Below.refl _ _⟩
  case round =>
    obtain ⟨k, hk, rfl, rfl, hbx⟩ := hrel
    have hb := Below.next HB1.out hbx
    have hlen := signAll_len seed leaf ds k
    by_cases hlt : k < 11
    · have h2 : (k : Int) < 11 := by omega
      have hki : 0 ≤ (k : Int) := by omega
      have c0 := HC.out _ hbx k hlt
      have HCK := Lib.hid fun (W : World) (h : Below w1.heap.size w1 W) => HC.out W h k hlt
      have hd3 := hds k
      have HN : Hid (signAll seed leaf ds (k + 1) = signAll seed leaf ds k ++ linksN k 0 (secretS seed leaf k) (ds.getD k 0)) := rfl
      have hsl := secretS_len seed leaf k
      have hln := linksN_len k 0 (secretS seed leaf k) (ds.getD k 0)
      have HS := Lib.hid fun (W : World) (h : HasK W) => iHsSecret_any seed leaf (k : Int) W (by omega) h
      have HL := Lib.hid fun (W : World) (h : HasK W) => iLinks_any (k : Int) 0 ((ds.getD k 0 : Nat) : Int) (ds.getD k 0) (secretS seed leaf k) 0 (by omega) W (by omega) (by omega) (by omega) (by omega) h
      generalize linksN k 0 (secretS seed leaf k) (ds.getD k 0) = y at *
      generalize secretS seed leaf k = z at *
      generalize signAll seed leaf ds k = t at *
      generalize ds.getD k 0 = d at *

      have hbY := Lib.hid hbx
      go_wp2_with (first | (go_at_call 22; refine (HS.out _ (HK.out.to hb)).mono ?_; rintro e wn ⟨rfl, hbn⟩; have hbx := Below.next (w := w1) hbx hbn; have hb := Below.next (w := w) hb hbn; clear hbn) | (go_at_call 14; refine (HL.out _ (HK.out.to hb)).mono ?_; rintro e wn ⟨rfl, hbn⟩; have hbx := Below.next (w := w1) hbx hbn; have hb := Below.next (w := w) hb hbn; clear hbn))
      go_roundw
      case rel => exact ⟨k + 1, by omega, by go_num, by rw [HN.out], hbx⟩
      case measure => simp [intOf]; omega

    · have hk' : k = 11 := by omega
      have h2 : ¬ (k : Int) < 11 := by omega
      rw [← hk'] at HV
      generalize signAll seed leaf ds k = t at *
      obtain ⟨a, rfl⟩ := Int.eq_ofNat_of_zero_le (a := leaf) (by omega)
      have hcv := conv_one (P := Tryd.prog) 33 9 5 Tryd.underlying33 Tryd.underlying5 Tryd.underlying9
      have hu8 := u8_small (c := (a : Int)) rfl (by omega)
      rw [Int.toNat_natCast] at HV
      have hone : (S [UInt8.ofNat a]).size = 1 := S_size _
      have hap : S t ++ S [UInt8.ofNat a] = S (t ++ [UInt8.ofNat a]) := S_append _ _
      clear hk'

      have HBO := Lib.hid fun (G : Nat) (W : World) h0 => bytesOf_one a (by omega) G W h0
      generalize [UInt8.ofNat a] = L at *
      have hLl : L.length = 1 := by simpa using hone
      go_wp2_with (go_at_call 23; refine (HBO.out _ _ (by simp)).mono ?_; rintro e wn ⟨rfl, hbn⟩; have hb := Below.next (w := w) (hb.alloc hb.size _) hbn; clear hbn)
      refine (HP.out _ (HK.out.to hb)).mono ?_

      rintro e w2 ⟨v, rfl, ho, b2⟩
      obtain ⟨gp, cp, rfl, _, _⟩ := ho.form (by omega)
      obtain ⟨hc1, hc2⟩ := own_cap ho
      have HB2 := Lib.hid (Below.next (w := w) hb b2)
      go_wp2_with fail
      refine (HT.out _ _ _ hc1 hc2 (TReads.of_own (l := pubsS seed) ho) (HK.out.to HB2.out)).mono ?_
      rintro e w3 ⟨v3, rfl, o3, b3⟩
      obtain ⟨A3, c3, rfl⟩ := own_slice' o3
      have HB3 := Lib.hid (Below.next (w := w) HB2.out b3)
      have HR := Lib.hid (TReads.of_own o3)
      go_wp2_with fail
      go_loopw [7, 43] (fun s i wr => ∃ k : Nat, k ≤ P.length ∧ i = .int .i64 (k : Int) ∧ s = .string (S ((t ++ L) ++ (P.take k).flatten)) ∧ Below w3.heap.size w3 wr) (fun _ i _ => P.length - (intOf i).toNat)
      case atStart => exact ⟨0, by omega, rfl, by simp, Below.refl _ _⟩
      case round =>
        obtain ⟨k, hk, rfl, rfl, hbx⟩ := hrel
        have hki : 0 ≤ (k : Int) ∧ (k : Int) ≤ P.length := by omega
        have hfl := flat_len (P.take k) (fun x hx => hta x (List.mem_of_mem_take hx))
        have htk : (P.take k).length ≤ 40 := by simp; omega
        by_cases hlt : k < P.length
        · obtain ⟨b, off, rfl, hbB, hc⟩ := ((HR.out.below hbx (Nat.le_refl _)).more hbx.size) (by omega)
          have c0 := hc k hlt
          have hki2 : (k : Int) < P.length := by omega
          have HF := Lib.hid (flat_take P k hlt)
          have hxl := hta P[k] (List.getElem_mem hlt)
          clear hc
          generalize P[k] = x at *
          generalize (P.take k).flatten = f at *
          go_wp2
          go_roundw
          case rel => exact ⟨k + 1, by omega, by go_num, by rw [HF.out]; simp, hbx⟩
          case measure => simp [intOf]; omega
        · have hkl : Hid ((P.take k).flatten = P.flatten) := by unfold Hid; rw [List.take_of_length_le (by omega)]
          have HBB := Lib.hid (Below.next HB3.out hbx)
          generalize (P.take k).flatten = f at *
          go_wp2
          go_ret
          exact ⟨ret_string (by rw [HV.out, hkl.out]), HBB.out⟩

set_option maxHeartbeats 4000000 in
theorem sHsSign_any (seed : List UInt8) (leaf : Int) (msg : List UInt8) (w : World) (hl : seed.length ≤ 4190000) (hm : msg.length ≤ 4194304) :
    Calls Tryd.prog 7 #[.string (S seed), .int .i64 leaf, .string (S msg)] w fun e w' => e = .returned (.string (S (hsSignS seed leaf msg))) ∧ Below w.heap.size w w' := by
  by_cases h1 : inB leaf 0 3 = true
  case neg =>
    have h1' : inB leaf 0 3 = false := by simpa using h1
    have HV : Hid (hsSignS seed leaf msg = []) := by unfold Hid hsSignS; rw [h1']; rfl
    clear h1
    go_enter Tryd.func7, Tryd.ntmps7
    go_wp2_with (go_at_call 17; refine (l5Leaf_b _ _).mono ?_; rintro e w' ⟨rfl, rfl⟩)
    go_ret
    exact ⟨ret_string (by rw [HV.out]; rfl), Below.refl _ _⟩
  have hbr := Below.refl w.heap.size w
  obtain ⟨hl0, hl3⟩ := inB_true h1
  have HV : Hid (hsSignS seed leaf msg = signAll seed leaf (digitsS msg) 11 ++ [UInt8.ofNat leaf.toNat] ++ (treePathS (pubsS seed) leaf).flatten) := by unfold Hid hsSignS; rw [h1]; rfl
  have HD := Lib.hid (sDigits_any msg w hm)
  have hds := digitsS_at msg
  have HP := Lib.hid fun (W : World) => sPubs_any seed W hl
  have HT := Lib.hid fun (A : Option Addr) (c : Nat) (W : World) (hc1 : 4 ≤ c) (hc2 : c ≤ 9223372036854775807) (hR : TReads W W.heap.size A (pubsS seed)) => sTreePath_any (pubsS seed) leaf A 4 c W rfl (by omega) hc1 hc2 (pubsS_all seed) hR
  have hta := treePath_all (pubsS seed) leaf
  have htl := treePathS_le (pubsS seed) leaf
  generalize treePathS (pubsS seed) leaf = P at *
  generalize digitsS msg = ds at *
  go_enter Tryd.func7, Tryd.ntmps7
  go_wp2_with (go_at_call 17; refine (l5Leaf_b _ _).mono ?_; rintro e w' ⟨rfl, rfl⟩)
  refine HD.out.mono ?_
  rintro e w1 ⟨g, cap, rfl, hg, hcell, b1⟩
  have HC := Lib.hid fun (W : World) (h : Below w1.heap.size w1 W) (j : Nat) (hj : j < 11) => (h.cell (p := ⟨g, j, none⟩) hg).trans (hcell j hj)
  have HB1 := Lib.hid b1
  have hg1 := hg
  clear hcell b1 HD
  go_wp2_with fail
  go_loopw [8, 9] (fun s i wr => ∃ k : Nat, k ≤ 11 ∧ i = .int .i64 (k : Int) ∧ s = .string (S (signAll seed leaf ds k)) ∧ Below w1.heap.size w1 wr) (fun _ i _ => (11 - intOf i).toNat)
  case atStart => exact ⟨0, by omega, rfl, rfl, Below.refl _ _⟩
  case round =>
    obtain ⟨k, hk, rfl, rfl, hbx⟩ := hrel
    have hb := Below.next HB1.out hbx
    have hlen := signAll_len seed leaf ds k
    by_cases hlt : k < 11
    · have h2 : (k : Int) < 11 := by omega
      have hki : 0 ≤ (k : Int) := by omega
      have c0 := HC.out _ hbx k hlt
      have HCK := Lib.hid fun (W : World) (h : Below w1.heap.size w1 W) => HC.out W h k hlt
      have hd3 := hds k
      have HN : Hid (signAll seed leaf ds (k + 1) = signAll seed leaf ds k ++ linksN k 0 (secretS seed leaf k) (ds.getD k 0)) := rfl
      have hsl := secretS_len seed leaf k
      have hln := linksN_len k 0 (secretS seed leaf k) (ds.getD k 0)
      have HS := Lib.hid fun (W : World) => sHsSecret_any seed leaf (k : Int) W (by omega)
      have HL := Lib.hid fun (W : World) => sLinks_any (k : Int) 0 ((ds.getD k 0 : Nat) : Int) (ds.getD k 0) (secretS seed leaf k) 1 (by omega) W (by omega) (by omega) (by omega) (by omega)
      generalize linksN k 0 (secretS seed leaf k) (ds.getD k 0) = y at *
      generalize secretS seed leaf k = z at *
      generalize signAll seed leaf ds k = t at *
      generalize ds.getD k 0 = d at *

      have m1 := fun W : World => run_string_add_sum (P := Tryd.prog) W (S t) (S y) (by simp; omega)
      go_wp2
      go_region_held3 (fun w' => Below w1.heap.size w1 w' ∧ w'.cell? ⟨g, k, none⟩ = some (.int .i64 (d : Int))) (first | exact ⟨hbx.drew, HCK.out _ hbx.drew⟩ | exact ⟨Below.next (w := w1) (And.left (by assumption)) hbm, HCK.out _ (Below.next (w := w1) (And.left (by assumption)) hbm)⟩)
        (first | (go_at_call 18; refine (HS.out _).mono ?_; rintro e wm ⟨rfl, hbm⟩) | (go_at_call 10; refine (HL.out _).mono ?_; rintro e wm ⟨rfl, hbm⟩))
      all_goals
        have hbz : Below w1.heap.size w1 wm := by apply And.left; assumption
        go_wp2
        go_roundw
        case rel => exact ⟨k + 1, by omega, by go_num, by rw [HN.out], hbz⟩
        case measure => simp [intOf]; omega

    · have hk' : k = 11 := by omega
      have h2 : ¬ (k : Int) < 11 := by omega
      rw [← hk'] at HV
      generalize signAll seed leaf ds k = t at *
      obtain ⟨a, rfl⟩ := Int.eq_ofNat_of_zero_le (a := leaf) (by omega)
      have hcv := conv_one (P := Tryd.prog) 33 9 5 Tryd.underlying33 Tryd.underlying5 Tryd.underlying9
      have hu8 := u8_small (c := (a : Int)) rfl (by omega)
      rw [Int.toNat_natCast] at HV
      have hone : (S [UInt8.ofNat a]).size = 1 := S_size _
      have hap : S t ++ S [UInt8.ofNat a] = S (t ++ [UInt8.ofNat a]) := S_append _ _
      clear hk'

      have hb := hb
      go_wp2_with fail
      refine (HP.out _).mono ?_

      rintro e w2 ⟨v, rfl, ho, b2⟩
      obtain ⟨gp, cp, rfl, _, _⟩ := ho.form (by omega)
      obtain ⟨hc1, hc2⟩ := own_cap ho
      have HB2 := Lib.hid (Below.next (w := w) (hb.alloc hb.size _) b2)
      go_wp2_with fail
      refine (HT.out _ _ _ hc1 hc2 (TReads.of_own (l := pubsS seed) ho)).mono ?_
      rintro e w3 ⟨v3, rfl, o3, b3⟩
      obtain ⟨A3, c3, rfl⟩ := own_slice' o3
      have HB3 := Lib.hid (Below.next (w := w) HB2.out b3)
      have HR := Lib.hid (TReads.of_own o3)
      go_wp2_with fail
      go_loopw [8, 11] (fun s i wr => ∃ k : Nat, k ≤ P.length ∧ i = .int .i64 (k : Int) ∧ s = .string (S ((t ++ [UInt8.ofNat a]) ++ (P.take k).flatten)) ∧ Below w3.heap.size w3 wr) (fun _ i _ => P.length - (intOf i).toNat)
      case atStart => exact ⟨0, by omega, rfl, by simp, Below.refl _ _⟩
      case round =>
        obtain ⟨k, hk, rfl, rfl, hbx⟩ := hrel
        have hki : 0 ≤ (k : Int) ∧ (k : Int) ≤ P.length := by omega
        have hfl := flat_len (P.take k) (fun x hx => hta x (List.mem_of_mem_take hx))
        have htk : (P.take k).length ≤ 40 := by simp; omega
        by_cases hlt : k < P.length
        · obtain ⟨b, off, rfl, hbB, hc⟩ := ((HR.out.below hbx (Nat.le_refl _)).more hbx.size) (by omega)
          have c0 := hc k hlt
          have hki2 : (k : Int) < P.length := by omega
          have HF := Lib.hid (flat_take P k hlt)
          have hxl := hta P[k] (List.getElem_mem hlt)
          clear hc
          generalize P[k] = x at *
          generalize (P.take k).flatten = f at *
          go_wp2
          go_roundw
          case rel => exact ⟨k + 1, by omega, by go_num, by rw [HF.out]; simp, hbx⟩
          case measure => simp [intOf]; omega
        · have hkl : Hid ((P.take k).flatten = P.flatten) := by unfold Hid; rw [List.take_of_length_le (by omega)]
          have HBB := Lib.hid (Below.next HB3.out hbx)
          generalize (P.take k).flatten = f at *
          go_wp2
          go_ret
          exact ⟨ret_string (by rw [HV.out, hkl.out]), HBB.out⟩

end Go.Proofs.YtllfnhkloaenhaaDoor
