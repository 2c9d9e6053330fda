/-
  The public keys of all leaves; HsRoot: both sides.
-/
import Derived.Test.YtllfnhkloaenhaaDoorHs2
import Derived.Test.YtllfnhkloaenhaaDoorTree1
namespace Go.Proofs.YtllfnhkloaenhaaDoor
open Go.ChangeShapes Go.WideShapes Go.ChangeAt Go.RowKit
set_option linter.unusedVariables false
set_option linter.unusedSimpArgs false
set_option maxRecDepth 100000

theorem infoT : (Tryd.prog.info? 9).map (fun i => (i.zero, i.size, i.bytes)) = some (some (.string ByteArray.empty), 1, 16) := by kernel_rfl
theorem one_cellT (x : ByteArray) : ∀ u ∈ (#[Value.string x] : Array Value).toList, u.oneCell' = true := by
  intro u hu; simp at hu; subst hu; rfl
theorem own_kept {w w' : World} {base : Nat} {e : TypeId} {size n : Nat} {v : Value} {xs : List Value} (h : w.ownsRow base e size v n xs) (hb : Below w.heap.size w w') : w'.ownsRow base e size v n xs := by
  refine ⟨h.1, ?_⟩
  rcases h.2 with ⟨h1, h2⟩ | ⟨g, cap, cur, h1, h2, h3, h4⟩
  · exact .inl ⟨h1, h2⟩
  · refine .inr ⟨g, cap, cur, h1, h2, ?_, h4⟩
    have hlt : g < w.heap.size := by
      rcases Nat.lt_or_ge g w.heap.size with hlt | hge
      · exact hlt
      · rw [Array.getElem?_eq_none hge] at h3; cases h3
    rw [← h3]; exact hb.block g hlt
theorem own_cap {w : World} {base : Nat} {e : TypeId} {size n g cap : Nat} {xs : List Value} (h : w.ownsRow base e size (.slice (some ⟨g, 0, none⟩) n cap) n xs) : n ≤ cap ∧ cap ≤ 9223372036854775807 := by
  rcases h.2 with ⟨h1, _⟩ | ⟨g', cap', cur, h1, _, _, h4, h5, _⟩
  · simp at h1
  · simp only [Value.slice.injEq, Option.some.injEq] at h1
    obtain ⟨_, _, rfl⟩ := h1
    exact ⟨h4, by unfold maxLen at h5; omega⟩
theorem pubsS_all (seed : List UInt8) : ∀ x ∈ pubsS seed, x.length ≤ 1048576 := by
  intro x hx
  unfold pubsS at hx
  simp only [List.mem_cons, List.not_mem_nil, or_false] at hx
  rcases hx with rfl | rfl | rfl | rfl <;> exact Nat.le_trans (pubS_len _ _) (by omega)
theorem pubsS_take (seed : List UInt8) (k : Nat) (h : k < 4) : ((pubsS seed).take (k + 1)).map tv = ((pubsS seed).take k).map tv ++ [.string (S (pubS seed (k : Int)))] := by
  match k, h with
  | 0, _ => rfl
  | 1, _ => rfl
  | 2, _ => rfl
  | 3, _ => rfl

theorem iPubs_any (seed : List UInt8) (w : World) (hl : seed.length ≤ 4190000) (hK : HasK w) :
    Calls Tryd.prog 25 #[.string (S seed)] w fun e w' => ∃ v, e = .returned v ∧ w'.ownsRow w.heap.size 9 1 v 4 ((pubsS seed).map tv) ∧ Below w.heap.size w w' := by
  have HK := Lib.hid hK
  clear hK
  obtain ⟨i0, hi, hz0, hz1, hz2⟩ := info_parts infoT
  go_enter Tryd.func25, Tryd.ntmps25
  go_wp2_with fail
  go_loopw [3, 6] (fun out i wr => ∃ k : Nat, k ≤ 4 ∧ i = .int .i64 (k : Int) ∧ wr.ownsRow w.heap.size 9 1 out k (((pubsS seed).take k).map tv) ∧ Below w.heap.size w wr) (fun _ i _ => (4 - intOf i).toNat)
  case atStart => exact ⟨0, by omega, rfl, World.ownsRow_lit w #[] 0 (Nat.le_refl _) (by simp [maxLen]) rfl, (Below.refl _ _).alloc (Nat.le_refl _) _⟩
  case round =>
    obtain ⟨k, hk, rfl, hown, hb⟩ := hrel
    have hki : 0 ≤ (k : Int) ∧ (k : Int) ≤ 4 := by omega
    by_cases hlt : k < 4
    · have h2 : (k : Int) < 4 := by omega
      have HT := Lib.hid (pubsS_take seed k hlt)
      have HP := Lib.hid fun (W : World) (h : HasK W) => iHsPub_any seed (k : Int) W hl h
      have HO := Lib.hid hown
      have HB := Lib.hid hb
      clear hown hb
      generalize pubS seed (k : Int) = x at *
      go_wp2_with (first | (go_at_call 39; refine (HP.out _ (HK.out.to HB.out)).mono ?_; rintro e wn ⟨rfl, hbn⟩; have hown := own_kept HO.out hbn; have hb := Below.next (w := w) HB.out hbn; clear hbn) | (at_builtin; refine app_lit rfl _ _ 30 rfl Tryd.underlying30 hi hz0 hz1 hz2 rfl (by decide) rfl hown hb rfl rfl (one_cellT _) (by unfold maxLen; omega) (by omega) ?_; intro v1 w1 hown1 hb1))
      go_roundw
      case rel => exact ⟨k + 1, by omega, by go_num, by rw [HT.out]; exact hown1, hb1⟩
      case measure => simp [intOf]; omega
    · have hk' : k = 4 := by omega
      rw [hk', show (pubsS seed).take 4 = pubsS seed from rfl] at hown
      have HO := Lib.hid hown
      clear hown hk'
      go_wp2
      go_ret
      exact ⟨_, rfl, HO.out, hb⟩

theorem sPubs_any (seed : List UInt8) (w : World) (hl : seed.length ≤ 4190000) :
    Calls Tryd.prog 20 #[.string (S seed)] w fun e w' => ∃ v, e = .returned v ∧ w'.ownsRow w.heap.size 9 1 v 4 ((pubsS seed).map tv) ∧ Below w.heap.size w w' := by
  obtain ⟨i0, hi, hz0, hz1, hz2⟩ := info_parts infoT
  go_enter Tryd.func20, Tryd.ntmps20
  go_wp2_with fail
  go_loopw [3, 4] (fun out i wr => ∃ k : Nat, k ≤ 4 ∧ i = .int .i64 (k : Int) ∧ wr.ownsRow w.heap.size 9 1 out k (((pubsS seed).take k).map tv) ∧ Below w.heap.size w wr) (fun _ i _ => (4 - intOf i).toNat)
  case atStart => exact ⟨0, by omega, rfl, World.ownsRow_lit w #[] 0 (Nat.le_refl _) (by simp [maxLen]) rfl, (Below.refl _ _).alloc (Nat.le_refl _) _⟩
  case round =>
    obtain ⟨k, hk, rfl, hown, hb⟩ := hrel
    have hki : 0 ≤ (k : Int) ∧ (k : Int) ≤ 4 := by omega
    by_cases hlt : k < 4
    · have h2 : (k : Int) < 4 := by omega
      have HT := Lib.hid (pubsS_take seed k hlt)
      have HP := Lib.hid fun (W : World) => sHsPub_any seed (k : Int) W hl
      have HO := Lib.hid hown
      have HB := Lib.hid hb
      clear hown hb
      generalize pubS seed (k : Int) = x at *
      go_wp2_with (first | (go_at_call 36; refine (HP.out _).mono ?_; rintro e wn ⟨rfl, hbn⟩; have hown := own_kept HO.out hbn; have hb := Below.next (w := w) HB.out hbn; clear hbn) | (at_builtin; refine app_lit rfl _ _ 30 rfl Tryd.underlying30 hi hz0 hz1 hz2 rfl (by decide) rfl hown hb rfl rfl (one_cellT _) (by unfold maxLen; omega) (by omega) ?_; intro v1 w1 hown1 hb1))
      go_roundw
      case rel => exact ⟨k + 1, by omega, by go_num, by rw [HT.out]; exact hown1, hb1⟩
      case measure => simp [intOf]; omega
    · have hk' : k = 4 := by omega
      rw [hk', show (pubsS seed).take 4 = pubsS seed from rfl] at hown
      have HO := Lib.hid hown
      clear hown hk'
      go_wp2
      go_ret
      exact ⟨_, rfl, HO.out, hb⟩

end Go.Proofs.YtllfnhkloaenhaaDoor
