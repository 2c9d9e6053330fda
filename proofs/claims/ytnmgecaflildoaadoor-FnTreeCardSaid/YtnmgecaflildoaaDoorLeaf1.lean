/-
  LeafHash, NodeHash, Short: both sides.
-/
import Derived.Test.YtnmgecaflildoaaDoorSha5
import Derived.Test.YtnmgecaflildoaaDoorTree0
namespace Go.Proofs.YtnmgecaflildoaaDoor
open Go.ChangeShapes Go.WideShapes Go.ChangeAt Go.RowKit
set_option linter.unusedVariables false
set_option linter.unusedSimpArgs false
set_option maxRecDepth 100000

theorem S_cons1 (c : UInt8) (l : List UInt8) : ByteArray.mk #[c] ++ S l = S (c :: l) := by rw [show ByteArray.mk #[c] = S [c] from rfl, S_append]; rfl
theorem sLeafHash_any (l : List UInt8) (w : World) (hl : l.length ≤ 4194300) :
    Calls Tryd.prog 39 #[.string (S l)] w fun e w' => e = .returned (.string (S (leafS l))) ∧ Below w.heap.size w w' := by
  have hb := Below.refl w.heap.size w
  have hS := S_cons1 0 l
  have HV := Lib.hid (sSha_any (0 :: l) w (by simp; omega))
  go_enter Tryd.func39, Tryd.ntmps39
  go_wp2_with (go_at_call 34; refine (HV.out).mono ?_; rintro e wn ⟨rfl, hbn⟩; have hb := Below.next (w := w) (by repeat (first | with_reducible exact hb | with_reducible exact Below.refl _ _ | refine Below.drew ?_ | refine Below.setCell ?_ (by simp <;> omega) _ | refine Below.alloc ?_ (by simp <;> omega) _)) hbn; clear hbn)
  go_ret
  exact ⟨rfl, hb⟩
theorem iLeafHash_any (l : List UInt8) (w : World) (hl : l.length ≤ 4194300) (hK : HasK w) :
    Calls Tryd.prog 31 #[.string (S l)] w fun e w' => e = .returned (.string (S (leafS l))) ∧ Below w.heap.size w w' := by
  have hb := Below.refl w.heap.size w
  have hS := S_cons1 0 l
  have HV := Lib.hid (iSha_any (0 :: l) w (by simp; omega) hK)
  clear hK
  go_enter Tryd.func31, Tryd.ntmps31
  go_wp2_with (go_at_call 30; refine (HV.out).mono ?_; rintro e wn ⟨rfl, hbn⟩; have hb := Below.next (w := w) (by repeat (first | with_reducible exact hb | with_reducible exact Below.refl _ _ | refine Below.drew ?_ | refine Below.setCell ?_ (by simp <;> omega) _ | refine Below.alloc ?_ (by simp <;> omega) _)) hbn; clear hbn)
  go_ret
  exact ⟨rfl, hb⟩
theorem sNodeHash_any (a b : List UInt8) (w : World) (hl : a.length + b.length ≤ 4194300) :
    Calls Tryd.prog 54 #[.string (S a), .string (S b)] w fun e w' => e = .returned (.string (S (nodeS a b))) ∧ Below w.heap.size w w' := by
  have hb := Below.refl w.heap.size w
  have hS := S_cons1 1 a
  have HV := Lib.hid (sSha_any (1 :: (a ++ b)) w (by simp; omega))
  go_enter Tryd.func54, Tryd.ntmps54
  go_wp2_with (go_at_call 34; refine (HV.out).mono ?_; rintro e wn ⟨rfl, hbn⟩; have hb := Below.next (w := w) (by repeat (first | with_reducible exact hb | with_reducible exact Below.refl _ _ | refine Below.drew ?_ | refine Below.setCell ?_ (by simp <;> omega) _ | refine Below.alloc ?_ (by simp <;> omega) _)) hbn; clear hbn)
  go_ret
  exact ⟨rfl, hb⟩
theorem iNodeHash_any (a b : List UInt8) (w : World) (hl : a.length + b.length ≤ 4194300) (hK : HasK w) :
    Calls Tryd.prog 33 #[.string (S a), .string (S b)] w fun e w' => e = .returned (.string (S (nodeS a b))) ∧ Below w.heap.size w w' := by
  have hb := Below.refl w.heap.size w
  have hS := S_cons1 1 a
  have HV := Lib.hid (iSha_any (1 :: (a ++ b)) w (by simp; omega) hK)
  clear hK
  go_enter Tryd.func33, Tryd.ntmps33
  go_wp2_with (go_at_call 30; refine (HV.out).mono ?_; rintro e wn ⟨rfl, hbn⟩; have hb := Below.next (w := w) (by repeat (first | with_reducible exact hb | with_reducible exact Below.refl _ _ | refine Below.drew ?_ | refine Below.setCell ?_ (by simp <;> omega) _ | refine Below.alloc ?_ (by simp <;> omega) _)) hbn; clear hbn)
  go_ret
  exact ⟨rfl, hb⟩
theorem take8 (l : List UInt8) (h : l.length = 32) : (S l).extract 0 8 = S (l.take 8) := by rw [S_take]; simp
theorem sShort_any (l : List UInt8) (w : World) (hl : l.length ≤ 4194304) :
    Calls Tryd.prog 41 #[.string (S l)] w fun e w' => e = .returned (.string (S (shortS l))) ∧ Below w.heap.size w w' := by
  have hb := Below.refl w.heap.size w
  have HV := Lib.hid (sSha_any l w hl)
  have hE := take8 (shaS l) (shaS_len l)
  have hn := shaS_len l
  go_enter Tryd.func41, Tryd.ntmps41
  go_wp2_with (go_at_call 34; refine (HV.out).mono ?_; rintro e wn ⟨rfl, hbn⟩; have hb := Below.next (w := w) (by repeat (first | with_reducible exact hb | with_reducible exact Below.refl _ _ | refine Below.drew ?_ | refine Below.setCell ?_ (by simp <;> omega) _ | refine Below.alloc ?_ (by simp <;> omega) _)) hbn; clear hbn)
  go_ret
  exact ⟨rfl, hb⟩
theorem iShort_any (l : List UInt8) (w : World) (hl : l.length ≤ 4194304) (hK : HasK w) :
    Calls Tryd.prog 26 #[.string (S l)] w fun e w' => e = .returned (.string (S (shortS l))) ∧ Below w.heap.size w w' := by
  have hb := Below.refl w.heap.size w
  have HV := Lib.hid (iSha_any l w hl hK)
  have hE := take8 (shaS l) (shaS_len l)
  have hn := shaS_len l
  clear hK
  go_enter Tryd.func26, Tryd.ntmps26
  go_wp2_with (go_at_call 30; refine (HV.out).mono ?_; rintro e wn ⟨rfl, hbn⟩; have hb := Below.next (w := w) (by repeat (first | with_reducible exact hb | with_reducible exact Below.refl _ _ | refine Below.drew ?_ | refine Below.setCell ?_ (by simp <;> omega) _ | refine Below.alloc ?_ (by simp <;> omega) _)) hbn; clear hbn)
  go_ret
  exact ⟨rfl, hb⟩
end Go.Proofs.YtnmgecaflildoaaDoor
