/-
  TreeRoot of the reference.
-/
import Derived.Test.YtnmgecaflildoaaDoorTree1
namespace Go.Proofs.YtnmgecaflildoaaDoor
open Go.ChangeShapes Go.WideShapes Go.ChangeAt Go.RowKit
set_option linter.unusedVariables false
set_option linter.unusedSimpArgs false
set_option maxRecDepth 100000

theorem sTreeRoot_any (l : List (List UInt8)) (A : Option Addr) (n c : Nat) (w : World) (hn : l.length = n) (hnc : n ≤ c) (hn2 : n ≤ 1048576) (hc : c ≤ 9223372036854775807) (hx : ∀ x ∈ l, x.length ≤ 1048576) (hR : TReads w w.heap.size A l) :
    Calls Tryd.prog 13 #[.slice A n c] w fun e w' => e = .returned (.string (S (treeRootS l))) ∧ Below w.heap.size w w' := by
  have hb := Below.refl w.heap.size w
  by_cases h40 : 40 < n
  · have HV : Hid (treeRootS l = []) := by unfold Hid treeRootS; rw [if_pos (by omega)]
    have h3 : 40 < (n : Int) := by omega
    clear hR hx
    go_enter Tryd.func13, Tryd.ntmps13
    go_wp2
    go_ret
    exact ⟨ret_string (by rw [HV.out]; rfl), hb⟩
  have h3 : ¬ 40 < (n : Int) := by omega
  by_cases h0 : n = 0
  · have HV : Hid (treeRootS l = shaS []) := by
      unfold Hid; rw [treeRoot_small (by omega), List.eq_nil_of_length_eq_zero (show l.length = 0 by omega)]; rfl
    have HSH := Lib.hid fun (W : World) => sSha_any [] W (by simp)
    clear hR hx
    subst h0
    go_enter Tryd.func13, Tryd.ntmps13
    go_wp2_with (go_at_call 34; refine (HSH.out _).mono ?_; rintro e wn ⟨rfl, hbn⟩; have hb := Below.next (w := w) (by repeat (first | with_reducible exact hb | with_reducible exact Below.refl _ _ | refine Below.drew ?_ | refine Below.setCell ?_ (by simp <;> omega) _ | refine Below.alloc ?_ (by simp <;> omega) _)) hbn; clear hbn)
    go_ret
    exact ⟨ret_string (by rw [HV.out]), hb⟩
  have h0' : ((n : Int) == 0) = false := by simp; omega
  have HV : Hid (treeRootS l = treeS l) := treeRoot_small (by omega)
  have HT := Lib.hid (sTree_any n l A n c w (by omega) hn (by omega) (by omega) hnc hn2 hc hx hR)
  clear hR hx
  go_enter Tryd.func13, Tryd.ntmps13
  go_wp2_with (go_at_call 35; refine (HT.out).mono ?_; rintro e wn ⟨rfl, hbn⟩; have hb := Below.next (w := w) (by repeat (first | with_reducible exact hb | with_reducible exact Below.refl _ _ | refine Below.drew ?_ | refine Below.setCell ?_ (by simp <;> omega) _ | refine Below.alloc ?_ (by simp <;> omega) _)) hbn; clear hbn)
  go_ret
  exact ⟨ret_string (by rw [HV.out]), hb⟩
end Go.Proofs.YtnmgecaflildoaaDoor
