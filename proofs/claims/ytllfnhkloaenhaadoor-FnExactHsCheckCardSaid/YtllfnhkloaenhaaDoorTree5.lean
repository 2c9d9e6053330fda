/-
  TreePath, whole: both sides.
-/
import Derived.Test.YtllfnhkloaenhaaDoorTree4
namespace Go.Proofs.YtllfnhkloaenhaaDoor
open Go.ChangeShapes Go.WideShapes Go.ChangeAt Go.RowKit
set_option linter.unusedVariables false
set_option linter.unusedSimpArgs false
set_option maxRecDepth 100000

theorem treePath_no {l : List (List UInt8)} {i : Int} (h : 40 < l.length ∨ i < 0 ∨ (l.length : Int) ≤ i) : treePathS l i = [] := by unfold treePathS; rw [if_pos h]
theorem treePath_yes {l : List (List UInt8)} {i : Nat} (h1 : l.length ≤ 40) (h2 : i < l.length) : treePathS l (i : Int) = pathS l i := by
  unfold treePathS; rw [if_neg (by omega), Int.toNat_natCast]
theorem treePathS_le (l : List (List UInt8)) (i : Int) : (treePathS l i).length ≤ 40 := by
  by_cases h : 40 < l.length ∨ i < 0 ∨ (l.length : Int) ≤ i
  · rw [treePath_no h]; simp
  · obtain ⟨a, rfl⟩ := Int.eq_ofNat_of_zero_le (a := i) (by omega)
    rw [treePath_yes (by omega) (by omega)]
    exact Nat.le_trans (pathS_len _ _) (by omega)
theorem iTreePath_any (l : List (List UInt8)) (i : Int) (A : Option Addr) (n c : Nat) (w : World) (hn : l.length = n) (hn2 : n ≤ 1048576) (hnc : n ≤ c) (hc : c ≤ 9223372036854775807) (hx : ∀ x ∈ l, x.length ≤ 1048576) (hR : TReads w w.heap.size A l) (hK : HasK w) :
    Calls Tryd.prog 24 #[.slice A n c, .int .i64 i] w fun e w' => ∃ v, e = .returned v ∧ w'.ownsRow w.heap.size 9 1 v (treePathS l i).length ((treePathS l i).map tv) ∧ Below w.heap.size w w' := by
  by_cases h : 40 < l.length ∨ i < 0 ∨ (l.length : Int) ≤ i
  · have HV := Lib.hid (treePath_no h)
    rw [HV.out]
    clear hR hK hx HV
    by_cases h40 : 40 < n
    · have g : 40 < (n : Int) := by omega
      go_enter Tryd.func24, Tryd.ntmps24
      go_wp2
      go_ret
      exact ⟨_, rfl, own_nil, Below.refl _ _⟩
    · have g : ¬ 40 < (n : Int) := by omega
      have gw : inB i 0 ((n : Int) - 1) = false := inB_no (by omega)
      go_enter Tryd.func24, Tryd.ntmps24
      go_wp2_with (go_at_call 21; refine (within_b _ _ _ _).mono ?_; rintro e w' ⟨rfl, rfl⟩)
      go_ret
      exact ⟨_, rfl, own_nil, Below.refl _ _⟩
  · obtain ⟨a, rfl⟩ := Int.eq_ofNat_of_zero_le (a := i) (by omega)
    rw [treePath_yes (by omega) (by omega)]
    exact iPath_any n l A n c a w (by omega) hn (by omega) (by omega) (by omega) hnc hc hx hR hK
theorem sTreePath_any (l : List (List UInt8)) (i : Int) (A : Option Addr) (n c : Nat) (w : World) (hn : l.length = n) (hn2 : n ≤ 1048576) (hnc : n ≤ c) (hc : c ≤ 9223372036854775807) (hx : ∀ x ∈ l, x.length ≤ 1048576) (hR : TReads w w.heap.size A l) :
    Calls Tryd.prog 19 #[.slice A n c, .int .i64 i] w fun e w' => ∃ v, e = .returned v ∧ w'.ownsRow w.heap.size 9 1 v (treePathS l i).length ((treePathS l i).map tv) ∧ Below w.heap.size w w' := by
  by_cases h : 40 < l.length ∨ i < 0 ∨ (l.length : Int) ≤ i
  · have HV := Lib.hid (treePath_no h)
    rw [HV.out]
    clear hR hx HV
    have hown := World.ownsRow_lit w #[] 0 (e := 9) (size := 1) (base := w.heap.size) (Nat.le_refl _) (by simp [maxLen]) rfl
    have hbl : ∀ o, Below w.heap.size w (w.alloc o) := fun o => (Below.refl _ _).alloc (Nat.le_refl _) o
    by_cases h40 : 40 < n
    · have g : 40 < (n : Int) := by omega
      go_enter Tryd.func19, Tryd.ntmps19
      go_wp2
      go_ret
      exact ⟨_, rfl, hown, hbl _⟩
    · have g : ¬ 40 < (n : Int) := by omega
      by_cases h2 : i < 0
      · go_enter Tryd.func19, Tryd.ntmps19
        go_wp2
        go_ret
        exact ⟨_, rfl, hown, hbl _⟩
      · have h3 : (n : Int) ≤ i := by omega
        go_enter Tryd.func19, Tryd.ntmps19
        go_wp2
        go_ret
        exact ⟨_, rfl, hown, hbl _⟩
  · obtain ⟨a, rfl⟩ := Int.eq_ofNat_of_zero_le (a := i) (by omega)
    rw [treePath_yes (by omega) (by omega)]
    have g : ¬ 40 < (n : Int) := by omega
    have g2 : ¬ (a : Int) < 0 := by omega
    have g3 : ¬ (n : Int) ≤ (a : Int) := by omega
    have HI := Lib.hid (sPath_any n l A n c a w (by omega) hn (by omega) (by omega) (by omega) hnc hc hx hR)
    clear hR hx
    generalize pathS l a = p at *
    go_enter Tryd.func19, Tryd.ntmps19
    go_wp2_with fail
    refine HI.out.mono ?_
    rintro e w1 ⟨v, rfl, ho, hb⟩
    go_wp2
    go_ret
    exact ⟨_, rfl, ho, hb⟩
end Go.Proofs.YtllfnhkloaenhaaDoor
