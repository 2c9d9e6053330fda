/-
  The frame of the laws that read shaWords: what the condition gives.
-/
import Derived.Test.YtnmgecaflildoaaDoorTie
import Derived.Test.YtnmgecaflildoaaDoorCards
import Derived.Test.YtnmgecaflildoaaDoorHasK
import Derived.Test.YtnmgecaflildoaaDoorFrame
import Derived.LaidMore
import Derived.Lib.LaidTab
import Derived.Stop.Joined
import Derived.WalkSmall
import Derived.SevenTiedAt
namespace Go.Proofs.YtnmgecaflildoaaDoor
open Go.ChangeShapes Go.WideShapes Go.ChangeAt Go.RowKit
set_option linter.unusedVariables false

def laidK : List (String × DataW Unit) := [("loop.example/g00946/impl.shaWords", Rows.laid_loop_example_g00946_impl_shaWords)]
theorem gK : Tryd.prog.globalNamed "loop.example/g00946/impl.shaWords" = some 0 := by kernel_rfl
theorem tK : (Tryd.prog.globals[0]?).map (·.type) = some 66 := by kernel_rfl
theorem laid_eq : laidK = [("loop.example/g00946/impl.shaWords", Lib.tabData .u32 (kTab.map fun (n : Nat) => (n : Int)))] := by rfl
theorem door_met (os : Os) (args : Array Value) : laidMetH Tryd.prog laidK ((World.doorLaid Tryd.prog 14 os).forCall (fun _ _ => 0) ⟨#[], args, []⟩).memory :=
  laidMetH_of_parts3 (fuel := 8) (laidMet_of_run' 8 (by kernel_rfl) (by kernel_rfl)) (by kernel_rfl) (by kernel_rfl)
theorem kWords {H : Type} {enc : TypeId × Value → H} {W : World} {gs : List (DataW H)} {q : List MemPlace} (hL : laidMetH Tryd.prog laidK W) (hV : DataW.TrodVars enc Tryd.prog W (fun _ => true) ["loop.example/g00946/impl.shaWords"] gs q) :
    HasK W ∧ ∃ gd, gs = [gd] ∧ ∀ W', Below W.heap.size W W' → ∃ qt, DataW.TrodVars enc Tryd.prog W' (fun b => decide (b < W.heap.size)) ["loop.example/g00946/impl.shaWords"] [gd] qt := by
  rw [MakeChecks.laidMetH_plain _ _ _ (by kernel_rfl), laid_eq] at hL
  have hT := Lib.tabIs_of_head gK tK Tryd.underlying66 Tryd.underlying61 (by kernel_rfl) (by kernel_rfl) hL
  have hcell : ∀ i, i < 64 → W.cell? ⟨0, i, none⟩ = some (.int .u32 (wn (kAt i))) := fun i hi => by
    rw [hT.cell gK i (by rw [List.length_map]; exact hi), wn_nat, kAt_toNat]
    congr 2
    rw [List.getD, List.getD, List.getElem?_map]
    rw [List.getElem?_eq_getElem (show i < kTab.length from hi)]
    rfl
  have hlt := World.block_lt_of_cell? W _ (hcell 0 (by omega))
  refine ⟨⟨hlt, hcell⟩, ?_⟩
  obtain ⟨g, t, cs, fuel, d, p', rfl, hg, ht, hvar, hd, rfl⟩ := trodVars_one hV
  obtain rfl := Option.some.inj (gK.symm.trans hg)
  obtain rfl := Option.some.inj (tK.symm.trans ht)
  refine ⟨d, rfl, fun W' hB => ?_⟩
  have hltv : ∀ x ∈ p', x.block < W.heap.size := DataW.trod_lt fuel _ _ _ hd
  obtain ⟨fuel', hd'⟩ := Below.trod laidOut (by kernel_rfl) (of_decide_eq_true (by kernel_rfl)) (v := .agg cs) (⟨fuel, by simpa [Value.cells] using hd⟩ : DataW.Trod enc Tryd.prog W 0 (fun _ => true) true 66 (.agg cs) d p') hB hltv
  exact ⟨_, trodVars_mk1 (enc := enc) (spare := fun b => decide (b < W.heap.size)) hg ht (var?_below hB hg hlt hvar) (by simpa [Value.cells] using hd')⟩
end Go.Proofs.YtnmgecaflildoaaDoor
