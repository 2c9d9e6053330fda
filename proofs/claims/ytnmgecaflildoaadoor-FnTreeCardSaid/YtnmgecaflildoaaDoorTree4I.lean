/-
  TreePath: the program.
-/
import Derived.Test.YtnmgecaflildoaaDoorOwnT
import Derived.Test.YtnmgecaflildoaaDoorTree2
import Derived.Deep.AppendLies
import Derived.Deep.RegionLaw
namespace Go.Proofs.YtnmgecaflildoaaDoor
open Go.ChangeShapes Go.WideShapes Go.ChangeAt Go.RowKit
set_option linter.unusedVariables false
set_option linter.unusedSimpArgs false
set_option maxRecDepth 100000

theorem own_nilT {w : World} {base : Nat} {e : TypeId} {size : Nat} : w.ownsRow base e size (.slice none 0 0) 0 [] := ⟨by simp, .inl ⟨rfl, rfl⟩⟩
theorem path_left {l : List (List UInt8)} {i n : Nat} (hn : l.length = n) (h : 2 ≤ n) (hi : i < splitN n) : pathS l i = pathS (l.take (splitN n)) i ++ [treeS (l.drop (splitN n))] := by subst hn; exact pathS_left h hi
theorem path_right {l : List (List UInt8)} {i n : Nat} (hn : l.length = n) (h : 2 ≤ n) (hi : ¬ i < splitN n) : pathS l i = pathS (l.drop (splitN n)) (i - splitN n) ++ [treeS (l.take (splitN n))] := by subst hn; exact pathS_right h hi

set_option maxHeartbeats 1000000 in
theorem iPath_any (m : Nat) : ∀ (l : List (List UInt8)) (A : Option Addr) (n c i : Nat) (w : World), l.length ≤ m → l.length = n → 1 ≤ n → n ≤ 40 → i < n → n ≤ c → c ≤ 9223372036854775807 → (∀ x ∈ l, x.length ≤ 1048576) → TReads w w.heap.size A l → HasK w →
    Calls Tryd.prog 14 #[.slice A n c, .int .i64 (i : Int)] w fun e w' => ∃ v, e = .returned v ∧ w'.ownsRow w.heap.size 9 1 v (pathS l i).length ((pathS l i).map tv) ∧ Below w.heap.size w w' := by
  induction m using Nat.strongRecOn with
  | _ m ih =>
    intro l A n c i w hm hn h1n h40 hi hnc hc hx hR hK
    have hb := Below.refl w.heap.size w
    have HR := Lib.hid hR
    have HX := Lib.hid hx
    clear hR hx
    have HK := Lib.hid hK
    clear hK
    obtain ⟨i0, hii, hz0, hz1, hz2⟩ := info_parts infoT
    have g40 : ¬ 40 < (n : Int) := by omega
    have gw : inB (i : Int) 0 ((n : Int) - 1) = true := inB_mk (by omega) (by omega)
    by_cases h1 : n = 1
    · have HV : Hid (pathS l i = []) := pathS_one (by omega) i
      have gw1 : inB (i : Int) 0 0 = true := inB_mk (by omega) (by omega)
      subst h1
      rw [HV.out]
      go_enter Tryd.func14, Tryd.ntmps14
      go_wp2_with (first | (go_at_call 36; refine (within_b _ _ _ _).mono ?_; rintro e w' ⟨rfl, rfl⟩) | fail)
      go_ret
      exact ⟨_, rfl, World.ownsRow_lit w #[] 0 (Nat.le_refl _) (by simp [maxLen]) rfl, (Below.refl _ _).alloc (Nat.le_refl _) _⟩
    have h1' : ((n : Int) == 1) = false := by simp; omega
    have hsp := splitN_bound (n := n) (by omega)
    obtain ⟨b, off, rfl, hbB, hcc⟩ := HR.out (by omega)
    clear hcc
    have HF := Lib.hid fun (W : World) => firsts_any n W (by omega) (by omega)
    have hbd := hb.drew
    by_cases his : i < splitN n
    · have HV := Lib.hid (path_left hn (by omega) his)
      have HI := Lib.hid fun (W : World) (h : Below w.heap.size w W) => ih (n - 1) (by omega) (l.take (splitN n)) (some ⟨b, off, none⟩) (splitN n) c i W (by simp; omega) (by simp; omega) (by omega) (by omega) (by omega) (by omega) (by omega) (fun x hx => HX.out x (List.mem_of_mem_take hx)) (((HR.out.below h (Nat.le_refl _)).more h.size).take _) (HK.out.to h)
      have HT := Lib.hid fun (W : World) (h : Below w.heap.size w W) => (by have q := iTree_any n (l.drop (splitN n)) (some ⟨b, off + splitN n, none⟩) (n - splitN n) (c - splitN n) W (by simp; omega) (by simp; omega) (by omega) (by omega) (by omega) (fun x hx => HX.out x (List.mem_of_mem_drop hx)) (((HR.out.below h (Nat.le_refl _)).more h.size).drop _) (HK.out.to h); rw [treeRoot_small (l := (l.drop (splitN n))) (by simp; omega)] at q; exact q)
      have hq := pathS_len (l.take (splitN n)) i
      have hq2 : (l.take (splitN n)).length ≤ 40 := by simp; omega
      rw [HV.out]
      generalize pathS (l.take (splitN n)) i = p at *
      generalize treeS (l.drop (splitN n)) = y at *
      have his' : (i : Int) < (splitN n : Int) := by omega
      generalize splitN n = k at *
      have hk1 : 0 ≤ (k : Int) ∧ (k : Int) ≤ n := by omega
      have hk2 : (k : Int) ≤ c := by omega
      have hck : ¬ c = k := by omega
      have hwk : IntKind.i64.wrap ((i : Int) - (k : Int)) = (i : Int) - (k : Int) := by rw [IntKind.wrap_i64]; omega
      clear HV
      go_enter Tryd.func14, Tryd.ntmps14
      go_wp2_with (first | (go_at_call 36; refine (within_b _ _ _ _).mono ?_; rintro e w' ⟨rfl, rfl⟩) | (go_at_call 32; refine (HF.out _).mono ?_; rintro e w' ⟨rfl, rfl⟩))
      go_region_law (first
        | (refine step_append_lies _ rfl _ _ 31 rfl w.heap.size 9 i0 (.string ByteArray.empty) 1 16 Tryd.underlying31 hii hz0 hz1 hz2 rfl (by decide) _ _ _ rfl ((own_kept o1 b2).alloc _) ⟨w2.heap.size, 0, none⟩ 1 1 [.string (S y)] rfl rfl (cells1 (by simp [go_sem])) (by intro u hu; simp at hu; subst hu; rfl) (by omega) (by unfold maxLen; omega) (by omega) (by simp; omega) _ rfl ?_; intro g cap w3 o3 g3 _ _)
        | (go_simp; go_at_call 14; refine (HI.out _ hbd).mono ?_; rintro e w1 ⟨v1, rfl, o1, b1⟩; have hs1 : w.heap.size ≤ w1.heap.size := b1.size)
        | (go_simp; go_at_call 12; refine (HT.out _ (Below.next hbd b1)).mono ?_; rintro e w2 ⟨rfl, b2⟩; have hs2 : w1.heap.size ≤ w2.heap.size := b2.size))
      all_goals
        have hb2 := Below.next (w := w) (Below.next hbd b1) b2
        have hb3 := (hb2.alloc hb2.size (.cells #[.string (S y)] 9)).grown g3 (by have := hb2.size; simp; omega) (fun q hq => (o1.lt q hq).1)
        go_wp2
        go_ret
        exact ⟨_, rfl, by rw [List.length_append, List.map_append]; exact o3, hb3⟩
    · have HV := Lib.hid (path_right hn (by omega) his)
      have HI := Lib.hid fun (W : World) (h : Below w.heap.size w W) => ih (n - 1) (by omega) (l.drop (splitN n)) (some ⟨b, off + splitN n, none⟩) (n - splitN n) (c - splitN n) (i - splitN n) W (by simp; omega) (by simp; omega) (by omega) (by omega) (by omega) (by omega) (by omega) (fun x hx => HX.out x (List.mem_of_mem_drop hx)) (((HR.out.below h (Nat.le_refl _)).more h.size).drop _) (HK.out.to h)
      rw [show ((i - splitN n : Nat) : Int) = (i : Int) - (splitN n : Int) from by omega] at HI
      have HT := Lib.hid fun (W : World) (h : Below w.heap.size w W) => (by have q := iTree_any n (l.take (splitN n)) (some ⟨b, off, none⟩) (splitN n) c W (by simp; omega) (by simp; omega) (by omega) (by omega) (by omega) (fun x hx => HX.out x (List.mem_of_mem_take hx)) (((HR.out.below h (Nat.le_refl _)).more h.size).take _) (HK.out.to h); rw [treeRoot_small (l := (l.take (splitN n))) (by simp; omega)] at q; exact q)
      have hq := pathS_len (l.drop (splitN n)) (i - splitN n)
      have hq2 : (l.drop (splitN n)).length ≤ 40 := by simp; omega
      rw [HV.out]
      generalize pathS (l.drop (splitN n)) (i - splitN n) = p at *
      generalize treeS (l.take (splitN n)) = y at *
      have his' : ¬ (i : Int) < (splitN n : Int) := by omega
      generalize splitN n = k at *
      have hk1 : 0 ≤ (k : Int) ∧ (k : Int) ≤ n := by omega
      have hk2 : (k : Int) ≤ c := by omega
      have hck : ¬ c = k := by omega
      have hwk : IntKind.i64.wrap ((i : Int) - (k : Int)) = (i : Int) - (k : Int) := by rw [IntKind.wrap_i64]; omega
      clear HV
      go_enter Tryd.func14, Tryd.ntmps14
      go_wp2_with (first | (go_at_call 36; refine (within_b _ _ _ _).mono ?_; rintro e w' ⟨rfl, rfl⟩) | (go_at_call 32; refine (HF.out _).mono ?_; rintro e w' ⟨rfl, rfl⟩))
      go_region_law (first
        | (refine step_append_lies _ rfl _ _ 31 rfl w.heap.size 9 i0 (.string ByteArray.empty) 1 16 Tryd.underlying31 hii hz0 hz1 hz2 rfl (by decide) _ _ _ rfl ((own_kept o1 b2).alloc _) ⟨w2.heap.size, 0, none⟩ 1 1 [.string (S y)] rfl rfl (cells1 (by simp [go_sem])) (by intro u hu; simp at hu; subst hu; rfl) (by omega) (by unfold maxLen; omega) (by omega) (by simp; omega) _ rfl ?_; intro g cap w3 o3 g3 _ _)
        | (go_simp; go_at_call 14; refine (HI.out _ hbd).mono ?_; rintro e w1 ⟨v1, rfl, o1, b1⟩; have hs1 : w.heap.size ≤ w1.heap.size := b1.size)
        | (go_simp; go_at_call 12; refine (HT.out _ (Below.next hbd b1)).mono ?_; rintro e w2 ⟨rfl, b2⟩; have hs2 : w1.heap.size ≤ w2.heap.size := b2.size))
      all_goals
        have hb2 := Below.next (w := w) (Below.next hbd b1) b2
        have hb3 := (hb2.alloc hb2.size (.cells #[.string (S y)] 9)).grown g3 (by have := hb2.size; simp; omega) (fun q hq => (o1.lt q hq).1)
        go_wp2
        go_ret
        exact ⟨_, rfl, by rw [List.length_append, List.map_append]; exact o3, hb3⟩

end Go.Proofs.YtnmgecaflildoaaDoor
