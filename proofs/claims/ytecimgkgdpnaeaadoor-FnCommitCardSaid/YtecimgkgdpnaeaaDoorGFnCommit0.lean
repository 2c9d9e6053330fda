/-
  Texts of this proof, laid into one: Lay1, Set0.
-/
import Derived.Shelf.Sort.Plain
import Derived.Shelf.Slices.CompactI
import Derived.Ground.NamesProg
import Derived.Ground.Names2Prog
import Derived.Test.YtecimgkgdpnaeaaDoorProg
import Derived.Lib.SlicesCompact
/-
  DERIVED: THE SHELF's CONTRACTS AT THIS DUMP, IN PLAIN WORDS (tools/lay-plain.mjs out of 'YtecimgkgdpnaeaaDoorLay0.lean', which tools/lay-shelf.mjs wrote): THE SAME DECLARATIONS UNDER THE SAME NAMES: 'import', 'namespace', 'open', 'def', 'theorem' AND NOTHING ELSE: no command of the shelf's: FOR A HAND-IN. Each laying: the table of numbers ('.._ren') and one theorem, a field a fact of the dump's own or the kernel's comparison; each contract: ONE APPLICATION.
-/
namespace Go.Proofs
open Go.Shelf
def YtecimgkgdpnaeaaDoor.laysSort_ren : Go.Shelf.Ren := ⟨fun | 189 => 69 | 125 => 102 | 257 => 101 | 128 => 125 | 129 => 126 | 294 => 116 | 295 => 117 | 296 => 118 | 297 => 119 | 298 => 120 | 299 => 121 | 216 => 122 | 300 => 123 | 301 => 124 | 328 => 133 | 329 => 134 | 330 => 135 | 331 => 136 | 332 => 137 | 215 => 138 | 343 => 139 | n => n, fun | 28 => 43 | 3 => 3 | 46 => 113 | 0 => 0 | 51 => 127 | 53 => 143 | 4 => 4 | 183 => 134 | 182 => 133 | 131 => 139 | 5 => 5 | 9 => 9 | 218 => 149 | 222 => 153 | 228 => 155 | 229 => 111 | n => n, fun | n => n⟩
theorem YtecimgkgdpnaeaaDoor.laysSort : Go.Proofs.Lays.n189 Tryd.prog YtecimgkgdpnaeaaDoor.laysSort_ren := {
  mixed := by kernel_rfl
  f125 := Tryd.func102.trans (congrArg some (by kernel_rfl))
  f128 := Tryd.func125.trans (congrArg some (by kernel_rfl))
  f129 := Tryd.func126.trans (congrArg some (by kernel_rfl))
  f189 := Tryd.func69.trans (congrArg some (by kernel_rfl))
  f215 := Tryd.func138.trans (congrArg some (by kernel_rfl))
  f216 := Tryd.func122.trans (congrArg some (by kernel_rfl))
  f257 := Tryd.func101.trans (congrArg some (by kernel_rfl))
  f294 := Tryd.func116.trans (congrArg some (by kernel_rfl))
  f295 := Tryd.func117.trans (congrArg some (by kernel_rfl))
  f296 := Tryd.func118.trans (congrArg some (by kernel_rfl))
  f297 := Tryd.func119.trans (congrArg some (by kernel_rfl))
  f298 := Tryd.func120.trans (congrArg some (by kernel_rfl))
  f299 := Tryd.func121.trans (congrArg some (by kernel_rfl))
  f300 := Tryd.func123.trans (congrArg some (by kernel_rfl))
  f301 := Tryd.func124.trans (congrArg some (by kernel_rfl))
  f328 := Tryd.func133.trans (congrArg some (by kernel_rfl))
  f329 := Tryd.func134.trans (congrArg some (by kernel_rfl))
  f330 := Tryd.func135.trans (congrArg some (by kernel_rfl))
  f331 := Tryd.func136.trans (congrArg some (by kernel_rfl))
  f332 := Tryd.func137.trans (congrArg some (by kernel_rfl))
  f343 := Tryd.func139.trans (congrArg some (by kernel_rfl))
  t0 := Tryd.underlying0
  a0 := Tryd.isAgg0
  z0 := Tryd.sizeOf0
  v0 := Tryd.zeroValue0
  t3 := Tryd.underlying3
  a3 := Tryd.isAgg3
  z3 := Tryd.sizeOf3
  v3 := Tryd.zeroValue3
  t4 := Tryd.underlying4
  a4 := Tryd.isAgg4
  z4 := Tryd.sizeOf4
  v4 := Tryd.zeroValue4
  t5 := Tryd.underlying5
  a5 := Tryd.isAgg5
  z5 := Tryd.sizeOf5
  v5 := Tryd.zeroValue5
  t9 := Tryd.underlying9
  a9 := Tryd.isAgg9
  z9 := Tryd.sizeOf9
  v9 := Tryd.zeroValue9
  t28 := Tryd.underlying43
  a28 := Tryd.isAgg43
  z28 := Tryd.sizeOf43
  v28 := Tryd.zeroValue43
  t46 := Tryd.underlying113
  a46 := Tryd.isAgg113
  z46 := Tryd.sizeOf113
  v46 := Tryd.zeroValue113
  t51 := Tryd.underlying127
  a51 := Tryd.isAgg127
  z51 := Tryd.sizeOf127
  v51 := Tryd.zeroValue127
  t53 := Tryd.underlying143
  a53 := Tryd.isAgg143
  z53 := Tryd.sizeOf143
  v53 := Tryd.zeroValue143
  t131 := Tryd.underlying139
  a131 := Tryd.isAgg139
  z131 := Tryd.sizeOf139
  v131 := Tryd.zeroValue139
  t182 := Tryd.underlying133
  a182 := Tryd.isAgg133
  z182 := Tryd.sizeOf133
  v182 := Tryd.zeroValue133
  t183 := Tryd.underlying134
  a183 := Tryd.isAgg134
  z183 := Tryd.sizeOf134
  v183 := Tryd.zeroValue134
  t218 := Tryd.underlying149
  a218 := Tryd.isAgg149
  z218 := Tryd.sizeOf149
  v218 := Tryd.zeroValue149
  t222 := Tryd.underlying153
  a222 := Tryd.isAgg153
  z222 := Tryd.sizeOf153
  v222 := Tryd.zeroValue153
  t228 := Tryd.underlying155
  a228 := Tryd.isAgg155
  z228 := Tryd.sizeOf155
  v228 := Tryd.zeroValue155
  t229 := Tryd.underlying111
  a229 := Tryd.isAgg111
  z229 := Tryd.sizeOf111
  v229 := Tryd.zeroValue111 }
def YtecimgkgdpnaeaaDoor.laysCompact_ren : Go.Shelf.Ren := ⟨fun | 20 => 70 | n => n, fun | 22 => 43 | 3 => 3 | 4 => 4 | 0 => 0 | n => n, fun | n => n⟩
theorem YtecimgkgdpnaeaaDoor.laysCompact : Go.Proofs.Lays2.n20 Tryd.prog YtecimgkgdpnaeaaDoor.laysCompact_ren := {
  mixed := by kernel_rfl
  f20 := Tryd.func70.trans (congrArg some (by kernel_rfl))
  t0 := Tryd.underlying0
  a0 := Tryd.isAgg0
  z0 := Tryd.sizeOf0
  v0 := Tryd.zeroValue0
  t3 := Tryd.underlying3
  a3 := Tryd.isAgg3
  z3 := Tryd.sizeOf3
  v3 := Tryd.zeroValue3
  t4 := Tryd.underlying4
  a4 := Tryd.isAgg4
  z4 := Tryd.sizeOf4
  v4 := Tryd.zeroValue4
  t22 := Tryd.underlying43
  a22 := Tryd.isAgg43
  z22 := Tryd.sizeOf43
  v22 := Tryd.zeroValue43
  i3 := by kernel_rfl }
end Go.Proofs

/-
  A list that is sorted and then compacted: the numbers of it, once each, ascending. No program in sight.
-/
namespace Go.Proofs.YtecimgkgdpnaeaaDoor
set_option linter.unusedVariables false
set_option linter.unusedSimpArgs false

/-- The list, sorted. -/
def sortI (zs : List Int) : List Int := zs.mergeSort fun x y => decide (x ≤ y)
theorem sortI_len (zs : List Int) : (sortI zs).length = zs.length := List.length_mergeSort zs
theorem sortI_mem (zs : List Int) (x : Int) : x ∈ sortI zs ↔ x ∈ zs := List.mem_mergeSort
theorem sortI_asc (zs : List Int) : ∀ (i j : Nat) (hi : i < (sortI zs).length) (hj : j < (sortI zs).length), i < j → (sortI zs)[i] ≤ (sortI zs)[j] := by
  have h := List.pairwise_mergeSort (le := fun x y : Int => decide (x ≤ y)) (fun a b c h1 h2 => by simp at h1 h2 ⊢; omega) (fun a b => by simp; omega) zs
  intro i j hi hj hij
  have := List.pairwise_iff_getElem.1 h i j hi hj hij
  have h2 : (sortI zs)[i] ≤ (sortI zs)[j] := of_decide_eq_true this
  exact h2
theorem compact_asc (zs : List Int) (hs : ∀ (i j : Nat) (hi : i < zs.length) (hj : j < zs.length), i < j → zs[i] ≤ zs[j]) : ∀ m, m ≤ zs.length →
    (Lib.compactUpTo zs.toArray m).Pairwise (· < ·) ∧ ∀ x, x ∈ Lib.compactUpTo zs.toArray m ↔ x ∈ zs.take m := by
  intro m
  induction m with
  | zero => intro _; simp [Lib.compactUpTo]
  | succ m ih =>
    intro hm
    obtain ⟨h1, h2⟩ := ih (by omega)
    have hmv : zs.toArray[m]! = zs[m] := by rw [getElem!_pos zs.toArray m (by simp; omega)]; rfl
    rw [Lib.compactUpTo_succ, List.take_succ_eq_append_getElem (by omega), hmv]
    by_cases hk : Lib.keeps zs.toArray m = true
    · rw [if_pos hk]
      refine ⟨?_, fun x => by rw [List.mem_append, List.mem_append, h2 x]⟩
      rw [List.pairwise_append]
      refine ⟨h1, by simp, fun x hx y hy => ?_⟩
      rw [List.mem_singleton] at hy
      subst hy
      have hx' := (h2 x).1 hx
      obtain ⟨i, hi, rfl⟩ := List.getElem_of_mem hx'
      rw [List.getElem_take]
      have him : i < m := by rw [List.length_take] at hi; omega
      unfold Lib.keeps at hk
      simp only [decide_eq_true_eq] at hk
      rcases hk with hk | hk
      · omega
      · have hmv1 : zs.toArray[m - 1]! = zs[m - 1] := by rw [getElem!_pos zs.toArray (m - 1) (by simp; omega)]; rfl
        rw [hmv, hmv1] at hk
        have q1 := hs (m - 1) m (by omega) (by omega) (by omega)
        by_cases he : i = m - 1
        · subst he; omega
        · have q2 := hs i (m - 1) (by omega) (by omega) (by omega)
          omega
    · rw [if_neg hk]
      refine ⟨by simpa using h1, fun x => ?_⟩
      rw [List.append_nil, h2 x, List.mem_append, List.mem_singleton]
      unfold Lib.keeps at hk
      simp only [decide_eq_true_eq, not_or, Decidable.not_not] at hk
      have hmv1 : zs.toArray[m - 1]! = zs[m - 1] := by rw [getElem!_pos zs.toArray (m - 1) (by simp; omega)]; rfl
      rw [hmv, hmv1] at hk
      constructor
      · exact fun h => .inl h
      · rintro (h | rfl)
        · exact h
        · rw [hk.2]
          rw [List.mem_take_iff_getElem]
          exact ⟨m - 1, by omega, rfl⟩
theorem asc_ext : ∀ (a b : List Int), a.Pairwise (· < ·) → b.Pairwise (· < ·) → (∀ x, x ∈ a ↔ x ∈ b) → a = b
  | [], [], _, _, _ => rfl
  | [], y :: b, _, _, h => absurd ((h y).2 (by simp)) (by simp)
  | x :: a, [], _, _, h => absurd ((h x).1 (by simp)) (by simp)
  | x :: a, y :: b, ha, hb, h => by
    rw [List.pairwise_cons] at ha hb
    have e : x = y := by
      have h1 := (h x).1 (by simp)
      have h2 := (h y).2 (by simp)
      rcases List.mem_cons.1 h1 with h1 | h1
      · exact h1
      · rcases List.mem_cons.1 h2 with h2 | h2
        · exact h2.symm
        · have := hb.1 x h1
          have := ha.1 y h2
          omega
    subst e
    rw [asc_ext a b ha.2 hb.2 (fun z => ?_)]
    constructor
    · intro hz
      rcases List.mem_cons.1 ((h z).1 (by simp [hz])) with e | e
      · subst e; have := ha.1 z hz; omega
      · exact e
    · intro hz
      rcases List.mem_cons.1 ((h z).2 (by simp [hz])) with e | e
      · subst e; have := hb.1 z hz; omega
      · exact e
/-- The numbers 1 to n with a property. -/
def upTo (p : Int → Bool) (n : Nat) : List Int := ((List.range n).map fun (i : Nat) => (i : Int) + 1).filter p
theorem upTo_succ (p : Int → Bool) (n : Nat) : upTo p (n + 1) = upTo p n ++ (if p ((n : Int) + 1) then [(n : Int) + 1] else []) := by
  unfold upTo
  rw [List.range_succ, List.map_append, List.filter_append]
  congr 1
  by_cases h : p ((n : Int) + 1) <;> simp [h]
theorem upTo_asc (p : Int → Bool) (n : Nat) : (upTo p n).Pairwise (· < ·) ∧ ∀ x, x ∈ upTo p n ↔ 1 ≤ x ∧ x ≤ n ∧ p x = true := by
  induction n with
  | zero => exact ⟨by simp [upTo], fun x => by simp [upTo]; omega⟩
  | succ n ih =>
    rw [upTo_succ]
    constructor
    · rw [List.pairwise_append]
      refine ⟨ih.1, by split <;> simp, fun x hx y hy => ?_⟩
      have := (ih.2 x).1 hx
      split at hy
      · rw [List.mem_singleton] at hy; omega
      · simp at hy
    · intro x
      rw [List.mem_append, ih.2 x]
      constructor
      · rintro (h | h)
        · exact ⟨h.1, by omega, h.2.2⟩
        · split at h
          · rename_i hp
            rw [List.mem_singleton] at h
            subst h
            exact ⟨by omega, by omega, hp⟩
          · simp at h
      · rintro ⟨h1, h2, h3⟩
        by_cases e : x = (n : Int) + 1
        · subst e
          right; rw [if_pos h3]; simp
        · left; exact ⟨h1, by omega, h3⟩
theorem upTo_len (p : Int → Bool) (n : Nat) : (upTo p n).length ≤ n := by
  unfold upTo
  refine Nat.le_trans (List.length_filter_le _ _) ?_
  simp
/-- Sorted, then compacted. -/
theorem sort_compact (zs : List Int) (p : Int → Bool) (n : Nat) (h : ∀ x, x ∈ zs ↔ 1 ≤ x ∧ x ≤ n ∧ p x = true) : Lib.compact (sortI zs) = upTo p n := by
  have h1 := compact_asc (sortI zs) (sortI_asc zs) (sortI zs).length (Nat.le_refl _)
  have h2 := upTo_asc p n
  refine asc_ext _ _ h1.1 h2.1 (fun x => ?_)
  rw [h2.2 x, ← h x, ← sortI_mem zs]
  show x ∈ Lib.compactUpTo (sortI zs).toArray (sortI zs).length ↔ _
  rw [h1.2 x, List.take_length]
end Go.Proofs.YtecimgkgdpnaeaaDoor
