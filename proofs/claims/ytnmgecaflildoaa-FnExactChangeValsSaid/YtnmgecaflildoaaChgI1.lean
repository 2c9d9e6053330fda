/-
  slices.IndexFunc, slices.SortFunc of validators, by the shelf's contracts; the program's two closures.
-/
import Derived.Test.YtnmgecaflildoaaLayC
import Derived.Test.YtnmgecaflildoaaChg0
import Derived.Test.YtnmgecaflildoaaOwn0
import Derived.Test.YtnmgecaflildoaaBut0
import Derived.Shelf.SlSortCmp.WholeK
import Derived.Shelf.SlicesQ.IndexFunc
import Derived.Lib.SliceRun
namespace Go.Proofs.Ytnmgecaflildoaa
open Go.ChangeShapes Go.WideShapes Go.ChangeAt Go.RowKit Go.Shelf Go.Sort
set_option linter.unusedVariables false
set_option linter.unusedSimpArgs false
set_option maxRecDepth 100000

instance : Inhabited ValT := ⟨⟨0, 0⟩⟩
/-- A validator's two cells. -/
def encV (x : ValT) : List Value := [.int .i64 x.id, .int .i64 x.power]
theorem vget (d : List ValT) (k : Nat) (h : k < d.length) : d.toArray[k]! = d[k] := by simp [getElem!_pos, h]
theorem vcells_len2 (d : List ValT) : (vcells d).length = d.length * 2 := by
  induction d with
  | nil => rfl
  | cons x t ih => rw [vcells_cons, List.length_cons, List.length_cons, ih, List.length_cons]; omega
theorem flat_at (d : List ValT) (j : Nat) (hj : j < d.length * 2) : (vcells d)[j]? = some (flatK encV 2 d.toArray)[j]! := by
  rw [get_flatK _ _ _ _ (by simpa using hj)]
  have hk : j / 2 < d.length := by omega
  have h1 := vcells_at d (j / 2) hk
  rw [vget d _ hk]
  rcases Nat.mod_two_eq_zero_or_one j with h0 | h0
  · rw [show j / 2 * 2 = j from by omega] at h1
    rw [h1.1, h0]; rfl
  · rw [show j / 2 * 2 + 1 = j from by omega] at h1
    rw [h1.2, h0]; rfl
theorem own_holdsK {w : World} {base g n cap : Nat} {e : TypeId} {d : List ValT} (h : w.ownsRow base e 2 (.slice (some ⟨g, 0, none⟩) n cap) n (vcells d)) (hn : d.length = n) : HoldsK encV 2 w g 0 d.toArray := by
  intro t ht
  have ht' : t < d.length * 2 := by simpa using ht
  rw [Nat.zero_add]
  exact ⟨(h.cellAt t (by omega)).trans (flat_at d t ht'), h.frozenAt t⟩
theorem own_sortK {w : World} {base g n cap m : Nat} {e : TypeId} {os : Array Obj} {a d : List ValT} (h : w.ownsRow base e 2 (.slice (some ⟨g, 0, none⟩) n cap) n (vcells a)) (hn : d.length = n) :
    (sortWorldK encV 2 w g 0 m d.toArray os).ownsRow base e 2 (.slice (some ⟨g, 0, none⟩) n cap) n (vcells d) ∧ w.grownBy (sortWorldK encV 2 w g 0 m d.toArray os) (some g) := by
  have hlt := (h.lt g rfl).2
  refine ⟨?_, rfl, rfl, rfl, by simp [sortWorldK, putRowK, putRow, mapBlock, Sort.ahead], fun k hk hne => ?_⟩
  · rcases h.2 with ⟨h0, _⟩ | ⟨g', cap', cur, hv, hg, hb, h1, h2, h3, _⟩
    · simp at h0
    · simp only [Value.slice.injEq, Option.some.injEq, Addr.mk.injEq, and_true, true_and] at hv
      obtain ⟨rfl, rfl⟩ := hv
      refine ⟨?_, .inr ⟨g, cap, putCells id 0 (flatK encV 2 d.toArray) cur, rfl, hg, ?_, h1, h2, by simpa [putCells] using h3, ?_⟩⟩
      · rw [← hn]
        exact vcells_len2 d
      · unfold sortWorldK putRowK
        rw [heap_grow_old _ _ (by simpa [putRow, mapBlock, Sort.ahead] using hlt)]
        simp [putRow, mapBlock, Sort.ahead, Array.getElem?_modify, hb, onCells]
      · apply List.ext_getElem?
        intro j
        by_cases hj : j < n * 2
        · rw [List.getElem?_take_of_lt hj, Array.getElem?_toList, flat_at d j (by omega)]
          have hjc : j < cur.size := by
            have : n * 2 ≤ cap * 2 := Nat.mul_le_mul_right 2 h1
            omega
          simp [putCells, hjc, show j < d.length * 2 by omega]
        · rw [List.getElem?_take_eq_none (by omega), List.getElem?_eq_none]
          have := vcells_len2 d
          omega
  · unfold sortWorldK putRowK
    rw [heap_grow_old _ _ (by simpa [putRow, mapBlock, Sort.ahead] using hk)]
    have : g ≠ k := fun e => hne (by rw [e])
    simp [putRow, mapBlock, Sort.ahead, Array.getElem?_modify, this]

/-- What the program compares by. -/
def cfV (x y : ValT) : Int := if x.id < y.id then -1 else 1
theorem ltV (x y : ValT) : ltOf cfV x y = decide (x.id < y.id) := by
  unfold ltOf cfV
  by_cases h : x.id < y.id <;> simp [h]
theorem swoV : SWO (ltOf cfV) where
  irrefl x := by rw [ltV]; simp
  trans x y z h1 h2 := by rw [ltV] at *; simp at *; omega
  ntrans x y z h1 h2 := by rw [ltV] at *; simp at *; omega

theorem closure_cmp (x y : ValT) (W : World) : Calls Try.prog 20 #[.agg #[.int .i64 x.id, .int .i64 x.power], .agg #[.int .i64 y.id, .int .i64 y.power]] W fun e w' => e = .returned (.int .i64 (cfV x y)) ∧ ∃ q os', w' = grow (W.drewN q) os' := by
  by_cases h : x.id < y.id
  · have hc : cfV x y = -1 := by unfold cfV; rw [if_pos h]
    rw [hc]
    go_enter Try.func20, Try.ntmps20
    go_wp2
    go_ret
    exact ⟨rfl, 0, _, by rw [alloc_eq_grow, alloc_eq_grow, grow_grow]; rfl⟩
  · have hc : cfV x y = 1 := by unfold cfV; rw [if_neg h]
    rw [hc]
    go_enter Try.func20, Try.ntmps20
    go_wp2
    go_ret
    exact ⟨rfl, 0, _, by rw [alloc_eq_grow, alloc_eq_grow, grow_grow]; rfl⟩
theorem cmpLaysV (blk off size : Nat) (w : World) : CmpLays Try.prog 20 #[] encV 2 cfV blk off size w :=
  fun _ _ _ _ x y => closure_cmp x y _

theorem sortVals {base g n cap : Nat} {a : List ValT} {w : World} (h : w.ownsRow base 34 2 (.slice (some ⟨g, 0, none⟩) n cap) n (vcells a)) (hn : a.length = n) (hsz : n < 4611686018427387904) :
    Calls Try.prog 19 #[.slice (some ⟨g, 0, none⟩) n cap, .func (.func 20) #[] #[]] w fun e w' => e = .returned (.tuple #[]) ∧ ∃ d : List ValT, d.length = n ∧ d.Perm a ∧ d.Pairwise (fun x y => ¬ y.id < x.id) ∧ w'.ownsRow base 34 2 (.slice (some ⟨g, 0, none⟩) n cap) n (vcells d) ∧ w.grownBy w' (some g) := by
  have eg : ∀ args w, (callFunc 20 args).run Try.prog w = .ok (.enter 20 args) w := enters_of Try.func20 (by kernel_rfl) rfl
  have hcon := AnyQ.slices_SortFunc laysSortF 2 Try.isAgg34 Try.sizeOf34 encV (fun _ => rfl) (fun x v hv => by simp [encV] at hv; rcases hv with rfl | rfl <;> rfl) cfV swoV 20 #[] g 0 cap a.toArray w eg (cmpLaysV g 0 a.toArray.size w) (own_holdsK h hn) (h.lt g rfl).2 (by simpa [hn] using hsz)
  have hs : a.toArray.size = n := by simpa using hn
  rw [hs] at hcon
  refine Calls.mono hcon ?_
  rintro e w' ⟨rfl, d', m, os, hp, hsd, rfl⟩
  obtain ⟨hp1, _, hp3⟩ := hp
  have hd : d'.toList.length = n := by rw [Array.length_toList, hp1, hs]
  have ho := own_sortK (m := m) (os := os) (d := d'.toList) h hd
  rw [Array.toArray_toList] at ho
  refine ⟨rfl, d'.toList, hd, ?_, ?_, ho.1, ho.2⟩
  · have e1 : (d'.extract 0 n).toList = d'.toList := by
      simp only [Array.toList_extract, List.extract_eq_take_drop, List.drop_zero, Nat.sub_zero]
      rw [List.take_of_length_le (by omega)]
    have e2 : (a.toArray.extract 0 n).toList = a := by
      simp only [Array.toList_extract, List.extract_eq_take_drop, List.drop_zero, Nat.sub_zero]
      rw [List.take_of_length_le (by simpa using Nat.le_of_eq hn)]
    rw [e1, e2] at hp3
    exact hp3
  · rw [List.pairwise_iff_getElem]
    intro i j hi hj hij
    have := hsd i j (Nat.zero_le _) hij (by omega)
    rw [ltV] at this
    simp only [decide_eq_false_iff_not] at this
    rw [getElem!_pos d' j (by simpa using hj), getElem!_pos d' i (by simpa using hi)] at this
    simpa using this

/-! slices.IndexFunc. -/
def atV (ci : Int) (a : List ValT) : Int := Lib.idxBy (fun _ y => decide (y.id = ci)) (a.take a.length) default
theorem from_or (ci : Int) : ∀ (zs : List ValT) (i : Nat), (∃ (k : Nat) (h : k < zs.length), zs[k].id = ci ∧ Lib.idxByFrom (fun _ y : ValT => decide (y.id = ci)) default zs i = ((i + k : Nat) : Int)) ∨ ((∀ v ∈ zs, v.id ≠ ci) ∧ Lib.idxByFrom (fun _ y : ValT => decide (y.id = ci)) default zs i = -1)
  | [], i => .inr ⟨fun v hv => (by cases hv), rfl⟩
  | z :: zs, i => by
    by_cases h : z.id = ci
    · exact .inl ⟨0, by simp, h, by simp [Lib.idxByFrom, h]⟩
    · rcases from_or ci zs (i + 1) with ⟨k, hk, h1, h2⟩ | ⟨h1, h2⟩
      · refine .inl ⟨k + 1, by simpa using hk, by simpa using h1, ?_⟩
        simp only [Lib.idxByFrom, h, decide_false, Bool.false_eq_true, if_false]
        rw [h2]; congr 1; omega
      · refine .inr ⟨fun v hv => ?_, ?_⟩
        · rcases List.mem_cons.1 hv with rfl | hv
          · exact h
          · exact h1 v hv
        · simp only [Lib.idxByFrom, h, decide_false, Bool.false_eq_true, if_false]
          exact h2
theorem at_or (ci : Int) (a : List ValT) : (∃ (k : Nat) (h : k < a.length), a[k].id = ci ∧ atV ci a = (k : Int)) ∨ ((∀ v ∈ a, v.id ≠ ci) ∧ atV ci a = -1) := by
  unfold atV Lib.idxBy
  rw [List.take_length]
  have := from_or ci a 0
  simpa using this
theorem pred_at (ci : Int) (B : Nat) (w : World) (hB : B < w.heap.size) (hcell : w.cell? ⟨B, 0, none⟩ = some (.int .i64 ci)) :
    PredBelow Try.prog 17 #[.pointer (some ⟨B, 0, none⟩)] (fun x => .agg (encV x).toArray) (fun x => decide (x.id = ci)) w := fun W x hb => by
  have hc : W.cell? ⟨B, 0, none⟩ = some (.int .i64 ci) := (hb.cell (p := ⟨B, 0, none⟩) hB).trans hcell
  have hBW : B < W.heap.size := Nat.lt_of_lt_of_le hB hb.size
  have hne : B ≠ W.heap.size := by omega
  show Calls Try.prog 17 #[.agg #[.int .i64 x.id, .int .i64 x.power], .pointer (some ⟨B, 0, none⟩)] W _
  by_cases h : x.id = ci
  all_goals
    go_enter Try.func17, Try.ntmps17
    go_wp2
    go_ret
    exact ⟨by simp [h], hb.alloc hb.size _⟩
theorem indexVals {base g cap B : Nat} {ci : Int} {a : List ValT} {w : World} (h : w.ownsRow base 34 2 (.slice (some ⟨g, 0, none⟩) a.length cap) a.length (vcells a)) (hsz : a.length ≤ 9223372036854775807) (hB : B < w.heap.size) (hcell : w.cell? ⟨B, 0, none⟩ = some (.int .i64 ci)) :
    Calls Try.prog 16 #[.slice (some ⟨g, 0, none⟩) a.length cap, .func (.func 17) #[] #[.pointer (some ⟨B, 0, none⟩)]] w fun e w' => e = .returned (.int .i64 (atV ci a)) ∧ Below w.heap.size w w' := by
  have eg : ∀ args w, (callFunc 17 args).run Try.prog w = .ok (.enter 17 args) w := enters_of Try.func17 (by kernel_rfl) rfl
  have hcon := AnyQ.slices_IndexFunc laysIdxF 2 Try.isAgg34 Try.sizeOf34 encV (fun _ => rfl) (fun x => decide (x.id = ci)) 17 #[.pointer (some ⟨B, 0, none⟩)] eg g 0 a.length cap a w
    (pred_at ci B w hB hcell) (Nat.le_refl _) hsz (h.lt g rfl).2 (fun j hj i v hi => by
      have hc := vcells_at a j hj
      have e : a[j]! = a[j] := getElem!_pos a j hj
      rw [e] at hi
      match i, hi with
      | 0, hi => simp [encV] at hi; rw [← hi, Nat.zero_add]; exact (h.cellAt (j * 2) (by omega)).trans hc.1
      | 1, hi => simp [encV] at hi; rw [← hi, Nat.zero_add]; exact (h.cellAt (j * 2 + 1) (by omega)).trans hc.2
      | i + 2, hi => simp [encV] at hi)
  exact Calls.mono hcon fun e w' hh => hh
end Go.Proofs.Ytnmgecaflildoaa
