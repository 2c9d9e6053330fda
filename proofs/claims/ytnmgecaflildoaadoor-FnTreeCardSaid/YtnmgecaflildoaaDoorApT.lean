/-
  append of one slice of texts behind another; plain laws of the tree.
-/
import Derived.Test.YtnmgecaflildoaaDoorOwnT
import Derived.Test.YtnmgecaflildoaaDoorTree0
import Derived.Laws.AppendOwnNone
import Derived.Laws.OwnMore
namespace Go.Proofs.YtnmgecaflildoaaDoor
open Go.ChangeShapes Go.WideShapes Go.ChangeAt Go.RowKit
set_option linter.unusedVariables false
set_option linter.unusedSimpArgs false
set_option maxRecDepth 100000

/-- append(out, l...) of texts. -/
theorem app_texts {P : Program} {ops : Array Oper} {rest : List Oper} {o : Oper} {a : Act} {Q : Exit → Act → World → Prop} (hg : o.guard = none) (s x : Operand) (t : TypeId)
    (ho : o.op = .call { callee := .builtin .append, args := #[s, x], argTypes := #[t, t] })
    {w : World} {base : Nat} {e : TypeId} {i : TypeInfo} (ht : P.underlying t = some (.slice e)) (hi : P.info? e = some i) (hz : i.zero = some (.string ByteArray.empty)) (hsize : i.size = 1) (hby : i.bytes = 16)
    {v : Value} {n : Nat} {xs : List Value} (hs : a.eval s = v) (hown : w.ownsRow base e 1 v n xs) (hz0 : base ≤ w.heap.size)
    {A : Option Addr} {c : Nat} {ids : List (List UInt8)} (hx : a.eval x = .slice A ids.length c) (hI : TReads w w.heap.size A ids) (hn : A = none → c = 0) (hsm : n + ids.length ≤ 1000000)
    (h : ∀ v' w', w'.ownsRow base e 1 v' (n + ids.length) (xs ++ ids.map tv) → Below base w w' → wpList P ops Q rest (a.put o.dst v') w') :
    wpList P ops Q (o :: rest) a w := by
  cases A with
  | none =>
    have h0 : ids = [] := by
      rcases Nat.eq_zero_or_pos ids.length with h | h
      · exact List.eq_nil_of_length_eq_zero h
      · obtain ⟨b, off, hA, _⟩ := hI h; cases hA
    subst h0
    refine Go.wpList_append_own_none hg s x t ho base e i 1 ht hi v n xs hs hown (by rw [hx, hn rfl]; rfl) ?_
    exact h v w (by simpa using hown) (Below.refl _ _)
  | some ad =>
    refine wpList_append_own _ hg s x t ho base e i (.string ByteArray.empty) 1 16 ht hi hz hsize hby rfl (by decide) v n xs hs hown ad ids.length c (ids.map tv) hx (by simp) (fun j u hj => ?_) (fun u hu => ?_) (by unfold maxLen; omega) (by omega) hz0 (fun v' w' h1 h2 _ => h v' w' h1 ((Below.refl base w).grown h2 (by omega) (fun k hk => (hown.lt k hk).1)))
    · rw [List.getElem?_map] at hj
      rcases hl : ids[j]? with _ | y
      · rw [hl] at hj; cases hj
      · rw [hl] at hj
        obtain ⟨hj1, hj2⟩ := List.getElem?_eq_some_iff.1 hl
        obtain ⟨b, off, hA, _, hc⟩ := hI (by omega)
        cases hA
        have := hc j hj1
        rw [hj2] at this
        cases hj
        have e : (⟨b, off, none⟩ : Addr).add j = ⟨b, off + j, none⟩ := by unfold Addr.add; split <;> simp_all
        rw [e]
        exact this
    · simp only [List.mem_map] at hu
      obtain ⟨y, _, rfl⟩ := hu
      rfl
/-- One place of a row of the call's own, written. -/
theorem tree_x {w : World} {base : Nat} {e : TypeId} {v : Value} {L : List (List UInt8)} {k : Nat} (hk : k < L.length) (h : w.ownsRow base e 1 v (0 + L.length) ([] ++ L.map tv)) (u : List UInt8) :
    ∃ g cap, v = .slice (some ⟨g, 0, none⟩) L.length cap ∧ base ≤ g ∧ g < w.heap.size ∧ L.length ≤ cap ∧ cap ≤ 9223372036854775807 ∧ w.cell? ⟨g, k, none⟩ = some (.string (S L[k])) ∧ w.frozen? ⟨g, k, none⟩ = false ∧
      Hid (TReads (w.setCell ⟨g, k, none⟩ (.string (S u))) (w.setCell ⟨g, k, none⟩ (.string (S u))).heap.size (some ⟨g, 0, none⟩) (L.set k u)) := by
  simp only [Nat.zero_add, List.nil_append] at h
  obtain ⟨g, cap, rfl, hg0, hgl⟩ := h.form (by omega)
  have hc : L.length ≤ cap ∧ cap ≤ 9223372036854775807 := by
    rcases h.2 with ⟨h1, h2⟩ | ⟨g', cap', cur, h1, _, _, h4, h5, _⟩
    · simp at h1
    · simp only [Value.slice.injEq] at h1
      obtain ⟨_, _, rfl⟩ := h1
      exact ⟨h4, by unfold maxLen at h5; omega⟩
  have k0 := h.cellAt k (by omega)
  rw [List.getElem?_map, List.getElem?_eq_getElem hk] at k0
  have hs := (h.stored k (.string (S u))).1
  have he : (L.map tv).set k (.string (S u)) = (L.set k u).map tv := by rw [List.map_set]; rfl
  rw [he] at hs
  refine ⟨g, cap, rfl, hg0, hgl, hc.1, hc.2, k0, h.frozenAt k, ?_⟩
  have hl : (L.set k u).length = L.length := List.length_set
  rw [← hl] at hs
  exact TReads.of_own hs
theorem tree_inc {L : List (List UInt8)} {k : Nat} (h40 : L.length ≤ 40) (hk : k < L.length) : includesS (treeS L) L[k] (k : Int) (L.length : Int) (pathS L k) = true := by
  unfold includesS pathRootS
  rw [if_neg (by omega), Int.toNat_natCast, Int.toNat_natCast, up_path L.length L k (Nat.le_refl _) hk]
  simp
theorem tree_short {L : List (List UInt8)} {k : Nat} (h40 : L.length ≤ 40) (hk : k < L.length) (hp : 0 < (pathS L k).length) (root d : List UInt8) : includesS root d (k : Int) (L.length : Int) ((pathS L k).drop 1) = false := by
  unfold includesS pathRootS
  rw [if_neg (by omega), Int.toNat_natCast, Int.toNat_natCast]
  cases hu : upS (leafS d) k L.length ((pathS L k).drop 1) with
  | none => simp
  | some r =>
    have h1 := up_path L.length L k (Nat.le_refl _) hk
    have h2 := upS_len_eq (by omega) h1 hu
    simp at h2; omega
end Go.Proofs.YtnmgecaflildoaaDoor
