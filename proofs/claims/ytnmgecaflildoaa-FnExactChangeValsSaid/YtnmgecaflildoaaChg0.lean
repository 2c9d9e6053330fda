/-
  Validators changed: what both sides compute. No program in sight.
-/
import Derived.Test.YtnmgecaflildoaaVal0
namespace Go.Proofs.Ytnmgecaflildoaa
set_option linter.unusedVariables false
set_option linter.unusedSimpArgs false

/-- One round of the reference's loop: what is out, whether the change was put, whether its number was there. -/
def chStep (c : ValT) (s : List ValT × Bool × Bool) (v : ValT) : List ValT × Bool × Bool :=
  let o := if !s.2.1 && decide (c.id ≤ v.id) then (s.1 ++ [c], true) else (s.1, s.2.1)
  if v.id = c.id then (o.1, o.2, true) else (o.1 ++ [v], o.2, s.2.2)
def chAt (l : List ValT) (c : ValT) (k : Nat) : List ValT × Bool × Bool := (l.take k).foldl (chStep c) ([], decide (c.power = 0), false)
theorem chAt_zero (l : List ValT) (c : ValT) : chAt l c 0 = ([], decide (c.power = 0), false) := by simp [chAt]
theorem chAt_succ (l : List ValT) (c : ValT) (k : Nat) (h : k < l.length) : chAt l c (k + 1) = chStep c (chAt l c k) l[k] := by
  unfold chAt; rw [List.take_succ_eq_append_getElem h, List.foldl_append]; rfl
theorem chStep_len (c : ValT) (s : List ValT × Bool × Bool) (v : ValT) : (chStep c s v).1.length ≤ s.1.length + 2 := by
  unfold chStep
  simp only
  split <;> split <;> simp
theorem chAt_len (l : List ValT) (c : ValT) : ∀ k, k ≤ l.length → (chAt l c k).1.length ≤ 2 * k := by
  intro k
  induction k with
  | zero => intro _; rw [chAt_zero]; simp
  | succ k ih =>
    intro hk
    rw [chAt_succ l c k (by omega)]
    have h1 := ih (by omega)
    have h2 := chStep_len c (chAt l c k) l[k]
    omega
def chFin (c : ValT) (s : List ValT × Bool × Bool) : List ValT × Bool := (if s.2.1 then s.1 else s.1 ++ [c], s.2.2)
theorem chFin_put (c : ValT) (a : List ValT) (b : Bool) : chFin c (a, true, b) = (a, b) := rfl
/-- What l6Change returns. -/
def chS (l : List ValT) (c : ValT) : List ValT × Bool :=
  ((chFin c (chAt l c l.length)).1, (chFin c (chAt l c l.length)).2 || decide (c.power ≠ 0))
/-- What the reference's loop holds behind k changes: none where one did not fit. -/
def chRun (l : List ValT) (cs : List ValT) : Option (List ValT) :=
  cs.foldl (fun o c => o.bind fun b => if (chS b c).2 then some (chS b c).1 else none) (some l)
/-- What ChangeVals returns. -/
def changeS (l : List ValT) (cs : List ValT) : List ValT × Bool :=
  if valsOkB l then (match chRun l cs with | none => (l, false) | some b => if valsOkB b then (b, true) else (l, false)) else (l, false)

/-! The change, said straight. -/
def ne (c v : ValT) : Bool := decide (v.id ≠ c.id)
def insS (c : ValT) : List ValT → List ValT
  | [] => [c]
  | v :: t => if c.id ≤ v.id then c :: (if v.id = c.id then [] else [v]) ++ t.filter (ne c) else v :: insS c t
def hasId (c : ValT) (l : List ValT) : Bool := l.any fun v => decide (v.id = c.id)
theorem fold_put (c : ValT) : ∀ (l out : List ValT) (was : Bool), l.foldl (chStep c) (out, true, was) = (out ++ l.filter (ne c), true, was || hasId c l)
  | [], out, was => by simp [hasId]
  | v :: t, out, was => by
    rw [List.foldl_cons]
    by_cases h : v.id = c.id
    · have e : chStep c (out, true, was) v = (out, true, true) := by simp [chStep, h]
      rw [e, fold_put c t]
      simp [ne, hasId, h]
    · have e : chStep c (out, true, was) v = (out ++ [v], true, was) := by simp [chStep, h]
      rw [e, fold_put c t]
      simp [ne, hasId, h]
theorem fold_ins (c : ValT) : ∀ (l out : List ValT) (was : Bool), chFin c (l.foldl (chStep c) (out, false, was)) = (out ++ insS c l, was || hasId c l)
  | [], out, was => by simp [insS, hasId, chFin]
  | v :: t, out, was => by
    rw [List.foldl_cons]
    by_cases h1 : c.id ≤ v.id
    · by_cases h : v.id = c.id
      · have e : chStep c (out, false, was) v = (out ++ [c], true, true) := by simp [chStep, h]
        rw [e, fold_put c t, chFin_put]
        simp [insS, hasId, h]
      · have e : chStep c (out, false, was) v = (out ++ [c] ++ [v], true, was) := by simp [chStep, h, h1]
        rw [e, fold_put c t, chFin_put]
        simp [insS, hasId, h, h1]
    · have h : ¬ v.id = c.id := by omega
      have e : chStep c (out, false, was) v = (out ++ [v], false, was) := by simp [chStep, h, h1]
      rw [e, fold_ins c t (out ++ [v]) was]
      simp [insS, hasId, h, h1]
theorem chS_is (l : List ValT) (c : ValT) : chS l c = (if c.power = 0 then l.filter (ne c) else insS c l, hasId c l || decide (c.power ≠ 0)) := by
  unfold chS chAt
  rw [List.take_length]
  by_cases h : c.power = 0
  · rw [decide_eq_true h, fold_put c l, chFin_put]
    simp [h]
  · rw [decide_eq_false h, fold_ins c l [] false]
    simp [h]

/-! Ascending lists. -/
def Asc (l : List ValT) : Prop := l.Pairwise fun a b => a.id < b.id
theorem asc_filter {l : List ValT} (h : Asc l) (p : ValT → Bool) : Asc (l.filter p) := List.Pairwise.filter p h
theorem insS_mem (c : ValT) : ∀ (l : List ValT) (y : ValT), y ∈ insS c l → y = c ∨ y ∈ l
  | [], y, h => by simp [insS] at h; exact .inl h
  | v :: t, y, h => by
    unfold insS at h
    by_cases h1 : c.id ≤ v.id
    · rw [if_pos h1] at h
      simp only [List.cons_append, List.mem_cons, List.mem_append, List.mem_filter] at h
      rcases h with h | h | h
      · exact .inl h
      · by_cases h2 : v.id = c.id
        · rw [if_pos h2] at h; cases h
        · rw [if_neg h2] at h; simp at h; exact .inr (by rw [h]; exact List.mem_cons_self ..)
      · exact .inr (List.mem_cons_of_mem _ h.1)
    · rw [if_neg h1] at h
      rcases List.mem_cons.1 h with h | h
      · exact .inr (by rw [h]; exact List.mem_cons_self ..)
      · rcases insS_mem c t y h with h | h
        · exact .inl h
        · exact .inr (List.mem_cons_of_mem _ h)
theorem insS_asc (c : ValT) : ∀ (l : List ValT), Asc l → Asc (insS c l)
  | [], _ => by simp [insS, Asc]
  | v :: t, h => by
    have h' := List.pairwise_cons.1 h
    unfold insS
    by_cases h1 : c.id ≤ v.id
    · rw [if_pos h1]
      have hf : ∀ y ∈ t.filter (ne c), c.id < y.id := fun y hy => by
        have := h'.1 y (List.mem_filter.1 hy).1
        omega
      by_cases h2 : v.id = c.id
      · rw [if_pos h2]
        exact List.pairwise_cons.2 ⟨hf, List.Pairwise.filter _ h'.2⟩
      · rw [if_neg h2]
        refine List.pairwise_cons.2 ⟨fun y hy => ?_, List.pairwise_cons.2 ⟨fun y hy => h'.1 y (List.mem_filter.1 hy).1, List.Pairwise.filter _ h'.2⟩⟩
        rcases List.mem_cons.1 hy with rfl | hy
        · omega
        · exact hf y hy
    · rw [if_neg h1]
      refine List.pairwise_cons.2 ⟨fun y hy => ?_, insS_asc c t h'.2⟩
      rcases insS_mem c t y hy with rfl | hy
      · omega
      · exact h'.1 y hy
theorem insS_perm (c : ValT) : ∀ (l : List ValT), Asc l → (insS c l).Perm (c :: l.filter (ne c))
  | [], _ => by simp [insS]
  | v :: t, h => by
    have h' := List.pairwise_cons.1 h
    unfold insS
    by_cases h1 : c.id ≤ v.id
    · rw [if_pos h1]
      by_cases h2 : v.id = c.id
      · rw [if_pos h2, List.filter_cons, show ne c v = false from by simp [ne, h2]]
        exact List.Perm.refl _
      · rw [if_neg h2, List.filter_cons, show ne c v = true from by simp [ne, h2]]
        exact List.Perm.refl _
    · rw [if_neg h1, List.filter_cons, show ne c v = true from by simp [ne]; omega, if_pos rfl]
      exact ((insS_perm c t h'.2).cons v).trans (List.Perm.swap ..)
/-- Two ascending lists of the same elements are one. -/
theorem asc_eq : ∀ (a b : List ValT), Asc a → Asc b → a.Perm b → a = b
  | [], b, _, _, hp => (List.Perm.nil_eq hp)
  | x :: s, [], _, _, hp => (List.Perm.eq_nil hp)
  | x :: s, y :: t, ha, hb, hp => by
    have ha' := List.pairwise_cons.1 ha
    have hb' := List.pairwise_cons.1 hb
    have hx : x ∈ y :: t := hp.subset (List.mem_cons_self ..)
    have hy : y ∈ x :: s := hp.symm.subset (List.mem_cons_self ..)
    have e : x = y := by
      rcases List.mem_cons.1 hx with h | h
      · exact h
      · rcases List.mem_cons.1 hy with h2 | h2
        · exact h2.symm
        · have h3 := hb'.1 x h
          have h4 := ha'.1 y h2
          omega
    subst e
    rw [asc_eq s t ha'.2 hb'.2 (List.Perm.cons_inv hp)]

/-! The program's list: the same elements, in whatever order. -/
/-- What the program holds against what the reference holds. -/
def Rel (a b : List ValT) : Prop := Asc b ∧ a.Perm b
theorem rel_ids {a b : List ValT} (h : Rel a b) : a.Pairwise fun x y => x.id ≠ y.id := by
  refine (h.2.symm.pairwise ?_ fun hxy => ?_)
  · exact h.1.imp fun h => by omega
  · exact fun e => hxy e.symm
theorem hasId_perm (c : ValT) {a b : List ValT} (h : a.Perm b) : hasId c a = hasId c b := by
  unfold hasId
  rw [Bool.eq_iff_iff, List.any_eq_true, List.any_eq_true]
  constructor
  · rintro ⟨x, hx, h1⟩; exact ⟨x, h.subset hx, h1⟩
  · rintro ⟨x, hx, h1⟩; exact ⟨x, h.symm.subset hx, h1⟩
theorem filter_none {c : ValT} {l : List ValT} (h : ∀ v ∈ l, v.id ≠ c.id) : l.filter (ne c) = l := by
  rw [List.filter_eq_self]
  intro v hv
  simp [ne, h v hv]
/-- The first place of the number: what is not there. -/
theorem cut_at {c : ValT} {a b : List ValT} {k : Nat} (h : Rel a b) (hk : k < a.length) (he : a[k].id = c.id) : a.filter (ne c) = a.take k ++ a.drop (k + 1) := by
  have hd := rel_ids h
  have e : a = a.take k ++ a[k] :: a.drop (k + 1) := by rw [List.getElem_cons_drop, List.take_append_drop]
  rw [e, List.pairwise_append] at hd
  obtain ⟨_, h2, h3⟩ := hd
  have h2' := List.pairwise_cons.1 h2
  have f1 : (a.take k).filter (ne c) = a.take k := filter_none fun v hv => by rw [← he]; exact h3 v hv _ (List.mem_cons_self ..)
  have f2 : (a.drop (k + 1)).filter (ne c) = a.drop (k + 1) := filter_none fun v hv => by rw [← he]; exact fun e => h2'.1 v hv e.symm
  conv => lhs; rw [e]
  rw [List.filter_append, f1, List.filter_cons, show ne c a[k] = false from by simp [ne, he], f2]
  rfl
theorem rel_del {c : ValT} {a b : List ValT} {k : Nat} (h : Rel a b) (hp : c.power = 0) (hk : k < a.length) (he : a[k].id = c.id) : (chS b c).2 = true ∧ Rel (a.take k ++ a.drop (k + 1)) (chS b c).1 := by
  rw [chS_is, if_pos hp]
  refine ⟨?_, asc_filter h.1 _, ?_⟩
  · simp only
    rw [← hasId_perm c h.2]
    have : hasId c a = true := List.any_eq_true.2 ⟨a[k], List.getElem_mem _, by simp [he]⟩
    rw [this]; rfl
  · rw [← cut_at h hk he]
    exact h.2.filter _
theorem rel_set {c : ValT} {a b : List ValT} {k : Nat} (h : Rel a b) (hp : c.power ≠ 0) (hk : k < a.length) (he : a[k].id = c.id) : (chS b c).2 = true ∧ Rel (a.set k ⟨a[k].id, c.power⟩) (chS b c).1 := by
  rw [chS_is, if_neg hp]
  refine ⟨by simp [hp], insS_asc c b h.1, ?_⟩
  have e : (⟨a[k].id, c.power⟩ : ValT) = c := by rw [he]
  rw [e, List.set_eq_take_append_cons_drop, if_pos hk]
  refine List.Perm.trans ?_ (insS_perm c b h.1).symm
  refine List.perm_middle.trans (List.Perm.cons c ?_)
  rw [← cut_at h hk he]
  exact h.2.filter _
theorem rel_add {c : ValT} {a b : List ValT} (h : Rel a b) (hp : c.power ≠ 0) (hn : ∀ v ∈ a, v.id ≠ c.id) : (chS b c).2 = true ∧ Rel (a ++ [c]) (chS b c).1 := by
  rw [chS_is, if_neg hp]
  refine ⟨by simp [hp], insS_asc c b h.1, ?_⟩
  refine List.Perm.trans ?_ (insS_perm c b h.1).symm
  rw [filter_none fun v hv => hn v (h.2.symm.subset hv)]
  exact List.perm_append_comm.trans (h.2.cons c)
theorem rel_no {c : ValT} {a b : List ValT} (h : Rel a b) (hp : c.power = 0) (hn : ∀ v ∈ a, v.id ≠ c.id) : (chS b c).2 = false := by
  rw [chS_is]
  simp only
  rw [← hasId_perm c h.2]
  have : hasId c a = false := by
    unfold hasId
    rw [List.any_eq_false]
    intro v hv
    simpa using hn v hv
  rw [this]; simp [hp]
theorem asc_of_ok {l : List ValT} (h : valsOkB l = true) : Asc l := by
  rw [valsOkB, Bool.and_eq_true] at h
  have key : ∀ (l : List ValT) (p : Int), ascOk p l = true → Asc l ∧ ∀ v ∈ l, p < v.id := by
    intro l
    induction l with
    | nil => intro p _; exact ⟨List.Pairwise.nil, fun v hv => by cases hv⟩
    | cons x t ih =>
      intro p hp
      rw [ascOk, Bool.and_eq_true, Bool.and_eq_true, decide_eq_true_eq] at hp
      obtain ⟨h1, h2⟩ := ih x.id hp.2.2
      refine ⟨List.pairwise_cons.2 ⟨h2, h1⟩, fun v hv => ?_⟩
      rcases List.mem_cons.1 hv with rfl | hv
      · exact hp.2.1
      · have := h2 v hv; have := hp.2.1; omega
  exact (key l 0 h.2).1
/-- Sorted by number, without two of one number: the reference's list. -/
theorem rel_sorted {a b d : List ValT} (h : Rel a b) (hp : d.Perm a) (hs : d.Pairwise fun x y => ¬ y.id < x.id) : d = b := by
  refine asc_eq d b ?_ h.1 (hp.trans h.2)
  have hd : d.Pairwise fun x y => x.id ≠ y.id := hp.symm.pairwise (rel_ids h) (fun hxy e => hxy e.symm)
  exact (List.pairwise_and_iff.2 ⟨hs, hd⟩).imp fun h => by omega
theorem chS_len (l : List ValT) (c : ValT) : (chS l c).1.length ≤ l.length + 1 := by
  rw [chS_is]
  simp only
  have hf : ∀ t : List ValT, (t.filter (ne c)).length ≤ t.length := fun t => List.length_filter_le _ _
  have hi : ∀ t : List ValT, (insS c t).length ≤ t.length + 1 := by
    intro t
    induction t with
    | nil => simp [insS]
    | cons v t ih =>
      unfold insS
      have := hf t
      by_cases h1 : c.id ≤ v.id
      · rw [if_pos h1]
        by_cases h2 : v.id = c.id <;> simp [h2] <;> omega
      · rw [if_neg h1]; simp; exact ih
  split
  · have := hf l; omega
  · exact hi l
end Go.Proofs.Ytnmgecaflildoaa
