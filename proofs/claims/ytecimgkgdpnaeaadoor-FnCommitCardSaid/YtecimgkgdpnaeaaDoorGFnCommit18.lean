/-
  Texts of this proof, laid into one: Tree0.
-/
import Derived.Test.YtecimgkgdpnaeaaDoorGFnCommit15
/-
  Hash trees as plain functions: roots, paths, what follows from a path. No program in sight.
-/
namespace Go.Proofs.YtecimgkgdpnaeaaDoor
set_option linter.unusedVariables false
set_option linter.unusedSimpArgs false

/-! The greatest power of two below a number. -/
def splitF : Nat → Nat → Nat → Nat
  | 0, _, k => k
  | f + 1, n, k => if 2 * k < n then splitF f n (2 * k) else k
def splitN (n : Nat) : Nat := splitF n n 1
theorem splitF_bound (f : Nat) : ∀ n k, 1 ≤ k → k < n → 1 ≤ splitF f n k ∧ splitF f n k < n := by
  induction f with
  | zero => intro n k h1 h2; exact ⟨h1, h2⟩
  | succ f ih =>
    intro n k h1 h2
    rw [splitF]
    split
    · exact ih n (2 * k) (by omega) (by omega)
    · exact ⟨h1, h2⟩
theorem splitN_bound {n : Nat} (h : 2 ≤ n) : 1 ≤ splitN n ∧ splitN n < n := splitF_bound n n 1 (by omega) (by omega)
/-- What the loop knows. -/
def SplitAt (n k : Nat) : Prop := 1 ≤ k ∧ k < n ∧ ∃ f, n ≤ f + k ∧ splitF f n k = splitN n
theorem SplitAt.start {n : Nat} (h : 2 ≤ n) : SplitAt n 1 := ⟨by omega, by omega, n, by omega, rfl⟩
theorem SplitAt.step {n k : Nat} (h : SplitAt n k) (hk : 2 * k < n) : SplitAt n (2 * k) := by
  obtain ⟨h1, h2, f, hf, he⟩ := h
  cases f with
  | zero => omega
  | succ f => rw [splitF, if_pos hk] at he; exact ⟨by omega, hk, f, by omega, he⟩
theorem SplitAt.fin {n k : Nat} (h : SplitAt n k) (hk : ¬ 2 * k < n) : k = splitN n := by
  obtain ⟨h1, h2, f, hf, he⟩ := h
  cases f with
  | zero => exact he
  | succ f => rw [splitF, if_neg hk] at he; exact he

/-! Roots. -/
def leafS (d : List UInt8) : List UInt8 := shaS (0 :: d)
def nodeS (a b : List UInt8) : List UInt8 := shaS (1 :: (a ++ b))
@[simp] theorem leafS_len (d : List UInt8) : (leafS d).length = 32 := shaS_len _
@[simp] theorem nodeS_len (a b : List UInt8) : (nodeS a b).length = 32 := shaS_len _
def rootF : Nat → List (List UInt8) → List UInt8
  | 0, _ => shaS []
  | f + 1, l => if l.length = 0 then shaS [] else if l.length = 1 then leafS (l.getD 0 []) else nodeS (rootF f (l.take (splitN l.length))) (rootF f (l.drop (splitN l.length)))
def treeS (l : List (List UInt8)) : List UInt8 := rootF l.length l
theorem rootF_len (f : Nat) (l : List (List UInt8)) : (rootF f l).length = 32 := by
  cases f with
  | zero => simp [rootF]
  | succ f => rw [rootF]; split
              · simp
              · split <;> simp
@[simp] theorem treeS_len (l : List (List UInt8)) : (treeS l).length = 32 := rootF_len _ l
theorem rootF_more (f : Nat) : ∀ (g : Nat) (l : List (List UInt8)), l.length ≤ f → l.length ≤ g → rootF f l = rootF g l := by
  induction f with
  | zero =>
    intro g l hf hg
    cases g with
    | zero => rfl
    | succ g => rw [rootF, rootF, if_pos (by omega)]
  | succ f ih =>
    intro g l hf hg
    cases g with
    | zero => rw [rootF, rootF, if_pos (by omega)]
    | succ g =>
      rw [rootF, rootF]
      by_cases h0 : l.length = 0
      · rw [if_pos h0, if_pos h0]
      · by_cases h1 : l.length = 1
        · rw [if_neg h0, if_pos h1, if_neg h0, if_pos h1]
        · have hs := splitN_bound (n := l.length) (by omega)
          rw [if_neg h0, if_neg h1, if_neg h0, if_neg h1, ih g (l.take _) (by simp; omega) (by simp; omega), ih g (l.drop _) (by simp; omega) (by simp; omega)]
theorem treeS_nil : treeS [] = shaS [] := rfl
theorem treeS_one (x : List UInt8) : treeS [x] = leafS x := rfl
theorem treeS_node {l : List (List UInt8)} (h : 2 ≤ l.length) : treeS l = nodeS (treeS (l.take (splitN l.length))) (treeS (l.drop (splitN l.length))) := by
  have hs := splitN_bound (n := l.length) (by omega)
  obtain ⟨m, hm⟩ : ∃ m, l.length = m + 1 := ⟨l.length - 1, by omega⟩
  unfold treeS
  rw [hm, rootF, if_neg (by omega), if_neg (by omega), ← hm]
  rw [rootF_more m _ (l.take _) (by simp; omega) (Nat.le_refl _), rootF_more m _ (l.drop _) (by simp; omega) (Nat.le_refl _)]
/-- What TreeRoot returns. -/
def treeRootS (l : List (List UInt8)) : List UInt8 := if 40 < l.length then [] else treeS l

/-! Paths. -/
def pathF : Nat → List (List UInt8) → Nat → List (List UInt8)
  | 0, _, _ => []
  | f + 1, l, i => if l.length ≤ 1 then [] else
    if i < splitN l.length then pathF f (l.take (splitN l.length)) i ++ [treeS (l.drop (splitN l.length))]
    else pathF f (l.drop (splitN l.length)) (i - splitN l.length) ++ [treeS (l.take (splitN l.length))]
def pathS (l : List (List UInt8)) (i : Nat) : List (List UInt8) := pathF l.length l i
theorem pathF_more (f : Nat) : ∀ (g : Nat) (l : List (List UInt8)) (i : Nat), l.length ≤ f → l.length ≤ g → pathF f l i = pathF g l i := by
  induction f with
  | zero =>
    intro g l i hf hg
    cases g with
    | zero => rfl
    | succ g => rw [pathF, pathF, if_pos (by omega)]
  | succ f ih =>
    intro g l i hf hg
    cases g with
    | zero => rw [pathF, pathF, if_pos (by omega)]
    | succ g =>
      rw [pathF, pathF]
      by_cases h0 : l.length ≤ 1
      · rw [if_pos h0, if_pos h0]
      · have hs := splitN_bound (n := l.length) (by omega)
        rw [if_neg h0, if_neg h0, ih g (l.take _) _ (by simp; omega) (by simp; omega), ih g (l.drop _) _ (by simp; omega) (by simp; omega)]
theorem pathS_one {l : List (List UInt8)} (h : l.length ≤ 1) (i : Nat) : pathS l i = [] := by
  unfold pathS
  cases hl : l.length with
  | zero => rfl
  | succ m => rw [pathF, if_pos h]
theorem pathS_left {l : List (List UInt8)} {i : Nat} (h : 2 ≤ l.length) (hi : i < splitN l.length) : pathS l i = pathS (l.take (splitN l.length)) i ++ [treeS (l.drop (splitN l.length))] := by
  have hs := splitN_bound (n := l.length) (by omega)
  obtain ⟨m, hm⟩ : ∃ m, l.length = m + 1 := ⟨l.length - 1, by omega⟩
  unfold pathS
  rw [hm, pathF, if_neg (by omega), ← hm, if_pos hi, pathF_more m _ (l.take _) i (by simp; omega) (Nat.le_refl _)]
theorem pathS_right {l : List (List UInt8)} {i : Nat} (h : 2 ≤ l.length) (hi : ¬ i < splitN l.length) : pathS l i = pathS (l.drop (splitN l.length)) (i - splitN l.length) ++ [treeS (l.take (splitN l.length))] := by
  have hs := splitN_bound (n := l.length) (by omega)
  obtain ⟨m, hm⟩ : ∃ m, l.length = m + 1 := ⟨l.length - 1, by omega⟩
  unfold pathS
  rw [hm, pathF, if_neg (by omega), ← hm, if_neg hi, pathF_more m _ (l.drop _) _ (by simp; omega) (Nat.le_refl _)]
theorem pathF_all (f : Nat) : ∀ (l : List (List UInt8)) (i : Nat), (pathF f l i).length ≤ f ∧ ∀ x ∈ pathF f l i, x.length = 32 := by
  induction f with
  | zero => intro l i; simp [pathF]
  | succ f ih =>
    intro l i
    rw [pathF]
    split
    · simp
    · split
      · obtain ⟨h1, h2⟩ := ih (l.take (splitN l.length)) i
        refine ⟨by simp; omega, fun x hx => ?_⟩
        rcases List.mem_append.1 hx with hx | hx
        · exact h2 x hx
        · rw [List.mem_singleton.1 hx]; simp
      · obtain ⟨h1, h2⟩ := ih (l.drop (splitN l.length)) (i - splitN l.length)
        refine ⟨by simp; omega, fun x hx => ?_⟩
        rcases List.mem_append.1 hx with hx | hx
        · exact h2 x hx
        · rw [List.mem_singleton.1 hx]; simp
theorem pathS_len (l : List (List UInt8)) (i : Nat) : (pathS l i).length ≤ l.length := (pathF_all _ l i).1
theorem pathS_all (l : List (List UInt8)) (i : Nat) : ∀ x ∈ pathS l i, x.length = 32 := (pathF_all _ l i).2
/-- What TreePath returns. -/
def treePathS (l : List (List UInt8)) (i : Int) : List (List UInt8) := if 40 < l.length ∨ i < 0 ∨ (l.length : Int) ≤ i then [] else pathS l i.toNat

/-! What follows from a path. -/
def upF : Nat → List UInt8 → Nat → Nat → List (List UInt8) → Option (List UInt8)
  | 0, _, _, _, _ => none
  | f + 1, leaf, i, n, p => if n = 1 then (if p.length = 0 then some leaf else none) else if p.length = 0 then none else
    if i < splitN n then (upF f leaf i (splitN n) (p.take (p.length - 1))).map (nodeS · (p.getD (p.length - 1) []))
    else (upF f leaf (i - splitN n) (n - splitN n) (p.take (p.length - 1))).map (nodeS (p.getD (p.length - 1) []) ·)
def upS (leaf : List UInt8) (i n : Nat) (p : List (List UInt8)) : Option (List UInt8) := upF n leaf i n p
theorem upF_more (f : Nat) : ∀ (g : Nat) (leaf : List UInt8) (i n : Nat) (p : List (List UInt8)), 1 ≤ n → n ≤ f → n ≤ g → upF f leaf i n p = upF g leaf i n p := by
  induction f with
  | zero => intro g leaf i n p h1 hf hg; omega
  | succ f ih =>
    intro g leaf i n p h1 hf hg
    cases g with
    | zero => omega
    | succ g =>
      rw [upF, upF]
      by_cases h0 : n = 1
      · rw [if_pos h0, if_pos h0]
      · have hs := splitN_bound (n := n) (by omega)
        rw [if_neg h0, if_neg h0, ih g leaf i (splitN n) _ (by omega) (by omega) (by omega), ih g leaf _ (n - splitN n) _ (by omega) (by omega) (by omega)]
theorem upS_one (leaf : List UInt8) (i : Nat) (p : List (List UInt8)) : upS leaf i 1 p = if p.length = 0 then some leaf else none := rfl
theorem upS_none {n : Nat} (h : 2 ≤ n) (leaf : List UInt8) (i : Nat) : upS leaf i n [] = none := by
  obtain ⟨m, rfl⟩ : ∃ m, n = m + 1 := ⟨n - 1, by omega⟩
  unfold upS
  rw [upF, if_neg (by omega)]; simp
theorem upS_left {n i : Nat} {p : List (List UInt8)} (h : 2 ≤ n) (hp : 0 < p.length) (hi : i < splitN n) (leaf : List UInt8) : upS leaf i n p = (upS leaf i (splitN n) (p.take (p.length - 1))).map (nodeS · (p.getD (p.length - 1) [])) := by
  have hs := splitN_bound (n := n) (by omega)
  unfold upS
  obtain ⟨m, rfl⟩ : ∃ m, n = m + 1 := ⟨n - 1, by omega⟩
  rw [upF, if_neg (by omega), if_neg (by omega), if_pos hi, upF_more m _ leaf i _ _ (by omega) (by omega) (Nat.le_refl _)]
theorem upS_right {n i : Nat} {p : List (List UInt8)} (h : 2 ≤ n) (hp : 0 < p.length) (hi : ¬ i < splitN n) (leaf : List UInt8) : upS leaf i n p = (upS leaf (i - splitN n) (n - splitN n) (p.take (p.length - 1))).map (nodeS (p.getD (p.length - 1) []) ·) := by
  have hs := splitN_bound (n := n) (by omega)
  unfold upS
  obtain ⟨m, rfl⟩ : ∃ m, n = m + 1 := ⟨n - 1, by omega⟩
  rw [upF, if_neg (by omega), if_neg (by omega), if_neg hi, upF_more m _ leaf _ _ _ (by omega) (by omega) (Nat.le_refl _)]
/-- What PathRoot returns. -/
def pathRootS (leaf : List UInt8) (i n : Int) (p : List (List UInt8)) : List UInt8 × Bool :=
  if i < 0 ∨ n ≤ i ∨ 40 < n then ([], false) else match upS leaf i.toNat n.toNat p with
    | some r => (r, true)
    | none => ([], false)
/-- What Includes returns. -/
def includesS (root d : List UInt8) (i n : Int) (p : List (List UInt8)) : Bool := (pathRootS (leafS d) i n p).2 && (pathRootS (leafS d) i n p).1 == root
theorem upF_len (f : Nat) : ∀ (leaf : List UInt8) (i n : Nat) (p : List (List UInt8)) (r : List UInt8), upF f leaf i n p = some r → r.length ≤ leaf.length + 32 := by
  induction f with
  | zero => intro leaf i n p r h; simp [upF] at h
  | succ f ih =>
    intro leaf i n p r h
    rw [upF] at h
    by_cases h0 : n = 1
    · rw [if_pos h0] at h
      by_cases h1 : p.length = 0
      · rw [if_pos h1] at h; cases h; omega
      · rw [if_neg h1] at h; cases h
    · rw [if_neg h0] at h
      by_cases h1 : p.length = 0
      · rw [if_pos h1] at h; cases h
      · rw [if_neg h1] at h
        by_cases h2 : i < splitN n
        · rw [if_pos h2] at h
          obtain ⟨y, _, rfl⟩ := Option.map_eq_some_iff.1 h
          simp
        · rw [if_neg h2] at h
          obtain ⟨y, _, rfl⟩ := Option.map_eq_some_iff.1 h
          simp
/-- Each leaf is proved by its path. -/
theorem up_path (f : Nat) : ∀ (l : List (List UInt8)) (i : Nat), l.length ≤ f → (h : i < l.length) → upS (leafS l[i]) i l.length (pathS l i) = some (treeS l) := by
  induction f with
  | zero => intro l i hf h; omega
  | succ f ih =>
    intro l i hf h
    by_cases h1 : l.length = 1
    · rw [pathS_one (by omega), h1, upS_one]
      match l, h1 with
      | [x], _ =>
        obtain rfl : i = 0 := by simp at h; omega
        rfl
    · have hs := splitN_bound (n := l.length) (by omega)
      by_cases hi : i < splitN l.length
      · rw [pathS_left (by omega) hi, upS_left (by omega) (by simp) hi]
        have hl : (l.take (splitN l.length)).length = splitN l.length := by simp; omega
        have := ih (l.take (splitN l.length)) i (by omega) (by omega)
        simp only [List.getElem_take, hl] at this
        rw [List.length_append, List.length_singleton, Nat.add_sub_cancel, List.take_left', this, treeS_node (l := l) (by omega)]
        · simp [List.getD]
        · rfl
      · rw [pathS_right (by omega) hi, upS_right (by omega) (by simp) hi]
        have hl : (l.drop (splitN l.length)).length = l.length - splitN l.length := by simp
        have := ih (l.drop (splitN l.length)) (i - splitN l.length) (by omega) (by omega)
        have e : splitN l.length + (i - splitN l.length) = i := by omega
        simp only [List.getElem_drop, hl, e] at this
        rw [List.length_append, List.length_singleton, Nat.add_sub_cancel, List.take_left', this, treeS_node (l := l) (by omega)]
        · simp [List.getD]
        · rfl
/-- A path has one length alone. -/
def depthF : Nat → Nat → Nat → Nat
  | 0, _, _ => 0
  | f + 1, i, n => if n ≤ 1 then 0 else if i < splitN n then depthF f i (splitN n) + 1 else depthF f (i - splitN n) (n - splitN n) + 1
theorem upF_depth (f : Nat) : ∀ (leaf : List UInt8) (i n : Nat) (p : List (List UInt8)) (r : List UInt8), 1 ≤ n → upF f leaf i n p = some r → p.length = depthF f i n := by
  induction f with
  | zero => intro leaf i n p r _ h; simp [upF] at h
  | succ f ih =>
    intro leaf i n p r hn h
    rw [upF] at h
    rw [depthF]
    by_cases h0 : n = 1
    · rw [if_pos h0] at h
      rw [if_pos (by omega)]
      by_cases h1 : p.length = 0
      · exact h1
      · rw [if_neg h1] at h; cases h
    · have hs := splitN_bound (n := n) (by omega)
      rw [if_neg h0] at h
      rw [if_neg (by omega)]
      by_cases h1 : p.length = 0
      · rw [if_pos h1] at h; cases h
      · rw [if_neg h1] at h
        by_cases h2 : i < splitN n
        · rw [if_pos h2] at h ⊢
          obtain ⟨y, hy, rfl⟩ := Option.map_eq_some_iff.1 h
          have := ih leaf i (splitN n) _ y (by omega) hy
          simp at this; omega
        · rw [if_neg h2] at h ⊢
          obtain ⟨y, hy, rfl⟩ := Option.map_eq_some_iff.1 h
          have := ih leaf _ (n - splitN n) _ y (by omega) hy
          simp at this; omega
theorem upS_len_eq {leaf leaf' : List UInt8} {i n : Nat} {p p' : List (List UInt8)} {r r' : List UInt8} (hn : 1 ≤ n) (h : upS leaf i n p = some r) (h' : upS leaf' i n p' = some r') : p.length = p'.length :=
  (upF_depth n leaf i n p r hn h).trans (upF_depth n leaf' i n p' r' hn h').symm
end Go.Proofs.YtecimgkgdpnaeaaDoor
