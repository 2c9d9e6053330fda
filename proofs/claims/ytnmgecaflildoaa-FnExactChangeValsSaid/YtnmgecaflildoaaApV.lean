/-
  append of one slice of validators behind another.
-/
import Derived.Test.YtnmgecaflildoaaVal0
import Derived.Test.YtnmgecaflildoaaOwn0
import Derived.Laws.AppendOwnNone
import Derived.Laws.OwnMore
import Derived.Maps.AppendAt
namespace Go.Proofs.Ytnmgecaflildoaa
open Go.ChangeShapes Go.WideShapes Go.ChangeAt Go.RowKit
set_option linter.unusedVariables false
set_option linter.unusedSimpArgs false
set_option maxRecDepth 100000

theorem vcells_len (l : List ValT) : (vcells l).length = l.length * 2 := by
  induction l with
  | nil => rfl
  | cons x t ih => rw [vcells_cons, List.length_cons, List.length_cons, ih, List.length_cons]; omega
theorem vcells_get {w : World} {b off : Nat} {l : List ValT} (hc : ∀ (j : Nat) (h : j < l.length), w.cell? ⟨b, off + j * 2, none⟩ = some (.int .i64 l[j].id) ∧ w.cell? ⟨b, off + j * 2 + 1, none⟩ = some (.int .i64 l[j].power)) (j : Nat) (u : Value) (hj : (vcells l)[j]? = some u) : w.cell? ((⟨b, off, none⟩ : Addr).add j) = some u := by
  have e : (⟨b, off, none⟩ : Addr).add j = ⟨b, off + j, none⟩ := by unfold Addr.add; split <;> simp_all
  rw [e]
  have hlt := (List.getElem?_eq_some_iff.1 hj).1
  rw [vcells_len] at hlt
  have hk : j / 2 < l.length := by omega
  have h1 := vcells_at l (j / 2) hk
  have h2 := hc (j / 2) hk
  rcases Nat.mod_two_eq_zero_or_one j with h0 | h0
  · have ej : j / 2 * 2 = j := by omega
    rw [ej] at h1 h2
    rw [h1.1] at hj; cases hj
    exact h2.1
  · have ej : j / 2 * 2 + 1 = j := by omega
    rw [Nat.add_assoc, ej] at h2
    rw [ej] at h1
    rw [h1.2] at hj; cases hj
    exact h2.2
theorem vcells_cell (l : List ValT) : ∀ u ∈ vcells l, u.oneCell' = true := by
  induction l with
  | nil => intro u hu; cases hu
  | cons x t ih =>
    intro u hu
    rw [vcells_cons, List.mem_cons, List.mem_cons] at hu
    rcases hu with rfl | rfl | hu
    · rfl
    · rfl
    · exact ih u hu
/-- append(out, l...) of validators, one step. -/
theorem wp_app_vals {P : Program} {o : Oper} {a : Act} {K : Act → World → Prop} {Q : Exit → Act → World → Prop} (s x : Operand) (t : TypeId)
    (ho : o.op = .call { callee := .builtin .append, args := #[s, x], argTypes := #[t, t] })
    {w : World} {base : Nat} {e : TypeId} {i : TypeInfo} (ht : P.underlying t = some (.slice e)) (hi : P.info? e = some i) (hz : i.zero = some (.agg #[.int .i64 0, .int .i64 0])) (hsize : i.size = 2) (hby : i.bytes = 16)
    {v : Value} {n : Nat} {xs : List Value} (hs : a.eval s = v) (hown : w.ownsRow base e 2 v n xs) (hz0 : base ≤ w.heap.size)
    {A : Option Addr} {c : Nat} {ids : List ValT} (hx : a.eval x = .slice A ids.length c) (hI : VReads w w.heap.size A ids) (hn : A = none → c = 0) (hsm : n + ids.length ≤ 4000000)
    (h : ∀ v' w', w'.ownsRow base e 2 v' (n + ids.length) (xs ++ vcells ids) → w.grownBy w' v.ownBlock → (v'.ownBlock = v.ownBlock ∨ v'.ownBlock = some w.heap.size) → K (a.put o.dst v') w') :
    o.wp P a w K Q := by
  cases A with
  | none =>
    have h0 : ids = [] := by
      rcases Nat.eq_zero_or_pos ids.length with h | h
      · exact List.eq_nil_of_length_eq_zero h
      · obtain ⟨b, off, hA, _⟩ := hI h; cases hA
    subst h0
    have hrun := run_append_owned_none (P := P) (w := w) base t o.type e i 2 ht hi v n xs hown
    have hx' : a.eval x = .slice none 0 0 := by rw [hx, hn rfl]; rfl
    unfold Oper.wp
    simp [execOp, ho, resolve, invoke, builtin, hs, hx', hrun, Result.andThen]
    exact h v w (by simpa [vcells] using hown) (gb_of_below (Below.refl _ _)) (.inl rfl)
  | some ad =>
    have hnews : ∀ (j : Nat) (u : Value), (vcells ids)[j]? = some u → w.cell? (ad.add j) = some u := fun j u hj => by
      have hlt := (List.getElem?_eq_some_iff.1 hj).1
      rw [vcells_len] at hlt
      obtain ⟨b, off, hA, _, hc⟩ := hI (by omega)
      cases hA
      exact vcells_get hc j u hj
    obtain ⟨v', w', hr, h2, h3, _, h5⟩ := run_append_own_at (P := P) w base t o.type e i (.agg #[.int .i64 0, .int .i64 0]) 2 16 ht hi hz hsize hby rfl (by decide) v n xs hown ad ids.length c (vcells ids) (by rw [vcells_len]) hnews (vcells_cell ids) (by unfold maxLen; omega) (by omega) hz0
    unfold Oper.wp execOp
    simp only [ho, resolve, invoke, builtin, Sem.run_bind, Sem.run_pure, Result.andThen_ok, List.map_toArray, List.map_cons, List.map_nil, hs, hx, hr]
    exact h v' w' h2 h3 h5
/-- append(out, l...) of validators. -/
theorem app_vals {P : Program} {ops : Array Oper} {rest : List Oper} {o : Oper} {a : Act} {Q : Exit → Act → World → Prop} (hg : o.guard = none) (s x : Operand) (t : TypeId)
    (ho : o.op = .call { callee := .builtin .append, args := #[s, x], argTypes := #[t, t] })
    {w : World} {base : Nat} {e : TypeId} {i : TypeInfo} (ht : P.underlying t = some (.slice e)) (hi : P.info? e = some i) (hz : i.zero = some (.agg #[.int .i64 0, .int .i64 0])) (hsize : i.size = 2) (hby : i.bytes = 16)
    {v : Value} {n : Nat} {xs : List Value} (hs : a.eval s = v) (hown : w.ownsRow base e 2 v n xs) (hz0 : base ≤ w.heap.size)
    {A : Option Addr} {c : Nat} {ids : List ValT} (hx : a.eval x = .slice A ids.length c) (hI : VReads w w.heap.size A ids) (hn : A = none → c = 0) (hsm : n + ids.length ≤ 4000000)
    (h : ∀ v' w', w'.ownsRow base e 2 v' (n + ids.length) (xs ++ vcells ids) → Below base w w' → w.grownBy w' v.ownBlock → (v'.ownBlock = v.ownBlock ∨ v'.ownBlock = some w.heap.size) → wpList P ops Q rest (a.put o.dst v') w') :
    wpList P ops Q (o :: rest) a w :=
  wpList_plain hg fun _ hK => wp_app_vals s x t ho ht hi hz hsize hby hs hown hz0 hx hI hn hsm fun v' w' h1 h2 h5 => hK _ _ (h v' w' h1 ((Below.refl base w).grown h2 (by omega) (fun k hk => (hown.lt k hk).1)) h2 h5)
end Go.Proofs.Ytnmgecaflildoaa
