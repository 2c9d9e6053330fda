/-
  Worlds in which one block alone has turned. No program in sight.
-/
import Derived.Test.YtnmgecaflildoaaBase
import Derived.Test.YtnmgecaflildoaaOwn0
namespace Go.Proofs.Ytnmgecaflildoaa
open Go.ChangeShapes Go.WideShapes Go.ChangeAt Go.RowKit
set_option linter.unusedVariables false

theorem S_cut (l : List UInt8) (a b : Nat) : (S l).extract a b = S ((l.drop a).take (b - a)) := by
  unfold S
  simp [ByteArray.extract_mk]
/-- But for block B all is as it was. -/
def But (B : Nat) (w w' : World) : Prop := w.grownBy w' (some B)
theorem But.below {B k : Nat} {w w' : World} (h : But B w w') (hk : k ≤ B) (hs : k ≤ w.heap.size) : Below k w w' := ⟨h.os, h.tape, h.output, h.size, fun i hi => h.block i (by omega) (by intro e; cases e; omega)⟩
theorem But.of_below {B : Nat} {w w' : World} (h : Below w.heap.size w w') : But B w w' := ⟨h.os, h.tape, h.output, h.size, fun k hk _ => h.block k hk⟩
theorem But.trans {B : Nat} {a b c : World} (h : But B a b) (k : But B b c) : But B a c :=
  ⟨k.os.trans h.os, k.tape.trans h.tape, k.output.trans h.output, Nat.le_trans h.size k.size, fun i hi hn => (k.block i (Nat.lt_of_lt_of_le hi h.size) hn).trans (h.block i hi hn)⟩
theorem But.refl (B : Nat) (w : World) : But B w w := ⟨rfl, rfl, rfl, Nat.le_refl _, fun _ _ _ => rfl⟩
theorem But.set {B : Nat} {a w : World} (h : But B a w) (i : Nat) (u : Value) : But B a (w.setCell ⟨B, i, none⟩ u) :=
  h.trans ⟨rfl, rfl, rfl, by simp [World.setCell], fun k hk hn => Below.heap_setCell _ _ _ _ (by intro e; subst e; exact hn rfl)⟩
theorem But.drew {B : Nat} {a w : World} (h : But B a w) : But B a w.drew := ⟨h.os, h.tape, h.output, h.size, h.block⟩
theorem But.alloc {B : Nat} {a w : World} (h : But B a w) (o : Obj) : But B a (w.alloc o) := h.trans (But.of_below (Below.alloc (Below.refl _ _) (Nat.le_refl _) o))
theorem But.next {B : Nat} {a w w' : World} (h : But B a w) (k : Below w.heap.size w w') : But B a w' := h.trans (But.of_below k)
theorem But.cell {B : Nat} {w w' : World} (h : But B w w') {b o : Nat} (hb : b < w.heap.size) (hn : b ≠ B) : w'.cell? ⟨b, o, none⟩ = w.cell? ⟨b, o, none⟩ := World.cell?_of_block (w := w) (h.block b hb (by intro e; cases e; exact hn rfl))
theorem But.frozen {B : Nat} {w w' : World} (h : But B w w') {b o : Nat} (hb : b < w.heap.size) (hn : b ≠ B) : w'.frozen? ⟨b, o, none⟩ = w.frozen? ⟨b, o, none⟩ := World.frozen?_of_block (w := w) (h.block b hb (by intro e; cases e; exact hn rfl))
theorem But.setFar {B : Nat} {a w : World} (h : But B a w) {g : Nat} (hg : a.heap.size ≤ g) (i : Nat) (u : Value) : But B a (w.setCell ⟨g, i, none⟩ u) :=
  ⟨h.os, h.tape, h.output, by simpa [World.setCell] using h.size, fun k hk hn => (Below.heap_setCell _ _ _ _ (by intro e; subst e; omega)).trans (h.block k hk hn)⟩
/-- Below a base nothing has changed. -/
theorem But.low {B : Nat} {a w w' : World} (h : But B a w) (k : Below a.heap.size w w') : But B a w' :=
  ⟨k.os.trans h.os, k.tape.trans h.tape, k.output.trans h.output, Nat.le_trans h.size k.size, fun i hi hn => (k.block i hi).trans (h.block i hi hn)⟩
/-- A row of the call's own, over a step that leaves all blocks but one alone. -/
theorem own_but {w w' : World} {base B : Nat} {e : TypeId} {size n : Nat} {v : Value} {xs : List Value} (h : w.ownsRow base e size v n xs) (hb : But B w w') (hB : B < base) : w'.ownsRow base e size v n xs :=
  own_gb h hb (fun q hq => by have := (h.lt q hq).1; intro e; cases e; omega)
theorem own_set {w : World} {base : Nat} {e : TypeId} {size n : Nat} {v : Value} {xs : List Value} (h : w.ownsRow base e size v n xs) {g : Nat} (hg : ∀ q, v.ownBlock = some q → q ≠ g) (i : Nat) (u : Value) : (w.setCell ⟨g, i, none⟩ u).ownsRow base e size v n xs :=
  own_gb h (gb_set g i u) (fun q hq => by intro e; cases e; exact hg _ hq rfl)
theorem own_base {w : World} {base base' : Nat} {e : TypeId} {size n : Nat} {v : Value} {xs : List Value} (h : w.ownsRow base e size v n xs) (hb : base' ≤ base) : w.ownsRow base' e size v n xs := by
  refine ⟨h.1, ?_⟩
  rcases h.2 with h1 | ⟨g, cap, cur, h1, h2, h3, h4⟩
  · exact .inl h1
  · exact .inr ⟨g, cap, cur, h1, by omega, h3, h4⟩
theorem own_nil (w : World) (base : Nat) (e : TypeId) (size : Nat) : w.ownsRow base e size (.slice none 0 0) 0 [] := by
  refine ⟨by simp, .inl ⟨rfl, rfl⟩⟩
theorem one_cell_ii (a b : Int) : ∀ u ∈ (#[Value.int .i64 a, Value.int .i64 b] : Array Value).toList, u.oneCell' = true := by
  intro u hu; simp at hu; rcases hu with rfl | rfl <;> rfl
theorem one_cell_is (a : Int) (b : ByteArray) : ∀ u ∈ (#[Value.int .i64 a, Value.string b] : Array Value).toList, u.oneCell' = true := by
  intro u hu; simp at hu; rcases hu with rfl | rfl <;> rfl
/-- append of a literal that has just been laid, onto a row of the call's own: below the base nothing changes. -/
theorem app_low {P : Program} {ops : Array Oper} {rest : List Oper} {o : Oper} {a : Act} {Q : Exit → Act → World → Prop} (hg : o.guard = none) (s x : Operand) (t : TypeId)
    (ho : o.op = .call { callee := .builtin .append, args := #[s, x], argTypes := #[t, t] })
    {w : World} {base : Nat} {e : TypeId} {i : TypeInfo} {z : Value} {size bytes : Nat} (ht : P.underlying t = some (.slice e)) (hi : P.info? e = some i) (hz : i.zero = some z)
    (hsize : i.size = size) (hby : i.bytes = bytes) (hzs : z.cells.size = size) (hsz : 0 < size)
    {v : Value} {n : Nat} {xs : List Value} (hs : a.eval s = v) (hown : w.ownsRow base e size v n xs) (hz0 : base ≤ w.heap.size) {g : Nat} (hgs : w.heap.size = g)
    {us : Array Value} {m c : Nat} (hx : a.eval x = .slice (some ⟨g, 0, none⟩) m c) (hm : us.size = m * size) (h1 : ∀ u ∈ us.toList, u.oneCell' = true)
    (h63 : n + m ≤ maxLen) (hbd : (n + m) * bytes ≤ 140737488355328)
    (h : ∀ v' w', w'.ownsRow base e size v' (n + m) (xs ++ us.toList) → Below base w w' → wpList P ops Q rest (a.put o.dst v') w') :
    wpList P ops Q (o :: rest) a (w.alloc (.cells us e)) := by
  subst hgs
  refine wpList_append_own _ hg s x t ho base e i z size bytes ht hi hz hsize hby hzs hsz v n xs hs (hown.alloc _) ⟨w.heap.size, 0, none⟩ m c us.toList hx (by simpa using hm) (fun j u hj => ?_) h1 h63 hbd (by simp; omega) (fun v' w' ho' hg' _ => h v' w' ho' ?_)
  · have e : (⟨w.heap.size, 0, none⟩ : Addr).add j = ⟨w.heap.size, j, none⟩ := by unfold Addr.add; split <;> simp_all
    rw [e, World.cell?_alloc_new]
    simpa using hj
  · exact ((Below.refl base w).alloc hz0 _).grown hg' (by simp; omega) (fun k hk => (hown.lt k hk).1)
end Go.Proofs.Ytnmgecaflildoaa
