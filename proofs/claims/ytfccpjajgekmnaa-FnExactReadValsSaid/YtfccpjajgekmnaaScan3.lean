/-
  The scanner, more: what a call leaves alone; appends onto rows of the call's own.
-/
import Derived.Test.YtfccpjajgekmnaaScan2
import Derived.Test.YtfccpjajgekmnaaOwn0
namespace Go.Proofs.Ytfccpjajgekmnaa
open Go.ChangeShapes Go.WideShapes Go.ChangeAt Go.RowKit
set_option linter.unusedVariables false
set_option linter.unusedSimpArgs false
set_option maxRecDepth 100000

theorem But.setFar {B : Nat} {a w : World} (h : But B a w) {g : Nat} (hg : a.heap.size ≤ g) (i : Nat) (u : Value) : But B a (w.setCell ⟨g, i, none⟩ u) :=
  ⟨h.os, h.tape, h.output, by simpa [World.setCell] using h.size, fun k hk hn => (Below.heap_setCell _ _ _ _ (by intro e; subst e; omega)).trans (h.block k hk hn)⟩
theorem ScanAt.far {B : Nat} {w : World} {s : Sc} (h : ScanAt w B s) {g : Nat} (hg : g ≠ B) (i : Nat) (u : Value) : ScanAt (w.setCell ⟨g, i, none⟩ u) B s := by
  obtain ⟨h1, c0, c1, f0, f1⟩ := h
  have k : (w.setCell ⟨g, i, none⟩ u).heap[B]? = w.heap[B]? := Below.heap_setCell _ _ _ _ (by intro e; subst e; exact hg rfl)
  exact ⟨by simpa [World.setCell] using h1, (World.cell?_of_block (w := w) k).trans c0, (World.cell?_of_block (w := w) k).trans c1, (World.frozen?_of_block (w := w) k).trans f0, (World.frozen?_of_block (w := w) k).trans f1⟩
theorem ScanAt.alloc {B : Nat} {w : World} {s : Sc} (h : ScanAt w B s) (o : Obj) : ScanAt (w.alloc o) B s := h.next (Below.alloc (Below.refl _ _) (Nat.le_refl _) o)
theorem ScanAt.new (w : World) (t : TypeId) (l : List UInt8) (b : Bool) : ScanAt (w.alloc (.cells #[.string (S l), .bool b] t)) w.heap.size (l, b) :=
  ⟨by simp, by go_simp, by go_simp, by go_simp, by go_simp⟩
theorem num_eq {B : Nat} {s : Sc} {w : World} {n : Nat} {t : Sc} (h : numP s = (n, t)) (hl : s.1.length ≤ 1048576) (hs : ScanAt w B s) :
    Calls Try.prog 76 #[.pointer (some ⟨B, 0, none⟩)] w fun e w' => e = .returned (.int .i64 (n : Int)) ∧ ScanAt w' B t ∧ But B w w' :=
  (num_any B s w hs hl).mono fun e w' ⟨h1, h2, h3⟩ => by rw [h] at h1 h2; exact ⟨h1, h2, h3⟩
theorem text_eq {B : Nat} {s : Sc} {w : World} {x : List UInt8} {t : Sc} (h : textP s = (x, t)) (hl : s.1.length ≤ 1048576) (hs : ScanAt w B s) :
    Calls Try.prog 77 #[.pointer (some ⟨B, 0, none⟩)] w fun e w' => e = .returned (.string (S x)) ∧ ScanAt w' B t ∧ But B w w' :=
  (text_any B s w hs hl).mono fun e w' ⟨h1, h2, h3⟩ => by rw [h] at h1 h2; exact ⟨h1, h2, h3⟩
theorem take_eq {l : List UInt8} {s : Sc} {w : World} {x : List UInt8} {t : Sc} (h : textP s = (x, t)) (hl : l.length ≤ 1048576) (hs : Suf l s) :
    Calls Try.prog 74 #[.string (S l), .int .i64 (posOf l s)] w fun e w' => e = .returned (.tuple #[.string (S x), .int .i64 (posOf l t)]) ∧ Below w.heap.size w w' :=
  (l6Take_any l s w hl hs).mono fun e w' ⟨h1, h2⟩ => by rw [h] at h1; exact ⟨h1, h2⟩

/-- Below a base nothing has changed. -/
theorem But.low {B : Nat} {a w w' : World} (h : But B a w) (k : Below a.heap.size w w') : But B a w' :=
  ⟨k.os.trans h.os, k.tape.trans h.tape, k.output.trans h.output, Nat.le_trans h.size k.size, fun i hi hn => (k.block i hi).trans (h.block i hi hn)⟩
theorem ScanAt.low {B k : Nat} {w w' : World} {s : Sc} (h : ScanAt w B s) (hb : Below k w w') (hB : B < k) : ScanAt w' B s := by
  obtain ⟨h1, c0, c1, f0, f1⟩ := h
  exact ⟨Nat.lt_of_lt_of_le h1 hb.size, (hb.cell (p := ⟨B, 0, none⟩) hB).trans c0, (hb.cell (p := ⟨B, 1, none⟩) hB).trans c1, (hb.frozen (p := ⟨B, 0, none⟩) hB).trans f0, (hb.frozen (p := ⟨B, 1, none⟩) hB).trans f1⟩
/-- A row of the call's own, over a step that leaves all blocks but one alone. -/
theorem own_but {w w' : World} {base B : Nat} {e : TypeId} {size n : Nat} {v : Value} {xs : List Value} (h : w.ownsRow base e size v n xs) (hb : But B w w') (hB : B < base) : w'.ownsRow base e size v n xs :=
  own_gb h hb (fun q hq => by have := (h.lt q hq).1; intro e; cases e; omega)
theorem own_set {w : World} {base : Nat} {e : TypeId} {size n : Nat} {v : Value} {xs : List Value} (h : w.ownsRow base e size v n xs) {g : Nat} (hg : ∀ q, v.ownBlock = some q → q ≠ g) (i : Nat) (u : Value) : (w.setCell ⟨g, i, none⟩ u).ownsRow base e size v n xs :=
  own_gb h (gb_set g i u) (fun q hq => by intro e; cases e; exact hg _ hq rfl)
theorem own_base {w : World} {base base' : Nat} {e : TypeId} {size n : Nat} {v : Value} {xs : List Value} (h : w.ownsRow base e size v n xs) (hb : base' ≤ base) : w.ownsRow base' e size v n xs := by
  refine ⟨h.1, ?_⟩
  rcases h.2 with h1 | ⟨g, cap, cur, h1, h2, h3, h4⟩
  · exact .inl h1
  · exact .inr ⟨g, cap, cur, h1, by omega, h3, h4⟩
theorem own_ne {w : World} {b1 b2 : Nat} {e1 e2 : TypeId} {s1 s2 n1 n2 : Nat} {v1 v2 : Value} {x1 x2 : List Value} (h1 : w.ownsRow b1 e1 s1 v1 n1 x1) (h2 : w.ownsRow b2 e2 s2 v2 n2 x2) (he : e1 ≠ e2) : ∀ q, v1.ownBlock = some q → some q ≠ v2.ownBlock := by
  intro q hq h
  rcases h1.2 with ⟨rfl, _⟩ | ⟨g, cap, cur, rfl, _, k1, _⟩
  · cases hq
  · rcases h2.2 with ⟨rfl, _⟩ | ⟨g', cap', cur', rfl, _, k2, _⟩
    · cases h
    · cases hq; cases h
      rw [k1] at k2
      injection k2 with k2
      injection k2 with _ k2
      exact he k2
theorem own_nil (w : World) (base : Nat) (e : TypeId) (size : Nat) : w.ownsRow base e size (.slice none 0 0) 0 [] := by
  refine ⟨by simp, .inl ⟨rfl, rfl⟩⟩
theorem one_cell_ii (a b : Int) : ∀ u ∈ (#[Value.int .i64 a, Value.int .i64 b] : Array Value).toList, u.oneCell' = true := by
  intro u hu; simp at hu; rcases hu with rfl | rfl <;> rfl
theorem one_cell_is (a : Int) (b : ByteArray) : ∀ u ∈ (#[Value.int .i64 a, Value.string b] : Array Value).toList, u.oneCell' = true := by
  intro u hu; simp at hu; rcases hu with rfl | rfl <;> rfl
/-- append of a literal that has just been laid, onto a row of the call's own: below the base nothing changes. -/
theorem app_low {P : Program} {ops : Array Oper} {rest : List Oper} {o : Oper} {a : Act} {Q : Exit → Act → World → Prop} (hg : o.guard = none) (s x : Operand) (t : TypeId)
    (ho : o.op = .call { callee := .builtin .append, args := #[s, x], argTypes := #[t, t] })
    {w : World} {base : Nat} {e : TypeId} {i : TypeInfo} {z : Value} {size bytes : Nat} (ht : P.underlying t = some (.slice e)) (hi : P.info? e = some i) (hz : i.zero = some z)
    (hsize : i.size = size) (hby : i.bytes = bytes) (hzs : z.cells.size = size) (hsz : 0 < size)
    {v : Value} {n : Nat} {xs : List Value} (hs : a.eval s = v) (hown : w.ownsRow base e size v n xs) (hz0 : base ≤ w.heap.size) {g : Nat} (hgs : w.heap.size = g)
    {us : Array Value} {m c : Nat} (hx : a.eval x = .slice (some ⟨g, 0, none⟩) m c) (hm : us.size = m * size) (h1 : ∀ u ∈ us.toList, u.oneCell' = true)
    (h63 : n + m ≤ maxLen) (hbd : (n + m) * bytes ≤ 140737488355328)
    (h : ∀ v' w', w'.ownsRow base e size v' (n + m) (xs ++ us.toList) → Below base w w' → wpList P ops Q rest (a.put o.dst v') w') :
    wpList P ops Q (o :: rest) a (w.alloc (.cells us e)) := by
  subst hgs
  refine wpList_append_own _ hg s x t ho base e i z size bytes ht hi hz hsize hby hzs hsz v n xs hs (hown.alloc _) ⟨w.heap.size, 0, none⟩ m c us.toList hx (by simpa using hm) (fun j u hj => ?_) h1 h63 hbd (by simp; omega) (fun v' w' ho' hg' _ => h v' w' ho' ?_)
  · have e : (⟨w.heap.size, 0, none⟩ : Addr).add j = ⟨w.heap.size, j, none⟩ := by unfold Addr.add; split <;> simp_all
    rw [e, World.cell?_alloc_new]
    simpa using hj
  · exact ((Below.refl base w).alloc hz0 _).grown hg' (by simp; omega) (fun k hk => (hown.lt k hk).1)
end Go.Proofs.Ytfccpjajgekmnaa
