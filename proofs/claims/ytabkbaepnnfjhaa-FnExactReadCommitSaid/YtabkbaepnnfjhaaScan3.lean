/-
  The scanner, more: what a call leaves alone; appends onto rows of the call's own.
-/
import Derived.Test.YtabkbaepnnfjhaaScan2
import Derived.Test.YtabkbaepnnfjhaaOwn0
namespace Go.Proofs.Ytabkbaepnnfjhaa
open Go.ChangeShapes Go.WideShapes Go.ChangeAt Go.RowKit
set_option linter.unusedVariables false
set_option linter.unusedSimpArgs false
set_option maxRecDepth 100000

theorem ScanAt.far {B : Nat} {w : World} {s : Sc} (h : ScanAt w B s) {g : Nat} (hg : g ≠ B) (i : Nat) (u : Value) : ScanAt (w.setCell ⟨g, i, none⟩ u) B s := by
  obtain ⟨h1, c0, c1, f0, f1⟩ := h
  have k : (w.setCell ⟨g, i, none⟩ u).heap[B]? = w.heap[B]? := Below.heap_setCell _ _ _ _ (by intro e; subst e; exact hg rfl)
  exact ⟨by simpa [World.setCell] using h1, (World.cell?_of_block (w := w) k).trans c0, (World.cell?_of_block (w := w) k).trans c1, (World.frozen?_of_block (w := w) k).trans f0, (World.frozen?_of_block (w := w) k).trans f1⟩
theorem ScanAt.alloc {B : Nat} {w : World} {s : Sc} (h : ScanAt w B s) (o : Obj) : ScanAt (w.alloc o) B s := h.next (Below.alloc (Below.refl _ _) (Nat.le_refl _) o)
theorem ScanAt.new (w : World) (t : TypeId) (l : List UInt8) (b : Bool) : ScanAt (w.alloc (.cells #[.string (S l), .bool b] t)) w.heap.size (l, b) :=
  ⟨by simp, by go_simp, by go_simp, by go_simp, by go_simp⟩
theorem num_eq {B : Nat} {s : Sc} {w : World} {n : Nat} {t : Sc} (h : numP s = (n, t)) (hl : s.1.length ≤ 1048576) (hs : ScanAt w B s) :
    Calls Try.prog 71 #[.pointer (some ⟨B, 0, none⟩)] w fun e w' => e = .returned (.int .i64 (n : Int)) ∧ ScanAt w' B t ∧ But B w w' :=
  (num_any B s w hs hl).mono fun e w' ⟨h1, h2, h3⟩ => by rw [h] at h1 h2; exact ⟨h1, h2, h3⟩
theorem text_eq {B : Nat} {s : Sc} {w : World} {x : List UInt8} {t : Sc} (h : textP s = (x, t)) (hl : s.1.length ≤ 1048576) (hs : ScanAt w B s) :
    Calls Try.prog 72 #[.pointer (some ⟨B, 0, none⟩)] w fun e w' => e = .returned (.string (S x)) ∧ ScanAt w' B t ∧ But B w w' :=
  (text_any B s w hs hl).mono fun e w' ⟨h1, h2, h3⟩ => by rw [h] at h1 h2; exact ⟨h1, h2, h3⟩
theorem take_eq {l : List UInt8} {s : Sc} {w : World} {x : List UInt8} {t : Sc} (h : textP s = (x, t)) (hl : l.length ≤ 1048576) (hs : Suf l s) :
    Calls Try.prog 69 #[.string (S l), .int .i64 (posOf l s)] w fun e w' => e = .returned (.tuple #[.string (S x), .int .i64 (posOf l t)]) ∧ Below w.heap.size w w' :=
  (l6Take_any l s w hl hs).mono fun e w' ⟨h1, h2⟩ => by rw [h] at h1; exact ⟨h1, h2⟩

theorem ScanAt.low {B k : Nat} {w w' : World} {s : Sc} (h : ScanAt w B s) (hb : Below k w w') (hB : B < k) : ScanAt w' B s := by
  obtain ⟨h1, c0, c1, f0, f1⟩ := h
  exact ⟨Nat.lt_of_lt_of_le h1 hb.size, (hb.cell (p := ⟨B, 0, none⟩) hB).trans c0, (hb.cell (p := ⟨B, 1, none⟩) hB).trans c1, (hb.frozen (p := ⟨B, 0, none⟩) hB).trans f0, (hb.frozen (p := ⟨B, 1, none⟩) hB).trans f1⟩
theorem own_ne {w : World} {b1 b2 : Nat} {e1 e2 : TypeId} {s1 s2 n1 n2 : Nat} {v1 v2 : Value} {x1 x2 : List Value} (h1 : w.ownsRow b1 e1 s1 v1 n1 x1) (h2 : w.ownsRow b2 e2 s2 v2 n2 x2) (he : e1 ≠ e2) : ∀ q, v1.ownBlock = some q → some q ≠ v2.ownBlock := by
  intro q hq h
  rcases h1.2 with ⟨rfl, _⟩ | ⟨g, cap, cur, rfl, _, k1, _⟩
  · cases hq
  · rcases h2.2 with ⟨rfl, _⟩ | ⟨g', cap', cur', rfl, _, k2, _⟩
    · cases h
    · cases hq; cases h
      rw [k1] at k2
      injection k2 with k2
      injection k2 with _ k2
      exact he k2
end Go.Proofs.Ytabkbaepnnfjhaa
