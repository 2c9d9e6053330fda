/-
  The draws where it does not matter what is drawn.
-/
import Derived.Test.YtnmgecaflildoaaDoorCur2
namespace Go.Proofs.YtnmgecaflildoaaDoor
open Go.ChangeShapes Go.WideShapes Go.ChangeAt Go.RowKit
set_option linter.unusedVariables false
set_option linter.unusedSimpArgs false
set_option maxRecDepth 100000

/-- A cursor, wherever it stands. -/
def CurX (w : World) (B : Nat) (K : Cd) : Prop := ∃ s, CurAt w B K s
theorem CurX.lt {w : World} {B : Nat} {K : Cd} (h : CurX w B K) : B < w.heap.size := by obtain ⟨s, h⟩ := h; exact h.1
theorem CurX.next {B : Nat} {w w' : World} {K : Cd} (h : CurX w B K) (hb : Below w.heap.size w w') : CurX w' B K := by obtain ⟨s, h⟩ := h; exact ⟨s, h.next hb⟩
theorem CurX.low {B k : Nat} {w w' : World} {K : Cd} (h : CurX w B K) (hb : Below k w w') (hB : B < k) : CurX w' B K := by obtain ⟨s, h⟩ := h; exact ⟨s, h.low hb hB⟩
theorem CurX.alloc {B : Nat} {w : World} {K : Cd} (h : CurX w B K) (o : Obj) : CurX (w.alloc o) B K := by obtain ⟨s, h⟩ := h; exact ⟨s, h.alloc o⟩
theorem CurX.drew {B : Nat} {w : World} {K : Cd} (h : CurX w B K) : CurX w.drew B K := by obtain ⟨s, h⟩ := h; exact ⟨s, h.drew⟩
theorem CurX.far {B : Nat} {w : World} {K : Cd} (h : CurX w B K) {g : Nat} (hg : B < g) (i : Nat) (u : Value) : CurX (w.setCell ⟨g, i, none⟩ u) B K := by obtain ⟨s, h⟩ := h; exact ⟨s, h.far hg i u⟩
theorem below_in (B : Nat) (K : Cd) (n : Nat) (w : World) (hs : CurX w B K) (hl : K.l.length ≤ 1048576) (h0 : 0 < n) (hn : n ≤ 2147483648) :
    Calls Tryd.prog 21 #[.pointer (some ⟨B, 0, none⟩), .int .i64 (n : Int)] w fun e w' => ∃ x : Nat, e = .returned (.int .i64 (x : Int)) ∧ x < n ∧ CurX w' B K ∧ But B w w' := by
  obtain ⟨s, hs⟩ := hs
  refine (below_any B K s n w hs hl h0 hn).mono ?_
  rintro e w' ⟨rfl, h1, h2⟩
  exact ⟨_, rfl, belowC_lt K.l s h0, ⟨_, h1⟩, h2⟩
theorem byte_in (B : Nat) (K : Cd) (w : World) (hs : CurX w B K) (hl : K.l.length ≤ 1048576) :
    Calls Tryd.prog 47 #[.pointer (some ⟨B, 0, none⟩)] w fun e w' => ∃ x : Nat, e = .returned (.int .i64 (x : Int)) ∧ x ≤ 255 ∧ CurX w' B K ∧ But B w w' := by
  obtain ⟨s, hs⟩ := hs
  refine (byte_any B K s w hs hl).mono ?_
  rintro e w' ⟨rfl, h1, h2⟩
  exact ⟨_, rfl, byteC_lt K.l s, ⟨_, h1⟩, h2⟩
theorem once_in (B : Nat) (K : Cd) (n : Nat) (w : World) (hs : CurX w B K) (hl : K.l.length ≤ 1048576) (h0 : 0 < n) (hn : n ≤ 2147483648) :
    Calls Tryd.prog 40 #[.pointer (some ⟨B, 0, none⟩), .int .i64 (n : Int)] w fun e w' => ∃ b : Bool, e = .returned (.bool b) ∧ CurX w' B K ∧ But B w w' := by
  have H1 := Lib.hid (below_in B K n w hs hl h0 hn)
  go_enter Tryd.func40, Tryd.ntmps40
  go_wp2_with fail
  refine H1.out.mono ?_
  rintro e w1 ⟨x, rfl, hx, c1, b1⟩
  go_wp2
  go_ret
  exact ⟨_, rfl, c1, b1⟩
theorem pick_in (B : Nat) (K : Cd) (ids : List Int) (w : World) (g c : Nat) (hs : CurX w B K) (hg : g ≠ B) (hgl : g < w.heap.size) (h0 : 0 < ids.length) (hn : ids.length ≤ 256) (hl : K.l.length ≤ 1048576) (hcl : ∀ (j : Nat) (h : j < ids.length), w.cell? ⟨g, j, none⟩ = some (.int .i64 ids[j])) :
    Calls Tryd.prog 43 #[.pointer (some ⟨B, 0, none⟩), .slice (some ⟨g, 0, none⟩) ids.length c] w fun e w' => ∃ v : Int, e = .returned (.int .i64 v) ∧ v ∈ ids ∧ CurX w' B K ∧ But B w w' := by
  obtain ⟨s, hs⟩ := hs
  obtain ⟨v, s1, hv, H⟩ := pick_ex K s ids h0 hn hl
  refine (H w B g c hs hg hgl hcl).mono ?_
  rintro e w' ⟨rfl, h1, h2⟩
  exact ⟨_, rfl, hv, ⟨_, h1⟩, h2⟩
theorem text_in (B : Nat) (K : Cd) (m : Nat) (w : World) (hs : CurX w B K) (hm : m ≤ 1000) (hl : K.l.length ≤ 1048576) :
    Calls Tryd.prog 42 #[.pointer (some ⟨B, 0, none⟩), .int .i64 (m : Int)] w fun e w' => ∃ t : List UInt8, e = .returned (.string (S t)) ∧ t.length ≤ m ∧ CurX w' B K ∧ But B w w' := by
  obtain ⟨s, hs⟩ := hs
  obtain ⟨v, s1, hv, H⟩ := text_ex K s m hm hl
  refine (H w B hs).mono ?_
  rintro e w' ⟨rfl, h1, h2⟩
  exact ⟨_, rfl, hv, ⟨_, h1⟩, h2⟩
theorem new_in (K : Cd) (w : World) (hl : K.l.length ≤ 1048576) (hR : BReads w w.heap.size K.A K.l) :
    Calls Tryd.prog 17 #[.slice K.A K.l.length K.c] w fun e w' => e = .returned (.pointer (some ⟨w.heap.size, 0, none⟩)) ∧ CurX w' w.heap.size K ∧ Below w.heap.size w w' := by
  refine (new_any K w hl hR).mono ?_
  rintro e w' ⟨rfl, h1, h2⟩
  exact ⟨rfl, ⟨_, h1⟩, h2⟩
end Go.Proofs.YtnmgecaflildoaaDoor
