/-
  Texts of this proof, laid into one: Own0, But0, Cur0, Cur1.
-/
import Derived.Test.YtecimgkgdpnaeaaDoorGFnCommit1
import Derived.Test.YtecimgkgdpnaeaaDoorGFnCommit2
/-
  Rows of the call's own, kept over what comes behind. No program in sight but for one table.
-/
namespace Go.Proofs.YtecimgkgdpnaeaaDoor
open Go.ChangeShapes Go.WideShapes Go.ChangeAt Go.RowKit
set_option linter.unusedVariables false

theorem grown_of_below {w w' : World} (h : Below w.heap.size w w') : w.grownBy w' none := ⟨h.os, h.tape, h.output, h.size, fun k hk _ => h.block k hk⟩
theorem own_below {w w' : World} {base : Nat} {e : TypeId} {size n : Nat} {v : Value} {xs : List Value} (h : w.ownsRow base e size v n xs) (hb : Below w.heap.size w w') : w'.ownsRow base e size v n xs :=
  h.kept (grown_of_below hb) (by
    rcases hv : v.ownBlock with _ | b
    · exact .inl rfl
    · exact .inr (by simp))
theorem gb_trans {o : Option Nat} {a b c : World} (h : a.grownBy b o) (k : b.grownBy c o) : a.grownBy c o :=
  ⟨k.os.trans h.os, k.tape.trans h.tape, k.output.trans h.output, Nat.le_trans h.size k.size, fun i hi hn => (k.block i (Nat.lt_of_lt_of_le hi h.size) hn).trans (h.block i hi hn)⟩
theorem gb_of_below {o : Option Nat} {a b : World} (h : Below a.heap.size a b) : a.grownBy b o := ⟨h.os, h.tape, h.output, h.size, fun k hk _ => h.block k hk⟩
theorem gb_set {a : World} (g i : Nat) (u : Value) : a.grownBy (a.setCell ⟨g, i, none⟩ u) (some g) :=
  ⟨rfl, rfl, rfl, by simp [World.setCell], fun k hk hn => Below.heap_setCell _ _ _ _ (by intro e; subst e; exact hn rfl)⟩
theorem own_gb {w w' : World} {base : Nat} {e : TypeId} {size n : Nat} {v : Value} {xs : List Value} {o : Option Nat} (h : w.ownsRow base e size v n xs) (hg : w.grownBy w' o) (ho : ∀ q, v.ownBlock = some q → some q ≠ o) : w'.ownsRow base e size v n xs := by
  have hlt := h.lt
  refine ⟨h.1, ?_⟩
  rcases h.2 with ⟨h1, h2⟩ | ⟨g, cap, cur, h1, h2, h3, h4⟩
  · exact .inl ⟨h1, h2⟩
  · refine .inr ⟨g, cap, cur, h1, h2, ?_, h4⟩
    have hb : v.ownBlock = some g := by rw [h1]; rfl
    rw [← h3]; exact hg.block g (hlt g hb).2 (ho g hb)
theorem own_slice {w : World} {base : Nat} {e : TypeId} {size n : Nat} {v : Value} {xs : List Value} (h : w.ownsRow base e size v n xs) : ∃ A c, v = .slice A n c := by
  rcases h.2 with ⟨rfl, rfl⟩ | ⟨g, cap, cur, rfl, _⟩
  · exact ⟨_, _, rfl⟩
  · exact ⟨_, _, rfl⟩
theorem own_ireads {w : World} {base : Nat} {e : TypeId} {A : Option Addr} {n c : Nat} {l : List Int} (h : w.ownsRow base e 1 (.slice A n c) n (l.map iv)) (hn : l.length = n) : IReads w w.heap.size A l := by subst hn; exact IReads.of_own h
theorem own_info : (Tryd.prog.info? 3).map (fun i => (i.zero, i.size, i.bytes)) = some (some (.int .i64 0), 1, 8) := by kernel_rfl
end Go.Proofs.YtecimgkgdpnaeaaDoor

/-
  Worlds in which one block alone has turned. No program in sight.
-/
namespace Go.Proofs.YtecimgkgdpnaeaaDoor
open Go.ChangeShapes Go.WideShapes Go.ChangeAt Go.RowKit
set_option linter.unusedVariables false

theorem S_cut (l : List UInt8) (a b : Nat) : (S l).extract a b = S ((l.drop a).take (b - a)) := by
  unfold S
  simp [ByteArray.extract_mk]
/-- But for block B all is as it was. -/
def But (B : Nat) (w w' : World) : Prop := w.grownBy w' (some B)
theorem But.below {B k : Nat} {w w' : World} (h : But B w w') (hk : k ≤ B) (hs : k ≤ w.heap.size) : Below k w w' := ⟨h.os, h.tape, h.output, h.size, fun i hi => h.block i (by omega) (by intro e; cases e; omega)⟩
theorem But.of_below {B : Nat} {w w' : World} (h : Below w.heap.size w w') : But B w w' := ⟨h.os, h.tape, h.output, h.size, fun k hk _ => h.block k hk⟩
theorem But.trans {B : Nat} {a b c : World} (h : But B a b) (k : But B b c) : But B a c :=
  ⟨k.os.trans h.os, k.tape.trans h.tape, k.output.trans h.output, Nat.le_trans h.size k.size, fun i hi hn => (k.block i (Nat.lt_of_lt_of_le hi h.size) hn).trans (h.block i hi hn)⟩
theorem But.refl (B : Nat) (w : World) : But B w w := ⟨rfl, rfl, rfl, Nat.le_refl _, fun _ _ _ => rfl⟩
theorem But.set {B : Nat} {a w : World} (h : But B a w) (i : Nat) (u : Value) : But B a (w.setCell ⟨B, i, none⟩ u) :=
  h.trans ⟨rfl, rfl, rfl, by simp [World.setCell], fun k hk hn => Below.heap_setCell _ _ _ _ (by intro e; subst e; exact hn rfl)⟩
theorem But.drew {B : Nat} {a w : World} (h : But B a w) : But B a w.drew := ⟨h.os, h.tape, h.output, h.size, h.block⟩
theorem But.alloc {B : Nat} {a w : World} (h : But B a w) (o : Obj) : But B a (w.alloc o) := h.trans (But.of_below (Below.alloc (Below.refl _ _) (Nat.le_refl _) o))
theorem But.next {B : Nat} {a w w' : World} (h : But B a w) (k : Below w.heap.size w w') : But B a w' := h.trans (But.of_below k)
theorem But.cell {B : Nat} {w w' : World} (h : But B w w') {b o : Nat} (hb : b < w.heap.size) (hn : b ≠ B) : w'.cell? ⟨b, o, none⟩ = w.cell? ⟨b, o, none⟩ := World.cell?_of_block (w := w) (h.block b hb (by intro e; cases e; exact hn rfl))
theorem But.frozen {B : Nat} {w w' : World} (h : But B w w') {b o : Nat} (hb : b < w.heap.size) (hn : b ≠ B) : w'.frozen? ⟨b, o, none⟩ = w.frozen? ⟨b, o, none⟩ := World.frozen?_of_block (w := w) (h.block b hb (by intro e; cases e; exact hn rfl))
theorem But.setFar {B : Nat} {a w : World} (h : But B a w) {g : Nat} (hg : a.heap.size ≤ g) (i : Nat) (u : Value) : But B a (w.setCell ⟨g, i, none⟩ u) :=
  ⟨h.os, h.tape, h.output, by simpa [World.setCell] using h.size, fun k hk hn => (Below.heap_setCell _ _ _ _ (by intro e; subst e; omega)).trans (h.block k hk hn)⟩
/-- Below a base nothing has changed. -/
theorem But.low {B : Nat} {a w w' : World} (h : But B a w) (k : Below a.heap.size w w') : But B a w' :=
  ⟨k.os.trans h.os, k.tape.trans h.tape, k.output.trans h.output, Nat.le_trans h.size k.size, fun i hi hn => (k.block i hi).trans (h.block i hi hn)⟩
/-- A row of the call's own, over a step that leaves all blocks but one alone. -/
theorem own_but {w w' : World} {base B : Nat} {e : TypeId} {size n : Nat} {v : Value} {xs : List Value} (h : w.ownsRow base e size v n xs) (hb : But B w w') (hB : B < base) : w'.ownsRow base e size v n xs :=
  own_gb h hb (fun q hq => by have := (h.lt q hq).1; intro e; cases e; omega)
theorem own_set {w : World} {base : Nat} {e : TypeId} {size n : Nat} {v : Value} {xs : List Value} (h : w.ownsRow base e size v n xs) {g : Nat} (hg : ∀ q, v.ownBlock = some q → q ≠ g) (i : Nat) (u : Value) : (w.setCell ⟨g, i, none⟩ u).ownsRow base e size v n xs :=
  own_gb h (gb_set g i u) (fun q hq => by intro e; cases e; exact hg _ hq rfl)
theorem own_base {w : World} {base base' : Nat} {e : TypeId} {size n : Nat} {v : Value} {xs : List Value} (h : w.ownsRow base e size v n xs) (hb : base' ≤ base) : w.ownsRow base' e size v n xs := by
  refine ⟨h.1, ?_⟩
  rcases h.2 with h1 | ⟨g, cap, cur, h1, h2, h3, h4⟩
  · exact .inl h1
  · exact .inr ⟨g, cap, cur, h1, by omega, h3, h4⟩
theorem own_nil (w : World) (base : Nat) (e : TypeId) (size : Nat) : w.ownsRow base e size (.slice none 0 0) 0 [] := by
  refine ⟨by simp, .inl ⟨rfl, rfl⟩⟩
theorem one_cell_ii (a b : Int) : ∀ u ∈ (#[Value.int .i64 a, Value.int .i64 b] : Array Value).toList, u.oneCell' = true := by
  intro u hu; simp at hu; rcases hu with rfl | rfl <;> rfl
theorem one_cell_is (a : Int) (b : ByteArray) : ∀ u ∈ (#[Value.int .i64 a, Value.string b] : Array Value).toList, u.oneCell' = true := by
  intro u hu; simp at hu; rcases hu with rfl | rfl <;> rfl
/-- append of a literal that has just been laid, onto a row of the call's own: below the base nothing changes. -/
theorem app_low {P : Program} {ops : Array Oper} {rest : List Oper} {o : Oper} {a : Act} {Q : Exit → Act → World → Prop} (hg : o.guard = none) (s x : Operand) (t : TypeId)
    (ho : o.op = .call { callee := .builtin .append, args := #[s, x], argTypes := #[t, t] })
    {w : World} {base : Nat} {e : TypeId} {i : TypeInfo} {z : Value} {size bytes : Nat} (ht : P.underlying t = some (.slice e)) (hi : P.info? e = some i) (hz : i.zero = some z)
    (hsize : i.size = size) (hby : i.bytes = bytes) (hzs : z.cells.size = size) (hsz : 0 < size)
    {v : Value} {n : Nat} {xs : List Value} (hs : a.eval s = v) (hown : w.ownsRow base e size v n xs) (hz0 : base ≤ w.heap.size) {g : Nat} (hgs : w.heap.size = g)
    {us : Array Value} {m c : Nat} (hx : a.eval x = .slice (some ⟨g, 0, none⟩) m c) (hm : us.size = m * size) (h1 : ∀ u ∈ us.toList, u.oneCell' = true)
    (h63 : n + m ≤ maxLen) (hbd : (n + m) * bytes ≤ 140737488355328)
    (h : ∀ v' w', w'.ownsRow base e size v' (n + m) (xs ++ us.toList) → Below base w w' → wpList P ops Q rest (a.put o.dst v') w') :
    wpList P ops Q (o :: rest) a (w.alloc (.cells us e)) := by
  subst hgs
  refine wpList_append_own _ hg s x t ho base e i z size bytes ht hi hz hsize hby hzs hsz v n xs hs (hown.alloc _) ⟨w.heap.size, 0, none⟩ m c us.toList hx (by simpa using hm) (fun j u hj => ?_) h1 h63 hbd (by simp; omega) (fun v' w' ho' hg' _ => h v' w' ho' ?_)
  · have e : (⟨w.heap.size, 0, none⟩ : Addr).add j = ⟨w.heap.size, j, none⟩ := by unfold Addr.add; split <;> simp_all
    rw [e, World.cell?_alloc_new]
    simpa using hj
  · exact ((Below.refl base w).alloc hz0 _).grown hg' (by simp; omega) (fun k hk => (hown.lt k hk).1)
end Go.Proofs.YtecimgkgdpnaeaaDoor

/-
  The cursor of a draw as plain functions. No program in sight.
-/
namespace Go.Proofs.YtecimgkgdpnaeaaDoor
open Go.ChangeShapes Go.WideShapes Go.ChangeAt Go.RowKit
set_option linter.unusedVariables false

/-- A draw's bytes where they lie. -/
structure Cd where
  A : Option Addr
  c : Nat
  l : List UInt8
theorem and255_any (a : Int) : 0 ≤ bits .and .i64 a 255 ∧ bits .and .i64 a 255 ≤ 255 := by
  show 0 ≤ IntKind.i64.wrap ((BitVec.ofInt 64 a &&& BitVec.ofInt 64 255).toNat : Int) ∧ IntKind.i64.wrap ((BitVec.ofInt 64 a &&& BitVec.ofInt 64 255).toNat : Int) ≤ 255
  have h : (BitVec.ofInt 64 a &&& BitVec.ofInt 64 255).toNat ≤ 255 := by rw [BitVec.toNat_and]; exact Nat.and_le_right
  rw [IntKind.wrap_i64]
  omega
theorem and30_any (a : Int) : 0 ≤ bits .and .i64 a 1073741823 ∧ bits .and .i64 a 1073741823 ≤ 1073741823 := by
  show 0 ≤ IntKind.i64.wrap ((BitVec.ofInt 64 a &&& BitVec.ofInt 64 1073741823).toNat : Int) ∧ IntKind.i64.wrap ((BitVec.ofInt 64 a &&& BitVec.ofInt 64 1073741823).toNat : Int) ≤ 1073741823
  have h : (BitVec.ofInt 64 a &&& BitVec.ofInt 64 1073741823).toNat ≤ 1073741823 := by rw [BitVec.toNat_and]; exact Nat.and_le_right
  rw [IntKind.wrap_i64]
  omega
/-- The number of the start, after so many bytes. -/
def newH (l : List UInt8) : Nat → Int
  | 0 => 10101 + l.length
  | k + 1 => bits .and .i64 (newH l k * 131 + (l.getD k 0).toNat + 7) 1073741823
theorem newH_bound (l : List UInt8) (h : l.length ≤ 1048576) (k : Nat) : 0 ≤ newH l k ∧ newH l k ≤ 1073741823 := by
  cases k with
  | zero => simp only [newH]; omega
  | succ k => exact and30_any _
def hN (h : Int) : Int := wrap64 (wrap64 (h * 6364136223846793005) + 1442695040888963407)
def hX (h : Int) : Int := bits .and .i64 (bits .xor .i64 (h / 8589934592) (h / 35184372088832)) 255
/-- One byte of the cursor. -/
def byteC (l : List UInt8) (s : Nat × Int) : Nat × (Nat × Int) :=
  if s.1 < l.length then ((bits .and .i64 (hX (hN s.2) + (l.getD s.1 0).toNat) 255).toNat, (s.1 + 1, hN s.2)) else ((hX (hN s.2)).toNat, (s.1, hN s.2))
theorem byteC_lt (l : List UInt8) (s : Nat × Int) : (byteC l s).1 ≤ 255 := by
  unfold byteC
  split
  · have := and255_any (hX (hN s.2) + (l.getD s.1 0).toNat); simp only; omega
  · have := and255_any (bits .xor .i64 (hN s.2 / 8589934592) (hN s.2 / 35184372088832)); simp only [hX]; omega
/-- The cursor in memory. -/
def CurAt (w : World) (B : Nat) (K : Cd) (s : Nat × Int) : Prop :=
  B < w.heap.size ∧ w.cell? ⟨B, 0, none⟩ = some (.slice K.A K.l.length K.c) ∧ w.cell? ⟨B, 1, none⟩ = some (.int .i64 (s.1 : Int)) ∧ w.cell? ⟨B, 2, none⟩ = some (.int .i64 s.2) ∧
  w.frozen? ⟨B, 0, none⟩ = false ∧ w.frozen? ⟨B, 1, none⟩ = false ∧ w.frozen? ⟨B, 2, none⟩ = false ∧ BReads w B K.A K.l
theorem CurAt.block {w w' : World} {B : Nat} {K : Cd} {s : Nat × Int} (h : CurAt w B K s) (hs : w.heap.size ≤ w'.heap.size) (hb : ∀ k, k ≤ B → w'.heap[k]? = w.heap[k]?) : CurAt w' B K s := by
  obtain ⟨h1, c0, c1, c2, f0, f1, f2, hr⟩ := h
  have e := hb B (Nat.le_refl _)
  exact ⟨Nat.lt_of_lt_of_le h1 hs, (World.cell?_of_block (w := w) e).trans c0, (World.cell?_of_block (w := w) e).trans c1, (World.cell?_of_block (w := w) e).trans c2, (World.frozen?_of_block (w := w) e).trans f0, (World.frozen?_of_block (w := w) e).trans f1, (World.frozen?_of_block (w := w) e).trans f2, fun hl => by
    obtain ⟨b, off, hA, hbB, hc⟩ := hr hl
    exact ⟨b, off, hA, hbB, fun j hj => (World.cell?_of_block (w := w) (hb b (Nat.le_of_lt hbB))).trans (hc j hj)⟩⟩
theorem CurAt.next {B : Nat} {w w' : World} {K : Cd} {s : Nat × Int} (h : CurAt w B K s) (hb : Below w.heap.size w w') : CurAt w' B K s := h.block hb.size (fun k hk => hb.block k (Nat.lt_of_le_of_lt hk h.1))
theorem CurAt.low {B k : Nat} {w w' : World} {K : Cd} {s : Nat × Int} (h : CurAt w B K s) (hb : Below k w w') (hB : B < k) : CurAt w' B K s := h.block hb.size (fun j hj => hb.block j (by omega))
theorem CurAt.alloc {B : Nat} {w : World} {K : Cd} {s : Nat × Int} (h : CurAt w B K s) (o : Obj) : CurAt (w.alloc o) B K s := h.next (Below.alloc (Below.refl _ _) (Nat.le_refl _) o)
theorem CurAt.drew {B : Nat} {w : World} {K : Cd} {s : Nat × Int} (h : CurAt w B K s) : CurAt w.drew B K s := h.block (Nat.le_refl _) (fun _ _ => rfl)
theorem CurAt.far {B : Nat} {w : World} {K : Cd} {s : Nat × Int} (h : CurAt w B K s) {g : Nat} (hg : B < g) (i : Nat) (u : Value) : CurAt (w.setCell ⟨g, i, none⟩ u) B K s :=
  h.block (by simp [World.setCell]) (fun k hk => Below.heap_setCell _ _ _ _ (by intro e; subst e; omega))
theorem breads_set {w : World} {B : Nat} {A : Option Addr} {l : List UInt8} (h : BReads w B A l) (i : Nat) (u : Value) : BReads (w.setCell ⟨B, i, none⟩ u) B A l := fun hl => by
  obtain ⟨b, off, hA, hbB, hc⟩ := h hl
  exact ⟨b, off, hA, hbB, fun j hj => (World.cell?_of_block (w := w) (Below.heap_setCell _ _ _ _ (by intro e; simp only at e; omega))).trans (hc j hj)⟩
theorem CurAt.setH {B : Nat} {w : World} {K : Cd} {s : Nat × Int} (h : CurAt w B K s) (v : Int) : CurAt (w.setCell ⟨B, 2, none⟩ (.int .i64 v)) B K (s.1, v) := by
  obtain ⟨h1, c0, c1, c2, f0, f1, f2, hr⟩ := h
  exact ⟨by simpa [World.setCell] using h1, by go_simp, by go_simp, by go_simp, by go_simp, by go_simp, by go_simp, breads_set hr _ _⟩
theorem CurAt.setI {B : Nat} {w : World} {K : Cd} {s : Nat × Int} (h : CurAt w B K s) (v : Nat) : CurAt (w.setCell ⟨B, 1, none⟩ (.int .i64 (v : Int))) B K (v, s.2) := by
  obtain ⟨h1, c0, c1, c2, f0, f1, f2, hr⟩ := h
  exact ⟨by simpa [World.setCell] using h1, by go_simp, by go_simp, by go_simp, by go_simp, by go_simp, by go_simp, breads_set hr _ _⟩
theorem CurAt.new (w : World) (t : TypeId) (K : Cd) (h : Int) (hr : BReads w w.heap.size K.A K.l) : CurAt (w.alloc (.cells #[.slice K.A K.l.length K.c, .int .i64 0, .int .i64 h] t)) w.heap.size K (0, h) :=
  ⟨by simp, by go_simp, by go_simp, by go_simp, by go_simp, by go_simp, by go_simp, hr.below (Below.alloc (Below.refl _ _) (Nat.le_refl _) _) (Nat.le_refl _)⟩
/-- A number below n. -/
def belowC (l : List UInt8) (s : Nat × Int) (n : Nat) : Nat × (Nat × Int) :=
  if n ≤ 256 then ((byteC l s).1 % n, (byteC l s).2) else
    (((byteC l s).1 * 16777216 + (byteC l (byteC l s).2).1 * 65536 + (byteC l (byteC l (byteC l s).2).2).1 * 256 + (byteC l (byteC l (byteC l (byteC l s).2).2).2).1) % n, (byteC l (byteC l (byteC l (byteC l s).2).2).2).2)
theorem belowC_lt (l : List UInt8) (s : Nat × Int) {n : Nat} (hn : 0 < n) : (belowC l s n).1 < n := by
  unfold belowC
  split <;> exact Nat.mod_lt _ hn
end Go.Proofs.YtecimgkgdpnaeaaDoor

/-
  The cursor of a draw: l1New, l1Byte, l1Below.
-/
namespace Go.Proofs.YtecimgkgdpnaeaaDoor
open Go.ChangeShapes Go.WideShapes Go.ChangeAt Go.RowKit
set_option linter.unusedVariables false
set_option linter.unusedSimpArgs false
set_option maxRecDepth 100000

theorem byte_any (B : Nat) (K : Cd) (s : Nat × Int) (w : World) (hs : CurAt w B K s) (hl : K.l.length ≤ 1048576) :
    Calls Tryd.prog 88 #[.pointer (some ⟨B, 0, none⟩)] w fun e w' => e = .returned (.int .i64 ((byteC K.l s).1 : Int)) ∧ CurAt w' B K (byteC K.l s).2 ∧ But B w w' := by
  obtain ⟨i, h⟩ := s
  have HS := Lib.hid (hs.setH (hN h))
  have HB := Lib.hid ((But.refl B w).set 2 (.int .i64 (hN h)))
  have hBC : Hid (byteC K.l (i, h) = if i < K.l.length then ((bits .and .i64 (hX (hN h) + (K.l.getD i 0).toNat) 255).toNat, (i + 1, hN h)) else ((hX (hN h)).toNat, (i, hN h))) := rfl
  generalize byteC K.l (i, h) = V at *
  obtain ⟨hB, c0, c1, c2, f0, f1, f2, hr⟩ := hs
  simp only at c1 c2
  clear hr
  go_enter Tryd.func88, Tryd.ntmps88
  go_wp2
  generalize hv : wrap64 (wrap64 (h * 6364136223846793005) + 1442695040888963407) = v
  have hNv : hN h = v := hv
  rw [hNv] at HS HB hBC
  clear hv hNv c0 c1 c2 f0 f1 f2
  generalize w.setCell ⟨B, 2, none⟩ (.int .i64 v) = w1 at *
  obtain ⟨hB1, c0, c1, c2, f0, f1, f2, hr⟩ := HS.out
  simp only at c1 c2
  have hx0 := and255_any (bits .xor .i64 (v / 8589934592) (v / 35184372088832))
  have hX' : bits .and .i64 (bits .xor .i64 (v / 8589934592) (v / 35184372088832)) 255 = hX v := rfl
  rw [hX'] at hx0
  go_region
  generalize hX v = x at *
  clear hX'
  by_cases hi : i < K.l.length
  · obtain ⟨b, off, hA, hbB, hcl⟩ := hr (by omega)
    have hcc := hcl i hi
    have hii : 0 ≤ (i : Int) ∧ (i : Int) < K.l.length := by omega
    have hg : K.l.getD i 0 = K.l[i] := by simp [List.getD, List.getElem?_eq_getElem hi]
    rw [if_pos hi, hg] at hBC
    rw [hA] at c0
    have hb0 : 0 ≤ (K.l[i].toNat : Int) ∧ (K.l[i].toNat : Int) ≤ 255 := by have := K.l[i].toNat_lt; omega
    generalize (K.l[i].toNat : Int) = y at *
    have hy := and255_any (x + y)
    have hyv : (((bits .and .i64 (x + y) 255).toNat : Nat) : Int) = bits .and .i64 (x + y) 255 := by omega
    have hw : wrap64 (x + y) = x + y := by unfold wrap64; omega
    have HS2 := Lib.hid (HS.out.drew.drew.drew.setI (i + 1))
    clear hcl hg hr
    go_wp2
    go_region
    go_wp2
    go_region
    go_wp2
    go_ret
    have h2 := HS2.out
    simp only [Int.natCast_add, Int.natCast_one] at h2
    rw [hBC.out]
    exact ⟨by rw [← hyv]; rfl, h2, HB.out.drew.drew.drew.set 1 _⟩
  · have hii : ¬ (i : Int) < K.l.length := by omega
    have hxv : ((x.toNat : Nat) : Int) = x := by omega
    rw [if_neg hi] at hBC
    clear hr
    go_wp2
    go_region
    go_wp2
    go_ret
    rw [hBC.out]
    exact ⟨by rw [← hxv]; rfl, HS.out.drew.drew, HB.out.drew.drew⟩

theorem new_any (K : Cd) (w : World) (hl : K.l.length ≤ 1048576) (hR : BReads w w.heap.size K.A K.l) :
    Calls Tryd.prog 41 #[.slice K.A K.l.length K.c] w fun e w' => e = .returned (.pointer (some ⟨w.heap.size, 0, none⟩)) ∧ CurAt w' w.heap.size K (0, newH K.l (min K.l.length 4000)) ∧ Below w.heap.size w w' := by
  have HR := Lib.hid hR
  have HE := Lib.hid (newH_bound K.l hl)
  have HSTEP : Hid (∀ k, (hk : k < K.l.length) → newH K.l (k + 1) = bits .and .i64 (newH K.l k * 131 + (K.l[k]).toNat + 7) 1073741823) := fun k hk => by
    rw [newH]; simp [List.getD, List.getElem?_eq_getElem hk]
  have HZ : Hid (newH K.l 0 = 10101 + K.l.length) := rfl
  have HCUR := Lib.hid fun h => CurAt.new w 107 K h hR
  generalize newH K.l = N at *
  clear hR
  go_enter Tryd.func41, Tryd.ntmps41
  go_wp2
  go_loop [3, 4] (fun h i => ∃ k : Nat, k ≤ K.l.length ∧ k ≤ 4000 ∧ i = .int .i64 (k : Int) ∧ h = .int .i64 (N k)) (fun _ i => K.l.length - (intOf i).toNat)
  case atStart => exact ⟨0, by omega, by omega, rfl, by rw [HZ.out]⟩
  case round =>
    obtain ⟨k, hk, hk4, rfl, rfl⟩ := hrel
    have hki : 0 ≤ (k : Int) ∧ (k : Int) ≤ K.l.length := by omega
    have hN := HE.out k
    by_cases hlt : k < K.l.length ∧ k < 4000
    · obtain ⟨hlt, hl4⟩ := hlt
      have hli : (k : Int) < K.l.length ∧ (k : Int) < 4000 := by omega
      have HST := Lib.hid (HSTEP.out k hlt)
      obtain ⟨b, off, hA, hbB, hcl⟩ := HR.out (by omega)
      have hcc := hcl k hlt
      rw [hA]
      have hb0 : 0 ≤ (K.l[k].toNat : Int) ∧ (K.l[k].toNat : Int) ≤ 255 := by have := K.l[k].toNat_lt; omega
      generalize (K.l[k].toNat : Int) = y at *
      generalize hx : N k = x at *
      clear hcl hx
      go_wp2
      go_round
      case rel => exact ⟨k + 1, by omega, by omega, by go_num, by rw [HST.out]⟩
      case measure => simp [intOf]; omega
    · have hkk : k = min K.l.length 4000 := by omega
      have HK := Lib.hid hkk
      have hgd : ¬ ((k : Int) < K.l.length) ∨ ((k : Int) < K.l.length ∧ ¬ (k : Int) < 4000) := by omega
      clear hkk
      rcases hgd with hgd | ⟨hgd, hgd2⟩
      all_goals
        go_wp2
        go_ret
        rw [← HK.out]
        exact ⟨rfl, HCUR.out _, (Below.refl _ _).alloc (Nat.le_refl _) _⟩
theorem below_any (B : Nat) (K : Cd) (s : Nat × Int) (n : Nat) (w : World) (hs : CurAt w B K s) (hl : K.l.length ≤ 1048576) (h0 : 0 < n) (hn : n ≤ 2147483648) :
    Calls Tryd.prog 82 #[.pointer (some ⟨B, 0, none⟩), .int .i64 (n : Int)] w fun e w' => e = .returned (.int .i64 ((belowC K.l s n).1 : Int)) ∧ CurAt w' B K (belowC K.l s n).2 ∧ But B w w' := by
  by_cases h : n ≤ 256
  · have hV : Hid (belowC K.l s n = ((byteC K.l s).1 % n, (byteC K.l s).2)) := by unfold Hid belowC; rw [if_pos h]
    have hb := byteC_lt K.l s
    have HB := Lib.hid (byte_any B K s w hs hl)
    have hn0 : ¬ (n : Int) ≤ 0 := by omega
    have hn1 : (n : Int) ≤ 256 := by omega
    generalize belowC K.l s n = V at *
    generalize (byteC K.l s).1 = x at *
    generalize (byteC K.l s).2 = s1 at *
    have hm : (x : Int).tmod n = ((x % n : Nat) : Int) := by rw [Int.tmod_eq_emod_of_nonneg (by omega)]; omega
    go_enter Tryd.func82, Tryd.ntmps82
    go_wp2_with fail
    refine HB.out.mono ?_
    rintro e w1 ⟨rfl, s1, b1⟩
    go_wp2
    go_ret
    rw [hV.out]
    exact ⟨by simp, s1, b1⟩
  · have hV : Hid (belowC K.l s n = (((byteC K.l s).1 * 16777216 + (byteC K.l (byteC K.l s).2).1 * 65536 + (byteC K.l (byteC K.l (byteC K.l s).2).2).1 * 256 + (byteC K.l (byteC K.l (byteC K.l (byteC K.l s).2).2).2).1) % n, (byteC K.l (byteC K.l (byteC K.l (byteC K.l s).2).2).2).2)) := by unfold Hid belowC; rw [if_neg h]
    have hn0 : ¬ (n : Int) ≤ 0 := by omega
    have hn1 : ¬ (n : Int) ≤ 256 := by omega
    have HB := Lib.hid (fun s (W : World) (h : CurAt W B K s) => byte_any B K s W h hl)
    have HS := Lib.hid hs
    have hb1 := byteC_lt K.l s
    have hb2 := byteC_lt K.l (byteC K.l s).2
    have hb3 := byteC_lt K.l (byteC K.l (byteC K.l s).2).2
    have hb4 := byteC_lt K.l (byteC K.l (byteC K.l (byteC K.l s).2).2).2
    have H1 := Lib.hid (HB.out s)
    have H2 := Lib.hid (HB.out (byteC K.l s).2)
    have H3 := Lib.hid (HB.out (byteC K.l (byteC K.l s).2).2)
    have H4 := Lib.hid (HB.out (byteC K.l (byteC K.l (byteC K.l s).2).2).2)
    generalize belowC K.l s n = V at *
    generalize (byteC K.l (byteC K.l (byteC K.l (byteC K.l s).2).2).2).1 = x4 at *
    generalize (byteC K.l (byteC K.l (byteC K.l (byteC K.l s).2).2).2).2 = s4 at *
    generalize (byteC K.l (byteC K.l (byteC K.l s).2).2).1 = x3 at *
    generalize (byteC K.l (byteC K.l (byteC K.l s).2).2).2 = s3 at *
    generalize (byteC K.l (byteC K.l s).2).1 = x2 at *
    generalize (byteC K.l (byteC K.l s).2).2 = s2 at *
    generalize (byteC K.l s).1 = x1 at *
    generalize (byteC K.l s).2 = s1 at *
    have hm : ((x1 : Int) * 16777216 + (x2 : Int) * 65536 + (x3 : Int) * 256 + (x4 : Int)).tmod n = (((x1 * 16777216 + x2 * 65536 + x3 * 256 + x4) % n : Nat) : Int) := by rw [Int.tmod_eq_emod_of_nonneg (by omega), Int.natCast_emod]; simp
    clear hs
    go_enter Tryd.func82, Tryd.ntmps82
    go_wp2_with fail
    refine (H1.out _ HS.out).mono ?_
    rintro e w1 ⟨rfl, c1, b1⟩
    go_wp2_with fail
    refine (H2.out _ c1).mono ?_
    rintro e w2 ⟨rfl, c2, b2⟩
    go_wp2_with fail
    refine (H3.out _ c2).mono ?_
    rintro e w3 ⟨rfl, c3, b3⟩
    go_wp2_with fail
    refine (H4.out _ c3).mono ?_
    rintro e w4 ⟨rfl, c4, b4⟩
    go_wp2
    go_ret
    rw [hV.out]
    exact ⟨by first | rfl | simp [hm] | (simp; omega), c4, ((b1.trans b2).trans b3).trans b4⟩
theorem below_ex (K : Cd) (s : Nat × Int) (n : Nat) (h0 : 0 < n) (hn : n ≤ 2147483648) (hl : K.l.length ≤ 1048576) : ∃ (x : Nat) (s' : Nat × Int), x < n ∧ ∀ (w : World) (B : Nat), CurAt w B K s →
    Calls Tryd.prog 82 #[.pointer (some ⟨B, 0, none⟩), .int .i64 (n : Int)] w fun e w' => e = .returned (.int .i64 (x : Int)) ∧ CurAt w' B K s' ∧ But B w w' :=
  ⟨_, _, belowC_lt K.l s h0, fun w B hs => below_any B K s n w hs hl h0 hn⟩
end Go.Proofs.YtecimgkgdpnaeaaDoor
