/-
  Texts of this proof, laid into one: HasK, FrameD, Sha1, Sha2.
-/
import Derived.Test.YtecimgkgdpnaeaaDoorGFnCommit15
import Derived.Test.YtecimgkgdpnaeaaDoorGFnCommit2
import Derived.Test.YtecimgkgdpnaeaaDoorTie
import Derived.Test.YtecimgkgdpnaeaaDoorCards
import Derived.LaidMore
import Derived.Lib.LaidTab
import Derived.Stop.Joined
import Derived.WalkSmall
import Derived.SevenTiedAt
import Derived.Test.YtecimgkgdpnaeaaDoorGFnCommit6
import Derived.RegionTactic
import Derived.BigRegion
import Derived.Deep.QuietTactic
import Derived.BigQuiet
import Derived.Outline
/-
  The table of SHA-256's words in memory.
-/
namespace Go.Proofs.YtecimgkgdpnaeaaDoor
set_option linter.unusedVariables false
set_option linter.unusedSimpArgs false
open Go.ChangeShapes Go.WideShapes Go.ChangeAt Go.RowKit

/-- The package variable shaWords holds the table. -/
def HasK (w : World) : Prop := 0 < w.heap.size ∧ ∀ i, i < 64 → w.cell? ⟨0, i, none⟩ = some (.int .u32 (wn (kAt i)))
theorem HasK.to {w w' : World} (h : HasK w) (hb : Below w.heap.size w w') : HasK w' :=
  ⟨Nat.lt_of_lt_of_le h.1 hb.size, fun i hi => (hb.cell (p := ⟨0, i, none⟩) h.1).trans (h.2 i hi)⟩
end Go.Proofs.YtecimgkgdpnaeaaDoor

/-
  The frame of the laws that read shaWords: what the condition gives.
-/
namespace Go.Proofs.YtecimgkgdpnaeaaDoor
open Go.ChangeShapes Go.WideShapes Go.ChangeAt Go.RowKit
set_option linter.unusedVariables false

def laidK : List (String × DataW Unit) := [("loop.example/g00946/impl.shaWords", Rows.laid_loop_example_g00946_impl_shaWords)]
theorem gK : Tryd.prog.globalNamed "loop.example/g00946/impl.shaWords" = some 0 := by kernel_rfl
theorem tK : (Tryd.prog.globals[0]?).map (·.type) = some 144 := by kernel_rfl
theorem laid_eq : laidK = [("loop.example/g00946/impl.shaWords", Lib.tabData .u32 (kTab.map fun (n : Nat) => (n : Int)))] := by rfl
theorem door_met (os : Os) (args : Array Value) : laidMetH Tryd.prog laidK ((World.doorLaid Tryd.prog 14 os).forCall (fun _ _ => 0) ⟨#[], args, []⟩).memory :=
  laidMetH_of_parts3 (fuel := 8) (laidMet_of_run' 8 (by kernel_rfl) (by kernel_rfl)) (by kernel_rfl) (by kernel_rfl)
theorem kWords {H : Type} {enc : TypeId × Value → H} {W : World} {gs : List (DataW H)} {q : List MemPlace} (hL : laidMetH Tryd.prog laidK W) (hV : DataW.TrodVars enc Tryd.prog W (fun _ => true) ["loop.example/g00946/impl.shaWords"] gs q) :
    HasK W ∧ ∃ gd, gs = [gd] ∧ ∀ W', Below W.heap.size W W' → ∃ qt, DataW.TrodVars enc Tryd.prog W' (fun b => decide (b < W.heap.size)) ["loop.example/g00946/impl.shaWords"] [gd] qt := by
  rw [MakeChecks.laidMetH_plain _ _ _ (by kernel_rfl), laid_eq] at hL
  have hT := Lib.tabIs_of_head gK tK Tryd.underlying144 Tryd.underlying127 (by kernel_rfl) (by kernel_rfl) hL
  have hcell : ∀ i, i < 64 → W.cell? ⟨0, i, none⟩ = some (.int .u32 (wn (kAt i))) := fun i hi => by
    rw [hT.cell gK i (by rw [List.length_map]; exact hi), wn_nat, kAt_toNat]
    congr 2
    rw [List.getD, List.getD, List.getElem?_map]
    rw [List.getElem?_eq_getElem (show i < kTab.length from hi)]
    rfl
  have hlt := World.block_lt_of_cell? W _ (hcell 0 (by omega))
  refine ⟨⟨hlt, hcell⟩, ?_⟩
  obtain ⟨g, t, cs, fuel, d, p', rfl, hg, ht, hvar, hd, rfl⟩ := trodVars_one hV
  obtain rfl := Option.some.inj (gK.symm.trans hg)
  obtain rfl := Option.some.inj (tK.symm.trans ht)
  refine ⟨d, rfl, fun W' hB => ?_⟩
  have hltv : ∀ x ∈ p', x.block < W.heap.size := DataW.trod_lt fuel _ _ _ hd
  obtain ⟨fuel', hd'⟩ := Below.trod laidOut (by kernel_rfl) (of_decide_eq_true (by kernel_rfl)) (v := .agg cs) (⟨fuel, by simpa [Value.cells] using hd⟩ : DataW.Trod enc Tryd.prog W 0 (fun _ => true) true 144 (.agg cs) d p') hB hltv
  exact ⟨_, trodVars_mk1 (enc := enc) (spare := fun b => decide (b < W.heap.size)) hg ht (var?_below hB hg hlt hvar) (by simpa [Value.cells] using hd')⟩
end Go.Proofs.YtecimgkgdpnaeaaDoor

/-
  The words of SHA-256: RotateLeft32, word, l3Word, l3Right.
-/
namespace Go.Proofs.YtecimgkgdpnaeaaDoor
open Go.ChangeShapes Go.WideShapes Go.ChangeAt Go.RowKit
set_option linter.unusedVariables false
set_option linter.unusedSimpArgs false
set_option maxRecDepth 100000

theorem rotl_any (x : W32) (n : Nat) (h1 : 1 ≤ n) (h2 : n ≤ 31) (w : World) :
    Calls Tryd.prog 130 #[.int .u32 (wn x), .int .i64 (-(n : Int))] w fun e w' => e = .returned (.int .u32 (wn (rotr x n))) ∧ w = w' := by
  have hx := wn_lo x
  have hx2 := wn_hi x
  have e1 : IntKind.u64.wrap (-(n : Int)) = 18446744073709551616 - (n : Int) := by simp [IntKind.wrap, IntKind.bits, IntKind.signed]; omega
  have e2 := u64_31 n h1 h2
  have e3 : IntKind.u64.wrap (32 - (32 - (n : Int))) = (n : Int) := by simp [IntKind.wrap, IntKind.bits, IntKind.signed]; omega
  have e4 : (32 - (n : Int)).toNat = 32 - n := by omega
  have e5 : 0 ≤ 32 - (n : Int) ∧ 32 - (n : Int) ≤ 32 := by omega
  have e6 : (0 : Int) ≤ (n : Int) ∧ (n : Int) ≤ 32 := by omega
  have e7 := u32_shl x (32 - n)
  have e8 := u32_shr x n
  have e9 := u32_or (x <<< (32 - n)) (x >>> n)
  have e10 : x <<< (32 - n) ||| x >>> n = rotr x n := by unfold rotr; exact BitVec.or_comm _ _
  go_enter Tryd.func130, Tryd.ntmps130
  go_wp2
  go_ret
  exact ⟨rfl, rfl⟩
theorem rotl_m (x : W32) (m : Int) (n : Nat) (hm : m = -(n : Int)) (h1 : 1 ≤ n) (h2 : n ≤ 31) (w : World) :
    Calls Tryd.prog 130 #[.int .u32 (wn x), .int .i64 m] w fun e w' => e = .returned (.int .u32 (wn (rotr x n))) ∧ w = w' := by subst hm; exact rotl_any x n h1 h2 w
theorem bw_wn (b : UInt8) : ((b.toNat : Int)) = wn (bw b) := by rw [wn_nat, bw_toNat]
theorem word_any (l : List UInt8) (h : 4 ≤ l.length) (w : World) :
    Calls Tryd.prog 129 #[.string (S l)] w fun e w' => e = .returned (.int .u32 (wn (wordB (l.getD 0 0) (l.getD 1 0) (l.getD 2 0) (l.getD 3 0)))) ∧ Below w.heap.size w w' := by
  have g0 : (0 : Int) < l.length ∧ (1 : Int) < l.length ∧ (2 : Int) < l.length ∧ (3 : Int) < l.length := by omega
  obtain ⟨g0, g1, g2, g3⟩ := g0
  have e0 : ∀ h : 0 < l.length, l[0]'h = l.getD 0 0 := fun h => by simp [List.getD, List.getElem?_eq_getElem h]
  have e1 : ∀ h : 1 < l.length, l[1]'h = l.getD 1 0 := fun h => by simp [List.getD, List.getElem?_eq_getElem h]
  have e2 : ∀ h : 2 < l.length, l[2]'h = l.getD 2 0 := fun h => by simp [List.getD, List.getElem?_eq_getElem h]
  have e3 : ∀ h : 3 < l.length, l[3]'h = l.getD 3 0 := fun h => by simp [List.getD, List.getElem?_eq_getElem h]
  generalize l.getD 0 0 = b0 at *
  generalize l.getD 1 0 = b1 at *
  generalize l.getD 2 0 = b2 at *
  generalize l.getD 3 0 = b3 at *
  have c0 := bw_wn b0
  have c1 := bw_wn b1
  have c2 := bw_wn b2
  have c3 := bw_wn b3
  have s0 : IntKind.u32.wrap (wn (bw b0) * 16777216) = wn (bw b0 <<< 24) := u32_shl (bw b0) 24
  have s1 : IntKind.u32.wrap (wn (bw b1) * 65536) = wn (bw b1 <<< 16) := u32_shl (bw b1) 16
  have s2 : IntKind.u32.wrap (wn (bw b2) * 256) = wn (bw b2 <<< 8) := u32_shl (bw b2) 8
  have ew : wordB b0 b1 b2 b3 = bw b0 <<< 24 ||| bw b1 <<< 16 ||| bw b2 <<< 8 ||| bw b3 := rfl
  rw [ew]
  clear ew
  go_enter Tryd.func129, Tryd.ntmps129
  go_wp2
  go_quiet (fail)
  go_wp2
  go_ret
  exact ⟨rfl, below_drewN (Below.refl _ _) _⟩
theorem l3Word_any (z : Int) (w : World) :
    Calls Tryd.prog 132 #[.int .i64 z] w fun e w' => e = .returned (.int .i64 (wn (BitVec.ofInt 32 z))) ∧ w = w' := by
  have e1 := i64_word z
  go_enter Tryd.func132, Tryd.ntmps132
  go_wp2
  go_ret
  exact ⟨rfl, rfl⟩
theorem l3Right_any (x : W32) (n : Nat) (h1 : 1 ≤ n) (h2 : n ≤ 31) (w : World) :
    Calls Tryd.prog 131 #[.int .i64 (wn x), .int .u64 (n : Int)] w fun e w' => e = .returned (.int .i64 (wn (rotr x n))) ∧ w = w' := by
  have hx := wn_lo x
  have hx2 := wn_hi x
  have e3 : IntKind.u64.wrap (32 - (n : Int)) = 32 - (n : Int) := by simp [IntKind.wrap, IntKind.bits, IntKind.signed]; omega
  have e4 : (32 - (n : Int)).toNat = 32 - n := by omega
  have e5 : 0 ≤ 32 - (n : Int) ∧ 32 - (n : Int) ≤ 64 := by omega
  have e6 : (0 : Int) ≤ (n : Int) ∧ (n : Int) ≤ 64 := by omega
  have e7 := i64_right x n h1 h2
  go_enter Tryd.func131, Tryd.ntmps131
  go_wp2
  go_ret
  exact ⟨rfl, rfl⟩
end Go.Proofs.YtecimgkgdpnaeaaDoor

/-
  SHA-256 of the program: a block.
-/
namespace Go.Proofs.YtecimgkgdpnaeaaDoor
open Go.ChangeShapes Go.WideShapes Go.ChangeAt Go.RowKit
set_option linter.unusedVariables false
set_option linter.unusedSimpArgs false
set_option maxRecDepth 100000

/-- Block B holds so many words of f, and 64 cells. -/
def WAt (w : World) (B : Nat) (f : Nat → W32) (n : Nat) : Prop := B < w.heap.size ∧ (∀ j, j < n → w.cell? ⟨B, j, none⟩ = some (.int .u32 (wn (f j)))) ∧ (∀ j, j < 64 → ∃ u, w.cell? ⟨B, j, none⟩ = some u) ∧ ∀ j, w.frozen? ⟨B, j, none⟩ = false
/-- Block B holds the eight words g. -/
def GAt (w : World) (B : Nat) (g : Nat → W32) : Prop := B < w.heap.size ∧ (∀ j, j < 8 → w.cell? ⟨B, j, none⟩ = some (.int .u32 (wn (g j)))) ∧ ∀ j, w.frozen? ⟨B, j, none⟩ = false
def St.at (s : St) : Nat → W32
  | 0 => s.a
  | 1 => s.b
  | 2 => s.c
  | 3 => s.d
  | 4 => s.e
  | 5 => s.f
  | 6 => s.g
  | _ => s.h
def St.val (s : St) : Value := .agg #[.int .u32 (wn s.a), .int .u32 (wn s.b), .int .u32 (wn s.c), .int .u32 (wn s.d), .int .u32 (wn s.e), .int .u32 (wn s.f), .int .u32 (wn s.g), .int .u32 (wn s.h)]

theorem S_drop (l : List UInt8) (k : Nat) : (S l).extract k l.length = S (l.drop k) := by
  unfold S
  rw [ByteArray.extract_mk]
  congr 1
  simp [List.take_of_length_le]
theorem word_drop (l : List UInt8) (i : Nat) : wordB ((l.drop (4 * i)).getD 0 0) ((l.drop (4 * i)).getD 1 0) ((l.drop (4 * i)).getD 2 0) ((l.drop (4 * i)).getD 3 0) = wordAt l i := by
  unfold wordAt
  simp [List.getD, List.getElem?_drop]
theorem WAt.below {w w' : World} {B n : Nat} {f : Nat → W32} (h : WAt w B f n) (hb : Below w.heap.size w w') : WAt w' B f n := by
  obtain ⟨h1, h2, h3, h4⟩ := h
  exact ⟨Nat.lt_of_lt_of_le h1 hb.size, fun j hj => (hb.cell (p := ⟨B, j, none⟩) h1).trans (h2 j hj), fun j hj => by obtain ⟨u, hu⟩ := h3 j hj; exact ⟨u, (hb.cell (p := ⟨B, j, none⟩) h1).trans hu⟩, fun j => (hb.frozen (p := ⟨B, j, none⟩) h1).trans (h4 j)⟩
theorem GAt.below {w w' : World} {B : Nat} {f : Nat → W32} (h : GAt w B f) (hb : Below w.heap.size w w') : GAt w' B f := by
  obtain ⟨h1, h2, h4⟩ := h
  exact ⟨Nat.lt_of_lt_of_le h1 hb.size, fun j hj => (hb.cell (p := ⟨B, j, none⟩) h1).trans (h2 j hj), fun j => (hb.frozen (p := ⟨B, j, none⟩) h1).trans (h4 j)⟩
theorem WAt.set {w : World} {B n : Nat} {f : Nat → W32} (h : WAt w B f n) (hn : n < 64) : WAt (w.setCell ⟨B, n, none⟩ (.int .u32 (wn (f n)))) B f (n + 1) := by
  obtain ⟨h1, h2, h3, h4⟩ := h
  obtain ⟨u, hu⟩ := h3 n hn
  refine ⟨by simpa [World.setCell] using h1, fun j hj => ?_, fun j hj => ?_, fun j => by rw [World.frozen?_setCell]; exact h4 j⟩
  · by_cases e : j = n
    · subst e; exact World.cell?_setCell_same w _ _ hu
    · rw [World.cell?_setCell_other _ _ _ _ (by intro h; cases h; exact e rfl)]; exact h2 j (by omega)
  · by_cases e : j = n
    · subst e; exact ⟨_, World.cell?_setCell_same w _ _ hu⟩
    · rw [World.cell?_setCell_other _ _ _ _ (by intro h; cases h; exact e rfl)]; exact h3 j hj
/-- A store into another block. -/
theorem WAt.far {w : World} {B n : Nat} {f : Nat → W32} (h : WAt w B f n) {p : Addr} (hp : p.block ≠ B) (v : Value) : WAt (w.setCell p v) B f n := by
  obtain ⟨h1, h2, h3, h4⟩ := h
  have e : ∀ j, (w.setCell p v).cell? ⟨B, j, none⟩ = w.cell? ⟨B, j, none⟩ := fun j => World.cell?_setCell_other _ _ _ _ (by intro h; subst h; exact hp rfl)
  exact ⟨by simpa [World.setCell] using h1, fun j hj => (e j).trans (h2 j hj), fun j hj => by rw [e]; exact h3 j hj, fun j => by rw [World.frozen?_setCell]; exact h4 j⟩
theorem GAt.far {w : World} {B : Nat} {f : Nat → W32} (h : GAt w B f) {p : Addr} (hp : p.block ≠ B) (v : Value) : GAt (w.setCell p v) B f := by
  obtain ⟨h1, h2, h4⟩ := h
  have e : ∀ j, (w.setCell p v).cell? ⟨B, j, none⟩ = w.cell? ⟨B, j, none⟩ := fun j => World.cell?_setCell_other _ _ _ _ (by intro h; subst h; exact hp rfl)
  exact ⟨by simpa [World.setCell] using h1, fun j hj => (e j).trans (h2 j hj), fun j => by rw [World.frozen?_setCell]; exact h4 j⟩
/-- Block B holds eight cells. -/
def RAt (w : World) (B : Nat) : Prop := B < w.heap.size ∧ (∀ j, j < 8 → ∃ u, w.cell? ⟨B, j, none⟩ = some u) ∧ ∀ j, w.frozen? ⟨B, j, none⟩ = false
theorem RAt.below {w w' : World} {B : Nat} (h : RAt w B) (hb : Below w.heap.size w w') : RAt w' B := by
  obtain ⟨h1, h3, h4⟩ := h
  exact ⟨Nat.lt_of_lt_of_le h1 hb.size, fun j hj => by obtain ⟨u, hu⟩ := h3 j hj; exact ⟨u, (hb.cell (p := ⟨B, j, none⟩) h1).trans hu⟩, fun j => (hb.frozen (p := ⟨B, j, none⟩) h1).trans (h4 j)⟩
theorem RAt.far {w : World} {B : Nat} (h : RAt w B) {p : Addr} (hp : p.block ≠ B) (v : Value) : RAt (w.setCell p v) B := by
  obtain ⟨h1, h3, h4⟩ := h
  have e : ∀ j, (w.setCell p v).cell? ⟨B, j, none⟩ = w.cell? ⟨B, j, none⟩ := fun j => World.cell?_setCell_other _ _ _ _ (by intro h; subst h; exact hp rfl)
  exact ⟨by simpa [World.setCell] using h1, fun j hj => by rw [e]; exact h3 j hj, fun j => by rw [World.frozen?_setCell]; exact h4 j⟩
theorem frozen_new (w : World) (cs : Array Value) (t : TypeId) (j : Nat) : (w.alloc (.cells cs t)).frozen? ⟨w.heap.size, j, none⟩ = false := by go_simp
theorem WAt.start (w : World) (cs : Array Value) (t : TypeId) (f : Nat → W32) {B : Nat} (hB : B = w.heap.size) (hcs : cs.size = 64) : WAt (w.alloc (.cells cs t)) B f 0 := by
  subst hB; exact
  ⟨by simp, fun j hj => absurd hj (by omega), fun j hj => ⟨cs[j]'(by omega), by rw [World.cell?_alloc_new]; exact Array.getElem?_eq_getElem (by omega)⟩, frozen_new w cs t⟩
theorem RAt.start (w : World) (cs : Array Value) (t : TypeId) {B : Nat} (hB : B = w.heap.size) (hcs : cs.size = 8) : RAt (w.alloc (.cells cs t)) B := by
  subst hB; exact
  ⟨by simp, fun j hj => ⟨cs[j]'(by omega), by rw [World.cell?_alloc_new]; exact Array.getElem?_eq_getElem (by omega)⟩, frozen_new w cs t⟩
theorem GAt.start (w : World) (t : TypeId) (g : Nat → W32) : GAt (w.alloc (.cells #[.int .u32 (wn (g 0)), .int .u32 (wn (g 1)), .int .u32 (wn (g 2)), .int .u32 (wn (g 3)), .int .u32 (wn (g 4)), .int .u32 (wn (g 5)), .int .u32 (wn (g 6)), .int .u32 (wn (g 7))] t)) w.heap.size g :=
  ⟨by simp, fun j hj => by
    rw [World.cell?_alloc_new]
    match j, hj with
    | 0, _ => rfl
    | 1, _ => rfl
    | 2, _ => rfl
    | 3, _ => rfl
    | 4, _ => rfl
    | 5, _ => rfl
    | 6, _ => rfl
    | 7, _ => rfl, frozen_new w _ t⟩
theorem RAt.drew {w : World} {B : Nat} (h : RAt w B) : RAt w.drew B := h
theorem WAt.drew {w : World} {B n : Nat} {f : Nat → W32} (h : WAt w B f n) : WAt w.drew B f n := h
theorem GAt.drew {w : World} {B : Nat} {f : Nat → W32} (h : GAt w B f) : GAt w.drew B f := h

/-- What the third loop knows: block V holds the words x. -/
def ShaR (s : St) (l : List UInt8) (w wr : World) (V : Nat) (x : St) : Prop := GAt wr V x.at ∧ WAt wr (w.heap.size + 1 + 1) (sched (wordAt l)) 64 ∧ GAt wr w.heap.size s.at ∧ RAt wr (w.heap.size + 1) ∧ Below w.heap.size w wr ∧ w.heap.size + 1 + 1 < V
theorem ShaR.drewN {s : St} {l : List UInt8} {w wr : World} {V : Nat} {x : St} (h : ShaR s l w wr V x) (n : Nat) : ShaR s l w (wr.drewN n) V x := by
  obtain ⟨h1, h2, h3, h4, h5, h6⟩ := h
  exact ⟨h1, h2, h3, h4, below_drewN h5 n, h6⟩
theorem ShaR.get {s : St} {l : List UInt8} {w wr : World} {V : Nat} {x : St} (h : ShaR s l w wr V x) :
    wr.cell? ⟨V, 0, none⟩ = some (.int .u32 (wn x.a)) ∧ wr.cell? ⟨V, 1, none⟩ = some (.int .u32 (wn x.b)) ∧ wr.cell? ⟨V, 2, none⟩ = some (.int .u32 (wn x.c)) ∧ wr.cell? ⟨V, 3, none⟩ = some (.int .u32 (wn x.d)) ∧
    wr.cell? ⟨V, 4, none⟩ = some (.int .u32 (wn x.e)) ∧ wr.cell? ⟨V, 5, none⟩ = some (.int .u32 (wn x.f)) ∧ wr.cell? ⟨V, 6, none⟩ = some (.int .u32 (wn x.g)) ∧ wr.cell? ⟨V, 7, none⟩ = some (.int .u32 (wn x.h)) :=
  ⟨h.1.2.1 0 (by omega), h.1.2.1 1 (by omega), h.1.2.1 2 (by omega), h.1.2.1 3 (by omega), h.1.2.1 4 (by omega), h.1.2.1 5 (by omega), h.1.2.1 6 (by omega), h.1.2.1 7 (by omega)⟩
theorem ShaR.fro {s : St} {l : List UInt8} {w wr : World} {V : Nat} {x : St} (h : ShaR s l w wr V x) : ∀ j, wr.frozen? ⟨V, j, none⟩ = false := h.1.2.2

/-- Some of the eight words are new. -/
def PAt (w : World) (B : Nat) (f g : Nat → W32) (n : Nat) : Prop := B < w.heap.size ∧ (∀ j, j < 8 → w.cell? ⟨B, j, none⟩ = some (.int .u32 (wn (if j < n then g j else f j)))) ∧ ∀ j, w.frozen? ⟨B, j, none⟩ = false
theorem PAt.set {w : World} {B : Nat} {f g : Nat → W32} {n : Nat} (h : PAt w B f g n) (hn : n < 8) : PAt (w.setCell ⟨B, n, none⟩ (.int .u32 (wn (g n)))) B f g (n + 1) := by
  obtain ⟨h1, h2, h4⟩ := h
  refine ⟨by simpa [World.setCell] using h1, fun j hj => ?_, fun j => by rw [World.frozen?_setCell]; exact h4 j⟩
  by_cases e : j = n
  · subst e; rw [if_pos (by omega)]; exact World.cell?_setCell_same w _ _ (h2 _ hj)
  · rw [World.cell?_setCell_other _ _ _ _ (by intro h; cases h; exact e rfl), h2 j hj]
    by_cases e2 : j < n
    · rw [if_pos e2, if_pos (by omega)]
    · rw [if_neg e2, if_neg (by omega)]
theorem GAt.put {w : World} {B : Nat} {f : Nat → W32} (h : GAt w B f) (g : Nat → W32) : GAt ((((((((w.setCell ⟨B, 0, none⟩ (.int .u32 (wn (g 0)))).setCell ⟨B, 1, none⟩ (.int .u32 (wn (g 1)))).setCell ⟨B, 2, none⟩ (.int .u32 (wn (g 2)))).setCell ⟨B, 3, none⟩ (.int .u32 (wn (g 3)))).setCell ⟨B, 4, none⟩ (.int .u32 (wn (g 4)))).setCell ⟨B, 5, none⟩ (.int .u32 (wn (g 5)))).setCell ⟨B, 6, none⟩ (.int .u32 (wn (g 6)))).setCell ⟨B, 7, none⟩ (.int .u32 (wn (g 7)))) B g := by
  have h0 : PAt w B f g 0 := ⟨h.1, fun j hj => by rw [if_neg (by omega)]; exact h.2.1 j hj, h.2.2⟩
  have h8 := (((((((h0.set (by omega)).set (by omega)).set (by omega)).set (by omega)).set (by omega)).set (by omega)).set (by omega)).set (by omega)
  exact ⟨h8.1, fun j hj => by have := h8.2.1 j hj; rw [if_pos (by omega)] at this; exact this, h8.2.2⟩
theorem ShaR.next {s : St} {l : List UInt8} {w wr : World} {V : Nat} {x : St} (h : ShaR s l w wr V x) (y : St) : ShaR s l w ((((((((wr.setCell ⟨V, 0, none⟩ (.int .u32 (wn y.a))).setCell ⟨V, 1, none⟩ (.int .u32 (wn y.b))).setCell ⟨V, 2, none⟩ (.int .u32 (wn y.c))).setCell ⟨V, 3, none⟩ (.int .u32 (wn y.d))).setCell ⟨V, 4, none⟩ (.int .u32 (wn y.e))).setCell ⟨V, 5, none⟩ (.int .u32 (wn y.f))).setCell ⟨V, 6, none⟩ (.int .u32 (wn y.g))).setCell ⟨V, 7, none⟩ (.int .u32 (wn y.h))) V y := by
  obtain ⟨h1, h2, h3, h4, h5, h6⟩ := h
  have n2 : ∀ j, (⟨V, j, none⟩ : Addr).block ≠ w.heap.size + 1 + 1 := fun j => by show V ≠ _; omega
  have n1 : ∀ j, (⟨V, j, none⟩ : Addr).block ≠ w.heap.size + 1 := fun j => by show V ≠ _; omega
  have n0 : ∀ j, (⟨V, j, none⟩ : Addr).block ≠ w.heap.size := fun j => by show V ≠ _; omega
  have nb : ∀ j, w.heap.size ≤ (⟨V, j, none⟩ : Addr).block := fun j => by show _ ≤ V; omega
  refine ⟨h1.put y.at, ?_, ?_, ?_, ?_, h6⟩
  · exact (((((((h2.far (n2 _) _).far (n2 _) _).far (n2 _) _).far (n2 _) _).far (n2 _) _).far (n2 _) _).far (n2 _) _).far (n2 _) _
  · exact (((((((h3.far (n0 _) _).far (n0 _) _).far (n0 _) _).far (n0 _) _).far (n0 _) _).far (n0 _) _).far (n0 _) _).far (n0 _) _
  · exact (((((((h4.far (n1 _) _).far (n1 _) _).far (n1 _) _).far (n1 _) _).far (n1 _) _).far (n1 _) _).far (n1 _) _).far (n1 _) _
  · exact (((((((h5.setCell (nb _) _).setCell (nb _) _).setCell (nb _) _).setCell (nb _) _).setCell (nb _) _).setCell (nb _) _).setCell (nb _) _).setCell (nb _) _

/-- Some of the eight cells are new. -/
def QAt (w : World) (B : Nat) (g : Nat → W32) (n : Nat) : Prop := B < w.heap.size ∧ (∀ j, j < 8 → ∃ u, w.cell? ⟨B, j, none⟩ = some u ∧ (j < n → u = .int .u32 (wn (g j)))) ∧ ∀ j, w.frozen? ⟨B, j, none⟩ = false
theorem QAt.set {w : World} {B : Nat} {g : Nat → W32} {n : Nat} (h : QAt w B g n) (hn : n < 8) : QAt (w.setCell ⟨B, n, none⟩ (.int .u32 (wn (g n)))) B g (n + 1) := by
  obtain ⟨h1, h2, h4⟩ := h
  refine ⟨by simpa [World.setCell] using h1, fun j hj => ?_, fun j => by rw [World.frozen?_setCell]; exact h4 j⟩
  obtain ⟨u, hu, hv⟩ := h2 j hj
  by_cases e : j = n
  · subst e; exact ⟨_, World.cell?_setCell_same w _ _ hu, fun _ => rfl⟩
  · refine ⟨u, ?_, fun h => hv (by omega)⟩
    rw [World.cell?_setCell_other _ _ _ _ (by intro h; cases h; exact e rfl)]; exact hu
theorem RAt.put {w : World} {B : Nat} (h : RAt w B) (g : Nat → W32) : GAt ((((((((w.setCell ⟨B, 0, none⟩ (.int .u32 (wn (g 0)))).setCell ⟨B, 1, none⟩ (.int .u32 (wn (g 1)))).setCell ⟨B, 2, none⟩ (.int .u32 (wn (g 2)))).setCell ⟨B, 3, none⟩ (.int .u32 (wn (g 3)))).setCell ⟨B, 4, none⟩ (.int .u32 (wn (g 4)))).setCell ⟨B, 5, none⟩ (.int .u32 (wn (g 5)))).setCell ⟨B, 6, none⟩ (.int .u32 (wn (g 6)))).setCell ⟨B, 7, none⟩ (.int .u32 (wn (g 7)))) B g := by
  have h0 : QAt w B g 0 := ⟨h.1, fun j hj => by obtain ⟨u, hu⟩ := h.2.1 j hj; exact ⟨u, hu, fun h => absurd h (by omega)⟩, h.2.2⟩
  have h8 := (((((((h0.set (by omega)).set (by omega)).set (by omega)).set (by omega)).set (by omega)).set (by omega)).set (by omega)).set (by omega)
  exact ⟨h8.1, fun j hj => by obtain ⟨u, hu, hv⟩ := h8.2.1 j hj; rw [hu, hv (by omega)], h8.2.2⟩
theorem Below.eight {w wr : World} (h : Below w.heap.size w wr) (y : St) : Below w.heap.size w ((((((((wr.setCell ⟨w.heap.size + 1, 0, none⟩ (.int .u32 (wn (y.at 0)))).setCell ⟨w.heap.size + 1, 1, none⟩ (.int .u32 (wn (y.at 1)))).setCell ⟨w.heap.size + 1, 2, none⟩ (.int .u32 (wn (y.at 2)))).setCell ⟨w.heap.size + 1, 3, none⟩ (.int .u32 (wn (y.at 3)))).setCell ⟨w.heap.size + 1, 4, none⟩ (.int .u32 (wn (y.at 4)))).setCell ⟨w.heap.size + 1, 5, none⟩ (.int .u32 (wn (y.at 5)))).setCell ⟨w.heap.size + 1, 6, none⟩ (.int .u32 (wn (y.at 6)))).setCell ⟨w.heap.size + 1, 7, none⟩ (.int .u32 (wn (y.at 7)))) := by
  have nb : ∀ j, w.heap.size ≤ (⟨w.heap.size + 1, j, none⟩ : Addr).block := fun j => by show _ ≤ w.heap.size + 1; omega
  exact (((((((h.setCell (nb _) _).setCell (nb _) _).setCell (nb _) _).setCell (nb _) _).setCell (nb _) _).setCell (nb _) _).setCell (nb _) _).setCell (nb _) _
/-- What the last loop knows. -/
def ShaE (s : St) (w wr : World) (V : Nat) (x : St) (n : Nat) : Prop := PAt wr w.heap.size s.at (fun j => s.at j + x.at j) n ∧ GAt wr V x.at ∧ RAt wr (w.heap.size + 1) ∧ Below w.heap.size w wr ∧ w.heap.size + 1 + 1 < V
theorem ShaR.fin {s : St} {l : List UInt8} {w wr : World} {V : Nat} {x : St} (h : ShaR s l w wr V x) : ShaE s w wr V x 0 := by
  obtain ⟨h1, h2, h3, h4, h5, h6⟩ := h
  exact ⟨⟨h3.1, fun j hj => by rw [if_neg (by omega)]; exact h3.2.1 j hj, h3.2.2⟩, h1, h4, h5, h6⟩
theorem ShaE.next {s : St} {w wr : World} {V : Nat} {x : St} {n : Nat} (h : ShaE s w wr V x n) (hn : n < 8) : ShaE s w (wr.setCell ⟨w.heap.size, n, none⟩ (.int .u32 (wn (s.at n + x.at n)))).drew V x (n + 1) := by
  obtain ⟨h1, h2, h3, h4, h5⟩ := h
  exact ⟨h1.set hn, h2.far (by show w.heap.size ≠ V; omega) _, h3.far (by show w.heap.size ≠ w.heap.size + 1; omega) _, (h4.setCell (Nat.le_refl _) _).drew, h5⟩
theorem ShaE.now {s : St} {w wr : World} {V : Nat} {x : St} {n : Nat} (h : ShaE s w wr V x n) (hn : n < 8) : wr.cell? ⟨w.heap.size, n, none⟩ = some (.int .u32 (wn (s.at n))) ∧ wr.cell? ⟨V, n, none⟩ = some (.int .u32 (wn (x.at n))) ∧ wr.frozen? ⟨w.heap.size, n, none⟩ = false := by
  have := h.1.2.1 n hn
  rw [if_neg (by omega)] at this
  exact ⟨this, h.2.1.2.1 n hn, h.1.2.2 n⟩
theorem ShaE.last {s : St} {w wr : World} {V : Nat} {x : St} {n : Nat} (h : ShaE s w wr V x n) (hn : n = 8) (j : Nat) (hj : j < 8) : wr.cell? ⟨w.heap.size, j, none⟩ = some (.int .u32 (wn ((s.add x).at j))) := by
  have := h.1.2.1 j hj
  rw [if_pos (by omega)] at this
  rw [this]
  match j, hj with
  | 0, _ => rfl
  | 1, _ => rfl
  | 2, _ => rfl
  | 3, _ => rfl
  | 4, _ => rfl
  | 5, _ => rfl
  | 6, _ => rfl
  | 7, _ => rfl

set_option maxHeartbeats 1600000 in
theorem shaBlock_any (s : St) (l : List UInt8) (w : World) (hl : l.length = 64) (hK : HasK w) :
    Calls Tryd.prog 112 #[s.val, .string (S l)] w fun e w' => e = .returned (shaBlk s l).val ∧ Below w.heap.size w w' := by
  have hsv : s.val = .agg #[.int .u32 (wn s.a), .int .u32 (wn s.b), .int .u32 (wn s.c), .int .u32 (wn s.d), .int .u32 (wn s.e), .int .u32 (wn s.f), .int .u32 (wn s.g), .int .u32 (wn s.h)] := rfl
  have HK := Lib.hid hK
  have HSV := Lib.hid (rfl : s.val = s.val)
  rw [hsv]
  clear hsv hK
  go_enter Tryd.func112, Tryd.ntmps112
  go_wp2_with fail
  go_loopw [6, 22] (fun i kk wr => ∃ k : Nat, k ≤ 16 ∧ kk = .int .i64 k ∧ WAt wr (w.heap.size + 1 + 1) (wordAt l) k ∧ GAt wr w.heap.size s.at ∧ RAt wr (w.heap.size + 1) ∧ Below w.heap.size w wr) (fun _ kk _ => 16 - (intOf kk).toNat)
  case atStart =>
    refine ⟨0, by omega, rfl, ?_, ?_, ?_, ?_⟩
    · exact WAt.start _ _ _ _ (by simp) rfl
    · exact ((GAt.start w 128 s.at).below ((Below.refl _ _).alloc (Nat.le_refl _) _)).below ((Below.refl _ _).alloc (Nat.le_refl _) _)
    · exact (RAt.start _ _ _ (by simp) rfl).below ((Below.refl _ _).alloc (Nat.le_refl _) _)
    · exact (((Below.refl _ _).alloc (by simp) _).alloc (by simp) _).alloc (by simp; omega) _
  case round =>
    obtain ⟨k, hk, rfl, hW, hG, hR, hb⟩ := hrel
    have hbz := hb.size
    by_cases hlt : k < 16
    · have hwd := fun W => word_any (l.drop (4 * k)) (by simp; omega) W
      rw [word_drop] at hwd
      have HWD := Lib.hid hwd
      have hl' : (l.length : Int) = 64 := by omega
      have e1 : (S l).extract (4 * k) 64 = S (l.drop (4 * k)) := by rw [← hl]; exact S_drop l (4 * k)
      have hki : 0 ≤ (k : Int) ∧ (k : Int) < 64 := by omega
      have HW := Lib.hid hW
      clear hW hwd
      go_wp2_with fail
      refine (HWD.out _).mono ?_
      rintro e w1 ⟨rfl, b1⟩
      have HW1 := Lib.hid (HW.out.below b1)
      have HG1 := Lib.hid (hG.below b1)
      have HR1 := Lib.hid (hR.below b1)
      have hb1 := Below.next hb b1
      have hbz1 := b1.size
      obtain ⟨u, hu⟩ := HW1.out.2.2.1 k (by omega)
      have hfz := HW1.out.2.2.2 k
      clear hG hR hb b1 HW
      go_wp2_with fail
      go_roundw
      case rel => exact ⟨k + 1, by omega, by go_num, HW1.out.set (by omega), HG1.out.far (by simp; omega) _, HR1.out.far (by simp) _, hb1.setCell (by simp; omega) _⟩
      case measure => simp [intOf]; omega
    · have hk' : k = 16 := by omega
      have HW : Hid (WAt wr (w.heap.size + 1 + 1) (sched (wordAt l)) 16) := ⟨hW.1, fun j hj => by rw [sched_lo _ _ hj]; exact hW.2.1 j (by omega), hW.2.2⟩
      have HG := Lib.hid hG
      have HR := Lib.hid hR
      have hb0 := hb
      clear hW hG hR hb hbz hk hk'
      go_wp2_with fail
      go_loopw [7, 8, 9, 10, 11] (fun i _ _ _ _ wr => ∃ k : Nat, 16 ≤ k ∧ k ≤ 64 ∧ i = .int .i64 k ∧ WAt wr (w.heap.size + 1 + 1) (sched (wordAt l)) k ∧ GAt wr w.heap.size s.at ∧ RAt wr (w.heap.size + 1) ∧ Below w.heap.size w wr) (fun i _ _ _ _ _ => 64 - (intOf i).toNat)
      case atStart => exact ⟨16, by omega, by omega, rfl, HW.out, HG.out, HR.out, hb0⟩
      clear HW HG HR hb0
      case round =>
        obtain ⟨k, hk16, hk, rfl, hW, hG, hR, hb⟩ := hrel
        by_cases hlt : k < 64
        · have c15 := hW.2.1 (k - 15) (by omega)
          have c2 := hW.2.1 (k - 2) (by omega)
          have c16 := hW.2.1 (k - 16) (by omega)
          have c7 := hW.2.1 (k - 7) (by omega)
          have t15 : ((k : Int) - 15).toNat = k - 15 := by omega
          have t2 : ((k : Int) - 2).toNat = k - 2 := by omega
          have t16 : ((k : Int) - 16).toNat = k - 16 := by omega
          have t7 : ((k : Int) - 7).toNat = k - 7 := by omega
          have hki : 16 ≤ (k : Int) ∧ (k : Int) < 64 := by omega
          obtain ⟨u, hu⟩ := hW.2.2.1 k (by omega)
          have hfz := hW.2.2.2 k
          have hs := Lib.hid (sched_hi (wordAt l) k hk16)
          have HW := Lib.hid hW
          clear hW
          generalize sched (wordAt l) (k - 15) = x15 at *
          generalize sched (wordAt l) (k - 2) = x2 at *
          generalize sched (wordAt l) (k - 16) = x16 at *
          generalize sched (wordAt l) (k - 7) = x7 at *
          have s3 : wn x15 / (8 : Int) = wn (x15 >>> 3) := u32_shr x15 3
          have s10 : wn x2 / (1024 : Int) = wn (x2 >>> 10) := u32_shr x2 10
          go_wp2
          go_quiet (fail)
          have HWx : Hid (WAt (wr.drewN nq) (w.heap.size + 1 + 1) (sched (wordAt l)) k) := HW.out
          have HGx : Hid (GAt (wr.drewN nq) w.heap.size s.at) := hG
          have HRx : Hid (RAt (wr.drewN nq) (w.heap.size + 1)) := hR
          have hbx := below_drewN hb nq
          have d16 : (wr.drewN nq).cell? ⟨w.heap.size + 1 + 1, k - 16, none⟩ = some (.int .u32 (wn x16)) := c16
          have d7 : (wr.drewN nq).cell? ⟨w.heap.size + 1 + 1, k - 7, none⟩ = some (.int .u32 (wn x7)) := c7
          have du : (wr.drewN nq).cell? ⟨w.heap.size + 1 + 1, k, none⟩ = some u := hu
          have dz : (wr.drewN nq).frozen? ⟨w.heap.size + 1 + 1, k, none⟩ = false := hfz
          clear HW hG hR hb c15 c2 c16 c7 hu hfz
          generalize wr.drewN nq = wx at *
          go_wp2_with (go_at_call 130; (first | refine (rotl_m _ _ 7 (by omega) (by omega) (by omega) _).mono ?_ | refine (rotl_m _ _ 18 (by omega) (by omega) (by omega) _).mono ?_ | refine (rotl_m _ _ 17 (by omega) (by omega) (by omega) _).mono ?_ | refine (rotl_m _ _ 19 (by omega) (by omega) (by omega) _).mono ?_); rintro e w' ⟨rfl, rfl⟩)
          go_region
          go_wp2
          go_roundw
          case rel =>
            have hset := HWx.out.set hlt
            rw [hs.out] at hset
            exact ⟨k + 1, by omega, by omega, by go_num, hset, HGx.out.far (by simp; omega) _, HRx.out.far (by simp) _, (hbx.setCell (by simp; omega) _).drew⟩
          case measure => simp [intOf]; omega
        · have hk' : k = 64 := by omega
          have HW : Hid (WAt wr (w.heap.size + 1 + 1) (sched (wordAt l)) 64) := hk' ▸ hW
          have HR := Lib.hid hR
          have c0 := hG.2.1 0 (by omega)
          have c1 := hG.2.1 1 (by omega)
          have c2 := hG.2.1 2 (by omega)
          have c3 := hG.2.1 3 (by omega)
          have c4 := hG.2.1 4 (by omega)
          have c5 := hG.2.1 5 (by omega)
          have c6 := hG.2.1 6 (by omega)
          have c7 := hG.2.1 7 (by omega)
          have HG := Lib.hid hG
          have hV : w.heap.size + 1 + 1 < wr.heap.size := hW.1
          have HB := Lib.hid hb
          clear hW hR hG hk hk' hb hk16
          go_wp2_with fail
          go_loopw [77] (fun i wq => ∃ k : Nat, k ≤ 64 ∧ i = .int .i64 k ∧ ShaR s l w wq wr.heap.size (rounds kAt (sched (wordAt l)) s k)) (fun i _ => 64 - (intOf i).toNat)
          case atStart =>
            have hB1 : ∀ o, Below w.heap.size w (wr.alloc o) := fun o => HB.out.alloc (by omega) o
            have hB2 : ∀ o, Below wr.heap.size wr (wr.alloc o) := fun o => (Below.refl _ _).alloc (by omega) o
            exact ⟨0, by omega, rfl, GAt.start wr _ s.at, HW.out.below (hB2 _), HG.out.below (hB2 _), HR.out.below (hB2 _), hB1 _, hV⟩
          clear HW HG HR HB hlt c0 c1 c2 c3 c4 c5 c6 c7
          case round =>
            obtain ⟨k, hk, rfl, hR⟩ := hrel
            have hki : 0 ≤ (k : Int) ∧ (k : Int) ≤ 64 := by omega
            by_cases hlt : k < 64
            · have hRe : Hid (rounds kAt (sched (wordAt l)) s (k + 1) = rnd (kAt k) (sched (wordAt l) k) (rounds kAt (sched (wordAt l)) s k)) := rfl
              have hkk := (HK.out.to hR.2.2.2.2.1).2 k hlt
              have hww := hR.2.1.2.1 k hlt
              generalize rounds kAt (sched (wordAt l)) s k = x at hR hRe
              generalize sched (wordAt l) k = wk at hRe hww
              generalize kAt k = kk at hRe hkk
              obtain ⟨c0, c1, c2, c3, c4, c5, c6, c7⟩ := hR.get
              have HR := Lib.hid hR
              clear hR
              go_wp2
              go_quiet (fail)
              have HR2 := Lib.hid (HR.out.drewN nq)
              have hk2 : (wr.drewN nq).cell? _ = _ := hkk
              have hw2 : (wr.drewN nq).cell? _ = _ := hww
              clear HR hkk hww c0 c1 c2 c3 c4 c5 c6 c7
              generalize wr.drewN nq = wx at *
              obtain ⟨c0, c1, c2, c3, c4, c5, c6, c7⟩ := HR2.out.get
              go_wp2_with (go_at_call 130; (first | refine (rotl_m _ _ 6 (by omega) (by omega) (by omega) _).mono ?_ | refine (rotl_m _ _ 11 (by omega) (by omega) (by omega) _).mono ?_ | refine (rotl_m _ _ 25 (by omega) (by omega) (by omega) _).mono ?_ | refine (rotl_m _ _ 2 (by omega) (by omega) (by omega) _).mono ?_ | refine (rotl_m _ _ 13 (by omega) (by omega) (by omega) _).mono ?_ | refine (rotl_m _ _ 22 (by omega) (by omega) (by omega) _).mono ?_); rintro e w' ⟨rfl, rfl⟩)
              go_quiet (fail)
              have HR := Lib.hid (HR2.out.drewN nq)
              clear HR2 hk2 hw2 c0 c1 c2 c3 c4 c5 c6 c7
              generalize wx.drewN nq = wx at *
              obtain ⟨c0, c1, c2, c3, c4, c5, c6, c7⟩ := HR.out.get
              have hfz := HR.out.fro
              go_wp2_with (go_at_call 130; (first | refine (rotl_m _ _ 6 (by omega) (by omega) (by omega) _).mono ?_ | refine (rotl_m _ _ 11 (by omega) (by omega) (by omega) _).mono ?_ | refine (rotl_m _ _ 25 (by omega) (by omega) (by omega) _).mono ?_ | refine (rotl_m _ _ 2 (by omega) (by omega) (by omega) _).mono ?_ | refine (rotl_m _ _ 13 (by omega) (by omega) (by omega) _).mono ?_ | refine (rotl_m _ _ 22 (by omega) (by omega) (by omega) _).mono ?_); rintro e w' ⟨rfl, rfl⟩)
              go_roundw
              case rel =>
                refine ⟨k + 1, by omega, by go_num, ?_⟩
                rw [hRe.out]
                have hn := HR.out.next (rnd kk wk x)
                simp only [rnd, tF, uF, bS0, bS1, chF, majF, ← BitVec.add_assoc] at hn ⊢
                exact hn
              case measure => simp [intOf]; omega
            · have hk' : k = 64 := by omega
              rw [hk'] at hR
              generalize hX : rounds kAt (sched (wordAt l)) s 64 = x at *
              have HE := Lib.hid hR.fin
              clear hR hk' hk
              go_wp2_with fail
              go_loopw [162] (fun i wq => ∃ k : Nat, k ≤ 8 ∧ i = .int .i64 k ∧ ShaE s w wq _ x k) (fun i _ => 8 - (intOf i).toNat)
              case atStart => exact ⟨0, by omega, rfl, HE.out⟩
              clear HE
              case round =>
                obtain ⟨k, hk, rfl, hE⟩ := hrel
                have hki : 0 ≤ (k : Int) ∧ (k : Int) ≤ 8 := by omega
                by_cases hlt : k < 8
                · obtain ⟨d1, d2, d3⟩ := hE.now hlt
                  have HE := Lib.hid (hE.next hlt)
                  clear hE
                  go_wp2
                  go_region
                  go_wp2
                  go_roundw
                  case rel => exact ⟨k + 1, by omega, by go_num, HE.out⟩
                  case measure => simp [intOf]; omega
                · have hk' : k = 8 := by omega
                  have e0 := hE.last hk' 0 (by omega)
                  have e1 := hE.last hk' 1 (by omega)
                  have e2 := hE.last hk' 2 (by omega)
                  have e3 := hE.last hk' 3 (by omega)
                  have e4 := hE.last hk' 4 (by omega)
                  have e5 := hE.last hk' 5 (by omega)
                  have e6 := hE.last hk' 6 (by omega)
                  have e7 := hE.last hk' 7 (by omega)
                  have HP := Lib.hid (hE.2.2.1.put (s.add x).at)
                  have HB := Lib.hid (Below.eight hE.2.2.2.1 (s.add x))
                  obtain ⟨-, -, ⟨hR1, hR2, hR3⟩, hb, -⟩ := hE
                  obtain ⟨r0, f0⟩ := hR2 0 (by omega)
                  obtain ⟨r1, f1⟩ := hR2 1 (by omega)
                  obtain ⟨r2, f2⟩ := hR2 2 (by omega)
                  obtain ⟨r3, f3⟩ := hR2 3 (by omega)
                  obtain ⟨r4, f4⟩ := hR2 4 (by omega)
                  obtain ⟨r5, f5⟩ := hR2 5 (by omega)
                  obtain ⟨r6, f6⟩ := hR2 6 (by omega)
                  obtain ⟨r7, f7⟩ := hR2 7 (by omega)
                  have HX := Lib.hid hX
                  clear hk' hk hR2 hb hX
                  go_wp2
                  clear hR1 hR3 e0 e1 e2 e3 e4 e5 e6 e7 f0 f1 f2 f3 f4 f5 f6 f7
                  revert HP HB
                  generalize World.setCell _ ⟨w.heap.size + 1, 7, none⟩ _ = wz
                  intro HP HB
                  have c0 := HP.out.2.1 0 (by omega)
                  have c1 := HP.out.2.1 1 (by omega)
                  have c2 := HP.out.2.1 2 (by omega)
                  have c3 := HP.out.2.1 3 (by omega)
                  have c4 := HP.out.2.1 4 (by omega)
                  have c5 := HP.out.2.1 5 (by omega)
                  have c6 := HP.out.2.1 6 (by omega)
                  have c7 := HP.out.2.1 7 (by omega)
                  clear HP
                  refine bodyPost_ret (v := (s.add x).val) (by simp [results, Tryd.results112, asAddr, go_sem, c0, c1, c2, c3, c4, c5, c6, c7]; rfl) rfl ⟨?_, HB.out⟩
                  rw [← HX.out]; rfl
end Go.Proofs.YtecimgkgdpnaeaaDoor
