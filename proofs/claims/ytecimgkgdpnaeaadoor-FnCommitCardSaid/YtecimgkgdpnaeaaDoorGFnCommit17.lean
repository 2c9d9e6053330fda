/-
  Texts of this proof, laid into one: Sha3, Sha4, Sha5.
-/
import Derived.Deep.AppendLies
import Derived.Deep.RegionWith
import Derived.Deep.RegionLaw
import Derived.StillTailTactics
import Derived.Test.YtecimgkgdpnaeaaDoorGFnCommit16
import Derived.Deep.CutRange
import Derived.Test.YtecimgkgdpnaeaaDoorGFnCommit11
import Derived.Deep.RegionHeld3
/-
  SHA-256 of the reference: a block.
-/
namespace Go.Proofs.YtecimgkgdpnaeaaDoor
open Go.ChangeShapes Go.WideShapes Go.ChangeAt Go.RowKit
set_option linter.unusedVariables false
set_option linter.unusedSimpArgs false
set_option maxRecDepth 100000

theorem l3Right_m (x : W32) (m : Int) (n : Nat) (hm : m = (n : Int)) (h1 : 1 ≤ n) (h2 : n ≤ 31) (w : World) :
    Calls Tryd.prog 131 #[.int .i64 (wn x), .int .u64 m] w fun e w' => e = .returned (.int .i64 (wn (rotr x n))) ∧ w = w' := by subst hm; exact l3Right_any x n h1 h2 w
theorem l3Right_s (x : W32) (m : Int) (n : Nat) (hm : m = (n : Int)) (h1 : 1 ≤ n) (h2 : n ≤ 31) (w : World) :
    Calls Tryd.prog 131 #[.int .i64 (wn x), .int .u64 m] w fun e w' => e = .returned (.int .i64 (wn (rotr x n))) ∧ w' = w := (l3Right_m x m n hm h1 h2 w).mono fun e w' h => ⟨h.1, h.2.symm⟩
theorem l3Word_s (z : Int) (w : World) :
    Calls Tryd.prog 132 #[.int .i64 z] w fun e w' => e = .returned (.int .i64 (wn (BitVec.ofInt 32 z))) ∧ w' = w := (l3Word_any z w).mono fun e w' h => ⟨h.1, h.2.symm⟩
/-- Block B holds so many words, and m cells. -/
def VAt (w : World) (B : Nat) (f : Nat → W32) (n m : Nat) : Prop := B < w.heap.size ∧ (∀ j, j < n → w.cell? ⟨B, j, none⟩ = some (.int .i64 (wn (f j)))) ∧ (∀ j, j < m → ∃ u, w.cell? ⟨B, j, none⟩ = some u) ∧ ∀ j, w.frozen? ⟨B, j, none⟩ = false
/-- Block B holds so many words (to be read). -/
def KAt (w : World) (B : Nat) (f : Nat → W32) (n : Nat) : Prop := B < w.heap.size ∧ ∀ j, j < n → w.cell? ⟨B, j, none⟩ = some (.int .i64 (wn (f j)))
theorem VAt.below {w w' : World} {B n m : Nat} {f : Nat → W32} (h : VAt w B f n m) (hb : Below w.heap.size w w') : VAt w' B f n m := by
  obtain ⟨h1, h2, h3, h4⟩ := h
  exact ⟨Nat.lt_of_lt_of_le h1 hb.size, fun j hj => (hb.cell (p := ⟨B, j, none⟩) h1).trans (h2 j hj), fun j hj => by obtain ⟨u, hu⟩ := h3 j hj; exact ⟨u, (hb.cell (p := ⟨B, j, none⟩) h1).trans hu⟩, fun j => (hb.frozen (p := ⟨B, j, none⟩) h1).trans (h4 j)⟩
theorem KAt.below {w w' : World} {B n : Nat} {f : Nat → W32} (h : KAt w B f n) (hb : Below w.heap.size w w') : KAt w' B f n :=
  ⟨Nat.lt_of_lt_of_le h.1 hb.size, fun j hj => (hb.cell (p := ⟨B, j, none⟩) h.1).trans (h.2 j hj)⟩
theorem VAt.set {w : World} {B n m : Nat} {f : Nat → W32} (h : VAt w B f n m) (hn : n < m) : VAt (w.setCell ⟨B, n, none⟩ (.int .i64 (wn (f n)))) B f (n + 1) m := by
  obtain ⟨h1, h2, h3, h4⟩ := h
  obtain ⟨u, hu⟩ := h3 n hn
  refine ⟨by simpa [World.setCell] using h1, fun j hj => ?_, fun j hj => ?_, fun j => by rw [World.frozen?_setCell]; exact h4 j⟩
  · by_cases e : j = n
    · subst e; exact World.cell?_setCell_same w _ _ hu
    · rw [World.cell?_setCell_other _ _ _ _ (by intro h; cases h; exact e rfl)]; exact h2 j (by omega)
  · by_cases e : j = n
    · subst e; exact ⟨_, World.cell?_setCell_same w _ _ hu⟩
    · rw [World.cell?_setCell_other _ _ _ _ (by intro h; cases h; exact e rfl)]; exact h3 j hj
theorem VAt.start (w : World) (cs : Array Value) (t : TypeId) (f : Nat → W32) {B m : Nat} (hB : B = w.heap.size) (hcs : cs.size = m) : VAt (w.alloc (.cells cs t)) B f 0 m := by
  subst hB; exact
  ⟨by simp, fun j hj => absurd hj (by omega), fun j hj => ⟨cs[j]'(by omega), by rw [World.cell?_alloc_new]; exact Array.getElem?_eq_getElem (by omega)⟩, frozen_new w cs t⟩
theorem VAt.k {w : World} {B n m : Nat} {f : Nat → W32} (h : VAt w B f n m) : KAt w B f n := ⟨h.1, h.2.1⟩
theorem KAt.far {w : World} {B n : Nat} {f : Nat → W32} (h : KAt w B f n) {p : Addr} (hp : p.block ≠ B) (v : Value) : KAt (w.setCell p v) B f n :=
  ⟨by simpa [World.setCell] using h.1, fun j hj => (World.cell?_setCell_other _ _ _ _ (by intro h; subst h; exact hp rfl)).trans (h.2 j hj)⟩

/-- Eight words as a row. -/
def g8 (g : Nat → W32) : List Value := [.int .i64 (wn (g 0)), .int .i64 (wn (g 1)), .int .i64 (wn (g 2)), .int .i64 (wn (g 3)), .int .i64 (wn (g 4)), .int .i64 (wn (g 5)), .int .i64 (wn (g 6)), .int .i64 (wn (g 7))]
theorem g8_get (g : Nat → W32) (j : Nat) (h : j < 8) : (g8 g)[j]? = some (.int .i64 (wn (g j))) := by
  match j, h with
  | 0, _ => rfl
  | 1, _ => rfl
  | 2, _ => rfl
  | 3, _ => rfl
  | 4, _ => rfl
  | 5, _ => rfl
  | 6, _ => rfl
  | 7, _ => rfl
theorem g8_one (g : Nat → W32) : ∀ u ∈ g8 g, u.oneCell' = true := by
  intro u hu
  obtain ⟨j, hj, rfl⟩ := List.getElem_of_mem hu
  have h8 : j < 8 := hj
  have := g8_get g j h8
  rw [List.getElem?_eq_getElem hj] at this
  rw [Option.some.inj this]
  rfl
theorem KAt.news {w : World} {H : Nat} {g : Nat → W32} (h : KAt w H g 8) : ∀ j u, (g8 g)[j]? = some u → w.cell? ((⟨H, 0, none⟩ : Addr).add j) = some u := by
  intro j u hu
  have hj : j < 8 := by obtain ⟨h, _⟩ := List.getElem?_eq_some_iff.1 hu; exact h
  have e : (⟨H, 0, none⟩ : Addr).add j = ⟨H, j, none⟩ := by unfold Addr.add; split <;> simp_all
  rw [e, h.2 j hj, ← hu, g8_get g j hj]
theorem KAt.of_own {w : World} {base : Nat} {e : TypeId} {V cap : Nat} {g : Nat → W32} (h : w.ownsRow base e 1 (.slice (some ⟨V, 0, none⟩) 8 cap) 8 (g8 g)) : KAt w V g 8 := by
  obtain ⟨b, c, hv, _, hlt⟩ := h.form (by omega)
  simp only [Value.slice.injEq, Option.some.injEq, Addr.mk.injEq] at hv
  obtain ⟨⟨rfl, _, _⟩, _, _⟩ := hv
  exact ⟨hlt, fun j hj => by have := h.cellAt j (by omega); rw [g8_get g j hj] at this; exact this⟩
theorem KAt.start (w : World) (t : TypeId) (g : Nat → W32) : KAt (w.alloc (.cells #[.int .i64 (wn (g 0)), .int .i64 (wn (g 1)), .int .i64 (wn (g 2)), .int .i64 (wn (g 3)), .int .i64 (wn (g 4)), .int .i64 (wn (g 5)), .int .i64 (wn (g 6)), .int .i64 (wn (g 7))] t)) w.heap.size g 8 :=
  ⟨by simp, fun j hj => by
    rw [World.cell?_alloc_new]
    match j, hj with
    | 0, _ => rfl
    | 1, _ => rfl
    | 2, _ => rfl
    | 3, _ => rfl
    | 4, _ => rfl
    | 5, _ => rfl
    | 6, _ => rfl
    | 7, _ => rfl⟩
/-- What the third loop knows. -/
def LoopR (l : List UInt8) (w wr : World) (V K : Nat) (x : St) : Prop := KAt wr V x.at 8 ∧ KAt wr w.heap.size (sched (wordAt l)) 64 ∧ KAt wr K kAt 64 ∧ Below w.heap.size w wr
theorem LoopR.drewN {l : List UInt8} {w wr : World} {V K : Nat} {x : St} (h : LoopR l w wr V K x) (n : Nat) : LoopR l w (wr.drewN n) V K x := ⟨h.1, h.2.1, h.2.2.1, below_drewN h.2.2.2 n⟩
theorem LoopR.drew {l : List UInt8} {w wr : World} {V K : Nat} {x : St} (h : LoopR l w wr V K x) : LoopR l w wr.drew V K x := ⟨h.1, h.2.1, h.2.2.1, h.2.2.2.drew⟩
theorem KAt.get8 {w : World} {V : Nat} {x : St} (h : KAt w V x.at 8) :
    w.cell? ⟨V, 0, none⟩ = some (.int .i64 (wn x.a)) ∧ w.cell? ⟨V, 1, none⟩ = some (.int .i64 (wn x.b)) ∧ w.cell? ⟨V, 2, none⟩ = some (.int .i64 (wn x.c)) ∧ w.cell? ⟨V, 3, none⟩ = some (.int .i64 (wn x.d)) ∧
    w.cell? ⟨V, 4, none⟩ = some (.int .i64 (wn x.e)) ∧ w.cell? ⟨V, 5, none⟩ = some (.int .i64 (wn x.f)) ∧ w.cell? ⟨V, 6, none⟩ = some (.int .i64 (wn x.g)) ∧ w.cell? ⟨V, 7, none⟩ = some (.int .i64 (wn x.h)) :=
  ⟨h.2 0 (by omega), h.2 1 (by omega), h.2 2 (by omega), h.2 3 (by omega), h.2 4 (by omega), h.2 5 (by omega), h.2 6 (by omega), h.2 7 (by omega)⟩
theorem LoopR.start {l : List UInt8} {w wr : World} {V K : Nat} {x : St} (h : LoopR l w wr V K x) (t : TypeId) (y : St) :
    LoopR l w (wr.alloc (.cells #[.int .i64 (wn y.a), .int .i64 (wn y.b), .int .i64 (wn y.c), .int .i64 (wn y.d), .int .i64 (wn y.e), .int .i64 (wn y.f), .int .i64 (wn y.g), .int .i64 (wn y.h)] t)) wr.heap.size K y := by
  have hb : ∀ o, Below wr.heap.size wr (wr.alloc o) := fun o => (Below.refl _ _).alloc (Nat.le_refl _) o
  exact ⟨KAt.start wr t y.at, h.2.1.below (hb _), h.2.2.1.below (hb _), Below.next h.2.2.2 (hb _)⟩
theorem cells1 {W : World} {g : Nat} {a : Value} (h0 : W.cell? ⟨g, 0, none⟩ = some a) : ∀ j u, [a][j]? = some u → W.cell? ((⟨g, 0, none⟩ : Addr).add j) = some u := by
  intro j u hu
  match j, hu with
  | 0, hu => cases hu; exact h0
theorem infoI : (Tryd.prog.info? 3).map (fun i => (i.zero, i.size, i.bytes)) = some (some (.int .i64 0), 1, 8) := by kernel_rfl
theorem make64 : ∃ cs : Array Value, cs.size = 64 ∧ ∀ w : World, (Instr.makeSlice 43 (.int .i64 64) (.int .i64 64)).run Tryd.prog w = .ok (.slice (some ⟨w.heap.size, 0, none⟩) 64 64) (w.alloc (.cells cs 3)) := by
  obtain ⟨i0, hi, hz0, hz1, hz2⟩ := info_parts infoI
  refine ⟨madeCells (Value.int .i64 0).cells (64 * i0.size), by rw [size_madeCells, hz1], fun w => ?_⟩
  exact run_make w 43 3 i0 _ Tryd.underlying43 hi hz0 .i64 .i64 64 64 (by omega) (by omega) (by rw [hz2]; omega) (by omega)

set_option maxHeartbeats 16000000 in
theorem l3Block_any (s : St) (l : List UInt8) (w : World) (H K hc kc : Nat) (hl : l.length = 64) (hH : KAt w H s.at 8) (hK : KAt w K kAt 64) :
    Calls Tryd.prog 114 #[.slice (some ⟨H, 0, none⟩) 8 hc, .string (S l), .slice (some ⟨K, 0, none⟩) 64 kc] w fun e w' => ∃ B c, e = .returned (.slice (some ⟨B, 0, none⟩) 8 c) ∧ KAt w' B (shaBlk s l).at 8 ∧ Below w.heap.size w w' := by
  have HH := Lib.hid hH
  have HK := Lib.hid hK
  clear hH hK
  obtain ⟨cs, hcs, hmk⟩ := make64
  go_enter Tryd.func114, Tryd.ntmps114
  go_wp2_with fail
  go_loopw [8] (fun i wr => ∃ k : Nat, k ≤ 16 ∧ i = .int .i64 k ∧ VAt wr w.heap.size (wordAt l) k 64 ∧ Below w.heap.size w wr) (fun i _ => 16 - (intOf i).toNat)
  case atStart => exact ⟨0, by omega, rfl, VAt.start _ _ _ _ rfl hcs, (Below.refl _ _).alloc (Nat.le_refl _) _⟩
  case round =>
    obtain ⟨k, hk, rfl, hW, hb⟩ := hrel
    by_cases hlt : k < 16
    · have hbz := hb.size
      have hl' : (l.length : Int) = 64 := by omega
      have hki : 0 ≤ (k : Int) ∧ (k : Int) < 16 := by omega
      have t0 : (4 * (k : Int)).toNat = 4 * k := by omega
      have t1 : (4 * (k : Int) + 1).toNat = 4 * k + 1 := by omega
      have t2 : (4 * (k : Int) + 2).toNat = 4 * k + 2 := by omega
      have t3 : (4 * (k : Int) + 3).toNat = 4 * k + 3 := by omega
      have e0 : ∀ h : 4 * k < l.length, l[4 * k]'h = l.getD (4 * k) 0 := fun h => by simp [List.getD, List.getElem?_eq_getElem h]
      have e1 : ∀ h : 4 * k + 1 < l.length, l[4 * k + 1]'h = l.getD (4 * k + 1) 0 := fun h => by simp [List.getD, List.getElem?_eq_getElem h]
      have e2 : ∀ h : 4 * k + 2 < l.length, l[4 * k + 2]'h = l.getD (4 * k + 2) 0 := fun h => by simp [List.getD, List.getElem?_eq_getElem h]
      have e3 : ∀ h : 4 * k + 3 < l.length, l[4 * k + 3]'h = l.getD (4 * k + 3) 0 := fun h => by simp [List.getD, List.getElem?_eq_getElem h]
      have HS := Lib.hid (hW.set (by omega))
      rw [show wordAt l k = wordB (l.getD (4 * k) 0) (l.getD (4 * k + 1) 0) (l.getD (4 * k + 2) 0) (l.getD (4 * k + 3) 0) from rfl] at HS
      obtain ⟨u, hu⟩ := hW.2.2.1 k (by omega)
      have hfz := hW.2.2.2 k
      generalize l.getD (4 * k) 0 = b0 at *
      generalize l.getD (4 * k + 1) 0 = b1 at *
      generalize l.getD (4 * k + 2) 0 = b2 at *
      generalize l.getD (4 * k + 3) 0 = b3 at *
      have c0 := bw_wn b0
      have c1 := bw_wn b1
      have c2 := bw_wn b2
      have c3 := bw_wn b3
      have s0 : IntKind.i64.wrap (wn (bw b0) * (16777216 : Int)) = wn (bw b0 <<< 24) := byte_shl b0 24 (by omega)
      have s1 : IntKind.i64.wrap (wn (bw b1) * (65536 : Int)) = wn (bw b1 <<< 16) := byte_shl b1 16 (by omega)
      have s2 : IntKind.i64.wrap (wn (bw b2) * (256 : Int)) = wn (bw b2 <<< 8) := byte_shl b2 8 (by omega)
      clear hW
      go_wp2
      go_region
      go_wp2
      go_roundw
      case rel =>
        exact ⟨k + 1, by omega, by go_num, HS.out, (hb.setCell (by simp) _).drew⟩
      case measure => simp [intOf]; omega
    · have hk' : k = 16 := by omega
      have HW : Hid (VAt wr w.heap.size (sched (wordAt l)) 16 64) := ⟨hW.1, fun j hj => by rw [sched_lo _ _ hj]; exact hW.2.1 j (by omega), hW.2.2⟩
      have hb0 := hb
      clear hW hb hk hk'
      go_wp2_with fail
      go_loopw [9] (fun i wr => ∃ k : Nat, 16 ≤ k ∧ k ≤ 64 ∧ i = .int .i64 k ∧ VAt wr w.heap.size (sched (wordAt l)) k 64 ∧ Below w.heap.size w wr) (fun i _ => 64 - (intOf i).toNat)
      case atStart => exact ⟨16, by omega, by omega, rfl, HW.out, hb0⟩
      clear HW hb0 hlt
      case round =>
        obtain ⟨k, hk16, hk, rfl, hW, hb⟩ := hrel
        by_cases hlt : k < 64
        · have c15 := hW.2.1 (k - 15) (by omega)
          have c2 := hW.2.1 (k - 2) (by omega)
          have c16 := hW.2.1 (k - 16) (by omega)
          have c7 := hW.2.1 (k - 7) (by omega)
          have t15 : ((k : Int) - 15).toNat = k - 15 := by omega
          have t2 : ((k : Int) - 2).toNat = k - 2 := by omega
          have t16 : ((k : Int) - 16).toNat = k - 16 := by omega
          have t7 : ((k : Int) - 7).toNat = k - 7 := by omega
          have hki : 16 ≤ (k : Int) ∧ (k : Int) < 64 := by omega
          have hk1 : 0 ≤ (k : Int) - 16 ∧ (k : Int) - 16 < 64 := by omega
          have hk2 : 0 ≤ (k : Int) - 7 ∧ (k : Int) - 7 < 64 := by omega
          have hk3 : IntKind.i64.wrap ((k : Int) - 16) = (k : Int) - 16 := by rw [IntKind.wrap_i64]; omega
          have hk4 : IntKind.i64.wrap ((k : Int) - 7) = (k : Int) - 7 := by rw [IntKind.wrap_i64]; omega
          have hk6 : (7 : Int) ≤ k := by omega
          have hk5 : 0 ≤ (k : Int) ∧ (k : Int) < 64 := by omega
          obtain ⟨u, hu⟩ := hW.2.2.1 k (by omega)
          have hfz := hW.2.2.2 k
          have hs := sched_hi (wordAt l) k hk16
          have hset := hW.set hlt
          rw [hs] at hset
          clear hs hW
          generalize sched (wordAt l) (k - 15) = x15 at *
          generalize sched (wordAt l) (k - 2) = x2 at *
          generalize sched (wordAt l) (k - 16) = x16 at *
          generalize sched (wordAt l) (k - 7) = x7 at *
          have HS := Lib.hid hset
          clear hset
          have s3 : wn x15 / (8 : Int) = wn (x15 >>> 3) := u32_shr x15 3
          have s10 : wn x2 / (1024 : Int) = wn (x2 >>> 10) := u32_shr x2 10
          go_wp2
          go_quiet ((go_at_call 131; first | refine Calls.quiet_of_same (l3Right_s _ _ 7 (by omega) (by omega) (by omega) _) | refine Calls.quiet_of_same (l3Right_s _ _ 18 (by omega) (by omega) (by omega) _) | refine Calls.quiet_of_same (l3Right_s _ _ 17 (by omega) (by omega) (by omega) _) | refine Calls.quiet_of_same (l3Right_s _ _ 19 (by omega) (by omega) (by omega) _)))
          have HS2 : Hid (VAt ((wr.drewN nq).setCell _ _) _ _ (k + 1) 64) := HS.out
          have hb2 := below_drewN hb nq
          have d15 : (wr.drewN nq).cell? _ = _ := c15
          have d2 : (wr.drewN nq).cell? _ = _ := c2
          have d16 : (wr.drewN nq).cell? _ = _ := c16
          have d7 : (wr.drewN nq).cell? _ = _ := c7
          have du : (wr.drewN nq).cell? _ = _ := hu
          have dz : (wr.drewN nq).frozen? _ = _ := hfz
          clear HS hb c15 c2 c16 c7 hu hfz
          generalize wr.drewN nq = wx at *
          go_wp2
          go_quiet ((go_at_call 131; first | refine Calls.quiet_of_same (l3Right_s _ _ 7 (by omega) (by omega) (by omega) _) | refine Calls.quiet_of_same (l3Right_s _ _ 18 (by omega) (by omega) (by omega) _) | refine Calls.quiet_of_same (l3Right_s _ _ 17 (by omega) (by omega) (by omega) _) | refine Calls.quiet_of_same (l3Right_s _ _ 19 (by omega) (by omega) (by omega) _)))
          have HS : Hid (VAt ((wx.drewN nq).setCell _ _) _ _ (k + 1) 64) := HS2.out
          have hb := below_drewN hb2 nq
          have c16 : (wx.drewN nq).cell? _ = _ := d16
          have c7 : (wx.drewN nq).cell? _ = _ := d7
          have hu : (wx.drewN nq).cell? _ = _ := du
          have hfz : (wx.drewN nq).frozen? _ = _ := dz
          clear HS2 hb2 d15 d2 d16 d7 du dz
          generalize wx.drewN nq = wx at *
          go_wp2
          refine wp_region_still_tail 19 (by kernel_rfl) (by kernel_rfl) ?_
          simp only [List.take_succ_cons, List.take_zero, List.drop_succ_cons, List.drop_zero]
          change wpStill _ _ wx.drew (fun a' => wpList _ _ _ _ a' wx.drew) _ _
          have HS2 : Hid (VAt ((wx.drew).setCell _ _) _ _ (k + 1) 64) := HS.out
          have hb2 := hb.drew
          have d16 : (wx.drew).cell? _ = _ := c16
          have d7 : (wx.drew).cell? _ = _ := c7
          have du : (wx.drew).cell? _ = _ := hu
          have dz : (wx.drew).frozen? _ = _ := hfz
          clear HS hb c16 c7 hu hfz
          generalize wx.drew = wx at *
          repeat (first | still_step | still_call (l3Word_s _ _))
          refine wpStill_nil ?_
          go_wp2
          go_roundw
          case rel => exact ⟨k + 1, by omega, by omega, by go_num, HS2.out, hb2.setCell (Nat.le_refl _) _⟩
          case measure => simp [intOf]; omega
        · have hk' : k = 64 := by omega
          have HW : Hid (KAt wr w.heap.size (sched (wordAt l)) 64) := hk' ▸ hW.k
          have hbz := hb.size
          have HH1 := Lib.hid ((HH.out.below hb).below ((Below.refl _ _).alloc (Nat.le_refl _) (.cells #[] 3)))
          obtain ⟨i0, hi, hz0, hz1, hz2⟩ := info_parts infoI
          have hown := World.ownsRow_lit wr #[] 0 (e := 3) (size := 1) (base := wr.heap.size) (Nat.le_refl _) (by simp [maxLen]) rfl
          clear hW hk hk' hk16
          go_wp2_with (refine wpList_append_lies _ rfl _ _ 43 rfl wr.heap.size 3 i0 (.int .i64 0) 1 8 Tryd.underlying43 hi hz0 hz1 hz2 rfl (by decide) _ 0 [] rfl hown ⟨H, 0, none⟩ 8 hc (g8 s.at) rfl rfl HH1.out.news (g8_one _) (by omega) (by simp [maxLen]) (by omega) (by simp) _ rfl ?_; intro g cap w2 hown2 hgr2 _ _; have hbn : Below wr.heap.size wr w2 := ((Below.refl _ _).alloc (Nat.le_refl _) _).grown hgr2 (by simp) (fun q hq => (hown.lt q hq).1); have hV2 := KAt.of_own hown2; clear hown2 hgr2)
          have HR : Hid (LoopR l w w2 g K s) := ⟨hV2, HW.out.below hbn, HK.out.below (Below.next hb hbn), Below.next hb hbn⟩
          clear hV2 HW HH1 hbn hbz hb hown
          go_loopw [12, 13] (fun v i wq => ∃ k : Nat, k ≤ 64 ∧ i = .int .i64 k ∧ ∃ V cap, v = .slice (some ⟨V, 0, none⟩) 8 cap ∧ LoopR l w wq V K (rounds kAt (sched (wordAt l)) s k)) (fun _ i _ => 64 - (intOf i).toNat)
          case atStart => exact ⟨0, by omega, rfl, g, cap, rfl, HR.out⟩
          clear HR hlt
          case round =>
            obtain ⟨k, hk, rfl, V, cap, rfl, hR⟩ := hrel
            have hki : 0 ≤ (k : Int) ∧ (k : Int) ≤ 64 := by omega
            by_cases hlt : k < 64
            · have hki2 : (k : Int) < 64 := by omega
              have hRe : Hid (rounds kAt (sched (wordAt l)) s (k + 1) = rnd (kAt k) (sched (wordAt l) k) (rounds kAt (sched (wordAt l)) s k)) := rfl
              have hkk := hR.2.2.1.2 k hlt
              have hww := hR.2.1.2 k hlt
              generalize rounds kAt (sched (wordAt l)) s k = x at hR hRe
              generalize sched (wordAt l) k = wk at hRe hww
              generalize kAt k = kk at hRe hkk
              obtain ⟨c0, c1, c2, c3, c4, c5, c6, c7⟩ := hR.1.get8
              have HR := Lib.hid hR
              clear hR
              go_wp2
              go_quiet ((first | (go_at_call 131; first | refine Calls.quiet_of_same (l3Right_s _ _ 6 (by omega) (by omega) (by omega) _) | refine Calls.quiet_of_same (l3Right_s _ _ 11 (by omega) (by omega) (by omega) _) | refine Calls.quiet_of_same (l3Right_s _ _ 25 (by omega) (by omega) (by omega) _)) | (go_at_call 132; refine Calls.quiet_of_same (l3Word_s _ _))))
              have HR2 := Lib.hid (HR.out.drewN nq)
              clear HR hkk hww c0 c1 c2 c3 c4 c5 c6 c7
              generalize wr.drewN nq = wx at *
              obtain ⟨c0, c1, c2, c3, c4, c5, c6, c7⟩ := HR2.out.1.get8
              go_wp2
              go_quiet ((first | (go_at_call 131; first | refine Calls.quiet_of_same (l3Right_s _ _ 2 (by omega) (by omega) (by omega) _) | refine Calls.quiet_of_same (l3Right_s _ _ 13 (by omega) (by omega) (by omega) _) | refine Calls.quiet_of_same (l3Right_s _ _ 22 (by omega) (by omega) (by omega) _)) | (go_at_call 132; refine Calls.quiet_of_same (l3Word_s _ _))))
              have HR := Lib.hid (HR2.out.drewN nq).drew
              clear HR2 c0 c1 c2 c3 c4 c5 c6 c7
              generalize wx.drewN nq = wx at *
              go_wp2
              refine wp_region_still_tail 28 (by kernel_rfl) (by kernel_rfl) ?_
              simp only [List.take_succ_cons, List.take_zero, List.drop_succ_cons, List.drop_zero]
              change wpStill _ _ wx.drew (fun a' => wpList _ _ _ _ a' wx.drew) _ _
              generalize wx.drew = wx at *
              obtain ⟨c0, c1, c2, c3, c4, c5, c6, c7⟩ := HR.out.1.get8
              repeat (first | still_step | still_call (l3Word_s _ _))
              refine wpStill_nil ?_
              clear c0 c1 c2 c3 c4 c5 c6 c7
              go_wp2
              go_roundw
              case rel =>
                refine ⟨k + 1, by omega, by go_num, _, _, rfl, ?_⟩
                rw [hRe.out]
                exact HR.out.start 3 (rnd kk wk x)
              case measure => simp [intOf]; omega
            · have hk' : k = 64 := by omega
              rw [hk'] at hR
              generalize hX : rounds kAt (sched (wordAt l)) s 64 = x at *
              have HX : Hid (shaBlk s l = s.add x) := by rw [← hX]; rfl
              have HR := Lib.hid hR
              clear hR hk' hk hX
              go_wp2_with fail
              go_loopw [18, 19] (fun out i wq => ∃ k : Nat, k ≤ 8 ∧ i = .int .i64 k ∧ wq.ownsRow wr.heap.size 3 1 out k ((g8 (s.add x).at).take k) ∧ Below wr.heap.size wr wq) (fun _ i _ => 8 - (intOf i).toNat)
              case atStart => exact ⟨0, by omega, rfl, World.ownsRow_lit wr #[] 0 (Nat.le_refl _) (by simp [maxLen]) rfl, (Below.refl _ _).alloc (Nat.le_refl _) _⟩
              case round =>
                obtain ⟨k, hk, rfl, hown, hb⟩ := hrel
                have hki : 0 ≤ (k : Int) ∧ (k : Int) ≤ 8 := by omega
                by_cases hlt : k < 8
                · have hki2 : (k : Int) < 8 := by omega
                  have hst : Hid ((g8 (s.add x).at).take (k + 1) = (g8 (s.add x).at).take k ++ [.int .i64 (wn (s.at k + x.at k))]) := by
                    unfold Hid
                    rw [List.take_add_one, g8_get _ k hlt]
                    congr 3
                    match k, hlt with
                    | 0, _ => rfl
                    | 1, _ => rfl
                    | 2, _ => rfl
                    | 3, _ => rfl
                    | 4, _ => rfl
                    | 5, _ => rfl
                    | 6, _ => rfl
                    | 7, _ => rfl
                  have hbz := hb.size
                  have c0 := (HR.out.1.below hb).2 k hlt
                  have c1 := ((HH.out.below HR.out.2.2.2).below hb).2 k hlt
                  obtain ⟨i0, hi, hz0, hz1, hz2⟩ := info_parts infoI
                  generalize s.at k = a at *
                  generalize hxk : x.at k = b at *
                  go_wp2
                  go_region_law (first
                    | (refine step_append_lies _ rfl _ _ 43 rfl _ 3 i0 (.int .i64 0) 1 8 Tryd.underlying43 hi hz0 hz1 hz2 rfl (by decide) _ k _ rfl (hown.alloc _) ⟨wr.heap.size, 0, none⟩ 1 1 [.int .i64 (wn (a + b))] rfl rfl (cells1 (by simp [go_sem])) (by intro u hu; simp at hu; subst hu; rfl) (by omega) (by unfold maxLen; omega) (by omega) (by simp; omega) _ rfl ?_; intro g cap w2 hown2 hgr2 _ _; have hb2 := ((hb.alloc hbz _).drew).grown hgr2 (by simp; omega) (fun q hq => (hown.lt q hq).1))
                    | (go_simp; go_at_call 132; refine (l3Word_any _ _).mono ?_; rintro e w' ⟨rfl, rfl⟩))
                  all_goals
                    go_wp2
                    go_roundw
                    case rel => exact ⟨k + 1, by omega, by go_num, by rw [hst.out]; exact hown2, hb2⟩
                    case measure => simp [intOf]; omega
                · have hk' : k = 8 := by omega
                  have hfull : (g8 (s.add x).at).take k = g8 (s.add x).at := by rw [hk']; rfl
                  rw [hfull, hk'] at hown
                  obtain ⟨g, cap, hv, _, _⟩ := hown.form (by omega)
                  subst hv
                  have HO : Hid (KAt wr g (shaBlk s l).at 8) := by rw [HX.out]; exact KAt.of_own hown
                  have HB := Lib.hid (Below.next HR.out.2.2.2 hb)
                  clear hown hb hfull hk' HR
                  go_wp2
                  go_ret
                  exact ⟨g, cap, rfl, HO.out, HB.out⟩
end Go.Proofs.YtecimgkgdpnaeaaDoor

/-
  Sha of the program.
-/
namespace Go.Proofs.YtecimgkgdpnaeaaDoor
open Go.ChangeShapes Go.WideShapes Go.ChangeAt Go.RowKit
set_option linter.unusedVariables false
set_option linter.unusedSimpArgs false
set_option maxRecDepth 100000

/-- The words of a state, as bytes. -/
def outN (x : St) : Nat → List UInt8
  | 0 => []
  | k + 1 => outN x k ++ fixedL 4 (x.at k).toNat
theorem outN_8 (x : St) : outN x 8 = x.out := by simp [outN, St.out, St.at]
theorem outN_len (x : St) (k : Nat) : (outN x k).length = 4 * k := by
  induction k with
  | zero => rfl
  | succ k ih => rw [outN, List.length_append, ih, fixedL_length]; omega
theorem fixed_w (x : W32) : fixedS (wn x) 4 = fixedL 4 x.toNat := fixedS_yes (v := 4) (by omega) (by omega) (by have := x.isLt; omega)
/-- So many bytes 0. -/
def ZAt (W : World) (g m : Nat) : Prop := ∀ j, j < m → W.cell? ⟨g, j, none⟩ = some (.int .u8 0)
theorem S_take (l : List UInt8) (a b : Nat) : (S l).extract a b = S ((l.drop a).take (b - a)) := by
  unfold S
  simp [ByteArray.extract_mk]
theorem infoB : (Tryd.prog.info? 5).map (fun i => (i.zero, i.size, i.bytes)) = some (some (.int .u8 0), 1, 1) := by kernel_rfl
theorem makeZ (z : Nat) (hz : z ≤ 63) : ∃ cs : Array Value, (∀ W : World, (Instr.makeSlice 22 (.int .i64 ((z : Int) + 1)) (.int .i64 ((z : Int) + 1))).run Tryd.prog W = .ok (.slice (some ⟨W.heap.size, 0, none⟩) (z + 1) (z + 1)) (W.alloc (.cells cs 5))) ∧
    (∀ W : World, ZAt (W.alloc (.cells cs 5)) W.heap.size (z + 1)) ∧ ∀ (W : World) (g : Nat), ZAt W g (z + 1) → (convert 22 9 (.slice (some ⟨g, 0, none⟩) (z + 1) (z + 1))).run Tryd.prog W = .ok (.string (S (List.replicate (z + 1) 0))) W := by
  obtain ⟨i0, hi, hz0, hz1, hz2⟩ := info_parts infoB
  refine ⟨madeCells (Value.int .u8 0).cells ((z + 1) * i0.size), fun W => ?_, fun W j hj => ?_, fun W g hZ => ?_⟩
  · have := run_make W 22 5 i0 _ Tryd.underlying22 hi hz0 .i64 .i64 ((z : Int) + 1) ((z : Int) + 1) (by omega) (by omega) (by rw [hz2]; omega) (by omega)
    rw [show ((z : Int) + 1).toNat = z + 1 from by omega] at this
    exact this
  · rw [World.cell?_alloc_new, ← Array.getElem?_toList, hz1, Nat.mul_one, made_bytes, List.map_replicate, List.getElem?_replicate, if_pos hj]; rfl
  · have hc := run_convert_bytes_arg (P := Tryd.prog) W 22 5 Tryd.underlying22 Tryd.underlying5 g 0 (z + 1) (z + 1) (List.replicate (z + 1) 0) (by simp) (fun i hi => by
      rw [Nat.zero_add, hZ i hi]; simp [List.getD, List.getElem?_replicate, hi]) 9 Tryd.underlying9
    rw [hc]
    simp [strOfNums, S]

theorem iv_start (w : World) (t : TypeId) : GAt (w.alloc (.cells #[.int .u32 1779033703, .int .u32 3144134277, .int .u32 1013904242, .int .u32 2773480762, .int .u32 1359893119, .int .u32 2600822924, .int .u32 528734635, .int .u32 1541459225] t)) w.heap.size iv0.at := GAt.start w t iv0.at
theorem GAt.get8 {w : World} {V : Nat} {x : St} (h : GAt w V x.at) :
    w.cell? ⟨V, 0, none⟩ = some (.int .u32 (wn x.a)) ∧ w.cell? ⟨V, 1, none⟩ = some (.int .u32 (wn x.b)) ∧ w.cell? ⟨V, 2, none⟩ = some (.int .u32 (wn x.c)) ∧ w.cell? ⟨V, 3, none⟩ = some (.int .u32 (wn x.d)) ∧
    w.cell? ⟨V, 4, none⟩ = some (.int .u32 (wn x.e)) ∧ w.cell? ⟨V, 5, none⟩ = some (.int .u32 (wn x.f)) ∧ w.cell? ⟨V, 6, none⟩ = some (.int .u32 (wn x.g)) ∧ w.cell? ⟨V, 7, none⟩ = some (.int .u32 (wn x.h)) :=
  ⟨h.2.1 0 (by omega), h.2.1 1 (by omega), h.2.1 2 (by omega), h.2.1 3 (by omega), h.2.1 4 (by omega), h.2.1 5 (by omega), h.2.1 6 (by omega), h.2.1 7 (by omega)⟩
theorem idx8 (x : St) (k : Nat) (hk : k < 8) (W : World) : (Instr.index 128 x.val (.int .i64 (k : Int))).run Tryd.prog W = .ok (.int .u32 (wn (x.at k))) W := by
  match k, hk with
  | 0, _ => rfl
  | 1, _ => rfl
  | 2, _ => rfl
  | 3, _ => rfl
  | 4, _ => rfl
  | 5, _ => rfl
  | 6, _ => rfl
  | 7, _ => rfl
set_option maxHeartbeats 16000000 in
theorem iSha_any (l : List UInt8) (w : World) (hl : l.length ≤ 4194304) (hK : HasK w) :
    Calls Tryd.prog 92 #[.string (S l)] w fun e w' => e = .returned (.string (S (shaS l))) ∧ Below w.heap.size w w' := by
  have HK := Lib.hid hK
  clear hK
  have e1 : ((l.length : Int) + 9).tmod 64 = ((l.length : Int) + 9) % 64 := Int.tmod_eq_emod_of_nonneg (by omega)
  have e2 : (64 - ((l.length : Int) + 9) % 64).tmod 64 = (zerosN l.length : Int) := by
    rw [Int.tmod_eq_emod_of_nonneg (by omega)]; unfold zerosN; omega
  have hz : zerosN l.length ≤ 63 := by unfold zerosN; omega
  have HP : Hid (padS l = l ++ (128 :: (List.replicate (zerosN l.length + 1) 0 ++ fixedL 7 (8 * l.length)))) := rfl
  have HF : Hid (fixedS (8 * (l.length : Int)) 7 = fixedL 7 (8 * l.length)) := by
    have := fixedS_yes (m := 8 * l.length) (v := 7) (by omega) (by omega) (by omega)
    unfold Hid
    rw [← this]; rfl
  obtain ⟨cs, hmk, hZ, hcv⟩ := makeZ (zerosN l.length) hz
  generalize zerosN l.length = z at *
  have hZ2 : ∀ W : World, ZAt (W.alloc (.cells cs 5)).drew W.heap.size (z + 1) := hZ
  rw [← HF.out] at HP
  have hFl : (fixedS (8 * (l.length : Int)) 7).length = 7 := by rw [HF.out]; simp
  have hFx := fun W : World => iFixed_any (8 * (l.length : Int)) 7 W (by omega)
  clear HF
  generalize fixedS (8 * (l.length : Int)) 7 = F at *
  have hZl : (List.replicate (z + 1) (0 : UInt8)).length = z + 1 := List.length_replicate
  generalize List.replicate (z + 1) (0 : UInt8) = Zs at *
  have hFX := Lib.hid hFx
  have hw1 : IntKind.i64.wrap ((z : Int) + 1) = (z : Int) + 1 := by rw [IntKind.wrap_i64]; omega
  have hS : S l ++ ByteArray.mk #[128] = S (l ++ [128]) := S_append l [128]
  have m1 := fun W : World => run_string_add_sum (P := Tryd.prog) W (S l) (ByteArray.mk #[128]) (by rw [S_size]; show l.length + 1 ≤ _; omega)
  have m2 := fun W : World => run_string_add_sum (P := Tryd.prog) W (S (l ++ [128])) (S Zs) (by simp; omega)
  have m3 := fun W : World => run_string_add_sum (P := Tryd.prog) W (S (l ++ 128 :: Zs)) (S F) (by simp; omega)
  clear hFx
  have hb := Below.refl w.heap.size w
  go_enter Tryd.func92, Tryd.ntmps92
  go_wp2
  go_cut [5] from 20 to 29 (fun v wc => v = .string (S (padS l)) ∧ Below w.heap.size w wc)
  case first =>
    go_region_with (go_at_call 111; refine (hFX.out _).mono ?_; rintro e wn ⟨rfl, hbn⟩; try have hZ3 : ZAt wn w.heap.size (z + 1) := (fun j hj => (hbn.cell (p := ⟨w.heap.size, j, none⟩) (by simp)).trans (hZ w j hj)))
    all_goals
      go_wp2_with fail
      go_meet
      refine ⟨by rw [HP.out], ?_⟩
      first
        | exact Below.next (((Below.refl _ _).alloc (Nat.le_refl _) _).drew) hbn
        | exact (Below.next (Below.refl _ _).drew hbn).alloc (Below.next (w := w) (Below.refl _ _).drew hbn).size _
  case rest =>
    obtain ⟨rfl, hb⟩ := hcut
    have HM : Hid (padS l = padS l) := rfl
    have hpm := padS_mod l
    have hpl : (padS l).length ≤ 4194500 := by rw [padS_len]; unfold zerosN; omega
    have HSH : Hid (shaS l = (blocks (padS l) ((padS l).length / 64)).out) := rfl
    clear HP hZ hZ2 hcv hmk e1 e2 hz hFl hFX hw1 hS m1 m2 m3 hZl hl HM
    generalize padS l = p at *
    have hbz := hb.size
    have h0 : (0 : Int) ≤ p.length := by omega
    go_wp2
    go_loopw [7] (fun i wq => ∃ k : Nat, 64 * k ≤ p.length ∧ i = .int .i64 (64 * (k : Int)) ∧ GAt wq wc.heap.size (blocks p k).at ∧ Below w.heap.size w wq) (fun i _ => p.length - (intOf i).toNat)
    case atStart => exact ⟨0, by omega, rfl, iv_start wc 128, hb.alloc hbz _⟩
    case round =>
      obtain ⟨k, hk, rfl, hG, hbw⟩ := hrel
      have hki : 0 ≤ 64 * (k : Int) ∧ 64 * (k : Int) ≤ p.length := by omega
      by_cases hlt : 64 * k < p.length
      · have hlt2 : 64 * (k : Int) < p.length := by omega
        have hk64 : 64 * k + 64 ≤ p.length := by omega
        have t0 : (64 * (k : Int)).toNat = 64 * k := by omega
        have t1 : (64 * (k : Int) + 64).toNat = 64 * k + 64 := by omega
        have e1 : (S p).extract (64 * k) (64 * k + 64) = S ((p.drop (64 * k)).take 64) := by rw [S_take]; congr 2; omega
        have hlen : ((p.drop (64 * k)).take 64).length = 64 := by simp; omega
        have hx1 : 64 * (k : Int) + 64 ≤ p.length := by omega
        have hx2 : 64 * (k : Int) ≤ 64 * (k : Int) + 64 := by omega
        have hw2 : IntKind.i64.wrap (64 * (k : Int) + 64) = 64 * (k : Int) + 64 := by rw [IntKind.wrap_i64]; omega
        have hx3 : 0 ≤ 64 * (k : Int) + 64 := by omega
        have HB : Hid (blocks p (k + 1) = shaBlk (blocks p k) ((p.drop (64 * k)).take 64)) := rfl
        have hc := fun (W : World) (h : HasK W) => shaBlock_any (blocks p k) ((p.drop (64 * k)).take 64) W hlen h
        generalize (p.drop (64 * k)).take 64 = ch at *
        generalize blocks p k = x at *
        generalize shaBlk x ch = y at *
        simp only [St.val] at hc
        have HC := Lib.hid hc
        have HG := Lib.hid hG.drew
        have HW := Lib.hid hbw.drew
        clear hc hG hbw
        go_wp2
        refine wp_region_still_tail 6 (by kernel_rfl) (by kernel_rfl) ?_
        simp only [List.take_succ_cons, List.take_zero, List.drop_succ_cons, List.drop_zero]
        change wpStill _ _ wr.drew (fun a' => wpList _ _ _ _ a' wr.drew) _ _
        generalize wr.drew = wx at *
        obtain ⟨c0, c1, c2, c3, c4, c5, c6, c7⟩ := HG.out.get8
        repeat still_step
        refine wpStill_nil ?_
        clear c0 c1 c2 c3 c4 c5 c6 c7
        go_wp2_with (go_at_call 112; refine (HC.out _ (HK.out.to HW.out)).mono ?_; rintro e w3 ⟨rfl, hb3⟩; have HP3 := Lib.hid ((HG.out.below hb3).put y.at); have HB3 := Below.next HW.out hb3; obtain ⟨c0, c1, c2, c3, c4, c5, c6, c7⟩ := (HG.out.below hb3).get8; have hfz := (HG.out.below hb3).2.2)
        go_roundw
        case rel =>
          have nb : ∀ j, w.heap.size ≤ (⟨wc.heap.size, j, none⟩ : Addr).block := fun j => hbz
          refine ⟨k + 1, by omega, by congr 1, by rw [HB.out]; exact HP3.out, ?_⟩
          exact (((((((HB3.setCell (nb _) _).setCell (nb _) _).setCell (nb _) _).setCell (nb _) _).setCell (nb _) _).setCell (nb _) _).setCell (nb _) _).setCell (nb _) _
        case measure => simp [intOf]; omega
      · have hk' : k = p.length / 64 := by omega
        rw [← hk'] at HSH
        generalize blocks p k = x at *
        obtain ⟨c0, c1, c2, c3, c4, c5, c6, c7⟩ := hG.get8
        clear hG hpm hpl hk' hk
        go_wp2_with fail
        go_loopw [8, 45] (fun o i wq => ∃ k : Nat, k ≤ 8 ∧ i = .int .i64 (k : Int) ∧ o = .string (S (outN x k)) ∧ Below w.heap.size w wq) (fun _ i _ => 8 - (intOf i).toNat)
        case atStart => exact ⟨0, by omega, rfl, rfl, hbw⟩
        clear c0 c1 c2 c3 c4 c5 c6 c7 hbw hlt
        case round =>
          obtain ⟨k, hk, rfl, rfl, hb⟩ := hrel
          have hki : 0 ≤ (k : Int) ∧ (k : Int) ≤ 8 := by omega
          by_cases hlt : k < 8
          · have hf := fun W : World => iFixed_any (wn (x.at k)) 4 W (by have := wn_hi (x.at k); omega)
            rw [fixed_w] at hf
            have hlen := outN_len x k
            have HN : Hid (outN x (k + 1) = outN x k ++ fixedL 4 (x.at k).toNat) := rfl
            have hfl : (fixedL 4 (x.at k).toNat).length = 4 := by simp
            generalize fixedL 4 (x.at k).toNat = f at *
            generalize outN x k = o at *
            have hix := idx8 x k hlt
            simp only [St.val] at hix
            generalize x.at k = q at *
            have HFX := Lib.hid hf
            clear hf
            have hlt2 : (k : Int) < 8 := by omega
            go_wp2_with (go_at_call 111; refine (HFX.out _).mono ?_; rintro e wn ⟨rfl, hbn⟩; have hb := Below.next (w := w) (by repeat (first | with_reducible exact hb | with_reducible exact Below.refl _ _ | refine Below.drew ?_ | refine Below.setCell ?_ (by simp <;> omega) _ | refine Below.alloc ?_ (by simp <;> omega) _)) hbn; clear hbn)
            go_roundw
            case rel => exact ⟨k + 1, by omega, by go_num, by rw [HN.out], hb⟩
            case measure => simp [intOf]; omega
          · have hk' : k = 8 := by omega
            have HO : Hid (outN x k = shaS l) := by unfold Hid; rw [hk', outN_8, HSH.out]
            clear hk' hk
            go_wp2
            go_ret
            exact ⟨ret_string (by rw [HO.out]), hb⟩
end Go.Proofs.YtecimgkgdpnaeaaDoor

/-
  Sha of the reference.
-/
namespace Go.Proofs.YtecimgkgdpnaeaaDoor
open Go.ChangeShapes Go.WideShapes Go.ChangeAt Go.RowKit
set_option linter.unusedVariables false
set_option linter.unusedSimpArgs false
set_option maxRecDepth 100000

/-! The keys. -/
theorem l3Keys_any (w : World) :
    Calls Tryd.prog 113 #[] w fun e w' => ∃ K, e = .returned (.slice (some ⟨K, 0, none⟩) 64 64) ∧ KAt w' K kAt 64 ∧ Below w.heap.size w w' := by
  have hK : ∀ cs : Array Value, cs.toList = kTab.map (fun n : Nat => Value.int .i64 (n : Int)) → KAt (w.alloc (.cells cs 3)) w.heap.size kAt 64 := fun cs h =>
    ⟨by simp, fun j hj => by
      rw [World.cell?_alloc_new, ← Array.getElem?_toList, h, List.getElem?_map, wn_nat, kAt_toNat, List.getD]
      have hl : j < kTab.length := hj
      rw [List.getElem?_eq_getElem hl]; rfl⟩
  go_enter Tryd.func113, Tryd.ntmps113
  go_wp2
  go_ret
  exact ⟨_, rfl, hK _ rfl, (Below.refl _ _).alloc (Nat.le_refl _) _⟩
theorem fixedL_get (v : Nat) : ∀ (m k : Nat), k < v → (fixedL v m)[k]? = some (UInt8.ofNat (m / 256 ^ (v - 1 - k) % 256)) := by
  induction v with
  | zero => intro m k h; omega
  | succ v ih =>
    intro m k h
    rw [fixedL_succ]
    cases k with
    | zero => simp
    | succ k => rw [List.getElem?_cons_succ, ih m k (by omega), show v + 1 - 1 - (k + 1) = v - 1 - k from by omega]
theorem fixed8 (m : Nat) (h : m < 256 ^ 7) : fixedL 8 m = 0 :: fixedL 7 m := by
  rw [fixedL_succ, Nat.div_eq_of_lt h]; rfl
theorem cells4 {W : World} {g : Nat} {a b c d : Value} (h0 : W.cell? ⟨g, 0, none⟩ = some a) (h1 : W.cell? ⟨g, 1, none⟩ = some b) (h2 : W.cell? ⟨g, 2, none⟩ = some c) (h3 : W.cell? ⟨g, 3, none⟩ = some d) :
    ∀ j u, [a, b, c, d][j]? = some u → W.cell? ((⟨g, 0, none⟩ : Addr).add j) = some u := by
  intro j u hj
  match j, hj with
  | 0, hj => simp at hj; subst hj; simpa [Addr.add] using h0
  | 1, hj => simp at hj; subst hj; simpa [Addr.add] using h1
  | 2, hj => simp at hj; subst hj; simpa [Addr.add] using h2
  | 3, hj => simp at hj; subst hj; simpa [Addr.add] using h3
/-- The bytes of a word. -/
theorem word_bytes (q : W32) : ∃ a0 a1 a2 a3 : Nat, a0 < 256 ∧ a1 < 256 ∧ a2 < 256 ∧ a3 < 256 ∧ IntKind.u8.wrap (wn q / (16777216 : Int)) = (a0 : Int) ∧ bits .and .i64 (wn q / (65536 : Int)) 255 = (a1 : Int) ∧ bits .and .i64 (wn q / (256 : Int)) 255 = (a2 : Int) ∧ bits .and .i64 (wn q) 255 = (a3 : Int) ∧
    (fixedL 4 q.toNat).map bv = [.int .u8 (a0 : Int), .int .u8 (a1 : Int), .int .u8 (a2 : Int), .int .u8 (a3 : Int)] := by
  have hq := q.isLt
  refine ⟨q.toNat / 16777216 % 256, q.toNat / 65536 % 256, q.toNat / 256 % 256, q.toNat % 256, by omega, by omega, by omega, by omega, ?_, ?_, ?_, ?_, ?_⟩
  · unfold wn; simp [IntKind.wrap, IntKind.bits, IntKind.signed]
  · unfold wn
    rw [show ((q.toNat : Int) / (65536 : Int)) = ((q.toNat / 65536 : Nat) : Int) from by simp]; exact and255 _ (by omega)
  · unfold wn
    rw [show ((q.toNat : Int) / (256 : Int)) = ((q.toNat / 256 : Nat) : Int) from by simp]; exact and255 _ (by omega)
  · unfold wn; exact and255 _ (by omega)
  · simp only [fixedL, List.nil_append, List.cons_append, List.map_cons, List.map_nil, bv_ofNat _ (Nat.mod_lt _ (by omega : 0 < 256))]
    simp [Nat.div_div_eq_div_mul]

set_option maxHeartbeats 16000000 in
theorem sSha_any (l : List UInt8) (w : World) (hl : l.length ≤ 4194304) :
    Calls Tryd.prog 93 #[.string (S l)] w fun e w' => e = .returned (.string (S (shaS l))) ∧ Below w.heap.size w w' := by
  obtain ⟨i0, hi, hz0, hz1, hz2⟩ := info_parts info_u8
  have hzz : (l.length + 1 + zerosN l.length) % 64 = 56 ∧ zerosN l.length ≤ 63 ∧ ∀ z, z < zerosN l.length → ¬ (l.length + 1 + z) % 64 = 56 := by
    refine ⟨by unfold zerosN; omega, by unfold zerosN; omega, fun z hz => ?_⟩
    unfold zerosN at hz; omega
  have HP : Hid (padS l = l ++ (128 :: (List.replicate (zerosN l.length) 0 ++ fixedL 8 (8 * l.length)))) := by
    unfold Hid padS
    rw [fixed8 _ (by omega), List.replicate_succ', List.append_assoc]
    rfl
  generalize zerosN l.length = Z at *
  obtain ⟨hz1', hz2', hz3'⟩ := hzz
  have HZ3 := Lib.hid hz3'
  clear hz3'
  go_enter Tryd.func93, Tryd.ntmps93
  go_wp2_with fail
  go_loopw [4] (fun pad wr => ∃ z : Nat, z ≤ Z ∧ wr.ownsRow w.heap.size 5 1 pad (z + 1) ((128 :: List.replicate z (0 : UInt8)).map bv) ∧ Below w.heap.size w wr ∧ intOf (.int .i64 z) = z) (fun pad _ => match pad with | .slice _ n _ => 100 - n | _ => 0)
  case atStart => exact ⟨0, by omega, World.ownsRow_lit w #[_] 1 (Nat.le_refl _) (by simp [maxLen]) rfl, (Below.refl _ _).alloc (Nat.le_refl _) _, rfl⟩
  case round =>
    obtain ⟨z, hz, hown, hb, -⟩ := hrel
    obtain ⟨g, cap, hv, _, _⟩ := hown.form (by omega)
    subst hv
    have hbz := hb.size
    have em : ((l.length : Int) + ((z : Int) + 1)).tmod 64 = ((l.length : Int) + ((z : Int) + 1)) % 64 := Int.tmod_eq_emod_of_nonneg (by omega)
    by_cases hlt : z < Z
    · have hne : ¬ (((l.length : Int) + ((z : Int) + 1)) % 64 = 56) := by have := HZ3.out z hlt; omega
      have hne2 : ((((l.length : Int) + ((z : Int) + 1)) % 64) == 56) = false := by simpa using hne
      go_wp2_with (at_builtin; refine app_lit rfl _ _ 22 rfl Tryd.underlying22 hi hz0 hz1 hz2 rfl (by decide) rfl hown hb rfl rfl (one_cell1 _ _) (by unfold maxLen; omega) (by omega) ?_; intro v1 w1 hown1 hb1)
      have e1 : (128 :: List.replicate (z + 1) (0 : UInt8)).map bv = (128 :: List.replicate z (0 : UInt8)).map bv ++ [.int .u8 0] := by rw [List.replicate_succ', ← List.cons_append, List.map_append]; rfl
      have hown2 : w1.ownsRow w.heap.size 5 1 v1 (z + 1 + 1) ((128 :: List.replicate (z + 1) (0 : UInt8)).map bv) := by rw [e1]; exact hown1
      obtain ⟨g2, cap2, hv2, _, _⟩ := hown2.form (by omega)
      subst hv2
      go_roundw
      case rel => exact ⟨z + 1, by omega, hown2, hb1, rfl⟩
      case measure => show 100 - (z + 1 + 1) < 100 - (z + 1); omega
    · obtain rfl : z = Z := by omega
      have heq : ((l.length : Int) + ((z : Int) + 1)) % 64 = 56 := by omega
      have hF := fun (k : Nat) (hk : k < 8) => fixedL_get 8 (8 * l.length) k hk
      have hFl : (fixedL 8 (8 * l.length)).length = 8 := by simp
      generalize hF8 : fixedL 8 (8 * l.length) = F8 at *
      have HF := Lib.hid hF
      clear hF hF8 HZ3
      go_wp2_with fail
      go_loopw [4, 5] (fun pad i wr => ∃ k : Nat, k ≤ 8 ∧ i = .int .i64 (k : Int) ∧ wr.ownsRow w.heap.size 5 1 pad (z + 1 + k) ((128 :: (List.replicate z (0 : UInt8) ++ F8.take k)).map bv) ∧ Below w.heap.size w wr) (fun _ i _ => 8 - (intOf i).toNat)
      case atStart => exact ⟨0, by omega, rfl, by rw [List.take_zero, List.append_nil]; exact hown, hb⟩
      clear hown hb heq hbz em
      case round =>
        obtain ⟨k, hk, rfl, hown, hb⟩ := hrel
        by_cases hlt : k < 8
        · have hlt2 : (k : Int) < 8 := by omega
          have hg := HF.out k hlt
          have hbm : 8 * l.length / 256 ^ (8 - 1 - k) % 256 < 256 := Nat.mod_lt _ (by omega)
          have e1 : (128 :: (List.replicate z (0 : UInt8) ++ F8.take (k + 1))).map bv = (128 :: (List.replicate z (0 : UInt8) ++ F8.take k)).map bv ++ [.int .u8 ((8 * l.length / 256 ^ (8 - 1 - k) % 256 : Nat) : Int)] := by
            rw [List.take_add_one, hg, ← List.append_assoc, ← List.cons_append, List.map_append]
            simp only [Option.toList, List.map_cons, List.map_nil, bv_ofNat _ hbm]
          have f1 : IntKind.u64.wrap (56 - 8 * (k : Int)) = 56 - 8 * (k : Int) := by simp [IntKind.wrap, IntKind.bits, IntKind.signed]; omega
          have f2 : (56 - 8 * (k : Int)).toNat = 56 - 8 * k := by omega
          have f3 : 0 ≤ 56 - 8 * (k : Int) ∧ 56 - 8 * (k : Int) ≤ 64 := by omega
          have f4 : bits .and .i64 ((l.length : Int) * 8 / 2 ^ (56 - 8 * k)) 255 = ((8 * l.length / 256 ^ (8 - 1 - k) % 256 : Nat) : Int) := by
            have hp : 256 ^ (8 - 1 - k) = 2 ^ (56 - 8 * k) := by rw [show (256 : Nat) = 2 ^ 8 from rfl, ← Nat.pow_mul]; congr 1; omega
            rw [hp, show (l.length : Int) * 8 / 2 ^ (56 - 8 * k) = ((8 * l.length / 2 ^ (56 - 8 * k) : Nat) : Int) from by simp [Int.mul_comm]]
            exact and255 _ (Nat.le_trans (Nat.div_le_self _ _) (by omega))
          have HE := Lib.hid e1
          clear e1 hg
          generalize 8 * l.length / 256 ^ (8 - 1 - k) % 256 = b at *
          go_wp2_with (at_builtin; refine app_lit rfl _ _ 22 rfl Tryd.underlying22 hi hz0 hz1 hz2 rfl (by decide) rfl hown hb rfl rfl (one_cell1 _ _) (by unfold maxLen; omega) (by omega) ?_; intro v1 w1 hown1 hb1)
          go_roundw
          case rel => exact ⟨k + 1, by omega, by go_num, by rw [HE.out]; exact hown1, hb1⟩
          case measure => simp [intOf]; omega
        · have hT : F8.take k = F8 := List.take_of_length_le (by omega)
          rw [hT] at hown
          have hcv := conv_own Tryd.underlying22 Tryd.underlying5 Tryd.underlying9 hown
          have hpm := padS_mod l
          have hpl : (padS l).length ≤ 4194500 := by rw [padS_len]; unfold zerosN; omega
          have HSH : Hid (shaS l = (blocks (padS l) ((padS l).length / 64)).out) := rfl
          rw [HP.out] at hpm hpl HSH
          have hbz := hb.size
          clear HP hown hT HF hz1' hk
          generalize 128 :: (List.replicate z (0 : UInt8) ++ F8) = P at *
          have hPl : l.length + P.length ≤ 4194500 := by simpa using hpl
          go_wp2_with (go_at_call 113; refine (l3Keys_any _).mono ?_; rintro e wk ⟨K, rfl, hKk, hbk⟩)
          have HI : Hid (KAt wk wr.heap.size iv0.at 8) := (KAt.start wr 3 iv0.at).below hbk
          have HB0 := Lib.hid (Below.next (hb.alloc hbz _) hbk)
          have HK0 := Lib.hid hKk
          generalize l ++ P = p at *
          clear hKk hbk hb hcv hPl hbz
          go_loopw [7, 9] (fun h i wq => ∃ k : Nat, 64 * k ≤ p.length ∧ i = .int .i64 (64 * (k : Int)) ∧ ∃ H c, h = .slice (some ⟨H, 0, none⟩) 8 c ∧ KAt wq H (blocks p k).at 8 ∧ KAt wq K kAt 64 ∧ Below w.heap.size w wq) (fun _ i _ => p.length - (intOf i).toNat)
          case atStart => exact ⟨0, by omega, rfl, _, _, rfl, HI.out, HK0.out, HB0.out⟩
          clear HI HB0 HK0 hlt
          case round =>
            obtain ⟨k, hk, rfl, H, c, rfl, hH, hK, hb⟩ := hrel
            have hki : 0 ≤ 64 * (k : Int) ∧ 64 * (k : Int) ≤ p.length := by omega
            by_cases hlt : 64 * k < p.length
            · have hlt2 : 64 * (k : Int) < p.length := by omega
              have hk64 : 64 * k + 64 ≤ p.length := by omega
              have t0 : (64 * (k : Int)).toNat = 64 * k := by omega
              have t1 : (64 * (k : Int) + 64).toNat = 64 * k + 64 := by omega
              have e1 : (S p).extract (64 * k) (64 * k + 64) = S ((p.drop (64 * k)).take 64) := by rw [S_take]; congr 2; omega
              have hlen : ((p.drop (64 * k)).take 64).length = 64 := by simp; omega
              have hx1 : 64 * (k : Int) + 64 ≤ p.length := by omega
              have hx2 : 64 * (k : Int) ≤ 64 * (k : Int) + 64 := by omega
              have hw2 : IntKind.i64.wrap (64 * (k : Int) + 64) = 64 * (k : Int) + 64 := by rw [IntKind.wrap_i64]; omega
              have hx3 : 0 ≤ 64 * (k : Int) + 64 := by omega
              have HB : Hid (blocks p (k + 1) = shaBlk (blocks p k) ((p.drop (64 * k)).take 64)) := rfl
              have hc := l3Block_any (blocks p k) ((p.drop (64 * k)).take 64) wr H K c 64 hlen hH hK
              generalize (p.drop (64 * k)).take 64 = ch at *
              generalize blocks p k = x at *
              generalize shaBlk x ch = y at *
              have HC := Lib.hid hc
              have HK := Lib.hid hK
              have HW := Lib.hid hb
              clear hc hK hb hH
              go_wp2_with (go_at_call 114; refine HC.out.mono ?_; rintro e w3 ⟨B, c3, rfl, hB3, hb3⟩)
              go_roundw
              case rel =>
                refine ⟨k + 1, by omega, by congr 1, B, c3, rfl, by rw [HB.out]; exact hB3, HK.out.below hb3, Below.next HW.out hb3⟩
              case measure => simp [intOf]; omega
            · have hk' : k = p.length / 64 := by omega
              rw [← hk'] at HSH
              generalize blocks p k = x at *
              have HH := Lib.hid hH
              have HB := Lib.hid hb
              clear hH hK hb hpm hpl hk' hk
              go_wp2_with fail
              go_loopw [10, 11] (fun out i wq => ∃ k : Nat, k ≤ 8 ∧ i = .int .i64 (k : Int) ∧ wq.ownsRow wr.heap.size 5 1 out (4 * k) ((outN x k).map bv) ∧ Below wr.heap.size wr wq) (fun _ i _ => 8 - (intOf i).toNat)
              case atStart => exact ⟨0, by omega, rfl, World.ownsRow_lit wr #[] 0 (Nat.le_refl _) (by simp [maxLen]) rfl, (Below.refl _ _).alloc (Nat.le_refl _) _⟩
              clear hlt
              case round =>
                obtain ⟨k, hk, rfl, hown, hb⟩ := hrel
                have hki : 0 ≤ (k : Int) ∧ (k : Int) ≤ 8 := by omega
                by_cases hlt : k < 8
                · have hlt2 : (k : Int) < 8 := by omega
                  have hbz := hb.size
                  have hHq := fun (W : World) (h : Below _ _ W) => (HH.out.below h).2 k hlt
                  have hN : (outN x (k + 1)).map bv = (outN x k).map bv ++ (fixedL 4 (x.at k).toNat).map bv := by rw [outN, List.map_append]
                  generalize x.at k = q at *
                  obtain ⟨a0, a1, a2, a3, b0, b1, b2, b3, f0, f1, f2, f3, hf⟩ := word_bytes q
                  rw [hf] at hN
                  have HN := Lib.hid hN
                  have g1 : IntKind.u8.wrap (a1 : Int) = (a1 : Int) := by simp [IntKind.wrap, IntKind.bits, IntKind.signed]; omega
                  have g2 : IntKind.u8.wrap (a2 : Int) = (a2 : Int) := by simp [IntKind.wrap, IntKind.bits, IntKind.signed]; omega
                  have g3 : IntKind.u8.wrap (a3 : Int) = (a3 : Int) := by simp [IntKind.wrap, IntKind.bits, IntKind.signed]; omega
                  clear hN hf
                  go_wp2
                  go_region_held3 (fun w' => w'.cell? ⟨H, k, none⟩ = some (.int .i64 (wn q))) (first | exact hHq _ hb.drew | exact hHq _ (hb.drew.alloc hbz _) | exact hHq _ ((hb.alloc hbz _).drew) | exact hHq _ hb2)
                    ((refine step_append_lies _ rfl _ _ 22 rfl _ 5 i0 (.int .u8 0) 1 1 Tryd.underlying22 hi hz0 hz1 hz2 rfl (by decide) _ (4 * k) _ rfl (hown.alloc _) ⟨wr.heap.size, 0, none⟩ 4 4 [.int .u8 (a0 : Int), .int .u8 (a1 : Int), .int .u8 (a2 : Int), .int .u8 (a3 : Int)] rfl rfl (cells4 (by simp [go_sem]) (by simp [go_sem]) (by simp [go_sem]) (by simp [go_sem])) (by intro u hu; simp at hu; rcases hu with rfl | rfl | rfl | rfl <;> rfl) (by omega) (by unfold maxLen; omega) (by omega) (by simp; omega) _ rfl ?_; intro g cap w2 hown2 hgr2 _ _; have hb2 := ((hb.alloc hbz _).drew).grown hgr2 (by simp; omega) (fun q hq => (hown.lt q hq).1)))
                  all_goals
                    go_wp2
                    go_roundw
                    case rel => exact ⟨k + 1, by omega, by go_num, by rw [HN.out, Nat.mul_succ]; exact hown2, hb2⟩
                    case measure => simp [intOf]; omega
                · have hk' : k = 8 := by omega
                  have HO : Hid (outN x k = shaS l) := by unfold Hid; rw [hk', outN_8, HSH.out]
                  have hcv := conv_own Tryd.underlying22 Tryd.underlying5 Tryd.underlying9 hown
                  have HBB := Lib.hid (Below.next HB.out hb)
                  clear hown hb hk' hk
                  go_wp2
                  go_ret
                  exact ⟨ret_string (by rw [HO.out]), HBB.out⟩
end Go.Proofs.YtecimgkgdpnaeaaDoor
