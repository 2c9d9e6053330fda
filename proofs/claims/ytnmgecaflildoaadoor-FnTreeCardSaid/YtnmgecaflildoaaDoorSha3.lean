/-
  SHA-256 of the reference: a block.
-/
import Derived.Test.YtnmgecaflildoaaDoorSha2
import Derived.Deep.AppendLies
import Derived.Deep.RegionWith
import Derived.Deep.RegionLaw
import Derived.StillTailTactics
namespace Go.Proofs.YtnmgecaflildoaaDoor
open Go.ChangeShapes Go.WideShapes Go.ChangeAt Go.RowKit
set_option linter.unusedVariables false
set_option linter.unusedSimpArgs false
set_option maxRecDepth 100000

theorem l3Right_m (x : W32) (m : Int) (n : Nat) (hm : m = (n : Int)) (h1 : 1 ≤ n) (h2 : n ≤ 31) (w : World) :
    Calls Tryd.prog 58 #[.int .i64 (wn x), .int .u64 m] w fun e w' => e = .returned (.int .i64 (wn (rotr x n))) ∧ w = w' := by subst hm; exact l3Right_any x n h1 h2 w
theorem l3Right_s (x : W32) (m : Int) (n : Nat) (hm : m = (n : Int)) (h1 : 1 ≤ n) (h2 : n ≤ 31) (w : World) :
    Calls Tryd.prog 58 #[.int .i64 (wn x), .int .u64 m] w fun e w' => e = .returned (.int .i64 (wn (rotr x n))) ∧ w' = w := (l3Right_m x m n hm h1 h2 w).mono fun e w' h => ⟨h.1, h.2.symm⟩
theorem l3Word_s (z : Int) (w : World) :
    Calls Tryd.prog 59 #[.int .i64 z] w fun e w' => e = .returned (.int .i64 (wn (BitVec.ofInt 32 z))) ∧ w' = w := (l3Word_any z w).mono fun e w' h => ⟨h.1, h.2.symm⟩
/-- Block B holds so many words, and m cells. -/
def VAt (w : World) (B : Nat) (f : Nat → W32) (n m : Nat) : Prop := B < w.heap.size ∧ (∀ j, j < n → w.cell? ⟨B, j, none⟩ = some (.int .i64 (wn (f j)))) ∧ (∀ j, j < m → ∃ u, w.cell? ⟨B, j, none⟩ = some u) ∧ ∀ j, w.frozen? ⟨B, j, none⟩ = false
/-- Block B holds so many words (to be read). -/
def KAt (w : World) (B : Nat) (f : Nat → W32) (n : Nat) : Prop := B < w.heap.size ∧ ∀ j, j < n → w.cell? ⟨B, j, none⟩ = some (.int .i64 (wn (f j)))
theorem VAt.below {w w' : World} {B n m : Nat} {f : Nat → W32} (h : VAt w B f n m) (hb : Below w.heap.size w w') : VAt w' B f n m := by
  obtain ⟨h1, h2, h3, h4⟩ := h
  exact ⟨Nat.lt_of_lt_of_le h1 hb.size, fun j hj => (hb.cell (p := ⟨B, j, none⟩) h1).trans (h2 j hj), fun j hj => by obtain ⟨u, hu⟩ := h3 j hj; exact ⟨u, (hb.cell (p := ⟨B, j, none⟩) h1).trans hu⟩, fun j => (hb.frozen (p := ⟨B, j, none⟩) h1).trans (h4 j)⟩
theorem KAt.below {w w' : World} {B n : Nat} {f : Nat → W32} (h : KAt w B f n) (hb : Below w.heap.size w w') : KAt w' B f n :=
  ⟨Nat.lt_of_lt_of_le h.1 hb.size, fun j hj => (hb.cell (p := ⟨B, j, none⟩) h.1).trans (h.2 j hj)⟩
theorem VAt.set {w : World} {B n m : Nat} {f : Nat → W32} (h : VAt w B f n m) (hn : n < m) : VAt (w.setCell ⟨B, n, none⟩ (.int .i64 (wn (f n)))) B f (n + 1) m := by
  obtain ⟨h1, h2, h3, h4⟩ := h
  obtain ⟨u, hu⟩ := h3 n hn
  refine ⟨by simpa [World.setCell] using h1, fun j hj => ?_, fun j hj => ?_, fun j => by rw [World.frozen?_setCell]; exact h4 j⟩
  · by_cases e : j = n
    · subst e; exact World.cell?_setCell_same w _ _ hu
    · rw [World.cell?_setCell_other _ _ _ _ (by intro h; cases h; exact e rfl)]; exact h2 j (by omega)
  · by_cases e : j = n
    · subst e; exact ⟨_, World.cell?_setCell_same w _ _ hu⟩
    · rw [World.cell?_setCell_other _ _ _ _ (by intro h; cases h; exact e rfl)]; exact h3 j hj
theorem VAt.start (w : World) (cs : Array Value) (t : TypeId) (f : Nat → W32) {B m : Nat} (hB : B = w.heap.size) (hcs : cs.size = m) : VAt (w.alloc (.cells cs t)) B f 0 m := by
  subst hB; exact
  ⟨by simp, fun j hj => absurd hj (by omega), fun j hj => ⟨cs[j]'(by omega), by rw [World.cell?_alloc_new]; exact Array.getElem?_eq_getElem (by omega)⟩, frozen_new w cs t⟩
theorem VAt.k {w : World} {B n m : Nat} {f : Nat → W32} (h : VAt w B f n m) : KAt w B f n := ⟨h.1, h.2.1⟩
theorem KAt.far {w : World} {B n : Nat} {f : Nat → W32} (h : KAt w B f n) {p : Addr} (hp : p.block ≠ B) (v : Value) : KAt (w.setCell p v) B f n :=
  ⟨by simpa [World.setCell] using h.1, fun j hj => (World.cell?_setCell_other _ _ _ _ (by intro h; subst h; exact hp rfl)).trans (h.2 j hj)⟩

/-- Eight words as a row. -/
def g8 (g : Nat → W32) : List Value := [.int .i64 (wn (g 0)), .int .i64 (wn (g 1)), .int .i64 (wn (g 2)), .int .i64 (wn (g 3)), .int .i64 (wn (g 4)), .int .i64 (wn (g 5)), .int .i64 (wn (g 6)), .int .i64 (wn (g 7))]
theorem g8_get (g : Nat → W32) (j : Nat) (h : j < 8) : (g8 g)[j]? = some (.int .i64 (wn (g j))) := by
  match j, h with
  | 0, _ => rfl
  | 1, _ => rfl
  | 2, _ => rfl
  | 3, _ => rfl
  | 4, _ => rfl
  | 5, _ => rfl
  | 6, _ => rfl
  | 7, _ => rfl
theorem g8_one (g : Nat → W32) : ∀ u ∈ g8 g, u.oneCell' = true := by
  intro u hu
  obtain ⟨j, hj, rfl⟩ := List.getElem_of_mem hu
  have h8 : j < 8 := hj
  have := g8_get g j h8
  rw [List.getElem?_eq_getElem hj] at this
  rw [Option.some.inj this]
  rfl
theorem KAt.news {w : World} {H : Nat} {g : Nat → W32} (h : KAt w H g 8) : ∀ j u, (g8 g)[j]? = some u → w.cell? ((⟨H, 0, none⟩ : Addr).add j) = some u := by
  intro j u hu
  have hj : j < 8 := by obtain ⟨h, _⟩ := List.getElem?_eq_some_iff.1 hu; exact h
  have e : (⟨H, 0, none⟩ : Addr).add j = ⟨H, j, none⟩ := by unfold Addr.add; split <;> simp_all
  rw [e, h.2 j hj, ← hu, g8_get g j hj]
theorem KAt.of_own {w : World} {base : Nat} {e : TypeId} {V cap : Nat} {g : Nat → W32} (h : w.ownsRow base e 1 (.slice (some ⟨V, 0, none⟩) 8 cap) 8 (g8 g)) : KAt w V g 8 := by
  obtain ⟨b, c, hv, _, hlt⟩ := h.form (by omega)
  simp only [Value.slice.injEq, Option.some.injEq, Addr.mk.injEq] at hv
  obtain ⟨⟨rfl, _, _⟩, _, _⟩ := hv
  exact ⟨hlt, fun j hj => by have := h.cellAt j (by omega); rw [g8_get g j hj] at this; exact this⟩
theorem KAt.start (w : World) (t : TypeId) (g : Nat → W32) : KAt (w.alloc (.cells #[.int .i64 (wn (g 0)), .int .i64 (wn (g 1)), .int .i64 (wn (g 2)), .int .i64 (wn (g 3)), .int .i64 (wn (g 4)), .int .i64 (wn (g 5)), .int .i64 (wn (g 6)), .int .i64 (wn (g 7))] t)) w.heap.size g 8 :=
  ⟨by simp, fun j hj => by
    rw [World.cell?_alloc_new]
    match j, hj with
    | 0, _ => rfl
    | 1, _ => rfl
    | 2, _ => rfl
    | 3, _ => rfl
    | 4, _ => rfl
    | 5, _ => rfl
    | 6, _ => rfl
    | 7, _ => rfl⟩
/-- What the third loop knows. -/
def LoopR (l : List UInt8) (w wr : World) (V K : Nat) (x : St) : Prop := KAt wr V x.at 8 ∧ KAt wr w.heap.size (sched (wordAt l)) 64 ∧ KAt wr K kAt 64 ∧ Below w.heap.size w wr
theorem LoopR.drewN {l : List UInt8} {w wr : World} {V K : Nat} {x : St} (h : LoopR l w wr V K x) (n : Nat) : LoopR l w (wr.drewN n) V K x := ⟨h.1, h.2.1, h.2.2.1, below_drewN h.2.2.2 n⟩
theorem LoopR.drew {l : List UInt8} {w wr : World} {V K : Nat} {x : St} (h : LoopR l w wr V K x) : LoopR l w wr.drew V K x := ⟨h.1, h.2.1, h.2.2.1, h.2.2.2.drew⟩
theorem KAt.get8 {w : World} {V : Nat} {x : St} (h : KAt w V x.at 8) :
    w.cell? ⟨V, 0, none⟩ = some (.int .i64 (wn x.a)) ∧ w.cell? ⟨V, 1, none⟩ = some (.int .i64 (wn x.b)) ∧ w.cell? ⟨V, 2, none⟩ = some (.int .i64 (wn x.c)) ∧ w.cell? ⟨V, 3, none⟩ = some (.int .i64 (wn x.d)) ∧
    w.cell? ⟨V, 4, none⟩ = some (.int .i64 (wn x.e)) ∧ w.cell? ⟨V, 5, none⟩ = some (.int .i64 (wn x.f)) ∧ w.cell? ⟨V, 6, none⟩ = some (.int .i64 (wn x.g)) ∧ w.cell? ⟨V, 7, none⟩ = some (.int .i64 (wn x.h)) :=
  ⟨h.2 0 (by omega), h.2 1 (by omega), h.2 2 (by omega), h.2 3 (by omega), h.2 4 (by omega), h.2 5 (by omega), h.2 6 (by omega), h.2 7 (by omega)⟩
theorem LoopR.start {l : List UInt8} {w wr : World} {V K : Nat} {x : St} (h : LoopR l w wr V K x) (t : TypeId) (y : St) :
    LoopR l w (wr.alloc (.cells #[.int .i64 (wn y.a), .int .i64 (wn y.b), .int .i64 (wn y.c), .int .i64 (wn y.d), .int .i64 (wn y.e), .int .i64 (wn y.f), .int .i64 (wn y.g), .int .i64 (wn y.h)] t)) wr.heap.size K y := by
  have hb : ∀ o, Below wr.heap.size wr (wr.alloc o) := fun o => (Below.refl _ _).alloc (Nat.le_refl _) o
  exact ⟨KAt.start wr t y.at, h.2.1.below (hb _), h.2.2.1.below (hb _), Below.next h.2.2.2 (hb _)⟩
theorem cells1 {W : World} {g : Nat} {a : Value} (h0 : W.cell? ⟨g, 0, none⟩ = some a) : ∀ j u, [a][j]? = some u → W.cell? ((⟨g, 0, none⟩ : Addr).add j) = some u := by
  intro j u hu
  match j, hu with
  | 0, hu => cases hu; exact h0
theorem infoI : (Tryd.prog.info? 3).map (fun i => (i.zero, i.size, i.bytes)) = some (some (.int .i64 0), 1, 8) := by kernel_rfl
theorem make64 : ∃ cs : Array Value, cs.size = 64 ∧ ∀ w : World, (Instr.makeSlice 57 (.int .i64 64) (.int .i64 64)).run Tryd.prog w = .ok (.slice (some ⟨w.heap.size, 0, none⟩) 64 64) (w.alloc (.cells cs 3)) := by
  obtain ⟨i0, hi, hz0, hz1, hz2⟩ := info_parts infoI
  refine ⟨madeCells (Value.int .i64 0).cells (64 * i0.size), by rw [size_madeCells, hz1], fun w => ?_⟩
  exact run_make w 57 3 i0 _ Tryd.underlying57 hi hz0 .i64 .i64 64 64 (by omega) (by omega) (by rw [hz2]; omega) (by omega)

set_option maxHeartbeats 16000000 in
theorem l3Block_any (s : St) (l : List UInt8) (w : World) (H K hc kc : Nat) (hl : l.length = 64) (hH : KAt w H s.at 8) (hK : KAt w K kAt 64) :
    Calls Tryd.prog 52 #[.slice (some ⟨H, 0, none⟩) 8 hc, .string (S l), .slice (some ⟨K, 0, none⟩) 64 kc] w fun e w' => ∃ B c, e = .returned (.slice (some ⟨B, 0, none⟩) 8 c) ∧ KAt w' B (shaBlk s l).at 8 ∧ Below w.heap.size w w' := by
  have HH := Lib.hid hH
  have HK := Lib.hid hK
  clear hH hK
  obtain ⟨cs, hcs, hmk⟩ := make64
  go_enter Tryd.func52, Tryd.ntmps52
  go_wp2_with fail
  go_loopw [8] (fun i wr => ∃ k : Nat, k ≤ 16 ∧ i = .int .i64 k ∧ VAt wr w.heap.size (wordAt l) k 64 ∧ Below w.heap.size w wr) (fun i _ => 16 - (intOf i).toNat)
  case atStart => exact ⟨0, by omega, rfl, VAt.start _ _ _ _ rfl hcs, (Below.refl _ _).alloc (Nat.le_refl _) _⟩
  case round =>
    obtain ⟨k, hk, rfl, hW, hb⟩ := hrel
    by_cases hlt : k < 16
    · have hbz := hb.size
      have hl' : (l.length : Int) = 64 := by omega
      have hki : 0 ≤ (k : Int) ∧ (k : Int) < 16 := by omega
      have t0 : (4 * (k : Int)).toNat = 4 * k := by omega
      have t1 : (4 * (k : Int) + 1).toNat = 4 * k + 1 := by omega
      have t2 : (4 * (k : Int) + 2).toNat = 4 * k + 2 := by omega
      have t3 : (4 * (k : Int) + 3).toNat = 4 * k + 3 := by omega
      have e0 : ∀ h : 4 * k < l.length, l[4 * k]'h = l.getD (4 * k) 0 := fun h => by simp [List.getD, List.getElem?_eq_getElem h]
      have e1 : ∀ h : 4 * k + 1 < l.length, l[4 * k + 1]'h = l.getD (4 * k + 1) 0 := fun h => by simp [List.getD, List.getElem?_eq_getElem h]
      have e2 : ∀ h : 4 * k + 2 < l.length, l[4 * k + 2]'h = l.getD (4 * k + 2) 0 := fun h => by simp [List.getD, List.getElem?_eq_getElem h]
      have e3 : ∀ h : 4 * k + 3 < l.length, l[4 * k + 3]'h = l.getD (4 * k + 3) 0 := fun h => by simp [List.getD, List.getElem?_eq_getElem h]
      have HS := Lib.hid (hW.set (by omega))
      rw [show wordAt l k = wordB (l.getD (4 * k) 0) (l.getD (4 * k + 1) 0) (l.getD (4 * k + 2) 0) (l.getD (4 * k + 3) 0) from rfl] at HS
      obtain ⟨u, hu⟩ := hW.2.2.1 k (by omega)
      have hfz := hW.2.2.2 k
      generalize l.getD (4 * k) 0 = b0 at *
      generalize l.getD (4 * k + 1) 0 = b1 at *
      generalize l.getD (4 * k + 2) 0 = b2 at *
      generalize l.getD (4 * k + 3) 0 = b3 at *
      have c0 := bw_wn b0
      have c1 := bw_wn b1
      have c2 := bw_wn b2
      have c3 := bw_wn b3
      have s0 : IntKind.i64.wrap (wn (bw b0) * (16777216 : Int)) = wn (bw b0 <<< 24) := byte_shl b0 24 (by omega)
      have s1 : IntKind.i64.wrap (wn (bw b1) * (65536 : Int)) = wn (bw b1 <<< 16) := byte_shl b1 16 (by omega)
      have s2 : IntKind.i64.wrap (wn (bw b2) * (256 : Int)) = wn (bw b2 <<< 8) := byte_shl b2 8 (by omega)
      clear hW
      go_wp2
      go_region
      go_wp2
      go_roundw
      case rel =>
        exact ⟨k + 1, by omega, by go_num, HS.out, (hb.setCell (by simp) _).drew⟩
      case measure => simp [intOf]; omega
    · have hk' : k = 16 := by omega
      have HW : Hid (VAt wr w.heap.size (sched (wordAt l)) 16 64) := ⟨hW.1, fun j hj => by rw [sched_lo _ _ hj]; exact hW.2.1 j (by omega), hW.2.2⟩
      have hb0 := hb
      clear hW hb hk hk'
      go_wp2_with fail
      go_loopw [9] (fun i wr => ∃ k : Nat, 16 ≤ k ∧ k ≤ 64 ∧ i = .int .i64 k ∧ VAt wr w.heap.size (sched (wordAt l)) k 64 ∧ Below w.heap.size w wr) (fun i _ => 64 - (intOf i).toNat)
      case atStart => exact ⟨16, by omega, by omega, rfl, HW.out, hb0⟩
      clear HW hb0 hlt
      case round =>
        obtain ⟨k, hk16, hk, rfl, hW, hb⟩ := hrel
        by_cases hlt : k < 64
        · have c15 := hW.2.1 (k - 15) (by omega)
          have c2 := hW.2.1 (k - 2) (by omega)
          have c16 := hW.2.1 (k - 16) (by omega)
          have c7 := hW.2.1 (k - 7) (by omega)
          have t15 : ((k : Int) - 15).toNat = k - 15 := by omega
          have t2 : ((k : Int) - 2).toNat = k - 2 := by omega
          have t16 : ((k : Int) - 16).toNat = k - 16 := by omega
          have t7 : ((k : Int) - 7).toNat = k - 7 := by omega
          have hki : 16 ≤ (k : Int) ∧ (k : Int) < 64 := by omega
          have hk1 : 0 ≤ (k : Int) - 16 ∧ (k : Int) - 16 < 64 := by omega
          have hk2 : 0 ≤ (k : Int) - 7 ∧ (k : Int) - 7 < 64 := by omega
          have hk3 : IntKind.i64.wrap ((k : Int) - 16) = (k : Int) - 16 := by rw [IntKind.wrap_i64]; omega
          have hk4 : IntKind.i64.wrap ((k : Int) - 7) = (k : Int) - 7 := by rw [IntKind.wrap_i64]; omega
          have hk6 : (7 : Int) ≤ k := by omega
          have hk5 : 0 ≤ (k : Int) ∧ (k : Int) < 64 := by omega
          obtain ⟨u, hu⟩ := hW.2.2.1 k (by omega)
          have hfz := hW.2.2.2 k
          have hs := sched_hi (wordAt l) k hk16
          have hset := hW.set hlt
          rw [hs] at hset
          clear hs hW
          generalize sched (wordAt l) (k - 15) = x15 at *
          generalize sched (wordAt l) (k - 2) = x2 at *
          generalize sched (wordAt l) (k - 16) = x16 at *
          generalize sched (wordAt l) (k - 7) = x7 at *
          have HS := Lib.hid hset
          clear hset
          have s3 : wn x15 / (8 : Int) = wn (x15 >>> 3) := u32_shr x15 3
          have s10 : wn x2 / (1024 : Int) = wn (x2 >>> 10) := u32_shr x2 10
          go_wp2
          go_quiet ((go_at_call 58; first | refine Calls.quiet_of_same (l3Right_s _ _ 7 (by omega) (by omega) (by omega) _) | refine Calls.quiet_of_same (l3Right_s _ _ 18 (by omega) (by omega) (by omega) _) | refine Calls.quiet_of_same (l3Right_s _ _ 17 (by omega) (by omega) (by omega) _) | refine Calls.quiet_of_same (l3Right_s _ _ 19 (by omega) (by omega) (by omega) _)))
          have HS2 : Hid (VAt ((wr.drewN nq).setCell _ _) _ _ (k + 1) 64) := HS.out
          have hb2 := below_drewN hb nq
          have d15 : (wr.drewN nq).cell? _ = _ := c15
          have d2 : (wr.drewN nq).cell? _ = _ := c2
          have d16 : (wr.drewN nq).cell? _ = _ := c16
          have d7 : (wr.drewN nq).cell? _ = _ := c7
          have du : (wr.drewN nq).cell? _ = _ := hu
          have dz : (wr.drewN nq).frozen? _ = _ := hfz
          clear HS hb c15 c2 c16 c7 hu hfz
          generalize wr.drewN nq = wx at *
          go_wp2
          go_quiet ((go_at_call 58; first | refine Calls.quiet_of_same (l3Right_s _ _ 7 (by omega) (by omega) (by omega) _) | refine Calls.quiet_of_same (l3Right_s _ _ 18 (by omega) (by omega) (by omega) _) | refine Calls.quiet_of_same (l3Right_s _ _ 17 (by omega) (by omega) (by omega) _) | refine Calls.quiet_of_same (l3Right_s _ _ 19 (by omega) (by omega) (by omega) _)))
          have HS : Hid (VAt ((wx.drewN nq).setCell _ _) _ _ (k + 1) 64) := HS2.out
          have hb := below_drewN hb2 nq
          have c16 : (wx.drewN nq).cell? _ = _ := d16
          have c7 : (wx.drewN nq).cell? _ = _ := d7
          have hu : (wx.drewN nq).cell? _ = _ := du
          have hfz : (wx.drewN nq).frozen? _ = _ := dz
          clear HS2 hb2 d15 d2 d16 d7 du dz
          generalize wx.drewN nq = wx at *
          go_wp2
          refine wp_region_still_tail 19 (by kernel_rfl) (by kernel_rfl) ?_
          simp only [List.take_succ_cons, List.take_zero, List.drop_succ_cons, List.drop_zero]
          change wpStill _ _ wx.drew (fun a' => wpList _ _ _ _ a' wx.drew) _ _
          have HS2 : Hid (VAt ((wx.drew).setCell _ _) _ _ (k + 1) 64) := HS.out
          have hb2 := hb.drew
          have d16 : (wx.drew).cell? _ = _ := c16
          have d7 : (wx.drew).cell? _ = _ := c7
          have du : (wx.drew).cell? _ = _ := hu
          have dz : (wx.drew).frozen? _ = _ := hfz
          clear HS hb c16 c7 hu hfz
          generalize wx.drew = wx at *
          repeat (first | still_step | still_call (l3Word_s _ _))
          refine wpStill_nil ?_
          go_wp2
          go_roundw
          case rel => exact ⟨k + 1, by omega, by omega, by go_num, HS2.out, hb2.setCell (Nat.le_refl _) _⟩
          case measure => simp [intOf]; omega
        · have hk' : k = 64 := by omega
          have HW : Hid (KAt wr w.heap.size (sched (wordAt l)) 64) := hk' ▸ hW.k
          have hbz := hb.size
          have HH1 := Lib.hid ((HH.out.below hb).below ((Below.refl _ _).alloc (Nat.le_refl _) (.cells #[] 3)))
          obtain ⟨i0, hi, hz0, hz1, hz2⟩ := info_parts infoI
          have hown := World.ownsRow_lit wr #[] 0 (e := 3) (size := 1) (base := wr.heap.size) (Nat.le_refl _) (by simp [maxLen]) rfl
          clear hW hk hk' hk16
          go_wp2_with (refine wpList_append_lies _ rfl _ _ 57 rfl wr.heap.size 3 i0 (.int .i64 0) 1 8 Tryd.underlying57 hi hz0 hz1 hz2 rfl (by decide) _ 0 [] rfl hown ⟨H, 0, none⟩ 8 hc (g8 s.at) rfl rfl HH1.out.news (g8_one _) (by omega) (by simp [maxLen]) (by omega) (by simp) _ rfl ?_; intro g cap w2 hown2 hgr2 _ _; have hbn : Below wr.heap.size wr w2 := ((Below.refl _ _).alloc (Nat.le_refl _) _).grown hgr2 (by simp) (fun q hq => (hown.lt q hq).1); have hV2 := KAt.of_own hown2; clear hown2 hgr2)
          have HR : Hid (LoopR l w w2 g K s) := ⟨hV2, HW.out.below hbn, HK.out.below (Below.next hb hbn), Below.next hb hbn⟩
          clear hV2 HW HH1 hbn hbz hb hown
          go_loopw [12, 13] (fun v i wq => ∃ k : Nat, k ≤ 64 ∧ i = .int .i64 k ∧ ∃ V cap, v = .slice (some ⟨V, 0, none⟩) 8 cap ∧ LoopR l w wq V K (rounds kAt (sched (wordAt l)) s k)) (fun _ i _ => 64 - (intOf i).toNat)
          case atStart => exact ⟨0, by omega, rfl, g, cap, rfl, HR.out⟩
          clear HR hlt
          case round =>
            obtain ⟨k, hk, rfl, V, cap, rfl, hR⟩ := hrel
            have hki : 0 ≤ (k : Int) ∧ (k : Int) ≤ 64 := by omega
            by_cases hlt : k < 64
            · have hki2 : (k : Int) < 64 := by omega
              have hRe : Hid (rounds kAt (sched (wordAt l)) s (k + 1) = rnd (kAt k) (sched (wordAt l) k) (rounds kAt (sched (wordAt l)) s k)) := rfl
              have hkk := hR.2.2.1.2 k hlt
              have hww := hR.2.1.2 k hlt
              generalize rounds kAt (sched (wordAt l)) s k = x at hR hRe
              generalize sched (wordAt l) k = wk at hRe hww
              generalize kAt k = kk at hRe hkk
              obtain ⟨c0, c1, c2, c3, c4, c5, c6, c7⟩ := hR.1.get8
              have HR := Lib.hid hR
              clear hR
              go_wp2
              go_quiet ((first | (go_at_call 58; first | refine Calls.quiet_of_same (l3Right_s _ _ 6 (by omega) (by omega) (by omega) _) | refine Calls.quiet_of_same (l3Right_s _ _ 11 (by omega) (by omega) (by omega) _) | refine Calls.quiet_of_same (l3Right_s _ _ 25 (by omega) (by omega) (by omega) _)) | (go_at_call 59; refine Calls.quiet_of_same (l3Word_s _ _))))
              have HR2 := Lib.hid (HR.out.drewN nq)
              clear HR hkk hww c0 c1 c2 c3 c4 c5 c6 c7
              generalize wr.drewN nq = wx at *
              obtain ⟨c0, c1, c2, c3, c4, c5, c6, c7⟩ := HR2.out.1.get8
              go_wp2
              go_quiet ((first | (go_at_call 58; first | refine Calls.quiet_of_same (l3Right_s _ _ 2 (by omega) (by omega) (by omega) _) | refine Calls.quiet_of_same (l3Right_s _ _ 13 (by omega) (by omega) (by omega) _) | refine Calls.quiet_of_same (l3Right_s _ _ 22 (by omega) (by omega) (by omega) _)) | (go_at_call 59; refine Calls.quiet_of_same (l3Word_s _ _))))
              have HR := Lib.hid (HR2.out.drewN nq).drew
              clear HR2 c0 c1 c2 c3 c4 c5 c6 c7
              generalize wx.drewN nq = wx at *
              go_wp2
              refine wp_region_still_tail 28 (by kernel_rfl) (by kernel_rfl) ?_
              simp only [List.take_succ_cons, List.take_zero, List.drop_succ_cons, List.drop_zero]
              change wpStill _ _ wx.drew (fun a' => wpList _ _ _ _ a' wx.drew) _ _
              generalize wx.drew = wx at *
              obtain ⟨c0, c1, c2, c3, c4, c5, c6, c7⟩ := HR.out.1.get8
              repeat (first | still_step | still_call (l3Word_s _ _))
              refine wpStill_nil ?_
              clear c0 c1 c2 c3 c4 c5 c6 c7
              go_wp2
              go_roundw
              case rel =>
                refine ⟨k + 1, by omega, by go_num, _, _, rfl, ?_⟩
                rw [hRe.out]
                exact HR.out.start 3 (rnd kk wk x)
              case measure => simp [intOf]; omega
            · have hk' : k = 64 := by omega
              rw [hk'] at hR
              generalize hX : rounds kAt (sched (wordAt l)) s 64 = x at *
              have HX : Hid (shaBlk s l = s.add x) := by rw [← hX]; rfl
              have HR := Lib.hid hR
              clear hR hk' hk hX
              go_wp2_with fail
              go_loopw [18, 19] (fun out i wq => ∃ k : Nat, k ≤ 8 ∧ i = .int .i64 k ∧ wq.ownsRow wr.heap.size 3 1 out k ((g8 (s.add x).at).take k) ∧ Below wr.heap.size wr wq) (fun _ i _ => 8 - (intOf i).toNat)
              case atStart => exact ⟨0, by omega, rfl, World.ownsRow_lit wr #[] 0 (Nat.le_refl _) (by simp [maxLen]) rfl, (Below.refl _ _).alloc (Nat.le_refl _) _⟩
              case round =>
                obtain ⟨k, hk, rfl, hown, hb⟩ := hrel
                have hki : 0 ≤ (k : Int) ∧ (k : Int) ≤ 8 := by omega
                by_cases hlt : k < 8
                · have hki2 : (k : Int) < 8 := by omega
                  have hst : Hid ((g8 (s.add x).at).take (k + 1) = (g8 (s.add x).at).take k ++ [.int .i64 (wn (s.at k + x.at k))]) := by
                    unfold Hid
                    rw [List.take_add_one, g8_get _ k hlt]
                    congr 3
                    match k, hlt with
                    | 0, _ => rfl
                    | 1, _ => rfl
                    | 2, _ => rfl
                    | 3, _ => rfl
                    | 4, _ => rfl
                    | 5, _ => rfl
                    | 6, _ => rfl
                    | 7, _ => rfl
                  have hbz := hb.size
                  have c0 := (HR.out.1.below hb).2 k hlt
                  have c1 := ((HH.out.below HR.out.2.2.2).below hb).2 k hlt
                  obtain ⟨i0, hi, hz0, hz1, hz2⟩ := info_parts infoI
                  generalize s.at k = a at *
                  generalize hxk : x.at k = b at *
                  go_wp2
                  go_region_law (first
                    | (refine step_append_lies _ rfl _ _ 57 rfl _ 3 i0 (.int .i64 0) 1 8 Tryd.underlying57 hi hz0 hz1 hz2 rfl (by decide) _ k _ rfl (hown.alloc _) ⟨wr.heap.size, 0, none⟩ 1 1 [.int .i64 (wn (a + b))] rfl rfl (cells1 (by simp [go_sem])) (by intro u hu; simp at hu; subst hu; rfl) (by omega) (by unfold maxLen; omega) (by omega) (by simp; omega) _ rfl ?_; intro g cap w2 hown2 hgr2 _ _; have hb2 := ((hb.alloc hbz _).drew).grown hgr2 (by simp; omega) (fun q hq => (hown.lt q hq).1))
                    | (go_simp; go_at_call 59; refine (l3Word_any _ _).mono ?_; rintro e w' ⟨rfl, rfl⟩))
                  all_goals
                    go_wp2
                    go_roundw
                    case rel => exact ⟨k + 1, by omega, by go_num, by rw [hst.out]; exact hown2, hb2⟩
                    case measure => simp [intOf]; omega
                · have hk' : k = 8 := by omega
                  have hfull : (g8 (s.add x).at).take k = g8 (s.add x).at := by rw [hk']; rfl
                  rw [hfull, hk'] at hown
                  obtain ⟨g, cap, hv, _, _⟩ := hown.form (by omega)
                  subst hv
                  have HO : Hid (KAt wr g (shaBlk s l).at 8) := by rw [HX.out]; exact KAt.of_own hown
                  have HB := Lib.hid (Below.next HR.out.2.2.2 hb)
                  clear hown hb hfull hk' HR
                  go_wp2
                  go_ret
                  exact ⟨g, cap, rfl, HO.out, HB.out⟩
end Go.Proofs.YtnmgecaflildoaaDoor
