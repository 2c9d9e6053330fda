/-
  The laws' helpers over commits: szCSig, szCSigS, szCommit, toCommit, eqCommit.
-/
import Derived.Test.YtabkbaepnnfjhaaLawC
namespace Go.Proofs.Ytabkbaepnnfjhaa
open Go.ChangeShapes Go.WideShapes Go.ChangeAt Go.RowKit
set_option linter.unusedVariables false
set_option linter.unusedSimpArgs false
set_option maxRecDepth 100000

theorem szCSig_any (v : Int) (p : List UInt8) (y : Int) (w : World) (hp : p.length ≤ 9223372036854775807) (h0 : 0 ≤ y) (h1 : y ≤ 1048576) :
    Calls Try.prog 87 #[.agg #[.int .i64 v, .string (S p)], .int .i64 y] w fun e w' => ∃ r : Int, e = .returned (.int .i64 r) ∧ Below w.heap.size w w' ∧ (r = -1 ∨ (r = y - p.length ∧ 0 ≤ r)) := by
  have hb := Below.refl w.heap.size w
  by_cases hn : y - (p.length : Int) < 0
  · go_enter Try.func87, Try.ntmps87
    go_wp2
    go_ret
    exact ⟨-1, rfl, (by repeat (first | with_reducible exact hb | with_reducible exact Below.refl _ _ | refine Below.drew ?_ | refine Below.setCell ?_ (by simp <;> omega) _ | refine Below.alloc ?_ (by simp <;> omega) _)), .inl rfl⟩
  · go_enter Try.func87, Try.ntmps87
    go_wp2
    go_ret
    exact ⟨_, rfl, (by repeat (first | with_reducible exact hb | with_reducible exact Below.refl _ _ | refine Below.drew ?_ | refine Below.setCell ?_ (by simp <;> omega) _ | refine Below.alloc ?_ (by simp <;> omega) _)), .inr ⟨rfl, by omega⟩⟩
theorem szCSigS_any (A : Option Addr) (c : Nat) (l : List SigT) (y0 : Int) (w : World) (hn : l.length ≤ 9223372036854775807) (hm : ∀ s ∈ l, s.sig.length ≤ 9223372036854775807) (h0 : 0 ≤ y0) (h1 : y0 ≤ 1048576) (hR : SReads w w.heap.size A l) :
    Calls Try.prog 55 #[.slice A l.length c, .int .i64 y0] w fun e w' => ∃ r : Int, e = .returned (.int .i64 r) ∧ Below w.heap.size w w' ∧ (r < 0 ∨ (r ≤ 1048576 ∧ l.length ≤ 1048576)) := by
  have HR := Lib.hid hR
  have HM := Lib.hid hm
  clear hR hm
  by_cases hneg : y0 - (l.length : Int) < 0
  · go_enter Try.func55, Try.ntmps55
    go_wp2
    go_ret
    exact ⟨-1, rfl, Below.refl _ _, .inl (by omega)⟩
  · have hll : Hid (l.length ≤ 1048576) := by unfold Hid; omega
    have hneg' : ¬ y0 - (l.length : Int) < 0 := hneg
    go_enter Try.func55, Try.ntmps55
    go_wp2_with fail
    go_loopw [1, 5] (fun v i wr => ∃ (k : Nat) (y : Int), k ≤ l.length ∧ i = .int .i64 (k : Int) ∧ v = .int .i64 y ∧ 0 ≤ y ∧ y ≤ 1048576 ∧ Below w.heap.size w wr) (fun _ i _ => l.length - (intOf i).toNat)
    case atStart => exact ⟨0, y0 - l.length, by omega, rfl, rfl, by omega, by omega, Below.refl _ _⟩
    case round =>
      obtain ⟨k, y, hk, rfl, rfl, hy0, hy1, hb⟩ := hrel
      have hki : 0 ≤ (k : Int) ∧ (k : Int) ≤ l.length := by omega
      by_cases hlt : k < l.length
      · obtain ⟨b, off, rfl, hbB, hc⟩ := ((HR.out.below hb (Nat.le_refl _)).more hb.size) (by omega)
        obtain ⟨c0, c1⟩ := hc k hlt
        have hxl := HM.out l[k] (List.getElem_mem hlt)
        have hki2 : (k : Int) < l.length := by omega
        clear hc
        generalize l[k] = g at *
        obtain ⟨gv, gs⟩ := g
        simp only at c0 c1 hxl
        go_wp2_with fail
        refine (szCSig_any gv gs y _ hxl hy0 hy1).mono ?_
        rintro e wn ⟨r, rfl, hbn, rfl | ⟨hr, hr0⟩⟩
        · have hb2 := Below.next hb hbn
          go_wp2
          go_ret
          exact ⟨-1, rfl, hb2, .inl (by omega)⟩
        · have hb2 := Below.next hb hbn
          have hr' : ¬ r < 0 := by omega
          go_wp2
          go_roundw
          case rel => exact ⟨k + 1, y - gs.length, by omega, by go_num, rfl, by omega, by omega, hb2⟩
          case measure => simp [intOf]; omega
      · go_wp2
        go_ret
        exact ⟨y, rfl, hb, .inr (by first | exact ⟨hy1, hll.out⟩ | exact hll.out | exact hy1)⟩
theorem szCommit_any (h r : Int) (id : List UInt8) (A : Option Addr) (c : Nat) (l : List SigT) (w : World) (hid : id.length ≤ 9223372036854775807) (hn : l.length ≤ 9223372036854775807) (hm : ∀ s ∈ l, s.sig.length ≤ 9223372036854775807) (hR : SReads w w.heap.size A l) :
    Calls Try.prog 17 #[.agg #[.int .i64 h, .int .i64 r, .string (S id), .slice A l.length c], .int .i64 1048576] w fun e w' => ∃ q : Int, e = .returned (.int .i64 q) ∧ Below w.heap.size w w' ∧ (q < 0 ∨ (0 ≤ q ∧ id.length ≤ 1048576 ∧ l.length ≤ 1048576)) := by
  have HR := Lib.hid hR
  have HM := Lib.hid hm
  clear hR hm
  have hb := Below.refl w.heap.size w
  by_cases hi : 1048576 - (id.length : Int) < 0
  · go_enter Try.func17, Try.ntmps17
    go_wp2
    go_ret
    exact ⟨-1, rfl, (by repeat (first | with_reducible exact hb | with_reducible exact Below.refl _ _ | refine Below.drew ?_ | refine Below.setCell ?_ (by simp <;> omega) _ | refine Below.alloc ?_ (by simp <;> omega) _)), .inl (by omega)⟩
  · have hi' : ¬ 1048576 - (id.length : Int) < 0 := hi
    go_enter Try.func17, Try.ntmps17
    go_wp2_with fail
    have hb1 : ∀ o, Below w.heap.size w (w.alloc o) := fun o => hb.alloc (Nat.le_refl _) o
    refine (szCSigS_any A c l (1048576 - (id.length : Int)) _ hn HM.out (by omega) (by omega) (HR.out.to (hb1 _))).mono ?_
    rintro e wn ⟨q, rfl, hbn, hq | ⟨hq, hl⟩⟩
    · have hb2 := Below.next (w := w) (hb1 _) hbn
      go_wp2
      go_ret
      exact ⟨-1, rfl, hb2, .inl (by omega)⟩
    · have hb2 := Below.next (w := w) (hb1 _) hbn
      by_cases hq0 : q < 0
      · go_wp2
        go_ret
        exact ⟨-1, rfl, hb2, .inl (by omega)⟩
      · go_wp2
        go_ret
        exact ⟨q, rfl, hb2, .inr (by first | exact ⟨by omega, by omega, hl⟩ | omega)⟩
theorem SReads_far {w : World} {B G off : Nat} {l : List SigT} (h : SReads w B (some ⟨G, off, none⟩) l) {p : Addr} (hp : p.block ≠ G) (v : Value) : SReads (w.setCell p v) B (some ⟨G, off, none⟩) l := fun hl => by
  obtain ⟨b, o, e, hb, hc⟩ := h hl
  cases e
  have k : ∀ j, (w.setCell p v).cell? ⟨G, j, none⟩ = w.cell? ⟨G, j, none⟩ := fun j => World.cell?_setCell_other _ _ _ _ (by intro h; subst h; exact hp rfl)
  exact ⟨G, off, rfl, hb, fun j hj => ⟨(k _).trans (hc j hj).1, (k _).trans (hc j hj).2⟩⟩
set_option maxHeartbeats 1000000 in
theorem toCommit_any (h r : Int) (id : List UInt8) (A : Option Addr) (c : Nat) (l : List SigT) (w : World) (hl : l.length ≤ 4194304) (hR : SReads w w.heap.size A l) :
    Calls Try.prog 19 #[.agg #[.int .i64 h, .int .i64 r, .string (S id), .slice A l.length c]] w fun e w' => ∃ G, e = .returned (.agg #[.int .i64 h, .int .i64 r, .string (S id), .slice (some ⟨G, 0, none⟩) l.length l.length]) ∧ SReads w' w'.heap.size (some ⟨G, 0, none⟩) l ∧ Below w.heap.size w w' := by
  have HR := Lib.hid hR
  clear hR
  have hb := Below.refl w.heap.size w
  go_enter Try.func19, Try.ntmps19
  go_wp2_with fail
  refine (toCSigS_any A c l _ (by omega) (HR.out.to (by repeat (first | with_reducible exact hb | with_reducible exact Below.refl _ _ | refine Below.drew ?_ | refine Below.setCell ?_ (by simp <;> omega) _ | refine Below.alloc ?_ (by simp <;> omega) _)))).mono ?_
  rintro e wn ⟨rfl, ho, hbn⟩
  have hb2 : Below w.heap.size w wn := Below.next (w := w) (by repeat (first | with_reducible exact hb | with_reducible exact Below.refl _ _ | refine Below.drew ?_ | refine Below.setCell ?_ (by simp <;> omega) _ | refine Below.alloc ?_ (by simp <;> omega) _)) hbn
  have hS := SReads.of_own ho
  obtain ⟨hc, hf⟩ := bcell hbn
  have hz := hbn.size
  simp at hS hz
  have hz1 : w.heap.size < wn.heap.size := by omega
  have hz2 : w.heap.size + 1 < wn.heap.size := by omega
  have hz3 : w.heap.size + 1 + 1 < wn.heap.size := by omega
  have HSS := Lib.hid hS
  have HB2 := Lib.hid hb2
  clear hbn ho hS hb2
  go_wp2
  refine bodyPost_ret (v := .agg #[.int .i64 h, .int .i64 r, .string (S id), .slice (some ⟨w.heap.size + 1 + 1 + 1, 0, none⟩) l.length l.length]) (by simp [results, Try.results19, go_sem, *]) rfl ⟨_, rfl, ?_, ?_⟩
  · refine SReads.more (B := wn.heap.size) ?_ (by simp)
    repeat (first | with_reducible exact HSS.out | with_reducible refine SReads_far ?_ (by simp <;> omega) _)
  · repeat (first | with_reducible exact HB2.out | with_reducible refine Below.setCell ?_ (by simp <;> omega) _)
theorem eqCommit_same (h r : Int) (id : List UInt8) (A1 A2 : Option Addr) (c1 c2 : Nat) (l : List SigT) (w : World) (hl : l.length ≤ 4194304) (hR1 : SReads w w.heap.size A1 l) (hR2 : SReads w w.heap.size A2 l) :
    Calls Try.prog 21 #[.agg #[.int .i64 h, .int .i64 r, .string (S id), .slice A1 l.length c1], .agg #[.int .i64 h, .int .i64 r, .string (S id), .slice A2 l.length c2]] w fun e w' => e = .returned (.bool true) ∧ Below w.heap.size w w' := by
  have HR1 := Lib.hid hR1
  have HR2 := Lib.hid hR2
  clear hR1 hR2
  have hb := Below.refl w.heap.size w
  go_enter Try.func21, Try.ntmps21
  go_wp2_with fail
  refine (eqCSigS_same A1 A2 c1 c2 l _ hl (HR1.out.to (by repeat (first | with_reducible exact hb | with_reducible exact Below.refl _ _ | refine Below.drew ?_ | refine Below.setCell ?_ (by simp <;> omega) _ | refine Below.alloc ?_ (by simp <;> omega) _))) (HR2.out.to (by repeat (first | with_reducible exact hb | with_reducible exact Below.refl _ _ | refine Below.drew ?_ | refine Below.setCell ?_ (by simp <;> omega) _ | refine Below.alloc ?_ (by simp <;> omega) _)))).mono ?_
  rintro e wn ⟨rfl, hbn⟩
  have hb2 : Below w.heap.size w wn := Below.next (w := w) (by repeat (first | with_reducible exact hb | with_reducible exact Below.refl _ _ | refine Below.drew ?_ | refine Below.setCell ?_ (by simp <;> omega) _ | refine Below.alloc ?_ (by simp <;> omega) _)) hbn
  go_wp2
  go_ret
  exact ⟨rfl, hb2⟩
end Go.Proofs.Ytabkbaepnnfjhaa
