/-
  Texts of this proof, laid into one: LawC2, LawC5, LawC6, ShowH.
-/
import Derived.Test.YtecimgkgdpnaeaaDoorGFnExactCommitOk10
import Derived.Test.YtecimgkgdpnaeaaDoorGFnExactCommitOk3
import Derived.Deep.RegionHeld3
import Derived.Test.YtecimgkgdpnaeaaDoorGFnExactCommitOk5
import Derived.Test.YtecimgkgdpnaeaaDoorGFnExactCommitOk9
/-
  The laws' helpers over commits: szCSig, szCSigS, szCommit, toCommit, eqCommit.
-/
namespace Go.Proofs.YtecimgkgdpnaeaaDoor
open Go.ChangeShapes Go.WideShapes Go.ChangeAt Go.RowKit
set_option linter.unusedVariables false
set_option linter.unusedSimpArgs false
set_option maxRecDepth 100000

theorem szCSig_any (v : Int) (p : List UInt8) (y : Int) (w : World) (hp : p.length ≤ 9223372036854775807) (h0 : 0 ≤ y) (h1 : y ≤ 1048576) :
    Calls Tryd.prog 94 #[.agg #[.int .i64 v, .string (S p)], .int .i64 y] w fun e w' => ∃ r : Int, e = .returned (.int .i64 r) ∧ Below w.heap.size w w' ∧ (r = -1 ∨ (r = y - p.length ∧ 0 ≤ r)) := by
  have hb := Below.refl w.heap.size w
  by_cases hn : y - (p.length : Int) < 0
  · go_enter Tryd.func94, Tryd.ntmps94
    go_wp2
    go_ret
    exact ⟨-1, rfl, (by repeat (first | with_reducible exact hb | with_reducible exact Below.refl _ _ | refine Below.drew ?_ | refine Below.setCell ?_ (by simp <;> omega) _ | refine Below.alloc ?_ (by simp <;> omega) _)), .inl rfl⟩
  · go_enter Tryd.func94, Tryd.ntmps94
    go_wp2
    go_ret
    exact ⟨_, rfl, (by repeat (first | with_reducible exact hb | with_reducible exact Below.refl _ _ | refine Below.drew ?_ | refine Below.setCell ?_ (by simp <;> omega) _ | refine Below.alloc ?_ (by simp <;> omega) _)), .inr ⟨rfl, by omega⟩⟩
theorem szCSigS_any (A : Option Addr) (c : Nat) (l : List SigT) (y0 : Int) (w : World) (hn : l.length ≤ 9223372036854775807) (hm : ∀ s ∈ l, s.sig.length ≤ 9223372036854775807) (h0 : 0 ≤ y0) (h1 : y0 ≤ 1048576) (hR : SReads w w.heap.size A l) :
    Calls Tryd.prog 65 #[.slice A l.length c, .int .i64 y0] w fun e w' => ∃ r : Int, e = .returned (.int .i64 r) ∧ Below w.heap.size w w' ∧ (r < 0 ∨ (r ≤ 1048576 ∧ l.length ≤ 1048576)) := by
  have HR := Lib.hid hR
  have HM := Lib.hid hm
  clear hR hm
  by_cases hneg : y0 - (l.length : Int) < 0
  · go_enter Tryd.func65, Tryd.ntmps65
    go_wp2
    go_ret
    exact ⟨-1, rfl, Below.refl _ _, .inl (by omega)⟩
  · have hll : Hid (l.length ≤ 1048576) := by unfold Hid; omega
    have hneg' : ¬ y0 - (l.length : Int) < 0 := hneg
    go_enter Tryd.func65, Tryd.ntmps65
    go_wp2_with fail
    go_loopw [1, 5] (fun v i wr => ∃ (k : Nat) (y : Int), k ≤ l.length ∧ i = .int .i64 (k : Int) ∧ v = .int .i64 y ∧ 0 ≤ y ∧ y ≤ 1048576 ∧ Below w.heap.size w wr) (fun _ i _ => l.length - (intOf i).toNat)
    case atStart => exact ⟨0, y0 - l.length, by omega, rfl, rfl, by omega, by omega, Below.refl _ _⟩
    case round =>
      obtain ⟨k, y, hk, rfl, rfl, hy0, hy1, hb⟩ := hrel
      have hki : 0 ≤ (k : Int) ∧ (k : Int) ≤ l.length := by omega
      by_cases hlt : k < l.length
      · obtain ⟨b, off, rfl, hbB, hc⟩ := ((HR.out.below hb (Nat.le_refl _)).more hb.size) (by omega)
        obtain ⟨c0, c1⟩ := hc k hlt
        have hxl := HM.out l[k] (List.getElem_mem hlt)
        have hki2 : (k : Int) < l.length := by omega
        clear hc
        generalize l[k] = g at *
        obtain ⟨gv, gs⟩ := g
        simp only at c0 c1 hxl
        go_wp2_with fail
        refine (szCSig_any gv gs y _ hxl hy0 hy1).mono ?_
        rintro e wn ⟨r, rfl, hbn, rfl | ⟨hr, hr0⟩⟩
        · have hb2 := Below.next hb hbn
          go_wp2
          go_ret
          exact ⟨-1, rfl, hb2, .inl (by omega)⟩
        · have hb2 := Below.next hb hbn
          have hr' : ¬ r < 0 := by omega
          go_wp2
          go_roundw
          case rel => exact ⟨k + 1, y - gs.length, by omega, by go_num, rfl, by omega, by omega, hb2⟩
          case measure => simp [intOf]; omega
      · go_wp2
        go_ret
        exact ⟨y, rfl, hb, .inr (by first | exact ⟨hy1, hll.out⟩ | exact hll.out | exact hy1)⟩
theorem szCommit_any (h r : Int) (id : List UInt8) (A : Option Addr) (c : Nat) (l : List SigT) (w : World) (hid : id.length ≤ 9223372036854775807) (hn : l.length ≤ 9223372036854775807) (hm : ∀ s ∈ l, s.sig.length ≤ 9223372036854775807) (hR : SReads w w.heap.size A l) :
    Calls Tryd.prog 22 #[.agg #[.int .i64 h, .int .i64 r, .string (S id), .slice A l.length c], .int .i64 1048576] w fun e w' => ∃ q : Int, e = .returned (.int .i64 q) ∧ Below w.heap.size w w' ∧ (q < 0 ∨ (0 ≤ q ∧ id.length ≤ 1048576 ∧ l.length ≤ 1048576)) := by
  have HR := Lib.hid hR
  have HM := Lib.hid hm
  clear hR hm
  have hb := Below.refl w.heap.size w
  by_cases hi : 1048576 - (id.length : Int) < 0
  · go_enter Tryd.func22, Tryd.ntmps22
    go_wp2
    go_ret
    exact ⟨-1, rfl, (by repeat (first | with_reducible exact hb | with_reducible exact Below.refl _ _ | refine Below.drew ?_ | refine Below.setCell ?_ (by simp <;> omega) _ | refine Below.alloc ?_ (by simp <;> omega) _)), .inl (by omega)⟩
  · have hi' : ¬ 1048576 - (id.length : Int) < 0 := hi
    go_enter Tryd.func22, Tryd.ntmps22
    go_wp2_with fail
    have hb1 : ∀ o, Below w.heap.size w (w.alloc o) := fun o => hb.alloc (Nat.le_refl _) o
    refine (szCSigS_any A c l (1048576 - (id.length : Int)) _ hn HM.out (by omega) (by omega) (HR.out.to (hb1 _))).mono ?_
    rintro e wn ⟨q, rfl, hbn, hq | ⟨hq, hl⟩⟩
    · have hb2 := Below.next (w := w) (hb1 _) hbn
      go_wp2
      go_ret
      exact ⟨-1, rfl, hb2, .inl (by omega)⟩
    · have hb2 := Below.next (w := w) (hb1 _) hbn
      by_cases hq0 : q < 0
      · go_wp2
        go_ret
        exact ⟨-1, rfl, hb2, .inl (by omega)⟩
      · go_wp2
        go_ret
        exact ⟨q, rfl, hb2, .inr (by first | exact ⟨by omega, by omega, hl⟩ | omega)⟩
theorem SReads_far {w : World} {B G off : Nat} {l : List SigT} (h : SReads w B (some ⟨G, off, none⟩) l) {p : Addr} (hp : p.block ≠ G) (v : Value) : SReads (w.setCell p v) B (some ⟨G, off, none⟩) l := fun hl => by
  obtain ⟨b, o, e, hb, hc⟩ := h hl
  cases e
  have k : ∀ j, (w.setCell p v).cell? ⟨G, j, none⟩ = w.cell? ⟨G, j, none⟩ := fun j => World.cell?_setCell_other _ _ _ _ (by intro h; subst h; exact hp rfl)
  exact ⟨G, off, rfl, hb, fun j hj => ⟨(k _).trans (hc j hj).1, (k _).trans (hc j hj).2⟩⟩
set_option maxHeartbeats 1000000 in
theorem toCommit_any (h r : Int) (id : List UInt8) (A : Option Addr) (c : Nat) (l : List SigT) (w : World) (hl : l.length ≤ 4194304) (hR : SReads w w.heap.size A l) :
    Calls Tryd.prog 24 #[.agg #[.int .i64 h, .int .i64 r, .string (S id), .slice A l.length c]] w fun e w' => ∃ G, e = .returned (.agg #[.int .i64 h, .int .i64 r, .string (S id), .slice (some ⟨G, 0, none⟩) l.length l.length]) ∧ SReads w' w'.heap.size (some ⟨G, 0, none⟩) l ∧ Below w.heap.size w w' := by
  have HR := Lib.hid hR
  clear hR
  have hb := Below.refl w.heap.size w
  go_enter Tryd.func24, Tryd.ntmps24
  go_wp2_with fail
  refine (toCSigS_any A c l _ (by omega) (HR.out.to (by repeat (first | with_reducible exact hb | with_reducible exact Below.refl _ _ | refine Below.drew ?_ | refine Below.setCell ?_ (by simp <;> omega) _ | refine Below.alloc ?_ (by simp <;> omega) _)))).mono ?_
  rintro e wn ⟨rfl, ho, hbn⟩
  have hb2 : Below w.heap.size w wn := Below.next (w := w) (by repeat (first | with_reducible exact hb | with_reducible exact Below.refl _ _ | refine Below.drew ?_ | refine Below.setCell ?_ (by simp <;> omega) _ | refine Below.alloc ?_ (by simp <;> omega) _)) hbn
  have hS := SReads.of_own ho
  obtain ⟨hc, hf⟩ := bcell hbn
  have hz := hbn.size
  simp at hS hz
  have hz1 : w.heap.size < wn.heap.size := by omega
  have hz2 : w.heap.size + 1 < wn.heap.size := by omega
  have hz3 : w.heap.size + 1 + 1 < wn.heap.size := by omega
  have HSS := Lib.hid hS
  have HB2 := Lib.hid hb2
  clear hbn ho hS hb2
  go_wp2
  refine bodyPost_ret (v := .agg #[.int .i64 h, .int .i64 r, .string (S id), .slice (some ⟨w.heap.size + 1 + 1 + 1, 0, none⟩) l.length l.length]) (by simp [results, Tryd.results24, go_sem, *]) rfl ⟨_, rfl, ?_, ?_⟩
  · refine SReads.more (B := wn.heap.size) ?_ (by simp)
    repeat (first | with_reducible exact HSS.out | with_reducible refine SReads_far ?_ (by simp <;> omega) _)
  · repeat (first | with_reducible exact HB2.out | with_reducible refine Below.setCell ?_ (by simp <;> omega) _)
theorem eqCommit_same (h r : Int) (id : List UInt8) (A1 A2 : Option Addr) (c1 c2 : Nat) (l : List SigT) (w : World) (hl : l.length ≤ 4194304) (hR1 : SReads w w.heap.size A1 l) (hR2 : SReads w w.heap.size A2 l) :
    Calls Tryd.prog 27 #[.agg #[.int .i64 h, .int .i64 r, .string (S id), .slice A1 l.length c1], .agg #[.int .i64 h, .int .i64 r, .string (S id), .slice A2 l.length c2]] w fun e w' => e = .returned (.bool true) ∧ Below w.heap.size w w' := by
  have HR1 := Lib.hid hR1
  have HR2 := Lib.hid hR2
  clear hR1 hR2
  have hb := Below.refl w.heap.size w
  go_enter Tryd.func27, Tryd.ntmps27
  go_wp2_with fail
  refine (eqCSigS_same A1 A2 c1 c2 l _ hl (HR1.out.to (by repeat (first | with_reducible exact hb | with_reducible exact Below.refl _ _ | refine Below.drew ?_ | refine Below.setCell ?_ (by simp <;> omega) _ | refine Below.alloc ?_ (by simp <;> omega) _))) (HR2.out.to (by repeat (first | with_reducible exact hb | with_reducible exact Below.refl _ _ | refine Below.drew ?_ | refine Below.setCell ?_ (by simp <;> omega) _ | refine Below.alloc ?_ (by simp <;> omega) _)))).mono ?_
  rintro e wn ⟨rfl, hbn⟩
  have hb2 : Below w.heap.size w wn := Below.next (w := w) (by repeat (first | with_reducible exact hb | with_reducible exact Below.refl _ _ | refine Below.drew ?_ | refine Below.setCell ?_ (by simp <;> omega) _ | refine Below.alloc ?_ (by simp <;> omega) _)) hbn
  go_wp2
  go_ret
  exact ⟨rfl, hb2⟩
end Go.Proofs.YtecimgkgdpnaeaaDoor

/-
  toCommit hands back a row of its own.
-/
namespace Go.Proofs.YtecimgkgdpnaeaaDoor
open Go.ChangeShapes Go.WideShapes Go.ChangeAt Go.RowKit
set_option linter.unusedVariables false
set_option linter.unusedSimpArgs false
set_option maxRecDepth 100000

set_option maxHeartbeats 1000000 in
theorem toCommit_own (h r : Int) (id : List UInt8) (A : Option Addr) (c : Nat) (l : List SigT) (w : World) (hl : l.length ≤ 4194304) (hR : SReads w w.heap.size A l) :
    Calls Tryd.prog 24 #[.agg #[.int .i64 h, .int .i64 r, .string (S id), .slice A l.length c]] w fun e w' => ∃ G, e = .returned (.agg #[.int .i64 h, .int .i64 r, .string (S id), .slice (some ⟨G, 0, none⟩) l.length l.length]) ∧ w'.ownsRow w.heap.size 85 2 (.slice (some ⟨G, 0, none⟩) l.length l.length) l.length (scells l) ∧ w.heap.size ≤ G ∧ G < w'.heap.size ∧ Below w.heap.size w w' := by
  have HR := Lib.hid hR
  clear hR
  have hb := Below.refl w.heap.size w
  go_enter Tryd.func24, Tryd.ntmps24
  go_wp2_with fail
  refine (toCSigS_any A c l _ (by omega) (HR.out.to (by repeat (first | with_reducible exact hb | with_reducible exact Below.refl _ _ | refine Below.drew ?_ | refine Below.setCell ?_ (by simp <;> omega) _ | refine Below.alloc ?_ (by simp <;> omega) _)))).mono ?_
  rintro e wn ⟨rfl, ho, hbn⟩
  have hb2 : Below w.heap.size w wn := Below.next (w := w) (by repeat (first | with_reducible exact hb | with_reducible exact Below.refl _ _ | refine Below.drew ?_ | refine Below.setCell ?_ (by simp <;> omega) _ | refine Below.alloc ?_ (by simp <;> omega) _)) hbn
  obtain ⟨hc, hf⟩ := bcell hbn
  have hz := hbn.size
  have hlt := ho.lt
  simp [Value.ownBlock] at ho hz hlt
  have hz1 : w.heap.size < wn.heap.size := by omega
  have hz2 : w.heap.size + 1 < wn.heap.size := by omega
  have hz3 : w.heap.size + 1 + 1 < wn.heap.size := by omega
  have HO := Lib.hid (own_base ho (base' := w.heap.size) (by omega))
  have HB2 := Lib.hid hb2
  clear hbn ho hb2
  go_wp2
  refine bodyPost_ret (v := .agg #[.int .i64 h, .int .i64 r, .string (S id), .slice (some ⟨w.heap.size + 1 + 1 + 1, 0, none⟩) l.length l.length]) (by simp [results, Tryd.results24, go_sem, *]) rfl ⟨_, rfl, ?_, by omega, by simp; omega, ?_⟩
  · repeat (first | with_reducible exact HO.out | with_reducible refine own_set ?_ (by simp [Value.ownBlock] <;> omega) _ _)
  · repeat (first | with_reducible exact HB2.out | with_reducible refine Below.setCell ?_ (by simp <;> omega) _)
end Go.Proofs.YtecimgkgdpnaeaaDoor

/-
  szCommit with what is left.
-/
namespace Go.Proofs.YtecimgkgdpnaeaaDoor
open Go.ChangeShapes Go.WideShapes Go.ChangeAt Go.RowKit
set_option linter.unusedVariables false
set_option linter.unusedSimpArgs false
set_option maxRecDepth 100000

theorem szCommit_y (y : Int) (hy0 : 0 ≤ y) (hy1 : y ≤ 1048576) (h r : Int) (id : List UInt8) (A : Option Addr) (c : Nat) (l : List SigT) (w : World) (hid : id.length ≤ 9223372036854775807) (hn : l.length ≤ 9223372036854775807) (hm : ∀ s ∈ l, s.sig.length ≤ 9223372036854775807) (hR : SReads w w.heap.size A l) :
    Calls Tryd.prog 22 #[.agg #[.int .i64 h, .int .i64 r, .string (S id), .slice A l.length c], .int .i64 y] w fun e w' => ∃ q : Int, e = .returned (.int .i64 q) ∧ Below w.heap.size w w' ∧ (q < 0 ∨ (0 ≤ q ∧ id.length ≤ 1048576 ∧ l.length ≤ 1048576)) := by
  have HR := Lib.hid hR
  have HM := Lib.hid hm
  clear hR hm
  have hb := Below.refl w.heap.size w
  by_cases hi : y - (id.length : Int) < 0
  · go_enter Tryd.func22, Tryd.ntmps22
    go_wp2
    go_ret
    exact ⟨-1, rfl, (by repeat (first | with_reducible exact hb | with_reducible exact Below.refl _ _ | refine Below.drew ?_ | refine Below.setCell ?_ (by simp <;> omega) _ | refine Below.alloc ?_ (by simp <;> omega) _)), .inl (by omega)⟩
  · have hi' : ¬ y - (id.length : Int) < 0 := hi
    go_enter Tryd.func22, Tryd.ntmps22
    go_wp2_with fail
    have hb1 : ∀ o, Below w.heap.size w (w.alloc o) := fun o => hb.alloc (Nat.le_refl _) o
    refine (szCSigS_any A c l (y - (id.length : Int)) _ hn HM.out (by omega) (by omega) (HR.out.to (hb1 _))).mono ?_
    rintro e wn ⟨q, rfl, hbn, hq | ⟨hq, hl⟩⟩
    · have hb2 := Below.next (w := w) (hb1 _) hbn
      go_wp2
      go_ret
      exact ⟨-1, rfl, hb2, .inl (by omega)⟩
    · have hb2 := Below.next (w := w) (hb1 _) hbn
      by_cases hq0 : q < 0
      · go_wp2
        go_ret
        exact ⟨-1, rfl, hb2, .inl (by omega)⟩
      · go_wp2
        go_ret
        exact ⟨q, rfl, hb2, .inr (by first | exact ⟨by omega, by omega, hl⟩ | omega)⟩
end Go.Proofs.YtecimgkgdpnaeaaDoor

/-
  sized, l6Piece; ShowHeader, both.
-/
namespace Go.Proofs.YtecimgkgdpnaeaaDoor
open Go.ChangeShapes Go.WideShapes Go.ChangeAt Go.RowKit
set_option linter.unusedVariables false
set_option linter.unusedSimpArgs false
set_option maxRecDepth 100000

theorem sizedS_len (l : List UInt8) : (sizedS l).length ≤ 8 + l.length := by
  have := varS_len (l.length : Int)
  unfold sizedS; rw [List.length_append]; omega
theorem sized_any (l : List UInt8) (w : World) (hl : l.length ≤ 4194304) :
    Calls Tryd.prog 47 #[.string (S l)] w fun e w' => e = .returned (.string (S (sizedS l))) ∧ Below w.heap.size w w' := by
  have q := varS_len (l.length : Int)
  have hb := Below.refl w.heap.size w
  go_enter Tryd.func47, Tryd.ntmps47
  go_wp2_with (go_at_call 46; refine (iVar_any _ _).mono ?_; rintro e wn ⟨rfl, hbn⟩; have hb := Below.next (w := w) (by repeat (first | with_reducible exact hb | with_reducible exact Below.refl _ _ | refine Below.drew ?_ | refine Below.setCell ?_ (by simp <;> omega) _ | refine Below.alloc ?_ (by simp <;> omega) _)) hbn; clear hbn)
  go_ret
  exact ⟨rfl, hb⟩
theorem l6Piece_any (l : List UInt8) (w : World) (hl : l.length ≤ 4194304) :
    Calls Tryd.prog 62 #[.string (S l)] w fun e w' => e = .returned (.string (S (sizedS l))) ∧ Below w.heap.size w w' := by
  have q := varS_len (l.length : Int)
  have hb := Below.refl w.heap.size w
  go_enter Tryd.func62, Tryd.ntmps62
  go_wp2_with (go_at_call 61; refine (sVar_any _ _).mono ?_; rintro e wn ⟨rfl, hbn⟩; have hb := Below.next (w := w) (by repeat (first | with_reducible exact hb | with_reducible exact Below.refl _ _ | refine Below.drew ?_ | refine Below.setCell ?_ (by simp <;> omega) _ | refine Below.alloc ?_ (by simp <;> omega) _)) hbn; clear hbn)
  go_ret
  exact ⟨rfl, hb⟩
/-- Six cells are held over a call that makes memory. -/
theorem held6 {w cur wm : World} {B : Nat} {u0 u1 u2 u3 u4 u5 : Value}
    (H : Below w.heap.size w cur ∧ B < cur.heap.size ∧ cur.cell? ⟨B, 0, none⟩ = some u0 ∧ cur.cell? ⟨B, 1, none⟩ = some u1 ∧ cur.cell? ⟨B, 2, none⟩ = some u2 ∧ cur.cell? ⟨B, 3, none⟩ = some u3 ∧ cur.cell? ⟨B, 4, none⟩ = some u4 ∧ cur.cell? ⟨B, 5, none⟩ = some u5) (hb : Below cur.heap.size cur wm) :
    Below w.heap.size w wm ∧ B < wm.heap.size ∧ wm.cell? ⟨B, 0, none⟩ = some u0 ∧ wm.cell? ⟨B, 1, none⟩ = some u1 ∧ wm.cell? ⟨B, 2, none⟩ = some u2 ∧ wm.cell? ⟨B, 3, none⟩ = some u3 ∧ wm.cell? ⟨B, 4, none⟩ = some u4 ∧ wm.cell? ⟨B, 5, none⟩ = some u5 := by
  obtain ⟨h1, h2, c0, c1, c2, c3, c4, c5⟩ := H
  have k : ∀ i, wm.cell? ⟨B, i, none⟩ = cur.cell? ⟨B, i, none⟩ := fun i => hb.cell (p := ⟨B, i, none⟩) h2
  exact ⟨Below.next h1 hb, Nat.lt_of_lt_of_le h2 hb.size, (k 0).trans c0, (k 1).trans c1, (k 2).trans c2, (k 3).trans c3, (k 4).trans c4, (k 5).trans c5⟩
theorem headOk_len {x : HeadT} (h : headOkB x = true) : x.last.length ≤ 8 ∧ x.vals.length ≤ 8 ∧ x.next.length ≤ 8 ∧ x.data.length ≤ 20 := by
  unfold headOkB at h
  simp only [Bool.and_eq_true, beq_iff_eq, decide_eq_true_eq] at h
  obtain ⟨⟨⟨⟨⟨_, _⟩, a⟩, b⟩, c⟩, d⟩ := h
  refine ⟨?_, by omega, by omega, d⟩
  rw [c]; split <;> omega

set_option maxHeartbeats 1600000 in
theorem iShowHeader_yes (x : HeadT) (w : World) (hok : headOkB x = true) :
    Calls Tryd.prog 10 #[x.val] w fun e w' => e = .returned (.string (S (showHeadS x))) ∧ Below w.heap.size w w' := by
  have HV : Hid (showHeadS x = varS x.h ++ varS x.t ++ sizedS x.last ++ sizedS x.vals ++ sizedS x.next ++ sizedS x.data) := by unfold Hid showHeadS; rw [if_pos hok]
  obtain ⟨l1, l2, l3, l4⟩ := headOk_len hok
  obtain ⟨h, t, last, vals, next, data⟩ := x
  have hv : HeadT.val ⟨h, t, last, vals, next, data⟩ = .agg #[.int .i64 h, .int .i64 t, .string (S last), .string (S vals), .string (S next), .string (S data)] := rfl
  rw [hv]
  simp only at l1 l2 l3 l4 HV
  have q1 := varS_len h
  have q2 := varS_len t
  have q3 := sizedS_len last
  have q4 := sizedS_len vals
  have q5 := sizedS_len next
  have q6 := sizedS_len data
  have hb := Below.refl w.heap.size w
  go_enter Tryd.func10, Tryd.ntmps10
  go_wp2_with (go_at_call 45; refine (iHeaderOk_any ⟨h, t, last, vals, next, data⟩ _ (by simp only; omega) (by simp only; omega) (by simp only; omega) (by simp only; omega)).mono ?_; rintro e wn ⟨rfl, hbn⟩; have hb := Below.next (w := w) (by repeat (first | with_reducible exact hb | with_reducible exact Below.refl _ _ | refine Below.drew ?_ | refine Below.setCell ?_ (by simp <;> omega) _ | refine Below.alloc ?_ (by simp <;> omega) _)) hbn; obtain ⟨hc, hf⟩ := bcell hbn; have hz := hbn.size; (try simp at hz); (try have hz1 : w.heap.size < wn.heap.size := (by omega)); (try have hz2 : w.heap.size + 1 < wn.heap.size := (by omega)); (try have hz3 : w.heap.size + 1 + 1 < wn.heap.size := (by omega)); clear hbn)
  have c0 : wn.cell? ⟨w.heap.size, 0, none⟩ = some (.int .i64 h) := by go_simp
  have c1 : wn.cell? ⟨w.heap.size, 1, none⟩ = some (.int .i64 t) := by go_simp
  have c2 : wn.cell? ⟨w.heap.size, 2, none⟩ = some (.string (S last)) := by go_simp
  have c3 : wn.cell? ⟨w.heap.size, 3, none⟩ = some (.string (S vals)) := by go_simp
  have c4 : wn.cell? ⟨w.heap.size, 4, none⟩ = some (.string (S next)) := by go_simp
  have c5 : wn.cell? ⟨w.heap.size, 5, none⟩ = some (.string (S data)) := by go_simp
  have hz1 : w.heap.size < wn.heap.size := by omega
  have m1 := fun W : World => run_string_add_sum (P := Tryd.prog) W (S (varS h)) (S (varS t)) (by simp; omega)
  have m2 := fun W : World => run_string_add_sum (P := Tryd.prog) W (S (varS h ++ varS t)) (S (sizedS last)) (by simp; omega)
  have m3 := fun W : World => run_string_add_sum (P := Tryd.prog) W (S (varS h ++ (varS t ++ sizedS last))) (S (sizedS vals)) (by simp; omega)
  have m4 := fun W : World => run_string_add_sum (P := Tryd.prog) W (S (varS h ++ (varS t ++ (sizedS last ++ sizedS vals)))) (S (sizedS next)) (by simp; omega)
  have m5 := fun W : World => run_string_add_sum (P := Tryd.prog) W (S (varS h ++ (varS t ++ (sizedS last ++ (sizedS vals ++ sizedS next))))) (S (sizedS data)) (by simp; omega)
  clear hc hf
  go_region_held3 (fun w' => Below w.heap.size w w' ∧ w.heap.size < w'.heap.size ∧ w'.cell? ⟨w.heap.size, 0, none⟩ = some (.int .i64 h) ∧ w'.cell? ⟨w.heap.size, 1, none⟩ = some (.int .i64 t) ∧ w'.cell? ⟨w.heap.size, 2, none⟩ = some (.string (S last)) ∧ w'.cell? ⟨w.heap.size, 3, none⟩ = some (.string (S vals)) ∧ w'.cell? ⟨w.heap.size, 4, none⟩ = some (.string (S next)) ∧ w'.cell? ⟨w.heap.size, 5, none⟩ = some (.string (S data))) (first | exact ⟨hb.drew, hz1, c0, c1, c2, c3, c4, c5⟩ | exact held6 (by assumption) hbm | go_keep)
    (first | (go_at_call 46; refine (iVar_any _ _).mono ?_; rintro e wm ⟨rfl, hbm⟩) | (go_at_call 47; refine (sized_any _ _ (by omega)).mono ?_; rintro e wm ⟨rfl, hbm⟩))
  all_goals
    go_wp2
    go_ret
    refine ⟨ret_string (by rw [HV.out]; simp), ?_⟩; apply And.left; assumption

theorem iShowHeader_no (x : HeadT) (w : World) (h1 : x.last.length ≤ 9223372036854775807) (h2 : x.vals.length ≤ 9223372036854775807) (h3 : x.next.length ≤ 9223372036854775807) (h4 : x.data.length ≤ 9223372036854775807) (hok : headOkB x = false) :
    Calls Tryd.prog 10 #[x.val] w fun e w' => e = .returned (.string (S (showHeadS x))) ∧ Below w.heap.size w w' := by
  have HV : Hid (showHeadS x = []) := by unfold Hid showHeadS; rw [hok]; rfl
  obtain ⟨h, t, last, vals, next, data⟩ := x
  have hv : HeadT.val ⟨h, t, last, vals, next, data⟩ = .agg #[.int .i64 h, .int .i64 t, .string (S last), .string (S vals), .string (S next), .string (S data)] := rfl
  rw [hv]
  simp only at h1 h2 h3 h4 HV
  have hb := Below.refl w.heap.size w
  go_enter Tryd.func10, Tryd.ntmps10
  go_wp2_with (go_at_call 45; refine (iHeaderOk_any ⟨h, t, last, vals, next, data⟩ _ h1 h2 h3 h4).mono ?_; rintro e wn ⟨rfl, hbn⟩; have hb := Below.next (w := w) (by repeat (first | with_reducible exact hb | with_reducible exact Below.refl _ _ | refine Below.drew ?_ | refine Below.setCell ?_ (by simp <;> omega) _ | refine Below.alloc ?_ (by simp <;> omega) _)) hbn; obtain ⟨hc, hf⟩ := bcell hbn; have hz := hbn.size; (try simp at hz); (try have hz1 : w.heap.size < wn.heap.size := (by omega)); (try have hz2 : w.heap.size + 1 < wn.heap.size := (by omega)); (try have hz3 : w.heap.size + 1 + 1 < wn.heap.size := (by omega)); clear hbn)
  go_ret
  exact ⟨ret_string (by rw [HV.out]; rfl), hb⟩
theorem iShowHeader_any (x : HeadT) (w : World) (h1 : x.last.length ≤ 9223372036854775807) (h2 : x.vals.length ≤ 9223372036854775807) (h3 : x.next.length ≤ 9223372036854775807) (h4 : x.data.length ≤ 9223372036854775807) :
    Calls Tryd.prog 10 #[x.val] w fun e w' => e = .returned (.string (S (showHeadS x))) ∧ Below w.heap.size w w' := by
  cases hok : headOkB x
  · exact iShowHeader_no x w h1 h2 h3 h4 hok
  · exact iShowHeader_yes x w hok

set_option maxHeartbeats 1600000 in
theorem sShowHeader_yes (x : HeadT) (w : World) (hok : headOkB x = true) :
    Calls Tryd.prog 48 #[x.val] w fun e w' => e = .returned (.string (S (showHeadS x))) ∧ Below w.heap.size w w' := by
  have HV : Hid (showHeadS x = varS x.h ++ varS x.t ++ sizedS x.last ++ sizedS x.vals ++ sizedS x.next ++ sizedS x.data) := by unfold Hid showHeadS; rw [if_pos hok]
  obtain ⟨l1, l2, l3, l4⟩ := headOk_len hok
  obtain ⟨h, t, last, vals, next, data⟩ := x
  have hv : HeadT.val ⟨h, t, last, vals, next, data⟩ = .agg #[.int .i64 h, .int .i64 t, .string (S last), .string (S vals), .string (S next), .string (S data)] := rfl
  rw [hv]
  simp only at l1 l2 l3 l4 HV
  have q1 := varS_len h
  have q2 := varS_len t
  have q3 := sizedS_len last
  have q4 := sizedS_len vals
  have q5 := sizedS_len next
  have q6 := sizedS_len data
  have hb := Below.refl w.heap.size w
  go_enter Tryd.func48, Tryd.ntmps48
  go_wp2_with (go_at_call 18; refine (sHeaderOk_any ⟨h, t, last, vals, next, data⟩ _ (by simp only; omega) (by simp only; omega) (by simp only; omega) (by simp only; omega)).mono ?_; rintro e wn ⟨rfl, hbn⟩; have hb := Below.next (w := w) (by repeat (first | with_reducible exact hb | with_reducible exact Below.refl _ _ | refine Below.drew ?_ | refine Below.setCell ?_ (by simp <;> omega) _ | refine Below.alloc ?_ (by simp <;> omega) _)) hbn; obtain ⟨hc, hf⟩ := bcell hbn; have hz := hbn.size; (try simp at hz); (try have hz1 : w.heap.size < wn.heap.size := (by omega)); (try have hz2 : w.heap.size + 1 < wn.heap.size := (by omega)); (try have hz3 : w.heap.size + 1 + 1 < wn.heap.size := (by omega)); clear hbn)
  have c0 : wn.cell? ⟨w.heap.size, 0, none⟩ = some (.int .i64 h) := by go_simp
  have c1 : wn.cell? ⟨w.heap.size, 1, none⟩ = some (.int .i64 t) := by go_simp
  have c2 : wn.cell? ⟨w.heap.size, 2, none⟩ = some (.string (S last)) := by go_simp
  have c3 : wn.cell? ⟨w.heap.size, 3, none⟩ = some (.string (S vals)) := by go_simp
  have c4 : wn.cell? ⟨w.heap.size, 4, none⟩ = some (.string (S next)) := by go_simp
  have c5 : wn.cell? ⟨w.heap.size, 5, none⟩ = some (.string (S data)) := by go_simp
  have hz1 : w.heap.size < wn.heap.size := by omega
  have m1 := fun W : World => run_string_add_sum (P := Tryd.prog) W (S (varS h)) (S (varS t)) (by simp; omega)
  have m2 := fun W : World => run_string_add_sum (P := Tryd.prog) W (S (varS h ++ varS t)) (S (sizedS last)) (by simp; omega)
  have m3 := fun W : World => run_string_add_sum (P := Tryd.prog) W (S (varS h ++ (varS t ++ sizedS last))) (S (sizedS vals)) (by simp; omega)
  have m4 := fun W : World => run_string_add_sum (P := Tryd.prog) W (S (varS h ++ (varS t ++ (sizedS last ++ sizedS vals)))) (S (sizedS next)) (by simp; omega)
  have m5 := fun W : World => run_string_add_sum (P := Tryd.prog) W (S (varS h ++ (varS t ++ (sizedS last ++ (sizedS vals ++ sizedS next))))) (S (sizedS data)) (by simp; omega)
  clear hc hf
  go_region_held3 (fun w' => Below w.heap.size w w' ∧ w.heap.size < w'.heap.size ∧ w'.cell? ⟨w.heap.size, 0, none⟩ = some (.int .i64 h) ∧ w'.cell? ⟨w.heap.size, 1, none⟩ = some (.int .i64 t) ∧ w'.cell? ⟨w.heap.size, 2, none⟩ = some (.string (S last)) ∧ w'.cell? ⟨w.heap.size, 3, none⟩ = some (.string (S vals)) ∧ w'.cell? ⟨w.heap.size, 4, none⟩ = some (.string (S next)) ∧ w'.cell? ⟨w.heap.size, 5, none⟩ = some (.string (S data))) (first | exact ⟨hb.drew, hz1, c0, c1, c2, c3, c4, c5⟩ | exact held6 (by assumption) hbm | go_keep)
    (first | (go_at_call 61; refine (sVar_any _ _).mono ?_; rintro e wm ⟨rfl, hbm⟩) | (go_at_call 62; refine (l6Piece_any _ _ (by omega)).mono ?_; rintro e wm ⟨rfl, hbm⟩))
  all_goals
    go_wp2
    go_ret
    refine ⟨ret_string (by rw [HV.out]; simp), ?_⟩; apply And.left; assumption

theorem sShowHeader_no (x : HeadT) (w : World) (h1 : x.last.length ≤ 9223372036854775807) (h2 : x.vals.length ≤ 9223372036854775807) (h3 : x.next.length ≤ 9223372036854775807) (h4 : x.data.length ≤ 9223372036854775807) (hok : headOkB x = false) :
    Calls Tryd.prog 48 #[x.val] w fun e w' => e = .returned (.string (S (showHeadS x))) ∧ Below w.heap.size w w' := by
  have HV : Hid (showHeadS x = []) := by unfold Hid showHeadS; rw [hok]; rfl
  obtain ⟨h, t, last, vals, next, data⟩ := x
  have hv : HeadT.val ⟨h, t, last, vals, next, data⟩ = .agg #[.int .i64 h, .int .i64 t, .string (S last), .string (S vals), .string (S next), .string (S data)] := rfl
  rw [hv]
  simp only at h1 h2 h3 h4 HV
  have hb := Below.refl w.heap.size w
  go_enter Tryd.func48, Tryd.ntmps48
  go_wp2_with (go_at_call 18; refine (sHeaderOk_any ⟨h, t, last, vals, next, data⟩ _ h1 h2 h3 h4).mono ?_; rintro e wn ⟨rfl, hbn⟩; have hb := Below.next (w := w) (by repeat (first | with_reducible exact hb | with_reducible exact Below.refl _ _ | refine Below.drew ?_ | refine Below.setCell ?_ (by simp <;> omega) _ | refine Below.alloc ?_ (by simp <;> omega) _)) hbn; obtain ⟨hc, hf⟩ := bcell hbn; have hz := hbn.size; (try simp at hz); (try have hz1 : w.heap.size < wn.heap.size := (by omega)); (try have hz2 : w.heap.size + 1 < wn.heap.size := (by omega)); (try have hz3 : w.heap.size + 1 + 1 < wn.heap.size := (by omega)); clear hbn)
  go_ret
  exact ⟨ret_string (by rw [HV.out]; rfl), hb⟩
theorem sShowHeader_any (x : HeadT) (w : World) (h1 : x.last.length ≤ 9223372036854775807) (h2 : x.vals.length ≤ 9223372036854775807) (h3 : x.next.length ≤ 9223372036854775807) (h4 : x.data.length ≤ 9223372036854775807) :
    Calls Tryd.prog 48 #[x.val] w fun e w' => e = .returned (.string (S (showHeadS x))) ∧ Below w.heap.size w w' := by
  cases hok : headOkB x
  · exact sShowHeader_no x w h1 h2 h3 h4 hok
  · exact sShowHeader_yes x w hok
end Go.Proofs.YtecimgkgdpnaeaaDoor
