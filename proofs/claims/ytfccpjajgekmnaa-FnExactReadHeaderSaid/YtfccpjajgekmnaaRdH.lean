/-
  ReadHeader, both.
-/
import Derived.Test.YtfccpjajgekmnaaScan2
import Derived.Test.YtfccpjajgekmnaaShowH
namespace Go.Proofs.Ytfccpjajgekmnaa
open Go.ChangeShapes Go.WideShapes Go.ChangeAt Go.RowKit
set_option linter.unusedVariables false
set_option linter.unusedSimpArgs false
set_option maxRecDepth 100000

/-- Six cells of one block, writable. -/
def Hd (w : World) (b : Nat) (u0 u1 u2 u3 u4 u5 : Value) : Prop := b < w.heap.size ∧ w.cell? ⟨b, 0, none⟩ = some u0 ∧ w.cell? ⟨b, 1, none⟩ = some u1 ∧ w.cell? ⟨b, 2, none⟩ = some u2 ∧ w.cell? ⟨b, 3, none⟩ = some u3 ∧ w.cell? ⟨b, 4, none⟩ = some u4 ∧ w.cell? ⟨b, 5, none⟩ = some u5 ∧ ∀ i, w.frozen? ⟨b, i, none⟩ = false
theorem Hd.but {w w' : World} {b B : Nat} {u0 u1 u2 u3 u4 u5 : Value} (h : Hd w b u0 u1 u2 u3 u4 u5) (hb : But B w w') (hn : b ≠ B) : Hd w' b u0 u1 u2 u3 u4 u5 := by
  obtain ⟨h1, c0, c1, c2, c3, c4, c5, hf⟩ := h
  exact ⟨Nat.lt_of_lt_of_le h1 hb.size, (hb.cell h1 hn).trans c0, (hb.cell h1 hn).trans c1, (hb.cell h1 hn).trans c2, (hb.cell h1 hn).trans c3, (hb.cell h1 hn).trans c4, (hb.cell h1 hn).trans c5, fun i => (hb.frozen h1 hn).trans (hf i)⟩
theorem But.setFar {B : Nat} {a w : World} (h : But B a w) {g : Nat} (hg : a.heap.size ≤ g) (i : Nat) (u : Value) : But B a (w.setCell ⟨g, i, none⟩ u) :=
  ⟨h.os, h.tape, h.output, by simpa [World.setCell] using h.size, fun k hk hn => (Below.heap_setCell _ _ _ _ (by intro e; subst e; omega)).trans (h.block k hk hn)⟩
theorem ScanAt.far {B : Nat} {w : World} {s : Sc} (h : ScanAt w B s) {g : Nat} (hg : g ≠ B) (i : Nat) (u : Value) : ScanAt (w.setCell ⟨g, i, none⟩ u) B s := by
  obtain ⟨h1, c0, c1, f0, f1⟩ := h
  have k : (w.setCell ⟨g, i, none⟩ u).heap[B]? = w.heap[B]? := Below.heap_setCell _ _ _ _ (by intro e; subst e; exact hg rfl)
  exact ⟨by simpa [World.setCell] using h1, (World.cell?_of_block (w := w) k).trans c0, (World.cell?_of_block (w := w) k).trans c1, (World.frozen?_of_block (w := w) k).trans f0, (World.frozen?_of_block (w := w) k).trans f1⟩
theorem ScanAt.alloc {B : Nat} {w : World} {s : Sc} (h : ScanAt w B s) (o : Obj) : ScanAt (w.alloc o) B s := h.next (Below.alloc (Below.refl _ _) (Nat.le_refl _) o)

/-- What the scanner reads of a header, a name for each. -/
theorem head_parts (l : List UInt8) : ∃ (n1 n2 : Nat) (t1 t2 t3 t4 : List UInt8) (s2 s3 s4 s5 s6 s7 : Sc),
    numP (l, false) = (n1, s2) ∧ numP s2 = (n2, s3) ∧ textP s3 = (t1, s4) ∧ textP s4 = (t2, s5) ∧ textP s5 = (t3, s6) ∧ textP s6 = (t4, s7) ∧
    headP l = (⟨n1, n2, t1, t2, t3, t4⟩, s7) ∧ s2.1.length ≤ l.length ∧ s3.1.length ≤ l.length ∧ s4.1.length ≤ l.length ∧ s5.1.length ≤ l.length ∧ s6.1.length ≤ l.length ∧
    t1.length ≤ l.length ∧ t2.length ≤ l.length ∧ t3.length ≤ l.length ∧ t4.length ≤ l.length := by
  obtain ⟨n1, s2, h1⟩ : ∃ n s, numP (l, false) = (n, s) := ⟨_, _, rfl⟩
  obtain ⟨n2, s3, h2⟩ : ∃ n s, numP s2 = (n, s) := ⟨_, _, rfl⟩
  obtain ⟨t1, s4, h3⟩ : ∃ n s, textP s3 = (n, s) := ⟨_, _, rfl⟩
  obtain ⟨t2, s5, h4⟩ : ∃ n s, textP s4 = (n, s) := ⟨_, _, rfl⟩
  obtain ⟨t3, s6, h5⟩ : ∃ n s, textP s5 = (n, s) := ⟨_, _, rfl⟩
  obtain ⟨t4, s7, h6⟩ : ∃ n s, textP s6 = (n, s) := ⟨_, _, rfl⟩
  have a1 := numP_len (l, false)
  have a2 := numP_len s2
  have a3 := textP_len s3
  have a4 := textP_len s4
  have a5 := textP_len s5
  have a6 := textP_len s6
  rw [h1] at a1
  rw [h2] at a2
  rw [h3] at a3
  rw [h4] at a4
  rw [h5] at a5
  rw [h6] at a6
  simp only at a1 a2 a3 a4 a5 a6
  refine ⟨n1, n2, t1, t2, t3, t4, s2, s3, s4, s5, s6, s7, h1, h2, h3, h4, h5, h6, ?_, ?_⟩
  · unfold headP
    simp only [h1, h2, h3, h4, h5, h6]
  · omega

theorem Hd.new (w : World) (t : TypeId) (u0 u1 u2 u3 u4 u5 : Value) : Hd (w.alloc (.cells #[u0, u1, u2, u3, u4, u5] t)) w.heap.size u0 u1 u2 u3 u4 u5 :=
  ⟨by simp, by go_simp, by go_simp, by go_simp, by go_simp, by go_simp, by go_simp, fun i => by go_simp⟩
theorem ScanAt.new (w : World) (t : TypeId) (l : List UInt8) (b : Bool) : ScanAt (w.alloc (.cells #[.string (S l), .bool b] t)) w.heap.size (l, b) :=
  ⟨by simp, by go_simp, by go_simp, by go_simp, by go_simp⟩
theorem Hd.set {w : World} {b : Nat} {u0 u1 u2 u3 u4 u5 : Value} (h : Hd w b u0 u1 u2 u3 u4 u5) (v : Value) :
    Hd (w.setCell ⟨b, 1, none⟩ v) b u0 v u2 u3 u4 u5 ∧ Hd (w.setCell ⟨b, 2, none⟩ v) b u0 u1 v u3 u4 u5 ∧ Hd (w.setCell ⟨b, 3, none⟩ v) b u0 u1 u2 v u4 u5 ∧ Hd (w.setCell ⟨b, 4, none⟩ v) b u0 u1 u2 u3 v u5 ∧ Hd (w.setCell ⟨b, 5, none⟩ v) b u0 u1 u2 u3 u4 v := by
  obtain ⟨h1, c0, c1, c2, c3, c4, c5, hf⟩ := h
  refine ⟨?_, ?_, ?_, ?_, ?_⟩ <;> exact ⟨by simpa [World.setCell] using h1, by go_simp, by go_simp, by go_simp, by go_simp, by go_simp, by go_simp, fun i => by go_simp⟩

theorem num_eq {B : Nat} {s : Sc} {w : World} {n : Nat} {t : Sc} (h : numP s = (n, t)) (hl : s.1.length ≤ 1048576) (hs : ScanAt w B s) :
    Calls Try.prog 76 #[.pointer (some ⟨B, 0, none⟩)] w fun e w' => e = .returned (.int .i64 (n : Int)) ∧ ScanAt w' B t ∧ But B w w' :=
  (num_any B s w hs hl).mono fun e w' ⟨h1, h2, h3⟩ => by rw [h] at h1 h2; exact ⟨h1, h2, h3⟩
theorem text_eq {B : Nat} {s : Sc} {w : World} {x : List UInt8} {t : Sc} (h : textP s = (x, t)) (hl : s.1.length ≤ 1048576) (hs : ScanAt w B s) :
    Calls Try.prog 77 #[.pointer (some ⟨B, 0, none⟩)] w fun e w' => e = .returned (.string (S x)) ∧ ScanAt w' B t ∧ But B w w' :=
  (text_any B s w hs hl).mono fun e w' ⟨h1, h2, h3⟩ => by rw [h] at h1 h2; exact ⟨h1, h2, h3⟩

set_option maxHeartbeats 4000000 in
theorem iReadHeader_any (l : List UInt8) (w : World) (hl : l.length ≤ 1048576) :
    Calls Try.prog 24 #[.string (S l)] w fun e w' => e = .returned (.tuple #[(readHeadS l).1.val, .bool (readHeadS l).2]) ∧ Below w.heap.size w w' := by
  obtain ⟨n1, n2, t1, t2, t3, t4, s2, s3, s4, s5, s6, s7, h1, h2, h3, h4, h5, h6, hP, l2, l3, l4, l5, l6, q1, q2, q3, q4⟩ := head_parts l
  obtain ⟨r7, bad⟩ := s7
  have hV : readHeadS l = if bad = false ∧ showHeadS ⟨n1, n2, t1, t2, t3, t4⟩ = l ∧ l ≠ [] then (⟨n1, n2, t1, t2, t3, t4⟩, true) else (zeroHead, false) := by unfold readHeadS; rw [hP]
  have hgood : bad = false → l ≠ [] := fun h => (headP_good (by rw [hP]; exact h)).2
  have HV := Lib.hid hV
  have HG := Lib.hid hgood
  have H1 := Lib.hid fun (W : World) (h : ScanAt W (w.heap.size + 1) (l, false)) => num_eq h1 hl h
  have H2 := Lib.hid fun (W : World) (h : ScanAt W (w.heap.size + 1) s2) => num_eq h2 (Nat.le_trans l2 hl) h
  have H3 := Lib.hid fun (W : World) (h : ScanAt W (w.heap.size + 1) s3) => text_eq h3 (Nat.le_trans l3 hl) h
  have H4 := Lib.hid fun (W : World) (h : ScanAt W (w.heap.size + 1) s4) => text_eq h4 (Nat.le_trans l4 hl) h
  have H5 := Lib.hid fun (W : World) (h : ScanAt W (w.heap.size + 1) s5) => text_eq h5 (Nat.le_trans l5 hl) h
  have H6 := Lib.hid fun (W : World) (h : ScanAt W (w.heap.size + 1) s6) => text_eq h6 (Nat.le_trans l6 hl) h
  have HSH := Lib.hid fun W : World => iShowHeader_any ⟨n1, n2, t1, t2, t3, t4⟩ W (by simp only; omega) (by simp only; omega) (by simp only; omega) (by simp only; omega)
  clear hV hgood h1 h2 h3 h4 h5 h6 hP l2 l3 l4 l5 l6 q1 q2 q3 q4
  have hb := Below.refl w.heap.size w
  generalize readHeadS l = V at *
  go_enter Try.func24, Try.ntmps24
  go_wp2_with fail
  have hR := Lib.hid (Hd.new w 46 (.int .i64 0) (.int .i64 0) (.string ⟨#[]⟩) (.string ⟨#[]⟩) (.string ⟨#[]⟩) (.string ⟨#[]⟩))
  generalize hWA : w.alloc (.cells #[.int .i64 0, .int .i64 0, .string ⟨#[]⟩, .string ⟨#[]⟩, .string ⟨#[]⟩, .string ⟨#[]⟩] 46) = WA at *
  have hWAs : WA.heap.size = w.heap.size + 1 := by rw [← hWA]; simp
  have hS := ScanAt.new WA 99 l false
  have hBW : Below w.heap.size w WA := by rw [← hWA]; exact hb.alloc (Nat.le_refl _) _
  rw [hWAs] at hS
  clear hWA
  generalize hWB : WA.alloc (.cells #[.string (S l), .bool false] 99) = WB at *
  have hWBs : WB.heap.size = w.heap.size + 1 + 1 := by rw [← hWB]; simp [hWAs]
  have hRB := Lib.hid (hR.out.but (w' := WB) (B := w.heap.size + 1) (by rw [← hWB]; exact But.of_below ((Below.refl _ _).alloc (Nat.le_refl _) _)) (by omega))
  have hBB : Below w.heap.size w WB := by rw [← hWB]; exact hBW.alloc (by omega) _
  clear hWB hR hBW
  refine (H1.out _ hS).mono ?_
  rintro e w1 ⟨rfl, t1', b1⟩
  have z1 := b1.size
  go_wp2_with fail
  have hH := Hd.new w1 46 (.int .i64 (n1 : Int)) (.int .i64 0) (.string ⟨#[]⟩) (.string ⟨#[]⟩) (.string ⟨#[]⟩) (.string ⟨#[]⟩)
  have hbt := But.alloc b1 (.cells #[.int .i64 (n1 : Int), .int .i64 0, .string ⟨#[]⟩, .string ⟨#[]⟩, .string ⟨#[]⟩, .string ⟨#[]⟩] 46)
  have hsc := t1'.alloc (.cells #[.int .i64 (n1 : Int), .int .i64 0, .string ⟨#[]⟩, .string ⟨#[]⟩, .string ⟨#[]⟩, .string ⟨#[]⟩] 46)
  have hHB : w.heap.size + 1 + 1 ≤ w1.heap.size := by omega
  generalize w1.alloc (.cells #[.int .i64 (n1 : Int), .int .i64 0, .string ⟨#[]⟩, .string ⟨#[]⟩, .string ⟨#[]⟩, .string ⟨#[]⟩] 46) = W2 at *
  generalize w1.heap.size = H at *
  clear b1 t1' z1 hS
  refine (H2.out _ hsc).mono ?_
  rintro e w2 ⟨rfl, hsc', b2⟩
  have hH' := hH.but b2 (by omega)
  have hbt' := hbt.trans b2
  obtain ⟨hl2, c0, c1, c2, c3, c4, c5, hf⟩ := id hH'
  go_wp2_with fail
  have hH2 := (hH'.set (.int .i64 (n2 : Int))).1
  have hbt2 := hbt'.setFar (g := H) (by omega) 1 (.int .i64 (n2 : Int))
  have hsc2 := hsc'.far (g := H) (by omega) 1 (.int .i64 (n2 : Int))
  clear hH hbt hsc hH' hbt' hsc' b2 c0 c1 c2 c3 c4 c5 hf hl2
  have hH := hH2
  have hbt := hbt2
  have hsc := hsc2
  clear hH2 hbt2 hsc2
  generalize w2.setCell ⟨H, 1, none⟩ (.int .i64 (n2 : Int)) = W3 at *
  refine (H3.out _ hsc).mono ?_
  rintro e w3 ⟨rfl, hsc', b3⟩
  have hH' := hH.but b3 (by omega)
  have hbt' := hbt.trans b3
  obtain ⟨hl3, c0, c1, c2, c3, c4, c5, hf⟩ := id hH'
  go_wp2_with fail
  have hH3 := (hH'.set (.string (S t1))).2.1
  have hbt3 := hbt'.setFar (g := H) (by omega) 2 (.string (S t1))
  have hsc3 := hsc'.far (g := H) (by omega) 2 (.string (S t1))
  clear hH hbt hsc hH' hbt' hsc' b3 c0 c1 c2 c3 c4 c5 hf hl3
  have hH := hH3
  have hbt := hbt3
  have hsc := hsc3
  clear hH3 hbt3 hsc3
  generalize w3.setCell ⟨H, 2, none⟩ (.string (S t1)) = W4 at *
  refine (H4.out _ hsc).mono ?_
  rintro e w4 ⟨rfl, hsc', b4⟩
  have hH' := hH.but b4 (by omega)
  have hbt' := hbt.trans b4
  obtain ⟨hl4, c0, c1, c2, c3, c4, c5, hf⟩ := id hH'
  go_wp2_with fail
  have hH4 := (hH'.set (.string (S t2))).2.2.1
  have hbt4 := hbt'.setFar (g := H) (by omega) 3 (.string (S t2))
  have hsc4 := hsc'.far (g := H) (by omega) 3 (.string (S t2))
  clear hH hbt hsc hH' hbt' hsc' b4 c0 c1 c2 c3 c4 c5 hf hl4
  have hH := hH4
  have hbt := hbt4
  have hsc := hsc4
  clear hH4 hbt4 hsc4
  generalize w4.setCell ⟨H, 3, none⟩ (.string (S t2)) = W5 at *
  refine (H5.out _ hsc).mono ?_
  rintro e w5 ⟨rfl, hsc', b5⟩
  have hH' := hH.but b5 (by omega)
  have hbt' := hbt.trans b5
  obtain ⟨hl5, c0, c1, c2, c3, c4, c5, hf⟩ := id hH'
  go_wp2_with fail
  have hH5 := (hH'.set (.string (S t3))).2.2.2.1
  have hbt5 := hbt'.setFar (g := H) (by omega) 4 (.string (S t3))
  have hsc5 := hsc'.far (g := H) (by omega) 4 (.string (S t3))
  clear hH hbt hsc hH' hbt' hsc' b5 c0 c1 c2 c3 c4 c5 hf hl5
  have hH := hH5
  have hbt := hbt5
  have hsc := hsc5
  clear hH5 hbt5 hsc5
  generalize w5.setCell ⟨H, 4, none⟩ (.string (S t3)) = W6 at *
  refine (H6.out _ hsc).mono ?_
  rintro e w6 ⟨rfl, hsc', b6⟩
  have hH' := hH.but b6 (by omega)
  have hbt' := hbt.trans b6
  have hRf := hRB.out.but hbt' (by omega)
  have hbB : Below w.heap.size w w6 := hBB.trans (hbt'.below (k := w.heap.size) (by omega) (by omega))
  obtain ⟨hBs, d0, d1, g0, g1⟩ := hsc'
  obtain ⟨hHl, c0, c1, c2, c3, c4, c5, hf⟩ := hH'
  obtain ⟨hRl, r0, r1, r2, r3, r4, r5, rf⟩ := hRf
  simp only at d0 d1
  have e1 : ¬ H = w.heap.size + 1 := by omega
  have e2 : ¬ H = w.heap.size := by omega
  have e3 : ¬ w.heap.size = H := by omega
  have e4 : ¬ w.heap.size + 1 = H := by omega
  clear hsc hH hbt hbt' b6 hWBs hb H1 H2 H3 H4 H5 H6
  have hb := hbB
  clear hbB
  cases bad
  · have hne : l.isEmpty = false := by
      have := HG.out rfl
      cases l with
      | nil => exact absurd rfl this
      | cons a t => rfl
    by_cases hs : showHeadS ⟨n1, n2, t1, t2, t3, t4⟩ = l
    · have HV2 : Hid (V = (⟨n1, n2, t1, t2, t3, t4⟩, true)) := by unfold Hid; rw [HV.out, if_pos ⟨rfl, hs, HG.out rfl⟩]
      rw [hs] at HSH
      go_wp2_with (go_at_call 78; refine (HSH.out _).mono ?_; rintro e wn ⟨rfl, hbn⟩; have hb := Below.next (w := w) (by repeat (first | with_reducible exact hb | with_reducible exact Below.refl _ _ | refine Below.drew ?_ | refine Below.setCell ?_ (by simp <;> omega) _ | refine Below.alloc ?_ (by simp <;> omega) _)) hbn; obtain ⟨hcc, hff⟩ := bcell hbn; have hzz := hbn.size; simp at hzz; clear hbn)
      refine bodyPost_ret (v := .tuple #[.agg #[.int .i64 (n1 : Int), .int .i64 (n2 : Int), .string (S t1), .string (S t2), .string (S t3), .string (S t4)], .bool true]) (by simp [results, Try.results24, go_sem, *]) rfl ⟨by rw [HV2.out]; rfl, ?_⟩
      repeat (first | with_reducible exact hb | with_reducible refine Below.setCell ?_ (by simp <;> omega) _)
    · have HV2 : Hid (V = (zeroHead, false)) := by unfold Hid; rw [HV.out, if_neg (fun h => hs h.2.1)]
      have hs' : (showHeadS ⟨n1, n2, t1, t2, t3, t4⟩ == l) = false := by simpa using hs
      generalize showHeadS ⟨n1, n2, t1, t2, t3, t4⟩ = Z at *
      go_wp2_with (go_at_call 78; refine (HSH.out _).mono ?_; rintro e wn ⟨rfl, hbn⟩; have hb := Below.next (w := w) (by repeat (first | with_reducible exact hb | with_reducible exact Below.refl _ _ | refine Below.drew ?_ | refine Below.setCell ?_ (by simp <;> omega) _ | refine Below.alloc ?_ (by simp <;> omega) _)) hbn; obtain ⟨hcc, hff⟩ := bcell hbn; have hzz := hbn.size; simp at hzz; clear hbn)
      refine bodyPost_ret (v := .tuple #[.agg #[.int .i64 0, .int .i64 0, .string ⟨#[]⟩, .string ⟨#[]⟩, .string ⟨#[]⟩, .string ⟨#[]⟩], .bool false]) (by simp [results, Try.results24, go_sem, *]) rfl ⟨by rw [HV2.out]; rfl, ?_⟩
      repeat (first | with_reducible exact hb | with_reducible refine Below.setCell ?_ (by simp <;> omega) _)
  · have HV2 : Hid (V = (zeroHead, false)) := by unfold Hid; rw [HV.out, if_neg (by simp)]
    go_wp2_with fail
    refine bodyPost_ret (v := .tuple #[.agg #[.int .i64 0, .int .i64 0, .string ⟨#[]⟩, .string ⟨#[]⟩, .string ⟨#[]⟩, .string ⟨#[]⟩], .bool false]) (by simp [results, Try.results24, go_sem, *]) rfl ⟨by rw [HV2.out]; rfl, ?_⟩
    repeat (first | with_reducible exact hb | with_reducible refine Below.setCell ?_ (by simp <;> omega) _)

theorem Hd.next {w w' : World} {b : Nat} {u0 u1 u2 u3 u4 u5 : Value} (h : Hd w b u0 u1 u2 u3 u4 u5) (hb : Below w.heap.size w w') : Hd w' b u0 u1 u2 u3 u4 u5 := h.but (B := b + 1) (But.of_below hb) (by omega)
theorem take_eq {l : List UInt8} {s : Sc} {w : World} {x : List UInt8} {t : Sc} (h : textP s = (x, t)) (hl : l.length ≤ 1048576) (hs : Suf l s) :
    Calls Try.prog 74 #[.string (S l), .int .i64 (posOf l s)] w fun e w' => e = .returned (.tuple #[.string (S x), .int .i64 (posOf l t)]) ∧ Below w.heap.size w w' :=
  (l6Take_any l s w hl hs).mono fun e w' ⟨h1, h2⟩ => by rw [h] at h1; exact ⟨h1, h2⟩

set_option maxHeartbeats 4000000 in
theorem sReadHeader_any (l : List UInt8) (w : World) (hl : l.length ≤ 1048576) :
    Calls Try.prog 23 #[.string (S l)] w fun e w' => e = .returned (.tuple #[(readHeadS l).1.val, .bool (readHeadS l).2]) ∧ Below w.heap.size w w' := by
  obtain ⟨n1, n2, t1, t2, t3, t4, s2, s3, s4, s5, s6, s7, h1, h2, h3, h4, h5, h6, hP, l2, l3, l4, l5, l6, q1, q2, q3, q4⟩ := head_parts l
  have hV : readHeadS l = if s7.2 = false ∧ s7.1 = [] ∧ showHeadS ⟨n1, n2, t1, t2, t3, t4⟩ = l then (⟨n1, n2, t1, t2, t3, t4⟩, true) else (zeroHead, false) := by rw [readHead_spec, hP]
  have hbd : s3.2 = true → s7.2 = true := fun h => by
    have k4 := textP_stay h
    rw [h3] at k4
    have k5 := textP_stay k4
    rw [h4] at k5
    have k6 := textP_stay k5
    rw [h5] at k6
    have k7 := textP_stay k6
    rw [h6] at k7
    exact k7
  have u2 : Suf l s2 := by have := (Suf.start l).num; rw [h1] at this; exact this
  have u3 : Suf l s3 := by have := u2.num; rw [h2] at this; exact this
  have u4 : Suf l s4 := by have := u3.text; rw [h3] at this; exact this
  have u5 : Suf l s5 := by have := u4.text; rw [h4] at this; exact this
  have u6 : Suf l s6 := by have := u5.text; rw [h5] at this; exact this
  have u7 : Suf l s7 := by have := u6.text; rw [h6] at this; exact this
  have hn : numsAt (l, false) 2 = ([(n1 : Int), (n2 : Int)], s3) := by simp only [numsAt, h1, h2, List.nil_append, List.cons_append]
  have hp0 : posOf l (l, false) = 0 := by unfold posOf; rw [if_neg (by simp)]; simp
  have hN := fun W : World => l6Vars_any l (l, false) 2 W hl (Suf.start l) (by omega)
  rw [hn, hp0] at hN
  have HN := Lib.hid hN
  have HV := Lib.hid hV
  have H3 := Lib.hid fun (W : World) => take_eq (w := W) h3 hl u3
  have H4 := Lib.hid fun (W : World) => take_eq (w := W) h4 hl u4
  have H5 := Lib.hid fun (W : World) => take_eq (w := W) h5 hl u5
  have H6 := Lib.hid fun (W : World) => take_eq (w := W) h6 hl u6
  have HA := Lib.hid (posOf_all u7)
  have HSH := Lib.hid fun W : World => sShowHeader_any ⟨n1, n2, t1, t2, t3, t4⟩ W (by simp only; omega) (by simp only; omega) (by simp only; omega) (by simp only; omega)
  have HP := Lib.hid (fun h : s3.2 = true => posOf_bad (l := l) h)
  have HQ := Lib.hid (fun h : s3.2 = false => posOf_good u3 h)
  clear hV hN hn hp0 h1 h2 h3 h4 h5 h6 hP l2 l3 l4 l5 l6 q1 q2 q3 q4 u2 u3 u4 u5 u6 u7
  have hb := Below.refl w.heap.size w
  generalize readHeadS l = V at *
  generalize posOf l s4 = p4 at *
  generalize posOf l s5 = p5 at *
  generalize posOf l s6 = p6 at *
  generalize posOf l s7 = p7 at *
  go_enter Try.func23, Try.ntmps23
  go_wp2_with fail
  have hR := (Hd.new w 46 (.int .i64 0) (.int .i64 0) (.string ⟨#[]⟩) (.string ⟨#[]⟩) (.string ⟨#[]⟩) (.string ⟨#[]⟩))
  have hb1 := hb.alloc (Nat.le_refl _) (.cells #[.int .i64 0, .int .i64 0, .string ⟨#[]⟩, .string ⟨#[]⟩, .string ⟨#[]⟩, .string ⟨#[]⟩] 46)
  generalize hWA : w.alloc (.cells #[.int .i64 0, .int .i64 0, .string ⟨#[]⟩, .string ⟨#[]⟩, .string ⟨#[]⟩, .string ⟨#[]⟩] 46) = WA at *
  refine (HN.out _).mono ?_
  rintro e w1 ⟨A, m, c, rfl, him, b1⟩
  have hR := hR.next b1
  have hb := Below.next hb1 b1
  clear hWA hb1 b1
  cases h3b : s3.2
  · obtain ⟨q, hq, _, hqp⟩ := HQ.out h3b
    rw [hqp] at H3
    rw [hqp]
    obtain ⟨rfl, hI⟩ := him h3b
    have hqi : 0 ≤ (q : Int) ∧ (q : Int) ≤ l.length := by omega
    clear him
    go_wp2_with fail
    refine (H3.out _).mono ?_
    rintro e w2 ⟨rfl, b⟩
    have hR := hR.next b
    have hb := Below.next hb b
    have hI := hI.to b
    go_wp2_with fail
    refine (H4.out _).mono ?_
    rintro e w3 ⟨rfl, b⟩
    have hR := hR.next b
    have hb := Below.next hb b
    have hI := hI.to b
    go_wp2_with fail
    refine (H5.out _).mono ?_
    rintro e w4 ⟨rfl, b⟩
    have hR := hR.next b
    have hb := Below.next hb b
    have hI := hI.to b
    go_wp2_with fail
    refine (H6.out _).mono ?_
    rintro e w5 ⟨rfl, b⟩
    have hR := hR.next b
    have hb := Below.next hb b
    have hI := hI.to b
    obtain ⟨bl, off, rfl, hbb, hcl⟩ := hI (by simp)
    have k0 := hcl 0 (by simp)
    have k1 := hcl 1 (by simp)
    simp only [List.getElem_cons_zero, List.getElem_cons_succ, Nat.add_zero] at k0 k1
    obtain ⟨hRl, r0, r1, r2, r3, r4, r5, rf⟩ := hR
    have hRl1 : w.heap.size < w5.heap.size + 1 := by omega
    clear hcl hI H3 H4 H5 H6 b
    by_cases hp : p7 = (l.length : Int)
    · obtain ⟨hg7, hn7⟩ := HA.out.1 hp
      have HPP := Lib.hid hp
      clear hp
      rw [HPP.out]
      clear HPP HA
      by_cases hs : showHeadS ⟨n1, n2, t1, t2, t3, t4⟩ = l
      · have HV2 : Hid (V = (⟨n1, n2, t1, t2, t3, t4⟩, true)) := by unfold Hid; rw [HV.out, if_pos ⟨hg7, hn7, hs⟩]
        rw [hs] at HSH
        go_wp2_with fail
        go_region
        go_wp2_with (go_at_call 75; refine (HSH.out _).mono ?_; rintro e wn ⟨rfl, hbn⟩; have hb := Below.next (w := w) (by repeat (first | with_reducible exact hb | with_reducible exact Below.refl _ _ | refine Below.drew ?_ | refine Below.setCell ?_ (by first | omega | (simp <;> omega)) _ | refine Below.alloc ?_ (by first | omega | (simp <;> omega)) _)) hbn; obtain ⟨hcc, hff⟩ := bcell hbn; have hzz := hbn.size; simp at hzz; clear hbn)
        refine bodyPost_ret (v := .tuple #[.agg #[.int .i64 (n1 : Int), .int .i64 (n2 : Int), .string (S t1), .string (S t2), .string (S t3), .string (S t4)], .bool true]) (by simp [results, Try.results23, go_sem, *]) rfl ⟨by rw [HV2.out]; rfl, ?_⟩
        repeat (first | with_reducible exact hb | with_reducible refine Below.drew ?_ | with_reducible refine Below.setCell ?_ (by first | omega | (simp <;> omega)) _ | with_reducible refine Below.alloc ?_ (by first | omega | (simp <;> omega)) _)
      · have HV2 : Hid (V = (zeroHead, false)) := by unfold Hid; rw [HV.out, if_neg (fun h => hs h.2.2)]
        have hs' : (showHeadS ⟨n1, n2, t1, t2, t3, t4⟩ == l) = false := by simpa using hs
        generalize showHeadS ⟨n1, n2, t1, t2, t3, t4⟩ = Z at *
        go_wp2_with fail
        go_region
        go_wp2_with (go_at_call 75; refine (HSH.out _).mono ?_; rintro e wn ⟨rfl, hbn⟩; have hb := Below.next (w := w) (by repeat (first | with_reducible exact hb | with_reducible exact Below.refl _ _ | refine Below.drew ?_ | refine Below.setCell ?_ (by first | omega | (simp <;> omega)) _ | refine Below.alloc ?_ (by first | omega | (simp <;> omega)) _)) hbn; obtain ⟨hcc, hff⟩ := bcell hbn; have hzz := hbn.size; simp at hzz; clear hbn)
        refine bodyPost_ret (v := .tuple #[.agg #[.int .i64 0, .int .i64 0, .string ⟨#[]⟩, .string ⟨#[]⟩, .string ⟨#[]⟩, .string ⟨#[]⟩], .bool false]) (by simp [results, Try.results23, go_sem, *]) rfl ⟨by rw [HV2.out]; rfl, ?_⟩
        repeat (first | with_reducible exact hb | with_reducible refine Below.drew ?_ | with_reducible refine Below.setCell ?_ (by first | omega | (simp <;> omega)) _ | with_reducible refine Below.alloc ?_ (by first | omega | (simp <;> omega)) _)
    · have HV2 : Hid (V = (zeroHead, false)) := by unfold Hid; rw [HV.out, if_neg (fun h => hp (HA.out.2 ⟨h.1, h.2.1⟩))]
      clear HA
      go_wp2_with fail
      go_region
      go_wp2
      refine bodyPost_ret (v := .tuple #[.agg #[.int .i64 0, .int .i64 0, .string ⟨#[]⟩, .string ⟨#[]⟩, .string ⟨#[]⟩, .string ⟨#[]⟩], .bool false]) (by simp [results, Try.results23, go_sem, *]) rfl ⟨by rw [HV2.out]; rfl, ?_⟩
      repeat (first | with_reducible exact hb | with_reducible refine Below.drew ?_ | with_reducible refine Below.setCell ?_ (by first | omega | (simp <;> omega)) _ | with_reducible refine Below.alloc ?_ (by first | omega | (simp <;> omega)) _)
  · have HV2 : Hid (V = (zeroHead, false)) := by unfold Hid; rw [HV.out, if_neg (fun h => by rw [hbd h3b] at h; cases h.1)]
    rw [HP.out h3b]
    obtain ⟨hRl, r0, r1, r2, r3, r4, r5, rf⟩ := hR
    clear H3 H4 H5 H6 HN him
    go_wp2_with fail
    refine bodyPost_ret (v := .tuple #[.agg #[.int .i64 0, .int .i64 0, .string ⟨#[]⟩, .string ⟨#[]⟩, .string ⟨#[]⟩, .string ⟨#[]⟩], .bool false]) (by simp [results, Try.results23, go_sem, *]) rfl ⟨by rw [HV2.out]; rfl, ?_⟩
    repeat (first | with_reducible exact hb | with_reducible refine Below.drew ?_ | with_reducible refine Below.setCell ?_ (by first | omega | (simp <;> omega)) _ | with_reducible refine Below.alloc ?_ (by first | omega | (simp <;> omega)) _)

end Go.Proofs.Ytfccpjajgekmnaa
