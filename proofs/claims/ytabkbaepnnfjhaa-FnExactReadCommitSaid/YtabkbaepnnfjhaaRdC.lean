/-
  ReadCommit: the program's.
-/
import Derived.Test.YtabkbaepnnfjhaaScan3
import Derived.Test.YtabkbaepnnfjhaaCom2
import Derived.Test.YtabkbaepnnfjhaaLawC
namespace Go.Proofs.Ytabkbaepnnfjhaa
open Go.ChangeShapes Go.WideShapes Go.ChangeAt Go.RowKit
set_option linter.unusedVariables false
set_option linter.unusedSimpArgs false
set_option maxRecDepth 100000

/-- Four cells of one block, writable. -/
def H4 (w : World) (b : Nat) (u0 u1 u2 u3 : Value) : Prop := b < w.heap.size ∧ w.cell? ⟨b, 0, none⟩ = some u0 ∧ w.cell? ⟨b, 1, none⟩ = some u1 ∧ w.cell? ⟨b, 2, none⟩ = some u2 ∧ w.cell? ⟨b, 3, none⟩ = some u3 ∧ ∀ i, w.frozen? ⟨b, i, none⟩ = false
theorem H4.block {w w' : World} {b : Nat} {u0 u1 u2 u3 : Value} (h : H4 w b u0 u1 u2 u3) (hb : w'.heap[b]? = w.heap[b]?) (hs : w.heap.size ≤ w'.heap.size) : H4 w' b u0 u1 u2 u3 := by
  obtain ⟨h1, c0, c1, c2, c3, hf⟩ := h
  exact ⟨Nat.lt_of_lt_of_le h1 hs, (World.cell?_of_block (w := w) hb).trans c0, (World.cell?_of_block (w := w) hb).trans c1, (World.cell?_of_block (w := w) hb).trans c2, (World.cell?_of_block (w := w) hb).trans c3, fun i => (World.frozen?_of_block (w := w) hb).trans (hf i)⟩
theorem H4.but {w w' : World} {b B : Nat} {u0 u1 u2 u3 : Value} (h : H4 w b u0 u1 u2 u3) (hb : But B w w') (hn : b ≠ B) : H4 w' b u0 u1 u2 u3 := h.block (hb.block b h.1 (by intro e; cases e; exact hn rfl)) hb.size
theorem H4.low {w w' : World} {b k : Nat} {u0 u1 u2 u3 : Value} (h : H4 w b u0 u1 u2 u3) (hb : Below k w w') (hn : b < k) : H4 w' b u0 u1 u2 u3 := h.block (hb.block b hn) hb.size
theorem H4.next {w w' : World} {b : Nat} {u0 u1 u2 u3 : Value} (h : H4 w b u0 u1 u2 u3) (hb : Below w.heap.size w w') : H4 w' b u0 u1 u2 u3 := h.low hb h.1
theorem H4.alloc {w : World} {b : Nat} {u0 u1 u2 u3 : Value} (h : H4 w b u0 u1 u2 u3) (o : Obj) : H4 (w.alloc o) b u0 u1 u2 u3 := h.next (Below.alloc (Below.refl _ _) (Nat.le_refl _) o)
theorem H4.far {w : World} {b g : Nat} {u0 u1 u2 u3 : Value} (h : H4 w b u0 u1 u2 u3) (hn : g ≠ b) (i : Nat) (u : Value) : H4 (w.setCell ⟨g, i, none⟩ u) b u0 u1 u2 u3 := h.block (Below.heap_setCell _ _ _ _ (by intro e; subst e; exact hn rfl)) (by simp [World.setCell])
theorem H4.new (w : World) (t : TypeId) (u0 u1 u2 u3 : Value) : H4 (w.alloc (.cells #[u0, u1, u2, u3] t)) w.heap.size u0 u1 u2 u3 :=
  ⟨by simp, by go_simp, by go_simp, by go_simp, by go_simp, fun i => by go_simp⟩
theorem H4.set {w : World} {b : Nat} {u0 u1 u2 u3 : Value} (h : H4 w b u0 u1 u2 u3) (v : Value) :
    H4 (w.setCell ⟨b, 1, none⟩ v) b u0 v u2 u3 ∧ H4 (w.setCell ⟨b, 2, none⟩ v) b u0 u1 v u3 ∧ H4 (w.setCell ⟨b, 3, none⟩ v) b u0 u1 u2 v := by
  obtain ⟨h1, c0, c1, c2, c3, hf⟩ := h
  refine ⟨?_, ?_, ?_⟩ <;> exact ⟨by simpa [World.setCell] using h1, by go_simp, by go_simp, by go_simp, by go_simp, fun i => by go_simp⟩
theorem own_sreads {w : World} {base : Nat} {e : TypeId} {A : Option Addr} {n c : Nat} {l : List SigT} (h : w.ownsRow base e 2 (.slice A n c) n (scells l)) (hn : l.length = n) : SReads w w.heap.size A l := by subst hn; exact SReads.of_own h

set_option maxHeartbeats 4000000 in
theorem iReadCommit_any (l : List UInt8) (w : World) (hl : l.length ≤ 1048576) :
    Calls Try.prog 42 #[.string (S l)] w fun e w' => ∃ A c, e = .returned (.tuple #[.agg #[.int .i64 (readComS l).1.h, .int .i64 (readComS l).1.r, .string (S (readComS l).1.id), .slice A (readComS l).1.sigs.length c], .bool (readComS l).2]) ∧ w'.ownsRow w.heap.size 84 2 (.slice A (readComS l).1.sigs.length c) (readComS l).1.sigs.length (scells (readComS l).1.sigs) ∧ Below w.heap.size w w' := by
  obtain ⟨i0, hi, hz0, hz1, hz2⟩ := info_parts info_csig
  obtain ⟨n1, n2, n, t1, s2, s3, s4, s5, h1, h2, h3, h4, hN, hP, l2, l3, l4, l5, q1, q2⟩ := com_parts l
  have HV : Hid (readComS l = if n ≤ 12 ∧ (sigsAt s5 n).2.2 = false ∧ showCommitS ⟨n1, n2, t1, (sigsAt s5 n).1⟩ = l then (⟨n1, n2, t1, (sigsAt s5 n).1⟩, true) else (zeroCom, false)) := by unfold Hid readComS; rw [hN, hP n rfl]
  have HG : Hid (∀ k, (sigsAt s5 k).2.2 = false → l.isEmpty = false) := fun k h => by
    cases l with
    | nil =>
      exfalso
      have g5 : s5.2 = false := by
        cases hx : s5.2
        · rfl
        · have := sigsAt_good (s := s5) (i := 0) (j := k) hx (by omega)
          rw [this] at h; cases h
      have := (comN_ne (l := []) (by rw [hN]; exact g5)).1
      exact this rfl
    | cons a t => rfl
  have HMANY := Lib.hid fun (h : 12 < n) (x : CommitT) (hne : l ≠ []) => readCom_many (by rw [hN]; exact h) x hne
  have HLEN : Hid (∀ k, (sigsAt s5 k).1.length = k ∧ (sigsAt s5 k).2.1.length ≤ 1048576 ∧ ∀ x ∈ (sigsAt s5 k).1, x.sig.length ≤ 9223372036854775807) := fun k => ⟨(sigsAt_len s5 k).1, Nat.le_trans (sigsAt_len s5 k).2 (by omega), fun x hx => Nat.le_trans (sigsAt_sig s5 k x hx) (by omega)⟩
  have HSTEP : Hid (∀ k, sigsAt s5 (k + 1) = ((sigsAt s5 k).1 ++ [⟨(numP (sigsAt s5 k).2).1, (textP (numP (sigsAt s5 k).2).2).1⟩], (textP (numP (sigsAt s5 k).2).2).2)) := fun k => rfl
  have HZ : Hid (sigsAt s5 0 = ([], s5)) := rfl
  have K1 := Lib.hid fun (W : World) (h : ScanAt W (w.heap.size + 1) (l, false)) => num_eq h1 hl h
  have K2 := Lib.hid fun (W : World) (h : ScanAt W (w.heap.size + 1) s2) => num_eq h2 (Nat.le_trans l2 hl) h
  have K3 := Lib.hid fun (W : World) (h : ScanAt W (w.heap.size + 1) s3) => text_eq h3 (Nat.le_trans l3 hl) h
  have K4 := Lib.hid fun (W : World) (h : ScanAt W (w.heap.size + 1) s4) => num_eq h4 (Nat.le_trans l4 hl) h
  have hb := Below.refl w.heap.size w
  clear h1 h2 h3 h4 hN hP l2 l3 l4 l5
  generalize readComS l = V at *
  generalize hVA : sigsAt s5 = VA at *
  clear hVA
  go_enter Try.func42, Try.ntmps42
  go_wp2_with fail
  have hR := H4.new w 41 (.int .i64 0) (.int .i64 0) (.string ⟨#[]⟩) (.slice none 0 0)
  have hBW := hb.alloc (Nat.le_refl _) (.cells #[.int .i64 0, .int .i64 0, .string ⟨#[]⟩, .slice none 0 0] 41)
  have hWAs : (w.alloc (.cells #[.int .i64 0, .int .i64 0, .string ⟨#[]⟩, .slice none 0 0] 41)).heap.size = w.heap.size + 1 := by simp
  generalize w.alloc (.cells #[.int .i64 0, .int .i64 0, .string ⟨#[]⟩, .slice none 0 0] 41) = WA at *
  have hS := ScanAt.new WA 94 l false
  rw [hWAs] at hS
  have hRB := Lib.hid (hR.alloc (.cells #[.string (S l), .bool false] 94))
  have hBB := hBW.alloc (by omega) (.cells #[.string (S l), .bool false] 94)
  have hWBs : (WA.alloc (.cells #[.string (S l), .bool false] 94)).heap.size = w.heap.size + 1 + 1 := by simp [hWAs]
  generalize WA.alloc (.cells #[.string (S l), .bool false] 94) = WB at *
  clear hR hBW
  refine (K1.out _ hS).mono ?_
  rintro e w1 ⟨rfl, t1', b1⟩
  have z1 := b1.size
  go_wp2_with fail
  have hH := H4.new w1 41 (.int .i64 (n1 : Int)) (.int .i64 0) (.string ⟨#[]⟩) (.slice none 0 0)
  have hbt := But.alloc b1 (.cells #[.int .i64 (n1 : Int), .int .i64 0, .string ⟨#[]⟩, .slice none 0 0] 41)
  have hsc := t1'.alloc (.cells #[.int .i64 (n1 : Int), .int .i64 0, .string ⟨#[]⟩, .slice none 0 0] 41)
  have hHB : w.heap.size + 1 + 1 ≤ w1.heap.size := by omega
  generalize w1.alloc (.cells #[.int .i64 (n1 : Int), .int .i64 0, .string ⟨#[]⟩, .slice none 0 0] 41) = W2 at *
  generalize w1.heap.size = H at *
  clear b1 t1' z1 hS
  refine (K2.out _ hsc).mono ?_
  rintro e w2 ⟨rfl, hsc', b2⟩
  have hH' := hH.but b2 (by omega)
  have hbt' := hbt.trans b2
  obtain ⟨hl2, c0, c1, c2, c3, hf⟩ := id hH'
  go_wp2_with fail
  have hH2 := (hH'.set (.int .i64 (n2 : Int))).1
  have hbt2 := hbt'.setFar (g := H) (by omega) 1 (.int .i64 (n2 : Int))
  have hsc2 := hsc'.far (g := H) (by omega) 1 (.int .i64 (n2 : Int))
  clear hH hbt hsc hH' hbt' hsc' b2 c0 c1 c2 c3 hf hl2
  have hH := hH2
  have hbt := hbt2
  have hsc := hsc2
  clear hH2 hbt2 hsc2
  generalize w2.setCell ⟨H, 1, none⟩ (.int .i64 (n2 : Int)) = W3 at *
  refine (K3.out _ hsc).mono ?_
  rintro e w3 ⟨rfl, hsc', b3⟩
  have hH' := hH.but b3 (by omega)
  have hbt' := hbt.trans b3
  obtain ⟨hl3, c0, c1, c2, c3, hf⟩ := id hH'
  go_wp2_with fail
  have hH3 := (hH'.set (.string (S t1))).2.1
  have hbt3 := hbt'.setFar (g := H) (by omega) 2 (.string (S t1))
  have hsc3 := hsc'.far (g := H) (by omega) 2 (.string (S t1))
  clear hH hbt hsc hH' hbt' hsc' b3 c0 c1 c2 c3 hf hl3
  have hH := hH3
  have hbt := hbt3
  have hsc := hsc3
  clear hH3 hbt3 hsc3
  generalize w3.setCell ⟨H, 2, none⟩ (.string (S t1)) = W4 at *
  refine (K4.out _ hsc).mono ?_
  rintro e w4 ⟨rfl, hsc', b4⟩
  have hH4 := Lib.hid (hH.but b4 (by omega))
  have hbt4 := Lib.hid (hbt.trans b4)
  have hsc4 := Lib.hid hsc'
  have hH4s := hH4.out.1
  clear hH hbt hsc hsc' b4 K1 K2 K3 K4
  go_wp2_with fail
  go_loopw [7] (fun i wr => ∃ (k : Nat) (v : Value), k ≤ n ∧ (k = 0 ∨ n ≤ 12) ∧ i = .int .i64 (k : Int) ∧ wr.ownsRow (H + 1) 84 2 v k (scells (VA k).1) ∧ H4 wr H (.int .i64 (n1 : Int)) (.int .i64 (n2 : Int)) (.string (S t1)) v ∧ ScanAt wr (w.heap.size + 1) (VA k).2 ∧ But (w.heap.size + 1) WB wr) (fun i _ => n - (intOf i).toNat)
  case atStart => exact ⟨0, _, by omega, .inl rfl, rfl, by rw [HZ.out]; exact own_nil _ _ _ _, hH4.out, by rw [HZ.out]; exact hsc4.out, hbt4.out⟩
  case round =>
    obtain ⟨k, v, hk, hk07, rfl, hown, hH, hsc, hbt⟩ := hrel
    have hki : 0 ≤ (k : Int) ∧ (k : Int) ≤ n := by omega
    have hw0 := hbt.size
    have hHl := hH.1
    obtain ⟨A, c, rfl⟩ := own_slice hown
    by_cases hlt : k < n ∧ n ≤ 12
    · obtain ⟨hkn, hn7⟩ := hlt
      have hki2 : (k : Int) < n ∧ (n : Int) ≤ 12 := by omega
      have hlk := HLEN.out k
      have hst := HSTEP.out k
      obtain ⟨x, p2, e1⟩ : ∃ n s, numP (VA k).2 = (n, s) := ⟨_, _, rfl⟩
      obtain ⟨y, p3, e2⟩ : ∃ n s, textP p2 = (n, s) := ⟨_, _, rfl⟩
      have hp2 : p2.1.length ≤ 1048576 := by have := numP_len (VA k).2; rw [e1] at this; simp only at this; omega
      rw [e1] at hst
      simp only [e2] at hst
      have HST := Lib.hid hst
      have HVC : Hid (scells (VA (k + 1)).1 = scells (VA k).1 ++ (#[Value.int .i64 (x : Int), Value.string (S y)] : Array Value).toList) := by unfold Hid; rw [hst]; exact scells_append _ _
      have N1 := Lib.hid (num_eq e1 hlk.2.1 hsc)
      have N2 := Lib.hid fun (W : World) (h : ScanAt W (w.heap.size + 1) p2) => text_eq e2 hp2 h
      have HH := Lib.hid hH
      clear hst e1 e2 hlk hsc hH
      go_wp2_with fail
      refine N1.out.mono ?_
      rintro e w2 ⟨rfl, t2, b2⟩
      have z2 := b2.size
      have o2 := own_but hown b2 (by omega)
      have hbt2 := hbt.trans b2
      have HO2 := Lib.hid (o2.alloc (.cells #[.int .i64 (x : Int), .string ⟨#[]⟩] 84))
      have HLT2 := Lib.hid o2.lt
      have HB2 := Lib.hid (hbt2.alloc (.cells #[.int .i64 (x : Int), .string ⟨#[]⟩] 84))
      have hS2 := t2.alloc (.cells #[.int .i64 (x : Int), .string ⟨#[]⟩] 84)
      have HH2 := Lib.hid ((HH.out.but b2 (by omega)).alloc (.cells #[.int .i64 (x : Int), .string ⟨#[]⟩] 84))
      clear t2 b2 hown hbt o2 hbt2 HH
      go_wp2_with fail
      refine (N2.out _ hS2).mono ?_
      rintro e w3 ⟨rfl, t3, b3⟩
      have z3 := b3.size
      simp at z3
      have c0 : w3.cell? ⟨w2.heap.size, 0, none⟩ = some (.int .i64 (x : Int)) := (b3.cell (by simp) (by omega)).trans (by go_simp)
      have c1 : w3.cell? ⟨w2.heap.size, 1, none⟩ = some (.string ⟨#[]⟩) := (b3.cell (by simp) (by omega)).trans (by go_simp)
      have f1 : w3.frozen? ⟨w2.heap.size, 1, none⟩ = false := (b3.frozen (by simp) (by omega)).trans (by go_simp)
      have o3 := own_set (own_but HO2.out b3 (by omega)) (g := w2.heap.size) (fun q hq => by have := (HLT2.out q hq).2; omega) 1 (.string (S y))
      have HB3 := Lib.hid ((HB2.out.trans b3).setFar (g := w2.heap.size) (by omega) 1 (.string (S y)))
      have HS3 := Lib.hid (t3.far (g := w2.heap.size) (by omega) 1 (.string (S y)))
      have HH3 := HH2.out.but b3 (by omega)
      have HH3' := Lib.hid (HH3.far (g := w2.heap.size) (by omega) 1 (.string (S y)))
      obtain ⟨_, _, _, _, hc3, _⟩ := HH3
      have z4 : H + 1 ≤ (w3.setCell ⟨w2.heap.size, 1, none⟩ (.string (S y))).heap.size := by simp [World.setCell]; omega
      have e5 : ¬ w2.heap.size = H := by omega
      have e6 : ¬ H = w2.heap.size := by omega
      clear t3 b3 hS2
      go_wp2_with (at_builtin; refine app_low rfl _ _ 39 rfl Try.underlying39 hi hz0 hz1 hz2 rfl (by decide) rfl o3 z4 (by simp [World.setCell]) rfl rfl (one_cell_is _ _) (by unfold maxLen; omega) (by omega) ?_; intro v1 w4 hown1 hlow; obtain ⟨A1, cc1, rfl⟩ := own_slice hown1; have hH4 := HH3'.out.low hlow (by omega); have HH4 := Lib.hid hH4; obtain ⟨hHl4, _, _, _, g3, hf4⟩ := hH4; have gf3 := hf4 3; have HLT4 := Lib.hid hown1.lt)
      go_roundw
      case rel => exact ⟨k + 1, .slice A1 (k + 1) cc1, by omega, .inr hn7, by go_num, by rw [HVC.out]; exact own_set hown1 (fun q hq => by have := (HLT4.out q hq).1; omega) _ _, (HH4.out.set (.slice A1 (k + 1) cc1)).2.2, by rw [HST.out]; exact (HS3.out.low hlow (by omega)).far (by omega) _ _, (HB3.out.low (hlow.mono (by omega))).setFar (by omega) _ _⟩
      case measure => simp [intOf]; omega
    · have hbf : Below w.heap.size w wr := hBB.trans (hbt.below (by omega) (by omega))
      obtain ⟨hB', d0, d1, g0, g1⟩ := id hsc
      obtain ⟨_, c0, c1, c2, c3, hf⟩ := id hH
      obtain ⟨hRl, r0, r1, r2, r3, rf⟩ := hRB.out.but hbt (by omega)
      have hnot : ¬ (k < n ∧ n ≤ 12) := hlt
      have HFIN : Hid ((k = n ∧ n ≤ 12) ∨ (k = 0 ∧ 12 < n)) := by unfold Hid; omega
      have hgd : ((k : Int) < n ∧ ¬ (n : Int) ≤ 12) ∨ ¬ (k : Int) < n := by omega
      have HLK := Lib.hid (HLEN.out k)
      have HIN := Lib.hid (HG.out k)
      have HVB : Hid ((VA k).2.2 = true → V = (zeroCom, false)) := fun h => by
        rw [HV.out]
        rcases HFIN.out with ⟨rfl, _⟩ | ⟨_, h7⟩
        · rw [if_neg (fun q => by rw [h] at q; cases q.2.1)]
        · rw [if_neg (fun q => by omega)]
      have HVN : Hid (showCommitS ⟨n1, n2, t1, (VA k).1⟩ ≠ l → V = (zeroCom, false)) := fun h => by
        rw [HV.out]
        rcases HFIN.out with ⟨rfl, _⟩ | ⟨_, h7⟩
        · rw [if_neg (fun q => h q.2.2)]
        · rw [if_neg (fun q => by omega)]
      have HVY : Hid ((VA k).2.2 = false → showCommitS ⟨n1, n2, t1, (VA k).1⟩ = l → V = (⟨n1, n2, t1, (VA k).1⟩, true)) := fun hg h => by
        rw [HV.out]
        rcases HFIN.out with ⟨rfl, h7⟩ | ⟨rfl, h7⟩
        · rw [if_pos ⟨h7, hg, h⟩]
        · have q := HIN.out hg
          exact absurd h (HMANY.out h7 _ (fun e => by rw [e] at q; cases q))
      have HR := Lib.hid (own_sreads hown HLK.out.1)
      have HOB := Lib.hid (own_base hown (show w.heap.size ≤ H + 1 by omega))
      have HRN : Hid (∀ q, (Value.slice A k c).ownBlock = some q → q ≠ w.heap.size) := fun q hq => by have := (hown.lt q hq).1; omega
      have e1 : ¬ H = w.heap.size := by omega
      have e2 : ¬ w.heap.size = H := by omega
      clear hnot hlt hown hsc hH HV HSTEP HZ HG HFIN HLEN HMANY
      generalize (VA k).2.1 = r at *
      generalize (VA k).2.2 = bad at *
      generalize (VA k).1 = T at *
      have hb := hbf
      have hTl := HLK.out.1
      have hbs := hbf.size
      subst hTl
      cases bad
      · have hem := HIN.out rfl
        have HSH := Lib.hid fun (W : World) (h : Below wr.heap.size wr W) => iShowCommit_any ⟨n1, n2, t1, T⟩ A c W (by simp only; omega) (by simp only; omega) (HR.out.to h) HLK.out.2.2
        have hr0 := Below.refl wr.heap.size wr
        by_cases hs : showCommitS ⟨n1, n2, t1, T⟩ = l
        · have HV2 := Lib.hid (HVY.out rfl hs)
          rw [hs] at HSH
          rcases hgd with ⟨g1', g2'⟩ | g1'
          all_goals
            go_wp2_with (go_at_call 20; refine (HSH.out _ hr0).mono ?_; rintro e wn ⟨rfl, hbn⟩; have hb := Below.next (w := w) hb hbn; obtain ⟨hcc, hff⟩ := bcell hbn; have hzz := hbn.size)
            have HOW := Lib.hid (own_below HOB.out hbn)
            refine bodyPost_ret (v := .tuple #[.agg #[.int .i64 (n1 : Int), .int .i64 (n2 : Int), .string (S t1), .slice A T.length c], .bool true]) (by simp [results, Try.results42, go_sem, *]) rfl ?_
            rw [HV2.out]
            refine ⟨A, c, rfl, ?_, ?_⟩
            · exact own_set (own_set (own_set (own_set HOW.out HRN.out _ _) HRN.out _ _) HRN.out _ _) HRN.out _ _
            · repeat (first | with_reducible exact hb | with_reducible refine Below.drew ?_ | with_reducible refine Below.setCell ?_ (by first | omega | (simp <;> omega)) _ | with_reducible refine Below.alloc ?_ (by first | omega | (simp <;> omega)) _)
        · have HV2 := Lib.hid (HVN.out hs)
          have hs' : (showCommitS ⟨n1, n2, t1, T⟩ == l) = false := by simpa using hs
          generalize showCommitS ⟨n1, n2, t1, T⟩ = Z at *
          rcases hgd with ⟨g1', g2'⟩ | g1'
          all_goals
            go_wp2_with (go_at_call 20; refine (HSH.out _ hr0).mono ?_; rintro e wn ⟨rfl, hbn⟩; have hb := Below.next (w := w) hb hbn; obtain ⟨hcc, hff⟩ := bcell hbn; have hzz := hbn.size)
            refine bodyPost_ret (v := .tuple #[.agg #[.int .i64 0, .int .i64 0, .string ⟨#[]⟩, .slice none 0 0], .bool false]) (by simp [results, Try.results42, go_sem, *]) rfl ?_
            rw [HV2.out]
            refine ⟨none, 0, rfl, ?_, ?_⟩
            · exact own_nil _ _ _ _
            · repeat (first | with_reducible exact hb | with_reducible refine Below.drew ?_ | with_reducible refine Below.setCell ?_ (by first | omega | (simp <;> omega)) _ | with_reducible refine Below.alloc ?_ (by first | omega | (simp <;> omega)) _)
      · have HV2 := Lib.hid (HVB.out rfl)
        rcases hgd with ⟨g1', g2'⟩ | g1'
        all_goals
          go_wp2
          refine bodyPost_ret (v := .tuple #[.agg #[.int .i64 0, .int .i64 0, .string ⟨#[]⟩, .slice none 0 0], .bool false]) (by simp [results, Try.results42, go_sem, *]) rfl ?_
          rw [HV2.out]
          refine ⟨none, 0, rfl, ?_, ?_⟩
          · exact own_nil _ _ _ _
          · repeat (first | with_reducible exact hb | with_reducible refine Below.drew ?_ | with_reducible refine Below.setCell ?_ (by first | omega | (simp <;> omega)) _ | with_reducible refine Below.alloc ?_ (by first | omega | (simp <;> omega)) _)
end Go.Proofs.Ytabkbaepnnfjhaa
