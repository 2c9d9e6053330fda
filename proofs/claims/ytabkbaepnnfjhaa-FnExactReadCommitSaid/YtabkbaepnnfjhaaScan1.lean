/-
  The methods num, cut, text of the program's scanner.
-/
import Derived.Test.YtabkbaepnnfjhaaNum11
import Derived.Test.YtabkbaepnnfjhaaScan0
import Derived.Test.YtabkbaepnnfjhaaBut0
import Derived.RegionTactic
import Derived.BigRegion
import Derived.Deep.RegionWith
namespace Go.Proofs.Ytabkbaepnnfjhaa
open Go.ChangeShapes Go.WideShapes Go.ChangeAt Go.RowKit
set_option linter.unusedVariables false
set_option linter.unusedSimpArgs false
set_option maxRecDepth 100000

/-- The scanner at block B reads as s. -/
def ScanAt (w : World) (B : Nat) (s : Sc) : Prop := B < w.heap.size ∧ w.cell? ⟨B, 0, none⟩ = some (.string (S s.1)) ∧ w.cell? ⟨B, 1, none⟩ = some (.bool s.2) ∧ w.frozen? ⟨B, 0, none⟩ = false ∧ w.frozen? ⟨B, 1, none⟩ = false
theorem ScanAt.next {B : Nat} {w w' : World} {s : Sc} (h : ScanAt w B s) (hb : Below w.heap.size w w') : ScanAt w' B s := by
  obtain ⟨h1, c0, c1, f0, f1⟩ := h
  exact ⟨Nat.lt_of_lt_of_le h1 hb.size, (hb.cell (p := ⟨B, 0, none⟩) h1).trans c0, (hb.cell (p := ⟨B, 1, none⟩) h1).trans c1, (hb.frozen (p := ⟨B, 0, none⟩) h1).trans f0, (hb.frozen (p := ⟨B, 1, none⟩) h1).trans f1⟩
theorem ScanAt.setBad {B : Nat} {w : World} {r : List UInt8} {b : Bool} (h : ScanAt w B (r, b)) : ScanAt (w.setCell ⟨B, 1, none⟩ (.bool true)) B (r, true) := by
  obtain ⟨h1, c0, c1, f0, f1⟩ := h
  simp only at c0 c1
  exact ⟨by simpa [World.setCell] using h1, by go_simp, by go_simp, by go_simp, by go_simp⟩
theorem ScanAt.setRest {B : Nat} {w : World} {r : List UInt8} {b : Bool} (h : ScanAt w B (r, b)) (q : List UInt8) : ScanAt (w.setCell ⟨B, 0, none⟩ (.string (S q))) B (q, b) := by
  obtain ⟨h1, c0, c1, f0, f1⟩ := h
  simp only at c0 c1
  exact ⟨by simpa [World.setCell] using h1, by go_simp, by go_simp, by go_simp, by go_simp⟩

theorem num_any (B : Nat) (s : Sc) (w : World) (hs : ScanAt w B s) (hl : s.1.length ≤ 1048576) :
    Calls Try.prog 71 #[.pointer (some ⟨B, 0, none⟩)] w fun e w' => e = .returned (.int .i64 (numP s).1) ∧ ScanAt w' B (numP s).2 ∧ But B w w' := by
  obtain ⟨r, b⟩ := s
  obtain ⟨hB, c0, c1, f0, f1⟩ := hs
  simp only at c0 c1 hl
  have hR := Lib.hid (iReadVar_any r w hl)
  have hsp := readVar_spec r
  have hS : ScanAt w B (r, b) := ⟨hB, c0, c1, f0, f1⟩
  have HS := Lib.hid hS
  have HC := Lib.hid (fun h : b = true => (congrArg (fun b => numP (r, b)) h).trans (numP_bad r))
  have HN := Lib.hid (fun (h : b = false) (k : (readVarS r).2 = 0) => (congrArg (fun b => numP (r, b)) h).trans (numP_none k))
  have HY := Lib.hid (fun (h : b = false) (k : (readVarS r).2 ≠ 0) => (congrArg (fun b => numP (r, b)) h).trans (numP_some k))
  have hk : (readVarS r).2 ≤ r.length := by rcases hsp with h | h <;> omega
  clear hsp hS
  generalize (readVarS r).1 = n at *
  generalize (readVarS r).2 = k at *
  generalize hV : numP (r, b) = V at *
  go_enter Try.func71, Try.ntmps71
  go_wp2_with fail
  refine hR.out.mono ?_
  rintro e w1 ⟨rfl, hb1⟩
  have HS1 := Lib.hid (HS.out.next hb1)
  obtain ⟨hB1, d0, d1, g0, g1⟩ := HS1.out
  simp only at d0 d1
  have hw := Lib.hid (But.of_below (B := B) hb1)
  clear c0 c1 f0 f1 hb1 hR
  cases b
  · by_cases hk0 : k = 0
    · subst hk0
      have HV := Lib.hid (HN.out rfl rfl)
      clear HC HN HY
      go_wp2
      go_ret
      exact ⟨by rw [HV.out]; rfl, by rw [HV.out]; exact HS1.out.setBad, hw.out.set 1 _⟩
    · have HV := Lib.hid (HY.out rfl hk0)
      have hx : (S r).extract k r.length = S (r.drop k) := by rw [S_cut, List.take_of_length_le (by simp)]
      have hk1 : ¬ ((k : Int) = 0) := by omega
      clear HC HN HY
      go_wp2
      go_ret
      exact ⟨by rw [HV.out]; rfl, by rw [HV.out]; exact HS1.out.setRest _, hw.out.set 0 _⟩
  · have HV := Lib.hid (HC.out rfl)
    clear HC HN HY
    go_wp2
    go_ret
    exact ⟨by rw [HV.out]; rfl, by rw [HV.out]; exact HS1.out.setBad, hw.out.set 1 _⟩

theorem cut_any (B : Nat) (s : Sc) (n : Int) (w : World) (hs : ScanAt w B s) (hl : s.1.length ≤ 1048576) :
    Calls Try.prog 92 #[.pointer (some ⟨B, 0, none⟩), .int .i64 n] w fun e w' => e = .returned (.string (S (cutP s n).1)) ∧ ScanAt w' B (cutP s n).2 ∧ But B w w' := by
  obtain ⟨r, b⟩ := s
  obtain ⟨hB, c0, c1, f0, f1⟩ := hs
  simp only at c0 c1 hl
  have hS : ScanAt w B (r, b) := ⟨hB, c0, c1, f0, f1⟩
  have HS := Lib.hid hS
  clear hS
  have hw := Lib.hid (But.refl B w)
  cases b
  · cases hi : inB n 0 (r.length : Int)
    · have HV := Lib.hid (cutP_no (r := r) (inB_false hi))
      go_enter Try.func92, Try.ntmps92
      go_wp2_with (go_at_call 63; refine (within_b _ _ _ _).mono ?_; rintro e w' ⟨rfl, rfl⟩)
      go_ret
      exact ⟨by rw [HV.out]; rfl, by rw [HV.out]; exact HS.out.setBad, hw.out.set 1 _⟩
    · obtain ⟨h0, h1⟩ := inB_true hi
      obtain ⟨m, rfl⟩ := Int.eq_ofNat_of_zero_le h0
      have HV := Lib.hid (cutP_yes (r := r) (n := m) (by omega))
      have hx : (S r).extract m r.length = S (r.drop m) := by rw [S_cut, List.take_of_length_le (by simp)]
      have hy : (S r).extract 0 m = S (r.take m) := by rw [S_cut]; simp
      go_enter Try.func92, Try.ntmps92
      go_wp2_with (go_at_call 63; refine (within_b _ _ _ _).mono ?_; rintro e w' ⟨rfl, rfl⟩)
      go_ret
      exact ⟨by rw [HV.out]; rfl, by rw [HV.out]; exact HS.out.setRest _, hw.out.set 0 _⟩
  · have HV := Lib.hid (cutP_bad r n)
    go_enter Try.func92, Try.ntmps92
    go_wp2_with (go_at_call 63; refine (within_b _ _ _ _).mono ?_; rintro e w' ⟨rfl, rfl⟩)
    go_ret
    exact ⟨by rw [HV.out]; rfl, by rw [HV.out]; exact HS.out.setBad, hw.out.set 1 _⟩

theorem text_any (B : Nat) (s : Sc) (w : World) (hs : ScanAt w B s) (hl : s.1.length ≤ 1048576) :
    Calls Try.prog 72 #[.pointer (some ⟨B, 0, none⟩)] w fun e w' => e = .returned (.string (S (textP s).1)) ∧ ScanAt w' B (textP s).2 ∧ But B w w' := by
  have HN := Lib.hid (num_any B s w hs hl)
  have HC := Lib.hid (fun (W : World) (h : ScanAt W B (numP s).2) => cut_any B (numP s).2 ((numP s).1 : Int) W h (Nat.le_trans (numP_len s) hl))
  have HV : Hid (textP s = cutP (numP s).2 ((numP s).1 : Int)) := rfl
  clear hs
  generalize (numP s).2 = t at *
  generalize (numP s).1 = n at *
  generalize textP s = V at *
  go_enter Try.func72, Try.ntmps72
  go_wp2_with fail
  refine HN.out.mono ?_
  rintro e w1 ⟨rfl, s1, b1⟩
  go_wp2_with fail
  refine (HC.out _ s1).mono ?_
  rintro e w2 ⟨rfl, s2, b2⟩
  go_wp2
  go_ret
  exact ⟨by rw [HV.out]; rfl, by rw [HV.out]; exact s2, b1.trans b2⟩
end Go.Proofs.Ytabkbaepnnfjhaa
