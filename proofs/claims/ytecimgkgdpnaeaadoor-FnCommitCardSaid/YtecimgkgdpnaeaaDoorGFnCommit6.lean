/-
  Texts of this proof, laid into one: Val0, En1S, Frame, Pow0.
-/
import Derived.Deep.AppendLies
import Derived.Test.YtecimgkgdpnaeaaDoorGFnCommit2
import Derived.Test.YtecimgkgdpnaeaaDoorGFnCommit4
import Derived.Deep.Slices
import Derived.Deep.Fields
import Derived.Lib.SmallJoins
import Derived.OpenShut
import Derived.ShutString
import Derived.ChangeOld
import Derived.Below
import Derived.Test.YtecimgkgdpnaeaaDoorGFnCommit5
/-
  Validators as plain data; slices of them in memory; the tests on them. No program in sight.
-/
namespace Go.Proofs.YtecimgkgdpnaeaaDoor
open Go.RowKit
set_option linter.unusedVariables false

structure ValT where
  id : Int
  power : Int
def ValT.val (v : ValT) : Value := .agg #[.int .i64 v.id, .int .i64 v.power]
/-- The cells of a row of validators. -/
def vcells (l : List ValT) : List Value := l.flatMap fun v => [.int .i64 v.id, .int .i64 v.power]
theorem vcells_length (l : List ValT) : (vcells l).length = l.length * 2 := by
  induction l with
  | nil => rfl
  | cons v l ih => simp only [vcells, List.flatMap_cons, List.length_append, List.length_cons, List.length_nil] at ih ⊢; omega
theorem vcells_append (a b : List ValT) : vcells (a ++ b) = vcells a ++ vcells b := by unfold vcells; rw [List.flatMap_append]
theorem vcells_one (v : ValT) : vcells [v] = [.int .i64 v.id, .int .i64 v.power] := rfl
theorem vcells_cons (v : ValT) (l : List ValT) : vcells (v :: l) = .int .i64 v.id :: .int .i64 v.power :: vcells l := rfl
theorem vcells_at (l : List ValT) : ∀ (j : Nat) (h : j < l.length), (vcells l)[j * 2]? = some (.int .i64 l[j].id) ∧ (vcells l)[j * 2 + 1]? = some (.int .i64 l[j].power) := by
  induction l with
  | nil => intro j h; simp at h
  | cons v l ih =>
    intro j h
    match j, h with
    | 0, _ => exact ⟨rfl, rfl⟩
    | j + 1, h =>
      rw [vcells_cons, show (j + 1) * 2 = j * 2 + 1 + 1 from by omega]
      simp only [List.getElem?_cons_succ, List.getElem_cons_succ]
      exact ih j (by simpa using h)

/-- A slice at A reads as these validators, below block B. -/
def VReads (w : World) (B : Nat) (A : Option Addr) (l : List ValT) : Prop :=
  0 < l.length → ∃ b off, A = some ⟨b, off, none⟩ ∧ b < B ∧ ∀ (j : Nat) (h : j < l.length), w.cell? ⟨b, off + j * 2, none⟩ = some (.int .i64 l[j].id) ∧ w.cell? ⟨b, off + j * 2 + 1, none⟩ = some (.int .i64 l[j].power)
theorem VReads.below {w w' : World} {B B' : Nat} {A : Option Addr} {l : List ValT} (h : VReads w B A l) (hb : Below B' w w') (hB : B ≤ B') : VReads w' B A l := fun hl => by
  obtain ⟨b, off, rfl, hbB, hc⟩ := h hl
  exact ⟨b, off, rfl, hbB, fun j hj => ⟨(hb.cell (p := ⟨b, _, none⟩) (by show b < B'; omega)).trans (hc j hj).1, (hb.cell (p := ⟨b, _, none⟩) (by show b < B'; omega)).trans (hc j hj).2⟩⟩
theorem VReads.more {w : World} {B B' : Nat} {A : Option Addr} {l : List ValT} (h : VReads w B A l) (hB : B ≤ B') : VReads w B' A l := fun hl => by
  obtain ⟨b, off, rfl, hbB, hc⟩ := h hl
  exact ⟨b, off, rfl, by omega, hc⟩
/-- Onto a later world, whole. -/
theorem VReads.to {w w' : World} {A : Option Addr} {l : List ValT} (h : VReads w w.heap.size A l) (hb : Below w.heap.size w w') : VReads w' w'.heap.size A l := (h.below hb (Nat.le_refl _)).more hb.size
theorem VReads.of_own {w : World} {base : Nat} {e : TypeId} {A : Option Addr} {c : Nat} {l : List ValT} (h : w.ownsRow base e 2 (.slice A l.length c) l.length (vcells l)) : VReads w w.heap.size A l := fun hl => by
  obtain ⟨g, cap, hv, _, hlt⟩ := h.form hl
  simp only [Value.slice.injEq] at hv
  obtain ⟨rfl, _, _⟩ := hv
  refine ⟨g, 0, rfl, hlt, fun j hj => ?_⟩
  have h1 := h.cellAt (j * 2) (by omega)
  have h2 := h.cellAt (j * 2 + 1) (by omega)
  rw [(vcells_at l j hj).1] at h1
  rw [(vcells_at l j hj).2] at h2
  rw [Nat.zero_add]
  exact ⟨h1, h2⟩

/-! The tests. -/
def valOk1 (v : ValT) : Bool := inB v.id 1 99 && inB v.power 1 1000
def ascOk : Int → List ValT → Bool
  | _, [] => true
  | p, v :: t => valOk1 v && (decide (p < v.id) && ascOk v.id t)
def valsOkB (l : List ValT) : Bool := inB (l.length : Int) 1 7 && ascOk 0 l
/-- The number ahead of place k, nought at the beginning. -/
def prevId (l : List ValT) (k : Nat) : Int := if k = 0 then 0 else ((l[k - 1]?).map ValT.id).getD 0
theorem prevId_zero (l : List ValT) : prevId l 0 = 0 := rfl
theorem prevId_succ (l : List ValT) (k : Nat) (h : k < l.length) : prevId l (k + 1) = l[k].id := by
  unfold prevId; rw [if_neg (by omega), Nat.add_sub_cancel, List.getElem?_eq_getElem h]; rfl
/-- What the loop over the validators knows at place k. -/
def AscAt (l : List ValT) (k : Nat) : Prop := ascOk 0 l = ascOk (prevId l k) (l.drop k)
theorem AscAt.start (l : List ValT) : AscAt l 0 := rfl
theorem AscAt.bad {l : List ValT} {k : Nat} (h : AscAt l k) (hk : k < l.length) (hb : valOk1 l[k] = false ∨ ¬ prevId l k < l[k].id) : ascOk 0 l = false := by
  rw [h, List.drop_eq_getElem_cons hk, ascOk]
  rcases hb with hb | hb
  · rw [hb]; rfl
  · rw [decide_eq_false hb]; simp
theorem AscAt.step {l : List ValT} {k : Nat} (h : AscAt l k) (hk : k < l.length) (h1 : valOk1 l[k] = true) (h2 : prevId l k < l[k].id) : AscAt l (k + 1) := by
  unfold AscAt
  rw [h, List.drop_eq_getElem_cons hk, ascOk, h1, decide_eq_true h2, prevId_succ l k hk]
  rfl
theorem AscAt.fin {l : List ValT} {k : Nat} (h : AscAt l k) (hk : k = l.length) : ascOk 0 l = true := by
  rw [h, hk, List.drop_length]; rfl
theorem valsOk_len {l : List ValT} (h : valsOkB l = true) : 1 ≤ l.length ∧ l.length ≤ 7 := by
  unfold valsOkB at h
  simp only [Bool.and_eq_true] at h
  have := inB_true h.1
  omega
end Go.Proofs.YtecimgkgdpnaeaaDoor

/-
  Some validators drawn.
-/
namespace Go.Proofs.YtecimgkgdpnaeaaDoor
open Go.ChangeShapes Go.WideShapes Go.ChangeAt Go.RowKit
set_option linter.unusedVariables false
set_option linter.unusedSimpArgs false
set_option maxRecDepth 100000

theorem vset_id (x : Int) : ∀ (L : List ValT) (k : Nat) (h : k < L.length), (vcells L).set (k * 2) (.int .i64 x) = vcells (L.set k ⟨x, L[k].power⟩) := by
  intro L
  induction L with
  | nil => intro k h; simp at h
  | cons v L ih =>
    intro k h
    match k, h with
    | 0, _ => rfl
    | k + 1, h =>
      rw [vcells_cons, show (k + 1) * 2 = k * 2 + 1 + 1 from by omega]
      simp only [List.set_cons_succ, List.getElem_cons_succ]
      rw [vcells_cons, ih k (by simpa using h)]
theorem vset_pw (x : Int) : ∀ (L : List ValT) (k : Nat) (h : k < L.length), (vcells L).set (k * 2 + 1) (.int .i64 x) = vcells (L.set k ⟨L[k].id, x⟩) := by
  intro L
  induction L with
  | nil => intro k h; simp at h
  | cons v L ih =>
    intro k h
    match k, h with
    | 0, _ => rfl
    | k + 1, h =>
      rw [vcells_cons, show (k + 1) * 2 + 1 = k * 2 + 1 + 1 + 1 from by omega]
      simp only [List.set_cons_succ, List.getElem_cons_succ]
      rw [vcells_cons, ih k (by simpa using h)]
theorem info_val2 : (Tryd.prog.info? 101).map (fun i => (i.zero, i.size, i.bytes)) = some (some (.agg #[.int .i64 0, .int .i64 0]), 2, 16) := by kernel_rfl
theorem info_int2 : (Tryd.prog.info? 3).map (fun i => (i.zero, i.size, i.bytes)) = some (some (.int .i64 0), 1, 8) := by kernel_rfl

theorem l6Some_in (B : Nat) (K : Cd) (w : World) (hs : CurX w B K) (hl : K.l.length ≤ 1048576) :
    Calls Tryd.prog 90 #[.pointer (some ⟨B, 0, none⟩)] w fun e w' => ∃ (L : List ValT) (A : Option Addr) (c : Nat), e = .returned (.slice A L.length c) ∧ 1 ≤ L.length ∧ L.length ≤ 4 ∧ w'.ownsRow w.heap.size 101 2 (.slice A L.length c) L.length (vcells L) ∧ CurX w' B K ∧ But B w w' := by
  obtain ⟨i0, hi, hz0, hz1, hz2⟩ := info_parts info_val2
  have HB := hs.lt
  have H4 := Lib.hid fun (W : World) (h : CurX W B K) => below_in B K 4 W h hl (by omega) (by omega)
  have H5 := Lib.hid fun (W : World) (h : CurX W B K) => below_in B K 5 W h hl (by omega) (by omega)
  have H2 := Lib.hid fun (W : World) (h : CurX W B K) => below_in B K 2 W h hl (by omega) (by omega)
  have HS := Lib.hid (hs.alloc (.cells #[] 101))
  have HO := Lib.hid (World.ownsRow_lit (e := 101) (size := 2) (base := w.heap.size) w #[] 0 (Nat.le_refl _) (by simp [maxLen]) rfl)
  have HBU := Lib.hid ((But.refl B w).alloc (.cells #[] 101))
  clear hs
  go_enter Tryd.func90, Tryd.ntmps90
  go_wp2_with fail
  refine (H4.out _ HS.out).mono ?_
  rintro e w1 ⟨x, rfl, hx, c1, b1⟩
  have HO2 := Lib.hid (own_but HO.out b1 HB)
  have HBU2 := Lib.hid (HBU.out.trans b1)
  clear HS HO HBU b1
  go_wp2_with fail
  go_loopw [3, 4, 5] (fun out id i wr => ∃ (L : List ValT) (j d : Nat), L.length + j = x + 1 ∧ i = .int .i64 (j : Int) ∧ id = .int .i64 (d : Int) ∧ d ≤ 1 + 2 * L.length ∧ wr.ownsRow w.heap.size 101 2 out L.length (vcells L) ∧ CurX wr B K ∧ But B w wr) (fun _ _ i _ => (intOf i).toNat)
  case atStart => exact ⟨[], x + 1, 1, by simp, by go_num, rfl, by simp, HO2.out, c1, HBU2.out⟩
  case round =>
    obtain ⟨L, j, d, hj, rfl, rfl, hd, hown, hc, hbu⟩ := hrel
    have hji : 0 ≤ (j : Int) ∧ (j : Int) ≤ 4 := by omega
    obtain ⟨A, c, rfl⟩ := own_slice hown
    by_cases hlt : 0 < j
    · have hjp : 0 < (j : Int) := by omega
      have HOWN := Lib.hid hown
      have HBUT := Lib.hid hbu
      have zz := hbu.size
      clear hown hbu
      go_wp2_with fail
      refine (H5.out _ hc).mono ?_
      rintro e w2 ⟨y, rfl, hy, c2, b2⟩
      have o2 := own_but HOWN.out b2 HB
      have zz2 := b2.size
      go_wp2_with (at_builtin; refine app_low rfl _ _ 51 rfl Tryd.underlying51 hi hz0 hz1 hz2 rfl (by decide) rfl o2 (by omega) rfl rfl rfl (one_cell_ii _ _) (by unfold maxLen; omega) (by omega) ?_; intro v1 w4 hown1 hlow)
      refine (H2.out _ (c2.low hlow HB)).mono ?_
      rintro e w5 ⟨z, rfl, hz, c5, b5⟩
      have o5 := own_but hown1 b5 HB
      have hbu5 := ((HBUT.out.trans b2).low hlow).trans b5
      go_wp2
      go_roundw
      case rel => exact ⟨L ++ [⟨(d : Int), 1 + (y : Int)⟩], j - 1, d + 1 + z, by simp; omega, by go_num, by go_num, by simp; omega, by rw [List.length_append, List.length_singleton, vcells_append]; exact o5, c5, hbu5⟩
      case measure => simp [intOf]; omega
    · obtain rfl : j = 0 := by omega
      have HF := Lib.hid hown
      have HC := Lib.hid hc
      have HBUT := Lib.hid hbu
      clear hown hc hbu
      go_wp2
      go_ret
      exact ⟨L, A, c, rfl, by omega, by omega, HF.out, HC.out, HBUT.out⟩

end Go.Proofs.YtecimgkgdpnaeaaDoor

/-
  What the frames of the laws share: the set-up's closed facts; arguments opened.
-/
namespace Go.Proofs.YtecimgkgdpnaeaaDoor
open Go.ChangeShapes Go.WideShapes Go.ChangeAt Go.RowKit
set_option linter.unusedVariables false
open Go.ChangeMaps (open_string shut_string)

theorem own : ownKnob Tryd.prog.godebug = none := by kernel_rfl
theorem laidOut : laidOutB Tryd.prog = true := by kernel_rfl
theorem wf_hi {a : Int} (h : (Lit.int .i64 a).wf = true) : a ≤ 9223372036854775807 := by
  simp only [Lit.wf, Bool.and_eq_true, decide_eq_true_eq] at h; exact h.2
theorem wf_lo {a : Int} (h : (Lit.int .i64 a).wf = true) : -9223372036854775808 ≤ a := by
  simp only [Lit.wf, Bool.and_eq_true, decide_eq_true_eq] at h; exact h.1
theorem S_ex (b : ByteArray) : ∃ l, b = S l := ⟨_, S_of b⟩
theorem str_len {l : List UInt8} (h : (S l).size ≤ maxLen) : l.length ≤ 9223372036854775807 := by simpa [maxLen] using h
section
open Go.Joins Go.Deep
variable {H : Type} {enc : TypeId × Value → H} {P : Program} {w : World} {base : Nat} {spare : Nat → Bool} {held : Bool}
theorem cell_int {ft : TypeId} {n : Nat} {c : Value} {y : DataW H × List MemPlace} (hu : P.underlying ft = some (.int .i64)) (h : DataW.trod enc P w base spare held n ft [c] = some y) : ∃ a, c = .int .i64 a ∧ -9223372036854775808 ≤ a ∧ a ≤ 9223372036854775807 := by
  obtain ⟨a, e, _, hw⟩ := DataW.trod_int hu h
  simp at e
  exact ⟨a, e, wf_lo hw, wf_hi hw⟩
theorem cell_string {ft : TypeId} {n : Nat} {c : Value} {y : DataW H × List MemPlace} (hu : P.underlying ft = some .string) (h : DataW.trod enc P w base spare held n ft [c] = some y) : ∃ l : List UInt8, c = .string (S l) ∧ l.length ≤ 9223372036854775807 := by
  obtain ⟨a, e, _, hs⟩ := DataW.trod_string hu h
  simp at e
  have el : a.data.toList.length = a.size := Array.length_toList
  unfold maxLen at hs
  exact ⟨a.data.toList, by rw [e, ← S_of], by omega⟩

theorem in_vote {r : Reach} {b0 : Nat} {t : TypeId} {f0 f1 f2 f3 f4 : Field} {v : Value} {d : DataW H} {p : List MemPlace} (hs : P.underlying t = some (.struct #[f0, f1, f2, f3, f4])) (u0 : P.underlying f0.type = some (.int .i64)) (u1 : P.underlying f1.type = some (.int .i64)) (u2 : P.underlying f2.type = some (.int .i64)) (u3 : P.underlying f3.type = some .string) (u4 : P.underlying f4.type = some (.int .i64)) (hone : oneCellFields P #[f0, f1, f2, f3, f4] = true) (hC : P.cellsOf t = 5)
    (hv : Value.okWide P w r b0 t v) (h : DataW.Trod enc P w base spare held t v d p) : ∃ x : VoteT, v = x.val ∧ x.ok := by
  obtain ⟨cs, rfl, hsz⟩ := okWide_struct hs hv
  obtain ⟨l⟩ := cs
  match l, hsz.trans hC with
  | [c0, c1, c2, c3, c4], _ =>
    obtain ⟨fuel, hf⟩ := h
    obtain ⟨xs, n, _, hx, _, hlen, hg⟩ := DataW.trod_struct hs hf
    obtain ⟨o0, k0⟩ := hone_of hone 0 f0 rfl
    obtain ⟨o1, k1⟩ := hone_of hone 1 f1 rfl
    obtain ⟨o2, k2⟩ := hone_of hone 2 f2 rfl
    obtain ⟨o3, k3⟩ := hone_of hone 3 f3 rfl
    obtain ⟨o4, k4⟩ := hone_of hone 4 f4 rfl
    match xs, hlen with
    | [y0, y1, y2, y3, y4], _ =>
      have e0 : DataW.trod enc P w base spare held n f0.type [c0] = some y0 := by simpa [Value.cells, o0, k0] using hg 0 f0 rfl
      have e1 : DataW.trod enc P w base spare held n f1.type [c1] = some y1 := by simpa [Value.cells, o1, k1] using hg 1 f1 rfl
      have e2 : DataW.trod enc P w base spare held n f2.type [c2] = some y2 := by simpa [Value.cells, o2, k2] using hg 2 f2 rfl
      have e3 : DataW.trod enc P w base spare held n f3.type [c3] = some y3 := by simpa [Value.cells, o3, k3] using hg 3 f3 rfl
      have e4 : DataW.trod enc P w base spare held n f4.type [c4] = some y4 := by simpa [Value.cells, o4, k4] using hg 4 f4 rfl
      obtain ⟨a0, rfl, l0, m0⟩ := cell_int u0 e0
      obtain ⟨a1, rfl, l1, m1⟩ := cell_int u1 e1
      obtain ⟨a2, rfl, l2, m2⟩ := cell_int u2 e2
      obtain ⟨a3, rfl, l3⟩ := cell_string u3 e3
      obtain ⟨a4, rfl, l4, m4⟩ := cell_int u4 e4
      exact ⟨⟨a0, a1, a2, a3, a4⟩, rfl, l0, m0, l1, m1, l2, m2, l3, l4, m4⟩

theorem in_header {r : Reach} {b0 : Nat} {t : TypeId} {f0 f1 f2 f3 f4 f5 : Field} {v : Value} {d : DataW H} {p : List MemPlace} (hs : P.underlying t = some (.struct #[f0, f1, f2, f3, f4, f5])) (u0 : P.underlying f0.type = some (.int .i64)) (u1 : P.underlying f1.type = some (.int .i64)) (u2 : P.underlying f2.type = some .string) (u3 : P.underlying f3.type = some .string) (u4 : P.underlying f4.type = some .string) (u5 : P.underlying f5.type = some .string) (hone : oneCellFields P #[f0, f1, f2, f3, f4, f5] = true) (hC : P.cellsOf t = 6)
    (hv : Value.okWide P w r b0 t v) (h : DataW.Trod enc P w base spare held t v d p) : ∃ x : HeadT, v = x.val ∧ x.ok := by
  obtain ⟨cs, rfl, hsz⟩ := okWide_struct hs hv
  obtain ⟨l⟩ := cs
  match l, hsz.trans hC with
  | [c0, c1, c2, c3, c4, c5], _ =>
    obtain ⟨fuel, hf⟩ := h
    obtain ⟨xs, n, _, hx, _, hlen, hg⟩ := DataW.trod_struct hs hf
    obtain ⟨o0, k0⟩ := hone_of hone 0 f0 rfl
    obtain ⟨o1, k1⟩ := hone_of hone 1 f1 rfl
    obtain ⟨o2, k2⟩ := hone_of hone 2 f2 rfl
    obtain ⟨o3, k3⟩ := hone_of hone 3 f3 rfl
    obtain ⟨o4, k4⟩ := hone_of hone 4 f4 rfl
    obtain ⟨o5, k5⟩ := hone_of hone 5 f5 rfl
    match xs, hlen with
    | [y0, y1, y2, y3, y4, y5], _ =>
      have e0 : DataW.trod enc P w base spare held n f0.type [c0] = some y0 := by simpa [Value.cells, o0, k0] using hg 0 f0 rfl
      have e1 : DataW.trod enc P w base spare held n f1.type [c1] = some y1 := by simpa [Value.cells, o1, k1] using hg 1 f1 rfl
      have e2 : DataW.trod enc P w base spare held n f2.type [c2] = some y2 := by simpa [Value.cells, o2, k2] using hg 2 f2 rfl
      have e3 : DataW.trod enc P w base spare held n f3.type [c3] = some y3 := by simpa [Value.cells, o3, k3] using hg 3 f3 rfl
      have e4 : DataW.trod enc P w base spare held n f4.type [c4] = some y4 := by simpa [Value.cells, o4, k4] using hg 4 f4 rfl
      have e5 : DataW.trod enc P w base spare held n f5.type [c5] = some y5 := by simpa [Value.cells, o5, k5] using hg 5 f5 rfl
      obtain ⟨a0, rfl, l0, m0⟩ := cell_int u0 e0
      obtain ⟨a1, rfl, l1, m1⟩ := cell_int u1 e1
      obtain ⟨a2, rfl, l2⟩ := cell_string u2 e2
      obtain ⟨a3, rfl, l3⟩ := cell_string u3 e3
      obtain ⟨a4, rfl, l4⟩ := cell_string u4 e4
      obtain ⟨a5, rfl, l5⟩ := cell_string u5 e5
      exact ⟨⟨a0, a1, a2, a3, a4, a5⟩, rfl, l0, m0, l1, m1, l2, l3, l4, l5⟩

theorem block_of_add (a : Addr) (n : Nat) : (a.add n).block = a.block := by unfold Addr.add; split <;> rfl
theorem plain_add (b o j : Nat) : (⟨b, o, none⟩ : Addr).add j = ⟨b, o + j, none⟩ := by unfold Addr.add; split <;> simp_all
/-- An address at which something lies has no inner spot. -/
theorem spot_none {a : Addr} {v : Value} (h : w.cell? a = some v) : a.spot = none := by simpa using World.cell?_spot h

theorem in_vals {r : Reach} {b0 : Nat} {t e : TypeId} {f0 f1 : Field} {v : Value} {d : DataW H} {p : List MemPlace} (ht : P.underlying t = some (.slice e)) (he : P.underlying e = some (.struct #[f0, f1]))
    (u0 : P.underlying f0.type = some (.int .i64)) (u1 : P.underlying f1.type = some (.int .i64)) (hone : oneCellFields P #[f0, f1] = true) (hC : P.cellsOf e = 2)
    (hv : Value.okWide P w r b0 t v) (h : DataW.Trod enc P w base spare held t v d p) (hlt : ∀ x ∈ p, x.block < w.heap.size) :
    ∃ (A : Option Addr) (c : Nat) (l : List ValT), v = .slice A l.length c ∧ l.length ≤ 9223372036854775807 ∧ VReads w w.heap.size A l := by
  obtain ⟨A, n, c, rfl⟩ := okWide_slice ht hv
  obtain ⟨fuel, hf⟩ := h
  rcases open_slice ht hf with ⟨hcs, _⟩ | ⟨a, len, cap, m, n', D, Pl, hcs, hb, hl, hm, hmm, hx, hi⟩
  · simp [Value.cells] at hcs
    obtain ⟨rfl, rfl, rfl⟩ := hcs
    exact ⟨none, 0, [], rfl, by simp, fun h => absurd h (by simp)⟩
  · simp [Value.cells] at hcs
    obtain ⟨rfl, rfl, rfl⟩ := hcs
    have hlm : n ≤ m := by rw [hmm]; split <;> omega
    have key : ∀ i, i < n → ∃ x : ValT, w.cell? (a.add (i * 2)) = some (.int .i64 x.id) ∧ w.cell? (a.add (i * 2 + 1)) = some (.int .i64 x.power) := by
      intro i hin
      obtain ⟨cs', hc, ht'⟩ := hi i (by omega)
      rw [hC] at hc
      obtain ⟨ys, n2, hn', hy, hlen, hyl, hg⟩ := DataW.trod_struct he ht'
      obtain ⟨_, hcl, hat⟩ := World.cells?_some hc
      obtain ⟨o0, k0⟩ := hone_of hone 0 f0 rfl
      obtain ⟨o1, k1⟩ := hone_of hone 1 f1 rfl
      match cs', hcl with
      | [z0, z1], _ =>
        match ys, hyl with
        | [y0, y1], _ =>
          have e0 : DataW.trod enc P w base spare held n2 f0.type [z0] = some y0 := by simpa [o0, k0] using hg 0 f0 rfl
          have e1 : DataW.trod enc P w base spare held n2 f1.type [z1] = some y1 := by simpa [o1, k1] using hg 1 f1 rfl
          obtain ⟨x0, rfl, _, _⟩ := cell_int u0 e0
          obtain ⟨x1, rfl, _, _⟩ := cell_int u1 e1
          have h0 := hat 0 (by omega)
          have h1 := hat 1 (by omega)
          rw [Go.Deep.add_add] at h0 h1
          exact ⟨⟨x0, x1⟩, h0, h1⟩
    obtain ⟨f, hfk⟩ : ∃ f : Nat → ValT, ∀ i, i < n → w.cell? (a.add (i * 2)) = some (.int .i64 (f i).id) ∧ w.cell? (a.add (i * 2 + 1)) = some (.int .i64 (f i).power) := ⟨fun i => if h : i < n then Classical.choose (key i h) else ⟨0, 0⟩, fun i h => by simp only [dif_pos h]; exact Classical.choose_spec (key i h)⟩
    clear key
    refine ⟨some a, c, (List.range n).map f, by simp, by simp; unfold maxLen at hm; omega, fun hn => ?_⟩
    simp only [List.length_map, List.length_range] at hn
    have hsp := spot_none (hfk 0 hn).1
    obtain ⟨b, o, s⟩ := a
    have hs : s = none := by
      have : ((⟨b, o, s⟩ : Addr).add (0 * 2)).spot = s := by simp [Addr.add]
      rw [this] at hsp
      exact hsp
    subst hs
    have hbl : b < w.heap.size := by
      have := World.block_lt_of_cell? w _ (hfk 0 hn).1
      rw [block_of_add] at this
      exact this
    refine ⟨b, o, rfl, hbl, fun j hj => ?_⟩
    simp only [List.length_map, List.length_range] at hj
    have hk := hfk j hj
    rw [plain_add, plain_add] at hk
    rw [List.getElem_map, List.getElem_range]
    exact ⟨hk.1, by rw [Nat.add_assoc]; exact hk.2⟩

theorem in_ints {r : Reach} {b0 : Nat} {t e : TypeId} {v : Value} {d : DataW H} {p : List MemPlace} (ht : P.underlying t = some (.slice e)) (he : P.underlying e = some (.int .i64)) (hC : P.cellsOf e = 1)
    (hv : Value.okWide P w r b0 t v) (h : DataW.Trod enc P w base spare held t v d p) (hlt : ∀ x ∈ p, x.block < w.heap.size) :
    ∃ (A : Option Addr) (c : Nat) (l : List Int), v = .slice A l.length c ∧ l.length ≤ 9223372036854775807 ∧ IReads w w.heap.size A l := by
  obtain ⟨A, n, c, rfl⟩ := okWide_slice ht hv
  obtain ⟨fuel, hf⟩ := h
  rcases open_slice ht hf with ⟨hcs, _⟩ | ⟨a, len, cap, m, n', D, Pl, hcs, hb, hl, hm, hmm, hx, hi⟩
  · simp [Value.cells] at hcs
    obtain ⟨rfl, rfl, rfl⟩ := hcs
    exact ⟨none, 0, [], rfl, by simp, fun h => absurd h (by simp)⟩
  · simp [Value.cells] at hcs
    obtain ⟨rfl, rfl, rfl⟩ := hcs
    have hlm : n ≤ m := by rw [hmm]; split <;> omega
    have key : ∀ i, i < n → ∃ x : Int, w.cell? (a.add i) = some (.int .i64 x) := by
      intro i hin
      obtain ⟨cs', hc, ht'⟩ := hi i (by omega)
      rw [hC, Nat.mul_one] at hc
      obtain ⟨_, hcl, hat⟩ := World.cells?_some hc
      match cs', hcl with
      | [z0], _ =>
        obtain ⟨x0, rfl, _, _⟩ := cell_int he ht'
        have h0 := hat 0 (by omega)
        rw [Go.Deep.add_add] at h0
        exact ⟨x0, h0⟩
    obtain ⟨f, hfk⟩ : ∃ f : Nat → Int, ∀ i, i < n → w.cell? (a.add i) = some (.int .i64 (f i)) := ⟨fun i => if h : i < n then Classical.choose (key i h) else 0, fun i h => by simp only [dif_pos h]; exact Classical.choose_spec (key i h)⟩
    clear key
    refine ⟨some a, c, (List.range n).map f, by simp, by simp; unfold maxLen at hm; omega, fun hn => ?_⟩
    simp only [List.length_map, List.length_range] at hn
    have hsp := spot_none (hfk 0 hn)
    obtain ⟨b, o, s⟩ := a
    have hs : s = none := by
      have : ((⟨b, o, s⟩ : Addr).add 0).spot = s := by simp [Addr.add]
      rw [this] at hsp
      exact hsp
    subst hs
    have hbl : b < w.heap.size := by
      have := World.block_lt_of_cell? w _ (hfk 0 hn)
      rw [block_of_add] at this
      exact this
    refine ⟨b, o, rfl, hbl, fun j hj => ?_⟩
    simp only [List.length_map, List.length_range] at hj
    have hk := hfk j hj
    rw [plain_add] at hk
    rw [List.getElem_map, List.getElem_range]
    exact hk
end
end Go.Proofs.YtecimgkgdpnaeaaDoor

/-
  Power, plain.
-/
namespace Go.Proofs.YtecimgkgdpnaeaaDoor
set_option linter.unusedVariables false

/-- The power of those of whom f holds. -/
def pwOf (f : Int → Bool) (l : List ValT) : Int := l.foldl (fun n v => if f v.id then n + v.power else n) 0
theorem pwOf_snoc (f : Int → Bool) (l : List ValT) (v : ValT) : pwOf f (l ++ [v]) = if f v.id then pwOf f l + v.power else pwOf f l := by
  unfold pwOf; rw [List.foldl_append]; rfl
theorem pwOf_take (f : Int → Bool) (l : List ValT) (k : Nat) (h : k < l.length) : pwOf f (l.take (k + 1)) = if f l[k].id then pwOf f (l.take k) + l[k].power else pwOf f (l.take k) := by
  rw [List.take_succ_eq_append_getElem h, pwOf_snoc]
theorem ascOk_pos (l : List ValT) : ∀ p, ascOk p l = true → ∀ v ∈ l, 1 ≤ v.power ∧ v.power ≤ 1000 ∧ 1 ≤ v.id ∧ v.id ≤ 99 := by
  induction l with
  | nil => intro p _ v hv; cases hv
  | cons x t ih =>
    intro p h v hv
    rw [ascOk, Bool.and_eq_true, Bool.and_eq_true, valOk1, Bool.and_eq_true] at h
    rcases List.mem_cons.1 hv with rfl | hv
    · have h1 := inB_true h.1.1
      have h2 := inB_true h.1.2
      exact ⟨h2.1, h2.2, h1.1, h1.2⟩
    · exact ih _ h.2.2 v hv
theorem valsOk_pos {l : List ValT} (h : valsOkB l = true) : ∀ v ∈ l, 1 ≤ v.power ∧ v.power ≤ 1000 ∧ 1 ≤ v.id ∧ v.id ≤ 99 := by
  rw [valsOkB, Bool.and_eq_true] at h
  exact ascOk_pos l 0 h.2
theorem pwOf_bound (f : Int → Bool) (l : List ValT) (h : ∀ v ∈ l, 1 ≤ v.power ∧ v.power ≤ 1000 ∧ 1 ≤ v.id ∧ v.id ≤ 99) : ∀ k, k ≤ l.length → 0 ≤ pwOf f (l.take k) ∧ pwOf f (l.take k) ≤ 1000 * k := by
  intro k
  induction k with
  | zero => intro _; simp [pwOf]
  | succ k ih =>
    intro hk
    have h1 := ih (by omega)
    have h2 := h l[k] (List.getElem_mem _)
    rw [pwOf_take f l k (by omega)]
    split <;> omega
theorem valsOk_bound {l : List ValT} (f : Int → Bool) (h : valsOkB l = true) : 0 ≤ pwOf f l ∧ pwOf f l ≤ 7000 := by
  have h1 := pwOf_bound f l (valsOk_pos h) l.length (Nat.le_refl _)
  rw [List.take_length] at h1
  have := valsOk_len h
  omega
def allIds (_ : Int) : Bool := true
def hasB (ids : List Int) (x : Int) : Bool := ids.contains x
/-- What PowerOf returns. -/
def powerS (l : List ValT) : Int := if valsOkB l then pwOf allIds l else 0
/-- What Enough returns. -/
def enoughB (l : List ValT) (ids : List Int) : Bool := valsOkB l && decide (2 * pwOf allIds l < 3 * pwOf (hasB ids) l)
end Go.Proofs.YtecimgkgdpnaeaaDoor
