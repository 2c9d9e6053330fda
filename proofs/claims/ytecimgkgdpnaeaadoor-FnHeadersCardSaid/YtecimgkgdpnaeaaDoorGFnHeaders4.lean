/-
  Texts of this proof, laid into one: Rec1, Str0, Val0, En1S.
-/
import Derived.Test.YtecimgkgdpnaeaaDoorGFnHeaders1
import Derived.Deep.AppendLies
import Derived.Test.YtecimgkgdpnaeaaDoorGFnHeaders0
import Derived.Test.YtecimgkgdpnaeaaDoorGFnHeaders3
/-
  Votes and headers as plain data, and their tests.
-/
namespace Go.Proofs.YtecimgkgdpnaeaaDoor
open Go.RowKit

structure VoteT where
  h : Int
  r : Int
  s : Int
  id : List UInt8
  v : Int
def VoteT.val (x : VoteT) : Value := .agg #[.int .i64 x.h, .int .i64 x.r, .int .i64 x.s, .string (S x.id), .int .i64 x.v]
structure HeadT where
  h : Int
  t : Int
  last : List UInt8
  vals : List UInt8
  next : List UInt8
  data : List UInt8
def HeadT.val (x : HeadT) : Value := .agg #[.int .i64 x.h, .int .i64 x.t, .string (S x.last), .string (S x.vals), .string (S x.next), .string (S x.data)]
def VoteT.ok (x : VoteT) : Prop := -9223372036854775808 ≤ x.h ∧ x.h ≤ 9223372036854775807 ∧ -9223372036854775808 ≤ x.r ∧ x.r ≤ 9223372036854775807 ∧ -9223372036854775808 ≤ x.s ∧ x.s ≤ 9223372036854775807 ∧ x.id.length ≤ 9223372036854775807 ∧ -9223372036854775808 ≤ x.v ∧ x.v ≤ 9223372036854775807
def HeadT.ok (x : HeadT) : Prop := -9223372036854775808 ≤ x.h ∧ x.h ≤ 9223372036854775807 ∧ -9223372036854775808 ≤ x.t ∧ x.t ≤ 9223372036854775807 ∧ x.last.length ≤ 9223372036854775807 ∧ x.vals.length ≤ 9223372036854775807 ∧ x.next.length ≤ 9223372036854775807 ∧ x.data.length ≤ 9223372036854775807
def isIdB (id : List UInt8) : Bool := id.length == 8 || id.length == 0
def voteOkB (x : VoteT) : Bool := inB x.h 1 1000000 && inB x.r 0 1000 && inB x.s 1 2 && isIdB x.id && inB x.v 1 99
def headOkB (x : HeadT) : Bool := inB x.h 1 1000000 && inB x.t 0 1000000 && x.vals.length == 8 && x.next.length == 8 && (x.last.length == if x.h = 1 then 0 else 8) && decide (x.data.length ≤ 20)
end Go.Proofs.YtecimgkgdpnaeaaDoor

/-
  Slices of texts in memory, as lists. No program in sight.
-/
namespace Go.Proofs.YtecimgkgdpnaeaaDoor
open Go.RowKit
set_option linter.unusedVariables false

def tv (x : List UInt8) : Value := .string (S x)
/-- A slice at A reads as these numbers, below block B. -/
def TReads (w : World) (B : Nat) (A : Option Addr) (l : List (List UInt8)) : Prop :=
  0 < l.length → ∃ b off, A = some ⟨b, off, none⟩ ∧ b < B ∧ ∀ (j : Nat) (h : j < l.length), w.cell? ⟨b, off + j, none⟩ = some (.string (S l[j]))
theorem TReads.below {w w' : World} {B B' : Nat} {A : Option Addr} {l : List (List UInt8)} (h : TReads w B A l) (hb : Below B' w w') (hB : B ≤ B') : TReads w' B A l := fun hl => by
  obtain ⟨b, off, rfl, hbB, hc⟩ := h hl
  exact ⟨b, off, rfl, hbB, fun j hj => (hb.cell (p := ⟨b, _, none⟩) (by show b < B'; omega)).trans (hc j hj)⟩
theorem TReads.more {w : World} {B B' : Nat} {A : Option Addr} {l : List (List UInt8)} (h : TReads w B A l) (hB : B ≤ B') : TReads w B' A l := fun hl => by
  obtain ⟨b, off, rfl, hbB, hc⟩ := h hl
  exact ⟨b, off, rfl, by omega, hc⟩
theorem TReads.to {w w' : World} {A : Option Addr} {l : List (List UInt8)} (h : TReads w w.heap.size A l) (hb : Below w.heap.size w w') : TReads w' w'.heap.size A l := (h.below hb (Nat.le_refl _)).more hb.size
theorem TReads.of_own {w : World} {base : Nat} {e : TypeId} {A : Option Addr} {c : Nat} {l : List (List UInt8)} (h : w.ownsRow base e 1 (.slice A l.length c) l.length (l.map tv)) : TReads w w.heap.size A l := fun hl => by
  obtain ⟨g, cap, hv, _, hlt⟩ := h.form hl
  simp only [Value.slice.injEq] at hv
  obtain ⟨rfl, _, _⟩ := hv
  refine ⟨g, 0, rfl, hlt, fun j hj => ?_⟩
  have h1 := h.cellAt j (by omega)
  rw [List.getElem?_map, List.getElem?_eq_getElem hj] at h1
  rw [Nat.zero_add]
  exact h1
end Go.Proofs.YtecimgkgdpnaeaaDoor

/-
  Validators as plain data; slices of them in memory; the tests on them. No program in sight.
-/
namespace Go.Proofs.YtecimgkgdpnaeaaDoor
open Go.RowKit
set_option linter.unusedVariables false

structure ValT where
  id : Int
  power : Int
def ValT.val (v : ValT) : Value := .agg #[.int .i64 v.id, .int .i64 v.power]
/-- The cells of a row of validators. -/
def vcells (l : List ValT) : List Value := l.flatMap fun v => [.int .i64 v.id, .int .i64 v.power]
theorem vcells_length (l : List ValT) : (vcells l).length = l.length * 2 := by
  induction l with
  | nil => rfl
  | cons v l ih => simp only [vcells, List.flatMap_cons, List.length_append, List.length_cons, List.length_nil] at ih ⊢; omega
theorem vcells_append (a b : List ValT) : vcells (a ++ b) = vcells a ++ vcells b := by unfold vcells; rw [List.flatMap_append]
theorem vcells_one (v : ValT) : vcells [v] = [.int .i64 v.id, .int .i64 v.power] := rfl
theorem vcells_cons (v : ValT) (l : List ValT) : vcells (v :: l) = .int .i64 v.id :: .int .i64 v.power :: vcells l := rfl
theorem vcells_at (l : List ValT) : ∀ (j : Nat) (h : j < l.length), (vcells l)[j * 2]? = some (.int .i64 l[j].id) ∧ (vcells l)[j * 2 + 1]? = some (.int .i64 l[j].power) := by
  induction l with
  | nil => intro j h; simp at h
  | cons v l ih =>
    intro j h
    match j, h with
    | 0, _ => exact ⟨rfl, rfl⟩
    | j + 1, h =>
      rw [vcells_cons, show (j + 1) * 2 = j * 2 + 1 + 1 from by omega]
      simp only [List.getElem?_cons_succ, List.getElem_cons_succ]
      exact ih j (by simpa using h)

/-- A slice at A reads as these validators, below block B. -/
def VReads (w : World) (B : Nat) (A : Option Addr) (l : List ValT) : Prop :=
  0 < l.length → ∃ b off, A = some ⟨b, off, none⟩ ∧ b < B ∧ ∀ (j : Nat) (h : j < l.length), w.cell? ⟨b, off + j * 2, none⟩ = some (.int .i64 l[j].id) ∧ w.cell? ⟨b, off + j * 2 + 1, none⟩ = some (.int .i64 l[j].power)
theorem VReads.below {w w' : World} {B B' : Nat} {A : Option Addr} {l : List ValT} (h : VReads w B A l) (hb : Below B' w w') (hB : B ≤ B') : VReads w' B A l := fun hl => by
  obtain ⟨b, off, rfl, hbB, hc⟩ := h hl
  exact ⟨b, off, rfl, hbB, fun j hj => ⟨(hb.cell (p := ⟨b, _, none⟩) (by show b < B'; omega)).trans (hc j hj).1, (hb.cell (p := ⟨b, _, none⟩) (by show b < B'; omega)).trans (hc j hj).2⟩⟩
theorem VReads.more {w : World} {B B' : Nat} {A : Option Addr} {l : List ValT} (h : VReads w B A l) (hB : B ≤ B') : VReads w B' A l := fun hl => by
  obtain ⟨b, off, rfl, hbB, hc⟩ := h hl
  exact ⟨b, off, rfl, by omega, hc⟩
/-- Onto a later world, whole. -/
theorem VReads.to {w w' : World} {A : Option Addr} {l : List ValT} (h : VReads w w.heap.size A l) (hb : Below w.heap.size w w') : VReads w' w'.heap.size A l := (h.below hb (Nat.le_refl _)).more hb.size
theorem VReads.of_own {w : World} {base : Nat} {e : TypeId} {A : Option Addr} {c : Nat} {l : List ValT} (h : w.ownsRow base e 2 (.slice A l.length c) l.length (vcells l)) : VReads w w.heap.size A l := fun hl => by
  obtain ⟨g, cap, hv, _, hlt⟩ := h.form hl
  simp only [Value.slice.injEq] at hv
  obtain ⟨rfl, _, _⟩ := hv
  refine ⟨g, 0, rfl, hlt, fun j hj => ?_⟩
  have h1 := h.cellAt (j * 2) (by omega)
  have h2 := h.cellAt (j * 2 + 1) (by omega)
  rw [(vcells_at l j hj).1] at h1
  rw [(vcells_at l j hj).2] at h2
  rw [Nat.zero_add]
  exact ⟨h1, h2⟩

/-! The tests. -/
def valOk1 (v : ValT) : Bool := inB v.id 1 99 && inB v.power 1 1000
def ascOk : Int → List ValT → Bool
  | _, [] => true
  | p, v :: t => valOk1 v && (decide (p < v.id) && ascOk v.id t)
def valsOkB (l : List ValT) : Bool := inB (l.length : Int) 1 7 && ascOk 0 l
/-- The number ahead of place k, nought at the beginning. -/
def prevId (l : List ValT) (k : Nat) : Int := if k = 0 then 0 else ((l[k - 1]?).map ValT.id).getD 0
theorem prevId_zero (l : List ValT) : prevId l 0 = 0 := rfl
theorem prevId_succ (l : List ValT) (k : Nat) (h : k < l.length) : prevId l (k + 1) = l[k].id := by
  unfold prevId; rw [if_neg (by omega), Nat.add_sub_cancel, List.getElem?_eq_getElem h]; rfl
/-- What the loop over the validators knows at place k. -/
def AscAt (l : List ValT) (k : Nat) : Prop := ascOk 0 l = ascOk (prevId l k) (l.drop k)
theorem AscAt.start (l : List ValT) : AscAt l 0 := rfl
theorem AscAt.bad {l : List ValT} {k : Nat} (h : AscAt l k) (hk : k < l.length) (hb : valOk1 l[k] = false ∨ ¬ prevId l k < l[k].id) : ascOk 0 l = false := by
  rw [h, List.drop_eq_getElem_cons hk, ascOk]
  rcases hb with hb | hb
  · rw [hb]; rfl
  · rw [decide_eq_false hb]; simp
theorem AscAt.step {l : List ValT} {k : Nat} (h : AscAt l k) (hk : k < l.length) (h1 : valOk1 l[k] = true) (h2 : prevId l k < l[k].id) : AscAt l (k + 1) := by
  unfold AscAt
  rw [h, List.drop_eq_getElem_cons hk, ascOk, h1, decide_eq_true h2, prevId_succ l k hk]
  rfl
theorem AscAt.fin {l : List ValT} {k : Nat} (h : AscAt l k) (hk : k = l.length) : ascOk 0 l = true := by
  rw [h, hk, List.drop_length]; rfl
theorem valsOk_len {l : List ValT} (h : valsOkB l = true) : 1 ≤ l.length ∧ l.length ≤ 7 := by
  unfold valsOkB at h
  simp only [Bool.and_eq_true] at h
  have := inB_true h.1
  omega
end Go.Proofs.YtecimgkgdpnaeaaDoor

/-
  Some validators drawn.
-/
namespace Go.Proofs.YtecimgkgdpnaeaaDoor
open Go.ChangeShapes Go.WideShapes Go.ChangeAt Go.RowKit
set_option linter.unusedVariables false
set_option linter.unusedSimpArgs false
set_option maxRecDepth 100000

theorem vset_id (x : Int) : ∀ (L : List ValT) (k : Nat) (h : k < L.length), (vcells L).set (k * 2) (.int .i64 x) = vcells (L.set k ⟨x, L[k].power⟩) := by
  intro L
  induction L with
  | nil => intro k h; simp at h
  | cons v L ih =>
    intro k h
    match k, h with
    | 0, _ => rfl
    | k + 1, h =>
      rw [vcells_cons, show (k + 1) * 2 = k * 2 + 1 + 1 from by omega]
      simp only [List.set_cons_succ, List.getElem_cons_succ]
      rw [vcells_cons, ih k (by simpa using h)]
theorem vset_pw (x : Int) : ∀ (L : List ValT) (k : Nat) (h : k < L.length), (vcells L).set (k * 2 + 1) (.int .i64 x) = vcells (L.set k ⟨L[k].id, x⟩) := by
  intro L
  induction L with
  | nil => intro k h; simp at h
  | cons v L ih =>
    intro k h
    match k, h with
    | 0, _ => rfl
    | k + 1, h =>
      rw [vcells_cons, show (k + 1) * 2 + 1 = k * 2 + 1 + 1 + 1 from by omega]
      simp only [List.set_cons_succ, List.getElem_cons_succ]
      rw [vcells_cons, ih k (by simpa using h)]
theorem info_val2 : (Tryd.prog.info? 101).map (fun i => (i.zero, i.size, i.bytes)) = some (some (.agg #[.int .i64 0, .int .i64 0]), 2, 16) := by kernel_rfl
theorem info_int2 : (Tryd.prog.info? 3).map (fun i => (i.zero, i.size, i.bytes)) = some (some (.int .i64 0), 1, 8) := by kernel_rfl

theorem l6Some_in (B : Nat) (K : Cd) (w : World) (hs : CurX w B K) (hl : K.l.length ≤ 1048576) :
    Calls Tryd.prog 90 #[.pointer (some ⟨B, 0, none⟩)] w fun e w' => ∃ (L : List ValT) (A : Option Addr) (c : Nat), e = .returned (.slice A L.length c) ∧ 1 ≤ L.length ∧ L.length ≤ 4 ∧ w'.ownsRow w.heap.size 101 2 (.slice A L.length c) L.length (vcells L) ∧ CurX w' B K ∧ But B w w' := by
  obtain ⟨i0, hi, hz0, hz1, hz2⟩ := info_parts info_val2
  have HB := hs.lt
  have H4 := Lib.hid fun (W : World) (h : CurX W B K) => below_in B K 4 W h hl (by omega) (by omega)
  have H5 := Lib.hid fun (W : World) (h : CurX W B K) => below_in B K 5 W h hl (by omega) (by omega)
  have H2 := Lib.hid fun (W : World) (h : CurX W B K) => below_in B K 2 W h hl (by omega) (by omega)
  have HS := Lib.hid (hs.alloc (.cells #[] 101))
  have HO := Lib.hid (World.ownsRow_lit (e := 101) (size := 2) (base := w.heap.size) w #[] 0 (Nat.le_refl _) (by simp [maxLen]) rfl)
  have HBU := Lib.hid ((But.refl B w).alloc (.cells #[] 101))
  clear hs
  go_enter Tryd.func90, Tryd.ntmps90
  go_wp2_with fail
  refine (H4.out _ HS.out).mono ?_
  rintro e w1 ⟨x, rfl, hx, c1, b1⟩
  have HO2 := Lib.hid (own_but HO.out b1 HB)
  have HBU2 := Lib.hid (HBU.out.trans b1)
  clear HS HO HBU b1
  go_wp2_with fail
  go_loopw [3, 4, 5] (fun out id i wr => ∃ (L : List ValT) (j d : Nat), L.length + j = x + 1 ∧ i = .int .i64 (j : Int) ∧ id = .int .i64 (d : Int) ∧ d ≤ 1 + 2 * L.length ∧ wr.ownsRow w.heap.size 101 2 out L.length (vcells L) ∧ CurX wr B K ∧ But B w wr) (fun _ _ i _ => (intOf i).toNat)
  case atStart => exact ⟨[], x + 1, 1, by simp, by go_num, rfl, by simp, HO2.out, c1, HBU2.out⟩
  case round =>
    obtain ⟨L, j, d, hj, rfl, rfl, hd, hown, hc, hbu⟩ := hrel
    have hji : 0 ≤ (j : Int) ∧ (j : Int) ≤ 4 := by omega
    obtain ⟨A, c, rfl⟩ := own_slice hown
    by_cases hlt : 0 < j
    · have hjp : 0 < (j : Int) := by omega
      have HOWN := Lib.hid hown
      have HBUT := Lib.hid hbu
      have zz := hbu.size
      clear hown hbu
      go_wp2_with fail
      refine (H5.out _ hc).mono ?_
      rintro e w2 ⟨y, rfl, hy, c2, b2⟩
      have o2 := own_but HOWN.out b2 HB
      have zz2 := b2.size
      go_wp2_with (at_builtin; refine app_low rfl _ _ 51 rfl Tryd.underlying51 hi hz0 hz1 hz2 rfl (by decide) rfl o2 (by omega) rfl rfl rfl (one_cell_ii _ _) (by unfold maxLen; omega) (by omega) ?_; intro v1 w4 hown1 hlow)
      refine (H2.out _ (c2.low hlow HB)).mono ?_
      rintro e w5 ⟨z, rfl, hz, c5, b5⟩
      have o5 := own_but hown1 b5 HB
      have hbu5 := ((HBUT.out.trans b2).low hlow).trans b5
      go_wp2
      go_roundw
      case rel => exact ⟨L ++ [⟨(d : Int), 1 + (y : Int)⟩], j - 1, d + 1 + z, by simp; omega, by go_num, by go_num, by simp; omega, by rw [List.length_append, List.length_singleton, vcells_append]; exact o5, c5, hbu5⟩
      case measure => simp [intOf]; omega
    · obtain rfl : j = 0 := by omega
      have HF := Lib.hid hown
      have HC := Lib.hid hc
      have HBUT := Lib.hid hbu
      clear hown hc hbu
      go_wp2
      go_ret
      exact ⟨L, A, c, rfl, by omega, by omega, HF.out, HC.out, HBUT.out⟩

end Go.Proofs.YtecimgkgdpnaeaaDoor
