/-
  Texts of this proof, laid into one: Rec1, Same, Srt, Str0.
-/
import Derived.Test.YtecimgkgdpnaeaaDoorGFnCommit2
import Derived.RegionTactic
import Derived.BigRegion
import Derived.Deep.QuietTactic
import Derived.Shelf.Sort.Plain
import Derived.Shelf.Slices.CompactI
import Derived.Shelf.Slices.In.SortNone
import Derived.Sort.OwnSortedInts
import Derived.Lib.OwnBridge
import Derived.Test.YtecimgkgdpnaeaaDoorGFnCommit0
import Derived.Deep.AppendLies
import Derived.Test.YtecimgkgdpnaeaaDoorGFnCommit1
/-
  Votes and headers as plain data, and their tests.
-/
namespace Go.Proofs.YtecimgkgdpnaeaaDoor
open Go.RowKit

structure VoteT where
  h : Int
  r : Int
  s : Int
  id : List UInt8
  v : Int
def VoteT.val (x : VoteT) : Value := .agg #[.int .i64 x.h, .int .i64 x.r, .int .i64 x.s, .string (S x.id), .int .i64 x.v]
structure HeadT where
  h : Int
  t : Int
  last : List UInt8
  vals : List UInt8
  next : List UInt8
  data : List UInt8
def HeadT.val (x : HeadT) : Value := .agg #[.int .i64 x.h, .int .i64 x.t, .string (S x.last), .string (S x.vals), .string (S x.next), .string (S x.data)]
def VoteT.ok (x : VoteT) : Prop := -9223372036854775808 ≤ x.h ∧ x.h ≤ 9223372036854775807 ∧ -9223372036854775808 ≤ x.r ∧ x.r ≤ 9223372036854775807 ∧ -9223372036854775808 ≤ x.s ∧ x.s ≤ 9223372036854775807 ∧ x.id.length ≤ 9223372036854775807 ∧ -9223372036854775808 ≤ x.v ∧ x.v ≤ 9223372036854775807
def HeadT.ok (x : HeadT) : Prop := -9223372036854775808 ≤ x.h ∧ x.h ≤ 9223372036854775807 ∧ -9223372036854775808 ≤ x.t ∧ x.t ≤ 9223372036854775807 ∧ x.last.length ≤ 9223372036854775807 ∧ x.vals.length ≤ 9223372036854775807 ∧ x.next.length ≤ 9223372036854775807 ∧ x.data.length ≤ 9223372036854775807
def isIdB (id : List UInt8) : Bool := id.length == 8 || id.length == 0
def voteOkB (x : VoteT) : Bool := inB x.h 1 1000000 && inB x.r 0 1000 && inB x.s 1 2 && isIdB x.id && inB x.v 1 99
def headOkB (x : HeadT) : Bool := inB x.h 1 1000000 && inB x.t 0 1000000 && x.vals.length == 8 && x.next.length == 8 && (x.last.length == if x.h = 1 then 0 else 8) && decide (x.data.length ≤ 20)
end Go.Proofs.YtecimgkgdpnaeaaDoor

/-
  The laws' helpers over ints: sameInts.
-/
namespace Go.Proofs.YtecimgkgdpnaeaaDoor
open Go.ChangeShapes Go.WideShapes Go.ChangeAt Go.RowKit
set_option linter.unusedVariables false
set_option linter.unusedSimpArgs false
set_option maxRecDepth 100000

/-- sameInts at two slices that read as one list. -/
theorem sameInts_same (A1 A2 : Option Addr) (c1 c2 : Nat) (l : List Int) (w : World) (hl : l.length ≤ 4194304) (hR1 : IReads w w.heap.size A1 l) (hR2 : IReads w w.heap.size A2 l) :
    Calls Tryd.prog 33 #[.slice A1 l.length c1, .slice A2 l.length c2] w fun e w' => e = .returned (.bool true) ∧ Below w.heap.size w w' := by
  have HR1 := Lib.hid hR1
  have HR2 := Lib.hid hR2
  clear hR1 hR2
  go_enter Tryd.func33, Tryd.ntmps33
  go_wp2
  go_loopw [5] (fun i wr => ∃ k : Nat, k ≤ l.length ∧ i = .int .i64 k ∧ Below w.heap.size w wr) (fun i _ => l.length - (intOf i).toNat)
  case atStart => exact ⟨0, by omega, rfl, Below.refl _ _⟩
  case round =>
    obtain ⟨k, hk, rfl, hb⟩ := hrel
    by_cases hlt : k < l.length
    · obtain ⟨b1, o1, rfl, hbB1, hc1⟩ := ((HR1.out.below hb (Nat.le_refl _)).more hb.size) (by omega)
      obtain ⟨b2, o2, rfl, hbB2, hc2⟩ := ((HR2.out.below hb (Nat.le_refl _)).more hb.size) (by omega)
      have x0 := hc1 k hlt
      have y0 := hc2 k hlt
      clear hc1 hc2
      have hki : 0 ≤ (k : Int) ∧ (k : Int) < l.length := by omega
      go_wp2
      go_quiet (fail)
      go_wp2
      go_roundw
      case rel => exact ⟨k + 1, by omega, by go_num, below_drewN hb _⟩
      case measure => simp [intOf]; omega
    · go_wp2
      go_ret
      exact ⟨rfl, hb⟩
end Go.Proofs.YtecimgkgdpnaeaaDoor

/-
  slices.Sort and slices.Compact of numbers, on a row of the call's own.
-/
namespace Go.Proofs.YtecimgkgdpnaeaaDoor
open Go.ChangeShapes Go.WideShapes Go.ChangeAt Go.RowKit Go.Sort Go.Shelf
set_option linter.unusedVariables false
set_option linter.unusedSimpArgs false
set_option maxRecDepth 100000

theorem sort_ints {base n c : Nat} {A : Option Addr} {zs : List Int} {w : World} (h : w.ownsRow base 3 1 (.slice A n c) n (zs.map iv)) (hn : n ≤ 1000000) (hb : base ≤ w.heap.size) :
    Calls Tryd.prog 69 #[.slice A n c] w fun e w' => e = .returned (.tuple #[]) ∧ w'.ownsRow base 3 1 (.slice A n c) n ((sortI zs).map iv) ∧ Below base w w' := by
  have hl : zs.length = n := by simpa using h.1
  rcases h.2 with ⟨e0, hx⟩ | ⟨g, cap, cur, hv, hbase, hg, h1, h2, h3, h4⟩
  · simp only [Value.slice.injEq] at e0
    obtain ⟨rfl, rfl, rfl⟩ := e0
    obtain rfl : zs = [] := List.eq_nil_of_length_eq_zero hl
    have hc := Any.slices_Sort_int_none laysSort none 0 w
    refine hc.mono ?_
    rintro e w' ⟨rfl, rfl⟩
    exact ⟨rfl, by simpa [sortI] using h, Below.refl _ _⟩
  · simp only [Value.slice.injEq] at hv
    obtain ⟨rfl, _, rfl⟩ := hv
    obtain ⟨g', cap', hv', _, hgl, _, _, _, hH⟩ := Lib.holds_of_ownsRow (enc := Value.int .i64) h (by simp)
    simp only [Value.slice.injEq, Option.some.injEq, Addr.mk.injEq] at hv'
    obtain ⟨⟨rfl, _⟩, _, rfl⟩ := hv'
    have hc := Any.slices_Sort_int laysSort g 0 c zs w hH hgl (by omega)
    rw [hl] at hc
    refine hc.mono ?_
    rintro e w' ⟨rfl, nn, os, rfl⟩
    subst hl
    refine ⟨rfl, ownsRow_sortedI (sortI_len zs) hbase hg h1 h2 h3, (Below.refl base w).grown (grownBy_sortedI _) hb (fun j hj => by cases hj; exact hbase)⟩
theorem compact_ints {base n c : Nat} {A : Option Addr} {zs : List Int} {w : World} (h : w.ownsRow base 3 1 (.slice A n c) n (zs.map iv)) (hn : n ≤ 1000000) (hb : base ≤ w.heap.size) :
    Calls Tryd.prog 70 #[.slice A n c] w fun e w' => e = .returned (.slice A (Lib.compact zs).length c) ∧ w'.ownsRow base 3 1 (.slice A (Lib.compact zs).length c) (Lib.compact zs).length ((Lib.compact zs).map iv) ∧ Below base w w' := by
  have hl : zs.length = n := by simpa using h.1
  have hle := Lib.compact_length_le zs
  rcases h.2 with ⟨e0, hx⟩ | ⟨g, cap, cur, hv, hbase, hg, h1, h2, h3, h4⟩
  · simp only [Value.slice.injEq] at e0
    obtain ⟨rfl, rfl, rfl⟩ := e0
    obtain rfl : zs = [] := List.eq_nil_of_length_eq_zero hl
    have hc := Any.slices_Compact_int_empty laysCompact none 0 w
    refine hc.mono ?_
    rintro e w' ⟨rfl, rfl⟩
    exact ⟨rfl, by simpa [Lib.compact, Lib.compactUpTo] using h, Below.refl _ _⟩
  · simp only [Value.slice.injEq] at hv
    obtain ⟨rfl, _, rfl⟩ := hv
    obtain ⟨g', cap', hv', _, hgl, _, _, _, hH⟩ := Lib.holds_of_ownsRow (enc := Value.int .i64) h (by simp)
    simp only [Value.slice.injEq, Option.some.injEq, Addr.mk.injEq] at hv'
    obtain ⟨⟨rfl, _⟩, _, rfl⟩ := hv'
    have hc := Any.slices_Compact_int laysCompact g 0 c zs w hH (by omega) (by omega)
    rw [hl] at hc
    refine hc.mono ?_
    rintro e w' ⟨rfl, q, rfl⟩
    have ho := Lib.ownsRow_putRow (enc := Value.int .i64) (q := q) (k := (Lib.compact zs).length) (ys := Lib.compact zs ++ List.replicate (n - (Lib.compact zs).length) 0) h (by simp; omega) (by omega)
    rw [List.take_left] at ho
    exact ⟨rfl, ho, Lib.below_putRow (Below.refl base w) hbase⟩
end Go.Proofs.YtecimgkgdpnaeaaDoor

/-
  Slices of texts in memory, as lists. No program in sight.
-/
namespace Go.Proofs.YtecimgkgdpnaeaaDoor
open Go.RowKit
set_option linter.unusedVariables false

def tv (x : List UInt8) : Value := .string (S x)
/-- A slice at A reads as these numbers, below block B. -/
def TReads (w : World) (B : Nat) (A : Option Addr) (l : List (List UInt8)) : Prop :=
  0 < l.length → ∃ b off, A = some ⟨b, off, none⟩ ∧ b < B ∧ ∀ (j : Nat) (h : j < l.length), w.cell? ⟨b, off + j, none⟩ = some (.string (S l[j]))
theorem TReads.below {w w' : World} {B B' : Nat} {A : Option Addr} {l : List (List UInt8)} (h : TReads w B A l) (hb : Below B' w w') (hB : B ≤ B') : TReads w' B A l := fun hl => by
  obtain ⟨b, off, rfl, hbB, hc⟩ := h hl
  exact ⟨b, off, rfl, hbB, fun j hj => (hb.cell (p := ⟨b, _, none⟩) (by show b < B'; omega)).trans (hc j hj)⟩
theorem TReads.more {w : World} {B B' : Nat} {A : Option Addr} {l : List (List UInt8)} (h : TReads w B A l) (hB : B ≤ B') : TReads w B' A l := fun hl => by
  obtain ⟨b, off, rfl, hbB, hc⟩ := h hl
  exact ⟨b, off, rfl, by omega, hc⟩
theorem TReads.to {w w' : World} {A : Option Addr} {l : List (List UInt8)} (h : TReads w w.heap.size A l) (hb : Below w.heap.size w w') : TReads w' w'.heap.size A l := (h.below hb (Nat.le_refl _)).more hb.size
theorem TReads.of_own {w : World} {base : Nat} {e : TypeId} {A : Option Addr} {c : Nat} {l : List (List UInt8)} (h : w.ownsRow base e 1 (.slice A l.length c) l.length (l.map tv)) : TReads w w.heap.size A l := fun hl => by
  obtain ⟨g, cap, hv, _, hlt⟩ := h.form hl
  simp only [Value.slice.injEq] at hv
  obtain ⟨rfl, _, _⟩ := hv
  refine ⟨g, 0, rfl, hlt, fun j hj => ?_⟩
  have h1 := h.cellAt j (by omega)
  rw [List.getElem?_map, List.getElem?_eq_getElem hj] at h1
  rw [Nat.zero_add]
  exact h1
end Go.Proofs.YtecimgkgdpnaeaaDoor
