/-
  Texts of this proof, laid into one: Hs0, Sho1, Id1, Id2.
-/
import Derived.Test.YtecimgkgdpnaeaaDoorGFnExactCommitOk16
import Derived.Test.YtecimgkgdpnaeaaDoorGFnExactCommitOk2
import Derived.Test.YtecimgkgdpnaeaaDoorGFnExactCommitOk15
import Derived.Test.YtecimgkgdpnaeaaDoorGFnExactCommitOk11
import Derived.Test.YtecimgkgdpnaeaaDoorGFnExactCommitOk12
/-
  Hash-based signatures, votes' signatures, identifiers: what the functions return. No program in sight.
-/
namespace Go.Proofs.YtecimgkgdpnaeaaDoor
set_option linter.unusedVariables false
set_option linter.unusedSimpArgs false

def linkS (c step : Int) (x : List UInt8) : List UInt8 := if inB c 0 10 && inB step 1 3 then shortS ([2, UInt8.ofNat c.toNat, UInt8.ofNat step.toNat] ++ x) else []
def secretS (seed : List UInt8) (leaf c : Int) : List UInt8 := if inB leaf 0 3 && inB c 0 10 then shortS ([3, UInt8.ofNat leaf.toNat, UInt8.ofNat c.toNat] ++ seed) else []
/-- So many links behind a step. -/
def linksN (c a : Int) (x : List UInt8) : Nat → List UInt8
  | 0 => x
  | k + 1 => linkS c (a + k + 1) (linksN c a x k)
theorem linkS_len (c step : Int) (x : List UInt8) : (linkS c step x).length ≤ 8 := by unfold linkS; split <;> simp
theorem secretS_len (seed : List UInt8) (leaf c : Int) : (secretS seed leaf c).length ≤ 8 := by unfold secretS; split <;> simp
theorem linksN_len (c a : Int) (x : List UInt8) (k : Nat) : (linksN c a x k).length ≤ 8 + x.length := by
  cases k with
  | zero => simp [linksN]
  | succ k => have := linkS_len c (a + k + 1) (linksN c a x k); rw [linksN]; omega
def pubAll (seed : List UInt8) (leaf : Int) : Nat → List UInt8
  | 0 => []
  | c + 1 => pubAll seed leaf c ++ linksN c 0 (secretS seed leaf c) 3
theorem pubAll_len (seed : List UInt8) (leaf : Int) (c : Nat) : (pubAll seed leaf c).length ≤ 16 * c := by
  induction c with
  | zero => simp [pubAll]
  | succ c ih =>
    have h1 := linksN_len c 0 (secretS seed leaf c) 3
    have h2 := secretS_len seed leaf c
    rw [pubAll, List.length_append]
    omega
def pubS (seed : List UInt8) (leaf : Int) : List UInt8 := if inB leaf 0 3 then shortS (pubAll seed leaf 11) else []
theorem pubS_len (seed : List UInt8) (leaf : Int) : (pubS seed leaf).length ≤ 8 := by unfold pubS; split <;> simp
def pubsS (seed : List UInt8) : List (List UInt8) := [pubS seed 0, pubS seed 1, pubS seed 2, pubS seed 3]
def hsRootS (seed : List UInt8) : List UInt8 := treeRootS (pubsS seed)
/-- Digit i of a message. -/
def digN (h : List UInt8) (i : Nat) : Nat := (h.getD (i / 4) 0).toNat / 2 ^ (6 - 2 * (i % 4)) % 4
def digs (h : List UInt8) : Nat → List Nat
  | 0 => []
  | i + 1 => digs h i ++ [digN h i]
def digSum (h : List UInt8) : Nat → Nat
  | 0 => 24
  | i + 1 => digSum h i - digN h i
theorem digN_lt (h : List UInt8) (i : Nat) : digN h i ≤ 3 := by unfold digN; omega
theorem digs_len (h : List UInt8) (i : Nat) : (digs h i).length = i := by
  induction i with
  | zero => rfl
  | succ i ih => simp [digs, ih]
theorem digSum_bound (h : List UInt8) (i : Nat) (hi : i ≤ 8) : 24 - 3 * i ≤ digSum h i ∧ digSum h i ≤ 24 := by
  induction i with
  | zero => simp [digSum]
  | succ i ih => have := digN_lt h i; have := ih (by omega); rw [digSum]; omega
def digitsS (msg : List UInt8) : List Nat := digs (shaS msg) 8 ++ [digSum (shaS msg) 8 / 16, digSum (shaS msg) 8 / 4 % 4, digSum (shaS msg) 8 % 4]
theorem digitsS_len (msg : List UInt8) : (digitsS msg).length = 11 := by simp [digitsS, digs_len]
theorem digs_le (h : List UInt8) (i : Nat) : ∀ d ∈ digs h i, d ≤ 3 := by
  induction i with
  | zero => simp [digs]
  | succ i ih =>
    intro d hd
    rcases List.mem_append.1 hd with hd | hd
    · exact ih d hd
    · rw [List.mem_singleton.1 hd]; exact digN_lt h i
theorem digitsS_le (msg : List UInt8) : ∀ d ∈ digitsS msg, d ≤ 3 := by
  intro d hd
  have := digSum_bound (shaS msg) 8 (by omega)
  rcases List.mem_append.1 hd with hd | hd
  · exact digs_le _ _ d hd
  · simp at hd; omega
def signAll (seed : List UInt8) (leaf : Int) (ds : List Nat) : Nat → List UInt8
  | 0 => []
  | c + 1 => signAll seed leaf ds c ++ linksN c 0 (secretS seed leaf c) (ds.getD c 0)
theorem signAll_len (seed : List UInt8) (leaf : Int) (ds : List Nat) (c : Nat) : (signAll seed leaf ds c).length ≤ 16 * c := by
  induction c with
  | zero => simp [signAll]
  | succ c ih =>
    have h1 := linksN_len c 0 (secretS seed leaf c) (ds.getD c 0)
    have h2 := secretS_len seed leaf c
    rw [signAll, List.length_append]
    omega
def hsSignS (seed : List UInt8) (leaf : Int) (msg : List UInt8) : List UInt8 :=
  if inB leaf 0 3 then signAll seed leaf (digitsS msg) 11 ++ [UInt8.ofNat leaf.toNat] ++ (treePathS (pubsS seed) leaf).flatten else []
def checkAll (sig : List UInt8) (ds : List Nat) : Nat → List UInt8
  | 0 => []
  | c + 1 => checkAll sig ds c ++ linksN c (ds.getD c 0) ((sig.drop (8 * c)).take 8) (3 - ds.getD c 0)
theorem checkAll_len (sig : List UInt8) (ds : List Nat) (c : Nat) : (checkAll sig ds c).length ≤ 16 * c := by
  induction c with
  | zero => simp [checkAll]
  | succ c ih =>
    have h1 := linksN_len c (ds.getD c 0) ((sig.drop (8 * c)).take 8) (3 - ds.getD c 0)
    have h2 : ((sig.drop (8 * c)).take 8).length ≤ 8 := by simp; omega
    rw [checkAll, List.length_append]
    omega
def hsCheckB (root msg sig : List UInt8) : Bool :=
  if sig.length = 153 ∧ (sig.getD 88 0).toNat < 4 then includesS root (shortS (checkAll sig (digitsS msg) 11)) ((sig.getD 88 0).toNat : Int) 4 [(sig.drop 89).take 32, sig.drop 121] else false
def signAsS (val : Int) (d : List UInt8) : List UInt8 := if inB val 1 99 then shortS (4 :: (fixedS val 2 ++ d)) else []
theorem signAsS_len (val : Int) (d : List UInt8) : (signAsS val d).length ≤ 8 := by unfold signAsS; split <;> simp
end Go.Proofs.YtecimgkgdpnaeaaDoor

/-
  Short: both sides.
-/
namespace Go.Proofs.YtecimgkgdpnaeaaDoor
open Go.ChangeShapes Go.WideShapes Go.ChangeAt Go.RowKit
set_option linter.unusedVariables false
set_option linter.unusedSimpArgs false
set_option maxRecDepth 100000

theorem S_cons1 (c : UInt8) (l : List UInt8) : ByteArray.mk #[c] ++ S l = S (c :: l) := by rw [show ByteArray.mk #[c] = S [c] from rfl, S_append]; rfl
theorem take8 (l : List UInt8) (h : l.length = 32) : (S l).extract 0 8 = S (l.take 8) := by rw [S_take]; simp
theorem sShort_any (l : List UInt8) (w : World) (hl : l.length ≤ 4194304) :
    Calls Tryd.prog 64 #[.string (S l)] w fun e w' => e = .returned (.string (S (shortS l))) ∧ Below w.heap.size w w' := by
  have hb := Below.refl w.heap.size w
  have HV := Lib.hid (sSha_any l w hl)
  have hE := take8 (shaS l) (shaS_len l)
  have hn := shaS_len l
  go_enter Tryd.func64, Tryd.ntmps64
  go_wp2_with (go_at_call 93; refine (HV.out).mono ?_; rintro e wn ⟨rfl, hbn⟩; have hb := Below.next (w := w) (by repeat (first | with_reducible exact hb | with_reducible exact Below.refl _ _ | refine Below.drew ?_ | refine Below.setCell ?_ (by simp <;> omega) _ | refine Below.alloc ?_ (by simp <;> omega) _)) hbn; clear hbn)
  go_ret
  exact ⟨rfl, hb⟩
theorem iShort_any (l : List UInt8) (w : World) (hl : l.length ≤ 4194304) (hK : HasK w) :
    Calls Tryd.prog 63 #[.string (S l)] w fun e w' => e = .returned (.string (S (shortS l))) ∧ Below w.heap.size w w' := by
  have hb := Below.refl w.heap.size w
  have HV := Lib.hid (iSha_any l w hl hK)
  have hE := take8 (shaS l) (shaS_len l)
  have hn := shaS_len l
  clear hK
  go_enter Tryd.func63, Tryd.ntmps63
  go_wp2_with (go_at_call 92; refine (HV.out).mono ?_; rintro e wn ⟨rfl, hbn⟩; have hb := Below.next (w := w) (by repeat (first | with_reducible exact hb | with_reducible exact Below.refl _ _ | refine Below.drew ?_ | refine Below.setCell ?_ (by simp <;> omega) _ | refine Below.alloc ?_ (by simp <;> omega) _)) hbn; clear hbn)
  go_ret
  exact ⟨rfl, hb⟩
end Go.Proofs.YtecimgkgdpnaeaaDoor

/-
  HeadId, both sides.
-/
namespace Go.Proofs.YtecimgkgdpnaeaaDoor
open Go.ChangeShapes Go.WideShapes Go.ChangeAt Go.RowKit
set_option linter.unusedVariables false
set_option linter.unusedSimpArgs false
set_option maxRecDepth 100000

/-- What HeadId returns. -/
def headIdS (x : HeadT) : List UInt8 := if headOkB x then shortS (showHeadS x) else []
theorem showHeadS_len (x : HeadT) : (showHeadS x).length ≤ 200 := by
  unfold showHeadS
  cases hok : headOkB x
  · simp
  · obtain ⟨l1, l2, l3, l4⟩ := headOk_len hok
    have q1 := varS_len x.h
    have q2 := varS_len x.t
    have q3 := sizedS_len x.last
    have q4 := sizedS_len x.vals
    have q5 := sizedS_len x.next
    have q6 := sizedS_len x.data
    simp only [if_true, List.length_append]
    omega
theorem iHeadId_any (x : HeadT) (w : World) (h1 : x.last.length ≤ 9223372036854775807) (h2 : x.vals.length ≤ 9223372036854775807) (h3 : x.next.length ≤ 9223372036854775807) (h4 : x.data.length ≤ 9223372036854775807) (hK : HasK w) :
    Calls Tryd.prog 20 #[x.val] w fun e w' => e = .returned (.string (S (headIdS x))) ∧ Below w.heap.size w w' := by
  have HK := Lib.hid hK
  have HSH := Lib.hid fun (W : World) (h : HasK W) => iShort_any (showHeadS x) W (by have := showHeadS_len x; omega) h
  have hb := Below.refl w.heap.size w
  cases hok : headOkB x
  · have HV : Hid (headIdS x = []) := by unfold Hid headIdS; rw [hok]; rfl
    obtain ⟨h, t, last, vals, next, data⟩ := x
    have hv : HeadT.val ⟨h, t, last, vals, next, data⟩ = .agg #[.int .i64 h, .int .i64 t, .string (S last), .string (S vals), .string (S next), .string (S data)] := rfl
    rw [hv]
    simp only at h1 h2 h3 h4 HV
    clear hK
    go_enter Tryd.func20, Tryd.ntmps20
    go_wp2_with (go_at_call 45; refine (iHeaderOk_any ⟨h, t, last, vals, next, data⟩ _ h1 h2 h3 h4).mono ?_; rintro e wn ⟨rfl, hbn⟩; have hb := Below.next (w := w) (by repeat (first | with_reducible exact hb | with_reducible exact Below.refl _ _ | refine Below.drew ?_ | refine Below.setCell ?_ (by simp <;> omega) _ | refine Below.alloc ?_ (by simp <;> omega) _)) hbn; obtain ⟨hc, hf⟩ := bcell hbn; have hz := hbn.size; (try simp at hz); (try have hz1 : w.heap.size < wn.heap.size := (by omega)); (try have hz2 : w.heap.size + 1 < wn.heap.size := (by omega)); (try have hz3 : w.heap.size + 1 + 1 < wn.heap.size := (by omega)); clear hbn)
    go_ret
    exact ⟨ret_string (by rw [HV.out]; rfl), hb⟩
  · have HV : Hid (headIdS x = shortS (showHeadS x)) := by unfold Hid headIdS; rw [hok]; rfl
    obtain ⟨h, t, last, vals, next, data⟩ := x
    have hv : HeadT.val ⟨h, t, last, vals, next, data⟩ = .agg #[.int .i64 h, .int .i64 t, .string (S last), .string (S vals), .string (S next), .string (S data)] := rfl
    rw [hv]
    simp only at h1 h2 h3 h4 HV
    clear hK
    go_enter Tryd.func20, Tryd.ntmps20
    go_wp2_with (first | (go_at_call 45; refine (iHeaderOk_any ⟨h, t, last, vals, next, data⟩ _ h1 h2 h3 h4).mono ?_; rintro e wn ⟨rfl, hbn⟩; have hb := Below.next (w := w) (by repeat (first | with_reducible exact hb | with_reducible exact Below.refl _ _ | refine Below.drew ?_ | refine Below.setCell ?_ (by simp <;> omega) _ | refine Below.alloc ?_ (by simp <;> omega) _)) hbn; obtain ⟨hc, hf⟩ := bcell hbn; have hz := hbn.size; (try simp at hz); (try have hz1 : w.heap.size < wn.heap.size := (by omega)); (try have hz2 : w.heap.size + 1 < wn.heap.size := (by omega)); (try have hz3 : w.heap.size + 1 + 1 < wn.heap.size := (by omega)); clear hbn) | (go_at_call 10; refine (iShowHeader_any ⟨h, t, last, vals, next, data⟩ _ h1 h2 h3 h4).mono ?_; rintro e wn ⟨rfl, hbn⟩; have hb := Below.next (w := w) (by repeat (first | with_reducible exact hb | with_reducible exact Below.refl _ _ | refine Below.drew ?_ | refine Below.setCell ?_ (by simp <;> omega) _ | refine Below.alloc ?_ (by simp <;> omega) _)) hbn; obtain ⟨hc, hf⟩ := bcell hbn; have hz := hbn.size; (try simp at hz); (try have hz1 : w.heap.size < wn.heap.size := (by omega)); (try have hz2 : w.heap.size + 1 < wn.heap.size := (by omega)); (try have hz3 : w.heap.size + 1 + 1 < wn.heap.size := (by omega)); clear hbn) | (go_at_call 63; refine (HSH.out _ (HK.out.to hb)).mono ?_; rintro e wn ⟨rfl, hbn⟩; have hb := Below.next (w := w) (by repeat (first | with_reducible exact hb | with_reducible exact Below.refl _ _ | refine Below.drew ?_ | refine Below.setCell ?_ (by simp <;> omega) _ | refine Below.alloc ?_ (by simp <;> omega) _)) hbn; clear hbn))
    go_ret
    exact ⟨ret_string (by rw [HV.out]), hb⟩
theorem sHeadId_any (x : HeadT) (w : World) (h1 : x.last.length ≤ 9223372036854775807) (h2 : x.vals.length ≤ 9223372036854775807) (h3 : x.next.length ≤ 9223372036854775807) (h4 : x.data.length ≤ 9223372036854775807) :
    Calls Tryd.prog 21 #[x.val] w fun e w' => e = .returned (.string (S (headIdS x))) ∧ Below w.heap.size w w' := by
  have HSH := Lib.hid fun (W : World) => sShort_any (showHeadS x) W (by have := showHeadS_len x; omega)
  have hb := Below.refl w.heap.size w
  cases hok : headOkB x
  · have HV : Hid (headIdS x = []) := by unfold Hid headIdS; rw [hok]; rfl
    obtain ⟨h, t, last, vals, next, data⟩ := x
    have hv : HeadT.val ⟨h, t, last, vals, next, data⟩ = .agg #[.int .i64 h, .int .i64 t, .string (S last), .string (S vals), .string (S next), .string (S data)] := rfl
    rw [hv]
    simp only at h1 h2 h3 h4 HV
    go_enter Tryd.func21, Tryd.ntmps21
    go_wp2_with (go_at_call 18; refine (sHeaderOk_any ⟨h, t, last, vals, next, data⟩ _ h1 h2 h3 h4).mono ?_; rintro e wn ⟨rfl, hbn⟩; have hb := Below.next (w := w) (by repeat (first | with_reducible exact hb | with_reducible exact Below.refl _ _ | refine Below.drew ?_ | refine Below.setCell ?_ (by simp <;> omega) _ | refine Below.alloc ?_ (by simp <;> omega) _)) hbn; obtain ⟨hc, hf⟩ := bcell hbn; have hz := hbn.size; (try simp at hz); (try have hz1 : w.heap.size < wn.heap.size := (by omega)); (try have hz2 : w.heap.size + 1 < wn.heap.size := (by omega)); (try have hz3 : w.heap.size + 1 + 1 < wn.heap.size := (by omega)); clear hbn)
    go_ret
    exact ⟨ret_string (by rw [HV.out]; rfl), hb⟩
  · have HV : Hid (headIdS x = shortS (showHeadS x)) := by unfold Hid headIdS; rw [hok]; rfl
    obtain ⟨h, t, last, vals, next, data⟩ := x
    have hv : HeadT.val ⟨h, t, last, vals, next, data⟩ = .agg #[.int .i64 h, .int .i64 t, .string (S last), .string (S vals), .string (S next), .string (S data)] := rfl
    rw [hv]
    simp only at h1 h2 h3 h4 HV
    go_enter Tryd.func21, Tryd.ntmps21
    go_wp2_with (first | (go_at_call 18; refine (sHeaderOk_any ⟨h, t, last, vals, next, data⟩ _ h1 h2 h3 h4).mono ?_; rintro e wn ⟨rfl, hbn⟩; have hb := Below.next (w := w) (by repeat (first | with_reducible exact hb | with_reducible exact Below.refl _ _ | refine Below.drew ?_ | refine Below.setCell ?_ (by simp <;> omega) _ | refine Below.alloc ?_ (by simp <;> omega) _)) hbn; obtain ⟨hc, hf⟩ := bcell hbn; have hz := hbn.size; (try simp at hz); (try have hz1 : w.heap.size < wn.heap.size := (by omega)); (try have hz2 : w.heap.size + 1 < wn.heap.size := (by omega)); (try have hz3 : w.heap.size + 1 + 1 < wn.heap.size := (by omega)); clear hbn) | (go_at_call 48; refine (sShowHeader_any ⟨h, t, last, vals, next, data⟩ _ h1 h2 h3 h4).mono ?_; rintro e wn ⟨rfl, hbn⟩; have hb := Below.next (w := w) (by repeat (first | with_reducible exact hb | with_reducible exact Below.refl _ _ | refine Below.drew ?_ | refine Below.setCell ?_ (by simp <;> omega) _ | refine Below.alloc ?_ (by simp <;> omega) _)) hbn; obtain ⟨hc, hf⟩ := bcell hbn; have hz := hbn.size; (try simp at hz); (try have hz1 : w.heap.size < wn.heap.size := (by omega)); (try have hz2 : w.heap.size + 1 < wn.heap.size := (by omega)); (try have hz3 : w.heap.size + 1 + 1 < wn.heap.size := (by omega)); clear hbn) | (go_at_call 64; refine (HSH.out _).mono ?_; rintro e wn ⟨rfl, hbn⟩; have hb := Below.next (w := w) (by repeat (first | with_reducible exact hb | with_reducible exact Below.refl _ _ | refine Below.drew ?_ | refine Below.setCell ?_ (by simp <;> omega) _ | refine Below.alloc ?_ (by simp <;> omega) _)) hbn; clear hbn))
    go_ret
    exact ⟨ret_string (by rw [HV.out]), hb⟩
end Go.Proofs.YtecimgkgdpnaeaaDoor

/-
  ValsHash, both sides.
-/
namespace Go.Proofs.YtecimgkgdpnaeaaDoor
open Go.ChangeShapes Go.WideShapes Go.ChangeAt Go.RowKit
set_option linter.unusedVariables false
set_option linter.unusedSimpArgs false
set_option maxRecDepth 100000

/-- What ValsHash returns. -/
def valsHashS (l : List ValT) : List UInt8 := if valsOkB l then shortS (showValsS l) else []
theorem showValsS_len (l : List ValT) : (showValsS l).length ≤ 200 := by
  unfold showValsS
  cases hok : valsOkB l
  · simp
  · have h1 : l.length ≤ 7 := by
      unfold valsOkB at hok
      simp only [Bool.and_eq_true] at hok
      have := inB_true hok.1
      omega
    have h2 := showVal_len l
    have h3 := varS_len (l.length : Int)
    simp only [if_true, List.length_append]
    omega
theorem iValsHash_any (A : Option Addr) (c : Nat) (l : List ValT) (w : World) (hl : l.length ≤ 4194304) (hR : VReads w w.heap.size A l) (hK : HasK w) :
    Calls Tryd.prog 74 #[.slice A l.length c] w fun e w' => e = .returned (.string (S (valsHashS l))) ∧ Below w.heap.size w w' := by
  have HK := Lib.hid hK
  have HR := Lib.hid hR
  have HSH := Lib.hid fun (W : World) (h : HasK W) => iShort_any (showValsS l) W (by have := showValsS_len l; omega) h
  clear hR hK
  have hb := Below.refl w.heap.size w
  cases hok : valsOkB l
  · have HV : Hid (valsHashS l = []) := by unfold Hid valsHashS; rw [hok]; rfl
    go_enter Tryd.func74, Tryd.ntmps74
    go_wp2_with (go_at_call 73; refine (iValsOk_any _ _ _ _ hl HR.out).mono ?_; rintro e wn ⟨rfl, hbn⟩; have hb := Below.next (w := w) (by repeat (first | with_reducible exact hb | with_reducible exact Below.refl _ _ | refine Below.drew ?_ | refine Below.setCell ?_ (by simp <;> omega) _ | refine Below.alloc ?_ (by simp <;> omega) _)) hbn; clear hbn)
    go_ret
    exact ⟨ret_string (by rw [HV.out]; rfl), hb⟩
  · have HV : Hid (valsHashS l = shortS (showValsS l)) := by unfold Hid valsHashS; rw [hok]; rfl
    go_enter Tryd.func74, Tryd.ntmps74
    go_wp2_with (first | (go_at_call 73; refine (iValsOk_any _ _ _ _ hl HR.out).mono ?_; rintro e wn ⟨rfl, hbn⟩; have hb := Below.next (w := w) (by repeat (first | with_reducible exact hb | with_reducible exact Below.refl _ _ | refine Below.drew ?_ | refine Below.setCell ?_ (by simp <;> omega) _ | refine Below.alloc ?_ (by simp <;> omega) _)) hbn; clear hbn) | (go_at_call 105; refine (iShowVals_any _ _ _ _ hl (HR.out.to hb)).mono ?_; rintro e wn ⟨rfl, hbn⟩; have hb := Below.next (w := w) (by repeat (first | with_reducible exact hb | with_reducible exact Below.refl _ _ | refine Below.drew ?_ | refine Below.setCell ?_ (by simp <;> omega) _ | refine Below.alloc ?_ (by simp <;> omega) _)) hbn; clear hbn) | (go_at_call 63; refine (HSH.out _ (HK.out.to hb)).mono ?_; rintro e wn ⟨rfl, hbn⟩; have hb := Below.next (w := w) (by repeat (first | with_reducible exact hb | with_reducible exact Below.refl _ _ | refine Below.drew ?_ | refine Below.setCell ?_ (by simp <;> omega) _ | refine Below.alloc ?_ (by simp <;> omega) _)) hbn; clear hbn))
    go_ret
    exact ⟨ret_string (by rw [HV.out]), hb⟩
theorem sValsHash_any (A : Option Addr) (c : Nat) (l : List ValT) (w : World) (hl : l.length ≤ 4194304) (hR : VReads w w.heap.size A l) :
    Calls Tryd.prog 77 #[.slice A l.length c] w fun e w' => e = .returned (.string (S (valsHashS l))) ∧ Below w.heap.size w w' := by
  have HR := Lib.hid hR
  have HSH := Lib.hid fun (W : World) => sShort_any (showValsS l) W (by have := showValsS_len l; omega)
  clear hR
  have hb := Below.refl w.heap.size w
  cases hok : valsOkB l
  · have HV : Hid (valsHashS l = []) := by unfold Hid valsHashS; rw [hok]; rfl
    go_enter Tryd.func77, Tryd.ntmps77
    go_wp2_with (go_at_call 76; refine (sValsOk_any _ _ _ _ hl HR.out).mono ?_; rintro e wn ⟨rfl, hbn⟩; have hb := Below.next (w := w) (by repeat (first | with_reducible exact hb | with_reducible exact Below.refl _ _ | refine Below.drew ?_ | refine Below.setCell ?_ (by simp <;> omega) _ | refine Below.alloc ?_ (by simp <;> omega) _)) hbn; clear hbn)
    go_ret
    exact ⟨ret_string (by rw [HV.out]; rfl), hb⟩
  · have HV : Hid (valsHashS l = shortS (showValsS l)) := by unfold Hid valsHashS; rw [hok]; rfl
    go_enter Tryd.func77, Tryd.ntmps77
    go_wp2_with (first | (go_at_call 76; refine (sValsOk_any _ _ _ _ hl HR.out).mono ?_; rintro e wn ⟨rfl, hbn⟩; have hb := Below.next (w := w) (by repeat (first | with_reducible exact hb | with_reducible exact Below.refl _ _ | refine Below.drew ?_ | refine Below.setCell ?_ (by simp <;> omega) _ | refine Below.alloc ?_ (by simp <;> omega) _)) hbn; clear hbn) | (go_at_call 110; refine (sShowVals_any _ _ _ _ hl (HR.out.to hb)).mono ?_; rintro e wn ⟨rfl, hbn⟩; have hb := Below.next (w := w) (by repeat (first | with_reducible exact hb | with_reducible exact Below.refl _ _ | refine Below.drew ?_ | refine Below.setCell ?_ (by simp <;> omega) _ | refine Below.alloc ?_ (by simp <;> omega) _)) hbn; clear hbn) | (go_at_call 64; refine (HSH.out _).mono ?_; rintro e wn ⟨rfl, hbn⟩; have hb := Below.next (w := w) (by repeat (first | with_reducible exact hb | with_reducible exact Below.refl _ _ | refine Below.drew ?_ | refine Below.setCell ?_ (by simp <;> omega) _ | refine Below.alloc ?_ (by simp <;> omega) _)) hbn; clear hbn))
    go_ret
    exact ⟨ret_string (by rw [HV.out]), hb⟩
end Go.Proofs.YtecimgkgdpnaeaaDoor
