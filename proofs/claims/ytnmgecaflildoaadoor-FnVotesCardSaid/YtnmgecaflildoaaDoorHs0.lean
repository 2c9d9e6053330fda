/-
  Hash-based signatures, votes' signatures, identifiers: what the functions return. No program in sight.
-/
import Derived.Test.YtnmgecaflildoaaDoorTree0
import Derived.Test.YtnmgecaflildoaaDoorNum1
namespace Go.Proofs.YtnmgecaflildoaaDoor
set_option linter.unusedVariables false
set_option linter.unusedSimpArgs false

def linkS (c step : Int) (x : List UInt8) : List UInt8 := if inB c 0 10 && inB step 1 3 then shortS ([2, UInt8.ofNat c.toNat, UInt8.ofNat step.toNat] ++ x) else []
def secretS (seed : List UInt8) (leaf c : Int) : List UInt8 := if inB leaf 0 3 && inB c 0 10 then shortS ([3, UInt8.ofNat leaf.toNat, UInt8.ofNat c.toNat] ++ seed) else []
/-- So many links behind a step. -/
def linksN (c a : Int) (x : List UInt8) : Nat → List UInt8
  | 0 => x
  | k + 1 => linkS c (a + k + 1) (linksN c a x k)
theorem linkS_len (c step : Int) (x : List UInt8) : (linkS c step x).length ≤ 8 := by unfold linkS; split <;> simp
theorem secretS_len (seed : List UInt8) (leaf c : Int) : (secretS seed leaf c).length ≤ 8 := by unfold secretS; split <;> simp
theorem linksN_len (c a : Int) (x : List UInt8) (k : Nat) : (linksN c a x k).length ≤ 8 + x.length := by
  cases k with
  | zero => simp [linksN]
  | succ k => have := linkS_len c (a + k + 1) (linksN c a x k); rw [linksN]; omega
def pubAll (seed : List UInt8) (leaf : Int) : Nat → List UInt8
  | 0 => []
  | c + 1 => pubAll seed leaf c ++ linksN c 0 (secretS seed leaf c) 3
theorem pubAll_len (seed : List UInt8) (leaf : Int) (c : Nat) : (pubAll seed leaf c).length ≤ 16 * c := by
  induction c with
  | zero => simp [pubAll]
  | succ c ih =>
    have h1 := linksN_len c 0 (secretS seed leaf c) 3
    have h2 := secretS_len seed leaf c
    rw [pubAll, List.length_append]
    omega
def pubS (seed : List UInt8) (leaf : Int) : List UInt8 := if inB leaf 0 3 then shortS (pubAll seed leaf 11) else []
theorem pubS_len (seed : List UInt8) (leaf : Int) : (pubS seed leaf).length ≤ 8 := by unfold pubS; split <;> simp
def pubsS (seed : List UInt8) : List (List UInt8) := [pubS seed 0, pubS seed 1, pubS seed 2, pubS seed 3]
def hsRootS (seed : List UInt8) : List UInt8 := treeRootS (pubsS seed)
/-- Digit i of a message. -/
def digN (h : List UInt8) (i : Nat) : Nat := (h.getD (i / 4) 0).toNat / 2 ^ (6 - 2 * (i % 4)) % 4
def digs (h : List UInt8) : Nat → List Nat
  | 0 => []
  | i + 1 => digs h i ++ [digN h i]
def digSum (h : List UInt8) : Nat → Nat
  | 0 => 24
  | i + 1 => digSum h i - digN h i
theorem digN_lt (h : List UInt8) (i : Nat) : digN h i ≤ 3 := by unfold digN; omega
theorem digs_len (h : List UInt8) (i : Nat) : (digs h i).length = i := by
  induction i with
  | zero => rfl
  | succ i ih => simp [digs, ih]
theorem digSum_bound (h : List UInt8) (i : Nat) (hi : i ≤ 8) : 24 - 3 * i ≤ digSum h i ∧ digSum h i ≤ 24 := by
  induction i with
  | zero => simp [digSum]
  | succ i ih => have := digN_lt h i; have := ih (by omega); rw [digSum]; omega
def digitsS (msg : List UInt8) : List Nat := digs (shaS msg) 8 ++ [digSum (shaS msg) 8 / 16, digSum (shaS msg) 8 / 4 % 4, digSum (shaS msg) 8 % 4]
theorem digitsS_len (msg : List UInt8) : (digitsS msg).length = 11 := by simp [digitsS, digs_len]
theorem digs_le (h : List UInt8) (i : Nat) : ∀ d ∈ digs h i, d ≤ 3 := by
  induction i with
  | zero => simp [digs]
  | succ i ih =>
    intro d hd
    rcases List.mem_append.1 hd with hd | hd
    · exact ih d hd
    · rw [List.mem_singleton.1 hd]; exact digN_lt h i
theorem digitsS_le (msg : List UInt8) : ∀ d ∈ digitsS msg, d ≤ 3 := by
  intro d hd
  have := digSum_bound (shaS msg) 8 (by omega)
  rcases List.mem_append.1 hd with hd | hd
  · exact digs_le _ _ d hd
  · simp at hd; omega
def signAll (seed : List UInt8) (leaf : Int) (ds : List Nat) : Nat → List UInt8
  | 0 => []
  | c + 1 => signAll seed leaf ds c ++ linksN c 0 (secretS seed leaf c) (ds.getD c 0)
theorem signAll_len (seed : List UInt8) (leaf : Int) (ds : List Nat) (c : Nat) : (signAll seed leaf ds c).length ≤ 16 * c := by
  induction c with
  | zero => simp [signAll]
  | succ c ih =>
    have h1 := linksN_len c 0 (secretS seed leaf c) (ds.getD c 0)
    have h2 := secretS_len seed leaf c
    rw [signAll, List.length_append]
    omega
def hsSignS (seed : List UInt8) (leaf : Int) (msg : List UInt8) : List UInt8 :=
  if inB leaf 0 3 then signAll seed leaf (digitsS msg) 11 ++ [UInt8.ofNat leaf.toNat] ++ (treePathS (pubsS seed) leaf).flatten else []
def checkAll (sig : List UInt8) (ds : List Nat) : Nat → List UInt8
  | 0 => []
  | c + 1 => checkAll sig ds c ++ linksN c (ds.getD c 0) ((sig.drop (8 * c)).take 8) (3 - ds.getD c 0)
theorem checkAll_len (sig : List UInt8) (ds : List Nat) (c : Nat) : (checkAll sig ds c).length ≤ 16 * c := by
  induction c with
  | zero => simp [checkAll]
  | succ c ih =>
    have h1 := linksN_len c (ds.getD c 0) ((sig.drop (8 * c)).take 8) (3 - ds.getD c 0)
    have h2 : ((sig.drop (8 * c)).take 8).length ≤ 8 := by simp; omega
    rw [checkAll, List.length_append]
    omega
def hsCheckB (root msg sig : List UInt8) : Bool :=
  if sig.length = 153 ∧ (sig.getD 88 0).toNat < 4 then includesS root (shortS (checkAll sig (digitsS msg) 11)) ((sig.getD 88 0).toNat : Int) 4 [(sig.drop 89).take 32, sig.drop 121] else false
def signAsS (val : Int) (d : List UInt8) : List UInt8 := if inB val 1 99 then shortS (4 :: (fixedS val 2 ++ d)) else []
theorem signAsS_len (val : Int) (d : List UInt8) : (signAsS val d).length ≤ 8 := by unfold signAsS; split <;> simp
end Go.Proofs.YtnmgecaflildoaaDoor
