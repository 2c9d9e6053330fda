/-
  Texts of this proof, laid into one: Hs0, Sho1, DrH, Id1.
-/
import Derived.Test.YtecimgkgdpnaeaaDoorGFnCommit18
import Derived.Test.YtecimgkgdpnaeaaDoorGFnCommit2
import Derived.Test.YtecimgkgdpnaeaaDoorGFnCommit17
import Derived.Deep.RegionHeld3
import Derived.Deep.RegionWith
import Derived.Test.YtecimgkgdpnaeaaDoorGFnCommit4
import Derived.Test.YtecimgkgdpnaeaaDoorGFnCommit5
import Derived.Test.YtecimgkgdpnaeaaDoorGFnCommit13
/-
  Hash-based signatures, votes' signatures, identifiers: what the functions return. No program in sight.
-/
namespace Go.Proofs.YtecimgkgdpnaeaaDoor
set_option linter.unusedVariables false
set_option linter.unusedSimpArgs false

def linkS (c step : Int) (x : List UInt8) : List UInt8 := if inB c 0 10 && inB step 1 3 then shortS ([2, UInt8.ofNat c.toNat, UInt8.ofNat step.toNat] ++ x) else []
def secretS (seed : List UInt8) (leaf c : Int) : List UInt8 := if inB leaf 0 3 && inB c 0 10 then shortS ([3, UInt8.ofNat leaf.toNat, UInt8.ofNat c.toNat] ++ seed) else []
/-- So many links behind a step. -/
def linksN (c a : Int) (x : List UInt8) : Nat → List UInt8
  | 0 => x
  | k + 1 => linkS c (a + k + 1) (linksN c a x k)
theorem linkS_len (c step : Int) (x : List UInt8) : (linkS c step x).length ≤ 8 := by unfold linkS; split <;> simp
theorem secretS_len (seed : List UInt8) (leaf c : Int) : (secretS seed leaf c).length ≤ 8 := by unfold secretS; split <;> simp
theorem linksN_len (c a : Int) (x : List UInt8) (k : Nat) : (linksN c a x k).length ≤ 8 + x.length := by
  cases k with
  | zero => simp [linksN]
  | succ k => have := linkS_len c (a + k + 1) (linksN c a x k); rw [linksN]; omega
def pubAll (seed : List UInt8) (leaf : Int) : Nat → List UInt8
  | 0 => []
  | c + 1 => pubAll seed leaf c ++ linksN c 0 (secretS seed leaf c) 3
theorem pubAll_len (seed : List UInt8) (leaf : Int) (c : Nat) : (pubAll seed leaf c).length ≤ 16 * c := by
  induction c with
  | zero => simp [pubAll]
  | succ c ih =>
    have h1 := linksN_len c 0 (secretS seed leaf c) 3
    have h2 := secretS_len seed leaf c
    rw [pubAll, List.length_append]
    omega
def pubS (seed : List UInt8) (leaf : Int) : List UInt8 := if inB leaf 0 3 then shortS (pubAll seed leaf 11) else []
theorem pubS_len (seed : List UInt8) (leaf : Int) : (pubS seed leaf).length ≤ 8 := by unfold pubS; split <;> simp
def pubsS (seed : List UInt8) : List (List UInt8) := [pubS seed 0, pubS seed 1, pubS seed 2, pubS seed 3]
def hsRootS (seed : List UInt8) : List UInt8 := treeRootS (pubsS seed)
/-- Digit i of a message. -/
def digN (h : List UInt8) (i : Nat) : Nat := (h.getD (i / 4) 0).toNat / 2 ^ (6 - 2 * (i % 4)) % 4
def digs (h : List UInt8) : Nat → List Nat
  | 0 => []
  | i + 1 => digs h i ++ [digN h i]
def digSum (h : List UInt8) : Nat → Nat
  | 0 => 24
  | i + 1 => digSum h i - digN h i
theorem digN_lt (h : List UInt8) (i : Nat) : digN h i ≤ 3 := by unfold digN; omega
theorem digs_len (h : List UInt8) (i : Nat) : (digs h i).length = i := by
  induction i with
  | zero => rfl
  | succ i ih => simp [digs, ih]
theorem digSum_bound (h : List UInt8) (i : Nat) (hi : i ≤ 8) : 24 - 3 * i ≤ digSum h i ∧ digSum h i ≤ 24 := by
  induction i with
  | zero => simp [digSum]
  | succ i ih => have := digN_lt h i; have := ih (by omega); rw [digSum]; omega
def digitsS (msg : List UInt8) : List Nat := digs (shaS msg) 8 ++ [digSum (shaS msg) 8 / 16, digSum (shaS msg) 8 / 4 % 4, digSum (shaS msg) 8 % 4]
theorem digitsS_len (msg : List UInt8) : (digitsS msg).length = 11 := by simp [digitsS, digs_len]
theorem digs_le (h : List UInt8) (i : Nat) : ∀ d ∈ digs h i, d ≤ 3 := by
  induction i with
  | zero => simp [digs]
  | succ i ih =>
    intro d hd
    rcases List.mem_append.1 hd with hd | hd
    · exact ih d hd
    · rw [List.mem_singleton.1 hd]; exact digN_lt h i
theorem digitsS_le (msg : List UInt8) : ∀ d ∈ digitsS msg, d ≤ 3 := by
  intro d hd
  have := digSum_bound (shaS msg) 8 (by omega)
  rcases List.mem_append.1 hd with hd | hd
  · exact digs_le _ _ d hd
  · simp at hd; omega
def signAll (seed : List UInt8) (leaf : Int) (ds : List Nat) : Nat → List UInt8
  | 0 => []
  | c + 1 => signAll seed leaf ds c ++ linksN c 0 (secretS seed leaf c) (ds.getD c 0)
theorem signAll_len (seed : List UInt8) (leaf : Int) (ds : List Nat) (c : Nat) : (signAll seed leaf ds c).length ≤ 16 * c := by
  induction c with
  | zero => simp [signAll]
  | succ c ih =>
    have h1 := linksN_len c 0 (secretS seed leaf c) (ds.getD c 0)
    have h2 := secretS_len seed leaf c
    rw [signAll, List.length_append]
    omega
def hsSignS (seed : List UInt8) (leaf : Int) (msg : List UInt8) : List UInt8 :=
  if inB leaf 0 3 then signAll seed leaf (digitsS msg) 11 ++ [UInt8.ofNat leaf.toNat] ++ (treePathS (pubsS seed) leaf).flatten else []
def checkAll (sig : List UInt8) (ds : List Nat) : Nat → List UInt8
  | 0 => []
  | c + 1 => checkAll sig ds c ++ linksN c (ds.getD c 0) ((sig.drop (8 * c)).take 8) (3 - ds.getD c 0)
theorem checkAll_len (sig : List UInt8) (ds : List Nat) (c : Nat) : (checkAll sig ds c).length ≤ 16 * c := by
  induction c with
  | zero => simp [checkAll]
  | succ c ih =>
    have h1 := linksN_len c (ds.getD c 0) ((sig.drop (8 * c)).take 8) (3 - ds.getD c 0)
    have h2 : ((sig.drop (8 * c)).take 8).length ≤ 8 := by simp; omega
    rw [checkAll, List.length_append]
    omega
def hsCheckB (root msg sig : List UInt8) : Bool :=
  if sig.length = 153 ∧ (sig.getD 88 0).toNat < 4 then includesS root (shortS (checkAll sig (digitsS msg) 11)) ((sig.getD 88 0).toNat : Int) 4 [(sig.drop 89).take 32, sig.drop 121] else false
def signAsS (val : Int) (d : List UInt8) : List UInt8 := if inB val 1 99 then shortS (4 :: (fixedS val 2 ++ d)) else []
theorem signAsS_len (val : Int) (d : List UInt8) : (signAsS val d).length ≤ 8 := by unfold signAsS; split <;> simp
end Go.Proofs.YtecimgkgdpnaeaaDoor

/-
  Short: both sides.
-/
namespace Go.Proofs.YtecimgkgdpnaeaaDoor
open Go.ChangeShapes Go.WideShapes Go.ChangeAt Go.RowKit
set_option linter.unusedVariables false
set_option linter.unusedSimpArgs false
set_option maxRecDepth 100000

theorem S_cons1 (c : UInt8) (l : List UInt8) : ByteArray.mk #[c] ++ S l = S (c :: l) := by rw [show ByteArray.mk #[c] = S [c] from rfl, S_append]; rfl
theorem take8 (l : List UInt8) (h : l.length = 32) : (S l).extract 0 8 = S (l.take 8) := by rw [S_take]; simp
theorem sShort_any (l : List UInt8) (w : World) (hl : l.length ≤ 4194304) :
    Calls Tryd.prog 64 #[.string (S l)] w fun e w' => e = .returned (.string (S (shortS l))) ∧ Below w.heap.size w w' := by
  have hb := Below.refl w.heap.size w
  have HV := Lib.hid (sSha_any l w hl)
  have hE := take8 (shaS l) (shaS_len l)
  have hn := shaS_len l
  go_enter Tryd.func64, Tryd.ntmps64
  go_wp2_with (go_at_call 93; refine (HV.out).mono ?_; rintro e wn ⟨rfl, hbn⟩; have hb := Below.next (w := w) (by repeat (first | with_reducible exact hb | with_reducible exact Below.refl _ _ | refine Below.drew ?_ | refine Below.setCell ?_ (by simp <;> omega) _ | refine Below.alloc ?_ (by simp <;> omega) _)) hbn; clear hbn)
  go_ret
  exact ⟨rfl, hb⟩
theorem iShort_any (l : List UInt8) (w : World) (hl : l.length ≤ 4194304) (hK : HasK w) :
    Calls Tryd.prog 63 #[.string (S l)] w fun e w' => e = .returned (.string (S (shortS l))) ∧ Below w.heap.size w w' := by
  have hb := Below.refl w.heap.size w
  have HV := Lib.hid (iSha_any l w hl hK)
  have hE := take8 (shaS l) (shaS_len l)
  have hn := shaS_len l
  clear hK
  go_enter Tryd.func63, Tryd.ntmps63
  go_wp2_with (go_at_call 92; refine (HV.out).mono ?_; rintro e wn ⟨rfl, hbn⟩; have hb := Below.next (w := w) (by repeat (first | with_reducible exact hb | with_reducible exact Below.refl _ _ | refine Below.drew ?_ | refine Below.setCell ?_ (by simp <;> omega) _ | refine Below.alloc ?_ (by simp <;> omega) _)) hbn; clear hbn)
  go_ret
  exact ⟨rfl, hb⟩
end Go.Proofs.YtecimgkgdpnaeaaDoor

/-
  Headers drawn.
-/
namespace Go.Proofs.YtecimgkgdpnaeaaDoor
open Go.ChangeShapes Go.WideShapes Go.ChangeAt Go.RowKit
set_option linter.unusedVariables false
set_option linter.unusedSimpArgs false
set_option maxRecDepth 100000

/-- Six cells of one block, writable. -/
def H6 (w : World) (b : Nat) (u0 u1 u2 u3 u4 u5 : Value) : Prop := b < w.heap.size ∧ w.cell? ⟨b, 0, none⟩ = some u0 ∧ w.cell? ⟨b, 1, none⟩ = some u1 ∧ w.cell? ⟨b, 2, none⟩ = some u2 ∧ w.cell? ⟨b, 3, none⟩ = some u3 ∧ w.cell? ⟨b, 4, none⟩ = some u4 ∧ w.cell? ⟨b, 5, none⟩ = some u5 ∧ ∀ i, w.frozen? ⟨b, i, none⟩ = false
theorem H6.but {w w' : World} {b B : Nat} {u0 u1 u2 u3 u4 u5 : Value} (h : H6 w b u0 u1 u2 u3 u4 u5) (hb : But B w w') (hn : b ≠ B) : H6 w' b u0 u1 u2 u3 u4 u5 := by
  obtain ⟨h1, c0, c1, c2, c3, c4, c5, hf⟩ := h
  exact ⟨Nat.lt_of_lt_of_le h1 hb.size, (hb.cell h1 hn).trans c0, (hb.cell h1 hn).trans c1, (hb.cell h1 hn).trans c2, (hb.cell h1 hn).trans c3, (hb.cell h1 hn).trans c4, (hb.cell h1 hn).trans c5, fun i => (hb.frozen h1 hn).trans (hf i)⟩
theorem H6.next {w w' : World} {b : Nat} {u0 u1 u2 u3 u4 u5 : Value} (h : H6 w b u0 u1 u2 u3 u4 u5) (hb : Below w.heap.size w w') : H6 w' b u0 u1 u2 u3 u4 u5 := h.but (B := b + 1) (But.of_below hb) (by omega)
theorem H6.alloc {w : World} {b : Nat} {u0 u1 u2 u3 u4 u5 : Value} (h : H6 w b u0 u1 u2 u3 u4 u5) (o : Obj) : H6 (w.alloc o) b u0 u1 u2 u3 u4 u5 := h.next (Below.alloc (Below.refl _ _) (Nat.le_refl _) o)
theorem H6.drew {w : World} {b : Nat} {u0 u1 u2 u3 u4 u5 : Value} (h : H6 w b u0 u1 u2 u3 u4 u5) : H6 w.drew b u0 u1 u2 u3 u4 u5 := h
theorem H6.new (w : World) (t : TypeId) (u0 u1 u2 u3 u4 u5 : Value) : H6 (w.alloc (.cells #[u0, u1, u2, u3, u4, u5] t)) w.heap.size u0 u1 u2 u3 u4 u5 :=
  ⟨by simp, by go_simp, by go_simp, by go_simp, by go_simp, by go_simp, by go_simp, fun i => by go_simp⟩
theorem H6.set {w : World} {b : Nat} {u0 u1 u2 u3 u4 u5 : Value} (h : H6 w b u0 u1 u2 u3 u4 u5) (v : Value) :
    H6 (w.setCell ⟨b, 0, none⟩ v) b v u1 u2 u3 u4 u5 ∧ H6 (w.setCell ⟨b, 1, none⟩ v) b u0 v u2 u3 u4 u5 ∧ H6 (w.setCell ⟨b, 2, none⟩ v) b u0 u1 v u3 u4 u5 ∧ H6 (w.setCell ⟨b, 3, none⟩ v) b u0 u1 u2 v u4 u5 ∧ H6 (w.setCell ⟨b, 4, none⟩ v) b u0 u1 u2 u3 v u5 ∧ H6 (w.setCell ⟨b, 5, none⟩ v) b u0 u1 u2 u3 u4 v := by
  obtain ⟨h1, c0, c1, c2, c3, c4, c5, hf⟩ := h
  refine ⟨?_, ?_, ?_, ?_, ?_, ?_⟩ <;> exact ⟨by simpa [World.setCell] using h1, by go_simp, by go_simp, by go_simp, by go_simp, by go_simp, by go_simp, fun i => by go_simp⟩

set_option maxHeartbeats 4000000 in
theorem l7Head_in (B : Nat) (K : Cd) (w : World) (hs : CurX w B K) (hl : K.l.length ≤ 1048576) :
    Calls Tryd.prog 42 #[.pointer (some ⟨B, 0, none⟩)] w fun e w' => ∃ (h t : Int) (la va ne da : List UInt8), e = .returned (.agg #[.int .i64 h, .int .i64 t, .string (S la), .string (S va), .string (S ne), .string (S da)]) ∧ (-1 ≤ h ∧ h ≤ 1000001 ∧ -1 ≤ t ∧ t ≤ 1000001 ∧ la.length ≤ 21 ∧ va.length ≤ 21 ∧ ne.length ≤ 21 ∧ da.length ≤ 21) ∧ CurX w' B K ∧ But B w w' := by
  have HB := hs.lt
  have H4 := Lib.hid fun (W : World) (h : CurX W B K) => below_in B K 4 W h hl (by omega) (by omega)
  have H5 := Lib.hid fun (W : World) (h : CurX W B K) => below_in B K 5 W h hl (by omega) (by omega)
  have H100 := Lib.hid fun (W : World) (h : CurX W B K) => below_in B K 100 W h hl (by omega) (by omega)
  have HO8 := Lib.hid fun (W : World) (h : CurX W B K) => once_in B K 8 W h hl (by omega) (by omega)
  have HT1 := Lib.hid fun (W : World) (h : CurX W B K) => text_in B K 1 W h (by omega) hl
  have HT4 := Lib.hid fun (W : World) (h : CurX W B K) => text_in B K 4 W h (by omega) hl
  have HT9 := Lib.hid fun (W : World) (h : CurX W B K) => text_in B K 9 W h (by omega) hl
  have HSH := Lib.hid fun (W : World) (t : List UInt8) (h : t.length ≤ 1) => sShort_any t W (by omega)
  have HSA : Hid (∀ (W : World), Calls Tryd.prog 64 #[.string ⟨#[97]⟩] W fun e w' => e = .returned (.string (S (shortS [97]))) ∧ Below W.heap.size W w') := fun W => sShort_any [97] W (by simp)
  have hsa := shortS_len [97]
  generalize shortS [97] = sa at *
  go_enter Tryd.func42, Tryd.ntmps42
  go_wp2_with fail
  have hR := H6.new w 25 (.int .i64 0) (.int .i64 0) (.string ⟨#[]⟩) (.string ⟨#[]⟩) (.string ⟨#[]⟩) (.string ⟨#[]⟩)
  have hc := hs.alloc (.cells #[.int .i64 0, .int .i64 0, .string ⟨#[]⟩, .string ⟨#[]⟩, .string ⟨#[]⟩, .string ⟨#[]⟩] 25)
  have hb := (But.refl B w).alloc (.cells #[.int .i64 0, .int .i64 0, .string ⟨#[]⟩, .string ⟨#[]⟩, .string ⟨#[]⟩, .string ⟨#[]⟩] 25)
  generalize w.alloc (.cells #[.int .i64 0, .int .i64 0, .string ⟨#[]⟩, .string ⟨#[]⟩, .string ⟨#[]⟩, .string ⟨#[]⟩] 25) = W0 at *
  have hRB : w.heap.size ≠ B := by omega
  clear hs
  refine (H4.out _ hc).mono ?_
  rintro e w1 ⟨a1, rfl, ha1, hc, b1⟩
  have hR := hR.but b1 hRB
  have hb := hb.trans b1
  clear b1
  go_wp2_with fail
  refine (H100.out _ hc).mono ?_
  rintro e w2 ⟨a2, rfl, ha2, hc, b2⟩
  have hR := hR.but b2 hRB
  have hb := hb.trans b2
  clear b2
  go_wp2_with fail
  refine (HT1.out _ hc).mono ?_
  rintro e w3 ⟨t1, rfl, ht1, hc, b3⟩
  have hR := hR.but b3 hRB
  have hb := hb.trans b3
  clear b3
  go_wp2_with fail
  refine (HSH.out _ t1 ht1).mono ?_
  rintro e w4 ⟨rfl, b4⟩
  have hR := hR.next b4
  have hb := hb.next b4
  have hc := hc.next b4
  clear b4
  go_wp2_with fail
  refine (HT1.out _ hc).mono ?_
  rintro e w5 ⟨t2, rfl, ht2, hc, b5⟩
  have hR := hR.but b5 hRB
  have hb := hb.trans b5
  clear b5
  go_wp2_with fail
  refine (HSH.out _ t2 ht2).mono ?_
  rintro e w6 ⟨rfl, b6⟩
  have hR := hR.next b6
  have hb := hb.next b6
  have hc := hc.next b6
  clear b6
  go_wp2_with fail
  refine (HT4.out _ hc).mono ?_
  rintro e w7 ⟨u5, rfl, ht3, hc, b7⟩
  have hR := hR.but b7 hRB
  have hb := hb.trans b7
  clear b7
  have hgt : (1 < 1 + (a1 : Int)) ∨ ¬ (1 < 1 + (a1 : Int)) := by omega
  rcases hgt with hgt | hgt
  · skip
    go_wp2_with fail
    have hs1 := shortS_len t1
    have hs2 := shortS_len t2
    generalize shortS t1 = u3 at *
    generalize shortS t2 = u4 at *
    have hz4 := hb.size
    have hh0 : (1 : Int) ≤ 1 + (a1 : Int) ∧ 1 + (a1 : Int) ≤ 4 ∧ 0 ≤ (a2 : Int) ∧ (a2 : Int) ≤ 100 := by omega
    generalize hU0 : (1 + (a1 : Int)) = u0 at *
    generalize hU1 : (a2 : Int) = u1 at *
    have hV := H6.new w7 25 (.int .i64 u0) (.int .i64 u1) (.string ⟨#[]⟩) (.string (S u3)) (.string (S u4)) (.string (S u5))
    have hc := hc.alloc (.cells #[.int .i64 u0, .int .i64 u1, .string ⟨#[]⟩, .string (S u3), .string (S u4), .string (S u5)] 25)
    have hVB : w7.heap.size ≠ B := by omega
    have hVR : ¬ w7.heap.size = w.heap.size := by have := hR.1; omega
    have hVR' : ¬ w.heap.size = w7.heap.size := by omega
    have hVw : w.heap.size ≤ w7.heap.size := by omega
    have hR := hR.alloc (.cells #[.int .i64 u0, .int .i64 u1, .string ⟨#[]⟩, .string (S u3), .string (S u4), .string (S u5)] 25)
    have hb := hb.alloc (.cells #[.int .i64 u0, .int .i64 u1, .string ⟨#[]⟩, .string (S u3), .string (S u4), .string (S u5)] 25)
    generalize w7.alloc (.cells #[.int .i64 u0, .int .i64 u1, .string ⟨#[]⟩, .string (S u3), .string (S u4), .string (S u5)] 25) = W5 at *
    generalize w7.heap.size = V at *
    refine (HSA.out _).mono ?_
    rintro e wb ⟨rfl, bb⟩
    have hV := hV.next bb
    have hR := hR.next bb
    have hb := hb.next bb
    have hc := hc.next bb
    clear bb
    have hV2 := (hV.set (.string (S sa))).2.2.1
    have hR2 := hR.but (w' := wb.setCell ⟨V, 2, none⟩ (.string (S sa))) (B := V) ((But.refl V wb).set 2 _) (by omega)
    have hb2 := hb.setFar (g := V) (by omega) 2 (.string (S sa))
    have hc2 := hc.far (g := V) (by omega) 2 (.string (S sa))
    obtain ⟨hVl, v0, v1, v2, v3, v4, v5, vf⟩ := hV
    clear hR hb hc
    go_wp2_with fail
    clear v0 v1 v2 v3 v4 v5 vf hVl
    generalize wb.setCell ⟨V, 2, none⟩ (.string (S sa)) = W7 at *
    obtain ⟨id, hid, hV⟩ : ∃ id : List UInt8, id.length ≤ 21 ∧ H6 W7 V (.int .i64 u0) (.int .i64 u1) (.string (S id)) (.string (S u3)) (.string (S u4)) (.string (S u5)) := ⟨sa, by omega, hV2⟩
    have hR := hR2
    have hb := hb2
    have hc := hc2
    clear hV2 hR2 hb2 hc2
    refine (HO8.out _ hc).mono ?_
    rintro e wo ⟨o, rfl, hc, bo⟩
    have hV := hV.but bo hVB
    have hR := hR.but bo hRB
    have hb := hb.trans bo
    clear bo
    cases o
    · obtain ⟨hVl, v0, v1, v2, v3, v4, v5, vf⟩ := hV
      obtain ⟨hRl, r0, r1, r2, r3, r4, r5, rf⟩ := hR
      go_wp2_with fail
      refine bodyPost_ret (v := .agg #[.int .i64 u0, .int .i64 u1, .string (S id), .string (S u3), .string (S u4), .string (S u5)]) (by simp [results, Tryd.results42, go_sem, *]) rfl ⟨u0, u1, id, u3, u4, u5, rfl, by (try simp at hv); omega, ?_, ?_⟩
      · (repeat (first | with_reducible exact hc | with_reducible refine CurX.drew ?_ | with_reducible refine CurX.far ?_ (by omega) _ _))
      · (repeat (first | with_reducible exact hb | with_reducible refine But.drew ?_ | with_reducible refine But.setFar ?_ (by omega) _ _))
    · go_wp2_with fail
      refine (H5.out _ hc).mono ?_
      rintro e wq ⟨q, rfl, hq, hc, bq⟩
      have hV := hV.but bq hVB
      have hR := hR.but bq hRB
      have hb := hb.trans bq
      have hz9 := hb.size
      clear bq
      by_cases hq0 : q = 0
      · subst hq0
        have HP := Lib.hid (pick_in B K [0, 1, 1000000, 1000001] (wq.alloc (.cells #[.int .i64 0, .int .i64 1, .int .i64 1000000, .int .i64 1000001] 3)) wq.heap.size 4 (hc.alloc _) (by have := hc.lt; omega) (by simp) (by decide) (by decide) hl (lit_ints wq 3 [0, 1, 1000000, 1000001]))
        have hV := hV.alloc (.cells #[.int .i64 0, .int .i64 1, .int .i64 1000000, .int .i64 1000001] 3)
        have hR := hR.alloc (.cells #[.int .i64 0, .int .i64 1, .int .i64 1000000, .int .i64 1000001] 3)
        have hb := hb.alloc (.cells #[.int .i64 0, .int .i64 1, .int .i64 1000000, .int .i64 1000001] 3)
        clear hc
        go_wp2_with fail
        refine HP.out.mono ?_
        rintro e wA ⟨v, rfl, hv, hc, bA⟩
        have hV := hV.but bA hVB
        have hR := hR.but bA hRB
        have hb := hb.trans bA
        clear bA HP
        obtain ⟨hVl, v0, v1, v2, v3, v4, v5, vf⟩ := hV
        obtain ⟨hRl, r0, r1, r2, r3, r4, r5, rf⟩ := hR
        go_wp2_with fail
        refine bodyPost_ret (v := .agg #[.int .i64 v, .int .i64 u1, .string (S id), .string (S u3), .string (S u4), .string (S u5)]) (by simp [results, Tryd.results42, go_sem, *]) rfl ⟨v, u1, id, u3, u4, u5, rfl, by (try simp at hv); omega, ?_, ?_⟩
        · (repeat (first | with_reducible exact hc | with_reducible refine CurX.drew ?_ | with_reducible refine CurX.far ?_ (by omega) _ _))
        · (repeat (first | with_reducible exact hb | with_reducible refine But.drew ?_ | with_reducible refine But.setFar ?_ (by omega) _ _))
      have hq0i : ¬ (q : Int) = 0 := by omega
      by_cases hq1 : q = 1
      · subst hq1
        have HP := Lib.hid (pick_in B K [-1, 1000000, 1000001] (wq.alloc (.cells #[.int .i64 (-1), .int .i64 1000000, .int .i64 1000001] 3)) wq.heap.size 3 (hc.alloc _) (by have := hc.lt; omega) (by simp) (by decide) (by decide) hl (lit_ints wq 3 [-1, 1000000, 1000001]))
        have hV := hV.alloc (.cells #[.int .i64 (-1), .int .i64 1000000, .int .i64 1000001] 3)
        have hR := hR.alloc (.cells #[.int .i64 (-1), .int .i64 1000000, .int .i64 1000001] 3)
        have hb := hb.alloc (.cells #[.int .i64 (-1), .int .i64 1000000, .int .i64 1000001] 3)
        clear hc
        go_wp2_with fail
        refine HP.out.mono ?_
        rintro e wA ⟨v, rfl, hv, hc, bA⟩
        have hV := hV.but bA hVB
        have hR := hR.but bA hRB
        have hb := hb.trans bA
        clear bA HP
        obtain ⟨hVl, v0, v1, v2, v3, v4, v5, vf⟩ := hV
        obtain ⟨hRl, r0, r1, r2, r3, r4, r5, rf⟩ := hR
        go_wp2_with fail
        refine bodyPost_ret (v := .agg #[.int .i64 u0, .int .i64 v, .string (S id), .string (S u3), .string (S u4), .string (S u5)]) (by simp [results, Tryd.results42, go_sem, *]) rfl ⟨u0, v, id, u3, u4, u5, rfl, by (try simp at hv); omega, ?_, ?_⟩
        · (repeat (first | with_reducible exact hc | with_reducible refine CurX.drew ?_ | with_reducible refine CurX.far ?_ (by omega) _ _))
        · (repeat (first | with_reducible exact hb | with_reducible refine But.drew ?_ | with_reducible refine But.setFar ?_ (by omega) _ _))
      have hq1i : ¬ (q : Int) = 1 := by omega
      by_cases hq2 : q = 2
      · subst hq2
        go_wp2_with fail
        refine (HT9.out _ hc).mono ?_
        rintro e wA ⟨t, rfl, ht, hc, bA⟩
        have hV := hV.but bA hVB
        have hR := hR.but bA hRB
        have hb := hb.trans bA
        clear bA
        obtain ⟨hVl, v0, v1, v2, v3, v4, v5, vf⟩ := hV
        obtain ⟨hRl, r0, r1, r2, r3, r4, r5, rf⟩ := hR
        go_wp2_with fail
        refine bodyPost_ret (v := .agg #[.int .i64 u0, .int .i64 u1, .string (S t), .string (S u3), .string (S u4), .string (S u5)]) (by simp [results, Tryd.results42, go_sem, *]) rfl ⟨u0, u1, t, u3, u4, u5, rfl, by (try simp at hv); omega, ?_, ?_⟩
        · (repeat (first | with_reducible exact hc | with_reducible refine CurX.drew ?_ | with_reducible refine CurX.far ?_ (by omega) _ _))
        · (repeat (first | with_reducible exact hb | with_reducible refine But.drew ?_ | with_reducible refine But.setFar ?_ (by omega) _ _))
      have hq2i : ¬ (q : Int) = 2 := by omega
      by_cases hq3 : q = 3
      · subst hq3
        go_wp2_with fail
        refine (HT9.out _ hc).mono ?_
        rintro e wA ⟨t, rfl, ht, hc, bA⟩
        have hV := hV.but bA hVB
        have hR := hR.but bA hRB
        have hb := hb.trans bA
        clear bA
        obtain ⟨hVl, v0, v1, v2, v3, v4, v5, vf⟩ := hV
        obtain ⟨hRl, r0, r1, r2, r3, r4, r5, rf⟩ := hR
        go_wp2_with fail
        refine bodyPost_ret (v := .agg #[.int .i64 u0, .int .i64 u1, .string (S id), .string (S u3), .string (S t), .string (S u5)]) (by simp [results, Tryd.results42, go_sem, *]) rfl ⟨u0, u1, id, u3, t, u5, rfl, by (try simp at hv); omega, ?_, ?_⟩
        · (repeat (first | with_reducible exact hc | with_reducible refine CurX.drew ?_ | with_reducible refine CurX.far ?_ (by omega) _ _))
        · (repeat (first | with_reducible exact hb | with_reducible refine But.drew ?_ | with_reducible refine But.setFar ?_ (by omega) _ _))
      have hq3i : ¬ (q : Int) = 3 := by omega
      go_wp2_with fail
      refine (HT1.out _ hc).mono ?_
      rintro e wA ⟨t, rfl, ht, hc, bA⟩
      have hV := hV.but bA hVB
      have hR := hR.but bA hRB
      have hb := hb.trans bA
      clear bA
      obtain ⟨hVl, v0, v1, v2, v3, v4, v5, vf⟩ := hV
      obtain ⟨hRl, r0, r1, r2, r3, r4, r5, rf⟩ := hR
      have e20 : (⟨#[97, 97, 97, 97, 97, 97, 97, 97, 97, 97, 97, 97, 97, 97, 97, 97, 97, 97, 97, 97]⟩ : ByteArray) ++ S t = S ([97, 97, 97, 97, 97, 97, 97, 97, 97, 97, 97, 97, 97, 97, 97, 97, 97, 97, 97, 97] ++ t) := by rw [show (⟨#[97, 97, 97, 97, 97, 97, 97, 97, 97, 97, 97, 97, 97, 97, 97, 97, 97, 97, 97, 97]⟩ : ByteArray) = S [97, 97, 97, 97, 97, 97, 97, 97, 97, 97, 97, 97, 97, 97, 97, 97, 97, 97, 97, 97] from rfl]; simp
      have ht' : ([97, 97, 97, 97, 97, 97, 97, 97, 97, 97, 97, 97, 97, 97, 97, 97, 97, 97, 97, 97] ++ t : List UInt8).length ≤ 21 := by simp; omega
      generalize ([97, 97, 97, 97, 97, 97, 97, 97, 97, 97, 97, 97, 97, 97, 97, 97, 97, 97, 97, 97] ++ t : List UInt8) = t' at *
      go_wp2_with fail
      refine bodyPost_ret (v := .agg #[.int .i64 u0, .int .i64 u1, .string (S id), .string (S u3), .string (S u4), .string (S t')]) (by simp [results, Tryd.results42, go_sem, *]) rfl ⟨u0, u1, id, u3, u4, t', rfl, by (try simp at hv); omega, ?_, ?_⟩
      · (repeat (first | with_reducible exact hc | with_reducible refine CurX.drew ?_ | with_reducible refine CurX.far ?_ (by omega) _ _))
      · (repeat (first | with_reducible exact hb | with_reducible refine But.drew ?_ | with_reducible refine But.setFar ?_ (by omega) _ _))
  · skip
    go_wp2_with fail
    have hs1 := shortS_len t1
    have hs2 := shortS_len t2
    generalize shortS t1 = u3 at *
    generalize shortS t2 = u4 at *
    have hz4 := hb.size
    have hh0 : (1 : Int) ≤ 1 + (a1 : Int) ∧ 1 + (a1 : Int) ≤ 4 ∧ 0 ≤ (a2 : Int) ∧ (a2 : Int) ≤ 100 := by omega
    generalize hU0 : (1 + (a1 : Int)) = u0 at *
    generalize hU1 : (a2 : Int) = u1 at *
    have hV := H6.new w7 25 (.int .i64 u0) (.int .i64 u1) (.string ⟨#[]⟩) (.string (S u3)) (.string (S u4)) (.string (S u5))
    have hc := hc.alloc (.cells #[.int .i64 u0, .int .i64 u1, .string ⟨#[]⟩, .string (S u3), .string (S u4), .string (S u5)] 25)
    have hVB : w7.heap.size ≠ B := by omega
    have hVR : ¬ w7.heap.size = w.heap.size := by have := hR.1; omega
    have hVR' : ¬ w.heap.size = w7.heap.size := by omega
    have hVw : w.heap.size ≤ w7.heap.size := by omega
    have hR := hR.alloc (.cells #[.int .i64 u0, .int .i64 u1, .string ⟨#[]⟩, .string (S u3), .string (S u4), .string (S u5)] 25)
    have hb := hb.alloc (.cells #[.int .i64 u0, .int .i64 u1, .string ⟨#[]⟩, .string (S u3), .string (S u4), .string (S u5)] 25)
    generalize w7.alloc (.cells #[.int .i64 u0, .int .i64 u1, .string ⟨#[]⟩, .string (S u3), .string (S u4), .string (S u5)] 25) = W5 at *
    generalize w7.heap.size = V at *
    obtain ⟨id, hid, hV⟩ : ∃ id : List UInt8, id.length ≤ 21 ∧ H6 W5 V (.int .i64 u0) (.int .i64 u1) (.string (S id)) (.string (S u3)) (.string (S u4)) (.string (S u5)) := ⟨[], by simp, hV⟩
    refine (HO8.out _ hc).mono ?_
    rintro e wo ⟨o, rfl, hc, bo⟩
    have hV := hV.but bo hVB
    have hR := hR.but bo hRB
    have hb := hb.trans bo
    clear bo
    cases o
    · obtain ⟨hVl, v0, v1, v2, v3, v4, v5, vf⟩ := hV
      obtain ⟨hRl, r0, r1, r2, r3, r4, r5, rf⟩ := hR
      go_wp2_with fail
      refine bodyPost_ret (v := .agg #[.int .i64 u0, .int .i64 u1, .string (S id), .string (S u3), .string (S u4), .string (S u5)]) (by simp [results, Tryd.results42, go_sem, *]) rfl ⟨u0, u1, id, u3, u4, u5, rfl, by (try simp at hv); omega, ?_, ?_⟩
      · (repeat (first | with_reducible exact hc | with_reducible refine CurX.drew ?_ | with_reducible refine CurX.far ?_ (by omega) _ _))
      · (repeat (first | with_reducible exact hb | with_reducible refine But.drew ?_ | with_reducible refine But.setFar ?_ (by omega) _ _))
    · go_wp2_with fail
      refine (H5.out _ hc).mono ?_
      rintro e wq ⟨q, rfl, hq, hc, bq⟩
      have hV := hV.but bq hVB
      have hR := hR.but bq hRB
      have hb := hb.trans bq
      have hz9 := hb.size
      clear bq
      by_cases hq0 : q = 0
      · subst hq0
        have HP := Lib.hid (pick_in B K [0, 1, 1000000, 1000001] (wq.alloc (.cells #[.int .i64 0, .int .i64 1, .int .i64 1000000, .int .i64 1000001] 3)) wq.heap.size 4 (hc.alloc _) (by have := hc.lt; omega) (by simp) (by decide) (by decide) hl (lit_ints wq 3 [0, 1, 1000000, 1000001]))
        have hV := hV.alloc (.cells #[.int .i64 0, .int .i64 1, .int .i64 1000000, .int .i64 1000001] 3)
        have hR := hR.alloc (.cells #[.int .i64 0, .int .i64 1, .int .i64 1000000, .int .i64 1000001] 3)
        have hb := hb.alloc (.cells #[.int .i64 0, .int .i64 1, .int .i64 1000000, .int .i64 1000001] 3)
        clear hc
        go_wp2_with fail
        refine HP.out.mono ?_
        rintro e wA ⟨v, rfl, hv, hc, bA⟩
        have hV := hV.but bA hVB
        have hR := hR.but bA hRB
        have hb := hb.trans bA
        clear bA HP
        obtain ⟨hVl, v0, v1, v2, v3, v4, v5, vf⟩ := hV
        obtain ⟨hRl, r0, r1, r2, r3, r4, r5, rf⟩ := hR
        go_wp2_with fail
        refine bodyPost_ret (v := .agg #[.int .i64 v, .int .i64 u1, .string (S id), .string (S u3), .string (S u4), .string (S u5)]) (by simp [results, Tryd.results42, go_sem, *]) rfl ⟨v, u1, id, u3, u4, u5, rfl, by (try simp at hv); omega, ?_, ?_⟩
        · (repeat (first | with_reducible exact hc | with_reducible refine CurX.drew ?_ | with_reducible refine CurX.far ?_ (by omega) _ _))
        · (repeat (first | with_reducible exact hb | with_reducible refine But.drew ?_ | with_reducible refine But.setFar ?_ (by omega) _ _))
      have hq0i : ¬ (q : Int) = 0 := by omega
      by_cases hq1 : q = 1
      · subst hq1
        have HP := Lib.hid (pick_in B K [-1, 1000000, 1000001] (wq.alloc (.cells #[.int .i64 (-1), .int .i64 1000000, .int .i64 1000001] 3)) wq.heap.size 3 (hc.alloc _) (by have := hc.lt; omega) (by simp) (by decide) (by decide) hl (lit_ints wq 3 [-1, 1000000, 1000001]))
        have hV := hV.alloc (.cells #[.int .i64 (-1), .int .i64 1000000, .int .i64 1000001] 3)
        have hR := hR.alloc (.cells #[.int .i64 (-1), .int .i64 1000000, .int .i64 1000001] 3)
        have hb := hb.alloc (.cells #[.int .i64 (-1), .int .i64 1000000, .int .i64 1000001] 3)
        clear hc
        go_wp2_with fail
        refine HP.out.mono ?_
        rintro e wA ⟨v, rfl, hv, hc, bA⟩
        have hV := hV.but bA hVB
        have hR := hR.but bA hRB
        have hb := hb.trans bA
        clear bA HP
        obtain ⟨hVl, v0, v1, v2, v3, v4, v5, vf⟩ := hV
        obtain ⟨hRl, r0, r1, r2, r3, r4, r5, rf⟩ := hR
        go_wp2_with fail
        refine bodyPost_ret (v := .agg #[.int .i64 u0, .int .i64 v, .string (S id), .string (S u3), .string (S u4), .string (S u5)]) (by simp [results, Tryd.results42, go_sem, *]) rfl ⟨u0, v, id, u3, u4, u5, rfl, by (try simp at hv); omega, ?_, ?_⟩
        · (repeat (first | with_reducible exact hc | with_reducible refine CurX.drew ?_ | with_reducible refine CurX.far ?_ (by omega) _ _))
        · (repeat (first | with_reducible exact hb | with_reducible refine But.drew ?_ | with_reducible refine But.setFar ?_ (by omega) _ _))
      have hq1i : ¬ (q : Int) = 1 := by omega
      by_cases hq2 : q = 2
      · subst hq2
        go_wp2_with fail
        refine (HT9.out _ hc).mono ?_
        rintro e wA ⟨t, rfl, ht, hc, bA⟩
        have hV := hV.but bA hVB
        have hR := hR.but bA hRB
        have hb := hb.trans bA
        clear bA
        obtain ⟨hVl, v0, v1, v2, v3, v4, v5, vf⟩ := hV
        obtain ⟨hRl, r0, r1, r2, r3, r4, r5, rf⟩ := hR
        go_wp2_with fail
        refine bodyPost_ret (v := .agg #[.int .i64 u0, .int .i64 u1, .string (S t), .string (S u3), .string (S u4), .string (S u5)]) (by simp [results, Tryd.results42, go_sem, *]) rfl ⟨u0, u1, t, u3, u4, u5, rfl, by (try simp at hv); omega, ?_, ?_⟩
        · (repeat (first | with_reducible exact hc | with_reducible refine CurX.drew ?_ | with_reducible refine CurX.far ?_ (by omega) _ _))
        · (repeat (first | with_reducible exact hb | with_reducible refine But.drew ?_ | with_reducible refine But.setFar ?_ (by omega) _ _))
      have hq2i : ¬ (q : Int) = 2 := by omega
      by_cases hq3 : q = 3
      · subst hq3
        go_wp2_with fail
        refine (HT9.out _ hc).mono ?_
        rintro e wA ⟨t, rfl, ht, hc, bA⟩
        have hV := hV.but bA hVB
        have hR := hR.but bA hRB
        have hb := hb.trans bA
        clear bA
        obtain ⟨hVl, v0, v1, v2, v3, v4, v5, vf⟩ := hV
        obtain ⟨hRl, r0, r1, r2, r3, r4, r5, rf⟩ := hR
        go_wp2_with fail
        refine bodyPost_ret (v := .agg #[.int .i64 u0, .int .i64 u1, .string (S id), .string (S u3), .string (S t), .string (S u5)]) (by simp [results, Tryd.results42, go_sem, *]) rfl ⟨u0, u1, id, u3, t, u5, rfl, by (try simp at hv); omega, ?_, ?_⟩
        · (repeat (first | with_reducible exact hc | with_reducible refine CurX.drew ?_ | with_reducible refine CurX.far ?_ (by omega) _ _))
        · (repeat (first | with_reducible exact hb | with_reducible refine But.drew ?_ | with_reducible refine But.setFar ?_ (by omega) _ _))
      have hq3i : ¬ (q : Int) = 3 := by omega
      go_wp2_with fail
      refine (HT1.out _ hc).mono ?_
      rintro e wA ⟨t, rfl, ht, hc, bA⟩
      have hV := hV.but bA hVB
      have hR := hR.but bA hRB
      have hb := hb.trans bA
      clear bA
      obtain ⟨hVl, v0, v1, v2, v3, v4, v5, vf⟩ := hV
      obtain ⟨hRl, r0, r1, r2, r3, r4, r5, rf⟩ := hR
      have e20 : (⟨#[97, 97, 97, 97, 97, 97, 97, 97, 97, 97, 97, 97, 97, 97, 97, 97, 97, 97, 97, 97]⟩ : ByteArray) ++ S t = S ([97, 97, 97, 97, 97, 97, 97, 97, 97, 97, 97, 97, 97, 97, 97, 97, 97, 97, 97, 97] ++ t) := by rw [show (⟨#[97, 97, 97, 97, 97, 97, 97, 97, 97, 97, 97, 97, 97, 97, 97, 97, 97, 97, 97, 97]⟩ : ByteArray) = S [97, 97, 97, 97, 97, 97, 97, 97, 97, 97, 97, 97, 97, 97, 97, 97, 97, 97, 97, 97] from rfl]; simp
      have ht' : ([97, 97, 97, 97, 97, 97, 97, 97, 97, 97, 97, 97, 97, 97, 97, 97, 97, 97, 97, 97] ++ t : List UInt8).length ≤ 21 := by simp; omega
      generalize ([97, 97, 97, 97, 97, 97, 97, 97, 97, 97, 97, 97, 97, 97, 97, 97, 97, 97, 97, 97] ++ t : List UInt8) = t' at *
      go_wp2_with fail
      refine bodyPost_ret (v := .agg #[.int .i64 u0, .int .i64 u1, .string (S id), .string (S u3), .string (S u4), .string (S t')]) (by simp [results, Tryd.results42, go_sem, *]) rfl ⟨u0, u1, id, u3, u4, t', rfl, by (try simp at hv); omega, ?_, ?_⟩
      · (repeat (first | with_reducible exact hc | with_reducible refine CurX.drew ?_ | with_reducible refine CurX.far ?_ (by omega) _ _))
      · (repeat (first | with_reducible exact hb | with_reducible refine But.drew ?_ | with_reducible refine But.setFar ?_ (by omega) _ _))
end Go.Proofs.YtecimgkgdpnaeaaDoor

/-
  HeadId, both sides.
-/
namespace Go.Proofs.YtecimgkgdpnaeaaDoor
open Go.ChangeShapes Go.WideShapes Go.ChangeAt Go.RowKit
set_option linter.unusedVariables false
set_option linter.unusedSimpArgs false
set_option maxRecDepth 100000

/-- What HeadId returns. -/
def headIdS (x : HeadT) : List UInt8 := if headOkB x then shortS (showHeadS x) else []
theorem showHeadS_len (x : HeadT) : (showHeadS x).length ≤ 200 := by
  unfold showHeadS
  cases hok : headOkB x
  · simp
  · obtain ⟨l1, l2, l3, l4⟩ := headOk_len hok
    have q1 := varS_len x.h
    have q2 := varS_len x.t
    have q3 := sizedS_len x.last
    have q4 := sizedS_len x.vals
    have q5 := sizedS_len x.next
    have q6 := sizedS_len x.data
    simp only [if_true, List.length_append]
    omega
theorem iHeadId_any (x : HeadT) (w : World) (h1 : x.last.length ≤ 9223372036854775807) (h2 : x.vals.length ≤ 9223372036854775807) (h3 : x.next.length ≤ 9223372036854775807) (h4 : x.data.length ≤ 9223372036854775807) (hK : HasK w) :
    Calls Tryd.prog 20 #[x.val] w fun e w' => e = .returned (.string (S (headIdS x))) ∧ Below w.heap.size w w' := by
  have HK := Lib.hid hK
  have HSH := Lib.hid fun (W : World) (h : HasK W) => iShort_any (showHeadS x) W (by have := showHeadS_len x; omega) h
  have hb := Below.refl w.heap.size w
  cases hok : headOkB x
  · have HV : Hid (headIdS x = []) := by unfold Hid headIdS; rw [hok]; rfl
    obtain ⟨h, t, last, vals, next, data⟩ := x
    have hv : HeadT.val ⟨h, t, last, vals, next, data⟩ = .agg #[.int .i64 h, .int .i64 t, .string (S last), .string (S vals), .string (S next), .string (S data)] := rfl
    rw [hv]
    simp only at h1 h2 h3 h4 HV
    clear hK
    go_enter Tryd.func20, Tryd.ntmps20
    go_wp2_with (go_at_call 45; refine (iHeaderOk_any ⟨h, t, last, vals, next, data⟩ _ h1 h2 h3 h4).mono ?_; rintro e wn ⟨rfl, hbn⟩; have hb := Below.next (w := w) (by repeat (first | with_reducible exact hb | with_reducible exact Below.refl _ _ | refine Below.drew ?_ | refine Below.setCell ?_ (by simp <;> omega) _ | refine Below.alloc ?_ (by simp <;> omega) _)) hbn; obtain ⟨hc, hf⟩ := bcell hbn; have hz := hbn.size; (try simp at hz); (try have hz1 : w.heap.size < wn.heap.size := (by omega)); (try have hz2 : w.heap.size + 1 < wn.heap.size := (by omega)); (try have hz3 : w.heap.size + 1 + 1 < wn.heap.size := (by omega)); clear hbn)
    go_ret
    exact ⟨ret_string (by rw [HV.out]; rfl), hb⟩
  · have HV : Hid (headIdS x = shortS (showHeadS x)) := by unfold Hid headIdS; rw [hok]; rfl
    obtain ⟨h, t, last, vals, next, data⟩ := x
    have hv : HeadT.val ⟨h, t, last, vals, next, data⟩ = .agg #[.int .i64 h, .int .i64 t, .string (S last), .string (S vals), .string (S next), .string (S data)] := rfl
    rw [hv]
    simp only at h1 h2 h3 h4 HV
    clear hK
    go_enter Tryd.func20, Tryd.ntmps20
    go_wp2_with (first | (go_at_call 45; refine (iHeaderOk_any ⟨h, t, last, vals, next, data⟩ _ h1 h2 h3 h4).mono ?_; rintro e wn ⟨rfl, hbn⟩; have hb := Below.next (w := w) (by repeat (first | with_reducible exact hb | with_reducible exact Below.refl _ _ | refine Below.drew ?_ | refine Below.setCell ?_ (by simp <;> omega) _ | refine Below.alloc ?_ (by simp <;> omega) _)) hbn; obtain ⟨hc, hf⟩ := bcell hbn; have hz := hbn.size; (try simp at hz); (try have hz1 : w.heap.size < wn.heap.size := (by omega)); (try have hz2 : w.heap.size + 1 < wn.heap.size := (by omega)); (try have hz3 : w.heap.size + 1 + 1 < wn.heap.size := (by omega)); clear hbn) | (go_at_call 10; refine (iShowHeader_any ⟨h, t, last, vals, next, data⟩ _ h1 h2 h3 h4).mono ?_; rintro e wn ⟨rfl, hbn⟩; have hb := Below.next (w := w) (by repeat (first | with_reducible exact hb | with_reducible exact Below.refl _ _ | refine Below.drew ?_ | refine Below.setCell ?_ (by simp <;> omega) _ | refine Below.alloc ?_ (by simp <;> omega) _)) hbn; obtain ⟨hc, hf⟩ := bcell hbn; have hz := hbn.size; (try simp at hz); (try have hz1 : w.heap.size < wn.heap.size := (by omega)); (try have hz2 : w.heap.size + 1 < wn.heap.size := (by omega)); (try have hz3 : w.heap.size + 1 + 1 < wn.heap.size := (by omega)); clear hbn) | (go_at_call 63; refine (HSH.out _ (HK.out.to hb)).mono ?_; rintro e wn ⟨rfl, hbn⟩; have hb := Below.next (w := w) (by repeat (first | with_reducible exact hb | with_reducible exact Below.refl _ _ | refine Below.drew ?_ | refine Below.setCell ?_ (by simp <;> omega) _ | refine Below.alloc ?_ (by simp <;> omega) _)) hbn; clear hbn))
    go_ret
    exact ⟨ret_string (by rw [HV.out]), hb⟩
theorem sHeadId_any (x : HeadT) (w : World) (h1 : x.last.length ≤ 9223372036854775807) (h2 : x.vals.length ≤ 9223372036854775807) (h3 : x.next.length ≤ 9223372036854775807) (h4 : x.data.length ≤ 9223372036854775807) :
    Calls Tryd.prog 21 #[x.val] w fun e w' => e = .returned (.string (S (headIdS x))) ∧ Below w.heap.size w w' := by
  have HSH := Lib.hid fun (W : World) => sShort_any (showHeadS x) W (by have := showHeadS_len x; omega)
  have hb := Below.refl w.heap.size w
  cases hok : headOkB x
  · have HV : Hid (headIdS x = []) := by unfold Hid headIdS; rw [hok]; rfl
    obtain ⟨h, t, last, vals, next, data⟩ := x
    have hv : HeadT.val ⟨h, t, last, vals, next, data⟩ = .agg #[.int .i64 h, .int .i64 t, .string (S last), .string (S vals), .string (S next), .string (S data)] := rfl
    rw [hv]
    simp only at h1 h2 h3 h4 HV
    go_enter Tryd.func21, Tryd.ntmps21
    go_wp2_with (go_at_call 18; refine (sHeaderOk_any ⟨h, t, last, vals, next, data⟩ _ h1 h2 h3 h4).mono ?_; rintro e wn ⟨rfl, hbn⟩; have hb := Below.next (w := w) (by repeat (first | with_reducible exact hb | with_reducible exact Below.refl _ _ | refine Below.drew ?_ | refine Below.setCell ?_ (by simp <;> omega) _ | refine Below.alloc ?_ (by simp <;> omega) _)) hbn; obtain ⟨hc, hf⟩ := bcell hbn; have hz := hbn.size; (try simp at hz); (try have hz1 : w.heap.size < wn.heap.size := (by omega)); (try have hz2 : w.heap.size + 1 < wn.heap.size := (by omega)); (try have hz3 : w.heap.size + 1 + 1 < wn.heap.size := (by omega)); clear hbn)
    go_ret
    exact ⟨ret_string (by rw [HV.out]; rfl), hb⟩
  · have HV : Hid (headIdS x = shortS (showHeadS x)) := by unfold Hid headIdS; rw [hok]; rfl
    obtain ⟨h, t, last, vals, next, data⟩ := x
    have hv : HeadT.val ⟨h, t, last, vals, next, data⟩ = .agg #[.int .i64 h, .int .i64 t, .string (S last), .string (S vals), .string (S next), .string (S data)] := rfl
    rw [hv]
    simp only at h1 h2 h3 h4 HV
    go_enter Tryd.func21, Tryd.ntmps21
    go_wp2_with (first | (go_at_call 18; refine (sHeaderOk_any ⟨h, t, last, vals, next, data⟩ _ h1 h2 h3 h4).mono ?_; rintro e wn ⟨rfl, hbn⟩; have hb := Below.next (w := w) (by repeat (first | with_reducible exact hb | with_reducible exact Below.refl _ _ | refine Below.drew ?_ | refine Below.setCell ?_ (by simp <;> omega) _ | refine Below.alloc ?_ (by simp <;> omega) _)) hbn; obtain ⟨hc, hf⟩ := bcell hbn; have hz := hbn.size; (try simp at hz); (try have hz1 : w.heap.size < wn.heap.size := (by omega)); (try have hz2 : w.heap.size + 1 < wn.heap.size := (by omega)); (try have hz3 : w.heap.size + 1 + 1 < wn.heap.size := (by omega)); clear hbn) | (go_at_call 48; refine (sShowHeader_any ⟨h, t, last, vals, next, data⟩ _ h1 h2 h3 h4).mono ?_; rintro e wn ⟨rfl, hbn⟩; have hb := Below.next (w := w) (by repeat (first | with_reducible exact hb | with_reducible exact Below.refl _ _ | refine Below.drew ?_ | refine Below.setCell ?_ (by simp <;> omega) _ | refine Below.alloc ?_ (by simp <;> omega) _)) hbn; obtain ⟨hc, hf⟩ := bcell hbn; have hz := hbn.size; (try simp at hz); (try have hz1 : w.heap.size < wn.heap.size := (by omega)); (try have hz2 : w.heap.size + 1 < wn.heap.size := (by omega)); (try have hz3 : w.heap.size + 1 + 1 < wn.heap.size := (by omega)); clear hbn) | (go_at_call 64; refine (HSH.out _).mono ?_; rintro e wn ⟨rfl, hbn⟩; have hb := Below.next (w := w) (by repeat (first | with_reducible exact hb | with_reducible exact Below.refl _ _ | refine Below.drew ?_ | refine Below.setCell ?_ (by simp <;> omega) _ | refine Below.alloc ?_ (by simp <;> omega) _)) hbn; clear hbn))
    go_ret
    exact ⟨ret_string (by rw [HV.out]), hb⟩
end Go.Proofs.YtecimgkgdpnaeaaDoor
