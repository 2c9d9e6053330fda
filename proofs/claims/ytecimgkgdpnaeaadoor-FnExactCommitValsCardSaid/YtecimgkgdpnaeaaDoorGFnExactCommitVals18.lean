/-
  Texts of this proof, laid into one: Hs0, Sho1, Sg1, Sig1.
-/
import Derived.Test.YtecimgkgdpnaeaaDoorGFnExactCommitVals17
import Derived.Test.YtecimgkgdpnaeaaDoorGFnExactCommitVals2
import Derived.Test.YtecimgkgdpnaeaaDoorGFnExactCommitVals16
import Derived.Test.YtecimgkgdpnaeaaDoorGFnExactCommitVals9
import Derived.Deep.RegionHeld3
import Derived.Deep.RegionWith
import Derived.Test.YtecimgkgdpnaeaaDoorGFnExactCommitVals10
/-
  Hash-based signatures, votes' signatures, identifiers: what the functions return. No program in sight.
-/
namespace Go.Proofs.YtecimgkgdpnaeaaDoor
set_option linter.unusedVariables false
set_option linter.unusedSimpArgs false

def linkS (c step : Int) (x : List UInt8) : List UInt8 := if inB c 0 10 && inB step 1 3 then shortS ([2, UInt8.ofNat c.toNat, UInt8.ofNat step.toNat] ++ x) else []
def secretS (seed : List UInt8) (leaf c : Int) : List UInt8 := if inB leaf 0 3 && inB c 0 10 then shortS ([3, UInt8.ofNat leaf.toNat, UInt8.ofNat c.toNat] ++ seed) else []
/-- So many links behind a step. -/
def linksN (c a : Int) (x : List UInt8) : Nat → List UInt8
  | 0 => x
  | k + 1 => linkS c (a + k + 1) (linksN c a x k)
theorem linkS_len (c step : Int) (x : List UInt8) : (linkS c step x).length ≤ 8 := by unfold linkS; split <;> simp
theorem secretS_len (seed : List UInt8) (leaf c : Int) : (secretS seed leaf c).length ≤ 8 := by unfold secretS; split <;> simp
theorem linksN_len (c a : Int) (x : List UInt8) (k : Nat) : (linksN c a x k).length ≤ 8 + x.length := by
  cases k with
  | zero => simp [linksN]
  | succ k => have := linkS_len c (a + k + 1) (linksN c a x k); rw [linksN]; omega
def pubAll (seed : List UInt8) (leaf : Int) : Nat → List UInt8
  | 0 => []
  | c + 1 => pubAll seed leaf c ++ linksN c 0 (secretS seed leaf c) 3
theorem pubAll_len (seed : List UInt8) (leaf : Int) (c : Nat) : (pubAll seed leaf c).length ≤ 16 * c := by
  induction c with
  | zero => simp [pubAll]
  | succ c ih =>
    have h1 := linksN_len c 0 (secretS seed leaf c) 3
    have h2 := secretS_len seed leaf c
    rw [pubAll, List.length_append]
    omega
def pubS (seed : List UInt8) (leaf : Int) : List UInt8 := if inB leaf 0 3 then shortS (pubAll seed leaf 11) else []
theorem pubS_len (seed : List UInt8) (leaf : Int) : (pubS seed leaf).length ≤ 8 := by unfold pubS; split <;> simp
def pubsS (seed : List UInt8) : List (List UInt8) := [pubS seed 0, pubS seed 1, pubS seed 2, pubS seed 3]
def hsRootS (seed : List UInt8) : List UInt8 := treeRootS (pubsS seed)
/-- Digit i of a message. -/
def digN (h : List UInt8) (i : Nat) : Nat := (h.getD (i / 4) 0).toNat / 2 ^ (6 - 2 * (i % 4)) % 4
def digs (h : List UInt8) : Nat → List Nat
  | 0 => []
  | i + 1 => digs h i ++ [digN h i]
def digSum (h : List UInt8) : Nat → Nat
  | 0 => 24
  | i + 1 => digSum h i - digN h i
theorem digN_lt (h : List UInt8) (i : Nat) : digN h i ≤ 3 := by unfold digN; omega
theorem digs_len (h : List UInt8) (i : Nat) : (digs h i).length = i := by
  induction i with
  | zero => rfl
  | succ i ih => simp [digs, ih]
theorem digSum_bound (h : List UInt8) (i : Nat) (hi : i ≤ 8) : 24 - 3 * i ≤ digSum h i ∧ digSum h i ≤ 24 := by
  induction i with
  | zero => simp [digSum]
  | succ i ih => have := digN_lt h i; have := ih (by omega); rw [digSum]; omega
def digitsS (msg : List UInt8) : List Nat := digs (shaS msg) 8 ++ [digSum (shaS msg) 8 / 16, digSum (shaS msg) 8 / 4 % 4, digSum (shaS msg) 8 % 4]
theorem digitsS_len (msg : List UInt8) : (digitsS msg).length = 11 := by simp [digitsS, digs_len]
theorem digs_le (h : List UInt8) (i : Nat) : ∀ d ∈ digs h i, d ≤ 3 := by
  induction i with
  | zero => simp [digs]
  | succ i ih =>
    intro d hd
    rcases List.mem_append.1 hd with hd | hd
    · exact ih d hd
    · rw [List.mem_singleton.1 hd]; exact digN_lt h i
theorem digitsS_le (msg : List UInt8) : ∀ d ∈ digitsS msg, d ≤ 3 := by
  intro d hd
  have := digSum_bound (shaS msg) 8 (by omega)
  rcases List.mem_append.1 hd with hd | hd
  · exact digs_le _ _ d hd
  · simp at hd; omega
def signAll (seed : List UInt8) (leaf : Int) (ds : List Nat) : Nat → List UInt8
  | 0 => []
  | c + 1 => signAll seed leaf ds c ++ linksN c 0 (secretS seed leaf c) (ds.getD c 0)
theorem signAll_len (seed : List UInt8) (leaf : Int) (ds : List Nat) (c : Nat) : (signAll seed leaf ds c).length ≤ 16 * c := by
  induction c with
  | zero => simp [signAll]
  | succ c ih =>
    have h1 := linksN_len c 0 (secretS seed leaf c) (ds.getD c 0)
    have h2 := secretS_len seed leaf c
    rw [signAll, List.length_append]
    omega
def hsSignS (seed : List UInt8) (leaf : Int) (msg : List UInt8) : List UInt8 :=
  if inB leaf 0 3 then signAll seed leaf (digitsS msg) 11 ++ [UInt8.ofNat leaf.toNat] ++ (treePathS (pubsS seed) leaf).flatten else []
def checkAll (sig : List UInt8) (ds : List Nat) : Nat → List UInt8
  | 0 => []
  | c + 1 => checkAll sig ds c ++ linksN c (ds.getD c 0) ((sig.drop (8 * c)).take 8) (3 - ds.getD c 0)
theorem checkAll_len (sig : List UInt8) (ds : List Nat) (c : Nat) : (checkAll sig ds c).length ≤ 16 * c := by
  induction c with
  | zero => simp [checkAll]
  | succ c ih =>
    have h1 := linksN_len c (ds.getD c 0) ((sig.drop (8 * c)).take 8) (3 - ds.getD c 0)
    have h2 : ((sig.drop (8 * c)).take 8).length ≤ 8 := by simp; omega
    rw [checkAll, List.length_append]
    omega
def hsCheckB (root msg sig : List UInt8) : Bool :=
  if sig.length = 153 ∧ (sig.getD 88 0).toNat < 4 then includesS root (shortS (checkAll sig (digitsS msg) 11)) ((sig.getD 88 0).toNat : Int) 4 [(sig.drop 89).take 32, sig.drop 121] else false
def signAsS (val : Int) (d : List UInt8) : List UInt8 := if inB val 1 99 then shortS (4 :: (fixedS val 2 ++ d)) else []
theorem signAsS_len (val : Int) (d : List UInt8) : (signAsS val d).length ≤ 8 := by unfold signAsS; split <;> simp
end Go.Proofs.YtecimgkgdpnaeaaDoor

/-
  Short: both sides.
-/
namespace Go.Proofs.YtecimgkgdpnaeaaDoor
open Go.ChangeShapes Go.WideShapes Go.ChangeAt Go.RowKit
set_option linter.unusedVariables false
set_option linter.unusedSimpArgs false
set_option maxRecDepth 100000

theorem S_cons1 (c : UInt8) (l : List UInt8) : ByteArray.mk #[c] ++ S l = S (c :: l) := by rw [show ByteArray.mk #[c] = S [c] from rfl, S_append]; rfl
theorem take8 (l : List UInt8) (h : l.length = 32) : (S l).extract 0 8 = S (l.take 8) := by rw [S_take]; simp
theorem sShort_any (l : List UInt8) (w : World) (hl : l.length ≤ 4194304) :
    Calls Tryd.prog 64 #[.string (S l)] w fun e w' => e = .returned (.string (S (shortS l))) ∧ Below w.heap.size w w' := by
  have hb := Below.refl w.heap.size w
  have HV := Lib.hid (sSha_any l w hl)
  have hE := take8 (shaS l) (shaS_len l)
  have hn := shaS_len l
  go_enter Tryd.func64, Tryd.ntmps64
  go_wp2_with (go_at_call 93; refine (HV.out).mono ?_; rintro e wn ⟨rfl, hbn⟩; have hb := Below.next (w := w) (by repeat (first | with_reducible exact hb | with_reducible exact Below.refl _ _ | refine Below.drew ?_ | refine Below.setCell ?_ (by simp <;> omega) _ | refine Below.alloc ?_ (by simp <;> omega) _)) hbn; clear hbn)
  go_ret
  exact ⟨rfl, hb⟩
theorem iShort_any (l : List UInt8) (w : World) (hl : l.length ≤ 4194304) (hK : HasK w) :
    Calls Tryd.prog 63 #[.string (S l)] w fun e w' => e = .returned (.string (S (shortS l))) ∧ Below w.heap.size w w' := by
  have hb := Below.refl w.heap.size w
  have HV := Lib.hid (iSha_any l w hl hK)
  have hE := take8 (shaS l) (shaS_len l)
  have hn := shaS_len l
  clear hK
  go_enter Tryd.func63, Tryd.ntmps63
  go_wp2_with (go_at_call 92; refine (HV.out).mono ?_; rintro e wn ⟨rfl, hbn⟩; have hb := Below.next (w := w) (by repeat (first | with_reducible exact hb | with_reducible exact Below.refl _ _ | refine Below.drew ?_ | refine Below.setCell ?_ (by simp <;> omega) _ | refine Below.alloc ?_ (by simp <;> omega) _)) hbn; clear hbn)
  go_ret
  exact ⟨rfl, hb⟩
end Go.Proofs.YtecimgkgdpnaeaaDoor

/-
  SignAs: both sides.
-/
namespace Go.Proofs.YtecimgkgdpnaeaaDoor
open Go.ChangeShapes Go.WideShapes Go.ChangeAt Go.RowKit
set_option linter.unusedVariables false
set_option linter.unusedSimpArgs false
set_option maxRecDepth 100000

/-! SignAs. -/
theorem sSignAs_any (v : Int) (d : List UInt8) (w : World) (hl : d.length ≤ 4194000) :
    Calls Tryd.prog 95 #[.int .i64 v, .string (S d)] w fun e w' => e = .returned (.string (S (signAsS v d))) ∧ Below w.heap.size w w' := by
  have hb := Below.refl w.heap.size w
  by_cases h1 : inB v 1 99 = true
  · have HV : Hid (signAsS v d = shortS (4 :: (fixedS v 2 ++ d))) := by unfold Hid signAsS; rw [h1]; rfl
    obtain ⟨b1, b2⟩ := inB_true h1
    have hS := S_cons1 4 (fixedS v 2)
    have hfl : (fixedS v 2).length ≤ 7 := by unfold fixedS; split <;> simp
    have HF := Lib.hid fun W : World => sFixed_any v 2 W (by omega)
    have HSH := Lib.hid fun W : World => sShort_any (4 :: (fixedS v 2 ++ d)) W (by simp; omega)
    generalize fixedS v 2 = f at *
    go_enter Tryd.func95, Tryd.ntmps95
    go_wp2_with (first | (go_at_call 58; refine (l1In_b _ _ _ _).mono ?_; rintro e w' ⟨rfl, rfl⟩) | (go_at_call 115; refine (HF.out _).mono ?_; rintro e wn ⟨rfl, hbn⟩; have hb := Below.next (w := w) (by repeat (first | with_reducible exact hb | with_reducible exact Below.refl _ _ | refine Below.drew ?_ | refine Below.setCell ?_ (by simp <;> omega) _ | refine Below.alloc ?_ (by simp <;> omega) _)) hbn; clear hbn) | (go_at_call 64; refine (HSH.out _).mono ?_; rintro e wn ⟨rfl, hbn⟩; have hb := Below.next (w := w) (by repeat (first | with_reducible exact hb | with_reducible exact Below.refl _ _ | refine Below.drew ?_ | refine Below.setCell ?_ (by simp <;> omega) _ | refine Below.alloc ?_ (by simp <;> omega) _)) hbn; clear hbn))
    go_ret
    exact ⟨ret_string (by rw [HV.out]), hb⟩
  · have h1' : inB v 1 99 = false := by simpa using h1
    have HV : Hid (signAsS v d = []) := by unfold Hid signAsS; rw [h1']; rfl
    clear h1
    go_enter Tryd.func95, Tryd.ntmps95
    go_wp2_with (go_at_call 58; refine (l1In_b _ _ _ _).mono ?_; rintro e w' ⟨rfl, rfl⟩)
    go_ret
    exact ⟨ret_string (by rw [HV.out]; rfl), hb⟩
theorem isVal_in (x : Int) (w : World) :
    Calls Tryd.prog 57 #[.int .i64 x] w fun e w' => e = .returned (.bool (inB x 1 99)) ∧ w = w' := by
  go_enter Tryd.func57, Tryd.ntmps57
  go_wp2_with (go_at_call 55; refine (within_b _ _ _ _).mono ?_; rintro e w' ⟨rfl, rfl⟩)
  go_ret
  exact ⟨rfl, rfl⟩
theorem iSignAs_any (v : Int) (d : List UInt8) (w : World) (hl : d.length ≤ 4194000) (hK : HasK w) :
    Calls Tryd.prog 99 #[.int .i64 v, .string (S d)] w fun e w' => e = .returned (.string (S (signAsS v d))) ∧ Below w.heap.size w w' := by
  have hb := Below.refl w.heap.size w
  have HK := Lib.hid hK
  clear hK
  by_cases h1 : inB v 1 99 = true
  · have HV : Hid (signAsS v d = shortS (4 :: (fixedS v 2 ++ d))) := by unfold Hid signAsS; rw [h1]; rfl
    obtain ⟨b1, b2⟩ := inB_true h1
    have hS := S_cons1 4 (fixedS v 2)
    have hfl : (fixedS v 2).length ≤ 7 := by unfold fixedS; split <;> simp
    have HF := Lib.hid fun W : World => iFixed_any v 2 W (by omega)
    have HSH := Lib.hid fun (W : World) (h : HasK W) => iShort_any (4 :: (fixedS v 2 ++ d)) W (by simp; omega) h
    generalize fixedS v 2 = f at *
    go_enter Tryd.func99, Tryd.ntmps99
    go_wp2_with (first | (go_at_call 57; refine (isVal_in _ _).mono ?_; rintro e w' ⟨rfl, rfl⟩) | (go_at_call 111; refine (HF.out _).mono ?_; rintro e wn ⟨rfl, hbn⟩; have hb := Below.next (w := w) (by repeat (first | with_reducible exact hb | with_reducible exact Below.refl _ _ | refine Below.drew ?_ | refine Below.setCell ?_ (by simp <;> omega) _ | refine Below.alloc ?_ (by simp <;> omega) _)) hbn; clear hbn) | (go_at_call 63; refine (HSH.out _ (HK.out.to hb)).mono ?_; rintro e wn ⟨rfl, hbn⟩; have hb := Below.next (w := w) (by repeat (first | with_reducible exact hb | with_reducible exact Below.refl _ _ | refine Below.drew ?_ | refine Below.setCell ?_ (by simp <;> omega) _ | refine Below.alloc ?_ (by simp <;> omega) _)) hbn; clear hbn))
    go_ret
    exact ⟨ret_string (by rw [HV.out]), hb⟩
  · have h1' : inB v 1 99 = false := by simpa using h1
    have HV : Hid (signAsS v d = []) := by unfold Hid signAsS; rw [h1']; rfl
    clear h1
    go_enter Tryd.func99, Tryd.ntmps99
    go_wp2_with (go_at_call 57; refine (isVal_in _ _).mono ?_; rintro e w' ⟨rfl, rfl⟩)
    go_ret
    exact ⟨ret_string (by rw [HV.out]; rfl), hb⟩
end Go.Proofs.YtecimgkgdpnaeaaDoor

/-
  Signed, both sides.
-/
namespace Go.Proofs.YtecimgkgdpnaeaaDoor
open Go.ChangeShapes Go.WideShapes Go.ChangeAt Go.RowKit
set_option linter.unusedVariables false
set_option linter.unusedSimpArgs false
set_option maxRecDepth 100000

/-- What Signed returns. -/
def signedB (x : VoteT) (sig : List UInt8) : Bool := voteOkB x && sig == signAsS x.v (digestS x)
theorem digestS_len (x : VoteT) : (digestS x).length ≤ 60 := by
  unfold digestS
  cases hok : voteOkB x
  · simp
  · have q1 := varS_len x.h
    have q2 := varS_len x.r
    have q3 := varS_len x.s
    have hil : x.id.length ≤ 8 := by
      unfold voteOkB at hok
      simp only [Bool.and_eq_true] at hok
      have := hok.1.2
      unfold isIdB at this
      simp only [Bool.or_eq_true, beq_iff_eq] at this
      omega
    simp only [if_true, List.length_append]
    omega
/-- Five cells of block B are held over a call that makes memory. -/
theorem held5 {w cur wm : World} {B : Nat} {u0 u1 u2 u3 u4 : Value}
    (H : Below w.heap.size w cur ∧ B < cur.heap.size ∧ cur.cell? ⟨B, 0, none⟩ = some u0 ∧ cur.cell? ⟨B, 1, none⟩ = some u1 ∧ cur.cell? ⟨B, 2, none⟩ = some u2 ∧ cur.cell? ⟨B, 3, none⟩ = some u3 ∧ cur.cell? ⟨B, 4, none⟩ = some u4) (hb : Below cur.heap.size cur wm) :
    Below w.heap.size w wm ∧ B < wm.heap.size ∧ wm.cell? ⟨B, 0, none⟩ = some u0 ∧ wm.cell? ⟨B, 1, none⟩ = some u1 ∧ wm.cell? ⟨B, 2, none⟩ = some u2 ∧ wm.cell? ⟨B, 3, none⟩ = some u3 ∧ wm.cell? ⟨B, 4, none⟩ = some u4 := by
  obtain ⟨h1, h2, c0, c1, c2, c3, c4⟩ := H
  have k : ∀ i, wm.cell? ⟨B, i, none⟩ = cur.cell? ⟨B, i, none⟩ := fun i => hb.cell (p := ⟨B, i, none⟩) h2
  exact ⟨Below.next h1 hb, Nat.lt_of_lt_of_le h2 hb.size, (k 0).trans c0, (k 1).trans c1, (k 2).trans c2, (k 3).trans c3, (k 4).trans c4⟩

set_option maxHeartbeats 1600000 in
theorem iSigned_any (x : VoteT) (sig : List UInt8) (w : World) (hl : x.id.length ≤ 9223372036854775807) (hK : HasK w) :
    Calls Tryd.prog 68 #[x.val, .string (S sig)] w fun e w' => e = .returned (.bool (signedB x sig)) ∧ Below w.heap.size w w' := by
  have HK := Lib.hid hK
  clear hK
  have HO := Lib.hid fun (W : World) => iVoteOk_any x W hl
  have HD := Lib.hid fun (W : World) => iDigest_any x W hl
  have HS := Lib.hid fun (W : World) (h : HasK W) => iSignAs_any x.v (digestS x) W (by have := digestS_len x; omega) h
  have HV : Hid (signedB x sig = (voteOkB x && sig == signAsS x.v (digestS x))) := rfl
  generalize signAsS x.v (digestS x) = g at *
  generalize digestS x = d at *
  generalize signedB x sig = R at *
  generalize voteOkB x = ok at *
  obtain ⟨h, r, s, id, v⟩ := x
  have hv : VoteT.val ⟨h, r, s, id, v⟩ = .agg #[.int .i64 h, .int .i64 r, .int .i64 s, .string (S id), .int .i64 v] := rfl
  simp only [hv] at HO HD HS hl ⊢
  cases ok
  · go_enter Tryd.func68, Tryd.ntmps68
    go_wp2_with fail
    first | go_region_with (go_at_call 98; refine (HO.out _).mono ?_; rintro e wm ⟨rfl, hbm⟩) | fail
    all_goals
      have hbx : Below w.heap.size w wm := Below.next (((Below.refl _ _).alloc (Nat.le_refl _) _).drew) hbm
      go_wp2
      go_ret
      exact ⟨ret_bool (by rw [HV.out]; rfl), hbx⟩
  · by_cases hs : sig = g
    · have hbe : (sig == g) = true := by rw [hs]; simp
      clear hs
      go_enter Tryd.func68, Tryd.ntmps68
      go_wp2_with fail
      go_region_held3 (fun w' => Below w.heap.size w w' ∧ w.heap.size < w'.heap.size ∧ w'.cell? ⟨w.heap.size, 0, none⟩ = some (.int .i64 h) ∧ w'.cell? ⟨w.heap.size, 1, none⟩ = some (.int .i64 r) ∧ w'.cell? ⟨w.heap.size, 2, none⟩ = some (.int .i64 s) ∧ w'.cell? ⟨w.heap.size, 3, none⟩ = some (.string (S id)) ∧ w'.cell? ⟨w.heap.size, 4, none⟩ = some (.int .i64 v)) (first | exact ⟨((Below.refl _ _).alloc (Nat.le_refl _) _).drew, by simp, by go_simp, by go_simp, by go_simp, by go_simp, by go_simp⟩ | exact held5 (by assumption) hbm | go_keep)
        (first | (go_at_call 98; refine (HO.out _).mono ?_; rintro e wm ⟨rfl, hbm⟩) | (go_at_call 100; refine (HD.out _).mono ?_; rintro e wm ⟨rfl, hbm⟩) | (go_at_call 99; refine (HS.out _ (HK.out.to (And.left (by assumption)))).mono ?_; rintro e wm ⟨rfl, hbm⟩))
      all_goals
        have hbx : Below w.heap.size w wm := by apply And.left; assumption
        go_wp2
        go_ret
        exact ⟨ret_bool (by rw [HV.out, hbe]; rfl), hbx⟩
    · have hbe : (sig == g) = false := by simpa using hs
      clear hs
      go_enter Tryd.func68, Tryd.ntmps68
      go_wp2_with fail
      go_region_held3 (fun w' => Below w.heap.size w w' ∧ w.heap.size < w'.heap.size ∧ w'.cell? ⟨w.heap.size, 0, none⟩ = some (.int .i64 h) ∧ w'.cell? ⟨w.heap.size, 1, none⟩ = some (.int .i64 r) ∧ w'.cell? ⟨w.heap.size, 2, none⟩ = some (.int .i64 s) ∧ w'.cell? ⟨w.heap.size, 3, none⟩ = some (.string (S id)) ∧ w'.cell? ⟨w.heap.size, 4, none⟩ = some (.int .i64 v)) (first | exact ⟨((Below.refl _ _).alloc (Nat.le_refl _) _).drew, by simp, by go_simp, by go_simp, by go_simp, by go_simp, by go_simp⟩ | exact held5 (by assumption) hbm | go_keep)
        (first | (go_at_call 98; refine (HO.out _).mono ?_; rintro e wm ⟨rfl, hbm⟩) | (go_at_call 100; refine (HD.out _).mono ?_; rintro e wm ⟨rfl, hbm⟩) | (go_at_call 99; refine (HS.out _ (HK.out.to (And.left (by assumption)))).mono ?_; rintro e wm ⟨rfl, hbm⟩))
      all_goals
        have hbx : Below w.heap.size w wm := by apply And.left; assumption
        go_wp2
        go_ret
        exact ⟨ret_bool (by rw [HV.out, hbe]; rfl), hbx⟩


set_option maxHeartbeats 1600000 in
theorem sSigned_any (x : VoteT) (sig : List UInt8) (w : World) (hl : x.id.length ≤ 9223372036854775807) :
    Calls Tryd.prog 66 #[x.val, .string (S sig)] w fun e w' => e = .returned (.bool (signedB x sig)) ∧ Below w.heap.size w w' := by
  have HO := Lib.hid fun (W : World) => sVoteOk_any x W hl
  have HD := Lib.hid fun (W : World) => sDigest_any x W hl
  have HS := Lib.hid fun (W : World) => sSignAs_any x.v (digestS x) W (by have := digestS_len x; omega)
  have HV : Hid (signedB x sig = (voteOkB x && sig == signAsS x.v (digestS x))) := rfl
  generalize signAsS x.v (digestS x) = g at *
  generalize digestS x = d at *
  generalize signedB x sig = R at *
  generalize voteOkB x = ok at *
  obtain ⟨h, r, s, id, v⟩ := x
  have hv : VoteT.val ⟨h, r, s, id, v⟩ = .agg #[.int .i64 h, .int .i64 r, .int .i64 s, .string (S id), .int .i64 v] := rfl
  simp only [hv] at HO HD HS hl ⊢
  cases ok
  · go_enter Tryd.func66, Tryd.ntmps66
    go_wp2_with fail
    first | go_region_with (go_at_call 59; refine (HO.out _).mono ?_; rintro e wm ⟨rfl, hbm⟩) | fail
    all_goals
      have hbx : Below w.heap.size w wm := Below.next (((Below.refl _ _).alloc (Nat.le_refl _) _).drew) hbm
      go_wp2
      go_ret
      exact ⟨ret_bool (by rw [HV.out]; rfl), hbx⟩
  · by_cases hs : sig = g
    · have hbe : (sig == g) = true := by rw [hs]; simp
      clear hs
      go_enter Tryd.func66, Tryd.ntmps66
      go_wp2_with fail
      go_region_held3 (fun w' => Below w.heap.size w w' ∧ w.heap.size < w'.heap.size ∧ w'.cell? ⟨w.heap.size, 0, none⟩ = some (.int .i64 h) ∧ w'.cell? ⟨w.heap.size, 1, none⟩ = some (.int .i64 r) ∧ w'.cell? ⟨w.heap.size, 2, none⟩ = some (.int .i64 s) ∧ w'.cell? ⟨w.heap.size, 3, none⟩ = some (.string (S id)) ∧ w'.cell? ⟨w.heap.size, 4, none⟩ = some (.int .i64 v)) (first | exact ⟨((Below.refl _ _).alloc (Nat.le_refl _) _).drew, by simp, by go_simp, by go_simp, by go_simp, by go_simp, by go_simp⟩ | exact held5 (by assumption) hbm | go_keep)
        (first | (go_at_call 59; refine (HO.out _).mono ?_; rintro e wm ⟨rfl, hbm⟩) | (go_at_call 96; refine (HD.out _).mono ?_; rintro e wm ⟨rfl, hbm⟩) | (go_at_call 95; refine (HS.out _).mono ?_; rintro e wm ⟨rfl, hbm⟩))
      all_goals
        have hbx : Below w.heap.size w wm := by apply And.left; assumption
        go_wp2
        go_ret
        exact ⟨ret_bool (by rw [HV.out, hbe]; rfl), hbx⟩
    · have hbe : (sig == g) = false := by simpa using hs
      clear hs
      go_enter Tryd.func66, Tryd.ntmps66
      go_wp2_with fail
      go_region_held3 (fun w' => Below w.heap.size w w' ∧ w.heap.size < w'.heap.size ∧ w'.cell? ⟨w.heap.size, 0, none⟩ = some (.int .i64 h) ∧ w'.cell? ⟨w.heap.size, 1, none⟩ = some (.int .i64 r) ∧ w'.cell? ⟨w.heap.size, 2, none⟩ = some (.int .i64 s) ∧ w'.cell? ⟨w.heap.size, 3, none⟩ = some (.string (S id)) ∧ w'.cell? ⟨w.heap.size, 4, none⟩ = some (.int .i64 v)) (first | exact ⟨((Below.refl _ _).alloc (Nat.le_refl _) _).drew, by simp, by go_simp, by go_simp, by go_simp, by go_simp, by go_simp⟩ | exact held5 (by assumption) hbm | go_keep)
        (first | (go_at_call 59; refine (HO.out _).mono ?_; rintro e wm ⟨rfl, hbm⟩) | (go_at_call 96; refine (HD.out _).mono ?_; rintro e wm ⟨rfl, hbm⟩) | (go_at_call 95; refine (HS.out _).mono ?_; rintro e wm ⟨rfl, hbm⟩))
      all_goals
        have hbx : Below w.heap.size w wm := by apply And.left; assumption
        go_wp2
        go_ret
        exact ⟨ret_bool (by rw [HV.out, hbe]; rfl), hbx⟩
end Go.Proofs.YtecimgkgdpnaeaaDoor
