/-
  Texts of this proof, laid into one: Frame2, Hdr0, LawC, Scan1.
-/
import Derived.Test.YtecimgkgdpnaeaaDoorGFnHeaders5
import Derived.Test.YtecimgkgdpnaeaaDoorGFnHeaders1
import Derived.Test.YtecimgkgdpnaeaaDoorGFnHeaders4
import Derived.Test.YtecimgkgdpnaeaaDoorGFnHeaders10
import Derived.RegionTactic
import Derived.BigRegion
import Derived.Deep.RegionWith
import Derived.Test.YtecimgkgdpnaeaaDoorGFnHeaders2
import Derived.Test.YtecimgkgdpnaeaaDoorGFnHeaders9
/-
  Arguments opened, more: bytes, texts, commits.
-/
namespace Go.Proofs.YtecimgkgdpnaeaaDoor
open Go.ChangeShapes Go.WideShapes Go.ChangeAt Go.RowKit
set_option linter.unusedVariables false
section
open Go.Joins Go.Deep
variable {H : Type} {enc : TypeId × Value → H} {P : Program} {w : World} {base : Nat} {spare : Nat → Bool} {held : Bool}
theorem cell_u8 {ft : TypeId} {n : Nat} {c : Value} {y : DataW H × List MemPlace} (hu : P.underlying ft = some (.int .u8)) (h : DataW.trod enc P w base spare held n ft [c] = some y) : ∃ a : UInt8, c = .int .u8 (a.toNat : Int) := by
  obtain ⟨a, e, _, hw⟩ := DataW.trod_int hu h
  simp at e
  simp only [Lit.wf, Bool.and_eq_true, decide_eq_true_eq] at hw
  have h1 : 0 ≤ a := hw.1
  have h2 : a ≤ 255 := hw.2
  refine ⟨UInt8.ofNat a.toNat, ?_⟩
  rw [e, UInt8.toNat_ofNat', Nat.mod_eq_of_lt (by omega)]
  congr 1
  omega
theorem in_bytes {r : Reach} {b0 : Nat} {t e : TypeId} {v : Value} {d : DataW H} {p : List MemPlace} (ht : P.underlying t = some (.slice e)) (he : P.underlying e = some (.int .u8)) (hC : P.cellsOf e = 1)
    (hv : Value.okWide P w r b0 t v) (h : DataW.Trod enc P w base spare held t v d p) (hlt : ∀ x ∈ p, x.block < w.heap.size) :
    ∃ (A : Option Addr) (c : Nat) (l : List UInt8), v = .slice A l.length c ∧ l.length ≤ 9223372036854775807 ∧ BReads w w.heap.size A l := by
  obtain ⟨A, n, c, rfl⟩ := okWide_slice ht hv
  obtain ⟨fuel, hf⟩ := h
  rcases open_slice ht hf with ⟨hcs, _⟩ | ⟨a, len, cap, m, n', D, Pl, hcs, hb, hl, hm, hmm, hx, hi⟩
  · simp [Value.cells] at hcs
    obtain ⟨rfl, rfl, rfl⟩ := hcs
    exact ⟨none, 0, [], rfl, by simp, fun h => absurd h (by simp)⟩
  · simp [Value.cells] at hcs
    obtain ⟨rfl, rfl, rfl⟩ := hcs
    have hlm : n ≤ m := by rw [hmm]; split <;> omega
    have key : ∀ i, i < n → ∃ x : UInt8, w.cell? (a.add i) = some (.int .u8 (x.toNat : Int)) := by
      intro i hin
      obtain ⟨cs', hc, ht'⟩ := hi i (by omega)
      rw [hC, Nat.mul_one] at hc
      obtain ⟨_, hcl, hat⟩ := World.cells?_some hc
      match cs', hcl with
      | [z0], _ =>
        obtain ⟨x0, rfl⟩ := cell_u8 he ht'
        have h0 := hat 0 (by omega)
        rw [Go.Deep.add_add] at h0
        exact ⟨x0, h0⟩
    obtain ⟨f, hfk⟩ : ∃ f : Nat → UInt8, ∀ i, i < n → w.cell? (a.add i) = some (.int .u8 ((f i).toNat : Int)) := ⟨fun i => if h : i < n then Classical.choose (key i h) else 0, fun i h => by simp only [dif_pos h]; exact Classical.choose_spec (key i h)⟩
    clear key
    refine ⟨some a, c, (List.range n).map f, by simp, by simp; unfold maxLen at hm; omega, fun hn => ?_⟩
    simp only [List.length_map, List.length_range] at hn
    have hsp := spot_none (hfk 0 hn)
    obtain ⟨b, o, s⟩ := a
    have hs : s = none := by
      have : ((⟨b, o, s⟩ : Addr).add 0).spot = s := by simp [Addr.add]
      rw [this] at hsp
      exact hsp
    subst hs
    have hbl : b < w.heap.size := by
      have := World.block_lt_of_cell? w _ (hfk 0 hn)
      rw [block_of_add] at this
      exact this
    refine ⟨b, o, rfl, hbl, fun j hj => ?_⟩
    simp only [List.length_map, List.length_range] at hj
    have hk := hfk j hj
    rw [plain_add] at hk
    rw [List.getElem_map, List.getElem_range]
    exact hk

theorem in_strings {r : Reach} {b0 : Nat} {t e : TypeId} {v : Value} {d : DataW H} {p : List MemPlace} (ht : P.underlying t = some (.slice e)) (he : P.underlying e = some .string) (hC : P.cellsOf e = 1)
    (hv : Value.okWide P w r b0 t v) (h : DataW.Trod enc P w base spare held t v d p) (hlt : ∀ x ∈ p, x.block < w.heap.size) :
    ∃ (A : Option Addr) (c : Nat) (l : List (List UInt8)), v = .slice A l.length c ∧ l.length ≤ 9223372036854775807 ∧ (∀ x ∈ l, x.length ≤ 9223372036854775807) ∧ TReads w w.heap.size A l := by
  obtain ⟨A, n, c, rfl⟩ := okWide_slice ht hv
  obtain ⟨fuel, hf⟩ := h
  rcases open_slice ht hf with ⟨hcs, _⟩ | ⟨a, len, cap, m, n', D, Pl, hcs, hb, hl, hm, hmm, hx, hi⟩
  · simp [Value.cells] at hcs
    obtain ⟨rfl, rfl, rfl⟩ := hcs
    exact ⟨none, 0, [], rfl, by simp, by simp, fun h => absurd h (by simp)⟩
  · simp [Value.cells] at hcs
    obtain ⟨rfl, rfl, rfl⟩ := hcs
    have hlm : n ≤ m := by rw [hmm]; split <;> omega
    have key : ∀ i, i < n → ∃ x : List UInt8, w.cell? (a.add i) = some (.string (S x)) ∧ x.length ≤ 9223372036854775807 := by
      intro i hin
      obtain ⟨cs', hc, ht'⟩ := hi i (by omega)
      rw [hC, Nat.mul_one] at hc
      obtain ⟨_, hcl, hat⟩ := World.cells?_some hc
      match cs', hcl with
      | [z0], _ =>
        obtain ⟨x0, rfl, hx0⟩ := cell_string he ht'
        have h0 := hat 0 (by omega)
        rw [Go.Deep.add_add] at h0
        exact ⟨x0, h0, hx0⟩
    obtain ⟨f, hfk0⟩ : ∃ f : Nat → List UInt8, ∀ i, i < n → w.cell? (a.add i) = some (.string (S (f i))) ∧ (f i).length ≤ 9223372036854775807 := ⟨fun i => if h : i < n then Classical.choose (key i h) else [], fun i h => by simp only [dif_pos h]; exact Classical.choose_spec (key i h)⟩
    clear key
    have hfk := fun i h => (hfk0 i h).1
    refine ⟨some a, c, (List.range n).map f, by simp, by simp; unfold maxLen at hm; omega, fun x hx => ?_, fun hn => ?_⟩
    · obtain ⟨i, hi, rfl⟩ := List.mem_map.1 hx
      exact (hfk0 i (by simpa using hi)).2
    simp only [List.length_map, List.length_range] at hn
    have hsp := spot_none (hfk 0 hn)
    obtain ⟨b, o, s⟩ := a
    have hs : s = none := by
      have : ((⟨b, o, s⟩ : Addr).add 0).spot = s := by simp [Addr.add]
      rw [this] at hsp
      exact hsp
    subst hs
    have hbl : b < w.heap.size := by
      have := World.block_lt_of_cell? w _ (hfk 0 hn)
      rw [block_of_add] at this
      exact this
    refine ⟨b, o, rfl, hbl, fun j hj => ?_⟩
    simp only [List.length_map, List.length_range] at hj
    have hk := hfk j hj
    rw [plain_add] at hk
    rw [List.getElem_map, List.getElem_range]
    exact hk

theorem sigs_of_trod {t e : TypeId} {f0 f1 : Field} {v : Value} {fuel : Nat} {y : DataW H × List MemPlace} (ht : P.underlying t = some (.slice e)) (he : P.underlying e = some (.struct #[f0, f1]))
    (u0 : P.underlying f0.type = some (.int .i64)) (u1 : P.underlying f1.type = some .string) (hone : oneCellFields P #[f0, f1] = true) (hC : P.cellsOf e = 2)
    (hf : DataW.trod enc P w base spare held fuel t [v] = some y) :
    ∃ (A : Option Addr) (c : Nat) (l : List SigT), v = .slice A l.length c ∧ l.length ≤ 9223372036854775807 ∧ (∀ x ∈ l, x.sig.length ≤ 9223372036854775807) ∧ SReads w w.heap.size A l := by
  rcases open_slice ht hf with ⟨hcs, _⟩ | ⟨a, len, cap, m, n', D, Pl, hcs, hb, hl, hm, hmm, hx, hi⟩
  · obtain rfl : v = .slice none 0 0 := by simpa using hcs
    exact ⟨none, 0, [], rfl, by simp, by simp, fun h => absurd h (by simp)⟩
  · obtain rfl : v = .slice (some a) len cap := by simpa using hcs
    obtain ⟨n, rfl⟩ : ∃ n, n = len := ⟨_, rfl⟩
    obtain ⟨c, rfl⟩ : ∃ c, c = cap := ⟨_, rfl⟩
    have hlm : n ≤ m := by rw [hmm]; split <;> omega
    have key : ∀ i, i < n → ∃ x : SigT, w.cell? (a.add (i * 2)) = some (.int .i64 x.val) ∧ w.cell? (a.add (i * 2 + 1)) = some (.string (S x.sig)) ∧ x.sig.length ≤ 9223372036854775807 := by
      intro i hin
      obtain ⟨cs', hc, ht'⟩ := hi i (by omega)
      rw [hC] at hc
      obtain ⟨ys, n2, hn', hy, hlen, hyl, hg⟩ := DataW.trod_struct he ht'
      obtain ⟨_, hcl, hat⟩ := World.cells?_some hc
      obtain ⟨o0, k0⟩ := hone_of hone 0 f0 rfl
      obtain ⟨o1, k1⟩ := hone_of hone 1 f1 rfl
      match cs', hcl with
      | [z0, z1], _ =>
        match ys, hyl with
        | [y0, y1], _ =>
          have e0 : DataW.trod enc P w base spare held n2 f0.type [z0] = some y0 := by simpa [o0, k0] using hg 0 f0 rfl
          have e1 : DataW.trod enc P w base spare held n2 f1.type [z1] = some y1 := by simpa [o1, k1] using hg 1 f1 rfl
          obtain ⟨x0, rfl, _, _⟩ := cell_int u0 e0
          obtain ⟨x1, rfl, hx1⟩ := cell_string u1 e1
          have h0 := hat 0 (by omega)
          have h1 := hat 1 (by omega)
          rw [Go.Deep.add_add] at h0 h1
          exact ⟨⟨x0, x1⟩, h0, h1, hx1⟩
    obtain ⟨f, hfk⟩ : ∃ f : Nat → SigT, ∀ i, i < n → w.cell? (a.add (i * 2)) = some (.int .i64 (f i).val) ∧ w.cell? (a.add (i * 2 + 1)) = some (.string (S (f i).sig)) ∧ (f i).sig.length ≤ 9223372036854775807 := ⟨fun i => if h : i < n then Classical.choose (key i h) else ⟨0, []⟩, fun i h => by simp only [dif_pos h]; exact Classical.choose_spec (key i h)⟩
    clear key
    refine ⟨some a, c, (List.range n).map f, by simp, by simp; unfold maxLen at hm; omega, fun x hx => ?_, fun hn => ?_⟩
    · obtain ⟨i, hi, rfl⟩ := List.mem_map.1 hx
      exact (hfk i (by simpa using hi)).2.2
    simp only [List.length_map, List.length_range] at hn
    have hsp := spot_none (hfk 0 hn).1
    obtain ⟨b, o, s⟩ := a
    have hs : s = none := by
      have : ((⟨b, o, s⟩ : Addr).add (0 * 2)).spot = s := by simp [Addr.add]
      rw [this] at hsp
      exact hsp
    subst hs
    have hbl : b < w.heap.size := by
      have := World.block_lt_of_cell? w _ (hfk 0 hn).1
      rw [block_of_add] at this
      exact this
    refine ⟨b, o, rfl, hbl, fun j hj => ?_⟩
    simp only [List.length_map, List.length_range] at hj
    have hk := hfk j hj
    rw [plain_add, plain_add] at hk
    rw [List.getElem_map, List.getElem_range]
    exact ⟨hk.1, by rw [Nat.add_assoc]; exact hk.2.1⟩


theorem in_commit {r : Reach} {b0 : Nat} {t e : TypeId} {f0 f1 f2 f3 g0 g1 : Field} {v : Value} {d : DataW H} {p : List MemPlace} (hs : P.underlying t = some (.struct #[f0, f1, f2, f3])) (u0 : P.underlying f0.type = some (.int .i64)) (u1 : P.underlying f1.type = some (.int .i64)) (u2 : P.underlying f2.type = some .string) (u3 : P.underlying f3.type = some (.slice e))
    (he : P.underlying e = some (.struct #[g0, g1])) (v0 : P.underlying g0.type = some (.int .i64)) (v1 : P.underlying g1.type = some .string) (hone : oneCellFields P #[f0, f1, f2, f3] = true) (hone2 : oneCellFields P #[g0, g1] = true) (hC : P.cellsOf t = 4) (hC2 : P.cellsOf e = 2)
    (hv : Value.okWide P w r b0 t v) (h : DataW.Trod enc P w base spare held t v d p) :
    ∃ (x : CommitT) (A : Option Addr) (c : Nat), v = .agg #[.int .i64 x.h, .int .i64 x.r, .string (S x.id), .slice A x.sigs.length c] ∧ (-9223372036854775808 ≤ x.h ∧ x.h ≤ 9223372036854775807 ∧ -9223372036854775808 ≤ x.r ∧ x.r ≤ 9223372036854775807 ∧ x.id.length ≤ 9223372036854775807) ∧ x.sigs.length ≤ 9223372036854775807 ∧ (∀ s ∈ x.sigs, s.sig.length ≤ 9223372036854775807) ∧ SReads w w.heap.size A x.sigs := by
  obtain ⟨cs, rfl, hsz⟩ := okWide_struct hs hv
  obtain ⟨l⟩ := cs
  match l, hsz.trans hC with
  | [c0, c1, c2, c3], _ =>
    obtain ⟨fuel, hf⟩ := h
    obtain ⟨xs, n, _, hx, _, hlen, hg⟩ := DataW.trod_struct hs hf
    obtain ⟨o0, k0⟩ := hone_of hone 0 f0 rfl
    obtain ⟨o1, k1⟩ := hone_of hone 1 f1 rfl
    obtain ⟨o2, k2⟩ := hone_of hone 2 f2 rfl
    obtain ⟨o3, k3⟩ := hone_of hone 3 f3 rfl
    match xs, hlen with
    | [y0, y1, y2, y3], _ =>
      have e0 : DataW.trod enc P w base spare held n f0.type [c0] = some y0 := by simpa [Value.cells, o0, k0] using hg 0 f0 rfl
      have e1 : DataW.trod enc P w base spare held n f1.type [c1] = some y1 := by simpa [Value.cells, o1, k1] using hg 1 f1 rfl
      have e2 : DataW.trod enc P w base spare held n f2.type [c2] = some y2 := by simpa [Value.cells, o2, k2] using hg 2 f2 rfl
      have e3 : DataW.trod enc P w base spare held n f3.type [c3] = some y3 := by simpa [Value.cells, o3, k3] using hg 3 f3 rfl
      obtain ⟨a0, rfl, l0, m0⟩ := cell_int u0 e0
      obtain ⟨a1, rfl, l1, m1⟩ := cell_int u1 e1
      obtain ⟨a2, rfl, l2⟩ := cell_string u2 e2
      obtain ⟨A, c, ss, rfl, s1, s2, s3⟩ := sigs_of_trod u3 he v0 v1 hone2 hC2 e3
      exact ⟨⟨a0, a1, a2, ss⟩, A, c, rfl, ⟨l0, m0, l1, m1, l2⟩, s1, s2, s3⟩

end
end Go.Proofs.YtecimgkgdpnaeaaDoor

/-
  What is written is read back, and nothing else is accepted: headers and commits. No program in sight.
-/
namespace Go.Proofs.YtecimgkgdpnaeaaDoor
set_option linter.unusedVariables false
set_option linter.unusedSimpArgs false

theorem readHead_law {l : List UInt8} (h : (readHeadS l).2 = true) : showHeadS (readHeadS l).1 = l := by
  unfold readHeadS at h ⊢
  by_cases hc : (headP l).2.2 = false ∧ showHeadS (headP l).1 = l ∧ l ≠ []
  · rw [if_pos hc]; exact hc.2.1
  · rw [if_neg hc] at h; cases h
theorem showHead_no {x : HeadT} (h : headOkB x = false) : showHeadS x = [] := by
  unfold showHeadS; rw [h]; rfl
theorem readHead_nil : (readHeadS []).2 = false := by
  unfold readHeadS; rw [if_neg (fun h => h.2.2 rfl)]
theorem readHead_is (x : HeadT) : (readHeadS (showHeadS x)).2 = headOkB x := by
  cases h : headOkB x
  · rw [showHead_no h]; exact readHead_nil
  · rw [readHead_show h]
theorem readCom_law {l : List UInt8} (h : (readComS l).2 = true) : showCommitS (readComS l).1 = l := by
  unfold readComS at h ⊢
  by_cases hc : (comN l).1 ≤ 12 ∧ (comP l).2.2 = false ∧ showCommitS (comP l).1 = l
  · rw [if_pos hc]; exact hc.2.2
  · rw [if_neg hc] at h; cases h
theorem readCom_nil : (readComS []).2 = false := by
  unfold readComS
  rw [if_neg (fun h => (comN_ne (comP_good h.2.1)).1 rfl)]
theorem readCom_is (x : CommitT) : (readComS (showCommitS x)).2 = !(showCommitS x == []) := by
  by_cases h : showCommitS x = []
  · rw [h, readCom_nil]; rfl
  · rw [readCom_show (showCom_ne h)]
    have : (showCommitS x == []) = false := by simpa using h
    rw [this]; rfl
theorem readCom_back {x : CommitT} (h : (readComS (showCommitS x)).2 = true) : (readComS (showCommitS x)).1 = x := by
  by_cases h0 : showCommitS x = []
  · rw [h0, readCom_nil] at h; cases h
  · rw [readCom_show (showCom_ne h0)]
end Go.Proofs.YtecimgkgdpnaeaaDoor

/-
  The laws' helpers over signatures of a commit: toCSig, toCSigS, eqCSig, eqCSigS.
-/
namespace Go.Proofs.YtecimgkgdpnaeaaDoor
open Go.ChangeShapes Go.WideShapes Go.ChangeAt Go.RowKit
set_option linter.unusedVariables false
set_option linter.unusedSimpArgs false
set_option maxRecDepth 100000

def SigT.cell (v : SigT) : Value := .agg #[.int .i64 v.val, .string (S v.sig)]
theorem info_csig : (Tryd.prog.info? 85).map (fun i => (i.zero, i.size, i.bytes)) = some (some (.agg #[.int .i64 0, .string ByteArray.empty]), 2, 24) := by kernel_rfl

theorem toCSig_any (v : SigT) (w : World) :
    Calls Tryd.prog 97 #[v.cell] w fun e w' => e = .returned v.cell ∧ Below w.heap.size w w' := by
  obtain ⟨i, p⟩ := v
  simp only [SigT.cell]
  go_enter Tryd.func97, Tryd.ntmps97
  go_wp2
  refine bodyPost_ret (v := .agg #[.int .i64 i, .string (S p)]) (by simp [results, Tryd.results97, go_sem]) rfl ⟨rfl, ?_⟩
  repeat (first | exact Below.refl _ _ | refine Below.setCell ?_ (by simp <;> omega) _ | refine Below.alloc ?_ (by simp <;> omega) _)

theorem eqCSig_same (i : Int) (p : List UInt8) (w : World) :
    Calls Tryd.prog 103 #[.agg #[.int .i64 i, .string (S p)], .agg #[.int .i64 i, .string (S p)]] w fun e w' => e = .returned (.bool true) ∧ Below w.heap.size w w' := by
  go_enter Tryd.func103, Tryd.ntmps103
  go_wp2
  go_ret
  refine ⟨rfl, ?_⟩
  repeat (first | exact Below.refl _ _ | refine Below.alloc ?_ (by simp <;> omega) _)

theorem scells_set (m : List SigT) : ∀ (k : Nat) (i : Int) (p : List UInt8), k < m.length → ((scells m).set (k * 2) (.int .i64 i)).set (k * 2 + 1) (.string (S p)) = scells (m.set k ⟨i, p⟩) := by
  induction m with
  | nil => intro k i p h; simp at h
  | cons v m ih =>
    intro k i p h
    match k, h with
    | 0, _ => rfl
    | k + 1, h =>
      rw [scells_cons, show (k + 1) * 2 = k * 2 + 1 + 1 from by omega]
      simp only [List.set_cons_succ, scells_cons]
      rw [ih k i p (by simpa using h)]
theorem scells_zeros (n : Nat) : (madeCells (Value.agg #[.int .i64 0, .string ByteArray.empty]).cells (n * 2)).toList = scells (List.replicate n ⟨0, []⟩) := by
  refine List.ext_getElem? fun j => ?_
  rcases Nat.lt_or_ge j (n * 2) with h | h
  · have hm : j / 2 < (List.replicate n (⟨0, []⟩ : SigT)).length := by simp; omega
    have h2 := scells_at (List.replicate n ⟨0, []⟩) (j / 2) hm
    rw [List.getElem?_eq_getElem (by simp [madeCells]; omega)]
    rcases Nat.mod_two_eq_zero_or_one j with hj | hj
    · have e : j / 2 * 2 = j := by omega
      rw [e] at h2
      rw [h2.1]
      simp [madeCells, Value.cells, hj]
    · have e : j / 2 * 2 + 1 = j := by omega
      rw [e] at h2
      rw [h2.2]
      simp [madeCells, Value.cells, hj]
      rfl
  · rw [List.getElem?_eq_none (by simp [madeCells]; omega), List.getElem?_eq_none (by rw [scells_length]; simp; omega)]
theorem fill_sig (l : List SigT) (k : Nat) (h : k < l.length) : (l.take k ++ List.replicate (l.length - k) (⟨0, []⟩ : SigT)).set k ⟨l[k].val, l[k].sig⟩ = l.take (k + 1) ++ List.replicate (l.length - (k + 1)) (⟨0, []⟩ : SigT) := by
  rw [List.set_append_right _ _ (by simp; omega), List.take_succ_eq_append_getElem h, List.append_assoc]
  congr 1
  rw [show k - (l.take k).length = 0 from by simp; omega, show l.length - k = (l.length - (k + 1)) + 1 from by omega, List.replicate_succ]
  rfl

theorem toCSigS_any (A : Option Addr) (c : Nat) (l : List SigT) (w : World) (hl : l.length ≤ 4194304) (hR : SReads w w.heap.size A l) :
    Calls Tryd.prog 67 #[.slice A l.length c] w fun e w' => e = .returned (.slice (some ⟨w.heap.size, 0, none⟩) l.length l.length) ∧ w'.ownsRow w.heap.size 85 2 (.slice (some ⟨w.heap.size, 0, none⟩) l.length l.length) l.length (scells l) ∧ Below w.heap.size w w' := by
  have HR := Lib.hid hR
  clear hR
  obtain ⟨i0, hi, hz0, hz1, hz2⟩ := info_parts info_csig
  go_enter Tryd.func67, Tryd.ntmps67
  go_wp2_with (at_make; refine wpList_make_full _ rfl _ _ 31 rfl w.heap.size 85 i0 _ 2 Tryd.underlying31 hi hz0 hz1 .i64 .i64 _ _ l.length rfl rfl rfl rfl (by rw [hz2]; omega) (by unfold maxLen; omega) (Nat.le_refl _) ?_; intro w1 hown hgrow)
  have hb1 : Below w.heap.size w w1 := (Below.refl _ _).grown hgrow (Nat.le_refl _) (fun _ h => by cases h)
  go_loopw [4] (fun i wr => ∃ k : Nat, k ≤ l.length ∧ i = .int .i64 k ∧ wr.ownsRow w.heap.size 85 2 (.slice (some ⟨w.heap.size, 0, none⟩) l.length l.length) l.length (scells (l.take k ++ List.replicate (l.length - k) ⟨0, []⟩)) ∧ Below w.heap.size w wr) (fun i _ => l.length - (intOf i).toNat)
  case atStart => exact ⟨0, by omega, rfl, by rw [scells_zeros] at hown; simpa using hown, hb1⟩
  case round =>
    obtain ⟨k, hk, rfl, hown, hb⟩ := hrel
    by_cases hlt : k < l.length
    · obtain ⟨b, off, rfl, hbB, hc⟩ := ((HR.out.below hb (Nat.le_refl _)).more hb.size) (by omega)
      obtain ⟨c0, c1⟩ := hc k hlt
      have hki : 0 ≤ (k : Int) ∧ (k : Int) < l.length := by omega
      have hgb : w.heap.size < wr.heap.size := (hown.lt _ rfl).2
      clear hc
      go_wp2_with fail
      refine (toCSig_any ⟨l[k].val, l[k].sig⟩ _).mono ?_
      rintro e wn ⟨rfl, hbn⟩
      have hb2 := Below.next (w := w) hb hbn
      have hown2 := own_below hown hbn
      have hlen : (l.take k ++ List.replicate (l.length - k) (⟨0, []⟩ : SigT)).length = l.length := by simp; omega
      obtain ⟨u0, s0⟩ : ∃ u, wn.cell? ⟨w.heap.size, k * 2, none⟩ = some u := ⟨_, (hown2.cellAt (k * 2) (by omega)).trans (scells_at _ k (by omega)).1⟩
      obtain ⟨u1, s1⟩ : ∃ u, wn.cell? ⟨w.heap.size, k * 2 + 1, none⟩ = some u := ⟨_, (hown2.cellAt (k * 2 + 1) (by omega)).trans (scells_at _ k (by omega)).2⟩
      have f0 := hown2.frozenAt (k * 2)
      have f1 := hown2.frozenAt (k * 2 + 1)
      have hst := ((hown2.stored (k * 2) (.int .i64 l[k].val)).1.stored (k * 2 + 1) (.string (S l[k].sig))).1
      rw [scells_set _ k _ _ (by omega), fill_sig l k hlt] at hst
      have HST := Lib.hid hst
      clear hst hown hown2 hbn hlen c0 c1 hb
      simp only [SigT.cell]
      go_wp2
      go_roundw
      case rel => exact ⟨k + 1, by omega, by go_num, HST.out, (hb2.setCell (Nat.le_refl _) _).setCell (Nat.le_refl _) _⟩
      case measure => simp [intOf]; omega
    · have hkl : Hid (k = l.length) := by unfold Hid; omega
      go_wp2
      go_ret
      exact ⟨rfl, by have := hown; rw [hkl.out] at this; simpa using this, hb⟩

/-- eqCSigS at two slices that read as one list. -/
theorem eqCSigS_same (A1 A2 : Option Addr) (c1 c2 : Nat) (l : List SigT) (w : World) (hl : l.length ≤ 4194304) (hR1 : SReads w w.heap.size A1 l) (hR2 : SReads w w.heap.size A2 l) :
    Calls Tryd.prog 71 #[.slice A1 l.length c1, .slice A2 l.length c2] w fun e w' => e = .returned (.bool true) ∧ Below w.heap.size w w' := by
  have HR1 := Lib.hid hR1
  have HR2 := Lib.hid hR2
  clear hR1 hR2
  go_enter Tryd.func71, Tryd.ntmps71
  go_wp2
  go_loopw [5] (fun i wr => ∃ k : Nat, k ≤ l.length ∧ i = .int .i64 k ∧ Below w.heap.size w wr) (fun i _ => l.length - (intOf i).toNat)
  case atStart => exact ⟨0, by omega, rfl, Below.refl _ _⟩
  case round =>
    obtain ⟨k, hk, rfl, hb⟩ := hrel
    by_cases hlt : k < l.length
    · obtain ⟨b1, o1, rfl, hbB1, hc1⟩ := ((HR1.out.below hb (Nat.le_refl _)).more hb.size) (by omega)
      obtain ⟨b2, o2, rfl, hbB2, hc2⟩ := ((HR2.out.below hb (Nat.le_refl _)).more hb.size) (by omega)
      obtain ⟨x0, x1⟩ := hc1 k hlt
      obtain ⟨y0, y1⟩ := hc2 k hlt
      clear hc1 hc2
      have hki : 0 ≤ (k : Int) ∧ (k : Int) < l.length := by omega
      go_wp2_with fail
      go_region_with (go_at_call 103; refine (eqCSig_same _ _ _).mono ?_; rintro e wn ⟨rfl, hbn⟩; have hb := Below.next (w := w) hb.drew hbn)
      all_goals
        go_wp2
        go_roundw
        case rel => exact ⟨k + 1, by omega, by go_num, hb⟩
        case measure => simp [intOf]; omega
    · go_wp2
      go_ret
      exact ⟨rfl, hb⟩
end Go.Proofs.YtecimgkgdpnaeaaDoor

/-
  The methods num, cut, text of the program's scanner.
-/
namespace Go.Proofs.YtecimgkgdpnaeaaDoor
open Go.ChangeShapes Go.WideShapes Go.ChangeAt Go.RowKit
set_option linter.unusedVariables false
set_option linter.unusedSimpArgs false
set_option maxRecDepth 100000

/-- The scanner at block B reads as s. -/
def ScanAt (w : World) (B : Nat) (s : Sc) : Prop := B < w.heap.size ∧ w.cell? ⟨B, 0, none⟩ = some (.string (S s.1)) ∧ w.cell? ⟨B, 1, none⟩ = some (.bool s.2) ∧ w.frozen? ⟨B, 0, none⟩ = false ∧ w.frozen? ⟨B, 1, none⟩ = false
theorem ScanAt.next {B : Nat} {w w' : World} {s : Sc} (h : ScanAt w B s) (hb : Below w.heap.size w w') : ScanAt w' B s := by
  obtain ⟨h1, c0, c1, f0, f1⟩ := h
  exact ⟨Nat.lt_of_lt_of_le h1 hb.size, (hb.cell (p := ⟨B, 0, none⟩) h1).trans c0, (hb.cell (p := ⟨B, 1, none⟩) h1).trans c1, (hb.frozen (p := ⟨B, 0, none⟩) h1).trans f0, (hb.frozen (p := ⟨B, 1, none⟩) h1).trans f1⟩
theorem ScanAt.setBad {B : Nat} {w : World} {r : List UInt8} {b : Bool} (h : ScanAt w B (r, b)) : ScanAt (w.setCell ⟨B, 1, none⟩ (.bool true)) B (r, true) := by
  obtain ⟨h1, c0, c1, f0, f1⟩ := h
  simp only at c0 c1
  exact ⟨by simpa [World.setCell] using h1, by go_simp, by go_simp, by go_simp, by go_simp⟩
theorem ScanAt.setRest {B : Nat} {w : World} {r : List UInt8} {b : Bool} (h : ScanAt w B (r, b)) (q : List UInt8) : ScanAt (w.setCell ⟨B, 0, none⟩ (.string (S q))) B (q, b) := by
  obtain ⟨h1, c0, c1, f0, f1⟩ := h
  simp only at c0 c1
  exact ⟨by simpa [World.setCell] using h1, by go_simp, by go_simp, by go_simp, by go_simp⟩

theorem num_any (B : Nat) (s : Sc) (w : World) (hs : ScanAt w B s) (hl : s.1.length ≤ 1048576) :
    Calls Tryd.prog 43 #[.pointer (some ⟨B, 0, none⟩)] w fun e w' => e = .returned (.int .i64 (numP s).1) ∧ ScanAt w' B (numP s).2 ∧ But B w w' := by
  obtain ⟨r, b⟩ := s
  obtain ⟨hB, c0, c1, f0, f1⟩ := hs
  simp only at c0 c1 hl
  have hR := Lib.hid (iReadVar_any r w hl)
  have hsp := readVar_spec r
  have hS : ScanAt w B (r, b) := ⟨hB, c0, c1, f0, f1⟩
  have HS := Lib.hid hS
  have HC := Lib.hid (fun h : b = true => (congrArg (fun b => numP (r, b)) h).trans (numP_bad r))
  have HN := Lib.hid (fun (h : b = false) (k : (readVarS r).2 = 0) => (congrArg (fun b => numP (r, b)) h).trans (numP_none k))
  have HY := Lib.hid (fun (h : b = false) (k : (readVarS r).2 ≠ 0) => (congrArg (fun b => numP (r, b)) h).trans (numP_some k))
  have hk : (readVarS r).2 ≤ r.length := by rcases hsp with h | h <;> omega
  clear hsp hS
  generalize (readVarS r).1 = n at *
  generalize (readVarS r).2 = k at *
  generalize hV : numP (r, b) = V at *
  go_enter Tryd.func43, Tryd.ntmps43
  go_wp2_with fail
  refine hR.out.mono ?_
  rintro e w1 ⟨rfl, hb1⟩
  have HS1 := Lib.hid (HS.out.next hb1)
  obtain ⟨hB1, d0, d1, g0, g1⟩ := HS1.out
  simp only at d0 d1
  have hw := Lib.hid (But.of_below (B := B) hb1)
  clear c0 c1 f0 f1 hb1 hR
  cases b
  · by_cases hk0 : k = 0
    · subst hk0
      have HV := Lib.hid (HN.out rfl rfl)
      clear HC HN HY
      go_wp2
      go_ret
      exact ⟨by rw [HV.out]; rfl, by rw [HV.out]; exact HS1.out.setBad, hw.out.set 1 _⟩
    · have HV := Lib.hid (HY.out rfl hk0)
      have hx : (S r).extract k r.length = S (r.drop k) := by rw [S_cut, List.take_of_length_le (by simp)]
      have hk1 : ¬ ((k : Int) = 0) := by omega
      clear HC HN HY
      go_wp2
      go_ret
      exact ⟨by rw [HV.out]; rfl, by rw [HV.out]; exact HS1.out.setRest _, hw.out.set 0 _⟩
  · have HV := Lib.hid (HC.out rfl)
    clear HC HN HY
    go_wp2
    go_ret
    exact ⟨by rw [HV.out]; rfl, by rw [HV.out]; exact HS1.out.setBad, hw.out.set 1 _⟩

theorem cut_any (B : Nat) (s : Sc) (n : Int) (w : World) (hs : ScanAt w B s) (hl : s.1.length ≤ 1048576) :
    Calls Tryd.prog 86 #[.pointer (some ⟨B, 0, none⟩), .int .i64 n] w fun e w' => e = .returned (.string (S (cutP s n).1)) ∧ ScanAt w' B (cutP s n).2 ∧ But B w w' := by
  obtain ⟨r, b⟩ := s
  obtain ⟨hB, c0, c1, f0, f1⟩ := hs
  simp only at c0 c1 hl
  have hS : ScanAt w B (r, b) := ⟨hB, c0, c1, f0, f1⟩
  have HS := Lib.hid hS
  clear hS
  have hw := Lib.hid (But.refl B w)
  cases b
  · cases hi : inB n 0 (r.length : Int)
    · have HV := Lib.hid (cutP_no (r := r) (inB_false hi))
      go_enter Tryd.func86, Tryd.ntmps86
      go_wp2_with (go_at_call 55; refine (within_b _ _ _ _).mono ?_; rintro e w' ⟨rfl, rfl⟩)
      go_ret
      exact ⟨by rw [HV.out]; rfl, by rw [HV.out]; exact HS.out.setBad, hw.out.set 1 _⟩
    · obtain ⟨h0, h1⟩ := inB_true hi
      obtain ⟨m, rfl⟩ := Int.eq_ofNat_of_zero_le h0
      have HV := Lib.hid (cutP_yes (r := r) (n := m) (by omega))
      have hx : (S r).extract m r.length = S (r.drop m) := by rw [S_cut, List.take_of_length_le (by simp)]
      have hy : (S r).extract 0 m = S (r.take m) := by rw [S_cut]; simp
      go_enter Tryd.func86, Tryd.ntmps86
      go_wp2_with (go_at_call 55; refine (within_b _ _ _ _).mono ?_; rintro e w' ⟨rfl, rfl⟩)
      go_ret
      exact ⟨by rw [HV.out]; rfl, by rw [HV.out]; exact HS.out.setRest _, hw.out.set 0 _⟩
  · have HV := Lib.hid (cutP_bad r n)
    go_enter Tryd.func86, Tryd.ntmps86
    go_wp2_with (go_at_call 55; refine (within_b _ _ _ _).mono ?_; rintro e w' ⟨rfl, rfl⟩)
    go_ret
    exact ⟨by rw [HV.out]; rfl, by rw [HV.out]; exact HS.out.setBad, hw.out.set 1 _⟩

theorem text_any (B : Nat) (s : Sc) (w : World) (hs : ScanAt w B s) (hl : s.1.length ≤ 1048576) :
    Calls Tryd.prog 44 #[.pointer (some ⟨B, 0, none⟩)] w fun e w' => e = .returned (.string (S (textP s).1)) ∧ ScanAt w' B (textP s).2 ∧ But B w w' := by
  have HN := Lib.hid (num_any B s w hs hl)
  have HC := Lib.hid (fun (W : World) (h : ScanAt W B (numP s).2) => cut_any B (numP s).2 ((numP s).1 : Int) W h (Nat.le_trans (numP_len s) hl))
  have HV : Hid (textP s = cutP (numP s).2 ((numP s).1 : Int)) := rfl
  clear hs
  generalize (numP s).2 = t at *
  generalize (numP s).1 = n at *
  generalize textP s = V at *
  go_enter Tryd.func44, Tryd.ntmps44
  go_wp2_with fail
  refine HN.out.mono ?_
  rintro e w1 ⟨rfl, s1, b1⟩
  go_wp2_with fail
  refine (HC.out _ s1).mono ?_
  rintro e w2 ⟨rfl, s2, b2⟩
  go_wp2
  go_ret
  exact ⟨by rw [HV.out]; rfl, by rw [HV.out]; exact s2, b1.trans b2⟩
end Go.Proofs.YtecimgkgdpnaeaaDoor
