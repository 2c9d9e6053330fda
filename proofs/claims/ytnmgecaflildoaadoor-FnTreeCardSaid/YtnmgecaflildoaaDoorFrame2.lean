/-
  Arguments opened, more: bytes, texts, commits.
-/
import Derived.Test.YtnmgecaflildoaaDoorFrame
import Derived.Test.YtnmgecaflildoaaDoorByt0
import Derived.Test.YtnmgecaflildoaaDoorStr0
import Derived.Test.YtnmgecaflildoaaDoorCom0
namespace Go.Proofs.YtnmgecaflildoaaDoor
open Go.ChangeShapes Go.WideShapes Go.ChangeAt Go.RowKit
set_option linter.unusedVariables false
section
open Go.Joins Go.Deep
variable {H : Type} {enc : TypeId × Value → H} {P : Program} {w : World} {base : Nat} {spare : Nat → Bool} {held : Bool}
theorem cell_u8 {ft : TypeId} {n : Nat} {c : Value} {y : DataW H × List MemPlace} (hu : P.underlying ft = some (.int .u8)) (h : DataW.trod enc P w base spare held n ft [c] = some y) : ∃ a : UInt8, c = .int .u8 (a.toNat : Int) := by
  obtain ⟨a, e, _, hw⟩ := DataW.trod_int hu h
  simp at e
  simp only [Lit.wf, Bool.and_eq_true, decide_eq_true_eq] at hw
  have h1 : 0 ≤ a := hw.1
  have h2 : a ≤ 255 := hw.2
  refine ⟨UInt8.ofNat a.toNat, ?_⟩
  rw [e, UInt8.toNat_ofNat', Nat.mod_eq_of_lt (by omega)]
  congr 1
  omega
theorem in_bytes {r : Reach} {b0 : Nat} {t e : TypeId} {v : Value} {d : DataW H} {p : List MemPlace} (ht : P.underlying t = some (.slice e)) (he : P.underlying e = some (.int .u8)) (hC : P.cellsOf e = 1)
    (hv : Value.okWide P w r b0 t v) (h : DataW.Trod enc P w base spare held t v d p) (hlt : ∀ x ∈ p, x.block < w.heap.size) :
    ∃ (A : Option Addr) (c : Nat) (l : List UInt8), v = .slice A l.length c ∧ l.length ≤ 9223372036854775807 ∧ BReads w w.heap.size A l := by
  obtain ⟨A, n, c, rfl⟩ := okWide_slice ht hv
  obtain ⟨fuel, hf⟩ := h
  rcases open_slice ht hf with ⟨hcs, _⟩ | ⟨a, len, cap, m, n', D, Pl, hcs, hb, hl, hm, hmm, hx, hi⟩
  · simp [Value.cells] at hcs
    obtain ⟨rfl, rfl, rfl⟩ := hcs
    exact ⟨none, 0, [], rfl, by simp, fun h => absurd h (by simp)⟩
  · simp [Value.cells] at hcs
    obtain ⟨rfl, rfl, rfl⟩ := hcs
    have hlm : n ≤ m := by rw [hmm]; split <;> omega
    have key : ∀ i, i < n → ∃ x : UInt8, w.cell? (a.add i) = some (.int .u8 (x.toNat : Int)) := by
      intro i hin
      obtain ⟨cs', hc, ht'⟩ := hi i (by omega)
      rw [hC, Nat.mul_one] at hc
      obtain ⟨_, hcl, hat⟩ := World.cells?_some hc
      match cs', hcl with
      | [z0], _ =>
        obtain ⟨x0, rfl⟩ := cell_u8 he ht'
        have h0 := hat 0 (by omega)
        rw [Go.Deep.add_add] at h0
        exact ⟨x0, h0⟩
    obtain ⟨f, hfk⟩ : ∃ f : Nat → UInt8, ∀ i, i < n → w.cell? (a.add i) = some (.int .u8 ((f i).toNat : Int)) := ⟨fun i => if h : i < n then Classical.choose (key i h) else 0, fun i h => by simp only [dif_pos h]; exact Classical.choose_spec (key i h)⟩
    clear key
    refine ⟨some a, c, (List.range n).map f, by simp, by simp; unfold maxLen at hm; omega, fun hn => ?_⟩
    simp only [List.length_map, List.length_range] at hn
    have hsp := spot_none (hfk 0 hn)
    obtain ⟨b, o, s⟩ := a
    have hs : s = none := by
      have : ((⟨b, o, s⟩ : Addr).add 0).spot = s := by simp [Addr.add]
      rw [this] at hsp
      exact hsp
    subst hs
    have hbl : b < w.heap.size := by
      have := World.block_lt_of_cell? w _ (hfk 0 hn)
      rw [block_of_add] at this
      exact this
    refine ⟨b, o, rfl, hbl, fun j hj => ?_⟩
    simp only [List.length_map, List.length_range] at hj
    have hk := hfk j hj
    rw [plain_add] at hk
    rw [List.getElem_map, List.getElem_range]
    exact hk

theorem in_strings {r : Reach} {b0 : Nat} {t e : TypeId} {v : Value} {d : DataW H} {p : List MemPlace} (ht : P.underlying t = some (.slice e)) (he : P.underlying e = some .string) (hC : P.cellsOf e = 1)
    (hv : Value.okWide P w r b0 t v) (h : DataW.Trod enc P w base spare held t v d p) (hlt : ∀ x ∈ p, x.block < w.heap.size) :
    ∃ (A : Option Addr) (c : Nat) (l : List (List UInt8)), v = .slice A l.length c ∧ l.length ≤ 9223372036854775807 ∧ (∀ x ∈ l, x.length ≤ 9223372036854775807) ∧ TReads w w.heap.size A l := by
  obtain ⟨A, n, c, rfl⟩ := okWide_slice ht hv
  obtain ⟨fuel, hf⟩ := h
  rcases open_slice ht hf with ⟨hcs, _⟩ | ⟨a, len, cap, m, n', D, Pl, hcs, hb, hl, hm, hmm, hx, hi⟩
  · simp [Value.cells] at hcs
    obtain ⟨rfl, rfl, rfl⟩ := hcs
    exact ⟨none, 0, [], rfl, by simp, by simp, fun h => absurd h (by simp)⟩
  · simp [Value.cells] at hcs
    obtain ⟨rfl, rfl, rfl⟩ := hcs
    have hlm : n ≤ m := by rw [hmm]; split <;> omega
    have key : ∀ i, i < n → ∃ x : List UInt8, w.cell? (a.add i) = some (.string (S x)) ∧ x.length ≤ 9223372036854775807 := by
      intro i hin
      obtain ⟨cs', hc, ht'⟩ := hi i (by omega)
      rw [hC, Nat.mul_one] at hc
      obtain ⟨_, hcl, hat⟩ := World.cells?_some hc
      match cs', hcl with
      | [z0], _ =>
        obtain ⟨x0, rfl, hx0⟩ := cell_string he ht'
        have h0 := hat 0 (by omega)
        rw [Go.Deep.add_add] at h0
        exact ⟨x0, h0, hx0⟩
    obtain ⟨f, hfk0⟩ : ∃ f : Nat → List UInt8, ∀ i, i < n → w.cell? (a.add i) = some (.string (S (f i))) ∧ (f i).length ≤ 9223372036854775807 := ⟨fun i => if h : i < n then Classical.choose (key i h) else [], fun i h => by simp only [dif_pos h]; exact Classical.choose_spec (key i h)⟩
    clear key
    have hfk := fun i h => (hfk0 i h).1
    refine ⟨some a, c, (List.range n).map f, by simp, by simp; unfold maxLen at hm; omega, fun x hx => ?_, fun hn => ?_⟩
    · obtain ⟨i, hi, rfl⟩ := List.mem_map.1 hx
      exact (hfk0 i (by simpa using hi)).2
    simp only [List.length_map, List.length_range] at hn
    have hsp := spot_none (hfk 0 hn)
    obtain ⟨b, o, s⟩ := a
    have hs : s = none := by
      have : ((⟨b, o, s⟩ : Addr).add 0).spot = s := by simp [Addr.add]
      rw [this] at hsp
      exact hsp
    subst hs
    have hbl : b < w.heap.size := by
      have := World.block_lt_of_cell? w _ (hfk 0 hn)
      rw [block_of_add] at this
      exact this
    refine ⟨b, o, rfl, hbl, fun j hj => ?_⟩
    simp only [List.length_map, List.length_range] at hj
    have hk := hfk j hj
    rw [plain_add] at hk
    rw [List.getElem_map, List.getElem_range]
    exact hk

theorem sigs_of_trod {t e : TypeId} {f0 f1 : Field} {v : Value} {fuel : Nat} {y : DataW H × List MemPlace} (ht : P.underlying t = some (.slice e)) (he : P.underlying e = some (.struct #[f0, f1]))
    (u0 : P.underlying f0.type = some (.int .i64)) (u1 : P.underlying f1.type = some .string) (hone : oneCellFields P #[f0, f1] = true) (hC : P.cellsOf e = 2)
    (hf : DataW.trod enc P w base spare held fuel t [v] = some y) :
    ∃ (A : Option Addr) (c : Nat) (l : List SigT), v = .slice A l.length c ∧ l.length ≤ 9223372036854775807 ∧ (∀ x ∈ l, x.sig.length ≤ 9223372036854775807) ∧ SReads w w.heap.size A l := by
  rcases open_slice ht hf with ⟨hcs, _⟩ | ⟨a, len, cap, m, n', D, Pl, hcs, hb, hl, hm, hmm, hx, hi⟩
  · obtain rfl : v = .slice none 0 0 := by simpa using hcs
    exact ⟨none, 0, [], rfl, by simp, by simp, fun h => absurd h (by simp)⟩
  · obtain rfl : v = .slice (some a) len cap := by simpa using hcs
    obtain ⟨n, rfl⟩ : ∃ n, n = len := ⟨_, rfl⟩
    obtain ⟨c, rfl⟩ : ∃ c, c = cap := ⟨_, rfl⟩
    have hlm : n ≤ m := by rw [hmm]; split <;> omega
    have key : ∀ i, i < n → ∃ x : SigT, w.cell? (a.add (i * 2)) = some (.int .i64 x.val) ∧ w.cell? (a.add (i * 2 + 1)) = some (.string (S x.sig)) ∧ x.sig.length ≤ 9223372036854775807 := by
      intro i hin
      obtain ⟨cs', hc, ht'⟩ := hi i (by omega)
      rw [hC] at hc
      obtain ⟨ys, n2, hn', hy, hlen, hyl, hg⟩ := DataW.trod_struct he ht'
      obtain ⟨_, hcl, hat⟩ := World.cells?_some hc
      obtain ⟨o0, k0⟩ := hone_of hone 0 f0 rfl
      obtain ⟨o1, k1⟩ := hone_of hone 1 f1 rfl
      match cs', hcl with
      | [z0, z1], _ =>
        match ys, hyl with
        | [y0, y1], _ =>
          have e0 : DataW.trod enc P w base spare held n2 f0.type [z0] = some y0 := by simpa [o0, k0] using hg 0 f0 rfl
          have e1 : DataW.trod enc P w base spare held n2 f1.type [z1] = some y1 := by simpa [o1, k1] using hg 1 f1 rfl
          obtain ⟨x0, rfl, _, _⟩ := cell_int u0 e0
          obtain ⟨x1, rfl, hx1⟩ := cell_string u1 e1
          have h0 := hat 0 (by omega)
          have h1 := hat 1 (by omega)
          rw [Go.Deep.add_add] at h0 h1
          exact ⟨⟨x0, x1⟩, h0, h1, hx1⟩
    obtain ⟨f, hfk⟩ : ∃ f : Nat → SigT, ∀ i, i < n → w.cell? (a.add (i * 2)) = some (.int .i64 (f i).val) ∧ w.cell? (a.add (i * 2 + 1)) = some (.string (S (f i).sig)) ∧ (f i).sig.length ≤ 9223372036854775807 := ⟨fun i => if h : i < n then Classical.choose (key i h) else ⟨0, []⟩, fun i h => by simp only [dif_pos h]; exact Classical.choose_spec (key i h)⟩
    clear key
    refine ⟨some a, c, (List.range n).map f, by simp, by simp; unfold maxLen at hm; omega, fun x hx => ?_, fun hn => ?_⟩
    · obtain ⟨i, hi, rfl⟩ := List.mem_map.1 hx
      exact (hfk i (by simpa using hi)).2.2
    simp only [List.length_map, List.length_range] at hn
    have hsp := spot_none (hfk 0 hn).1
    obtain ⟨b, o, s⟩ := a
    have hs : s = none := by
      have : ((⟨b, o, s⟩ : Addr).add (0 * 2)).spot = s := by simp [Addr.add]
      rw [this] at hsp
      exact hsp
    subst hs
    have hbl : b < w.heap.size := by
      have := World.block_lt_of_cell? w _ (hfk 0 hn).1
      rw [block_of_add] at this
      exact this
    refine ⟨b, o, rfl, hbl, fun j hj => ?_⟩
    simp only [List.length_map, List.length_range] at hj
    have hk := hfk j hj
    rw [plain_add, plain_add] at hk
    rw [List.getElem_map, List.getElem_range]
    exact ⟨hk.1, by rw [Nat.add_assoc]; exact hk.2.1⟩


theorem in_commit {r : Reach} {b0 : Nat} {t e : TypeId} {f0 f1 f2 f3 g0 g1 : Field} {v : Value} {d : DataW H} {p : List MemPlace} (hs : P.underlying t = some (.struct #[f0, f1, f2, f3])) (u0 : P.underlying f0.type = some (.int .i64)) (u1 : P.underlying f1.type = some (.int .i64)) (u2 : P.underlying f2.type = some .string) (u3 : P.underlying f3.type = some (.slice e))
    (he : P.underlying e = some (.struct #[g0, g1])) (v0 : P.underlying g0.type = some (.int .i64)) (v1 : P.underlying g1.type = some .string) (hone : oneCellFields P #[f0, f1, f2, f3] = true) (hone2 : oneCellFields P #[g0, g1] = true) (hC : P.cellsOf t = 4) (hC2 : P.cellsOf e = 2)
    (hv : Value.okWide P w r b0 t v) (h : DataW.Trod enc P w base spare held t v d p) :
    ∃ (x : CommitT) (A : Option Addr) (c : Nat), v = .agg #[.int .i64 x.h, .int .i64 x.r, .string (S x.id), .slice A x.sigs.length c] ∧ (-9223372036854775808 ≤ x.h ∧ x.h ≤ 9223372036854775807 ∧ -9223372036854775808 ≤ x.r ∧ x.r ≤ 9223372036854775807 ∧ x.id.length ≤ 9223372036854775807) ∧ x.sigs.length ≤ 9223372036854775807 ∧ (∀ s ∈ x.sigs, s.sig.length ≤ 9223372036854775807) ∧ SReads w w.heap.size A x.sigs := by
  obtain ⟨cs, rfl, hsz⟩ := okWide_struct hs hv
  obtain ⟨l⟩ := cs
  match l, hsz.trans hC with
  | [c0, c1, c2, c3], _ =>
    obtain ⟨fuel, hf⟩ := h
    obtain ⟨xs, n, _, hx, _, hlen, hg⟩ := DataW.trod_struct hs hf
    obtain ⟨o0, k0⟩ := hone_of hone 0 f0 rfl
    obtain ⟨o1, k1⟩ := hone_of hone 1 f1 rfl
    obtain ⟨o2, k2⟩ := hone_of hone 2 f2 rfl
    obtain ⟨o3, k3⟩ := hone_of hone 3 f3 rfl
    match xs, hlen with
    | [y0, y1, y2, y3], _ =>
      have e0 : DataW.trod enc P w base spare held n f0.type [c0] = some y0 := by simpa [Value.cells, o0, k0] using hg 0 f0 rfl
      have e1 : DataW.trod enc P w base spare held n f1.type [c1] = some y1 := by simpa [Value.cells, o1, k1] using hg 1 f1 rfl
      have e2 : DataW.trod enc P w base spare held n f2.type [c2] = some y2 := by simpa [Value.cells, o2, k2] using hg 2 f2 rfl
      have e3 : DataW.trod enc P w base spare held n f3.type [c3] = some y3 := by simpa [Value.cells, o3, k3] using hg 3 f3 rfl
      obtain ⟨a0, rfl, l0, m0⟩ := cell_int u0 e0
      obtain ⟨a1, rfl, l1, m1⟩ := cell_int u1 e1
      obtain ⟨a2, rfl, l2⟩ := cell_string u2 e2
      obtain ⟨A, c, ss, rfl, s1, s2, s3⟩ := sigs_of_trod u3 he v0 v1 hone2 hC2 e3
      exact ⟨⟨a0, a1, a2, ss⟩, A, c, rfl, ⟨l0, m0, l1, m1, l2⟩, s1, s2, s3⟩

end
end Go.Proofs.YtnmgecaflildoaaDoor
