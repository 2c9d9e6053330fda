/-
  Texts of this proof, laid into one: Frame2, LawC, ShowH, ShowV.
-/
import Derived.Test.YtecimgkgdpnaeaaDoorGFnCommit6
import Derived.Test.YtecimgkgdpnaeaaDoorGFnCommit2
import Derived.Test.YtecimgkgdpnaeaaDoorGFnCommit5
import Derived.Test.YtecimgkgdpnaeaaDoorGFnCommit12
import Derived.RegionTactic
import Derived.BigRegion
import Derived.Deep.RegionWith
import Derived.Test.YtecimgkgdpnaeaaDoorGFnCommit3
import Derived.Deep.RegionHeld3
import Derived.Test.YtecimgkgdpnaeaaDoorGFnCommit7
import Derived.Test.YtecimgkgdpnaeaaDoorGFnCommit11
/-
  Arguments opened, more: bytes, texts, commits.
-/
namespace Go.Proofs.YtecimgkgdpnaeaaDoor
open Go.ChangeShapes Go.WideShapes Go.ChangeAt Go.RowKit
set_option linter.unusedVariables false
section
open Go.Joins Go.Deep
variable {H : Type} {enc : TypeId × Value → H} {P : Program} {w : World} {base : Nat} {spare : Nat → Bool} {held : Bool}
theorem cell_u8 {ft : TypeId} {n : Nat} {c : Value} {y : DataW H × List MemPlace} (hu : P.underlying ft = some (.int .u8)) (h : DataW.trod enc P w base spare held n ft [c] = some y) : ∃ a : UInt8, c = .int .u8 (a.toNat : Int) := by
  obtain ⟨a, e, _, hw⟩ := DataW.trod_int hu h
  simp at e
  simp only [Lit.wf, Bool.and_eq_true, decide_eq_true_eq] at hw
  have h1 : 0 ≤ a := hw.1
  have h2 : a ≤ 255 := hw.2
  refine ⟨UInt8.ofNat a.toNat, ?_⟩
  rw [e, UInt8.toNat_ofNat', Nat.mod_eq_of_lt (by omega)]
  congr 1
  omega
theorem in_bytes {r : Reach} {b0 : Nat} {t e : TypeId} {v : Value} {d : DataW H} {p : List MemPlace} (ht : P.underlying t = some (.slice e)) (he : P.underlying e = some (.int .u8)) (hC : P.cellsOf e = 1)
    (hv : Value.okWide P w r b0 t v) (h : DataW.Trod enc P w base spare held t v d p) (hlt : ∀ x ∈ p, x.block < w.heap.size) :
    ∃ (A : Option Addr) (c : Nat) (l : List UInt8), v = .slice A l.length c ∧ l.length ≤ 9223372036854775807 ∧ BReads w w.heap.size A l := by
  obtain ⟨A, n, c, rfl⟩ := okWide_slice ht hv
  obtain ⟨fuel, hf⟩ := h
  rcases open_slice ht hf with ⟨hcs, _⟩ | ⟨a, len, cap, m, n', D, Pl, hcs, hb, hl, hm, hmm, hx, hi⟩
  · simp [Value.cells] at hcs
    obtain ⟨rfl, rfl, rfl⟩ := hcs
    exact ⟨none, 0, [], rfl, by simp, fun h => absurd h (by simp)⟩
  · simp [Value.cells] at hcs
    obtain ⟨rfl, rfl, rfl⟩ := hcs
    have hlm : n ≤ m := by rw [hmm]; split <;> omega
    have key : ∀ i, i < n → ∃ x : UInt8, w.cell? (a.add i) = some (.int .u8 (x.toNat : Int)) := by
      intro i hin
      obtain ⟨cs', hc, ht'⟩ := hi i (by omega)
      rw [hC, Nat.mul_one] at hc
      obtain ⟨_, hcl, hat⟩ := World.cells?_some hc
      match cs', hcl with
      | [z0], _ =>
        obtain ⟨x0, rfl⟩ := cell_u8 he ht'
        have h0 := hat 0 (by omega)
        rw [Go.Deep.add_add] at h0
        exact ⟨x0, h0⟩
    obtain ⟨f, hfk⟩ : ∃ f : Nat → UInt8, ∀ i, i < n → w.cell? (a.add i) = some (.int .u8 ((f i).toNat : Int)) := ⟨fun i => if h : i < n then Classical.choose (key i h) else 0, fun i h => by simp only [dif_pos h]; exact Classical.choose_spec (key i h)⟩
    clear key
    refine ⟨some a, c, (List.range n).map f, by simp, by simp; unfold maxLen at hm; omega, fun hn => ?_⟩
    simp only [List.length_map, List.length_range] at hn
    have hsp := spot_none (hfk 0 hn)
    obtain ⟨b, o, s⟩ := a
    have hs : s = none := by
      have : ((⟨b, o, s⟩ : Addr).add 0).spot = s := by simp [Addr.add]
      rw [this] at hsp
      exact hsp
    subst hs
    have hbl : b < w.heap.size := by
      have := World.block_lt_of_cell? w _ (hfk 0 hn)
      rw [block_of_add] at this
      exact this
    refine ⟨b, o, rfl, hbl, fun j hj => ?_⟩
    simp only [List.length_map, List.length_range] at hj
    have hk := hfk j hj
    rw [plain_add] at hk
    rw [List.getElem_map, List.getElem_range]
    exact hk

theorem in_strings {r : Reach} {b0 : Nat} {t e : TypeId} {v : Value} {d : DataW H} {p : List MemPlace} (ht : P.underlying t = some (.slice e)) (he : P.underlying e = some .string) (hC : P.cellsOf e = 1)
    (hv : Value.okWide P w r b0 t v) (h : DataW.Trod enc P w base spare held t v d p) (hlt : ∀ x ∈ p, x.block < w.heap.size) :
    ∃ (A : Option Addr) (c : Nat) (l : List (List UInt8)), v = .slice A l.length c ∧ l.length ≤ 9223372036854775807 ∧ (∀ x ∈ l, x.length ≤ 9223372036854775807) ∧ TReads w w.heap.size A l := by
  obtain ⟨A, n, c, rfl⟩ := okWide_slice ht hv
  obtain ⟨fuel, hf⟩ := h
  rcases open_slice ht hf with ⟨hcs, _⟩ | ⟨a, len, cap, m, n', D, Pl, hcs, hb, hl, hm, hmm, hx, hi⟩
  · simp [Value.cells] at hcs
    obtain ⟨rfl, rfl, rfl⟩ := hcs
    exact ⟨none, 0, [], rfl, by simp, by simp, fun h => absurd h (by simp)⟩
  · simp [Value.cells] at hcs
    obtain ⟨rfl, rfl, rfl⟩ := hcs
    have hlm : n ≤ m := by rw [hmm]; split <;> omega
    have key : ∀ i, i < n → ∃ x : List UInt8, w.cell? (a.add i) = some (.string (S x)) ∧ x.length ≤ 9223372036854775807 := by
      intro i hin
      obtain ⟨cs', hc, ht'⟩ := hi i (by omega)
      rw [hC, Nat.mul_one] at hc
      obtain ⟨_, hcl, hat⟩ := World.cells?_some hc
      match cs', hcl with
      | [z0], _ =>
        obtain ⟨x0, rfl, hx0⟩ := cell_string he ht'
        have h0 := hat 0 (by omega)
        rw [Go.Deep.add_add] at h0
        exact ⟨x0, h0, hx0⟩
    obtain ⟨f, hfk0⟩ : ∃ f : Nat → List UInt8, ∀ i, i < n → w.cell? (a.add i) = some (.string (S (f i))) ∧ (f i).length ≤ 9223372036854775807 := ⟨fun i => if h : i < n then Classical.choose (key i h) else [], fun i h => by simp only [dif_pos h]; exact Classical.choose_spec (key i h)⟩
    clear key
    have hfk := fun i h => (hfk0 i h).1
    refine ⟨some a, c, (List.range n).map f, by simp, by simp; unfold maxLen at hm; omega, fun x hx => ?_, fun hn => ?_⟩
    · obtain ⟨i, hi, rfl⟩ := List.mem_map.1 hx
      exact (hfk0 i (by simpa using hi)).2
    simp only [List.length_map, List.length_range] at hn
    have hsp := spot_none (hfk 0 hn)
    obtain ⟨b, o, s⟩ := a
    have hs : s = none := by
      have : ((⟨b, o, s⟩ : Addr).add 0).spot = s := by simp [Addr.add]
      rw [this] at hsp
      exact hsp
    subst hs
    have hbl : b < w.heap.size := by
      have := World.block_lt_of_cell? w _ (hfk 0 hn)
      rw [block_of_add] at this
      exact this
    refine ⟨b, o, rfl, hbl, fun j hj => ?_⟩
    simp only [List.length_map, List.length_range] at hj
    have hk := hfk j hj
    rw [plain_add] at hk
    rw [List.getElem_map, List.getElem_range]
    exact hk

theorem sigs_of_trod {t e : TypeId} {f0 f1 : Field} {v : Value} {fuel : Nat} {y : DataW H × List MemPlace} (ht : P.underlying t = some (.slice e)) (he : P.underlying e = some (.struct #[f0, f1]))
    (u0 : P.underlying f0.type = some (.int .i64)) (u1 : P.underlying f1.type = some .string) (hone : oneCellFields P #[f0, f1] = true) (hC : P.cellsOf e = 2)
    (hf : DataW.trod enc P w base spare held fuel t [v] = some y) :
    ∃ (A : Option Addr) (c : Nat) (l : List SigT), v = .slice A l.length c ∧ l.length ≤ 9223372036854775807 ∧ (∀ x ∈ l, x.sig.length ≤ 9223372036854775807) ∧ SReads w w.heap.size A l := by
  rcases open_slice ht hf with ⟨hcs, _⟩ | ⟨a, len, cap, m, n', D, Pl, hcs, hb, hl, hm, hmm, hx, hi⟩
  · obtain rfl : v = .slice none 0 0 := by simpa using hcs
    exact ⟨none, 0, [], rfl, by simp, by simp, fun h => absurd h (by simp)⟩
  · obtain rfl : v = .slice (some a) len cap := by simpa using hcs
    obtain ⟨n, rfl⟩ : ∃ n, n = len := ⟨_, rfl⟩
    obtain ⟨c, rfl⟩ : ∃ c, c = cap := ⟨_, rfl⟩
    have hlm : n ≤ m := by rw [hmm]; split <;> omega
    have key : ∀ i, i < n → ∃ x : SigT, w.cell? (a.add (i * 2)) = some (.int .i64 x.val) ∧ w.cell? (a.add (i * 2 + 1)) = some (.string (S x.sig)) ∧ x.sig.length ≤ 9223372036854775807 := by
      intro i hin
      obtain ⟨cs', hc, ht'⟩ := hi i (by omega)
      rw [hC] at hc
      obtain ⟨ys, n2, hn', hy, hlen, hyl, hg⟩ := DataW.trod_struct he ht'
      obtain ⟨_, hcl, hat⟩ := World.cells?_some hc
      obtain ⟨o0, k0⟩ := hone_of hone 0 f0 rfl
      obtain ⟨o1, k1⟩ := hone_of hone 1 f1 rfl
      match cs', hcl with
      | [z0, z1], _ =>
        match ys, hyl with
        | [y0, y1], _ =>
          have e0 : DataW.trod enc P w base spare held n2 f0.type [z0] = some y0 := by simpa [o0, k0] using hg 0 f0 rfl
          have e1 : DataW.trod enc P w base spare held n2 f1.type [z1] = some y1 := by simpa [o1, k1] using hg 1 f1 rfl
          obtain ⟨x0, rfl, _, _⟩ := cell_int u0 e0
          obtain ⟨x1, rfl, hx1⟩ := cell_string u1 e1
          have h0 := hat 0 (by omega)
          have h1 := hat 1 (by omega)
          rw [Go.Deep.add_add] at h0 h1
          exact ⟨⟨x0, x1⟩, h0, h1, hx1⟩
    obtain ⟨f, hfk⟩ : ∃ f : Nat → SigT, ∀ i, i < n → w.cell? (a.add (i * 2)) = some (.int .i64 (f i).val) ∧ w.cell? (a.add (i * 2 + 1)) = some (.string (S (f i).sig)) ∧ (f i).sig.length ≤ 9223372036854775807 := ⟨fun i => if h : i < n then Classical.choose (key i h) else ⟨0, []⟩, fun i h => by simp only [dif_pos h]; exact Classical.choose_spec (key i h)⟩
    clear key
    refine ⟨some a, c, (List.range n).map f, by simp, by simp; unfold maxLen at hm; omega, fun x hx => ?_, fun hn => ?_⟩
    · obtain ⟨i, hi, rfl⟩ := List.mem_map.1 hx
      exact (hfk i (by simpa using hi)).2.2
    simp only [List.length_map, List.length_range] at hn
    have hsp := spot_none (hfk 0 hn).1
    obtain ⟨b, o, s⟩ := a
    have hs : s = none := by
      have : ((⟨b, o, s⟩ : Addr).add (0 * 2)).spot = s := by simp [Addr.add]
      rw [this] at hsp
      exact hsp
    subst hs
    have hbl : b < w.heap.size := by
      have := World.block_lt_of_cell? w _ (hfk 0 hn).1
      rw [block_of_add] at this
      exact this
    refine ⟨b, o, rfl, hbl, fun j hj => ?_⟩
    simp only [List.length_map, List.length_range] at hj
    have hk := hfk j hj
    rw [plain_add, plain_add] at hk
    rw [List.getElem_map, List.getElem_range]
    exact ⟨hk.1, by rw [Nat.add_assoc]; exact hk.2.1⟩


theorem in_commit {r : Reach} {b0 : Nat} {t e : TypeId} {f0 f1 f2 f3 g0 g1 : Field} {v : Value} {d : DataW H} {p : List MemPlace} (hs : P.underlying t = some (.struct #[f0, f1, f2, f3])) (u0 : P.underlying f0.type = some (.int .i64)) (u1 : P.underlying f1.type = some (.int .i64)) (u2 : P.underlying f2.type = some .string) (u3 : P.underlying f3.type = some (.slice e))
    (he : P.underlying e = some (.struct #[g0, g1])) (v0 : P.underlying g0.type = some (.int .i64)) (v1 : P.underlying g1.type = some .string) (hone : oneCellFields P #[f0, f1, f2, f3] = true) (hone2 : oneCellFields P #[g0, g1] = true) (hC : P.cellsOf t = 4) (hC2 : P.cellsOf e = 2)
    (hv : Value.okWide P w r b0 t v) (h : DataW.Trod enc P w base spare held t v d p) :
    ∃ (x : CommitT) (A : Option Addr) (c : Nat), v = .agg #[.int .i64 x.h, .int .i64 x.r, .string (S x.id), .slice A x.sigs.length c] ∧ (-9223372036854775808 ≤ x.h ∧ x.h ≤ 9223372036854775807 ∧ -9223372036854775808 ≤ x.r ∧ x.r ≤ 9223372036854775807 ∧ x.id.length ≤ 9223372036854775807) ∧ x.sigs.length ≤ 9223372036854775807 ∧ (∀ s ∈ x.sigs, s.sig.length ≤ 9223372036854775807) ∧ SReads w w.heap.size A x.sigs := by
  obtain ⟨cs, rfl, hsz⟩ := okWide_struct hs hv
  obtain ⟨l⟩ := cs
  match l, hsz.trans hC with
  | [c0, c1, c2, c3], _ =>
    obtain ⟨fuel, hf⟩ := h
    obtain ⟨xs, n, _, hx, _, hlen, hg⟩ := DataW.trod_struct hs hf
    obtain ⟨o0, k0⟩ := hone_of hone 0 f0 rfl
    obtain ⟨o1, k1⟩ := hone_of hone 1 f1 rfl
    obtain ⟨o2, k2⟩ := hone_of hone 2 f2 rfl
    obtain ⟨o3, k3⟩ := hone_of hone 3 f3 rfl
    match xs, hlen with
    | [y0, y1, y2, y3], _ =>
      have e0 : DataW.trod enc P w base spare held n f0.type [c0] = some y0 := by simpa [Value.cells, o0, k0] using hg 0 f0 rfl
      have e1 : DataW.trod enc P w base spare held n f1.type [c1] = some y1 := by simpa [Value.cells, o1, k1] using hg 1 f1 rfl
      have e2 : DataW.trod enc P w base spare held n f2.type [c2] = some y2 := by simpa [Value.cells, o2, k2] using hg 2 f2 rfl
      have e3 : DataW.trod enc P w base spare held n f3.type [c3] = some y3 := by simpa [Value.cells, o3, k3] using hg 3 f3 rfl
      obtain ⟨a0, rfl, l0, m0⟩ := cell_int u0 e0
      obtain ⟨a1, rfl, l1, m1⟩ := cell_int u1 e1
      obtain ⟨a2, rfl, l2⟩ := cell_string u2 e2
      obtain ⟨A, c, ss, rfl, s1, s2, s3⟩ := sigs_of_trod u3 he v0 v1 hone2 hC2 e3
      exact ⟨⟨a0, a1, a2, ss⟩, A, c, rfl, ⟨l0, m0, l1, m1, l2⟩, s1, s2, s3⟩

end
end Go.Proofs.YtecimgkgdpnaeaaDoor

/-
  The laws' helpers over signatures of a commit: toCSig, toCSigS, eqCSig, eqCSigS.
-/
namespace Go.Proofs.YtecimgkgdpnaeaaDoor
open Go.ChangeShapes Go.WideShapes Go.ChangeAt Go.RowKit
set_option linter.unusedVariables false
set_option linter.unusedSimpArgs false
set_option maxRecDepth 100000

def SigT.cell (v : SigT) : Value := .agg #[.int .i64 v.val, .string (S v.sig)]
theorem info_csig : (Tryd.prog.info? 85).map (fun i => (i.zero, i.size, i.bytes)) = some (some (.agg #[.int .i64 0, .string ByteArray.empty]), 2, 24) := by kernel_rfl

theorem toCSig_any (v : SigT) (w : World) :
    Calls Tryd.prog 97 #[v.cell] w fun e w' => e = .returned v.cell ∧ Below w.heap.size w w' := by
  obtain ⟨i, p⟩ := v
  simp only [SigT.cell]
  go_enter Tryd.func97, Tryd.ntmps97
  go_wp2
  refine bodyPost_ret (v := .agg #[.int .i64 i, .string (S p)]) (by simp [results, Tryd.results97, go_sem]) rfl ⟨rfl, ?_⟩
  repeat (first | exact Below.refl _ _ | refine Below.setCell ?_ (by simp <;> omega) _ | refine Below.alloc ?_ (by simp <;> omega) _)

theorem eqCSig_same (i : Int) (p : List UInt8) (w : World) :
    Calls Tryd.prog 103 #[.agg #[.int .i64 i, .string (S p)], .agg #[.int .i64 i, .string (S p)]] w fun e w' => e = .returned (.bool true) ∧ Below w.heap.size w w' := by
  go_enter Tryd.func103, Tryd.ntmps103
  go_wp2
  go_ret
  refine ⟨rfl, ?_⟩
  repeat (first | exact Below.refl _ _ | refine Below.alloc ?_ (by simp <;> omega) _)

theorem scells_set (m : List SigT) : ∀ (k : Nat) (i : Int) (p : List UInt8), k < m.length → ((scells m).set (k * 2) (.int .i64 i)).set (k * 2 + 1) (.string (S p)) = scells (m.set k ⟨i, p⟩) := by
  induction m with
  | nil => intro k i p h; simp at h
  | cons v m ih =>
    intro k i p h
    match k, h with
    | 0, _ => rfl
    | k + 1, h =>
      rw [scells_cons, show (k + 1) * 2 = k * 2 + 1 + 1 from by omega]
      simp only [List.set_cons_succ, scells_cons]
      rw [ih k i p (by simpa using h)]
theorem scells_zeros (n : Nat) : (madeCells (Value.agg #[.int .i64 0, .string ByteArray.empty]).cells (n * 2)).toList = scells (List.replicate n ⟨0, []⟩) := by
  refine List.ext_getElem? fun j => ?_
  rcases Nat.lt_or_ge j (n * 2) with h | h
  · have hm : j / 2 < (List.replicate n (⟨0, []⟩ : SigT)).length := by simp; omega
    have h2 := scells_at (List.replicate n ⟨0, []⟩) (j / 2) hm
    rw [List.getElem?_eq_getElem (by simp [madeCells]; omega)]
    rcases Nat.mod_two_eq_zero_or_one j with hj | hj
    · have e : j / 2 * 2 = j := by omega
      rw [e] at h2
      rw [h2.1]
      simp [madeCells, Value.cells, hj]
    · have e : j / 2 * 2 + 1 = j := by omega
      rw [e] at h2
      rw [h2.2]
      simp [madeCells, Value.cells, hj]
      rfl
  · rw [List.getElem?_eq_none (by simp [madeCells]; omega), List.getElem?_eq_none (by rw [scells_length]; simp; omega)]
theorem fill_sig (l : List SigT) (k : Nat) (h : k < l.length) : (l.take k ++ List.replicate (l.length - k) (⟨0, []⟩ : SigT)).set k ⟨l[k].val, l[k].sig⟩ = l.take (k + 1) ++ List.replicate (l.length - (k + 1)) (⟨0, []⟩ : SigT) := by
  rw [List.set_append_right _ _ (by simp; omega), List.take_succ_eq_append_getElem h, List.append_assoc]
  congr 1
  rw [show k - (l.take k).length = 0 from by simp; omega, show l.length - k = (l.length - (k + 1)) + 1 from by omega, List.replicate_succ]
  rfl

theorem toCSigS_any (A : Option Addr) (c : Nat) (l : List SigT) (w : World) (hl : l.length ≤ 4194304) (hR : SReads w w.heap.size A l) :
    Calls Tryd.prog 67 #[.slice A l.length c] w fun e w' => e = .returned (.slice (some ⟨w.heap.size, 0, none⟩) l.length l.length) ∧ w'.ownsRow w.heap.size 85 2 (.slice (some ⟨w.heap.size, 0, none⟩) l.length l.length) l.length (scells l) ∧ Below w.heap.size w w' := by
  have HR := Lib.hid hR
  clear hR
  obtain ⟨i0, hi, hz0, hz1, hz2⟩ := info_parts info_csig
  go_enter Tryd.func67, Tryd.ntmps67
  go_wp2_with (at_make; refine wpList_make_full _ rfl _ _ 31 rfl w.heap.size 85 i0 _ 2 Tryd.underlying31 hi hz0 hz1 .i64 .i64 _ _ l.length rfl rfl rfl rfl (by rw [hz2]; omega) (by unfold maxLen; omega) (Nat.le_refl _) ?_; intro w1 hown hgrow)
  have hb1 : Below w.heap.size w w1 := (Below.refl _ _).grown hgrow (Nat.le_refl _) (fun _ h => by cases h)
  go_loopw [4] (fun i wr => ∃ k : Nat, k ≤ l.length ∧ i = .int .i64 k ∧ wr.ownsRow w.heap.size 85 2 (.slice (some ⟨w.heap.size, 0, none⟩) l.length l.length) l.length (scells (l.take k ++ List.replicate (l.length - k) ⟨0, []⟩)) ∧ Below w.heap.size w wr) (fun i _ => l.length - (intOf i).toNat)
  case atStart => exact ⟨0, by omega, rfl, by rw [scells_zeros] at hown; simpa using hown, hb1⟩
  case round =>
    obtain ⟨k, hk, rfl, hown, hb⟩ := hrel
    by_cases hlt : k < l.length
    · obtain ⟨b, off, rfl, hbB, hc⟩ := ((HR.out.below hb (Nat.le_refl _)).more hb.size) (by omega)
      obtain ⟨c0, c1⟩ := hc k hlt
      have hki : 0 ≤ (k : Int) ∧ (k : Int) < l.length := by omega
      have hgb : w.heap.size < wr.heap.size := (hown.lt _ rfl).2
      clear hc
      go_wp2_with fail
      refine (toCSig_any ⟨l[k].val, l[k].sig⟩ _).mono ?_
      rintro e wn ⟨rfl, hbn⟩
      have hb2 := Below.next (w := w) hb hbn
      have hown2 := own_below hown hbn
      have hlen : (l.take k ++ List.replicate (l.length - k) (⟨0, []⟩ : SigT)).length = l.length := by simp; omega
      obtain ⟨u0, s0⟩ : ∃ u, wn.cell? ⟨w.heap.size, k * 2, none⟩ = some u := ⟨_, (hown2.cellAt (k * 2) (by omega)).trans (scells_at _ k (by omega)).1⟩
      obtain ⟨u1, s1⟩ : ∃ u, wn.cell? ⟨w.heap.size, k * 2 + 1, none⟩ = some u := ⟨_, (hown2.cellAt (k * 2 + 1) (by omega)).trans (scells_at _ k (by omega)).2⟩
      have f0 := hown2.frozenAt (k * 2)
      have f1 := hown2.frozenAt (k * 2 + 1)
      have hst := ((hown2.stored (k * 2) (.int .i64 l[k].val)).1.stored (k * 2 + 1) (.string (S l[k].sig))).1
      rw [scells_set _ k _ _ (by omega), fill_sig l k hlt] at hst
      have HST := Lib.hid hst
      clear hst hown hown2 hbn hlen c0 c1 hb
      simp only [SigT.cell]
      go_wp2
      go_roundw
      case rel => exact ⟨k + 1, by omega, by go_num, HST.out, (hb2.setCell (Nat.le_refl _) _).setCell (Nat.le_refl _) _⟩
      case measure => simp [intOf]; omega
    · have hkl : Hid (k = l.length) := by unfold Hid; omega
      go_wp2
      go_ret
      exact ⟨rfl, by have := hown; rw [hkl.out] at this; simpa using this, hb⟩

/-- eqCSigS at two slices that read as one list. -/
theorem eqCSigS_same (A1 A2 : Option Addr) (c1 c2 : Nat) (l : List SigT) (w : World) (hl : l.length ≤ 4194304) (hR1 : SReads w w.heap.size A1 l) (hR2 : SReads w w.heap.size A2 l) :
    Calls Tryd.prog 71 #[.slice A1 l.length c1, .slice A2 l.length c2] w fun e w' => e = .returned (.bool true) ∧ Below w.heap.size w w' := by
  have HR1 := Lib.hid hR1
  have HR2 := Lib.hid hR2
  clear hR1 hR2
  go_enter Tryd.func71, Tryd.ntmps71
  go_wp2
  go_loopw [5] (fun i wr => ∃ k : Nat, k ≤ l.length ∧ i = .int .i64 k ∧ Below w.heap.size w wr) (fun i _ => l.length - (intOf i).toNat)
  case atStart => exact ⟨0, by omega, rfl, Below.refl _ _⟩
  case round =>
    obtain ⟨k, hk, rfl, hb⟩ := hrel
    by_cases hlt : k < l.length
    · obtain ⟨b1, o1, rfl, hbB1, hc1⟩ := ((HR1.out.below hb (Nat.le_refl _)).more hb.size) (by omega)
      obtain ⟨b2, o2, rfl, hbB2, hc2⟩ := ((HR2.out.below hb (Nat.le_refl _)).more hb.size) (by omega)
      obtain ⟨x0, x1⟩ := hc1 k hlt
      obtain ⟨y0, y1⟩ := hc2 k hlt
      clear hc1 hc2
      have hki : 0 ≤ (k : Int) ∧ (k : Int) < l.length := by omega
      go_wp2_with fail
      go_region_with (go_at_call 103; refine (eqCSig_same _ _ _).mono ?_; rintro e wn ⟨rfl, hbn⟩; have hb := Below.next (w := w) hb.drew hbn)
      all_goals
        go_wp2
        go_roundw
        case rel => exact ⟨k + 1, by omega, by go_num, hb⟩
        case measure => simp [intOf]; omega
    · go_wp2
      go_ret
      exact ⟨rfl, hb⟩
end Go.Proofs.YtecimgkgdpnaeaaDoor

/-
  sized, l6Piece; ShowHeader, both.
-/
namespace Go.Proofs.YtecimgkgdpnaeaaDoor
open Go.ChangeShapes Go.WideShapes Go.ChangeAt Go.RowKit
set_option linter.unusedVariables false
set_option linter.unusedSimpArgs false
set_option maxRecDepth 100000

theorem sizedS_len (l : List UInt8) : (sizedS l).length ≤ 8 + l.length := by
  have := varS_len (l.length : Int)
  unfold sizedS; rw [List.length_append]; omega
theorem sized_any (l : List UInt8) (w : World) (hl : l.length ≤ 4194304) :
    Calls Tryd.prog 47 #[.string (S l)] w fun e w' => e = .returned (.string (S (sizedS l))) ∧ Below w.heap.size w w' := by
  have q := varS_len (l.length : Int)
  have hb := Below.refl w.heap.size w
  go_enter Tryd.func47, Tryd.ntmps47
  go_wp2_with (go_at_call 46; refine (iVar_any _ _).mono ?_; rintro e wn ⟨rfl, hbn⟩; have hb := Below.next (w := w) (by repeat (first | with_reducible exact hb | with_reducible exact Below.refl _ _ | refine Below.drew ?_ | refine Below.setCell ?_ (by simp <;> omega) _ | refine Below.alloc ?_ (by simp <;> omega) _)) hbn; clear hbn)
  go_ret
  exact ⟨rfl, hb⟩
theorem l6Piece_any (l : List UInt8) (w : World) (hl : l.length ≤ 4194304) :
    Calls Tryd.prog 62 #[.string (S l)] w fun e w' => e = .returned (.string (S (sizedS l))) ∧ Below w.heap.size w w' := by
  have q := varS_len (l.length : Int)
  have hb := Below.refl w.heap.size w
  go_enter Tryd.func62, Tryd.ntmps62
  go_wp2_with (go_at_call 61; refine (sVar_any _ _).mono ?_; rintro e wn ⟨rfl, hbn⟩; have hb := Below.next (w := w) (by repeat (first | with_reducible exact hb | with_reducible exact Below.refl _ _ | refine Below.drew ?_ | refine Below.setCell ?_ (by simp <;> omega) _ | refine Below.alloc ?_ (by simp <;> omega) _)) hbn; clear hbn)
  go_ret
  exact ⟨rfl, hb⟩
/-- Six cells are held over a call that makes memory. -/
theorem held6 {w cur wm : World} {B : Nat} {u0 u1 u2 u3 u4 u5 : Value}
    (H : Below w.heap.size w cur ∧ B < cur.heap.size ∧ cur.cell? ⟨B, 0, none⟩ = some u0 ∧ cur.cell? ⟨B, 1, none⟩ = some u1 ∧ cur.cell? ⟨B, 2, none⟩ = some u2 ∧ cur.cell? ⟨B, 3, none⟩ = some u3 ∧ cur.cell? ⟨B, 4, none⟩ = some u4 ∧ cur.cell? ⟨B, 5, none⟩ = some u5) (hb : Below cur.heap.size cur wm) :
    Below w.heap.size w wm ∧ B < wm.heap.size ∧ wm.cell? ⟨B, 0, none⟩ = some u0 ∧ wm.cell? ⟨B, 1, none⟩ = some u1 ∧ wm.cell? ⟨B, 2, none⟩ = some u2 ∧ wm.cell? ⟨B, 3, none⟩ = some u3 ∧ wm.cell? ⟨B, 4, none⟩ = some u4 ∧ wm.cell? ⟨B, 5, none⟩ = some u5 := by
  obtain ⟨h1, h2, c0, c1, c2, c3, c4, c5⟩ := H
  have k : ∀ i, wm.cell? ⟨B, i, none⟩ = cur.cell? ⟨B, i, none⟩ := fun i => hb.cell (p := ⟨B, i, none⟩) h2
  exact ⟨Below.next h1 hb, Nat.lt_of_lt_of_le h2 hb.size, (k 0).trans c0, (k 1).trans c1, (k 2).trans c2, (k 3).trans c3, (k 4).trans c4, (k 5).trans c5⟩
theorem headOk_len {x : HeadT} (h : headOkB x = true) : x.last.length ≤ 8 ∧ x.vals.length ≤ 8 ∧ x.next.length ≤ 8 ∧ x.data.length ≤ 20 := by
  unfold headOkB at h
  simp only [Bool.and_eq_true, beq_iff_eq, decide_eq_true_eq] at h
  obtain ⟨⟨⟨⟨⟨_, _⟩, a⟩, b⟩, c⟩, d⟩ := h
  refine ⟨?_, by omega, by omega, d⟩
  rw [c]; split <;> omega

set_option maxHeartbeats 1600000 in
theorem iShowHeader_yes (x : HeadT) (w : World) (hok : headOkB x = true) :
    Calls Tryd.prog 10 #[x.val] w fun e w' => e = .returned (.string (S (showHeadS x))) ∧ Below w.heap.size w w' := by
  have HV : Hid (showHeadS x = varS x.h ++ varS x.t ++ sizedS x.last ++ sizedS x.vals ++ sizedS x.next ++ sizedS x.data) := by unfold Hid showHeadS; rw [if_pos hok]
  obtain ⟨l1, l2, l3, l4⟩ := headOk_len hok
  obtain ⟨h, t, last, vals, next, data⟩ := x
  have hv : HeadT.val ⟨h, t, last, vals, next, data⟩ = .agg #[.int .i64 h, .int .i64 t, .string (S last), .string (S vals), .string (S next), .string (S data)] := rfl
  rw [hv]
  simp only at l1 l2 l3 l4 HV
  have q1 := varS_len h
  have q2 := varS_len t
  have q3 := sizedS_len last
  have q4 := sizedS_len vals
  have q5 := sizedS_len next
  have q6 := sizedS_len data
  have hb := Below.refl w.heap.size w
  go_enter Tryd.func10, Tryd.ntmps10
  go_wp2_with (go_at_call 45; refine (iHeaderOk_any ⟨h, t, last, vals, next, data⟩ _ (by simp only; omega) (by simp only; omega) (by simp only; omega) (by simp only; omega)).mono ?_; rintro e wn ⟨rfl, hbn⟩; have hb := Below.next (w := w) (by repeat (first | with_reducible exact hb | with_reducible exact Below.refl _ _ | refine Below.drew ?_ | refine Below.setCell ?_ (by simp <;> omega) _ | refine Below.alloc ?_ (by simp <;> omega) _)) hbn; obtain ⟨hc, hf⟩ := bcell hbn; have hz := hbn.size; (try simp at hz); (try have hz1 : w.heap.size < wn.heap.size := (by omega)); (try have hz2 : w.heap.size + 1 < wn.heap.size := (by omega)); (try have hz3 : w.heap.size + 1 + 1 < wn.heap.size := (by omega)); clear hbn)
  have c0 : wn.cell? ⟨w.heap.size, 0, none⟩ = some (.int .i64 h) := by go_simp
  have c1 : wn.cell? ⟨w.heap.size, 1, none⟩ = some (.int .i64 t) := by go_simp
  have c2 : wn.cell? ⟨w.heap.size, 2, none⟩ = some (.string (S last)) := by go_simp
  have c3 : wn.cell? ⟨w.heap.size, 3, none⟩ = some (.string (S vals)) := by go_simp
  have c4 : wn.cell? ⟨w.heap.size, 4, none⟩ = some (.string (S next)) := by go_simp
  have c5 : wn.cell? ⟨w.heap.size, 5, none⟩ = some (.string (S data)) := by go_simp
  have hz1 : w.heap.size < wn.heap.size := by omega
  have m1 := fun W : World => run_string_add_sum (P := Tryd.prog) W (S (varS h)) (S (varS t)) (by simp; omega)
  have m2 := fun W : World => run_string_add_sum (P := Tryd.prog) W (S (varS h ++ varS t)) (S (sizedS last)) (by simp; omega)
  have m3 := fun W : World => run_string_add_sum (P := Tryd.prog) W (S (varS h ++ (varS t ++ sizedS last))) (S (sizedS vals)) (by simp; omega)
  have m4 := fun W : World => run_string_add_sum (P := Tryd.prog) W (S (varS h ++ (varS t ++ (sizedS last ++ sizedS vals)))) (S (sizedS next)) (by simp; omega)
  have m5 := fun W : World => run_string_add_sum (P := Tryd.prog) W (S (varS h ++ (varS t ++ (sizedS last ++ (sizedS vals ++ sizedS next))))) (S (sizedS data)) (by simp; omega)
  clear hc hf
  go_region_held3 (fun w' => Below w.heap.size w w' ∧ w.heap.size < w'.heap.size ∧ w'.cell? ⟨w.heap.size, 0, none⟩ = some (.int .i64 h) ∧ w'.cell? ⟨w.heap.size, 1, none⟩ = some (.int .i64 t) ∧ w'.cell? ⟨w.heap.size, 2, none⟩ = some (.string (S last)) ∧ w'.cell? ⟨w.heap.size, 3, none⟩ = some (.string (S vals)) ∧ w'.cell? ⟨w.heap.size, 4, none⟩ = some (.string (S next)) ∧ w'.cell? ⟨w.heap.size, 5, none⟩ = some (.string (S data))) (first | exact ⟨hb.drew, hz1, c0, c1, c2, c3, c4, c5⟩ | exact held6 (by assumption) hbm | go_keep)
    (first | (go_at_call 46; refine (iVar_any _ _).mono ?_; rintro e wm ⟨rfl, hbm⟩) | (go_at_call 47; refine (sized_any _ _ (by omega)).mono ?_; rintro e wm ⟨rfl, hbm⟩))
  all_goals
    go_wp2
    go_ret
    refine ⟨ret_string (by rw [HV.out]; simp), ?_⟩; apply And.left; assumption

theorem iShowHeader_no (x : HeadT) (w : World) (h1 : x.last.length ≤ 9223372036854775807) (h2 : x.vals.length ≤ 9223372036854775807) (h3 : x.next.length ≤ 9223372036854775807) (h4 : x.data.length ≤ 9223372036854775807) (hok : headOkB x = false) :
    Calls Tryd.prog 10 #[x.val] w fun e w' => e = .returned (.string (S (showHeadS x))) ∧ Below w.heap.size w w' := by
  have HV : Hid (showHeadS x = []) := by unfold Hid showHeadS; rw [hok]; rfl
  obtain ⟨h, t, last, vals, next, data⟩ := x
  have hv : HeadT.val ⟨h, t, last, vals, next, data⟩ = .agg #[.int .i64 h, .int .i64 t, .string (S last), .string (S vals), .string (S next), .string (S data)] := rfl
  rw [hv]
  simp only at h1 h2 h3 h4 HV
  have hb := Below.refl w.heap.size w
  go_enter Tryd.func10, Tryd.ntmps10
  go_wp2_with (go_at_call 45; refine (iHeaderOk_any ⟨h, t, last, vals, next, data⟩ _ h1 h2 h3 h4).mono ?_; rintro e wn ⟨rfl, hbn⟩; have hb := Below.next (w := w) (by repeat (first | with_reducible exact hb | with_reducible exact Below.refl _ _ | refine Below.drew ?_ | refine Below.setCell ?_ (by simp <;> omega) _ | refine Below.alloc ?_ (by simp <;> omega) _)) hbn; obtain ⟨hc, hf⟩ := bcell hbn; have hz := hbn.size; (try simp at hz); (try have hz1 : w.heap.size < wn.heap.size := (by omega)); (try have hz2 : w.heap.size + 1 < wn.heap.size := (by omega)); (try have hz3 : w.heap.size + 1 + 1 < wn.heap.size := (by omega)); clear hbn)
  go_ret
  exact ⟨ret_string (by rw [HV.out]; rfl), hb⟩
theorem iShowHeader_any (x : HeadT) (w : World) (h1 : x.last.length ≤ 9223372036854775807) (h2 : x.vals.length ≤ 9223372036854775807) (h3 : x.next.length ≤ 9223372036854775807) (h4 : x.data.length ≤ 9223372036854775807) :
    Calls Tryd.prog 10 #[x.val] w fun e w' => e = .returned (.string (S (showHeadS x))) ∧ Below w.heap.size w w' := by
  cases hok : headOkB x
  · exact iShowHeader_no x w h1 h2 h3 h4 hok
  · exact iShowHeader_yes x w hok

set_option maxHeartbeats 1600000 in
theorem sShowHeader_yes (x : HeadT) (w : World) (hok : headOkB x = true) :
    Calls Tryd.prog 48 #[x.val] w fun e w' => e = .returned (.string (S (showHeadS x))) ∧ Below w.heap.size w w' := by
  have HV : Hid (showHeadS x = varS x.h ++ varS x.t ++ sizedS x.last ++ sizedS x.vals ++ sizedS x.next ++ sizedS x.data) := by unfold Hid showHeadS; rw [if_pos hok]
  obtain ⟨l1, l2, l3, l4⟩ := headOk_len hok
  obtain ⟨h, t, last, vals, next, data⟩ := x
  have hv : HeadT.val ⟨h, t, last, vals, next, data⟩ = .agg #[.int .i64 h, .int .i64 t, .string (S last), .string (S vals), .string (S next), .string (S data)] := rfl
  rw [hv]
  simp only at l1 l2 l3 l4 HV
  have q1 := varS_len h
  have q2 := varS_len t
  have q3 := sizedS_len last
  have q4 := sizedS_len vals
  have q5 := sizedS_len next
  have q6 := sizedS_len data
  have hb := Below.refl w.heap.size w
  go_enter Tryd.func48, Tryd.ntmps48
  go_wp2_with (go_at_call 18; refine (sHeaderOk_any ⟨h, t, last, vals, next, data⟩ _ (by simp only; omega) (by simp only; omega) (by simp only; omega) (by simp only; omega)).mono ?_; rintro e wn ⟨rfl, hbn⟩; have hb := Below.next (w := w) (by repeat (first | with_reducible exact hb | with_reducible exact Below.refl _ _ | refine Below.drew ?_ | refine Below.setCell ?_ (by simp <;> omega) _ | refine Below.alloc ?_ (by simp <;> omega) _)) hbn; obtain ⟨hc, hf⟩ := bcell hbn; have hz := hbn.size; (try simp at hz); (try have hz1 : w.heap.size < wn.heap.size := (by omega)); (try have hz2 : w.heap.size + 1 < wn.heap.size := (by omega)); (try have hz3 : w.heap.size + 1 + 1 < wn.heap.size := (by omega)); clear hbn)
  have c0 : wn.cell? ⟨w.heap.size, 0, none⟩ = some (.int .i64 h) := by go_simp
  have c1 : wn.cell? ⟨w.heap.size, 1, none⟩ = some (.int .i64 t) := by go_simp
  have c2 : wn.cell? ⟨w.heap.size, 2, none⟩ = some (.string (S last)) := by go_simp
  have c3 : wn.cell? ⟨w.heap.size, 3, none⟩ = some (.string (S vals)) := by go_simp
  have c4 : wn.cell? ⟨w.heap.size, 4, none⟩ = some (.string (S next)) := by go_simp
  have c5 : wn.cell? ⟨w.heap.size, 5, none⟩ = some (.string (S data)) := by go_simp
  have hz1 : w.heap.size < wn.heap.size := by omega
  have m1 := fun W : World => run_string_add_sum (P := Tryd.prog) W (S (varS h)) (S (varS t)) (by simp; omega)
  have m2 := fun W : World => run_string_add_sum (P := Tryd.prog) W (S (varS h ++ varS t)) (S (sizedS last)) (by simp; omega)
  have m3 := fun W : World => run_string_add_sum (P := Tryd.prog) W (S (varS h ++ (varS t ++ sizedS last))) (S (sizedS vals)) (by simp; omega)
  have m4 := fun W : World => run_string_add_sum (P := Tryd.prog) W (S (varS h ++ (varS t ++ (sizedS last ++ sizedS vals)))) (S (sizedS next)) (by simp; omega)
  have m5 := fun W : World => run_string_add_sum (P := Tryd.prog) W (S (varS h ++ (varS t ++ (sizedS last ++ (sizedS vals ++ sizedS next))))) (S (sizedS data)) (by simp; omega)
  clear hc hf
  go_region_held3 (fun w' => Below w.heap.size w w' ∧ w.heap.size < w'.heap.size ∧ w'.cell? ⟨w.heap.size, 0, none⟩ = some (.int .i64 h) ∧ w'.cell? ⟨w.heap.size, 1, none⟩ = some (.int .i64 t) ∧ w'.cell? ⟨w.heap.size, 2, none⟩ = some (.string (S last)) ∧ w'.cell? ⟨w.heap.size, 3, none⟩ = some (.string (S vals)) ∧ w'.cell? ⟨w.heap.size, 4, none⟩ = some (.string (S next)) ∧ w'.cell? ⟨w.heap.size, 5, none⟩ = some (.string (S data))) (first | exact ⟨hb.drew, hz1, c0, c1, c2, c3, c4, c5⟩ | exact held6 (by assumption) hbm | go_keep)
    (first | (go_at_call 61; refine (sVar_any _ _).mono ?_; rintro e wm ⟨rfl, hbm⟩) | (go_at_call 62; refine (l6Piece_any _ _ (by omega)).mono ?_; rintro e wm ⟨rfl, hbm⟩))
  all_goals
    go_wp2
    go_ret
    refine ⟨ret_string (by rw [HV.out]; simp), ?_⟩; apply And.left; assumption

theorem sShowHeader_no (x : HeadT) (w : World) (h1 : x.last.length ≤ 9223372036854775807) (h2 : x.vals.length ≤ 9223372036854775807) (h3 : x.next.length ≤ 9223372036854775807) (h4 : x.data.length ≤ 9223372036854775807) (hok : headOkB x = false) :
    Calls Tryd.prog 48 #[x.val] w fun e w' => e = .returned (.string (S (showHeadS x))) ∧ Below w.heap.size w w' := by
  have HV : Hid (showHeadS x = []) := by unfold Hid showHeadS; rw [hok]; rfl
  obtain ⟨h, t, last, vals, next, data⟩ := x
  have hv : HeadT.val ⟨h, t, last, vals, next, data⟩ = .agg #[.int .i64 h, .int .i64 t, .string (S last), .string (S vals), .string (S next), .string (S data)] := rfl
  rw [hv]
  simp only at h1 h2 h3 h4 HV
  have hb := Below.refl w.heap.size w
  go_enter Tryd.func48, Tryd.ntmps48
  go_wp2_with (go_at_call 18; refine (sHeaderOk_any ⟨h, t, last, vals, next, data⟩ _ h1 h2 h3 h4).mono ?_; rintro e wn ⟨rfl, hbn⟩; have hb := Below.next (w := w) (by repeat (first | with_reducible exact hb | with_reducible exact Below.refl _ _ | refine Below.drew ?_ | refine Below.setCell ?_ (by simp <;> omega) _ | refine Below.alloc ?_ (by simp <;> omega) _)) hbn; obtain ⟨hc, hf⟩ := bcell hbn; have hz := hbn.size; (try simp at hz); (try have hz1 : w.heap.size < wn.heap.size := (by omega)); (try have hz2 : w.heap.size + 1 < wn.heap.size := (by omega)); (try have hz3 : w.heap.size + 1 + 1 < wn.heap.size := (by omega)); clear hbn)
  go_ret
  exact ⟨ret_string (by rw [HV.out]; rfl), hb⟩
theorem sShowHeader_any (x : HeadT) (w : World) (h1 : x.last.length ≤ 9223372036854775807) (h2 : x.vals.length ≤ 9223372036854775807) (h3 : x.next.length ≤ 9223372036854775807) (h4 : x.data.length ≤ 9223372036854775807) :
    Calls Tryd.prog 48 #[x.val] w fun e w' => e = .returned (.string (S (showHeadS x))) ∧ Below w.heap.size w w' := by
  cases hok : headOkB x
  · exact sShowHeader_no x w h1 h2 h3 h4 hok
  · exact sShowHeader_yes x w hok
end Go.Proofs.YtecimgkgdpnaeaaDoor

/-
  ShowVals, both.
-/
namespace Go.Proofs.YtecimgkgdpnaeaaDoor
open Go.ChangeShapes Go.WideShapes Go.ChangeAt Go.RowKit
set_option linter.unusedVariables false
set_option linter.unusedSimpArgs false
set_option maxRecDepth 100000

/-- Two cells are held over a call that makes memory. -/
theorem held2 {w cur wm : World} {B o p : Nat} {u0 u1 : Value}
    (H : Below w.heap.size w cur ∧ B < cur.heap.size ∧ cur.cell? ⟨B, o, none⟩ = some u0 ∧ cur.cell? ⟨B, p, none⟩ = some u1) (hb : Below cur.heap.size cur wm) :
    Below w.heap.size w wm ∧ B < wm.heap.size ∧ wm.cell? ⟨B, o, none⟩ = some u0 ∧ wm.cell? ⟨B, p, none⟩ = some u1 := by
  obtain ⟨h1, h2, c0, c1⟩ := H
  have k : ∀ i, wm.cell? ⟨B, i, none⟩ = cur.cell? ⟨B, i, none⟩ := fun i => hb.cell (p := ⟨B, i, none⟩) h2
  exact ⟨Below.next h1 hb, Nat.lt_of_lt_of_le h2 hb.size, (k o).trans c0, (k p).trans c1⟩

theorem iShowVals_yes (A : Option Addr) (c : Nat) (l : List ValT) (w : World) (hl : l.length ≤ 4194304) (hR : VReads w w.heap.size A l) (hok : valsOkB l = true) :
    Calls Tryd.prog 105 #[.slice A l.length c] w fun e w' => e = .returned (.string (S (showValsS l))) ∧ Below w.heap.size w w' := by
  have HV : Hid (showValsS l = varS (l.length : Int) ++ l.flatMap showVal) := by unfold Hid showValsS; rw [if_pos hok]
  have HR := Lib.hid hR
  clear hR
  have hb := Below.refl w.heap.size w
  have q0 := varS_len (l.length : Int)
  obtain ⟨N, hN⟩ : ∃ N, N = varS (l.length : Int) := ⟨_, rfl⟩
  go_enter Tryd.func105, Tryd.ntmps105
  go_wp2_with (first | (go_at_call 73; refine (iValsOk_any _ _ _ _ hl HR.out).mono ?_; rintro e wn ⟨rfl, hbn⟩; have hb := Below.next (w := w) (by repeat (first | with_reducible exact hb | with_reducible exact Below.refl _ _ | refine Below.drew ?_ | refine Below.setCell ?_ (by simp <;> omega) _ | refine Below.alloc ?_ (by simp <;> omega) _)) hbn; clear hbn) | (go_at_call 46; refine (iVar_any _ _).mono ?_; rintro e wn ⟨rfl, hbn⟩; have hb := Below.next (w := w) (by repeat (first | with_reducible exact hb | with_reducible exact Below.refl _ _ | refine Below.drew ?_ | refine Below.setCell ?_ (by simp <;> omega) _ | refine Below.alloc ?_ (by simp <;> omega) _)) hbn; clear hbn))
  rw [← hN] at q0 HV ⊢
  have HN := Lib.hid hN
  clear hN
  have hb0 := Lib.hid hb
  go_loopw [3, 14] (fun s i wr => ∃ k : Nat, k ≤ l.length ∧ i = .int .i64 k ∧ s = .string (S (N ++ (l.take k).flatMap showVal)) ∧ Below w.heap.size w wr) (fun _ i _ => l.length - (intOf i).toNat)
  case atStart => exact ⟨0, by omega, rfl, by simp, hb0.out⟩
  case round =>
    obtain ⟨k, hk, rfl, rfl, hb⟩ := hrel
    by_cases hlt : k < l.length
    · obtain ⟨b, off, rfl, hbB, hc⟩ := ((HR.out.below hb (Nat.le_refl _)).more hb.size) (by omega)
      obtain ⟨c0, c1⟩ := hc k hlt
      have hki : 0 ≤ (k : Int) ∧ (k : Int) < l.length := by omega
      have hs := Lib.hid (showVal_take l k hlt)
      have hlen : ((l.take k).flatMap showVal).length ≤ 16 * l.length := Nat.le_trans (showVal_len _) (by simp; omega)
      have q1 := varS_len l[k].id
      have q2 := varS_len l[k].power
      generalize (l.take k).flatMap showVal = T at *
      have m1 := fun W : World => run_string_add_sum (P := Tryd.prog) W (S (N ++ T)) (S (varS l[k].id)) (by simp; omega)
      have m2 := fun W : World => run_string_add_sum (P := Tryd.prog) W (S (N ++ (T ++ varS l[k].id))) (S (varS l[k].power)) (by simp; omega)
      have hb1 := Lib.hid (hb.alloc hb.size (.cells #[.int .i64 l[k].id, .int .i64 l[k].power] 101))
      clear hc
      go_wp2_with fail
      go_region_held3 (fun w' => Below w.heap.size w w' ∧ wr.heap.size < w'.heap.size ∧ w'.cell? ⟨wr.heap.size, 0, none⟩ = some (.int .i64 l[k].id) ∧ w'.cell? ⟨wr.heap.size, 1, none⟩ = some (.int .i64 l[k].power)) (first | exact ⟨hb1.out.drew, by simp, by go_simp, by go_simp⟩ | exact held2 (by assumption) hbm | go_keep) (first | (go_at_call 46; refine (iVar_any _ _).mono ?_; rintro e wm ⟨rfl, hbm⟩))
      all_goals
        have hbx : Below w.heap.size w wm := by
          apply And.left
          assumption
        go_wp2
        go_roundw
        case rel => exact ⟨k + 1, by omega, by go_num, by rw [hs.out], hbx⟩
        case measure => simp [intOf]; omega
    · have hkl : Hid ((l.take k).flatMap showVal = l.flatMap showVal) := by unfold Hid; rw [List.take_of_length_le (by omega)]
      go_wp2
      go_ret
      exact ⟨ret_string (by rw [HV.out, hkl.out]), hb⟩

theorem iShowVals_no (A : Option Addr) (c : Nat) (l : List ValT) (w : World) (hl : l.length ≤ 4194304) (hR : VReads w w.heap.size A l) (hok : valsOkB l = false) :
    Calls Tryd.prog 105 #[.slice A l.length c] w fun e w' => e = .returned (.string (S (showValsS l))) ∧ Below w.heap.size w w' := by
  have HV : Hid (showValsS l = []) := by unfold Hid showValsS; rw [hok]; rfl
  have HR := Lib.hid hR
  clear hR
  have hb := Below.refl w.heap.size w
  go_enter Tryd.func105, Tryd.ntmps105
  go_wp2_with (go_at_call 73; refine (iValsOk_any _ _ _ _ hl HR.out).mono ?_; rintro e wn ⟨rfl, hbn⟩; have hb := Below.next (w := w) (by repeat (first | with_reducible exact hb | with_reducible exact Below.refl _ _ | refine Below.drew ?_ | refine Below.setCell ?_ (by simp <;> omega) _ | refine Below.alloc ?_ (by simp <;> omega) _)) hbn; clear hbn)
  go_ret
  exact ⟨ret_string (by rw [HV.out]; rfl), hb⟩
theorem iShowVals_any (A : Option Addr) (c : Nat) (l : List ValT) (w : World) (hl : l.length ≤ 4194304) (hR : VReads w w.heap.size A l) :
    Calls Tryd.prog 105 #[.slice A l.length c] w fun e w' => e = .returned (.string (S (showValsS l))) ∧ Below w.heap.size w w' := by
  cases hok : valsOkB l
  · exact iShowVals_no A c l w hl hR hok
  · exact iShowVals_yes A c l w hl hR hok
theorem sShowVals_yes (A : Option Addr) (c : Nat) (l : List ValT) (w : World) (hl : l.length ≤ 4194304) (hR : VReads w w.heap.size A l) (hok : valsOkB l = true) :
    Calls Tryd.prog 110 #[.slice A l.length c] w fun e w' => e = .returned (.string (S (showValsS l))) ∧ Below w.heap.size w w' := by
  have HV : Hid (showValsS l = varS (l.length : Int) ++ l.flatMap showVal) := by unfold Hid showValsS; rw [if_pos hok]
  have HR := Lib.hid hR
  clear hR
  have hb := Below.refl w.heap.size w
  have q0 := varS_len (l.length : Int)
  obtain ⟨N, hN⟩ : ∃ N, N = varS (l.length : Int) := ⟨_, rfl⟩
  go_enter Tryd.func110, Tryd.ntmps110
  go_wp2_with (first | (go_at_call 76; refine (sValsOk_any _ _ _ _ hl HR.out).mono ?_; rintro e wn ⟨rfl, hbn⟩; have hb := Below.next (w := w) (by repeat (first | with_reducible exact hb | with_reducible exact Below.refl _ _ | refine Below.drew ?_ | refine Below.setCell ?_ (by simp <;> omega) _ | refine Below.alloc ?_ (by simp <;> omega) _)) hbn; clear hbn) | (go_at_call 61; refine (sVar_any _ _).mono ?_; rintro e wn ⟨rfl, hbn⟩; have hb := Below.next (w := w) (by repeat (first | with_reducible exact hb | with_reducible exact Below.refl _ _ | refine Below.drew ?_ | refine Below.setCell ?_ (by simp <;> omega) _ | refine Below.alloc ?_ (by simp <;> omega) _)) hbn; clear hbn))
  rw [← hN] at q0 HV ⊢
  have HN := Lib.hid hN
  clear hN
  have hb0 := Lib.hid hb
  go_loopw [3, 4] (fun s i wr => ∃ k : Nat, k ≤ l.length ∧ i = .int .i64 k ∧ s = .string (S (N ++ (l.take k).flatMap showVal)) ∧ Below w.heap.size w wr) (fun _ i _ => l.length - (intOf i).toNat)
  case atStart => exact ⟨0, by omega, rfl, by simp, hb0.out⟩
  case round =>
    obtain ⟨k, hk, rfl, rfl, hb⟩ := hrel
    by_cases hlt : k < l.length
    · obtain ⟨b, off, rfl, hbB, hc⟩ := ((HR.out.below hb (Nat.le_refl _)).more hb.size) (by omega)
      obtain ⟨c0, c1⟩ := hc k hlt
      have hki : 0 ≤ (k : Int) ∧ (k : Int) < l.length := by omega
      have hs := Lib.hid (showVal_take l k hlt)
      have hlen : ((l.take k).flatMap showVal).length ≤ 16 * l.length := Nat.le_trans (showVal_len _) (by simp; omega)
      have q1 := varS_len l[k].id
      have q2 := varS_len l[k].power
      generalize (l.take k).flatMap showVal = T at *
      have m1 := fun W : World => run_string_add_sum (P := Tryd.prog) W (S (N ++ T)) (S (varS l[k].id)) (by simp; omega)
      have m2 := fun W : World => run_string_add_sum (P := Tryd.prog) W (S (N ++ (T ++ varS l[k].id))) (S (varS l[k].power)) (by simp; omega)
      clear hc
      go_wp2_with fail
      go_region_held3 (fun w' => Below w.heap.size w w' ∧ b < w'.heap.size ∧ w'.cell? ⟨b, off + k * 2, none⟩ = some (.int .i64 l[k].id) ∧ w'.cell? ⟨b, off + k * 2 + 1, none⟩ = some (.int .i64 l[k].power)) (first | exact ⟨hb.drew, hbB, c0, c1⟩ | exact held2 (by assumption) hbm | go_keep) (first | (go_at_call 61; refine (sVar_any _ _).mono ?_; rintro e wm ⟨rfl, hbm⟩))
      all_goals
        have hbx : Below w.heap.size w wm := by
          apply And.left
          assumption
        go_wp2
        go_roundw
        case rel => exact ⟨k + 1, by omega, by go_num, by rw [hs.out], hbx⟩
        case measure => simp [intOf]; omega
    · have hkl : Hid ((l.take k).flatMap showVal = l.flatMap showVal) := by unfold Hid; rw [List.take_of_length_le (by omega)]
      go_wp2
      go_ret
      exact ⟨ret_string (by rw [HV.out, hkl.out]), hb⟩

theorem sShowVals_no (A : Option Addr) (c : Nat) (l : List ValT) (w : World) (hl : l.length ≤ 4194304) (hR : VReads w w.heap.size A l) (hok : valsOkB l = false) :
    Calls Tryd.prog 110 #[.slice A l.length c] w fun e w' => e = .returned (.string (S (showValsS l))) ∧ Below w.heap.size w w' := by
  have HV : Hid (showValsS l = []) := by unfold Hid showValsS; rw [hok]; rfl
  have HR := Lib.hid hR
  clear hR
  have hb := Below.refl w.heap.size w
  go_enter Tryd.func110, Tryd.ntmps110
  go_wp2_with (go_at_call 76; refine (sValsOk_any _ _ _ _ hl HR.out).mono ?_; rintro e wn ⟨rfl, hbn⟩; have hb := Below.next (w := w) (by repeat (first | with_reducible exact hb | with_reducible exact Below.refl _ _ | refine Below.drew ?_ | refine Below.setCell ?_ (by simp <;> omega) _ | refine Below.alloc ?_ (by simp <;> omega) _)) hbn; clear hbn)
  go_ret
  exact ⟨ret_string (by rw [HV.out]; rfl), hb⟩
theorem sShowVals_any (A : Option Addr) (c : Nat) (l : List ValT) (w : World) (hl : l.length ≤ 4194304) (hR : VReads w w.heap.size A l) :
    Calls Tryd.prog 110 #[.slice A l.length c] w fun e w' => e = .returned (.string (S (showValsS l))) ∧ Below w.heap.size w w' := by
  cases hok : valsOkB l
  · exact sShowVals_no A c l w hl hR hok
  · exact sShowVals_yes A c l w hl hR hok
end Go.Proofs.YtecimgkgdpnaeaaDoor
