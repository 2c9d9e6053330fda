/-
  slices.Delete of one validator, in place.
-/
import Derived.Test.YtnmgecaflildoaaChg0
import Derived.Test.YtnmgecaflildoaaApV
import Derived.Test.YtnmgecaflildoaaBut0
import Derived.Deep.RegionLaw
import Derived.Lib.SliceRun
import Derived.Lib.Walk
namespace Go.Proofs.Ytnmgecaflildoaa
open Go.ChangeShapes Go.WideShapes Go.ChangeAt Go.RowKit
set_option linter.unusedVariables false
set_option linter.unusedSimpArgs false
set_option maxRecDepth 100000

/-- A run of stores into a list. -/
def setL (xs : List Value) : Nat → List Value → List Value
  | _, [] => xs
  | s, v :: r => setL (xs.set s v) (s + 1) r
theorem setL_is : ∀ (vs xs : List Value) (s : Nat), s + vs.length ≤ xs.length → setL xs s vs = xs.take s ++ vs ++ xs.drop (s + vs.length)
  | [], xs, s, h => by simp [setL]
  | v :: r, xs, s, h => by
    have h' : s + 1 + r.length ≤ (xs.set s v).length := by simp at h ⊢; omega
    rw [setL, setL_is r (xs.set s v) (s + 1) h']
    have hs : s < xs.length := by simp at h; omega
    have e1 : (xs.set s v).take (s + 1) = xs.take s ++ [v] := by
      rw [List.take_succ_eq_append_getElem (by simpa using hs), List.getElem_set_self, List.take_set_of_le (Nat.le_refl _)]
    have e2 : (xs.set s v).drop (s + 1 + r.length) = xs.drop (s + (v :: r).length) := by
      rw [List.drop_set_of_lt (by omega)]
      congr 1
      simp; omega
    rw [e1, e2]
    simp
theorem own_setCells {base g n cap size : Nat} {e : TypeId} : ∀ (vs : List Value) (s : Nat) (xs : List Value) (w : World), w.ownsRow base e size (.slice (some ⟨g, 0, none⟩) n cap) n xs →
    (w.setCells g s vs).ownsRow base e size (.slice (some ⟨g, 0, none⟩) n cap) n (setL xs s vs) ∧ w.grownBy (w.setCells g s vs) (some g)
  | [], s, xs, w, h => ⟨h, gb_of_below (Below.refl _ _)⟩
  | v :: r, s, xs, w, h => by
    have h1 := h.stored s v
    have h2 := own_setCells r (s + 1) (xs.set s v) _ h1.1
    exact ⟨h2.1, gb_trans h1.2 h2.2⟩
theorem own_cut {w : World} {base g n m cap size : Nat} {e : TypeId} {xs : List Value} (h : w.ownsRow base e size (.slice (some ⟨g, 0, none⟩) n cap) n xs) (hm : m ≤ n) : w.ownsRow base e size (.slice (some ⟨g, 0, none⟩) m cap) m (xs.take (m * size)) := by
  have hml : m * size ≤ n * size := Nat.mul_le_mul_right size hm
  refine ⟨by rw [List.length_take, h.1]; omega, ?_⟩
  rcases h.2 with ⟨h0, _⟩ | ⟨g', cap', cur, hv, hg, hb, h1, h2, h3, h4⟩
  · simp at h0
  · simp only [Value.slice.injEq, Option.some.injEq, Addr.mk.injEq, and_true, true_and] at hv
    obtain ⟨rfl, rfl⟩ := hv
    refine .inr ⟨g, cap, cur, rfl, hg, hb, by omega, h2, h3, ?_⟩
    rw [← h4, List.take_take]
    congr 1
    omega
theorem vcells_len3 (d : List ValT) : (vcells d).length = d.length * 2 := by
  induction d with
  | nil => rfl
  | cons x t ih => rw [vcells_cons, List.length_cons, List.length_cons, ih, List.length_cons]; omega
theorem vcells_take : ∀ (d : List ValT) (k : Nat), (vcells d).take (k * 2) = vcells (d.take k)
  | [], k => by simp [vcells]
  | x :: t, 0 => by simp [vcells]
  | x :: t, k + 1 => by
    rw [vcells_cons, show (k + 1) * 2 = k * 2 + 1 + 1 from by omega, List.take_succ_cons, List.take_succ_cons, vcells_take t k, List.take_succ_cons, vcells_cons]
/-- The row behind the deletion. -/
theorem del_row (a : List ValT) (k : Nat) (hk : k < a.length) : (setL (setL (vcells a) (k * 2) (vcells (a.drop (k + 1)))) ((a.length - 1) * 2) [.int .i64 0, .int .i64 0]).take ((a.length - 1) * 2) = vcells (a.take k ++ a.drop (k + 1)) := by
  have hl := vcells_len3 a
  have hn : (vcells (a.drop (k + 1))).length = (a.length - (k + 1)) * 2 := by rw [vcells_len3, List.length_drop]
  have e1 := setL_is (vcells (a.drop (k + 1))) (vcells a) (k * 2) (by omega)
  have hl1 : (setL (vcells a) (k * 2) (vcells (a.drop (k + 1)))).length = a.length * 2 := by
    rw [e1]; simp only [List.length_append, List.length_take, List.length_drop]; omega
  rw [setL_is _ _ _ (by rw [hl1]; simp; omega), List.append_assoc, List.take_append_of_le_length (by rw [List.length_take, hl1]; omega), List.take_take, Nat.min_self, e1,
    List.take_append_of_le_length (by simp only [List.length_append, List.length_take]; omega), List.take_of_length_le (by simp only [List.length_append, List.length_take]; omega), vcells_take, vcells_append]

theorem run_clear_val {P : Program} (w : World) (t e ty : TypeId) (ht : P.underlying t = some (.slice e)) (hv : ∀ w, (zeroValue e).run P w = .ok (.agg #[.int .i64 0, .int .i64 0]) w) (b o c : Nat)
    (hc : ∀ j, j < 2 → (w.cell? ⟨b, o + j, none⟩).isSome = true) (hf : ∀ j, j < 2 → w.frozen? ⟨b, o + j, none⟩ = false) :
    (Builtin.clear_ #[t] ty #[.slice (some ⟨b, o, none⟩) 1 c]).run P w = .ok (.tuple #[]) (w.setCells b o [.int .i64 0, .int .i64 0]) := by
  have hzc : (Builtin.zeroCells (Value.agg #[.int .i64 0, .int .i64 0]).cells 1).toList = [.int .i64 0, .int .i64 0] := by
    first | (simp [Builtin.zeroCells, Value.cells]; done) | (simp [Builtin.zeroCells, Value.cells]; rfl) | decide | (apply List.ext_getElem <;> simp [Builtin.zeroCells, Value.cells])
  have hst := run_storeCells_cells (P := P) b o [.int .i64 0, .int .i64 0] 0 w (by simpa using hc) (by simpa using hf) (by intro v hv'; simp at hv'; subst hv'; rfl)
  simp only [Nat.add_zero] at hst
  simp [Builtin.clear_, run_underlying ht, hv, hzc, hst]

set_option maxHeartbeats 4000000 in
theorem delVals {base g cap k j : Nat} {a : List ValT} {w : World} (h : w.ownsRow base 34 2 (.slice (some ⟨g, 0, none⟩) a.length cap) a.length (vcells a)) (hk : k < a.length) (hj : j = k + 1) (hcm : cap ≤ 9223372036854775807) (hac : a.length ≤ cap) :
    Calls Try.prog 18 #[.slice (some ⟨g, 0, none⟩) a.length cap, .int .i64 (k : Int), .int .i64 (j : Int)] w fun e w' => e = .returned (.slice (some ⟨g, 0, none⟩) (a.length - 1) cap) ∧ w'.ownsRow base 34 2 (.slice (some ⟨g, 0, none⟩) (a.length - 1) cap) (a.length - 1) (vcells (a.take k ++ a.drop (k + 1))) ∧ w.grownBy w' (some g) := by
  obtain ⟨i0, hi, hz0, hz1, hz2⟩ := info_parts (show (Try.prog.info? 34).map (fun i => (i.zero, i.size, i.bytes)) = some (some (.agg #[.int .i64 0, .int .i64 0]), 2, 16) from by kernel_rfl)
  obtain ⟨news, hnews⟩ : ∃ news, news = vcells (a.drop j) := ⟨_, rfl⟩
  have hlen : news.length = (a.length - j) * 2 := by rw [hnews, vcells_len3, List.length_drop]
  have hrow := del_row a k hk
  rw [← hj, ← hnews] at hrow
  have hcell : ∀ t, t < a.length * 2 → w.cell? ⟨g, t, none⟩ = (vcells a)[t]? := fun t ht => h.cellAt t ht
  have hsome : ∀ t, t < a.length * 2 → (w.cell? ⟨g, t, none⟩).isSome = true := fun t ht => by
    rw [hcell t ht, List.getElem?_eq_getElem (by rw [vcells_len3]; exact ht)]; rfl
  have hget : ∀ t u, news[t]? = some u → (vcells a)[j * 2 + t]? = some u := fun t u hu => by
    have e : vcells a = vcells (a.take j) ++ news := by rw [hnews, ← vcells_append, List.take_append_drop]
    rw [e, List.getElem?_append_right (by rw [vcells_len3, List.length_take]; omega), vcells_len3, List.length_take, show min j a.length = j from by omega, show j * 2 + t - j * 2 = t from by omega]
    exact hu
  obtain ⟨A, hA, hsrc⟩ : ∃ A : Addr, (if cap = j then some (⟨g, 0, none⟩ : Addr) else some ⟨g, j * 2, none⟩) = some A ∧ Hid (∀ t u, news[t]? = some u → w.drew.cell? (A.add t) = some u) := by
    by_cases hc : cap = j
    · refine ⟨⟨g, 0, none⟩, by simp [hc], fun t u hu => ?_⟩
      have h0 : news.length = 0 := by rw [hlen]; omega
      rw [List.length_eq_zero_iff.1 h0] at hu
      simp at hu
    · refine ⟨⟨g, j * 2, none⟩, by simp [hc], fun t u hu => ?_⟩
      have ht := (List.getElem?_eq_some_iff.1 hu).1
      rw [Addr.add_lit]
      exact (hcell (j * 2 + t) (by omega)).trans (hget t u hu)
  have s1 : Hid (news.length = (a.length - j) * 2) := hlen
  have s2 : Hid (∀ u ∈ news, u.oneCell' = true) := by
    rw [hnews]
    exact vcells_cell _
  have hfr : ∀ t, w.frozen? ⟨g, t, none⟩ = false := fun t => h.frozenAt t
  have s3 : Hid (∀ t, t < news.length → (w.drew.cell? ⟨g, 0 + k * 2 + t, none⟩).isSome = true ∧ w.drew.frozen? ⟨g, 0 + k * 2 + t, none⟩ = false) := fun t ht => ⟨hsome (0 + k * 2 + t) (by omega), hfr _⟩
  obtain ⟨W1, hW1⟩ : ∃ W1, W1 = w.drew.setCells g (0 + k * 2) news := ⟨_, rfl⟩
  have o1 := own_setCells news (0 + k * 2) (vcells a) w.drew h
  rw [← hW1, Nat.zero_add] at o1
  have hL1 : (setL (vcells a) (k * 2) news).length = a.length * 2 := by simpa using o1.1.1
  have hm : k + (a.length - j) = a.length - 1 := by omega
  have hcl : ∀ ty, (Builtin.clear_ #[24] ty #[.slice (some ⟨g, (a.length - 1) * 2, none⟩) (a.length - (a.length - 1)) (cap - (a.length - 1))]).run Try.prog W1 = .ok (.tuple #[]) (W1.setCells g ((a.length - 1) * 2) [.int .i64 0, .int .i64 0]) := fun ty => by
    rw [show a.length - (a.length - 1) = 1 from by omega]
    refine run_clear_val W1 _ _ ty Try.underlying24 Try.zeroValue34 g _ _ (fun t ht => ?_) (fun t ht => o1.1.frozenAt _)
    rw [o1.1.cellAt _ (by omega), List.getElem?_eq_getElem (by rw [hL1]; omega)]
    rfl
  have o2 := own_setCells [.int .i64 0, .int .i64 0] ((a.length - 1) * 2) (setL (vcells a) (k * 2) news) W1 o1.1
  have o3 := own_cut o2.1 (m := a.length - 1) (by omega)
  rw [hrow] at o3
  have G1 : w.grownBy W1 (some g) := gb_trans (b := w.drew) ⟨rfl, rfl, rfl, Nat.le_refl _, fun _ _ _ => rfl⟩ o1.2
  have G2 := Lib.hid (gb_trans G1 o2.2)
  have O3 := Lib.hid o3
  have hW : Hid (W1 = w.drew.setCells g (0 + k * 2) news) := hW1
  have hkj : (k : Int) ≤ j ∧ (j : Int) ≤ a.length ∧ (a.length : Int) ≤ cap ∧ ¬ (k : Int) = j ∧ (k : Int) ≤ cap ∧ (j : Int) ≤ cap ∧ 0 ≤ (k : Int) ∧ 0 ≤ (j : Int) := by omega
  have hkc : k ≤ cap := by omega
  have hjc : j ≤ cap := by omega
  have hkj' : k ≤ j := by omega
  have hja : j ≤ a.length := by omega
  have hne : ¬ k = j := by omega
  have HJ := Lib.hid hj
  clear hW1 o1 o2 o3 G1 hL1 hsome hcell hget hnews hlen hrow h hfr hj
  go_enter Try.func18, Try.ntmps18
  go_wp2_with fail
  go_region_law (refine step_append_room rfl (.tmp 22) (.tmp 25) 24 rfl 34 i0 2 Try.underlying24 hi hz1 g 0 k cap (by simp [Act.eval, Act.put]) A (a.length - j) (cap - j) news (by simp [Act.eval, Act.put]) s1.out hsrc.out s2.out (by omega) s3.out ?_; rw [← hW.out])
  go_wp2
  go_ret
  exact ⟨by first | rfl | rw [hm], by rw [← HJ.out]; exact O3.out, G2.out⟩
end Go.Proofs.Ytnmgecaflildoaa
