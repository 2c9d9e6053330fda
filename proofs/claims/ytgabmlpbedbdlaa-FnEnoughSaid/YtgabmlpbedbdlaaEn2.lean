/-
  DrawEnough; the law's helpers fresh and has.
-/
import Derived.Test.YtgabmlpbedbdlaaEn1
import Derived.Test.YtgabmlpbedbdlaaPow1
import Derived.Laws.AppendOwnNone
namespace Go.Proofs.Ytgabmlpbedbdlaa
open Go.ChangeShapes Go.WideShapes Go.ChangeAt Go.RowKit
set_option linter.unusedVariables false
set_option linter.unusedSimpArgs false
set_option maxRecDepth 100000

theorem own_low {w w' : World} {base k : Nat} {e : TypeId} {size n : Nat} {v : Value} {xs : List Value} (h : w.ownsRow base e size v n xs) (hb : Below k w w') (hk : ∀ q, v.ownBlock = some q → q < k) : w'.ownsRow base e size v n xs := by
  refine ⟨h.1, ?_⟩
  rcases h.2 with h1 | ⟨g, cap, cur, h1, h2, h3, h4⟩
  · exact .inl h1
  · refine .inr ⟨g, cap, cur, h1, h2, ?_, h4⟩
    rw [← h3]
    exact hb.block g (hk g (by rw [h1]; rfl))

theorem own_none {w : World} {base : Nat} {e : TypeId} {size n m c : Nat} {A : Option Addr} {xs : List Value} (h : w.ownsRow base e size (.slice A n c) m xs) (hA : A = none) : c = 0 := by
  subst hA
  rcases h.2 with ⟨h1, _⟩ | ⟨g, cap, cur, h1, _⟩
  · simp only [Value.slice.injEq] at h1; exact h1.2.2
  · simp at h1
/-- append(out, ids...) of ints. -/
theorem app_ints {P : Program} {ops : Array Oper} {rest : List Oper} {o : Oper} {a : Act} {Q : Exit → Act → World → Prop} (hg : o.guard = none) (s x : Operand) (t : TypeId)
    (ho : o.op = .call { callee := .builtin .append, args := #[s, x], argTypes := #[t, t] })
    {w : World} {base : Nat} {e : TypeId} {i : TypeInfo} (ht : P.underlying t = some (.slice e)) (hi : P.info? e = some i) (hz : i.zero = some (.int .i64 0)) (hsize : i.size = 1) (hby : i.bytes = 8)
    {v : Value} {n : Nat} {xs : List Value} (hs : a.eval s = v) (hown : w.ownsRow base e 1 v n xs) (hz0 : base ≤ w.heap.size)
    {A : Option Addr} {c : Nat} {ids : List Int} (hx : a.eval x = .slice A ids.length c) (hI : IReads w w.heap.size A ids) (hn : A = none → c = 0) (hsm : n + ids.length ≤ 1000000)
    (h : ∀ v' w', w'.ownsRow base e 1 v' (n + ids.length) (xs ++ ids.map iv) → Below base w w' → wpList P ops Q rest (a.put o.dst v') w') :
    wpList P ops Q (o :: rest) a w := by
  cases A with
  | none =>
    have h0 : ids = [] := by
      rcases Nat.eq_zero_or_pos ids.length with h | h
      · exact List.eq_nil_of_length_eq_zero h
      · obtain ⟨b, off, hA, _⟩ := hI h; cases hA
    subst h0
    refine Go.wpList_append_own_none hg s x t ho base e i 1 ht hi v n xs hs hown (by rw [hx, hn rfl]; rfl) ?_
    exact h v w (by simpa using hown) (Below.refl _ _)
  | some ad =>
    refine wpList_append_own _ hg s x t ho base e i (.int .i64 0) 1 8 ht hi hz hsize hby rfl (by decide) v n xs hs hown ad ids.length c (ids.map iv) hx (by simp) (fun j u hj => ?_) (fun u hu => ?_) (by unfold maxLen; omega) (by omega) hz0 (fun v' w' h1 h2 _ => h v' w' h1 ((Below.refl base w).grown h2 (by omega) (fun k hk => (hown.lt k hk).1)))
    · rw [List.getElem?_map] at hj
      rcases hl : ids[j]? with _ | y
      · rw [hl] at hj; cases hj
      · rw [hl] at hj
        obtain ⟨hj1, hj2⟩ := List.getElem?_eq_some_iff.1 hl
        obtain ⟨b, off, hA, _, hc⟩ := hI (by omega)
        cases hA
        have := hc j hj1
        rw [hj2] at this
        cases hj
        have e : (⟨b, off, none⟩ : Addr).add j = ⟨b, off + j, none⟩ := by unfold Addr.add; split <;> simp_all
        rw [e]
        exact this
    · simp only [List.mem_map] at hu
      obtain ⟨y, _, rfl⟩ := hu
      rfl

set_option maxHeartbeats 1000000 in
theorem drawEnough_in (K : Cd) (w : World) (hl : K.l.length ≤ 1048576) (hR : BReads w w.heap.size K.A K.l) :
    Calls Try.prog 22 #[.slice K.A K.l.length K.c] w fun e w' => ∃ (L : List ValT) (ids : List Int) (A A2 : Option Addr) (c c2 : Nat), e = .returned (.tuple #[.slice A L.length c, .slice A2 ids.length c2]) ∧ L.length ≤ 8 ∧ ids.length ≤ 11 ∧ VReads w' w'.heap.size A L ∧ IReads w' w'.heap.size A2 ids ∧ (A2 = none → c2 = 0) ∧ Below w.heap.size w w' := by
  obtain ⟨i0, hi, hz0, hz1, hz2⟩ := info_parts info_int2
  have HN := Lib.hid (new_in K w hl hR)
  have HA := Lib.hid fun (W : World) (h : CurX W w.heap.size K) => l6Any_in w.heap.size K W h hl
  have HO4 := Lib.hid fun (W : World) (h : CurX W w.heap.size K) => once_in w.heap.size K 4 W h hl (by omega) (by omega)
  go_enter Try.func22, Try.ntmps22
  go_wp2_with fail
  refine HN.out.mono ?_
  rintro e w1 ⟨rfl, c1, b1⟩
  have hB := c1.lt
  go_wp2_with fail
  refine (HA.out _ c1).mono ?_
  rintro e w2 ⟨L, A, c, rfl, hL8, o2, c2, b2⟩
  have bw2 : Below w.heap.size w w2 := b1.trans (b2.below (Nat.le_refl _) b1.size)
  have zz2 := b2.size
  have R2 := Lib.hid (VReads.of_own (w := w2) (base := w1.heap.size) (by exact o2))
  have G2 := Lib.hid fun q hq => (o2.lt q hq)
  have O2 := Lib.hid o2
  have hJ := World.ownsRow_lit (e := 3) (size := 1) (base := w2.heap.size) w2 #[] 0 (Nat.le_refl _) (by simp [maxLen]) rfl
  have HL := Lib.hid (o2.alloc (.cells #[] 3))
  have HC := Lib.hid (c2.alloc (.cells #[] 3))
  have HBW := Lib.hid (bw2.alloc (by omega) (.cells #[] 3))
  have HJ := Lib.hid hJ
  clear o2 c2 b2 c1 b1 bw2 hJ HA HN
  go_wp2_with fail
  go_loopw [6, 7] (fun ids i wr => ∃ (k : Nat) (J : List Int), k ≤ L.length ∧ J.length ≤ k ∧ i = .int .i64 (k : Int) ∧ wr.ownsRow w2.heap.size 3 1 ids J.length (J.map iv) ∧ wr.ownsRow w1.heap.size 42 2 (.slice A L.length c) L.length (vcells L) ∧ CurX wr w.heap.size K ∧ Below w.heap.size w wr ∧ w2.heap.size ≤ wr.heap.size) (fun _ i _ => L.length - (intOf i).toNat)
  case atStart => exact ⟨0, [], by omega, by simp, rfl, HJ.out, HL.out, HC.out, HBW.out, by simp⟩
  case round =>
    obtain ⟨k, J, hk, hJk, rfl, hown, hLr, hc, hb, hz⟩ := hrel
    have hki : 0 ≤ (k : Int) ∧ (k : Int) ≤ L.length := by omega
    obtain ⟨A2, cj, rfl⟩ := own_slice hown
    by_cases hlt : k < L.length
    · have hlti : (k : Int) < L.length := by omega
      have HOWN := Lib.hid hown
      have HLR := Lib.hid hLr
      have HBR := Lib.hid hb
      have zz := hb.size
      clear hown hLr hb
      go_wp2_with fail
      refine (HO4.out _ hc).mono ?_
      rintro e w3 ⟨b, rfl, c3, b3⟩
      have o3 := own_but HOWN.out b3 (by omega)
      have l3 := own_but HLR.out b3 (by omega)
      have bw3 := HBR.out.trans (b3.below (Nat.le_refl _) zz)
      have zz3 := b3.size
      clear b3 HOWN HLR HBR
      cases b
      · obtain ⟨g, cap, hv, hg0, hgl⟩ := l3.form (by omega)
        simp only [Value.slice.injEq] at hv
        obtain ⟨rfl, _, rfl⟩ := hv
        have k0 := l3.cellAt (k * 2) (by omega)
        rw [(vcells_at L k hlt).1] at k0
        have HL3 := Lib.hid l3
        have HO3 := Lib.hid o3
        have HB3 := Lib.hid bw3
        have HLT := Lib.hid o3.lt
        clear l3 o3 bw3
        go_wp2_with (at_builtin; refine app_low rfl _ _ 34 rfl Try.underlying34 hi hz0 hz1 hz2 rfl (by decide) rfl HO3.out (by omega) rfl rfl rfl (one_cell1 _ _) (by unfold maxLen; omega) (by omega) ?_; intro v1 w4 hown1 hlow)
        go_roundw
        case rel => exact ⟨k + 1, J ++ [L[k].id], by omega, by rw [List.length_append, List.length_singleton]; omega, by go_num, by rw [List.length_append, List.length_singleton, List.map_append]; exact hown1, own_low HL3.out hlow (fun q hq => (G2.out q hq).2), c3.low hlow (by omega), HB3.out.trans (hlow.mono (by omega)), by have := hlow.size; omega⟩
        case measure => simp [intOf]; omega
      · go_wp2
        go_roundw
        case rel => exact ⟨k + 1, J, by omega, by omega, by go_num, o3, l3, c3, bw3, by omega⟩
        case measure => simp [intOf]; omega
    · obtain rfl : k = L.length := by omega
      have hlti : ¬ (L.length : Int) < L.length := by omega
      have HOWN := Lib.hid hown
      have HLR := Lib.hid hLr
      have HBR := Lib.hid hb
      have zz := hb.size
      clear hown hLr hb
      go_wp2_with fail
      refine (HO4.out _ hc).mono ?_
      rintro e w3 ⟨b, rfl, c3, b3⟩
      have o3 := own_but HOWN.out b3 (by omega)
      have l3 := own_but HLR.out b3 (by omega)
      have bw3 := HBR.out.trans (b3.below (Nat.le_refl _) zz)
      have zz3 := b3.size
      clear b3 HOWN HLR HBR
      cases b
      · have HO3 := Lib.hid o3
        have HL3 := Lib.hid l3
        clear o3 l3
        go_wp2
        go_ret2
        exact ⟨L, J, A, A2, c, cj, rfl, hL8, by omega, VReads.of_own HL3.out, own_ireads HO3.out rfl, own_none HO3.out, bw3⟩
      · have HO3 := Lib.hid o3
        have HL3 := Lib.hid l3
        have HB3 := Lib.hid bw3
        clear l3 o3 bw3
        go_wp2_with (at_builtin; refine app_low rfl _ _ 34 rfl Try.underlying34 hi hz0 hz1 hz2 rfl (by decide) rfl HO3.out (by omega) rfl rfl rfl (by intro u hu; simp at hu; rcases hu with rfl | rfl | rfl <;> rfl) (by unfold maxLen; omega) (by omega) ?_; intro v1 w4 hown1 hlow; obtain ⟨A3, c3', rfl⟩ := own_slice hown1)
        go_ret2
        have hl4 := own_low HL3.out hlow (fun q hq => (G2.out q hq).2)
        exact ⟨L, J ++ [1, 1, 50], A, A3, c, c3', by rw [List.length_append]; rfl, hL8, by rw [List.length_append]; simp; omega, VReads.of_own hl4, own_ireads (l := J ++ [1, 1, 50]) (n := J.length + 3) (by rw [List.map_append]; exact hown1) (by simp), own_none hown1, HB3.out.trans (hlow.mono (by omega))⟩

theorem has_any (A : Option Addr) (c : Nat) (ids : List Int) (x : Int) (w : World) (hl : ids.length ≤ 4194304) (hI : IReads w w.heap.size A ids) :
    Calls Try.prog 28 #[.slice A ids.length c, .int .i64 x] w fun e w' => e = .returned (.bool (hasB ids x)) ∧ w = w' := by
  go_enter Try.func28, Try.ntmps28
  go_wp2
  go_loop [5] (fun i => ∃ k : Nat, k ≤ ids.length ∧ i = .int .i64 k ∧ Hid (∀ j (hj : j < ids.length), j < k → ids[j] ≠ x)) (fun i => ids.length - (intOf i).toNat)
  case atStart => exact ⟨0, by omega, rfl, fun j _ h => absurd h (by omega)⟩
  case round =>
    obtain ⟨k, hk, rfl, HN⟩ := hrel
    by_cases hlt : k < ids.length
    · obtain ⟨b, off, rfl, hbB, hc⟩ := hI (by omega)
      have c0 := hc k hlt
      have hki : 0 ≤ (k : Int) ∧ (k : Int) < ids.length := by omega
      by_cases he : ids[k] = x
      · have HY := Lib.hid (has_yes hlt he)
        have hte : (ids[k] == x) = true := by rw [he]; simp
        clear he hc
        go_wp2
        go_ret
        exact ⟨ret_bool HY.out.symm, rfl⟩
      · have HN' : Hid (∀ j (hj : j < ids.length), j < k + 1 → ids[j] ≠ x) := fun j hj h => by
          rcases Nat.lt_or_ge j k with h' | h'
          · exact HN.out j hj h'
          · obtain rfl : j = k := by omega
            exact he
        have hte : (ids[k] == x) = false := by rw [beq_eq_false_iff_ne]; exact he
        clear he hc
        go_wp2
        go_round
        case rel => exact ⟨k + 1, by omega, by go_num, HN'⟩
        case measure => simp [intOf]; omega
    · have HF := Lib.hid (has_no (fun j hj => HN.out j hj (by omega)))
      go_wp2
      go_ret
      exact ⟨ret_bool HF.out.symm, rfl⟩

theorem fresh_in (A : Option Addr) (c : Nat) (l : List UInt8) (w : World) (hl : l.length ≤ 1048576) (hR : BReads w w.heap.size A l) :
    Calls Try.prog 23 #[.slice A l.length c, .int .i64 1] w fun e w' => ∃ (t : List UInt8) (A2 : Option Addr) (c2 : Nat), e = .returned (.slice A2 t.length c2) ∧ t.length ≤ 601 ∧ BReads w' w'.heap.size A2 t ∧ Below w.heap.size w w' := by
  obtain ⟨i0, hi, hz0, hz1, hz2⟩ := info_parts info_u8
  have HO := Lib.hid (World.ownsRow_lit (e := 5) (size := 1) (base := w.heap.size) w #[.int .u8 1] 1 (Nat.le_refl _) (by simp [maxLen]) rfl)
  have HB := Lib.hid ((Below.refl w.heap.size w).alloc (Nat.le_refl _) (.cells #[.int .u8 1] 5))
  have HR := Lib.hid hR
  clear hR
  go_enter Try.func23, Try.ntmps23
  go_wp2_with fail
  go_loopw [5, 6] (fun out i wr => ∃ (k : Nat) (t : List UInt8), k ≤ 600 ∧ k ≤ l.length ∧ t.length = k + 1 ∧ i = .int .i64 (k : Int) ∧ wr.ownsRow w.heap.size 5 1 out (k + 1) (t.map bv) ∧ Below w.heap.size w wr) (fun _ i _ => l.length - (intOf i).toNat)
  case atStart => exact ⟨0, [1], by omega, by omega, rfl, rfl, HO.out, HB.out⟩
  case round =>
    obtain ⟨k, t, hk6, hk, ht, rfl, hown, hb⟩ := hrel
    have hki : 0 ≤ (k : Int) ∧ (k : Int) ≤ l.length := by omega
    by_cases hlt : k < l.length ∧ k < 600
    · obtain ⟨hlt, hl6⟩ := hlt
      have hli : (k : Int) < l.length ∧ (k : Int) < 600 := by omega
      obtain ⟨b, off, rfl, hbB, hcl⟩ := (HR.out.below hb (Nat.le_refl _)) (by omega)
      have hcc := hcl k hlt
      have hb0 : l[k].toNat ≤ 255 := by have := l[k].toNat_lt; omega
      generalize l[k].toNat = y at *
      have hm : (k : Int).tmod 7 = ((k % 7 : Nat) : Int) := by rw [Int.tmod_eq_emod_of_nonneg (by omega)]; omega
      have hk7 : k % 7 ≤ 6 := by omega
      have hm2 : (k : Int) % 7 = ((k % 7 : Nat) : Int) := by omega
      generalize k % 7 = r at *
      have hz := hb.size
      have HOWN := Lib.hid hown
      have HBV := Lib.hid (bv_ofNat ((y * 3 + (r + 1)) % 256) (by omega))
      clear hcl hown
      go_wp2_with (at_builtin; refine app_low rfl _ _ 31 rfl Try.underlying31 hi hz0 hz1 hz2 rfl (by decide) rfl HOWN.out (by omega) rfl rfl rfl (one_cell1 _ _) (by unfold maxLen; omega) (by omega) ?_; intro v1 w4 hown1 hlow)
      go_roundw
      case rel => exact ⟨k + 1, t ++ [UInt8.ofNat ((y * 3 + (r + 1)) % 256)], by omega, by omega, by simp; omega, by go_num, by rw [List.map_append, List.map_singleton, HBV.out]; exact hown1, hb.trans hlow⟩
      case measure => simp [intOf]; omega
    · have hgd : ¬ ((k : Int) < l.length) ∨ ((k : Int) < l.length ∧ ¬ (k : Int) < 600) := by omega
      have HOWN := Lib.hid hown
      obtain ⟨A3, c3, rfl⟩ := own_slice hown
      have HBB := Lib.hid hb
      clear hown hb hlt
      rcases hgd with hgd | ⟨hgd, hgd2⟩
      all_goals
        go_wp2
        go_ret
        exact ⟨t, A3, ⟨c3, by rw [ht]; rfl⟩, by omega, by have h := HOWN.out; rw [← ht] at h; exact BReads.of_own h, HBB.out⟩
end Go.Proofs.Ytgabmlpbedbdlaa
