/-
  The laws' helpers over texts: szStringS, toStringS, eqStringS, markText, markStringS, heldStringS.
-/
import Derived.Test.YtepfjacpfbdkeaaDoorStr0
import Derived.Test.YtepfjacpfbdkeaaDoorMath10
import Derived.RegionTactic
import Derived.BigRegion
import Derived.Deep.QuietTactic
import Derived.BigQuiet
import Derived.Deep.RegionHeld3
import Derived.Test.YtepfjacpfbdkeaaDoorLawV
namespace Go.Proofs.YtepfjacpfbdkeaaDoor
open Go.ChangeShapes Go.WideShapes Go.ChangeAt Go.RowKit
set_option linter.unusedVariables false
set_option linter.unusedSimpArgs false
set_option maxRecDepth 100000

theorem info_string : (Tryd.prog.info? 9).map (fun i => (i.zero, i.size, i.bytes)) = some (some (.string ByteArray.empty), 1, 16) := by kernel_rfl
theorem made_strs (n : Nat) : (madeCells (Value.string ByteArray.empty).cells n).toList = (List.replicate n ([] : List UInt8)).map tv := by
  refine List.ext_getElem (by simp [madeCells]) fun i h1 h2 => ?_
  simp [madeCells, tv, Value.cells, Nat.mod_one]
  rfl
theorem fill_str (l : List (List UInt8)) (k : Nat) (h : k < l.length) : ((l.take k ++ List.replicate (l.length - k) ([] : List UInt8)).map tv).set k (tv l[k]) = (l.take (k + 1) ++ List.replicate (l.length - (k + 1)) ([] : List UInt8)).map tv := by
  rw [← List.map_set, List.set_append_right _ _ (by simp; omega), List.take_succ_eq_append_getElem h, List.append_assoc]
  congr 2
  rw [show k - (l.take k).length = 0 from by simp; omega, show l.length - k = (l.length - (k + 1)) + 1 from by omega, List.replicate_succ]
  rfl

theorem toStringS_any (A : Option Addr) (c : Nat) (l : List (List UInt8)) (w : World) (hl : l.length ≤ 4194304) (hR : TReads w w.heap.size A l) :
    Calls Tryd.prog 26 #[.slice A l.length c] w fun e w' => e = .returned (.slice (some ⟨w.heap.size, 0, none⟩) l.length l.length) ∧ w'.ownsRow w.heap.size 9 1 (.slice (some ⟨w.heap.size, 0, none⟩) l.length l.length) l.length (l.map tv) ∧ Below w.heap.size w w' := by
  have HR := Lib.hid hR
  clear hR
  obtain ⟨i0, hi, hz0, hz1, hz2⟩ := info_parts info_string
  go_enter Tryd.func26, Tryd.ntmps26
  go_wp2_with (at_make; refine wpList_make_full _ rfl _ _ 43 rfl w.heap.size 9 i0 _ 1 Tryd.underlying43 hi hz0 hz1 .i64 .i64 _ _ l.length rfl rfl rfl rfl (by rw [hz2]; omega) (by unfold maxLen; omega) (Nat.le_refl _) ?_; intro w1 hown hgrow)
  have hb1 : Below w.heap.size w w1 := (Below.refl _ _).grown hgrow (Nat.le_refl _) (fun _ h => by cases h)
  go_loopw [4] (fun i wr => ∃ k : Nat, k ≤ l.length ∧ i = .int .i64 k ∧ wr.ownsRow w.heap.size 9 1 (.slice (some ⟨w.heap.size, 0, none⟩) l.length l.length) l.length ((l.take k ++ List.replicate (l.length - k) ([] : List UInt8)).map tv) ∧ Below w.heap.size w wr) (fun i _ => l.length - (intOf i).toNat)
  case atStart => exact ⟨0, by omega, rfl, by rw [Nat.mul_one, made_strs] at hown; simpa using hown, hb1⟩
  case round =>
    obtain ⟨k, hk, rfl, hown, hb⟩ := hrel
    by_cases hlt : k < l.length
    · obtain ⟨b, off, rfl, hbB, hc⟩ := ((HR.out.below hb (Nat.le_refl _)).more hb.size) (by omega)
      have c0 := hc k hlt
      have hki : 0 ≤ (k : Int) ∧ (k : Int) < l.length := by omega
      obtain ⟨u0, s0⟩ := own_some hown (j := k) hlt
      have f0 := hown.frozenAt k
      have hst := (hown.stored k (tv l[k])).1
      rw [fill_str l k hlt] at hst
      have HST := Lib.hid hst
      clear hst hown hc
      go_wp2
      go_roundw
      case rel => exact ⟨k + 1, by omega, by go_num, HST.out, hb.setCell (Nat.le_refl _) _⟩
      case measure => simp [intOf]; omega
    · have hkl : Hid (k = l.length) := by unfold Hid; omega
      go_wp2
      go_ret
      exact ⟨rfl, by have := hown; rw [hkl.out] at this; simpa using this, hb⟩

/-- eqStringS at two slices that read as one list. -/
theorem eqStringS_same (A1 A2 : Option Addr) (c1 c2 : Nat) (l : List (List UInt8)) (w : World) (hl : l.length ≤ 4194304) (hR1 : TReads w w.heap.size A1 l) (hR2 : TReads w w.heap.size A2 l) :
    Calls Tryd.prog 28 #[.slice A1 l.length c1, .slice A2 l.length c2] w fun e w' => e = .returned (.bool true) ∧ Below w.heap.size w w' := by
  have HR1 := Lib.hid hR1
  have HR2 := Lib.hid hR2
  clear hR1 hR2
  go_enter Tryd.func28, Tryd.ntmps28
  go_wp2
  go_loopw [5] (fun i wr => ∃ k : Nat, k ≤ l.length ∧ i = .int .i64 k ∧ Below w.heap.size w wr) (fun i _ => l.length - (intOf i).toNat)
  case atStart => exact ⟨0, by omega, rfl, Below.refl _ _⟩
  case round =>
    obtain ⟨k, hk, rfl, hb⟩ := hrel
    by_cases hlt : k < l.length
    · obtain ⟨b1, o1, rfl, hbB1, hc1⟩ := ((HR1.out.below hb (Nat.le_refl _)).more hb.size) (by omega)
      obtain ⟨b2, o2, rfl, hbB2, hc2⟩ := ((HR2.out.below hb (Nat.le_refl _)).more hb.size) (by omega)
      have x0 := hc1 k hlt
      have y0 := hc2 k hlt
      clear hc1 hc2
      have hki : 0 ≤ (k : Int) ∧ (k : Int) < l.length := by omega
      go_wp2
      go_quiet (fail)
      go_wp2
      go_roundw
      case rel => exact ⟨k + 1, by omega, by go_num, below_drewN hb _⟩
      case measure => simp [intOf]; omega
    · go_wp2
      go_ret
      exact ⟨rfl, hb⟩

/-! Marks. -/
/-- A mark as a text. -/
def markT (k : Nat) : List UInt8 := 109 :: decF 19 k
theorem markText_any (k : Nat) (w : World) (h0 : 0 < k) (hk : k ≤ 8388608) :
    Calls Tryd.prog 67 #[.int .i64 k] w fun e w' => e = .returned (.string (S (markT k))) ∧ Below w.heap.size w w' := by
  have hcv := conv_one (P := Tryd.prog) 74 9 5 Tryd.underlying74 Tryd.underlying5 Tryd.underlying9
  go_enter Tryd.func67, Tryd.ntmps67
  go_wp2
  go_loopw [0, 3] (fun n out wr => ∃ (j q : Nat) (xs : List UInt8), j ≤ 19 ∧ q ≤ k ∧ xs.length + j ≤ 19 ∧ Hid (q < 10 ^ j) ∧ n = .int .i64 q ∧ out = .string (S xs) ∧ Hid (decF j q ++ xs = decF 19 k) ∧ Below w.heap.size w wr) (fun n _ _ => (intOf n).toNat)
  case atStart => exact ⟨19, k, [], by omega, by omega, by simp, by unfold Hid; omega, rfl, rfl, by simp [Hid], Below.refl _ _⟩
  case round =>
    obtain ⟨j, q, xs, hj, hqm, hxk, hqk, rfl, rfl, HX, hb⟩ := hrel
    by_cases hq : q = 0
    · subst hq
      rw [Hid, decF_zero] at HX
      have HX' := Lib.hid HX
      clear HX hqk
      go_wp2
      go_ret
      exact ⟨ret_string (by unfold markT; rw [← HX'.out]; rfl), hb⟩
    · obtain ⟨i, hi, hqj, hv⟩ := decF_step j q (by omega) hqk.out
      obtain rfl := hi
      rw [Hid, hv] at HX
      have HX' := Lib.hid HX
      have hqj' := Lib.hid hqj
      clear HX hqj hv hqk
      go_wp2
      go_roundw
      case rel => exact ⟨i, q / 10, UInt8.ofNat (48 + q % 10) :: xs, by omega, by omega, by simp; omega, hqj'.out, by go_num, by simp [UInt8.ofNat_add], by unfold Hid; rw [← HX'.out]; simp, hb.alloc hb.size _⟩
      case measure => simp [intOf]; omega
/-- The marks from k on. -/
def marksT (k n : Nat) : List (List UInt8) := (List.range n).map fun i => markT (k + i)
@[simp] theorem marksT_len (k n : Nat) : (marksT k n).length = n := by simp [marksT]
theorem marksT_at (k n j : Nat) (h : j < (marksT k n).length) : (marksT k n)[j] = markT (k + j) := by simp [marksT]
theorem mark_str (l : List (List UInt8)) (k n i : Nat) (hn : l.length = n) (h : i < n) : ((marksT k i ++ l.drop i).map tv).set i (tv (markT (k + i))) = (marksT k (i + 1) ++ l.drop (i + 1)).map tv := by
  rw [← List.map_set, List.set_append_right _ _ (by simp)]
  rw [marksT_len, Nat.sub_self, List.drop_eq_getElem_cons (show i < l.length by omega), List.set_cons_zero]
  unfold marksT
  rw [List.range_succ, List.map_append]
  simp

theorem szStringS_any (A : Option Addr) (c : Nat) (l : List (List UInt8)) (y0 : Int) (w : World) (hn : l.length ≤ 9223372036854775807) (hm : ∀ x ∈ l, x.length ≤ 9223372036854775807) (h0 : 0 ≤ y0) (h1 : y0 ≤ 1048576) (hR : TReads w w.heap.size A l) :
    Calls Tryd.prog 24 #[.slice A l.length c, .int .i64 y0] w fun e w' => ∃ r : Int, e = .returned (.int .i64 r) ∧ w = w' ∧ (r < 0 ∨ (0 ≤ r ∧ r ≤ 1048576 ∧ l.length ≤ 1048576 ∧ ∀ x ∈ l, x.length ≤ 1048576)) := by
  have HR := Lib.hid hR
  have HM := Lib.hid hm
  clear hR hm
  by_cases hneg : y0 - (l.length : Int) < 0
  · go_enter Tryd.func24, Tryd.ntmps24
    go_wp2
    go_ret
    exact ⟨-1, rfl, rfl, .inl (by omega)⟩
  · have hll : l.length ≤ 1048576 := by omega
    have hneg' : ¬ y0 - (l.length : Int) < 0 := hneg
    go_enter Tryd.func24, Tryd.ntmps24
    go_wp2_with fail
    go_loop [1, 5] (fun v i => ∃ (k : Nat) (y : Int), k ≤ l.length ∧ i = .int .i64 (k : Int) ∧ v = .int .i64 y ∧ 0 ≤ y ∧ y ≤ 1048576 ∧ Hid (∀ x ∈ l.take k, x.length ≤ 1048576)) (fun _ i => l.length - (intOf i).toNat)
    case atStart => exact ⟨0, y0 - l.length, by omega, rfl, rfl, by omega, by omega, by intro x hx; simp at hx⟩
    case round =>
      obtain ⟨k, y, hk, rfl, rfl, hy0, hy1, hall⟩ := hrel
      have hki : 0 ≤ (k : Int) ∧ (k : Int) ≤ l.length := by omega
      by_cases hlt : k < l.length
      · obtain ⟨b, off, rfl, hbB, hc⟩ := HR.out (by omega)
        have c0 := hc k hlt
        have hxl := HM.out l[k] (List.getElem_mem hlt)
        have hki2 : (k : Int) < l.length := by omega
        have htk : Hid (l[k].length ≤ 1048576 → ∀ x ∈ l.take (k + 1), x.length ≤ 1048576) := by
          intro hle x hx
          rw [List.take_succ_eq_append_getElem hlt] at hx
          rcases List.mem_append.1 hx with hx | hx
          · exact hall.out x hx
          · rw [List.mem_singleton.1 hx]; exact hle
        clear hc hall
        generalize l[k] = x at *
        by_cases hyx : y - (x.length : Int) < 0
        · go_wp2
          go_ret
          exact ⟨-1, rfl, rfl, .inl (by omega)⟩
        · have hyx' : ¬ y - (x.length : Int) < 0 := hyx
          go_wp2
          go_round
          case rel => exact ⟨k + 1, y - x.length, by omega, by go_num, rfl, by omega, by omega, htk.out (by omega)⟩
          case measure => simp [intOf]; omega
      · have hkl : k = l.length := by omega
        rw [hkl, List.take_length] at hall
        clear hkl
        go_wp2
        go_ret
        refine ⟨y, rfl, rfl, .inr ?_⟩
        first | exact hall.out | exact ⟨hy0, hy1, hll, hall.out⟩ | exact ⟨hy0, hy1, hall.out⟩ | exact ⟨hy0, hall.out⟩ | exact ⟨hy1, hall.out⟩

theorem markStringS_own (base : Nat) (A : Option Addr) (c : Nat) (l : List (List UInt8)) (k : Nat) (w : World) (hl : l.length ≤ 2097152) (hk0 : 0 < k) (hk : k ≤ 2097152) (hB : base ≤ w.heap.size) (hown : w.ownsRow base 9 1 (.slice A l.length c) l.length (l.map tv)) :
    Calls Tryd.prog 35 #[.slice A l.length c, .int .i64 (k : Int)] w fun e w' => e = .returned (.int .i64 ((k : Int) + l.length)) ∧ w'.ownsRow base 9 1 (.slice A l.length c) l.length ((marksT k l.length).map tv) ∧ Below base w w' := by
  have HO := Lib.hid hown
  clear hown
  go_enter Tryd.func35, Tryd.ntmps35
  go_wp2_with fail
  go_loopw [1, 5] (fun kk i wr => ∃ j : Nat, j ≤ l.length ∧ i = .int .i64 (j : Int) ∧ kk = .int .i64 ((k : Int) + j) ∧ wr.ownsRow base 9 1 (.slice A l.length c) l.length ((marksT k j ++ l.drop j).map tv) ∧ base ≤ wr.heap.size ∧ Below base w wr) (fun _ i _ => l.length - (intOf i).toNat)
  case atStart => exact ⟨0, by omega, rfl, by simp, by simpa [marksT] using HO.out, hB, ⟨rfl, rfl, rfl, Nat.le_refl _, fun _ _ => rfl⟩⟩
  case round =>
    obtain ⟨j, hj, rfl, rfl, hown, hB, hb⟩ := hrel
    have hji0 : 0 ≤ (j : Int) ∧ (j : Int) ≤ l.length := by omega
    by_cases hlt : j < l.length
    · obtain ⟨g, cap, hv, hg, hgl⟩ := hown.form (by omega)
      simp only [Value.slice.injEq] at hv
      obtain ⟨rfl, _, rfl⟩ := hv
      have hji : 0 ≤ (j : Int) ∧ (j : Int) < l.length := by omega
      have hmt := fun W : World => markText_any (k + j) W (by omega) (by omega)
      simp only [Int.natCast_add] at hmt
      have HMT := Lib.hid hmt
      have HB := Lib.hid hb
      have HOW := Lib.hid hown
      clear hmt hb hown
      go_wp2_with (go_at_call 67; refine (HMT.out _).mono ?_; rintro e wm ⟨rfl, hbm⟩; have hown2 := own_below HOW.out hbm; have hb2 : Below base w wm := HB.out.trans (hbm.mono (by omega)); have hsz := hbm.size; obtain ⟨u0, s0⟩ := own_some hown2 (j := j) hlt; have f0 := hown2.frozenAt j; have HST := Lib.hid (hown2.stored j (tv (markT (k + j)))).1; clear hown2 hbm)
      go_roundw
      case rel => exact ⟨j + 1, by omega, by go_num, by congr 1, by rw [← mark_str l k l.length j rfl hlt]; exact HST.out, by simpa [World.setCell] using (by omega), hb2.setCell hg _⟩
      case measure => simp [intOf]; omega
    · have hkl : Hid (j = l.length) := by unfold Hid; omega
      have HOW := Lib.hid hown
      clear hown
      go_wp2
      go_ret
      exact ⟨ret_int (by rw [hkl.out]), by have := HOW.out; rw [hkl.out] at this; simpa using this, hb⟩

theorem heldStringS_any (A : Option Addr) (c : Nat) (n k : Nat) (w : World) (hn : n ≤ 2097152) (hk0 : 0 < k) (hk : k ≤ 2097152) (hR : TReads w w.heap.size A (marksT k n)) :
    Calls Tryd.prog 36 #[.slice A n c, .int .i64 (k : Int)] w fun e w' => e = .returned (.int .i64 ((k : Int) + n)) ∧ Below w.heap.size w w' := by
  have HR := Lib.hid hR
  clear hR
  go_enter Tryd.func36, Tryd.ntmps36
  go_wp2_with fail
  go_loopw [1, 5] (fun kk i wr => ∃ j : Nat, j ≤ n ∧ i = .int .i64 (j : Int) ∧ kk = .int .i64 ((k : Int) + j) ∧ Below w.heap.size w wr) (fun _ i _ => n - (intOf i).toNat)
  case atStart => exact ⟨0, by omega, rfl, by simp, Below.refl _ _⟩
  case round =>
    obtain ⟨j, hj, rfl, rfl, hb⟩ := hrel
    have hji0 : 0 ≤ (j : Int) ∧ (j : Int) ≤ n := by omega
    by_cases hlt : j < n
    · obtain ⟨b, off, rfl, hbB, hc⟩ := ((HR.out.below hb (Nat.le_refl _)).more hb.size) (by simp; omega)
      have hHq := Lib.hid fun (W : World) (h : Below wr.heap.size wr W) => (h.cell (p := ⟨b, off + j, none⟩) hbB).trans (hc j (by simpa using hlt))
      simp only [marksT_at] at hHq
      have hji : 0 ≤ (j : Int) ∧ (j : Int) < n := by omega
      have hmt := fun W : World => markText_any (k + j) W (by omega) (by omega)
      simp only [Int.natCast_add] at hmt
      have HMT := Lib.hid hmt
      have HB := Lib.hid hb
      have hbr := Below.refl wr.heap.size wr
      clear hmt hb hc
      go_wp2
      go_region_held3 (fun w' => Below wr.heap.size wr w' ∧ w'.cell? ⟨b, off + j, none⟩ = some (.string (S (markT (k + j))))) (first | exact ⟨hbr.drew, hHq.out _ hbr.drew⟩ | exact ⟨Below.next (w := wr) (And.left (by assumption)) hbm, hHq.out _ (Below.next (w := wr) (And.left (by assumption)) hbm)⟩)
        ((go_at_call 67; refine (HMT.out _).mono ?_; rintro e wm ⟨rfl, hbm⟩))
      all_goals
        have hbx : Below wr.heap.size wr wm := by apply And.left; assumption
        go_wp2
        go_roundw
        case rel => exact ⟨j + 1, by omega, by go_num, by congr 1, Below.next HB.out hbx⟩
        case measure => simp [intOf]; omega
    · have hkl : Hid (j = n) := by unfold Hid; omega
      go_wp2
      go_ret
      exact ⟨ret_int (by rw [hkl.out]), hb⟩
end Go.Proofs.YtepfjacpfbdkeaaDoor
