/-
  Sha of the reference.
-/
import Derived.Test.YtnmgecaflildoaaDoorSha3
import Derived.Test.YtnmgecaflildoaaDoorSha4
import Derived.Deep.RegionHeld3
namespace Go.Proofs.YtnmgecaflildoaaDoor
open Go.ChangeShapes Go.WideShapes Go.ChangeAt Go.RowKit
set_option linter.unusedVariables false
set_option linter.unusedSimpArgs false
set_option maxRecDepth 100000

/-! The keys. -/
theorem l3Keys_any (w : World) :
    Calls Tryd.prog 51 #[] w fun e w' => ∃ K, e = .returned (.slice (some ⟨K, 0, none⟩) 64 64) ∧ KAt w' K kAt 64 ∧ Below w.heap.size w w' := by
  have hK : ∀ cs : Array Value, cs.toList = kTab.map (fun n : Nat => Value.int .i64 (n : Int)) → KAt (w.alloc (.cells cs 3)) w.heap.size kAt 64 := fun cs h =>
    ⟨by simp, fun j hj => by
      rw [World.cell?_alloc_new, ← Array.getElem?_toList, h, List.getElem?_map, wn_nat, kAt_toNat, List.getD]
      have hl : j < kTab.length := hj
      rw [List.getElem?_eq_getElem hl]; rfl⟩
  go_enter Tryd.func51, Tryd.ntmps51
  go_wp2
  go_ret
  exact ⟨_, rfl, hK _ rfl, (Below.refl _ _).alloc (Nat.le_refl _) _⟩
theorem fixedL_get (v : Nat) : ∀ (m k : Nat), k < v → (fixedL v m)[k]? = some (UInt8.ofNat (m / 256 ^ (v - 1 - k) % 256)) := by
  induction v with
  | zero => intro m k h; omega
  | succ v ih =>
    intro m k h
    rw [fixedL_succ]
    cases k with
    | zero => simp
    | succ k => rw [List.getElem?_cons_succ, ih m k (by omega), show v + 1 - 1 - (k + 1) = v - 1 - k from by omega]
theorem fixed8 (m : Nat) (h : m < 256 ^ 7) : fixedL 8 m = 0 :: fixedL 7 m := by
  rw [fixedL_succ, Nat.div_eq_of_lt h]; rfl
theorem cells4 {W : World} {g : Nat} {a b c d : Value} (h0 : W.cell? ⟨g, 0, none⟩ = some a) (h1 : W.cell? ⟨g, 1, none⟩ = some b) (h2 : W.cell? ⟨g, 2, none⟩ = some c) (h3 : W.cell? ⟨g, 3, none⟩ = some d) :
    ∀ j u, [a, b, c, d][j]? = some u → W.cell? ((⟨g, 0, none⟩ : Addr).add j) = some u := by
  intro j u hj
  match j, hj with
  | 0, hj => simp at hj; subst hj; simpa [Addr.add] using h0
  | 1, hj => simp at hj; subst hj; simpa [Addr.add] using h1
  | 2, hj => simp at hj; subst hj; simpa [Addr.add] using h2
  | 3, hj => simp at hj; subst hj; simpa [Addr.add] using h3
/-- The bytes of a word. -/
theorem word_bytes (q : W32) : ∃ a0 a1 a2 a3 : Nat, a0 < 256 ∧ a1 < 256 ∧ a2 < 256 ∧ a3 < 256 ∧ IntKind.u8.wrap (wn q / (16777216 : Int)) = (a0 : Int) ∧ bits .and .i64 (wn q / (65536 : Int)) 255 = (a1 : Int) ∧ bits .and .i64 (wn q / (256 : Int)) 255 = (a2 : Int) ∧ bits .and .i64 (wn q) 255 = (a3 : Int) ∧
    (fixedL 4 q.toNat).map bv = [.int .u8 (a0 : Int), .int .u8 (a1 : Int), .int .u8 (a2 : Int), .int .u8 (a3 : Int)] := by
  have hq := q.isLt
  refine ⟨q.toNat / 16777216 % 256, q.toNat / 65536 % 256, q.toNat / 256 % 256, q.toNat % 256, by omega, by omega, by omega, by omega, ?_, ?_, ?_, ?_, ?_⟩
  · unfold wn; simp [IntKind.wrap, IntKind.bits, IntKind.signed]
  · unfold wn
    rw [show ((q.toNat : Int) / (65536 : Int)) = ((q.toNat / 65536 : Nat) : Int) from by simp]; exact and255 _ (by omega)
  · unfold wn
    rw [show ((q.toNat : Int) / (256 : Int)) = ((q.toNat / 256 : Nat) : Int) from by simp]; exact and255 _ (by omega)
  · unfold wn; exact and255 _ (by omega)
  · simp only [fixedL, List.nil_append, List.cons_append, List.map_cons, List.map_nil, bv_ofNat _ (Nat.mod_lt _ (by omega : 0 < 256))]
    simp [Nat.div_div_eq_div_mul]

set_option maxHeartbeats 16000000 in
theorem sSha_any (l : List UInt8) (w : World) (hl : l.length ≤ 4194304) :
    Calls Tryd.prog 34 #[.string (S l)] w fun e w' => e = .returned (.string (S (shaS l))) ∧ Below w.heap.size w w' := by
  obtain ⟨i0, hi, hz0, hz1, hz2⟩ := info_parts info_u8
  have hzz : (l.length + 1 + zerosN l.length) % 64 = 56 ∧ zerosN l.length ≤ 63 ∧ ∀ z, z < zerosN l.length → ¬ (l.length + 1 + z) % 64 = 56 := by
    refine ⟨by unfold zerosN; omega, by unfold zerosN; omega, fun z hz => ?_⟩
    unfold zerosN at hz; omega
  have HP : Hid (padS l = l ++ (128 :: (List.replicate (zerosN l.length) 0 ++ fixedL 8 (8 * l.length)))) := by
    unfold Hid padS
    rw [fixed8 _ (by omega), List.replicate_succ', List.append_assoc]
    rfl
  generalize zerosN l.length = Z at *
  obtain ⟨hz1', hz2', hz3'⟩ := hzz
  have HZ3 := Lib.hid hz3'
  clear hz3'
  go_enter Tryd.func34, Tryd.ntmps34
  go_wp2_with fail
  go_loopw [4] (fun pad wr => ∃ z : Nat, z ≤ Z ∧ wr.ownsRow w.heap.size 5 1 pad (z + 1) ((128 :: List.replicate z (0 : UInt8)).map bv) ∧ Below w.heap.size w wr ∧ intOf (.int .i64 z) = z) (fun pad _ => match pad with | .slice _ n _ => 100 - n | _ => 0)
  case atStart => exact ⟨0, by omega, World.ownsRow_lit w #[_] 1 (Nat.le_refl _) (by simp [maxLen]) rfl, (Below.refl _ _).alloc (Nat.le_refl _) _, rfl⟩
  case round =>
    obtain ⟨z, hz, hown, hb, -⟩ := hrel
    obtain ⟨g, cap, hv, _, _⟩ := hown.form (by omega)
    subst hv
    have hbz := hb.size
    have em : ((l.length : Int) + ((z : Int) + 1)).tmod 64 = ((l.length : Int) + ((z : Int) + 1)) % 64 := Int.tmod_eq_emod_of_nonneg (by omega)
    by_cases hlt : z < Z
    · have hne : ¬ (((l.length : Int) + ((z : Int) + 1)) % 64 = 56) := by have := HZ3.out z hlt; omega
      have hne2 : ((((l.length : Int) + ((z : Int) + 1)) % 64) == 56) = false := by simpa using hne
      go_wp2_with (at_builtin; refine app_lit rfl _ _ 22 rfl Tryd.underlying22 hi hz0 hz1 hz2 rfl (by decide) rfl hown hb rfl rfl (one_cell1 _ _) (by unfold maxLen; omega) (by omega) ?_; intro v1 w1 hown1 hb1)
      have e1 : (128 :: List.replicate (z + 1) (0 : UInt8)).map bv = (128 :: List.replicate z (0 : UInt8)).map bv ++ [.int .u8 0] := by rw [List.replicate_succ', ← List.cons_append, List.map_append]; rfl
      have hown2 : w1.ownsRow w.heap.size 5 1 v1 (z + 1 + 1) ((128 :: List.replicate (z + 1) (0 : UInt8)).map bv) := by rw [e1]; exact hown1
      obtain ⟨g2, cap2, hv2, _, _⟩ := hown2.form (by omega)
      subst hv2
      go_roundw
      case rel => exact ⟨z + 1, by omega, hown2, hb1, rfl⟩
      case measure => show 100 - (z + 1 + 1) < 100 - (z + 1); omega
    · obtain rfl : z = Z := by omega
      have heq : ((l.length : Int) + ((z : Int) + 1)) % 64 = 56 := by omega
      have hF := fun (k : Nat) (hk : k < 8) => fixedL_get 8 (8 * l.length) k hk
      have hFl : (fixedL 8 (8 * l.length)).length = 8 := by simp
      generalize hF8 : fixedL 8 (8 * l.length) = F8 at *
      have HF := Lib.hid hF
      clear hF hF8 HZ3
      go_wp2_with fail
      go_loopw [4, 5] (fun pad i wr => ∃ k : Nat, k ≤ 8 ∧ i = .int .i64 (k : Int) ∧ wr.ownsRow w.heap.size 5 1 pad (z + 1 + k) ((128 :: (List.replicate z (0 : UInt8) ++ F8.take k)).map bv) ∧ Below w.heap.size w wr) (fun _ i _ => 8 - (intOf i).toNat)
      case atStart => exact ⟨0, by omega, rfl, by rw [List.take_zero, List.append_nil]; exact hown, hb⟩
      clear hown hb heq hbz em
      case round =>
        obtain ⟨k, hk, rfl, hown, hb⟩ := hrel
        by_cases hlt : k < 8
        · have hlt2 : (k : Int) < 8 := by omega
          have hg := HF.out k hlt
          have hbm : 8 * l.length / 256 ^ (8 - 1 - k) % 256 < 256 := Nat.mod_lt _ (by omega)
          have e1 : (128 :: (List.replicate z (0 : UInt8) ++ F8.take (k + 1))).map bv = (128 :: (List.replicate z (0 : UInt8) ++ F8.take k)).map bv ++ [.int .u8 ((8 * l.length / 256 ^ (8 - 1 - k) % 256 : Nat) : Int)] := by
            rw [List.take_add_one, hg, ← List.append_assoc, ← List.cons_append, List.map_append]
            simp only [Option.toList, List.map_cons, List.map_nil, bv_ofNat _ hbm]
          have f1 : IntKind.u64.wrap (56 - 8 * (k : Int)) = 56 - 8 * (k : Int) := by simp [IntKind.wrap, IntKind.bits, IntKind.signed]; omega
          have f2 : (56 - 8 * (k : Int)).toNat = 56 - 8 * k := by omega
          have f3 : 0 ≤ 56 - 8 * (k : Int) ∧ 56 - 8 * (k : Int) ≤ 64 := by omega
          have f4 : bits .and .i64 ((l.length : Int) * 8 / 2 ^ (56 - 8 * k)) 255 = ((8 * l.length / 256 ^ (8 - 1 - k) % 256 : Nat) : Int) := by
            have hp : 256 ^ (8 - 1 - k) = 2 ^ (56 - 8 * k) := by rw [show (256 : Nat) = 2 ^ 8 from rfl, ← Nat.pow_mul]; congr 1; omega
            rw [hp, show (l.length : Int) * 8 / 2 ^ (56 - 8 * k) = ((8 * l.length / 2 ^ (56 - 8 * k) : Nat) : Int) from by simp [Int.mul_comm]]
            exact and255 _ (Nat.le_trans (Nat.div_le_self _ _) (by omega))
          have HE := Lib.hid e1
          clear e1 hg
          generalize 8 * l.length / 256 ^ (8 - 1 - k) % 256 = b at *
          go_wp2_with (at_builtin; refine app_lit rfl _ _ 22 rfl Tryd.underlying22 hi hz0 hz1 hz2 rfl (by decide) rfl hown hb rfl rfl (one_cell1 _ _) (by unfold maxLen; omega) (by omega) ?_; intro v1 w1 hown1 hb1)
          go_roundw
          case rel => exact ⟨k + 1, by omega, by go_num, by rw [HE.out]; exact hown1, hb1⟩
          case measure => simp [intOf]; omega
        · have hT : F8.take k = F8 := List.take_of_length_le (by omega)
          rw [hT] at hown
          have hcv := conv_own Tryd.underlying22 Tryd.underlying5 Tryd.underlying9 hown
          have hpm := padS_mod l
          have hpl : (padS l).length ≤ 4194500 := by rw [padS_len]; unfold zerosN; omega
          have HSH : Hid (shaS l = (blocks (padS l) ((padS l).length / 64)).out) := rfl
          rw [HP.out] at hpm hpl HSH
          have hbz := hb.size
          clear HP hown hT HF hz1' hk
          generalize 128 :: (List.replicate z (0 : UInt8) ++ F8) = P at *
          have hPl : l.length + P.length ≤ 4194500 := by simpa using hpl
          go_wp2_with (go_at_call 51; refine (l3Keys_any _).mono ?_; rintro e wk ⟨K, rfl, hKk, hbk⟩)
          have HI : Hid (KAt wk wr.heap.size iv0.at 8) := (KAt.start wr 3 iv0.at).below hbk
          have HB0 := Lib.hid (Below.next (hb.alloc hbz _) hbk)
          have HK0 := Lib.hid hKk
          generalize l ++ P = p at *
          clear hKk hbk hb hcv hPl hbz
          go_loopw [7, 9] (fun h i wq => ∃ k : Nat, 64 * k ≤ p.length ∧ i = .int .i64 (64 * (k : Int)) ∧ ∃ H c, h = .slice (some ⟨H, 0, none⟩) 8 c ∧ KAt wq H (blocks p k).at 8 ∧ KAt wq K kAt 64 ∧ Below w.heap.size w wq) (fun _ i _ => p.length - (intOf i).toNat)
          case atStart => exact ⟨0, by omega, rfl, _, _, rfl, HI.out, HK0.out, HB0.out⟩
          clear HI HB0 HK0 hlt
          case round =>
            obtain ⟨k, hk, rfl, H, c, rfl, hH, hK, hb⟩ := hrel
            have hki : 0 ≤ 64 * (k : Int) ∧ 64 * (k : Int) ≤ p.length := by omega
            by_cases hlt : 64 * k < p.length
            · have hlt2 : 64 * (k : Int) < p.length := by omega
              have hk64 : 64 * k + 64 ≤ p.length := by omega
              have t0 : (64 * (k : Int)).toNat = 64 * k := by omega
              have t1 : (64 * (k : Int) + 64).toNat = 64 * k + 64 := by omega
              have e1 : (S p).extract (64 * k) (64 * k + 64) = S ((p.drop (64 * k)).take 64) := by rw [S_take]; congr 2; omega
              have hlen : ((p.drop (64 * k)).take 64).length = 64 := by simp; omega
              have hx1 : 64 * (k : Int) + 64 ≤ p.length := by omega
              have hx2 : 64 * (k : Int) ≤ 64 * (k : Int) + 64 := by omega
              have hw2 : IntKind.i64.wrap (64 * (k : Int) + 64) = 64 * (k : Int) + 64 := by rw [IntKind.wrap_i64]; omega
              have hx3 : 0 ≤ 64 * (k : Int) + 64 := by omega
              have HB : Hid (blocks p (k + 1) = shaBlk (blocks p k) ((p.drop (64 * k)).take 64)) := rfl
              have hc := l3Block_any (blocks p k) ((p.drop (64 * k)).take 64) wr H K c 64 hlen hH hK
              generalize (p.drop (64 * k)).take 64 = ch at *
              generalize blocks p k = x at *
              generalize shaBlk x ch = y at *
              have HC := Lib.hid hc
              have HK := Lib.hid hK
              have HW := Lib.hid hb
              clear hc hK hb hH
              go_wp2_with (go_at_call 52; refine HC.out.mono ?_; rintro e w3 ⟨B, c3, rfl, hB3, hb3⟩)
              go_roundw
              case rel =>
                refine ⟨k + 1, by omega, by congr 1, B, c3, rfl, by rw [HB.out]; exact hB3, HK.out.below hb3, Below.next HW.out hb3⟩
              case measure => simp [intOf]; omega
            · have hk' : k = p.length / 64 := by omega
              rw [← hk'] at HSH
              generalize blocks p k = x at *
              have HH := Lib.hid hH
              have HB := Lib.hid hb
              clear hH hK hb hpm hpl hk' hk
              go_wp2_with fail
              go_loopw [10, 11] (fun out i wq => ∃ k : Nat, k ≤ 8 ∧ i = .int .i64 (k : Int) ∧ wq.ownsRow wr.heap.size 5 1 out (4 * k) ((outN x k).map bv) ∧ Below wr.heap.size wr wq) (fun _ i _ => 8 - (intOf i).toNat)
              case atStart => exact ⟨0, by omega, rfl, World.ownsRow_lit wr #[] 0 (Nat.le_refl _) (by simp [maxLen]) rfl, (Below.refl _ _).alloc (Nat.le_refl _) _⟩
              clear hlt
              case round =>
                obtain ⟨k, hk, rfl, hown, hb⟩ := hrel
                have hki : 0 ≤ (k : Int) ∧ (k : Int) ≤ 8 := by omega
                by_cases hlt : k < 8
                · have hlt2 : (k : Int) < 8 := by omega
                  have hbz := hb.size
                  have hHq := fun (W : World) (h : Below _ _ W) => (HH.out.below h).2 k hlt
                  have hN : (outN x (k + 1)).map bv = (outN x k).map bv ++ (fixedL 4 (x.at k).toNat).map bv := by rw [outN, List.map_append]
                  generalize x.at k = q at *
                  obtain ⟨a0, a1, a2, a3, b0, b1, b2, b3, f0, f1, f2, f3, hf⟩ := word_bytes q
                  rw [hf] at hN
                  have HN := Lib.hid hN
                  have g1 : IntKind.u8.wrap (a1 : Int) = (a1 : Int) := by simp [IntKind.wrap, IntKind.bits, IntKind.signed]; omega
                  have g2 : IntKind.u8.wrap (a2 : Int) = (a2 : Int) := by simp [IntKind.wrap, IntKind.bits, IntKind.signed]; omega
                  have g3 : IntKind.u8.wrap (a3 : Int) = (a3 : Int) := by simp [IntKind.wrap, IntKind.bits, IntKind.signed]; omega
                  clear hN hf
                  go_wp2
                  go_region_held3 (fun w' => w'.cell? ⟨H, k, none⟩ = some (.int .i64 (wn q))) (first | exact hHq _ hb.drew | exact hHq _ (hb.drew.alloc hbz _) | exact hHq _ ((hb.alloc hbz _).drew) | exact hHq _ hb2)
                    ((refine step_append_lies _ rfl _ _ 22 rfl _ 5 i0 (.int .u8 0) 1 1 Tryd.underlying22 hi hz0 hz1 hz2 rfl (by decide) _ (4 * k) _ rfl (hown.alloc _) ⟨wr.heap.size, 0, none⟩ 4 4 [.int .u8 (a0 : Int), .int .u8 (a1 : Int), .int .u8 (a2 : Int), .int .u8 (a3 : Int)] rfl rfl (cells4 (by simp [go_sem]) (by simp [go_sem]) (by simp [go_sem]) (by simp [go_sem])) (by intro u hu; simp at hu; rcases hu with rfl | rfl | rfl | rfl <;> rfl) (by omega) (by unfold maxLen; omega) (by omega) (by simp; omega) _ rfl ?_; intro g cap w2 hown2 hgr2 _ _; have hb2 := ((hb.alloc hbz _).drew).grown hgr2 (by simp; omega) (fun q hq => (hown.lt q hq).1)))
                  all_goals
                    go_wp2
                    go_roundw
                    case rel => exact ⟨k + 1, by omega, by go_num, by rw [HN.out, Nat.mul_succ]; exact hown2, hb2⟩
                    case measure => simp [intOf]; omega
                · have hk' : k = 8 := by omega
                  have HO : Hid (outN x k = shaS l) := by unfold Hid; rw [hk', outN_8, HSH.out]
                  have hcv := conv_own Tryd.underlying22 Tryd.underlying5 Tryd.underlying9 hown
                  have HBB := Lib.hid (Below.next HB.out hb)
                  clear hown hb hk' hk
                  go_wp2
                  go_ret
                  exact ⟨ret_string (by rw [HO.out]), HBB.out⟩
end Go.Proofs.YtnmgecaflildoaaDoor
