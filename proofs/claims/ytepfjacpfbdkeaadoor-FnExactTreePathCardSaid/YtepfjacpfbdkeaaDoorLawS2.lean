/-
  markStringS changes its own row alone.
-/
import Derived.Test.YtepfjacpfbdkeaaDoorLawS
namespace Go.Proofs.YtepfjacpfbdkeaaDoor
open Go.ChangeShapes Go.WideShapes Go.ChangeAt Go.RowKit
set_option linter.unusedVariables false
set_option linter.unusedSimpArgs false
set_option maxRecDepth 100000

theorem gb_trans {o : Option Nat} {a b c : World} (h : a.grownBy b o) (k : b.grownBy c o) : a.grownBy c o :=
  ⟨k.os.trans h.os, k.tape.trans h.tape, k.output.trans h.output, Nat.le_trans h.size k.size, fun i hi hn => (k.block i (Nat.lt_of_lt_of_le hi h.size) hn).trans (h.block i hi hn)⟩
theorem gb_of_below {o : Option Nat} {a b : World} (h : Below a.heap.size a b) : a.grownBy b o := ⟨h.os, h.tape, h.output, h.size, fun k hk _ => h.block k hk⟩
theorem gb_set {a : World} (g i : Nat) (u : Value) : a.grownBy (a.setCell ⟨g, i, none⟩ u) (some g) :=
  ⟨rfl, rfl, rfl, by simp [World.setCell], fun k hk hn => Below.heap_setCell _ _ _ _ (by intro e; subst e; exact hn rfl)⟩
theorem own_gb {w w' : World} {base : Nat} {e : TypeId} {size n : Nat} {v : Value} {xs : List Value} {o : Option Nat} (h : w.ownsRow base e size v n xs) (hg : w.grownBy w' o) (ho : ∀ q, v.ownBlock = some q → some q ≠ o) : w'.ownsRow base e size v n xs := by
  have hlt := h.lt
  refine ⟨h.1, ?_⟩
  rcases h.2 with ⟨h1, h2⟩ | ⟨g, cap, cur, h1, h2, h3, h4⟩
  · exact .inl ⟨h1, h2⟩
  · refine .inr ⟨g, cap, cur, h1, h2, ?_, h4⟩
    have hb : v.ownBlock = some g := by rw [h1]; rfl
    rw [← h3]; exact hg.block g (hlt g hb).2 (ho g hb)
theorem own_slice {w : World} {base : Nat} {e : TypeId} {size n : Nat} {v : Value} {xs : List Value} (h : w.ownsRow base e size v n xs) : ∃ A c, v = .slice A n c := by
  rcases h.2 with ⟨rfl, rfl⟩ | ⟨g, cap, cur, rfl, _⟩
  · exact ⟨_, _, rfl⟩
  · exact ⟨_, _, rfl⟩
theorem own_reads {w : World} {base : Nat} {e : TypeId} {A : Option Addr} {n c : Nat} {l : List (List UInt8)} (h : w.ownsRow base e 1 (.slice A n c) n (l.map tv)) (hn : l.length = n) : TReads w w.heap.size A l := by subst hn; exact TReads.of_own h

theorem markStringS_keep (base : Nat) (A : Option Addr) (c n : Nat) (l : List (List UInt8)) (k : Nat) (w : World) (hn : l.length = n) (hl : n ≤ 2097152) (hk0 : 0 < k) (hk : k ≤ 2097152) (hB : base ≤ w.heap.size) (hown : w.ownsRow base 9 1 (.slice A n c) n (l.map tv)) :
    Calls Tryd.prog 35 #[.slice A n c, .int .i64 (k : Int)] w fun e w' => e = .returned (.int .i64 ((k : Int) + n)) ∧ w'.ownsRow base 9 1 (.slice A n c) n ((marksT k n).map tv) ∧ Below base w w' ∧ w.grownBy w' (A.map Addr.block) := by
  subst hn
  have HO := Lib.hid hown
  clear hown
  go_enter Tryd.func35, Tryd.ntmps35
  go_wp2_with fail
  go_loopw [1, 5] (fun kk i wr => ∃ j : Nat, j ≤ l.length ∧ i = .int .i64 (j : Int) ∧ kk = .int .i64 ((k : Int) + j) ∧ wr.ownsRow base 9 1 (.slice A l.length c) l.length ((marksT k j ++ l.drop j).map tv) ∧ base ≤ wr.heap.size ∧ Below base w wr ∧ w.grownBy wr (A.map Addr.block)) (fun _ i _ => l.length - (intOf i).toNat)
  case atStart => exact ⟨0, by omega, rfl, by simp, by simpa [marksT] using HO.out, hB, ⟨rfl, rfl, rfl, Nat.le_refl _, fun _ _ => rfl⟩, ⟨rfl, rfl, rfl, Nat.le_refl _, fun _ _ _ => rfl⟩⟩
  case round =>
    obtain ⟨j, hj, rfl, rfl, hown, hB, hb, hgb⟩ := hrel
    have hji0 : 0 ≤ (j : Int) ∧ (j : Int) ≤ l.length := by omega
    by_cases hlt : j < l.length
    · obtain ⟨g, cap, hv, hg, hgl⟩ := hown.form (by omega)
      simp only [Value.slice.injEq] at hv
      obtain ⟨rfl, _, rfl⟩ := hv
      have hji : 0 ≤ (j : Int) ∧ (j : Int) < l.length := by omega
      have hmt := fun W : World => markText_any (k + j) W (by omega) (by omega)
      simp only [Int.natCast_add] at hmt
      have HMT := Lib.hid hmt
      have HB := Lib.hid hb
      have HGB := Lib.hid hgb
      have HOW := Lib.hid hown
      clear hmt hb hown hgb
      go_wp2_with (go_at_call 67; refine (HMT.out _).mono ?_; rintro e wm ⟨rfl, hbm⟩; have hown2 := own_below HOW.out hbm; have hb2 : Below base w wm := HB.out.trans (hbm.mono (by omega)); have hgb2 := Lib.hid (gb_trans HGB.out (gb_of_below hbm)); have hsz := hbm.size; obtain ⟨u0, s0⟩ := own_some hown2 (j := j) hlt; have f0 := hown2.frozenAt j; have HST := Lib.hid (hown2.stored j (tv (markT (k + j)))).1; clear hown2 hbm)
      go_roundw
      case rel => exact ⟨j + 1, by omega, by go_num, by congr 1, by rw [← mark_str l k l.length j rfl hlt]; exact HST.out, by simpa [World.setCell] using (by omega), hb2.setCell hg _, gb_trans hgb2.out (gb_set g j _)⟩
      case measure => simp [intOf]; omega
    · have hkl : Hid (j = l.length) := by unfold Hid; omega
      have HOW := Lib.hid hown
      have HGB := Lib.hid hgb
      clear hown hgb
      go_wp2
      go_ret
      exact ⟨ret_int (by rw [hkl.out]), by have := HOW.out; rw [hkl.out] at this; simpa using this, hb, HGB.out⟩
end Go.Proofs.YtepfjacpfbdkeaaDoor
