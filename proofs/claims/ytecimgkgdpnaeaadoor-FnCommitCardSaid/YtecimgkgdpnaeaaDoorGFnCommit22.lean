/-
  Texts of this proof, laid into one: DrC, DrS, DrS2.
-/
import Derived.Deep.AppendLies
import Derived.Deep.RegionHeld3
import Derived.Test.YtecimgkgdpnaeaaDoorGFnCommit19
import Derived.Test.YtecimgkgdpnaeaaDoorGFnCommit14
import Derived.Test.YtecimgkgdpnaeaaDoorGFnCommit20
import Derived.Test.YtecimgkgdpnaeaaDoorGFnCommit13
import Derived.Deep.Cut
import Derived.Deep.CutRange
import Derived.Deep.LoopGhost
import Derived.Test.YtecimgkgdpnaeaaDoorGFnCommit4
import Derived.Test.YtecimgkgdpnaeaaDoorGFnCommit6
import Derived.Test.YtecimgkgdpnaeaaDoorGFnCommit12
/-
  A commit drawn: l9For.
-/
namespace Go.Proofs.YtecimgkgdpnaeaaDoor
open Go.ChangeShapes Go.WideShapes Go.ChangeAt Go.RowKit
set_option linter.unusedVariables false
set_option linter.unusedSimpArgs false
set_option maxRecDepth 100000

/-- Four cells of one block, writable. -/
def H4 (w : World) (b : Nat) (u0 u1 u2 u3 : Value) : Prop := b < w.heap.size ∧ w.cell? ⟨b, 0, none⟩ = some u0 ∧ w.cell? ⟨b, 1, none⟩ = some u1 ∧ w.cell? ⟨b, 2, none⟩ = some u2 ∧ w.cell? ⟨b, 3, none⟩ = some u3 ∧ ∀ i, w.frozen? ⟨b, i, none⟩ = false
theorem H4.but {w w' : World} {b B : Nat} {u0 u1 u2 u3 : Value} (h : H4 w b u0 u1 u2 u3) (hb : But B w w') (hn : b ≠ B) : H4 w' b u0 u1 u2 u3 := by
  obtain ⟨h1, c0, c1, c2, c3, hf⟩ := h
  exact ⟨Nat.lt_of_lt_of_le h1 hb.size, (hb.cell h1 hn).trans c0, (hb.cell h1 hn).trans c1, (hb.cell h1 hn).trans c2, (hb.cell h1 hn).trans c3, fun i => (hb.frozen h1 hn).trans (hf i)⟩
theorem H4.next {w w' : World} {b : Nat} {u0 u1 u2 u3 : Value} (h : H4 w b u0 u1 u2 u3) (hb : Below w.heap.size w w') : H4 w' b u0 u1 u2 u3 := h.but (B := b + 1) (But.of_below hb) (by omega)
theorem H4.low {w w' : World} {b k : Nat} {u0 u1 u2 u3 : Value} (h : H4 w b u0 u1 u2 u3) (hb : Below k w w') (hk : b < k) : H4 w' b u0 u1 u2 u3 := by
  obtain ⟨h1, c0, c1, c2, c3, hf⟩ := h
  have e := hb.block b hk
  exact ⟨Nat.lt_of_lt_of_le h1 hb.size, (World.cell?_of_block (w := w) e).trans c0, (World.cell?_of_block (w := w) e).trans c1, (World.cell?_of_block (w := w) e).trans c2, (World.cell?_of_block (w := w) e).trans c3, fun i => (World.frozen?_of_block (w := w) e).trans (hf i)⟩
theorem H4.alloc {w : World} {b : Nat} {u0 u1 u2 u3 : Value} (h : H4 w b u0 u1 u2 u3) (o : Obj) : H4 (w.alloc o) b u0 u1 u2 u3 := h.next (Below.alloc (Below.refl _ _) (Nat.le_refl _) o)
theorem H4.drew {w : World} {b : Nat} {u0 u1 u2 u3 : Value} (h : H4 w b u0 u1 u2 u3) : H4 w.drew b u0 u1 u2 u3 := h
theorem H4.new (w : World) (t : TypeId) (u0 u1 u2 u3 : Value) : H4 (w.alloc (.cells #[u0, u1, u2, u3] t)) w.heap.size u0 u1 u2 u3 :=
  ⟨by simp, by go_simp, by go_simp, by go_simp, by go_simp, fun i => by go_simp⟩
theorem H4.set {w : World} {b : Nat} {u0 u1 u2 u3 : Value} (h : H4 w b u0 u1 u2 u3) (v : Value) :
    H4 (w.setCell ⟨b, 0, none⟩ v) b v u1 u2 u3 ∧ H4 (w.setCell ⟨b, 1, none⟩ v) b u0 v u2 u3 ∧ H4 (w.setCell ⟨b, 2, none⟩ v) b u0 u1 v u3 ∧ H4 (w.setCell ⟨b, 3, none⟩ v) b u0 u1 u2 v := by
  obtain ⟨h1, c0, c1, c2, c3, hf⟩ := h
  refine ⟨?_, ?_, ?_, ?_⟩ <;> exact ⟨by simpa [World.setCell] using h1, by go_simp, by go_simp, by go_simp, by go_simp, fun i => by go_simp⟩
theorem H4.grown {w w' : World} {b : Nat} {u0 u1 u2 u3 : Value} {o : Option Nat} (h : H4 w b u0 u1 u2 u3) (hg : w.grownBy w' o) (ho : o ≠ some b) : H4 w' b u0 u1 u2 u3 := by
  obtain ⟨h1, c0, c1, c2, c3, hf⟩ := h
  have e := hg.block b h1 (fun e => ho e.symm)
  exact ⟨Nat.lt_of_lt_of_le h1 hg.size, (World.cell?_of_block (w := w) e).trans c0, (World.cell?_of_block (w := w) e).trans c1, (World.cell?_of_block (w := w) e).trans c2, (World.cell?_of_block (w := w) e).trans c3, fun i => (World.frozen?_of_block (w := w) e).trans (hf i)⟩
theorem l9Vote_flat (h r v : Int) (id : List UInt8) (A : Option Addr) (n c : Nat) (w : World) :
    Calls Tryd.prog 60 #[.agg #[.int .i64 h, .int .i64 r, .string (S id), .slice A n c], .int .i64 v] w fun e w' => e = .returned (.agg #[.int .i64 h, .int .i64 r, .int .i64 2, .string (S id), .int .i64 v]) ∧ Below w.heap.size w w' := l9Vote_any h r v id A n c w
theorem sDigest_flat (h r s : Int) (id : List UInt8) (v : Int) (w : World) (hid : id.length ≤ 9223372036854775807) :
    Calls Tryd.prog 96 #[.agg #[.int .i64 h, .int .i64 r, .int .i64 s, .string (S id), .int .i64 v]] w fun e w' => e = .returned (.string (S (digestS ⟨h, r, s, id, v⟩))) ∧ Below w.heap.size w w' := sDigest_any ⟨h, r, s, id, v⟩ w hid
theorem headIdS_len (y : HeadT) : (headIdS y).length ≤ 8 := by
  unfold headIdS
  split
  · exact Nat.le_of_eq (shortS_len _)
  · simp

set_option maxHeartbeats 4000000 in
theorem l9For_in (hh ht : Int) (la va ne da : List UInt8) (rd : Int) (ids : List Int) (Ai : Option Addr) (ci : Nat) (w : World) (h1 : la.length ≤ 9223372036854775807) (h2 : va.length ≤ 9223372036854775807) (h3 : ne.length ≤ 9223372036854775807) (h4 : da.length ≤ 9223372036854775807) (hn : ids.length ≤ 1000) (hI : IReads w w.heap.size Ai ids) :
    Calls Tryd.prog 91 #[.agg #[.int .i64 hh, .int .i64 ht, .string (S la), .string (S va), .string (S ne), .string (S da)], .int .i64 rd, .slice Ai ids.length ci] w fun e w' => ∃ (id : List UInt8) (l : List SigT) (A : Option Addr) (c : Nat), e = .returned (.agg #[.int .i64 hh, .int .i64 rd, .string (S id), .slice A l.length c]) ∧ id.length ≤ 8 ∧ l.length = ids.length ∧ Hid (∀ s ∈ l, s.sig.length ≤ 8) ∧ w'.ownsRow w.heap.size 85 2 (.slice A l.length c) l.length (scells l) ∧ Below w.heap.size w w' := by
  obtain ⟨i0, hi, hzA, hzB, hzC⟩ := info_parts info_csig
  have HHI : Hid (∀ W : World, Calls Tryd.prog 21 #[.agg #[.int .i64 hh, .int .i64 ht, .string (S la), .string (S va), .string (S ne), .string (S da)]] W fun e w' => e = .returned (.string (S (headIdS ⟨hh, ht, la, va, ne, da⟩))) ∧ Below W.heap.size W w') := fun W => sHeadId_any ⟨hh, ht, la, va, ne, da⟩ W h1 h2 h3 h4
  have hil := headIdS_len ⟨hh, ht, la, va, ne, da⟩
  generalize headIdS ⟨hh, ht, la, va, ne, da⟩ = id at *
  have HDG := Lib.hid fun (W : World) (v : Int) => sDigest_flat hh rd 2 id v W (by omega)
  have HSA := Lib.hid fun (W : World) (v : Int) => sSignAs_any v (digestS ⟨hh, rd, 2, id, v⟩) W (by have := digestS_len ⟨hh, rd, 2, id, v⟩; omega)
  have HSL := Lib.hid fun (v : Int) => signAsS_len v (digestS ⟨hh, rd, 2, id, v⟩)
  generalize hdg : (fun v : Int => digestS ⟨hh, rd, 2, id, v⟩) = dg at *
  have hdg' : ∀ v : Int, digestS ⟨hh, rd, 2, id, v⟩ = dg v := fun v => by rw [← hdg]
  simp only [Hid, hdg'] at HDG HSA HSL
  replace HDG := Lib.hid HDG
  replace HSA := Lib.hid HSA
  replace HSL := Lib.hid HSL
  clear hdg hdg'
  have hb0 := (Below.refl w.heap.size w).alloc (Nat.le_refl _) (.cells #[.int .i64 hh, .int .i64 ht, .string (S la), .string (S va), .string (S ne), .string (S da)] 25)
  have hR0 := H4.new (w.alloc (.cells #[.int .i64 hh, .int .i64 ht, .string (S la), .string (S va), .string (S ne), .string (S da)] 25)) 33 (.int .i64 0) (.int .i64 0) (.string ⟨#[]⟩) (.slice none 0 0)
  have hb1 := hb0.alloc hb0.size (.cells #[.int .i64 0, .int .i64 0, .string ⟨#[]⟩, .slice none 0 0] 33)
  have hsz : (w.alloc (.cells #[.int .i64 hh, .int .i64 ht, .string (S la), .string (S va), .string (S ne), .string (S da)] 25)).heap.size = w.heap.size + 1 := by simp
  rw [hsz] at hR0
  have e0 : ((w.alloc (.cells #[.int .i64 hh, .int .i64 ht, .string (S la), .string (S va), .string (S ne), .string (S da)] 25)).alloc (.cells #[.int .i64 0, .int .i64 0, .string ⟨#[]⟩, .slice none 0 0] 33)).cell? ⟨w.heap.size, 0, none⟩ = some (.int .i64 hh) := by go_simp
  have e1 : ((w.alloc (.cells #[.int .i64 hh, .int .i64 ht, .string (S la), .string (S va), .string (S ne), .string (S da)] 25)).alloc (.cells #[.int .i64 0, .int .i64 0, .string ⟨#[]⟩, .slice none 0 0] 33)).cell? ⟨w.heap.size, 1, none⟩ = some (.int .i64 ht) := by go_simp
  have e2 : ((w.alloc (.cells #[.int .i64 hh, .int .i64 ht, .string (S la), .string (S va), .string (S ne), .string (S da)] 25)).alloc (.cells #[.int .i64 0, .int .i64 0, .string ⟨#[]⟩, .slice none 0 0] 33)).cell? ⟨w.heap.size, 2, none⟩ = some (.string (S la)) := by go_simp
  have e3 : ((w.alloc (.cells #[.int .i64 hh, .int .i64 ht, .string (S la), .string (S va), .string (S ne), .string (S da)] 25)).alloc (.cells #[.int .i64 0, .int .i64 0, .string ⟨#[]⟩, .slice none 0 0] 33)).cell? ⟨w.heap.size, 3, none⟩ = some (.string (S va)) := by go_simp
  have e4 : ((w.alloc (.cells #[.int .i64 hh, .int .i64 ht, .string (S la), .string (S va), .string (S ne), .string (S da)] 25)).alloc (.cells #[.int .i64 0, .int .i64 0, .string ⟨#[]⟩, .slice none 0 0] 33)).cell? ⟨w.heap.size, 4, none⟩ = some (.string (S ne)) := by go_simp
  have e5 : ((w.alloc (.cells #[.int .i64 hh, .int .i64 ht, .string (S la), .string (S va), .string (S ne), .string (S da)] 25)).alloc (.cells #[.int .i64 0, .int .i64 0, .string ⟨#[]⟩, .slice none 0 0] 33)).cell? ⟨w.heap.size, 5, none⟩ = some (.string (S da)) := by go_simp
  have hz2 : ((w.alloc (.cells #[.int .i64 hh, .int .i64 ht, .string (S la), .string (S va), .string (S ne), .string (S da)] 25)).alloc (.cells #[.int .i64 0, .int .i64 0, .string ⟨#[]⟩, .slice none 0 0] 33)).heap.size = w.heap.size + 1 + 1 := by simp
  have HIR := Lib.hid hI
  clear hI hb0 hsz
  go_enter Tryd.func91, Tryd.ntmps91
  go_wp2_with fail
  generalize (w.alloc (.cells #[.int .i64 hh, .int .i64 ht, .string (S la), .string (S va), .string (S ne), .string (S da)] 25)).alloc (.cells #[.int .i64 0, .int .i64 0, .string ⟨#[]⟩, .slice none 0 0] 33) = W0 at *
  have hwl : w.heap.size < W0.drew.heap.size := by show w.heap.size < W0.heap.size; omega
  have HK := Lib.hid fun (W : World) (hb : Below W0.drew.heap.size W0.drew W) => (⟨hb, (hb.cell (p := ⟨w.heap.size, 0, none⟩) hwl).trans e0, (hb.cell (p := ⟨w.heap.size, 1, none⟩) hwl).trans e1, (hb.cell (p := ⟨w.heap.size, 2, none⟩) hwl).trans e2, (hb.cell (p := ⟨w.heap.size, 3, none⟩) hwl).trans e3, (hb.cell (p := ⟨w.heap.size, 4, none⟩) hwl).trans e4, (hb.cell (p := ⟨w.heap.size, 5, none⟩) hwl).trans e5⟩ : Below W0.drew.heap.size W0.drew W ∧ W.cell? ⟨w.heap.size, 0, none⟩ = some (.int .i64 hh) ∧ W.cell? ⟨w.heap.size, 1, none⟩ = some (.int .i64 ht) ∧ W.cell? ⟨w.heap.size, 2, none⟩ = some (.string (S la)) ∧ W.cell? ⟨w.heap.size, 3, none⟩ = some (.string (S va)) ∧ W.cell? ⟨w.heap.size, 4, none⟩ = some (.string (S ne)) ∧ W.cell? ⟨w.heap.size, 5, none⟩ = some (.string (S da)))
  refine wp_region_held_drew (S := fun w' => Below W0.drew.heap.size W0.drew w' ∧ w'.cell? ⟨w.heap.size, 0, none⟩ = some (.int .i64 hh) ∧ w'.cell? ⟨w.heap.size, 1, none⟩ = some (.int .i64 ht) ∧ w'.cell? ⟨w.heap.size, 2, none⟩ = some (.string (S la)) ∧ w'.cell? ⟨w.heap.size, 3, none⟩ = some (.string (S va)) ∧ w'.cell? ⟨w.heap.size, 4, none⟩ = some (.string (S ne)) ∧ w'.cell? ⟨w.heap.size, 5, none⟩ = some (.string (S da))) (by kernel_rfl) (by (try dsimp only); exact HK.out _ (Below.refl _ _)) (fun hHeld => ?_)
  refine wpAnyH_take (i := 0) (oi := _) (v := ?v0) rfl (by kernel_rfl) (by kernel_rfl) (by kernel_rfl) (fun _ _ _ h => h) (Or.inl ⟨by kernel_rfl, ?hy0⟩) (by assumption) ?rest0
  case hy0 => (intro w' hSw; (try dsimp only at hSw); go_simp; try with_reducible rfl)
  try simp only [Act.put, List.getElem_toArray, List.getElem_cons_succ, List.getElem_cons_zero, List.setIfInBounds_toArray, List.set_cons_zero, List.set_cons_succ]
  refine wpAnyH_take (i := 1) (oi := _) (v := ?v1) rfl (by kernel_rfl) (by kernel_rfl) (by kernel_rfl) (fun _ _ _ h => h) (Or.inl ⟨by kernel_rfl, ?hy1⟩) (by assumption) ?rest1
  case hy1 => (intro w' hSw; (try dsimp only at hSw); go_simp; try with_reducible rfl)
  try simp only [Act.put, List.getElem_toArray, List.getElem_cons_succ, List.getElem_cons_zero, List.setIfInBounds_toArray, List.set_cons_zero, List.set_cons_succ]
  refine wpAnyH_take (i := 2) (oi := _) (v := ?v2) rfl (by kernel_rfl) (by kernel_rfl) (by kernel_rfl) (fun _ _ _ h => h) (Or.inl ⟨by kernel_rfl, ?hy2⟩) (by assumption) ?rest2
  case hy2 => (intro w' hSw; (try dsimp only at hSw); go_simp; try with_reducible rfl)
  try simp only [Act.put, List.getElem_toArray, List.getElem_cons_succ, List.getElem_cons_zero, List.setIfInBounds_toArray, List.set_cons_zero, List.set_cons_succ]
  refine wpAnyH_take (i := 3) (oi := _) (v := ?v3) rfl (by kernel_rfl) (by kernel_rfl) (by kernel_rfl) (fun _ _ _ h => h) (Or.inl ⟨by kernel_rfl, ?hy3⟩) (by assumption) ?rest3
  case hy3 => (intro w' hSw; (try dsimp only at hSw); go_simp; try with_reducible rfl)
  try simp only [Act.put, List.getElem_toArray, List.getElem_cons_succ, List.getElem_cons_zero, List.setIfInBounds_toArray, List.set_cons_zero, List.set_cons_succ]
  refine wpAnyH_ready (rs := [4, 6]) (by kernel_rfl) (by simp) ?_
  refine AllReadyH.cons (o := _) rfl (fun K hK => ?_) (AllReadyH.cons (o := _) rfl (fun K hK => ?_) AllReadyH.nil)
  · go_simp
    (go_at_call 21; refine (HHI.out _).mono ?_; rintro e wm ⟨rfl, hbm⟩)
    try go_wp2_with fail
    refine hK.out _ _ ?_ (fun hHeld => ?_)
    · (try dsimp only); exact HK.out _ (Below.next (And.left hHeld) hbm)
    clear hK K
    try simp only [Act.put, List.getElem_toArray, List.getElem_cons_succ, List.getElem_cons_zero, List.setIfInBounds_toArray, List.set_cons_zero, List.set_cons_succ]
    have hbm' : Below W0.drew.heap.size W0.drew wm := And.left (by assumption)
    refine wpAnyH_take (i := 5) (oi := _) (v := ?v4) rfl (by kernel_rfl) (by kernel_rfl) (by kernel_rfl) (fun _ _ _ h => h) (Or.inl ⟨by kernel_rfl, ?hy4⟩) (by assumption) ?rest4
    case hy4 => (intro w' hSw; (try dsimp only at hSw); go_simp; try with_reducible rfl)
    try simp only [Act.put, List.getElem_toArray, List.getElem_cons_succ, List.getElem_cons_zero, List.setIfInBounds_toArray, List.set_cons_zero, List.set_cons_succ]
    refine wpAnyH_ready (rs := [6]) (by kernel_rfl) (by simp) ?_
    refine AllReadyH.cons (o := _) rfl (fun K hK => ?_) AllReadyH.nil
    go_simp
    refine hK.out _ _ ?_ (fun hHeld => ?_)
    · (try dsimp only); exact HK.out _ (by repeat (first | with_reducible exact hbm' | with_reducible exact Below.refl _ _ | with_reducible refine Below.setCell ?_ (by first | exact hbm'.size | omega | (simp <;> omega)) _ | with_reducible refine Below.alloc ?_ (by first | exact hbm'.size | omega | (simp <;> omega)) _))
    clear hK K
    try simp only [Act.put, List.getElem_toArray, List.getElem_cons_succ, List.getElem_cons_zero, List.setIfInBounds_toArray, List.set_cons_zero, List.set_cons_succ]
    refine wpAnyH_ready (rs := [7]) (by kernel_rfl) (by simp) ?_
    refine AllReadyH.cons (o := _) rfl (fun K hK => ?_) AllReadyH.nil
    go_simp
    refine hK.out _ _ ?_ (fun hHeld => ?_)
    · (try dsimp only); exact HK.out _ (by repeat (first | with_reducible exact hbm' | with_reducible exact Below.refl _ _ | with_reducible refine Below.setCell ?_ (by first | exact hbm'.size | omega | (simp <;> omega)) _ | with_reducible refine Below.alloc ?_ (by first | exact hbm'.size | omega | (simp <;> omega)) _))
    clear hK K
    try simp only [Act.put, List.getElem_toArray, List.getElem_cons_succ, List.getElem_cons_zero, List.setIfInBounds_toArray, List.set_cons_zero, List.set_cons_succ]
    refine wpAnyH_done (by kernel_rfl) ?_ _
    clear hHeld
    have hC := H4.new wm 33 (.int .i64 hh) (.int .i64 rd) (.string (S id)) (.slice none 0 0)
    have hRW := (H4.next (w := W0.drew) hR0 hbm').alloc (.cells #[.int .i64 hh, .int .i64 rd, .string (S id), .slice none 0 0] 33)
    have hbw := (Below.next hb1.drew hbm').alloc (by have := (Below.next hb1.drew hbm').size; omega) (.cells #[.int .i64 hh, .int .i64 rd, .string (S id), .slice none 0 0] 33)
    have hCl : w.heap.size + 1 < wm.heap.size := by have := hbm'.size; have : W0.drew.heap.size = w.heap.size + 1 + 1 := hz2; omega
    generalize wm.alloc (.cells #[.int .i64 hh, .int .i64 rd, .string (S id), .slice none 0 0] 33) = W1 at *
    generalize wm.heap.size = C at *
    clear hbm' hbm
    go_wp2_with fail
    go_loopw [8] (fun i wr => ∃ (L : List SigT) (v : Value), L.length ≤ ids.length ∧ i = .int .i64 (L.length : Int) ∧ Hid (∀ s ∈ L, s.sig.length ≤ 8) ∧ wr.ownsRow (C + 1) 85 2 v L.length (scells L) ∧ H4 wr C (.int .i64 hh) (.int .i64 rd) (.string (S id)) v ∧ H4 wr (w.heap.size + 1) (.int .i64 0) (.int .i64 0) (.string ⟨#[]⟩) (.slice none 0 0) ∧ Below w.heap.size w wr) (fun i _ => ids.length - (intOf i).toNat)
    case atStart => exact ⟨[], _, by simp, rfl, fun s hs => by (simp at hs), own_nil _ _ _ _, hC, hRW, hbw⟩
    case round =>
      obtain ⟨L, v, hkL, rfl, hL8, hown, hCr, hRr, hbr⟩ := hrel
      obtain ⟨Av, cv, rfl⟩ := own_slice hown
      have hki : 0 ≤ (L.length : Int) ∧ (L.length : Int) ≤ ids.length := by omega
      have hzr := hbr.size
      have HOWN := Lib.hid hown
      have HCC := Lib.hid hCr
      have HRR := Lib.hid hRr
      have HBR := Lib.hid hbr
      clear hown hCr hRr hbr hC hRW hbw
      by_cases hlt : L.length < ids.length
      · have hlti : (L.length : Int) < ids.length := by omega
        obtain ⟨b, off, rfl, hbB, hcl⟩ := HIR.out (by omega)
        have k0 := hcl L.length hlt
        clear hcl
        generalize ids[L.length] = vi at *
        have KP := Lib.hid fun (W : World) (hb : Below w.heap.size w W) => (⟨hb, (hb.cell (p := ⟨b, off + L.length, none⟩) hbB).trans k0⟩ : Below w.heap.size w W ∧ W.cell? ⟨b, off + L.length, none⟩ = some (.int .i64 vi))
        obtain ⟨hCl2, c0, c1, c2, c3, cf⟩ := _root_.id HCC.out
        go_wp2_with fail
        refine wp_region_held_drew (S := fun w' => Below w.heap.size w w' ∧ w'.cell? ⟨b, off + L.length, none⟩ = some (.int .i64 vi)) (by kernel_rfl) (by (try dsimp only); exact KP.out _ HBR.out.drew) (fun hHeld => ?_)
        refine wpAnyH_take (i := 0) (oi := _) (v := ?v6) rfl (by kernel_rfl) (by kernel_rfl) (by kernel_rfl) (fun _ _ _ h => h) (Or.inl ⟨by kernel_rfl, ?hy6⟩) (by assumption) ?rest6
        case hy6 => (intro w' hSw; (try dsimp only at hSw); go_simp; try with_reducible rfl)
        try simp only [Act.put, List.getElem_toArray, List.getElem_cons_succ, List.getElem_cons_zero, List.setIfInBounds_toArray, List.set_cons_zero, List.set_cons_succ]
        refine wpAnyH_take (i := 2) (oi := _) (v := ?v7) rfl (by kernel_rfl) (by kernel_rfl) (by kernel_rfl) (fun _ _ _ h => h) (Or.inl ⟨by kernel_rfl, ?hy7⟩) (by assumption) ?rest7
        case hy7 => (intro w' hSw; (try dsimp only at hSw); go_simp; try with_reducible rfl)
        try simp only [Act.put, List.getElem_toArray, List.getElem_cons_succ, List.getElem_cons_zero, List.setIfInBounds_toArray, List.set_cons_zero, List.set_cons_succ]
        refine wpAnyH_take (i := 3) (oi := _) (v := ?v8) rfl (by kernel_rfl) (by kernel_rfl) (by kernel_rfl) (fun _ _ _ h => h) (Or.inl ⟨by kernel_rfl, ?hy8⟩) (by assumption) ?rest8
        case hy8 => (intro w' hSw; (try dsimp only at hSw); go_simp; try with_reducible rfl)
        try simp only [Act.put, List.getElem_toArray, List.getElem_cons_succ, List.getElem_cons_zero, List.setIfInBounds_toArray, List.set_cons_zero, List.set_cons_succ]
        refine wpAnyH_take (i := 4) (oi := _) (v := ?v9) rfl (by kernel_rfl) (by kernel_rfl) (by kernel_rfl) (fun _ _ _ h => h) (Or.inl ⟨by kernel_rfl, ?hy9⟩) (by assumption) ?rest9
        case hy9 => (intro w' hSw; (try dsimp only at hSw); go_simp; try with_reducible rfl)
        try simp only [Act.put, List.getElem_toArray, List.getElem_cons_succ, List.getElem_cons_zero, List.setIfInBounds_toArray, List.set_cons_zero, List.set_cons_succ]
        refine wpAnyH_take (i := 5) (oi := _) (v := ?v10) rfl (by kernel_rfl) (by kernel_rfl) (by kernel_rfl) (fun _ _ _ h => h) (Or.inl ⟨by kernel_rfl, ?hy10⟩) (by assumption) ?rest10
        case hy10 => (intro w' hSw; (try dsimp only at hSw); go_simp; try with_reducible rfl)
        try simp only [Act.put, List.getElem_toArray, List.getElem_cons_succ, List.getElem_cons_zero, List.setIfInBounds_toArray, List.set_cons_zero, List.set_cons_succ]
        refine wpAnyH_take (i := 6) (oi := _) (v := ?v11) rfl (by kernel_rfl) (by kernel_rfl) (by kernel_rfl) (fun _ _ _ h => h) (Or.inl ⟨by kernel_rfl, ?hy11⟩) (by assumption) ?rest11
        case hy11 => (intro w' hSw; (try dsimp only at hSw); go_simp; try with_reducible rfl)
        try simp only [Act.put, List.getElem_toArray, List.getElem_cons_succ, List.getElem_cons_zero, List.setIfInBounds_toArray, List.set_cons_zero, List.set_cons_succ]
        refine wpAnyH_take (i := 7) (oi := _) (v := ?v12) rfl (by kernel_rfl) (by kernel_rfl) (by kernel_rfl) (fun _ _ _ h => h) (Or.inl ⟨by kernel_rfl, ?hy12⟩) (by assumption) ?rest12
        case hy12 => (intro w' hSw; (try dsimp only at hSw); go_simp; try with_reducible rfl)
        try simp only [Act.put, List.getElem_toArray, List.getElem_cons_succ, List.getElem_cons_zero, List.setIfInBounds_toArray, List.set_cons_zero, List.set_cons_succ]
        refine wpAnyH_take (i := 8) (oi := _) (v := ?v13) rfl (by kernel_rfl) (by kernel_rfl) (by kernel_rfl) (fun _ _ _ h => h) (Or.inl ⟨by kernel_rfl, ?hy13⟩) (by assumption) ?rest13
        case hy13 => (intro w' hSw; (try dsimp only at hSw); go_simp; try with_reducible rfl)
        try simp only [Act.put, List.getElem_toArray, List.getElem_cons_succ, List.getElem_cons_zero, List.setIfInBounds_toArray, List.set_cons_zero, List.set_cons_succ]
        refine wpAnyH_take (i := 9) (oi := _) (v := ?v14) rfl (by kernel_rfl) (by kernel_rfl) (by kernel_rfl) (fun _ _ _ h => h) (Or.inl ⟨by kernel_rfl, ?hy14⟩) (by assumption) ?rest14
        case hy14 => (intro w' hSw; (try dsimp only at hSw); go_simp; try with_reducible rfl)
        try simp only [Act.put, List.getElem_toArray, List.getElem_cons_succ, List.getElem_cons_zero, List.setIfInBounds_toArray, List.set_cons_zero, List.set_cons_succ]
        refine wpAnyH_take (i := 11) (oi := _) (v := ?v15) rfl (by kernel_rfl) (by kernel_rfl) (by kernel_rfl) (fun _ _ _ h => h) (Or.inl ⟨by kernel_rfl, ?hy15⟩) (by assumption) ?rest15
        case hy15 => (intro w' hSw; (try dsimp only at hSw); go_simp; try with_reducible rfl)
        try simp only [Act.put, List.getElem_toArray, List.getElem_cons_succ, List.getElem_cons_zero, List.setIfInBounds_toArray, List.set_cons_zero, List.set_cons_succ]
        refine wpAnyH_take (i := 12) (oi := _) (v := ?v16) rfl (by kernel_rfl) (by kernel_rfl) (by kernel_rfl) (fun _ _ _ h => h) (Or.inl ⟨by kernel_rfl, ?hy16⟩) (by assumption) ?rest16
        case hy16 => (intro w' hSw; (try dsimp only at hSw); go_simp; try with_reducible rfl)
        try simp only [Act.put, List.getElem_toArray, List.getElem_cons_succ, List.getElem_cons_zero, List.setIfInBounds_toArray, List.set_cons_zero, List.set_cons_succ]
        refine wpAnyH_take (i := 13) (oi := _) (v := ?v17) rfl (by kernel_rfl) (by kernel_rfl) (by kernel_rfl) (fun _ _ _ h => h) (Or.inl ⟨by kernel_rfl, ?hy17⟩) (by assumption) ?rest17
        case hy17 => (intro w' hSw; (try dsimp only at hSw); go_simp; try with_reducible rfl)
        try simp only [Act.put, List.getElem_toArray, List.getElem_cons_succ, List.getElem_cons_zero, List.setIfInBounds_toArray, List.set_cons_zero, List.set_cons_succ]
        refine wpAnyH_take (i := 14) (oi := _) (v := ?v18) rfl (by kernel_rfl) (by kernel_rfl) (by kernel_rfl) (fun _ _ _ h => h) (Or.inl ⟨by kernel_rfl, ?hy18⟩) (by assumption) ?rest18
        case hy18 => (intro w' hSw; (try dsimp only at hSw); go_simp; try with_reducible rfl)
        try simp only [Act.put, List.getElem_toArray, List.getElem_cons_succ, List.getElem_cons_zero, List.setIfInBounds_toArray, List.set_cons_zero, List.set_cons_succ]
        have hA := Below.refl wr.drew.heap.size wr.drew
        refine wpAnyH_ready (rs := [1, 10]) (by kernel_rfl) (by simp) ?_
        refine AllReadyH.cons (o := _) rfl (fun K hK => ?_) (AllReadyH.cons (o := _) rfl (fun K hK => ?_) AllReadyH.nil)
        · go_simp
          refine hK.out _ _ ?_ (fun hHeld => ?_)
          · (try dsimp only); assumption
          clear hK K
          try simp only [Act.put, List.getElem_toArray, List.getElem_cons_succ, List.getElem_cons_zero, List.setIfInBounds_toArray, List.set_cons_zero, List.set_cons_succ]
          refine wpAnyH_ready (rs := [10]) (by kernel_rfl) (by simp) ?_
          refine AllReadyH.cons (o := _) rfl (fun K hK => ?_) AllReadyH.nil
          go_simp
          refine hK.out _ _ ?_ (fun hHeld => ?_)
          · (try dsimp only); assumption
          clear hK K
          try simp only [Act.put, List.getElem_toArray, List.getElem_cons_succ, List.getElem_cons_zero, List.setIfInBounds_toArray, List.set_cons_zero, List.set_cons_succ]
          refine wpAnyH_ready (rs := [15]) (by kernel_rfl) (by simp) ?_
          refine AllReadyH.cons (o := _) rfl (fun K hK => ?_) AllReadyH.nil
          go_simp
          (go_at_call 60; refine (l9Vote_flat _ _ _ _ _ _ _ _).mono ?_; rintro e wm ⟨rfl, hbm⟩)
          try go_wp2_with fail
          refine hK.out _ _ ?_ (fun hHeld => ?_)
          · (try dsimp only); exact KP.out _ (Below.next (And.left hHeld) hbm)
          clear hK K
          try simp only [Act.put, List.getElem_toArray, List.getElem_cons_succ, List.getElem_cons_zero, List.setIfInBounds_toArray, List.set_cons_zero, List.set_cons_succ]
          have hA := Below.next hA hbm
          obtain ⟨hCl9, c0, c1, c2, c3, cf⟩ := HCC.out.drew.next hA
          refine wpAnyH_ready (rs := [16]) (by kernel_rfl) (by simp) ?_
          refine AllReadyH.cons (o := _) rfl (fun K hK => ?_) AllReadyH.nil
          go_simp
          (go_at_call 96; refine (HDG.out _ _).mono ?_; rintro e wm ⟨rfl, hbm⟩)
          try go_wp2_with fail
          refine hK.out _ _ ?_ (fun hHeld => ?_)
          · (try dsimp only); exact KP.out _ (Below.next (And.left hHeld) hbm)
          clear hK K
          try simp only [Act.put, List.getElem_toArray, List.getElem_cons_succ, List.getElem_cons_zero, List.setIfInBounds_toArray, List.set_cons_zero, List.set_cons_succ]
          have hA := Below.next hA hbm
          obtain ⟨hCl9, c0, c1, c2, c3, cf⟩ := HCC.out.drew.next hA
          refine wpAnyH_ready (rs := [17]) (by kernel_rfl) (by simp) ?_
          refine AllReadyH.cons (o := _) rfl (fun K hK => ?_) AllReadyH.nil
          go_simp
          (go_at_call 95; refine (HSA.out _ _).mono ?_; rintro e wm ⟨rfl, hbm⟩)
          try go_wp2_with fail
          refine hK.out _ _ ?_ (fun hHeld => ?_)
          · (try dsimp only); exact KP.out _ (Below.next (And.left hHeld) hbm)
          clear hK K
          try simp only [Act.put, List.getElem_toArray, List.getElem_cons_succ, List.getElem_cons_zero, List.setIfInBounds_toArray, List.set_cons_zero, List.set_cons_succ]
          have hA := Below.next hA hbm
          obtain ⟨hCl9, c0, c1, c2, c3, cf⟩ := HCC.out.drew.next hA
          have hsl := HSL.out vi
          generalize signAsS vi (dg vi) = sg at *
          refine wpAnyH_take (i := 18) (oi := _) (v := ?v19) rfl (by kernel_rfl) (by kernel_rfl) (by kernel_rfl) (fun _ _ _ h => h) (Or.inl ⟨by kernel_rfl, ?hy19⟩) (by assumption) ?rest19
          case hy19 => (intro w' hSw; (try dsimp only at hSw); go_simp; try with_reducible rfl)
          try simp only [Act.put, List.getElem_toArray, List.getElem_cons_succ, List.getElem_cons_zero, List.setIfInBounds_toArray, List.set_cons_zero, List.set_cons_succ]
          have hbw3 : Below w.heap.size w wm := And.left (by assumption)
          have hzw3 := hbw3.size
          refine wpAnyH_ready (rs := [19]) (by kernel_rfl) (by simp) ?_
          refine AllReadyH.cons (o := _) rfl (fun K hK => ?_) AllReadyH.nil
          go_simp
          refine hK.out _ _ ?_ (fun hHeld => ?_)
          · (try dsimp only); exact KP.out _ (hbw3.alloc hzw3 _)
          clear hK K
          try simp only [Act.put, List.getElem_toArray, List.getElem_cons_succ, List.getElem_cons_zero, List.setIfInBounds_toArray, List.set_cons_zero, List.set_cons_succ]
          have OW := own_below (w := wr.drew) HOWN.out hA
          have HW := HCC.out.drew.next hA
          have HW2 := HRR.out.drew.next hA
          have hCm : C < wm.heap.size := HW.1
          have HOA := OW.alloc (.cells #[.int .i64 vi, .string (S sg)] 85)
          have HWA := HW.alloc (.cells #[.int .i64 vi, .string (S sg)] 85)
          have HWA2 := HW2.alloc (.cells #[.int .i64 vi, .string (S sg)] 85)
          have hbA := hbw3.alloc hzw3 (.cells #[.int .i64 vi, .string (S sg)] 85)
          obtain ⟨hCl8, x0, x1, x2, x3, xf⟩ := _root_.id HWA
          refine wpAnyH_ready (rs := [20]) (by kernel_rfl) (by simp) ?_
          refine AllReadyH.cons (o := _) rfl (fun K hK => ?_) AllReadyH.nil
          refine step_append_lies _ rfl _ _ 31 rfl (C + 1) 85 i0 (.agg #[.int .i64 0, .string ByteArray.empty]) 2 24 Tryd.underlying31 hi hzA hzB hzC rfl (by decide) _ L.length _ rfl HOA ⟨wm.heap.size, 0, none⟩ 1 1 [.int .i64 vi, .string (S sg)] rfl rfl (cells2 (by simp [go_sem]) (by simp [go_sem])) (by intro u hu; simp at hu; rcases hu with rfl | rfl <;> rfl) (by omega) (by unfold maxLen; omega) (by omega) (by simp; omega) _ rfl ?_
          intro g cap w3 hown3 hgr3 hg3 hgl3
          have hb3 : Below w.heap.size w w3 := hbA.grown hgr3 (by simp; omega) (fun q hq => by have := (HOA.lt q hq).1; omega)
          have hgC : C + 1 ≤ g := by
            rcases hg3 with hg3 | hg3
            · exact (HOA.lt g hg3).1
            · have : (wm.alloc (.cells #[.int .i64 vi, .string (S sg)] 85)).heap.size = wm.heap.size + 1 := by simp
              omega
          have HW3 := HWA.grown hgr3 (fun e => by have := (HOA.lt C e).1; omega)
          have HW4 := HWA2.grown hgr3 (fun e => by have := (HOA.lt _ e).1; omega)
          refine hK.out _ _ ?_ (fun hHeld => ?_)
          · (try dsimp only); exact KP.out _ (hb3)
          clear hK K
          try simp only [Act.put, List.getElem_toArray, List.getElem_cons_succ, List.getElem_cons_zero, List.setIfInBounds_toArray, List.set_cons_zero, List.set_cons_succ]
          obtain ⟨y, y0, y1, y2, y3, yf⟩ := _root_.id HW3
          refine wpAnyH_take (i := 21) (oi := _) (v := ?v20) rfl (by kernel_rfl) (by kernel_rfl) (by kernel_rfl) (fun _ _ _ h => h) (Or.inl ⟨by kernel_rfl, ?hy20⟩) (by assumption) ?rest20
          case hy20 => (intro w' hSw; (try dsimp only at hSw); go_simp; try with_reducible rfl)
          try simp only [Act.put, List.getElem_toArray, List.getElem_cons_succ, List.getElem_cons_zero, List.setIfInBounds_toArray, List.set_cons_zero, List.set_cons_succ]
          refine wpAnyH_ready (rs := [22]) (by kernel_rfl) (by simp) ?_
          refine AllReadyH.cons (o := _) rfl (fun K hK => ?_) AllReadyH.nil
          go_simp
          refine hK.out _ _ ?_ (fun hHeld => ?_)
          · (try dsimp only); exact KP.out _ (hb3.setCell (by show w.heap.size ≤ C; omega) _)
          clear hK K
          try simp only [Act.put, List.getElem_toArray, List.getElem_cons_succ, List.getElem_cons_zero, List.setIfInBounds_toArray, List.set_cons_zero, List.set_cons_succ]
          refine wpAnyH_done (by kernel_rfl) ?_ _
          clear hHeld y y0 y1 y2 y3 yf
          have hfo := own_set hown3 (g := C) (fun q hq => by simp [Value.ownBlock] at hq; omega) 3 (.slice (some ⟨g, 0, none⟩) (L.length + 1) cap)
          have hfc := (HW3.set (.slice (some ⟨g, 0, none⟩) (L.length + 1) cap)).2.2.2
          have hfr := HW4.but ((But.refl C w3).set 3 (.slice (some ⟨g, 0, none⟩) (L.length + 1) cap)) (by omega)
          have hfb := hb3.setCell (p := ⟨C, 3, none⟩) (by show w.heap.size ≤ C; omega) (.slice (some ⟨g, 0, none⟩) (L.length + 1) cap)
          go_wp2
          go_roundw
          case rel => exact ⟨L ++ [⟨vi, sg⟩], _, by (rw [List.length_append, List.length_singleton]; omega), by (first | (simp; done) | (simp; omega) | go_num), fun s hs => by (simp at hs; rcases hs with hs | rfl; exact hL8.out s hs; exact hsl), by rw [List.length_append, List.length_singleton, scells_append]; exact hfo, hfc, hfr, hfb⟩
          case measure => simp [intOf]; omega
        · go_simp
          refine hK.out _ _ ?_ (fun hHeld => ?_)
          · (try dsimp only); assumption
          clear hK K
          try simp only [Act.put, List.getElem_toArray, List.getElem_cons_succ, List.getElem_cons_zero, List.setIfInBounds_toArray, List.set_cons_zero, List.set_cons_succ]
          refine wpAnyH_ready (rs := [1, 15]) (by kernel_rfl) (by simp) ?_
          refine AllReadyH.cons (o := _) rfl (fun K hK => ?_) (AllReadyH.cons (o := _) rfl (fun K hK => ?_) AllReadyH.nil)
          · go_simp
            refine hK.out _ _ ?_ (fun hHeld => ?_)
            · (try dsimp only); assumption
            clear hK K
            try simp only [Act.put, List.getElem_toArray, List.getElem_cons_succ, List.getElem_cons_zero, List.setIfInBounds_toArray, List.set_cons_zero, List.set_cons_succ]
            refine wpAnyH_ready (rs := [15]) (by kernel_rfl) (by simp) ?_
            refine AllReadyH.cons (o := _) rfl (fun K hK => ?_) AllReadyH.nil
            go_simp
            (go_at_call 60; refine (l9Vote_flat _ _ _ _ _ _ _ _).mono ?_; rintro e wm ⟨rfl, hbm⟩)
            try go_wp2_with fail
            refine hK.out _ _ ?_ (fun hHeld => ?_)
            · (try dsimp only); exact KP.out _ (Below.next (And.left hHeld) hbm)
            clear hK K
            try simp only [Act.put, List.getElem_toArray, List.getElem_cons_succ, List.getElem_cons_zero, List.setIfInBounds_toArray, List.set_cons_zero, List.set_cons_succ]
            have hA := Below.next hA hbm
            obtain ⟨hCl9, c0, c1, c2, c3, cf⟩ := HCC.out.drew.next hA
            refine wpAnyH_ready (rs := [16]) (by kernel_rfl) (by simp) ?_
            refine AllReadyH.cons (o := _) rfl (fun K hK => ?_) AllReadyH.nil
            go_simp
            (go_at_call 96; refine (HDG.out _ _).mono ?_; rintro e wm ⟨rfl, hbm⟩)
            try go_wp2_with fail
            refine hK.out _ _ ?_ (fun hHeld => ?_)
            · (try dsimp only); exact KP.out _ (Below.next (And.left hHeld) hbm)
            clear hK K
            try simp only [Act.put, List.getElem_toArray, List.getElem_cons_succ, List.getElem_cons_zero, List.setIfInBounds_toArray, List.set_cons_zero, List.set_cons_succ]
            have hA := Below.next hA hbm
            obtain ⟨hCl9, c0, c1, c2, c3, cf⟩ := HCC.out.drew.next hA
            refine wpAnyH_ready (rs := [17]) (by kernel_rfl) (by simp) ?_
            refine AllReadyH.cons (o := _) rfl (fun K hK => ?_) AllReadyH.nil
            go_simp
            (go_at_call 95; refine (HSA.out _ _).mono ?_; rintro e wm ⟨rfl, hbm⟩)
            try go_wp2_with fail
            refine hK.out _ _ ?_ (fun hHeld => ?_)
            · (try dsimp only); exact KP.out _ (Below.next (And.left hHeld) hbm)
            clear hK K
            try simp only [Act.put, List.getElem_toArray, List.getElem_cons_succ, List.getElem_cons_zero, List.setIfInBounds_toArray, List.set_cons_zero, List.set_cons_succ]
            have hA := Below.next hA hbm
            obtain ⟨hCl9, c0, c1, c2, c3, cf⟩ := HCC.out.drew.next hA
            have hsl := HSL.out vi
            generalize signAsS vi (dg vi) = sg at *
            refine wpAnyH_take (i := 18) (oi := _) (v := ?v21) rfl (by kernel_rfl) (by kernel_rfl) (by kernel_rfl) (fun _ _ _ h => h) (Or.inl ⟨by kernel_rfl, ?hy21⟩) (by assumption) ?rest21
            case hy21 => (intro w' hSw; (try dsimp only at hSw); go_simp; try with_reducible rfl)
            try simp only [Act.put, List.getElem_toArray, List.getElem_cons_succ, List.getElem_cons_zero, List.setIfInBounds_toArray, List.set_cons_zero, List.set_cons_succ]
            have hbw3 : Below w.heap.size w wm := And.left (by assumption)
            have hzw3 := hbw3.size
            refine wpAnyH_ready (rs := [19]) (by kernel_rfl) (by simp) ?_
            refine AllReadyH.cons (o := _) rfl (fun K hK => ?_) AllReadyH.nil
            go_simp
            refine hK.out _ _ ?_ (fun hHeld => ?_)
            · (try dsimp only); exact KP.out _ (hbw3.alloc hzw3 _)
            clear hK K
            try simp only [Act.put, List.getElem_toArray, List.getElem_cons_succ, List.getElem_cons_zero, List.setIfInBounds_toArray, List.set_cons_zero, List.set_cons_succ]
            have OW := own_below (w := wr.drew) HOWN.out hA
            have HW := HCC.out.drew.next hA
            have HW2 := HRR.out.drew.next hA
            have hCm : C < wm.heap.size := HW.1
            have HOA := OW.alloc (.cells #[.int .i64 vi, .string (S sg)] 85)
            have HWA := HW.alloc (.cells #[.int .i64 vi, .string (S sg)] 85)
            have HWA2 := HW2.alloc (.cells #[.int .i64 vi, .string (S sg)] 85)
            have hbA := hbw3.alloc hzw3 (.cells #[.int .i64 vi, .string (S sg)] 85)
            obtain ⟨hCl8, x0, x1, x2, x3, xf⟩ := _root_.id HWA
            refine wpAnyH_ready (rs := [20]) (by kernel_rfl) (by simp) ?_
            refine AllReadyH.cons (o := _) rfl (fun K hK => ?_) AllReadyH.nil
            refine step_append_lies _ rfl _ _ 31 rfl (C + 1) 85 i0 (.agg #[.int .i64 0, .string ByteArray.empty]) 2 24 Tryd.underlying31 hi hzA hzB hzC rfl (by decide) _ L.length _ rfl HOA ⟨wm.heap.size, 0, none⟩ 1 1 [.int .i64 vi, .string (S sg)] rfl rfl (cells2 (by simp [go_sem]) (by simp [go_sem])) (by intro u hu; simp at hu; rcases hu with rfl | rfl <;> rfl) (by omega) (by unfold maxLen; omega) (by omega) (by simp; omega) _ rfl ?_
            intro g cap w3 hown3 hgr3 hg3 hgl3
            have hb3 : Below w.heap.size w w3 := hbA.grown hgr3 (by simp; omega) (fun q hq => by have := (HOA.lt q hq).1; omega)
            have hgC : C + 1 ≤ g := by
              rcases hg3 with hg3 | hg3
              · exact (HOA.lt g hg3).1
              · have : (wm.alloc (.cells #[.int .i64 vi, .string (S sg)] 85)).heap.size = wm.heap.size + 1 := by simp
                omega
            have HW3 := HWA.grown hgr3 (fun e => by have := (HOA.lt C e).1; omega)
            have HW4 := HWA2.grown hgr3 (fun e => by have := (HOA.lt _ e).1; omega)
            refine hK.out _ _ ?_ (fun hHeld => ?_)
            · (try dsimp only); exact KP.out _ (hb3)
            clear hK K
            try simp only [Act.put, List.getElem_toArray, List.getElem_cons_succ, List.getElem_cons_zero, List.setIfInBounds_toArray, List.set_cons_zero, List.set_cons_succ]
            obtain ⟨y, y0, y1, y2, y3, yf⟩ := _root_.id HW3
            refine wpAnyH_take (i := 21) (oi := _) (v := ?v22) rfl (by kernel_rfl) (by kernel_rfl) (by kernel_rfl) (fun _ _ _ h => h) (Or.inl ⟨by kernel_rfl, ?hy22⟩) (by assumption) ?rest22
            case hy22 => (intro w' hSw; (try dsimp only at hSw); go_simp; try with_reducible rfl)
            try simp only [Act.put, List.getElem_toArray, List.getElem_cons_succ, List.getElem_cons_zero, List.setIfInBounds_toArray, List.set_cons_zero, List.set_cons_succ]
            refine wpAnyH_ready (rs := [22]) (by kernel_rfl) (by simp) ?_
            refine AllReadyH.cons (o := _) rfl (fun K hK => ?_) AllReadyH.nil
            go_simp
            refine hK.out _ _ ?_ (fun hHeld => ?_)
            · (try dsimp only); exact KP.out _ (hb3.setCell (by show w.heap.size ≤ C; omega) _)
            clear hK K
            try simp only [Act.put, List.getElem_toArray, List.getElem_cons_succ, List.getElem_cons_zero, List.setIfInBounds_toArray, List.set_cons_zero, List.set_cons_succ]
            refine wpAnyH_done (by kernel_rfl) ?_ _
            clear hHeld y y0 y1 y2 y3 yf
            have hfo := own_set hown3 (g := C) (fun q hq => by simp [Value.ownBlock] at hq; omega) 3 (.slice (some ⟨g, 0, none⟩) (L.length + 1) cap)
            have hfc := (HW3.set (.slice (some ⟨g, 0, none⟩) (L.length + 1) cap)).2.2.2
            have hfr := HW4.but ((But.refl C w3).set 3 (.slice (some ⟨g, 0, none⟩) (L.length + 1) cap)) (by omega)
            have hfb := hb3.setCell (p := ⟨C, 3, none⟩) (by show w.heap.size ≤ C; omega) (.slice (some ⟨g, 0, none⟩) (L.length + 1) cap)
            go_wp2
            go_roundw
            case rel => exact ⟨L ++ [⟨vi, sg⟩], _, by (rw [List.length_append, List.length_singleton]; omega), by (first | (simp; done) | (simp; omega) | go_num), fun s hs => by (simp at hs; rcases hs with hs | rfl; exact hL8.out s hs; exact hsl), by rw [List.length_append, List.length_singleton, scells_append]; exact hfo, hfc, hfr, hfb⟩
            case measure => simp [intOf]; omega
          · go_simp
            (go_at_call 60; refine (l9Vote_flat _ _ _ _ _ _ _ _).mono ?_; rintro e wm ⟨rfl, hbm⟩)
            try go_wp2_with fail
            refine hK.out _ _ ?_ (fun hHeld => ?_)
            · (try dsimp only); exact KP.out _ (Below.next (And.left hHeld) hbm)
            clear hK K
            try simp only [Act.put, List.getElem_toArray, List.getElem_cons_succ, List.getElem_cons_zero, List.setIfInBounds_toArray, List.set_cons_zero, List.set_cons_succ]
            have hA := Below.next hA hbm
            obtain ⟨hCl9, c0, c1, c2, c3, cf⟩ := HCC.out.drew.next hA
            refine wpAnyH_ready (rs := [1, 16]) (by kernel_rfl) (by simp) ?_
            refine AllReadyH.cons (o := _) rfl (fun K hK => ?_) (AllReadyH.cons (o := _) rfl (fun K hK => ?_) AllReadyH.nil)
            · go_simp
              refine hK.out _ _ ?_ (fun hHeld => ?_)
              · (try dsimp only); assumption
              clear hK K
              try simp only [Act.put, List.getElem_toArray, List.getElem_cons_succ, List.getElem_cons_zero, List.setIfInBounds_toArray, List.set_cons_zero, List.set_cons_succ]
              refine wpAnyH_ready (rs := [16]) (by kernel_rfl) (by simp) ?_
              refine AllReadyH.cons (o := _) rfl (fun K hK => ?_) AllReadyH.nil
              go_simp
              (go_at_call 96; refine (HDG.out _ _).mono ?_; rintro e wm ⟨rfl, hbm⟩)
              try go_wp2_with fail
              refine hK.out _ _ ?_ (fun hHeld => ?_)
              · (try dsimp only); exact KP.out _ (Below.next (And.left hHeld) hbm)
              clear hK K
              try simp only [Act.put, List.getElem_toArray, List.getElem_cons_succ, List.getElem_cons_zero, List.setIfInBounds_toArray, List.set_cons_zero, List.set_cons_succ]
              have hA := Below.next hA hbm
              obtain ⟨hCl9, c0, c1, c2, c3, cf⟩ := HCC.out.drew.next hA
              refine wpAnyH_ready (rs := [17]) (by kernel_rfl) (by simp) ?_
              refine AllReadyH.cons (o := _) rfl (fun K hK => ?_) AllReadyH.nil
              go_simp
              (go_at_call 95; refine (HSA.out _ _).mono ?_; rintro e wm ⟨rfl, hbm⟩)
              try go_wp2_with fail
              refine hK.out _ _ ?_ (fun hHeld => ?_)
              · (try dsimp only); exact KP.out _ (Below.next (And.left hHeld) hbm)
              clear hK K
              try simp only [Act.put, List.getElem_toArray, List.getElem_cons_succ, List.getElem_cons_zero, List.setIfInBounds_toArray, List.set_cons_zero, List.set_cons_succ]
              have hA := Below.next hA hbm
              obtain ⟨hCl9, c0, c1, c2, c3, cf⟩ := HCC.out.drew.next hA
              have hsl := HSL.out vi
              generalize signAsS vi (dg vi) = sg at *
              refine wpAnyH_take (i := 18) (oi := _) (v := ?v23) rfl (by kernel_rfl) (by kernel_rfl) (by kernel_rfl) (fun _ _ _ h => h) (Or.inl ⟨by kernel_rfl, ?hy23⟩) (by assumption) ?rest23
              case hy23 => (intro w' hSw; (try dsimp only at hSw); go_simp; try with_reducible rfl)
              try simp only [Act.put, List.getElem_toArray, List.getElem_cons_succ, List.getElem_cons_zero, List.setIfInBounds_toArray, List.set_cons_zero, List.set_cons_succ]
              have hbw3 : Below w.heap.size w wm := And.left (by assumption)
              have hzw3 := hbw3.size
              refine wpAnyH_ready (rs := [19]) (by kernel_rfl) (by simp) ?_
              refine AllReadyH.cons (o := _) rfl (fun K hK => ?_) AllReadyH.nil
              go_simp
              refine hK.out _ _ ?_ (fun hHeld => ?_)
              · (try dsimp only); exact KP.out _ (hbw3.alloc hzw3 _)
              clear hK K
              try simp only [Act.put, List.getElem_toArray, List.getElem_cons_succ, List.getElem_cons_zero, List.setIfInBounds_toArray, List.set_cons_zero, List.set_cons_succ]
              have OW := own_below (w := wr.drew) HOWN.out hA
              have HW := HCC.out.drew.next hA
              have HW2 := HRR.out.drew.next hA
              have hCm : C < wm.heap.size := HW.1
              have HOA := OW.alloc (.cells #[.int .i64 vi, .string (S sg)] 85)
              have HWA := HW.alloc (.cells #[.int .i64 vi, .string (S sg)] 85)
              have HWA2 := HW2.alloc (.cells #[.int .i64 vi, .string (S sg)] 85)
              have hbA := hbw3.alloc hzw3 (.cells #[.int .i64 vi, .string (S sg)] 85)
              obtain ⟨hCl8, x0, x1, x2, x3, xf⟩ := _root_.id HWA
              refine wpAnyH_ready (rs := [20]) (by kernel_rfl) (by simp) ?_
              refine AllReadyH.cons (o := _) rfl (fun K hK => ?_) AllReadyH.nil
              refine step_append_lies _ rfl _ _ 31 rfl (C + 1) 85 i0 (.agg #[.int .i64 0, .string ByteArray.empty]) 2 24 Tryd.underlying31 hi hzA hzB hzC rfl (by decide) _ L.length _ rfl HOA ⟨wm.heap.size, 0, none⟩ 1 1 [.int .i64 vi, .string (S sg)] rfl rfl (cells2 (by simp [go_sem]) (by simp [go_sem])) (by intro u hu; simp at hu; rcases hu with rfl | rfl <;> rfl) (by omega) (by unfold maxLen; omega) (by omega) (by simp; omega) _ rfl ?_
              intro g cap w3 hown3 hgr3 hg3 hgl3
              have hb3 : Below w.heap.size w w3 := hbA.grown hgr3 (by simp; omega) (fun q hq => by have := (HOA.lt q hq).1; omega)
              have hgC : C + 1 ≤ g := by
                rcases hg3 with hg3 | hg3
                · exact (HOA.lt g hg3).1
                · have : (wm.alloc (.cells #[.int .i64 vi, .string (S sg)] 85)).heap.size = wm.heap.size + 1 := by simp
                  omega
              have HW3 := HWA.grown hgr3 (fun e => by have := (HOA.lt C e).1; omega)
              have HW4 := HWA2.grown hgr3 (fun e => by have := (HOA.lt _ e).1; omega)
              refine hK.out _ _ ?_ (fun hHeld => ?_)
              · (try dsimp only); exact KP.out _ (hb3)
              clear hK K
              try simp only [Act.put, List.getElem_toArray, List.getElem_cons_succ, List.getElem_cons_zero, List.setIfInBounds_toArray, List.set_cons_zero, List.set_cons_succ]
              obtain ⟨y, y0, y1, y2, y3, yf⟩ := _root_.id HW3
              refine wpAnyH_take (i := 21) (oi := _) (v := ?v24) rfl (by kernel_rfl) (by kernel_rfl) (by kernel_rfl) (fun _ _ _ h => h) (Or.inl ⟨by kernel_rfl, ?hy24⟩) (by assumption) ?rest24
              case hy24 => (intro w' hSw; (try dsimp only at hSw); go_simp; try with_reducible rfl)
              try simp only [Act.put, List.getElem_toArray, List.getElem_cons_succ, List.getElem_cons_zero, List.setIfInBounds_toArray, List.set_cons_zero, List.set_cons_succ]
              refine wpAnyH_ready (rs := [22]) (by kernel_rfl) (by simp) ?_
              refine AllReadyH.cons (o := _) rfl (fun K hK => ?_) AllReadyH.nil
              go_simp
              refine hK.out _ _ ?_ (fun hHeld => ?_)
              · (try dsimp only); exact KP.out _ (hb3.setCell (by show w.heap.size ≤ C; omega) _)
              clear hK K
              try simp only [Act.put, List.getElem_toArray, List.getElem_cons_succ, List.getElem_cons_zero, List.setIfInBounds_toArray, List.set_cons_zero, List.set_cons_succ]
              refine wpAnyH_done (by kernel_rfl) ?_ _
              clear hHeld y y0 y1 y2 y3 yf
              have hfo := own_set hown3 (g := C) (fun q hq => by simp [Value.ownBlock] at hq; omega) 3 (.slice (some ⟨g, 0, none⟩) (L.length + 1) cap)
              have hfc := (HW3.set (.slice (some ⟨g, 0, none⟩) (L.length + 1) cap)).2.2.2
              have hfr := HW4.but ((But.refl C w3).set 3 (.slice (some ⟨g, 0, none⟩) (L.length + 1) cap)) (by omega)
              have hfb := hb3.setCell (p := ⟨C, 3, none⟩) (by show w.heap.size ≤ C; omega) (.slice (some ⟨g, 0, none⟩) (L.length + 1) cap)
              go_wp2
              go_roundw
              case rel => exact ⟨L ++ [⟨vi, sg⟩], _, by (rw [List.length_append, List.length_singleton]; omega), by (first | (simp; done) | (simp; omega) | go_num), fun s hs => by (simp at hs; rcases hs with hs | rfl; exact hL8.out s hs; exact hsl), by rw [List.length_append, List.length_singleton, scells_append]; exact hfo, hfc, hfr, hfb⟩
              case measure => simp [intOf]; omega
            · go_simp
              (go_at_call 96; refine (HDG.out _ _).mono ?_; rintro e wm ⟨rfl, hbm⟩)
              try go_wp2_with fail
              refine hK.out _ _ ?_ (fun hHeld => ?_)
              · (try dsimp only); exact KP.out _ (Below.next (And.left hHeld) hbm)
              clear hK K
              try simp only [Act.put, List.getElem_toArray, List.getElem_cons_succ, List.getElem_cons_zero, List.setIfInBounds_toArray, List.set_cons_zero, List.set_cons_succ]
              have hA := Below.next hA hbm
              obtain ⟨hCl9, c0, c1, c2, c3, cf⟩ := HCC.out.drew.next hA
              refine wpAnyH_ready (rs := [1, 17]) (by kernel_rfl) (by simp) ?_
              refine AllReadyH.cons (o := _) rfl (fun K hK => ?_) (AllReadyH.cons (o := _) rfl (fun K hK => ?_) AllReadyH.nil)
              · go_simp
                refine hK.out _ _ ?_ (fun hHeld => ?_)
                · (try dsimp only); assumption
                clear hK K
                try simp only [Act.put, List.getElem_toArray, List.getElem_cons_succ, List.getElem_cons_zero, List.setIfInBounds_toArray, List.set_cons_zero, List.set_cons_succ]
                refine wpAnyH_ready (rs := [17]) (by kernel_rfl) (by simp) ?_
                refine AllReadyH.cons (o := _) rfl (fun K hK => ?_) AllReadyH.nil
                go_simp
                (go_at_call 95; refine (HSA.out _ _).mono ?_; rintro e wm ⟨rfl, hbm⟩)
                try go_wp2_with fail
                refine hK.out _ _ ?_ (fun hHeld => ?_)
                · (try dsimp only); exact KP.out _ (Below.next (And.left hHeld) hbm)
                clear hK K
                try simp only [Act.put, List.getElem_toArray, List.getElem_cons_succ, List.getElem_cons_zero, List.setIfInBounds_toArray, List.set_cons_zero, List.set_cons_succ]
                have hA := Below.next hA hbm
                obtain ⟨hCl9, c0, c1, c2, c3, cf⟩ := HCC.out.drew.next hA
                have hsl := HSL.out vi
                generalize signAsS vi (dg vi) = sg at *
                refine wpAnyH_take (i := 18) (oi := _) (v := ?v25) rfl (by kernel_rfl) (by kernel_rfl) (by kernel_rfl) (fun _ _ _ h => h) (Or.inl ⟨by kernel_rfl, ?hy25⟩) (by assumption) ?rest25
                case hy25 => (intro w' hSw; (try dsimp only at hSw); go_simp; try with_reducible rfl)
                try simp only [Act.put, List.getElem_toArray, List.getElem_cons_succ, List.getElem_cons_zero, List.setIfInBounds_toArray, List.set_cons_zero, List.set_cons_succ]
                have hbw3 : Below w.heap.size w wm := And.left (by assumption)
                have hzw3 := hbw3.size
                refine wpAnyH_ready (rs := [19]) (by kernel_rfl) (by simp) ?_
                refine AllReadyH.cons (o := _) rfl (fun K hK => ?_) AllReadyH.nil
                go_simp
                refine hK.out _ _ ?_ (fun hHeld => ?_)
                · (try dsimp only); exact KP.out _ (hbw3.alloc hzw3 _)
                clear hK K
                try simp only [Act.put, List.getElem_toArray, List.getElem_cons_succ, List.getElem_cons_zero, List.setIfInBounds_toArray, List.set_cons_zero, List.set_cons_succ]
                have OW := own_below (w := wr.drew) HOWN.out hA
                have HW := HCC.out.drew.next hA
                have HW2 := HRR.out.drew.next hA
                have hCm : C < wm.heap.size := HW.1
                have HOA := OW.alloc (.cells #[.int .i64 vi, .string (S sg)] 85)
                have HWA := HW.alloc (.cells #[.int .i64 vi, .string (S sg)] 85)
                have HWA2 := HW2.alloc (.cells #[.int .i64 vi, .string (S sg)] 85)
                have hbA := hbw3.alloc hzw3 (.cells #[.int .i64 vi, .string (S sg)] 85)
                obtain ⟨hCl8, x0, x1, x2, x3, xf⟩ := _root_.id HWA
                refine wpAnyH_ready (rs := [20]) (by kernel_rfl) (by simp) ?_
                refine AllReadyH.cons (o := _) rfl (fun K hK => ?_) AllReadyH.nil
                refine step_append_lies _ rfl _ _ 31 rfl (C + 1) 85 i0 (.agg #[.int .i64 0, .string ByteArray.empty]) 2 24 Tryd.underlying31 hi hzA hzB hzC rfl (by decide) _ L.length _ rfl HOA ⟨wm.heap.size, 0, none⟩ 1 1 [.int .i64 vi, .string (S sg)] rfl rfl (cells2 (by simp [go_sem]) (by simp [go_sem])) (by intro u hu; simp at hu; rcases hu with rfl | rfl <;> rfl) (by omega) (by unfold maxLen; omega) (by omega) (by simp; omega) _ rfl ?_
                intro g cap w3 hown3 hgr3 hg3 hgl3
                have hb3 : Below w.heap.size w w3 := hbA.grown hgr3 (by simp; omega) (fun q hq => by have := (HOA.lt q hq).1; omega)
                have hgC : C + 1 ≤ g := by
                  rcases hg3 with hg3 | hg3
                  · exact (HOA.lt g hg3).1
                  · have : (wm.alloc (.cells #[.int .i64 vi, .string (S sg)] 85)).heap.size = wm.heap.size + 1 := by simp
                    omega
                have HW3 := HWA.grown hgr3 (fun e => by have := (HOA.lt C e).1; omega)
                have HW4 := HWA2.grown hgr3 (fun e => by have := (HOA.lt _ e).1; omega)
                refine hK.out _ _ ?_ (fun hHeld => ?_)
                · (try dsimp only); exact KP.out _ (hb3)
                clear hK K
                try simp only [Act.put, List.getElem_toArray, List.getElem_cons_succ, List.getElem_cons_zero, List.setIfInBounds_toArray, List.set_cons_zero, List.set_cons_succ]
                obtain ⟨y, y0, y1, y2, y3, yf⟩ := _root_.id HW3
                refine wpAnyH_take (i := 21) (oi := _) (v := ?v26) rfl (by kernel_rfl) (by kernel_rfl) (by kernel_rfl) (fun _ _ _ h => h) (Or.inl ⟨by kernel_rfl, ?hy26⟩) (by assumption) ?rest26
                case hy26 => (intro w' hSw; (try dsimp only at hSw); go_simp; try with_reducible rfl)
                try simp only [Act.put, List.getElem_toArray, List.getElem_cons_succ, List.getElem_cons_zero, List.setIfInBounds_toArray, List.set_cons_zero, List.set_cons_succ]
                refine wpAnyH_ready (rs := [22]) (by kernel_rfl) (by simp) ?_
                refine AllReadyH.cons (o := _) rfl (fun K hK => ?_) AllReadyH.nil
                go_simp
                refine hK.out _ _ ?_ (fun hHeld => ?_)
                · (try dsimp only); exact KP.out _ (hb3.setCell (by show w.heap.size ≤ C; omega) _)
                clear hK K
                try simp only [Act.put, List.getElem_toArray, List.getElem_cons_succ, List.getElem_cons_zero, List.setIfInBounds_toArray, List.set_cons_zero, List.set_cons_succ]
                refine wpAnyH_done (by kernel_rfl) ?_ _
                clear hHeld y y0 y1 y2 y3 yf
                have hfo := own_set hown3 (g := C) (fun q hq => by simp [Value.ownBlock] at hq; omega) 3 (.slice (some ⟨g, 0, none⟩) (L.length + 1) cap)
                have hfc := (HW3.set (.slice (some ⟨g, 0, none⟩) (L.length + 1) cap)).2.2.2
                have hfr := HW4.but ((But.refl C w3).set 3 (.slice (some ⟨g, 0, none⟩) (L.length + 1) cap)) (by omega)
                have hfb := hb3.setCell (p := ⟨C, 3, none⟩) (by show w.heap.size ≤ C; omega) (.slice (some ⟨g, 0, none⟩) (L.length + 1) cap)
                go_wp2
                go_roundw
                case rel => exact ⟨L ++ [⟨vi, sg⟩], _, by (rw [List.length_append, List.length_singleton]; omega), by (first | (simp; done) | (simp; omega) | go_num), fun s hs => by (simp at hs; rcases hs with hs | rfl; exact hL8.out s hs; exact hsl), by rw [List.length_append, List.length_singleton, scells_append]; exact hfo, hfc, hfr, hfb⟩
                case measure => simp [intOf]; omega
              · go_simp
                (go_at_call 95; refine (HSA.out _ _).mono ?_; rintro e wm ⟨rfl, hbm⟩)
                try go_wp2_with fail
                refine hK.out _ _ ?_ (fun hHeld => ?_)
                · (try dsimp only); exact KP.out _ (Below.next (And.left hHeld) hbm)
                clear hK K
                try simp only [Act.put, List.getElem_toArray, List.getElem_cons_succ, List.getElem_cons_zero, List.setIfInBounds_toArray, List.set_cons_zero, List.set_cons_succ]
                have hA := Below.next hA hbm
                obtain ⟨hCl9, c0, c1, c2, c3, cf⟩ := HCC.out.drew.next hA
                have hsl := HSL.out vi
                generalize signAsS vi (dg vi) = sg at *
                refine wpAnyH_take (i := 18) (oi := _) (v := ?v27) rfl (by kernel_rfl) (by kernel_rfl) (by kernel_rfl) (fun _ _ _ h => h) (Or.inl ⟨by kernel_rfl, ?hy27⟩) (by assumption) ?rest27
                case hy27 => (intro w' hSw; (try dsimp only at hSw); go_simp; try with_reducible rfl)
                try simp only [Act.put, List.getElem_toArray, List.getElem_cons_succ, List.getElem_cons_zero, List.setIfInBounds_toArray, List.set_cons_zero, List.set_cons_succ]
                have hbw3 : Below w.heap.size w wm := And.left (by assumption)
                have hzw3 := hbw3.size
                refine wpAnyH_ready (rs := [1, 19]) (by kernel_rfl) (by simp) ?_
                refine AllReadyH.cons (o := _) rfl (fun K hK => ?_) (AllReadyH.cons (o := _) rfl (fun K hK => ?_) AllReadyH.nil)
                · go_simp
                  refine hK.out _ _ ?_ (fun hHeld => ?_)
                  · (try dsimp only); assumption
                  clear hK K
                  try simp only [Act.put, List.getElem_toArray, List.getElem_cons_succ, List.getElem_cons_zero, List.setIfInBounds_toArray, List.set_cons_zero, List.set_cons_succ]
                  refine wpAnyH_ready (rs := [19]) (by kernel_rfl) (by simp) ?_
                  refine AllReadyH.cons (o := _) rfl (fun K hK => ?_) AllReadyH.nil
                  go_simp
                  refine hK.out _ _ ?_ (fun hHeld => ?_)
                  · (try dsimp only); exact KP.out _ (hbw3.alloc hzw3 _)
                  clear hK K
                  try simp only [Act.put, List.getElem_toArray, List.getElem_cons_succ, List.getElem_cons_zero, List.setIfInBounds_toArray, List.set_cons_zero, List.set_cons_succ]
                  have OW := own_below (w := wr.drew) HOWN.out hA
                  have HW := HCC.out.drew.next hA
                  have HW2 := HRR.out.drew.next hA
                  have hCm : C < wm.heap.size := HW.1
                  have HOA := OW.alloc (.cells #[.int .i64 vi, .string (S sg)] 85)
                  have HWA := HW.alloc (.cells #[.int .i64 vi, .string (S sg)] 85)
                  have HWA2 := HW2.alloc (.cells #[.int .i64 vi, .string (S sg)] 85)
                  have hbA := hbw3.alloc hzw3 (.cells #[.int .i64 vi, .string (S sg)] 85)
                  obtain ⟨hCl8, x0, x1, x2, x3, xf⟩ := _root_.id HWA
                  refine wpAnyH_ready (rs := [20]) (by kernel_rfl) (by simp) ?_
                  refine AllReadyH.cons (o := _) rfl (fun K hK => ?_) AllReadyH.nil
                  refine step_append_lies _ rfl _ _ 31 rfl (C + 1) 85 i0 (.agg #[.int .i64 0, .string ByteArray.empty]) 2 24 Tryd.underlying31 hi hzA hzB hzC rfl (by decide) _ L.length _ rfl HOA ⟨wm.heap.size, 0, none⟩ 1 1 [.int .i64 vi, .string (S sg)] rfl rfl (cells2 (by simp [go_sem]) (by simp [go_sem])) (by intro u hu; simp at hu; rcases hu with rfl | rfl <;> rfl) (by omega) (by unfold maxLen; omega) (by omega) (by simp; omega) _ rfl ?_
                  intro g cap w3 hown3 hgr3 hg3 hgl3
                  have hb3 : Below w.heap.size w w3 := hbA.grown hgr3 (by simp; omega) (fun q hq => by have := (HOA.lt q hq).1; omega)
                  have hgC : C + 1 ≤ g := by
                    rcases hg3 with hg3 | hg3
                    · exact (HOA.lt g hg3).1
                    · have : (wm.alloc (.cells #[.int .i64 vi, .string (S sg)] 85)).heap.size = wm.heap.size + 1 := by simp
                      omega
                  have HW3 := HWA.grown hgr3 (fun e => by have := (HOA.lt C e).1; omega)
                  have HW4 := HWA2.grown hgr3 (fun e => by have := (HOA.lt _ e).1; omega)
                  refine hK.out _ _ ?_ (fun hHeld => ?_)
                  · (try dsimp only); exact KP.out _ (hb3)
                  clear hK K
                  try simp only [Act.put, List.getElem_toArray, List.getElem_cons_succ, List.getElem_cons_zero, List.setIfInBounds_toArray, List.set_cons_zero, List.set_cons_succ]
                  obtain ⟨y, y0, y1, y2, y3, yf⟩ := _root_.id HW3
                  refine wpAnyH_take (i := 21) (oi := _) (v := ?v28) rfl (by kernel_rfl) (by kernel_rfl) (by kernel_rfl) (fun _ _ _ h => h) (Or.inl ⟨by kernel_rfl, ?hy28⟩) (by assumption) ?rest28
                  case hy28 => (intro w' hSw; (try dsimp only at hSw); go_simp; try with_reducible rfl)
                  try simp only [Act.put, List.getElem_toArray, List.getElem_cons_succ, List.getElem_cons_zero, List.setIfInBounds_toArray, List.set_cons_zero, List.set_cons_succ]
                  refine wpAnyH_ready (rs := [22]) (by kernel_rfl) (by simp) ?_
                  refine AllReadyH.cons (o := _) rfl (fun K hK => ?_) AllReadyH.nil
                  go_simp
                  refine hK.out _ _ ?_ (fun hHeld => ?_)
                  · (try dsimp only); exact KP.out _ (hb3.setCell (by show w.heap.size ≤ C; omega) _)
                  clear hK K
                  try simp only [Act.put, List.getElem_toArray, List.getElem_cons_succ, List.getElem_cons_zero, List.setIfInBounds_toArray, List.set_cons_zero, List.set_cons_succ]
                  refine wpAnyH_done (by kernel_rfl) ?_ _
                  clear hHeld y y0 y1 y2 y3 yf
                  have hfo := own_set hown3 (g := C) (fun q hq => by simp [Value.ownBlock] at hq; omega) 3 (.slice (some ⟨g, 0, none⟩) (L.length + 1) cap)
                  have hfc := (HW3.set (.slice (some ⟨g, 0, none⟩) (L.length + 1) cap)).2.2.2
                  have hfr := HW4.but ((But.refl C w3).set 3 (.slice (some ⟨g, 0, none⟩) (L.length + 1) cap)) (by omega)
                  have hfb := hb3.setCell (p := ⟨C, 3, none⟩) (by show w.heap.size ≤ C; omega) (.slice (some ⟨g, 0, none⟩) (L.length + 1) cap)
                  go_wp2
                  go_roundw
                  case rel => exact ⟨L ++ [⟨vi, sg⟩], _, by (rw [List.length_append, List.length_singleton]; omega), by (first | (simp; done) | (simp; omega) | go_num), fun s hs => by (simp at hs; rcases hs with hs | rfl; exact hL8.out s hs; exact hsl), by rw [List.length_append, List.length_singleton, scells_append]; exact hfo, hfc, hfr, hfb⟩
                  case measure => simp [intOf]; omega
                · go_simp
                  refine hK.out _ _ ?_ (fun hHeld => ?_)
                  · (try dsimp only); exact KP.out _ (hbw3.alloc hzw3 _)
                  clear hK K
                  try simp only [Act.put, List.getElem_toArray, List.getElem_cons_succ, List.getElem_cons_zero, List.setIfInBounds_toArray, List.set_cons_zero, List.set_cons_succ]
                  have OW := own_below (w := wr.drew) HOWN.out hA
                  have HW := HCC.out.drew.next hA
                  have HW2 := HRR.out.drew.next hA
                  have hCm : C < wm.heap.size := HW.1
                  have HOA := OW.alloc (.cells #[.int .i64 vi, .string (S sg)] 85)
                  have HWA := HW.alloc (.cells #[.int .i64 vi, .string (S sg)] 85)
                  have HWA2 := HW2.alloc (.cells #[.int .i64 vi, .string (S sg)] 85)
                  have hbA := hbw3.alloc hzw3 (.cells #[.int .i64 vi, .string (S sg)] 85)
                  obtain ⟨hCl8, x0, x1, x2, x3, xf⟩ := _root_.id HWA
                  refine wpAnyH_ready (rs := [1]) (by kernel_rfl) (by simp) ?_
                  refine AllReadyH.cons (o := _) rfl (fun K hK => ?_) AllReadyH.nil
                  go_simp
                  refine hK.out _ _ ?_ (fun hHeld => ?_)
                  · (try dsimp only); assumption
                  clear hK K
                  try simp only [Act.put, List.getElem_toArray, List.getElem_cons_succ, List.getElem_cons_zero, List.setIfInBounds_toArray, List.set_cons_zero, List.set_cons_succ]
                  refine wpAnyH_ready (rs := [20]) (by kernel_rfl) (by simp) ?_
                  refine AllReadyH.cons (o := _) rfl (fun K hK => ?_) AllReadyH.nil
                  refine step_append_lies _ rfl _ _ 31 rfl (C + 1) 85 i0 (.agg #[.int .i64 0, .string ByteArray.empty]) 2 24 Tryd.underlying31 hi hzA hzB hzC rfl (by decide) _ L.length _ rfl HOA ⟨wm.heap.size, 0, none⟩ 1 1 [.int .i64 vi, .string (S sg)] rfl rfl (cells2 (by simp [go_sem]) (by simp [go_sem])) (by intro u hu; simp at hu; rcases hu with rfl | rfl <;> rfl) (by omega) (by unfold maxLen; omega) (by omega) (by simp; omega) _ rfl ?_
                  intro g cap w3 hown3 hgr3 hg3 hgl3
                  have hb3 : Below w.heap.size w w3 := hbA.grown hgr3 (by simp; omega) (fun q hq => by have := (HOA.lt q hq).1; omega)
                  have hgC : C + 1 ≤ g := by
                    rcases hg3 with hg3 | hg3
                    · exact (HOA.lt g hg3).1
                    · have : (wm.alloc (.cells #[.int .i64 vi, .string (S sg)] 85)).heap.size = wm.heap.size + 1 := by simp
                      omega
                  have HW3 := HWA.grown hgr3 (fun e => by have := (HOA.lt C e).1; omega)
                  have HW4 := HWA2.grown hgr3 (fun e => by have := (HOA.lt _ e).1; omega)
                  refine hK.out _ _ ?_ (fun hHeld => ?_)
                  · (try dsimp only); exact KP.out _ (hb3)
                  clear hK K
                  try simp only [Act.put, List.getElem_toArray, List.getElem_cons_succ, List.getElem_cons_zero, List.setIfInBounds_toArray, List.set_cons_zero, List.set_cons_succ]
                  obtain ⟨y, y0, y1, y2, y3, yf⟩ := _root_.id HW3
                  refine wpAnyH_take (i := 21) (oi := _) (v := ?v29) rfl (by kernel_rfl) (by kernel_rfl) (by kernel_rfl) (fun _ _ _ h => h) (Or.inl ⟨by kernel_rfl, ?hy29⟩) (by assumption) ?rest29
                  case hy29 => (intro w' hSw; (try dsimp only at hSw); go_simp; try with_reducible rfl)
                  try simp only [Act.put, List.getElem_toArray, List.getElem_cons_succ, List.getElem_cons_zero, List.setIfInBounds_toArray, List.set_cons_zero, List.set_cons_succ]
                  refine wpAnyH_ready (rs := [22]) (by kernel_rfl) (by simp) ?_
                  refine AllReadyH.cons (o := _) rfl (fun K hK => ?_) AllReadyH.nil
                  go_simp
                  refine hK.out _ _ ?_ (fun hHeld => ?_)
                  · (try dsimp only); exact KP.out _ (hb3.setCell (by show w.heap.size ≤ C; omega) _)
                  clear hK K
                  try simp only [Act.put, List.getElem_toArray, List.getElem_cons_succ, List.getElem_cons_zero, List.setIfInBounds_toArray, List.set_cons_zero, List.set_cons_succ]
                  refine wpAnyH_done (by kernel_rfl) ?_ _
                  clear hHeld y y0 y1 y2 y3 yf
                  have hfo := own_set hown3 (g := C) (fun q hq => by simp [Value.ownBlock] at hq; omega) 3 (.slice (some ⟨g, 0, none⟩) (L.length + 1) cap)
                  have hfc := (HW3.set (.slice (some ⟨g, 0, none⟩) (L.length + 1) cap)).2.2.2
                  have hfr := HW4.but ((But.refl C w3).set 3 (.slice (some ⟨g, 0, none⟩) (L.length + 1) cap)) (by omega)
                  have hfb := hb3.setCell (p := ⟨C, 3, none⟩) (by show w.heap.size ≤ C; omega) (.slice (some ⟨g, 0, none⟩) (L.length + 1) cap)
                  go_wp2
                  go_roundw
                  case rel => exact ⟨L ++ [⟨vi, sg⟩], _, by (rw [List.length_append, List.length_singleton]; omega), by (first | (simp; done) | (simp; omega) | go_num), fun s hs => by (simp at hs; rcases hs with hs | rfl; exact hL8.out s hs; exact hsl), by rw [List.length_append, List.length_singleton, scells_append]; exact hfo, hfc, hfr, hfb⟩
                  case measure => simp [intOf]; omega
      · have hkl : L.length = ids.length := by omega
        obtain ⟨hCl2, c0, c1, c2, c3, cf⟩ := _root_.id HCC.out
        obtain ⟨hRl2, r0, r1, r2, r3, rf⟩ := _root_.id HRR.out
        have hCR : ¬ C = w.heap.size + 1 := by omega
        have hRC : ¬ w.heap.size + 1 = C := by omega
        have hne : ∀ q, (Value.slice Av L.length cv).ownBlock = some q → q ≠ w.heap.size + 1 := fun q hq => by have := (HOWN.out.lt q hq).1; omega
        have hob := own_base HOWN.out (base' := w.heap.size) (by omega)
        have hHB := HBR.out
        go_wp2_with fail
        refine bodyPost_ret (v := .agg #[.int .i64 hh, .int .i64 rd, .string (S id), .slice Av L.length cv]) (by simp [results, Tryd.results91, go_sem, *]) rfl ⟨id, L, Av, cv, rfl, hil, hkl, hL8, ?_, ?_⟩
        · repeat (first | with_reducible exact hob | with_reducible refine own_set ?_ hne _ _)
        · repeat (first | with_reducible exact hHB | with_reducible refine Below.setCell ?_ (by first | omega | (simp <;> omega)) _)
  · go_simp
    refine hK.out _ _ ?_ (fun hHeld => ?_)
    · (try dsimp only); exact HK.out _ ((Below.refl _ _).alloc (Nat.le_refl _) _)
    clear hK K
    try simp only [Act.put, List.getElem_toArray, List.getElem_cons_succ, List.getElem_cons_zero, List.setIfInBounds_toArray, List.set_cons_zero, List.set_cons_succ]
    have hN := H4.new W0.drew 33 (.int .i64 0) (.int .i64 0) (.string ⟨#[]⟩) (.slice none 0 0)
    have hzd : W0.drew.heap.size = w.heap.size + 1 + 1 := hz2
    rw [hzd] at hN
    refine wpAnyH_ready (rs := [4]) (by kernel_rfl) (by simp) ?_
    refine AllReadyH.cons (o := _) rfl (fun K hK => ?_) AllReadyH.nil
    go_simp
    (go_at_call 21; refine (HHI.out _).mono ?_; rintro e wm ⟨rfl, hbm⟩)
    try go_wp2_with fail
    refine hK.out _ _ ?_ (fun hHeld => ?_)
    · (try dsimp only); exact HK.out _ (Below.next (And.left hHeld) hbm)
    clear hK K
    try simp only [Act.put, List.getElem_toArray, List.getElem_cons_succ, List.getElem_cons_zero, List.setIfInBounds_toArray, List.set_cons_zero, List.set_cons_succ]
    have hbm' : Below W0.drew.heap.size W0.drew wm := And.left (by assumption)
    obtain ⟨hNl, n0, n1, n2, n3, nf⟩ := hN.next hbm
    refine wpAnyH_take (i := 5) (oi := _) (v := ?v5) rfl (by kernel_rfl) (by kernel_rfl) (by kernel_rfl) (fun _ _ _ h => h) (Or.inl ⟨by kernel_rfl, ?hy5⟩) (by assumption) ?rest5
    case hy5 => (intro w' hSw; (try dsimp only at hSw); go_simp; try with_reducible rfl)
    try simp only [Act.put, List.getElem_toArray, List.getElem_cons_succ, List.getElem_cons_zero, List.setIfInBounds_toArray, List.set_cons_zero, List.set_cons_succ]
    refine wpAnyH_ready (rs := [7]) (by kernel_rfl) (by simp) ?_
    refine AllReadyH.cons (o := _) rfl (fun K hK => ?_) AllReadyH.nil
    go_simp
    refine hK.out _ _ ?_ (fun hHeld => ?_)
    · (try dsimp only); exact HK.out _ (by repeat (first | with_reducible exact hbm' | with_reducible exact Below.refl _ _ | with_reducible refine Below.setCell ?_ (by first | exact hbm'.size | omega | (simp <;> omega)) _ | with_reducible refine Below.alloc ?_ (by first | exact hbm'.size | omega | (simp <;> omega)) _))
    clear hK K
    try simp only [Act.put, List.getElem_toArray, List.getElem_cons_succ, List.getElem_cons_zero, List.setIfInBounds_toArray, List.set_cons_zero, List.set_cons_succ]
    refine wpAnyH_done (by kernel_rfl) ?_ _
    clear hHeld
    have hC := ((((hN.next hbm).set (.int .i64 hh)).1.set (.int .i64 rd)).2.1.set (.string (S id))).2.2.1.set (.slice none 0 0) |>.2.2.2
    have hRW := (H4.next (w := W0.drew) hR0 hbm').but ((((But.refl (w.heap.size + 1 + 1) wm).set 0 (.int .i64 hh)).set 1 (.int .i64 rd)).set 2 (.string (S id)) |>.set 3 (.slice none 0 0)) (by omega)
    have hbw := ((((Below.next hb1.drew hbm').setCell (p := ⟨w.heap.size + 1 + 1, 0, none⟩) (by simp; omega) (.int .i64 hh)).setCell (p := ⟨w.heap.size + 1 + 1, 1, none⟩) (by simp; omega) (.int .i64 rd)).setCell (p := ⟨w.heap.size + 1 + 1, 2, none⟩) (by simp; omega) (.string (S id))).setCell (p := ⟨w.heap.size + 1 + 1, 3, none⟩) (by simp; omega) (.slice none 0 0)
    have hCl : w.heap.size + 1 < w.heap.size + 1 + 1 := by omega
    generalize (((wm.setCell ⟨w.heap.size + 1 + 1, 0, none⟩ (.int .i64 hh)).setCell ⟨w.heap.size + 1 + 1, 1, none⟩ (.int .i64 rd)).setCell ⟨w.heap.size + 1 + 1, 2, none⟩ (.string (S id))).setCell ⟨w.heap.size + 1 + 1, 3, none⟩ (.slice none 0 0) = W1 at *
    clear n0 n1 n2 n3 nf hNl hN hzd hbm' hbm hz2
    generalize w.heap.size + 1 + 1 = C at *
    go_wp2_with fail
    go_loopw [8] (fun i wr => ∃ (L : List SigT) (v : Value), L.length ≤ ids.length ∧ i = .int .i64 (L.length : Int) ∧ Hid (∀ s ∈ L, s.sig.length ≤ 8) ∧ wr.ownsRow (C + 1) 85 2 v L.length (scells L) ∧ H4 wr C (.int .i64 hh) (.int .i64 rd) (.string (S id)) v ∧ H4 wr (w.heap.size + 1) (.int .i64 0) (.int .i64 0) (.string ⟨#[]⟩) (.slice none 0 0) ∧ Below w.heap.size w wr) (fun i _ => ids.length - (intOf i).toNat)
    case atStart => exact ⟨[], _, by simp, rfl, fun s hs => by (simp at hs), own_nil _ _ _ _, hC, hRW, hbw⟩
    case round =>
      obtain ⟨L, v, hkL, rfl, hL8, hown, hCr, hRr, hbr⟩ := hrel
      obtain ⟨Av, cv, rfl⟩ := own_slice hown
      have hki : 0 ≤ (L.length : Int) ∧ (L.length : Int) ≤ ids.length := by omega
      have hzr := hbr.size
      have HOWN := Lib.hid hown
      have HCC := Lib.hid hCr
      have HRR := Lib.hid hRr
      have HBR := Lib.hid hbr
      clear hown hCr hRr hbr hC hRW hbw
      by_cases hlt : L.length < ids.length
      · have hlti : (L.length : Int) < ids.length := by omega
        obtain ⟨b, off, rfl, hbB, hcl⟩ := HIR.out (by omega)
        have k0 := hcl L.length hlt
        clear hcl
        generalize ids[L.length] = vi at *
        have KP := Lib.hid fun (W : World) (hb : Below w.heap.size w W) => (⟨hb, (hb.cell (p := ⟨b, off + L.length, none⟩) hbB).trans k0⟩ : Below w.heap.size w W ∧ W.cell? ⟨b, off + L.length, none⟩ = some (.int .i64 vi))
        obtain ⟨hCl2, c0, c1, c2, c3, cf⟩ := _root_.id HCC.out
        go_wp2_with fail
        refine wp_region_held_drew (S := fun w' => Below w.heap.size w w' ∧ w'.cell? ⟨b, off + L.length, none⟩ = some (.int .i64 vi)) (by kernel_rfl) (by (try dsimp only); exact KP.out _ HBR.out.drew) (fun hHeld => ?_)
        refine wpAnyH_take (i := 0) (oi := _) (v := ?v30) rfl (by kernel_rfl) (by kernel_rfl) (by kernel_rfl) (fun _ _ _ h => h) (Or.inl ⟨by kernel_rfl, ?hy30⟩) (by assumption) ?rest30
        case hy30 => (intro w' hSw; (try dsimp only at hSw); go_simp; try with_reducible rfl)
        try simp only [Act.put, List.getElem_toArray, List.getElem_cons_succ, List.getElem_cons_zero, List.setIfInBounds_toArray, List.set_cons_zero, List.set_cons_succ]
        refine wpAnyH_take (i := 2) (oi := _) (v := ?v31) rfl (by kernel_rfl) (by kernel_rfl) (by kernel_rfl) (fun _ _ _ h => h) (Or.inl ⟨by kernel_rfl, ?hy31⟩) (by assumption) ?rest31
        case hy31 => (intro w' hSw; (try dsimp only at hSw); go_simp; try with_reducible rfl)
        try simp only [Act.put, List.getElem_toArray, List.getElem_cons_succ, List.getElem_cons_zero, List.setIfInBounds_toArray, List.set_cons_zero, List.set_cons_succ]
        refine wpAnyH_take (i := 3) (oi := _) (v := ?v32) rfl (by kernel_rfl) (by kernel_rfl) (by kernel_rfl) (fun _ _ _ h => h) (Or.inl ⟨by kernel_rfl, ?hy32⟩) (by assumption) ?rest32
        case hy32 => (intro w' hSw; (try dsimp only at hSw); go_simp; try with_reducible rfl)
        try simp only [Act.put, List.getElem_toArray, List.getElem_cons_succ, List.getElem_cons_zero, List.setIfInBounds_toArray, List.set_cons_zero, List.set_cons_succ]
        refine wpAnyH_take (i := 4) (oi := _) (v := ?v33) rfl (by kernel_rfl) (by kernel_rfl) (by kernel_rfl) (fun _ _ _ h => h) (Or.inl ⟨by kernel_rfl, ?hy33⟩) (by assumption) ?rest33
        case hy33 => (intro w' hSw; (try dsimp only at hSw); go_simp; try with_reducible rfl)
        try simp only [Act.put, List.getElem_toArray, List.getElem_cons_succ, List.getElem_cons_zero, List.setIfInBounds_toArray, List.set_cons_zero, List.set_cons_succ]
        refine wpAnyH_take (i := 5) (oi := _) (v := ?v34) rfl (by kernel_rfl) (by kernel_rfl) (by kernel_rfl) (fun _ _ _ h => h) (Or.inl ⟨by kernel_rfl, ?hy34⟩) (by assumption) ?rest34
        case hy34 => (intro w' hSw; (try dsimp only at hSw); go_simp; try with_reducible rfl)
        try simp only [Act.put, List.getElem_toArray, List.getElem_cons_succ, List.getElem_cons_zero, List.setIfInBounds_toArray, List.set_cons_zero, List.set_cons_succ]
        refine wpAnyH_take (i := 6) (oi := _) (v := ?v35) rfl (by kernel_rfl) (by kernel_rfl) (by kernel_rfl) (fun _ _ _ h => h) (Or.inl ⟨by kernel_rfl, ?hy35⟩) (by assumption) ?rest35
        case hy35 => (intro w' hSw; (try dsimp only at hSw); go_simp; try with_reducible rfl)
        try simp only [Act.put, List.getElem_toArray, List.getElem_cons_succ, List.getElem_cons_zero, List.setIfInBounds_toArray, List.set_cons_zero, List.set_cons_succ]
        refine wpAnyH_take (i := 7) (oi := _) (v := ?v36) rfl (by kernel_rfl) (by kernel_rfl) (by kernel_rfl) (fun _ _ _ h => h) (Or.inl ⟨by kernel_rfl, ?hy36⟩) (by assumption) ?rest36
        case hy36 => (intro w' hSw; (try dsimp only at hSw); go_simp; try with_reducible rfl)
        try simp only [Act.put, List.getElem_toArray, List.getElem_cons_succ, List.getElem_cons_zero, List.setIfInBounds_toArray, List.set_cons_zero, List.set_cons_succ]
        refine wpAnyH_take (i := 8) (oi := _) (v := ?v37) rfl (by kernel_rfl) (by kernel_rfl) (by kernel_rfl) (fun _ _ _ h => h) (Or.inl ⟨by kernel_rfl, ?hy37⟩) (by assumption) ?rest37
        case hy37 => (intro w' hSw; (try dsimp only at hSw); go_simp; try with_reducible rfl)
        try simp only [Act.put, List.getElem_toArray, List.getElem_cons_succ, List.getElem_cons_zero, List.setIfInBounds_toArray, List.set_cons_zero, List.set_cons_succ]
        refine wpAnyH_take (i := 9) (oi := _) (v := ?v38) rfl (by kernel_rfl) (by kernel_rfl) (by kernel_rfl) (fun _ _ _ h => h) (Or.inl ⟨by kernel_rfl, ?hy38⟩) (by assumption) ?rest38
        case hy38 => (intro w' hSw; (try dsimp only at hSw); go_simp; try with_reducible rfl)
        try simp only [Act.put, List.getElem_toArray, List.getElem_cons_succ, List.getElem_cons_zero, List.setIfInBounds_toArray, List.set_cons_zero, List.set_cons_succ]
        refine wpAnyH_take (i := 11) (oi := _) (v := ?v39) rfl (by kernel_rfl) (by kernel_rfl) (by kernel_rfl) (fun _ _ _ h => h) (Or.inl ⟨by kernel_rfl, ?hy39⟩) (by assumption) ?rest39
        case hy39 => (intro w' hSw; (try dsimp only at hSw); go_simp; try with_reducible rfl)
        try simp only [Act.put, List.getElem_toArray, List.getElem_cons_succ, List.getElem_cons_zero, List.setIfInBounds_toArray, List.set_cons_zero, List.set_cons_succ]
        refine wpAnyH_take (i := 12) (oi := _) (v := ?v40) rfl (by kernel_rfl) (by kernel_rfl) (by kernel_rfl) (fun _ _ _ h => h) (Or.inl ⟨by kernel_rfl, ?hy40⟩) (by assumption) ?rest40
        case hy40 => (intro w' hSw; (try dsimp only at hSw); go_simp; try with_reducible rfl)
        try simp only [Act.put, List.getElem_toArray, List.getElem_cons_succ, List.getElem_cons_zero, List.setIfInBounds_toArray, List.set_cons_zero, List.set_cons_succ]
        refine wpAnyH_take (i := 13) (oi := _) (v := ?v41) rfl (by kernel_rfl) (by kernel_rfl) (by kernel_rfl) (fun _ _ _ h => h) (Or.inl ⟨by kernel_rfl, ?hy41⟩) (by assumption) ?rest41
        case hy41 => (intro w' hSw; (try dsimp only at hSw); go_simp; try with_reducible rfl)
        try simp only [Act.put, List.getElem_toArray, List.getElem_cons_succ, List.getElem_cons_zero, List.setIfInBounds_toArray, List.set_cons_zero, List.set_cons_succ]
        refine wpAnyH_take (i := 14) (oi := _) (v := ?v42) rfl (by kernel_rfl) (by kernel_rfl) (by kernel_rfl) (fun _ _ _ h => h) (Or.inl ⟨by kernel_rfl, ?hy42⟩) (by assumption) ?rest42
        case hy42 => (intro w' hSw; (try dsimp only at hSw); go_simp; try with_reducible rfl)
        try simp only [Act.put, List.getElem_toArray, List.getElem_cons_succ, List.getElem_cons_zero, List.setIfInBounds_toArray, List.set_cons_zero, List.set_cons_succ]
        have hA := Below.refl wr.drew.heap.size wr.drew
        refine wpAnyH_ready (rs := [1, 10]) (by kernel_rfl) (by simp) ?_
        refine AllReadyH.cons (o := _) rfl (fun K hK => ?_) (AllReadyH.cons (o := _) rfl (fun K hK => ?_) AllReadyH.nil)
        · go_simp
          refine hK.out _ _ ?_ (fun hHeld => ?_)
          · (try dsimp only); assumption
          clear hK K
          try simp only [Act.put, List.getElem_toArray, List.getElem_cons_succ, List.getElem_cons_zero, List.setIfInBounds_toArray, List.set_cons_zero, List.set_cons_succ]
          refine wpAnyH_ready (rs := [10]) (by kernel_rfl) (by simp) ?_
          refine AllReadyH.cons (o := _) rfl (fun K hK => ?_) AllReadyH.nil
          go_simp
          refine hK.out _ _ ?_ (fun hHeld => ?_)
          · (try dsimp only); assumption
          clear hK K
          try simp only [Act.put, List.getElem_toArray, List.getElem_cons_succ, List.getElem_cons_zero, List.setIfInBounds_toArray, List.set_cons_zero, List.set_cons_succ]
          refine wpAnyH_ready (rs := [15]) (by kernel_rfl) (by simp) ?_
          refine AllReadyH.cons (o := _) rfl (fun K hK => ?_) AllReadyH.nil
          go_simp
          (go_at_call 60; refine (l9Vote_flat _ _ _ _ _ _ _ _).mono ?_; rintro e wm ⟨rfl, hbm⟩)
          try go_wp2_with fail
          refine hK.out _ _ ?_ (fun hHeld => ?_)
          · (try dsimp only); exact KP.out _ (Below.next (And.left hHeld) hbm)
          clear hK K
          try simp only [Act.put, List.getElem_toArray, List.getElem_cons_succ, List.getElem_cons_zero, List.setIfInBounds_toArray, List.set_cons_zero, List.set_cons_succ]
          have hA := Below.next hA hbm
          obtain ⟨hCl9, c0, c1, c2, c3, cf⟩ := HCC.out.drew.next hA
          refine wpAnyH_ready (rs := [16]) (by kernel_rfl) (by simp) ?_
          refine AllReadyH.cons (o := _) rfl (fun K hK => ?_) AllReadyH.nil
          go_simp
          (go_at_call 96; refine (HDG.out _ _).mono ?_; rintro e wm ⟨rfl, hbm⟩)
          try go_wp2_with fail
          refine hK.out _ _ ?_ (fun hHeld => ?_)
          · (try dsimp only); exact KP.out _ (Below.next (And.left hHeld) hbm)
          clear hK K
          try simp only [Act.put, List.getElem_toArray, List.getElem_cons_succ, List.getElem_cons_zero, List.setIfInBounds_toArray, List.set_cons_zero, List.set_cons_succ]
          have hA := Below.next hA hbm
          obtain ⟨hCl9, c0, c1, c2, c3, cf⟩ := HCC.out.drew.next hA
          refine wpAnyH_ready (rs := [17]) (by kernel_rfl) (by simp) ?_
          refine AllReadyH.cons (o := _) rfl (fun K hK => ?_) AllReadyH.nil
          go_simp
          (go_at_call 95; refine (HSA.out _ _).mono ?_; rintro e wm ⟨rfl, hbm⟩)
          try go_wp2_with fail
          refine hK.out _ _ ?_ (fun hHeld => ?_)
          · (try dsimp only); exact KP.out _ (Below.next (And.left hHeld) hbm)
          clear hK K
          try simp only [Act.put, List.getElem_toArray, List.getElem_cons_succ, List.getElem_cons_zero, List.setIfInBounds_toArray, List.set_cons_zero, List.set_cons_succ]
          have hA := Below.next hA hbm
          obtain ⟨hCl9, c0, c1, c2, c3, cf⟩ := HCC.out.drew.next hA
          have hsl := HSL.out vi
          generalize signAsS vi (dg vi) = sg at *
          refine wpAnyH_take (i := 18) (oi := _) (v := ?v43) rfl (by kernel_rfl) (by kernel_rfl) (by kernel_rfl) (fun _ _ _ h => h) (Or.inl ⟨by kernel_rfl, ?hy43⟩) (by assumption) ?rest43
          case hy43 => (intro w' hSw; (try dsimp only at hSw); go_simp; try with_reducible rfl)
          try simp only [Act.put, List.getElem_toArray, List.getElem_cons_succ, List.getElem_cons_zero, List.setIfInBounds_toArray, List.set_cons_zero, List.set_cons_succ]
          have hbw3 : Below w.heap.size w wm := And.left (by assumption)
          have hzw3 := hbw3.size
          refine wpAnyH_ready (rs := [19]) (by kernel_rfl) (by simp) ?_
          refine AllReadyH.cons (o := _) rfl (fun K hK => ?_) AllReadyH.nil
          go_simp
          refine hK.out _ _ ?_ (fun hHeld => ?_)
          · (try dsimp only); exact KP.out _ (hbw3.alloc hzw3 _)
          clear hK K
          try simp only [Act.put, List.getElem_toArray, List.getElem_cons_succ, List.getElem_cons_zero, List.setIfInBounds_toArray, List.set_cons_zero, List.set_cons_succ]
          have OW := own_below (w := wr.drew) HOWN.out hA
          have HW := HCC.out.drew.next hA
          have HW2 := HRR.out.drew.next hA
          have hCm : C < wm.heap.size := HW.1
          have HOA := OW.alloc (.cells #[.int .i64 vi, .string (S sg)] 85)
          have HWA := HW.alloc (.cells #[.int .i64 vi, .string (S sg)] 85)
          have HWA2 := HW2.alloc (.cells #[.int .i64 vi, .string (S sg)] 85)
          have hbA := hbw3.alloc hzw3 (.cells #[.int .i64 vi, .string (S sg)] 85)
          obtain ⟨hCl8, x0, x1, x2, x3, xf⟩ := _root_.id HWA
          refine wpAnyH_ready (rs := [20]) (by kernel_rfl) (by simp) ?_
          refine AllReadyH.cons (o := _) rfl (fun K hK => ?_) AllReadyH.nil
          refine step_append_lies _ rfl _ _ 31 rfl (C + 1) 85 i0 (.agg #[.int .i64 0, .string ByteArray.empty]) 2 24 Tryd.underlying31 hi hzA hzB hzC rfl (by decide) _ L.length _ rfl HOA ⟨wm.heap.size, 0, none⟩ 1 1 [.int .i64 vi, .string (S sg)] rfl rfl (cells2 (by simp [go_sem]) (by simp [go_sem])) (by intro u hu; simp at hu; rcases hu with rfl | rfl <;> rfl) (by omega) (by unfold maxLen; omega) (by omega) (by simp; omega) _ rfl ?_
          intro g cap w3 hown3 hgr3 hg3 hgl3
          have hb3 : Below w.heap.size w w3 := hbA.grown hgr3 (by simp; omega) (fun q hq => by have := (HOA.lt q hq).1; omega)
          have hgC : C + 1 ≤ g := by
            rcases hg3 with hg3 | hg3
            · exact (HOA.lt g hg3).1
            · have : (wm.alloc (.cells #[.int .i64 vi, .string (S sg)] 85)).heap.size = wm.heap.size + 1 := by simp
              omega
          have HW3 := HWA.grown hgr3 (fun e => by have := (HOA.lt C e).1; omega)
          have HW4 := HWA2.grown hgr3 (fun e => by have := (HOA.lt _ e).1; omega)
          refine hK.out _ _ ?_ (fun hHeld => ?_)
          · (try dsimp only); exact KP.out _ (hb3)
          clear hK K
          try simp only [Act.put, List.getElem_toArray, List.getElem_cons_succ, List.getElem_cons_zero, List.setIfInBounds_toArray, List.set_cons_zero, List.set_cons_succ]
          obtain ⟨y, y0, y1, y2, y3, yf⟩ := _root_.id HW3
          refine wpAnyH_take (i := 21) (oi := _) (v := ?v44) rfl (by kernel_rfl) (by kernel_rfl) (by kernel_rfl) (fun _ _ _ h => h) (Or.inl ⟨by kernel_rfl, ?hy44⟩) (by assumption) ?rest44
          case hy44 => (intro w' hSw; (try dsimp only at hSw); go_simp; try with_reducible rfl)
          try simp only [Act.put, List.getElem_toArray, List.getElem_cons_succ, List.getElem_cons_zero, List.setIfInBounds_toArray, List.set_cons_zero, List.set_cons_succ]
          refine wpAnyH_ready (rs := [22]) (by kernel_rfl) (by simp) ?_
          refine AllReadyH.cons (o := _) rfl (fun K hK => ?_) AllReadyH.nil
          go_simp
          refine hK.out _ _ ?_ (fun hHeld => ?_)
          · (try dsimp only); exact KP.out _ (hb3.setCell (by show w.heap.size ≤ C; omega) _)
          clear hK K
          try simp only [Act.put, List.getElem_toArray, List.getElem_cons_succ, List.getElem_cons_zero, List.setIfInBounds_toArray, List.set_cons_zero, List.set_cons_succ]
          refine wpAnyH_done (by kernel_rfl) ?_ _
          clear hHeld y y0 y1 y2 y3 yf
          have hfo := own_set hown3 (g := C) (fun q hq => by simp [Value.ownBlock] at hq; omega) 3 (.slice (some ⟨g, 0, none⟩) (L.length + 1) cap)
          have hfc := (HW3.set (.slice (some ⟨g, 0, none⟩) (L.length + 1) cap)).2.2.2
          have hfr := HW4.but ((But.refl C w3).set 3 (.slice (some ⟨g, 0, none⟩) (L.length + 1) cap)) (by omega)
          have hfb := hb3.setCell (p := ⟨C, 3, none⟩) (by show w.heap.size ≤ C; omega) (.slice (some ⟨g, 0, none⟩) (L.length + 1) cap)
          go_wp2
          go_roundw
          case rel => exact ⟨L ++ [⟨vi, sg⟩], _, by (rw [List.length_append, List.length_singleton]; omega), by (first | (simp; done) | (simp; omega) | go_num), fun s hs => by (simp at hs; rcases hs with hs | rfl; exact hL8.out s hs; exact hsl), by rw [List.length_append, List.length_singleton, scells_append]; exact hfo, hfc, hfr, hfb⟩
          case measure => simp [intOf]; omega
        · go_simp
          refine hK.out _ _ ?_ (fun hHeld => ?_)
          · (try dsimp only); assumption
          clear hK K
          try simp only [Act.put, List.getElem_toArray, List.getElem_cons_succ, List.getElem_cons_zero, List.setIfInBounds_toArray, List.set_cons_zero, List.set_cons_succ]
          refine wpAnyH_ready (rs := [1, 15]) (by kernel_rfl) (by simp) ?_
          refine AllReadyH.cons (o := _) rfl (fun K hK => ?_) (AllReadyH.cons (o := _) rfl (fun K hK => ?_) AllReadyH.nil)
          · go_simp
            refine hK.out _ _ ?_ (fun hHeld => ?_)
            · (try dsimp only); assumption
            clear hK K
            try simp only [Act.put, List.getElem_toArray, List.getElem_cons_succ, List.getElem_cons_zero, List.setIfInBounds_toArray, List.set_cons_zero, List.set_cons_succ]
            refine wpAnyH_ready (rs := [15]) (by kernel_rfl) (by simp) ?_
            refine AllReadyH.cons (o := _) rfl (fun K hK => ?_) AllReadyH.nil
            go_simp
            (go_at_call 60; refine (l9Vote_flat _ _ _ _ _ _ _ _).mono ?_; rintro e wm ⟨rfl, hbm⟩)
            try go_wp2_with fail
            refine hK.out _ _ ?_ (fun hHeld => ?_)
            · (try dsimp only); exact KP.out _ (Below.next (And.left hHeld) hbm)
            clear hK K
            try simp only [Act.put, List.getElem_toArray, List.getElem_cons_succ, List.getElem_cons_zero, List.setIfInBounds_toArray, List.set_cons_zero, List.set_cons_succ]
            have hA := Below.next hA hbm
            obtain ⟨hCl9, c0, c1, c2, c3, cf⟩ := HCC.out.drew.next hA
            refine wpAnyH_ready (rs := [16]) (by kernel_rfl) (by simp) ?_
            refine AllReadyH.cons (o := _) rfl (fun K hK => ?_) AllReadyH.nil
            go_simp
            (go_at_call 96; refine (HDG.out _ _).mono ?_; rintro e wm ⟨rfl, hbm⟩)
            try go_wp2_with fail
            refine hK.out _ _ ?_ (fun hHeld => ?_)
            · (try dsimp only); exact KP.out _ (Below.next (And.left hHeld) hbm)
            clear hK K
            try simp only [Act.put, List.getElem_toArray, List.getElem_cons_succ, List.getElem_cons_zero, List.setIfInBounds_toArray, List.set_cons_zero, List.set_cons_succ]
            have hA := Below.next hA hbm
            obtain ⟨hCl9, c0, c1, c2, c3, cf⟩ := HCC.out.drew.next hA
            refine wpAnyH_ready (rs := [17]) (by kernel_rfl) (by simp) ?_
            refine AllReadyH.cons (o := _) rfl (fun K hK => ?_) AllReadyH.nil
            go_simp
            (go_at_call 95; refine (HSA.out _ _).mono ?_; rintro e wm ⟨rfl, hbm⟩)
            try go_wp2_with fail
            refine hK.out _ _ ?_ (fun hHeld => ?_)
            · (try dsimp only); exact KP.out _ (Below.next (And.left hHeld) hbm)
            clear hK K
            try simp only [Act.put, List.getElem_toArray, List.getElem_cons_succ, List.getElem_cons_zero, List.setIfInBounds_toArray, List.set_cons_zero, List.set_cons_succ]
            have hA := Below.next hA hbm
            obtain ⟨hCl9, c0, c1, c2, c3, cf⟩ := HCC.out.drew.next hA
            have hsl := HSL.out vi
            generalize signAsS vi (dg vi) = sg at *
            refine wpAnyH_take (i := 18) (oi := _) (v := ?v45) rfl (by kernel_rfl) (by kernel_rfl) (by kernel_rfl) (fun _ _ _ h => h) (Or.inl ⟨by kernel_rfl, ?hy45⟩) (by assumption) ?rest45
            case hy45 => (intro w' hSw; (try dsimp only at hSw); go_simp; try with_reducible rfl)
            try simp only [Act.put, List.getElem_toArray, List.getElem_cons_succ, List.getElem_cons_zero, List.setIfInBounds_toArray, List.set_cons_zero, List.set_cons_succ]
            have hbw3 : Below w.heap.size w wm := And.left (by assumption)
            have hzw3 := hbw3.size
            refine wpAnyH_ready (rs := [19]) (by kernel_rfl) (by simp) ?_
            refine AllReadyH.cons (o := _) rfl (fun K hK => ?_) AllReadyH.nil
            go_simp
            refine hK.out _ _ ?_ (fun hHeld => ?_)
            · (try dsimp only); exact KP.out _ (hbw3.alloc hzw3 _)
            clear hK K
            try simp only [Act.put, List.getElem_toArray, List.getElem_cons_succ, List.getElem_cons_zero, List.setIfInBounds_toArray, List.set_cons_zero, List.set_cons_succ]
            have OW := own_below (w := wr.drew) HOWN.out hA
            have HW := HCC.out.drew.next hA
            have HW2 := HRR.out.drew.next hA
            have hCm : C < wm.heap.size := HW.1
            have HOA := OW.alloc (.cells #[.int .i64 vi, .string (S sg)] 85)
            have HWA := HW.alloc (.cells #[.int .i64 vi, .string (S sg)] 85)
            have HWA2 := HW2.alloc (.cells #[.int .i64 vi, .string (S sg)] 85)
            have hbA := hbw3.alloc hzw3 (.cells #[.int .i64 vi, .string (S sg)] 85)
            obtain ⟨hCl8, x0, x1, x2, x3, xf⟩ := _root_.id HWA
            refine wpAnyH_ready (rs := [20]) (by kernel_rfl) (by simp) ?_
            refine AllReadyH.cons (o := _) rfl (fun K hK => ?_) AllReadyH.nil
            refine step_append_lies _ rfl _ _ 31 rfl (C + 1) 85 i0 (.agg #[.int .i64 0, .string ByteArray.empty]) 2 24 Tryd.underlying31 hi hzA hzB hzC rfl (by decide) _ L.length _ rfl HOA ⟨wm.heap.size, 0, none⟩ 1 1 [.int .i64 vi, .string (S sg)] rfl rfl (cells2 (by simp [go_sem]) (by simp [go_sem])) (by intro u hu; simp at hu; rcases hu with rfl | rfl <;> rfl) (by omega) (by unfold maxLen; omega) (by omega) (by simp; omega) _ rfl ?_
            intro g cap w3 hown3 hgr3 hg3 hgl3
            have hb3 : Below w.heap.size w w3 := hbA.grown hgr3 (by simp; omega) (fun q hq => by have := (HOA.lt q hq).1; omega)
            have hgC : C + 1 ≤ g := by
              rcases hg3 with hg3 | hg3
              · exact (HOA.lt g hg3).1
              · have : (wm.alloc (.cells #[.int .i64 vi, .string (S sg)] 85)).heap.size = wm.heap.size + 1 := by simp
                omega
            have HW3 := HWA.grown hgr3 (fun e => by have := (HOA.lt C e).1; omega)
            have HW4 := HWA2.grown hgr3 (fun e => by have := (HOA.lt _ e).1; omega)
            refine hK.out _ _ ?_ (fun hHeld => ?_)
            · (try dsimp only); exact KP.out _ (hb3)
            clear hK K
            try simp only [Act.put, List.getElem_toArray, List.getElem_cons_succ, List.getElem_cons_zero, List.setIfInBounds_toArray, List.set_cons_zero, List.set_cons_succ]
            obtain ⟨y, y0, y1, y2, y3, yf⟩ := _root_.id HW3
            refine wpAnyH_take (i := 21) (oi := _) (v := ?v46) rfl (by kernel_rfl) (by kernel_rfl) (by kernel_rfl) (fun _ _ _ h => h) (Or.inl ⟨by kernel_rfl, ?hy46⟩) (by assumption) ?rest46
            case hy46 => (intro w' hSw; (try dsimp only at hSw); go_simp; try with_reducible rfl)
            try simp only [Act.put, List.getElem_toArray, List.getElem_cons_succ, List.getElem_cons_zero, List.setIfInBounds_toArray, List.set_cons_zero, List.set_cons_succ]
            refine wpAnyH_ready (rs := [22]) (by kernel_rfl) (by simp) ?_
            refine AllReadyH.cons (o := _) rfl (fun K hK => ?_) AllReadyH.nil
            go_simp
            refine hK.out _ _ ?_ (fun hHeld => ?_)
            · (try dsimp only); exact KP.out _ (hb3.setCell (by show w.heap.size ≤ C; omega) _)
            clear hK K
            try simp only [Act.put, List.getElem_toArray, List.getElem_cons_succ, List.getElem_cons_zero, List.setIfInBounds_toArray, List.set_cons_zero, List.set_cons_succ]
            refine wpAnyH_done (by kernel_rfl) ?_ _
            clear hHeld y y0 y1 y2 y3 yf
            have hfo := own_set hown3 (g := C) (fun q hq => by simp [Value.ownBlock] at hq; omega) 3 (.slice (some ⟨g, 0, none⟩) (L.length + 1) cap)
            have hfc := (HW3.set (.slice (some ⟨g, 0, none⟩) (L.length + 1) cap)).2.2.2
            have hfr := HW4.but ((But.refl C w3).set 3 (.slice (some ⟨g, 0, none⟩) (L.length + 1) cap)) (by omega)
            have hfb := hb3.setCell (p := ⟨C, 3, none⟩) (by show w.heap.size ≤ C; omega) (.slice (some ⟨g, 0, none⟩) (L.length + 1) cap)
            go_wp2
            go_roundw
            case rel => exact ⟨L ++ [⟨vi, sg⟩], _, by (rw [List.length_append, List.length_singleton]; omega), by (first | (simp; done) | (simp; omega) | go_num), fun s hs => by (simp at hs; rcases hs with hs | rfl; exact hL8.out s hs; exact hsl), by rw [List.length_append, List.length_singleton, scells_append]; exact hfo, hfc, hfr, hfb⟩
            case measure => simp [intOf]; omega
          · go_simp
            (go_at_call 60; refine (l9Vote_flat _ _ _ _ _ _ _ _).mono ?_; rintro e wm ⟨rfl, hbm⟩)
            try go_wp2_with fail
            refine hK.out _ _ ?_ (fun hHeld => ?_)
            · (try dsimp only); exact KP.out _ (Below.next (And.left hHeld) hbm)
            clear hK K
            try simp only [Act.put, List.getElem_toArray, List.getElem_cons_succ, List.getElem_cons_zero, List.setIfInBounds_toArray, List.set_cons_zero, List.set_cons_succ]
            have hA := Below.next hA hbm
            obtain ⟨hCl9, c0, c1, c2, c3, cf⟩ := HCC.out.drew.next hA
            refine wpAnyH_ready (rs := [1, 16]) (by kernel_rfl) (by simp) ?_
            refine AllReadyH.cons (o := _) rfl (fun K hK => ?_) (AllReadyH.cons (o := _) rfl (fun K hK => ?_) AllReadyH.nil)
            · go_simp
              refine hK.out _ _ ?_ (fun hHeld => ?_)
              · (try dsimp only); assumption
              clear hK K
              try simp only [Act.put, List.getElem_toArray, List.getElem_cons_succ, List.getElem_cons_zero, List.setIfInBounds_toArray, List.set_cons_zero, List.set_cons_succ]
              refine wpAnyH_ready (rs := [16]) (by kernel_rfl) (by simp) ?_
              refine AllReadyH.cons (o := _) rfl (fun K hK => ?_) AllReadyH.nil
              go_simp
              (go_at_call 96; refine (HDG.out _ _).mono ?_; rintro e wm ⟨rfl, hbm⟩)
              try go_wp2_with fail
              refine hK.out _ _ ?_ (fun hHeld => ?_)
              · (try dsimp only); exact KP.out _ (Below.next (And.left hHeld) hbm)
              clear hK K
              try simp only [Act.put, List.getElem_toArray, List.getElem_cons_succ, List.getElem_cons_zero, List.setIfInBounds_toArray, List.set_cons_zero, List.set_cons_succ]
              have hA := Below.next hA hbm
              obtain ⟨hCl9, c0, c1, c2, c3, cf⟩ := HCC.out.drew.next hA
              refine wpAnyH_ready (rs := [17]) (by kernel_rfl) (by simp) ?_
              refine AllReadyH.cons (o := _) rfl (fun K hK => ?_) AllReadyH.nil
              go_simp
              (go_at_call 95; refine (HSA.out _ _).mono ?_; rintro e wm ⟨rfl, hbm⟩)
              try go_wp2_with fail
              refine hK.out _ _ ?_ (fun hHeld => ?_)
              · (try dsimp only); exact KP.out _ (Below.next (And.left hHeld) hbm)
              clear hK K
              try simp only [Act.put, List.getElem_toArray, List.getElem_cons_succ, List.getElem_cons_zero, List.setIfInBounds_toArray, List.set_cons_zero, List.set_cons_succ]
              have hA := Below.next hA hbm
              obtain ⟨hCl9, c0, c1, c2, c3, cf⟩ := HCC.out.drew.next hA
              have hsl := HSL.out vi
              generalize signAsS vi (dg vi) = sg at *
              refine wpAnyH_take (i := 18) (oi := _) (v := ?v47) rfl (by kernel_rfl) (by kernel_rfl) (by kernel_rfl) (fun _ _ _ h => h) (Or.inl ⟨by kernel_rfl, ?hy47⟩) (by assumption) ?rest47
              case hy47 => (intro w' hSw; (try dsimp only at hSw); go_simp; try with_reducible rfl)
              try simp only [Act.put, List.getElem_toArray, List.getElem_cons_succ, List.getElem_cons_zero, List.setIfInBounds_toArray, List.set_cons_zero, List.set_cons_succ]
              have hbw3 : Below w.heap.size w wm := And.left (by assumption)
              have hzw3 := hbw3.size
              refine wpAnyH_ready (rs := [19]) (by kernel_rfl) (by simp) ?_
              refine AllReadyH.cons (o := _) rfl (fun K hK => ?_) AllReadyH.nil
              go_simp
              refine hK.out _ _ ?_ (fun hHeld => ?_)
              · (try dsimp only); exact KP.out _ (hbw3.alloc hzw3 _)
              clear hK K
              try simp only [Act.put, List.getElem_toArray, List.getElem_cons_succ, List.getElem_cons_zero, List.setIfInBounds_toArray, List.set_cons_zero, List.set_cons_succ]
              have OW := own_below (w := wr.drew) HOWN.out hA
              have HW := HCC.out.drew.next hA
              have HW2 := HRR.out.drew.next hA
              have hCm : C < wm.heap.size := HW.1
              have HOA := OW.alloc (.cells #[.int .i64 vi, .string (S sg)] 85)
              have HWA := HW.alloc (.cells #[.int .i64 vi, .string (S sg)] 85)
              have HWA2 := HW2.alloc (.cells #[.int .i64 vi, .string (S sg)] 85)
              have hbA := hbw3.alloc hzw3 (.cells #[.int .i64 vi, .string (S sg)] 85)
              obtain ⟨hCl8, x0, x1, x2, x3, xf⟩ := _root_.id HWA
              refine wpAnyH_ready (rs := [20]) (by kernel_rfl) (by simp) ?_
              refine AllReadyH.cons (o := _) rfl (fun K hK => ?_) AllReadyH.nil
              refine step_append_lies _ rfl _ _ 31 rfl (C + 1) 85 i0 (.agg #[.int .i64 0, .string ByteArray.empty]) 2 24 Tryd.underlying31 hi hzA hzB hzC rfl (by decide) _ L.length _ rfl HOA ⟨wm.heap.size, 0, none⟩ 1 1 [.int .i64 vi, .string (S sg)] rfl rfl (cells2 (by simp [go_sem]) (by simp [go_sem])) (by intro u hu; simp at hu; rcases hu with rfl | rfl <;> rfl) (by omega) (by unfold maxLen; omega) (by omega) (by simp; omega) _ rfl ?_
              intro g cap w3 hown3 hgr3 hg3 hgl3
              have hb3 : Below w.heap.size w w3 := hbA.grown hgr3 (by simp; omega) (fun q hq => by have := (HOA.lt q hq).1; omega)
              have hgC : C + 1 ≤ g := by
                rcases hg3 with hg3 | hg3
                · exact (HOA.lt g hg3).1
                · have : (wm.alloc (.cells #[.int .i64 vi, .string (S sg)] 85)).heap.size = wm.heap.size + 1 := by simp
                  omega
              have HW3 := HWA.grown hgr3 (fun e => by have := (HOA.lt C e).1; omega)
              have HW4 := HWA2.grown hgr3 (fun e => by have := (HOA.lt _ e).1; omega)
              refine hK.out _ _ ?_ (fun hHeld => ?_)
              · (try dsimp only); exact KP.out _ (hb3)
              clear hK K
              try simp only [Act.put, List.getElem_toArray, List.getElem_cons_succ, List.getElem_cons_zero, List.setIfInBounds_toArray, List.set_cons_zero, List.set_cons_succ]
              obtain ⟨y, y0, y1, y2, y3, yf⟩ := _root_.id HW3
              refine wpAnyH_take (i := 21) (oi := _) (v := ?v48) rfl (by kernel_rfl) (by kernel_rfl) (by kernel_rfl) (fun _ _ _ h => h) (Or.inl ⟨by kernel_rfl, ?hy48⟩) (by assumption) ?rest48
              case hy48 => (intro w' hSw; (try dsimp only at hSw); go_simp; try with_reducible rfl)
              try simp only [Act.put, List.getElem_toArray, List.getElem_cons_succ, List.getElem_cons_zero, List.setIfInBounds_toArray, List.set_cons_zero, List.set_cons_succ]
              refine wpAnyH_ready (rs := [22]) (by kernel_rfl) (by simp) ?_
              refine AllReadyH.cons (o := _) rfl (fun K hK => ?_) AllReadyH.nil
              go_simp
              refine hK.out _ _ ?_ (fun hHeld => ?_)
              · (try dsimp only); exact KP.out _ (hb3.setCell (by show w.heap.size ≤ C; omega) _)
              clear hK K
              try simp only [Act.put, List.getElem_toArray, List.getElem_cons_succ, List.getElem_cons_zero, List.setIfInBounds_toArray, List.set_cons_zero, List.set_cons_succ]
              refine wpAnyH_done (by kernel_rfl) ?_ _
              clear hHeld y y0 y1 y2 y3 yf
              have hfo := own_set hown3 (g := C) (fun q hq => by simp [Value.ownBlock] at hq; omega) 3 (.slice (some ⟨g, 0, none⟩) (L.length + 1) cap)
              have hfc := (HW3.set (.slice (some ⟨g, 0, none⟩) (L.length + 1) cap)).2.2.2
              have hfr := HW4.but ((But.refl C w3).set 3 (.slice (some ⟨g, 0, none⟩) (L.length + 1) cap)) (by omega)
              have hfb := hb3.setCell (p := ⟨C, 3, none⟩) (by show w.heap.size ≤ C; omega) (.slice (some ⟨g, 0, none⟩) (L.length + 1) cap)
              go_wp2
              go_roundw
              case rel => exact ⟨L ++ [⟨vi, sg⟩], _, by (rw [List.length_append, List.length_singleton]; omega), by (first | (simp; done) | (simp; omega) | go_num), fun s hs => by (simp at hs; rcases hs with hs | rfl; exact hL8.out s hs; exact hsl), by rw [List.length_append, List.length_singleton, scells_append]; exact hfo, hfc, hfr, hfb⟩
              case measure => simp [intOf]; omega
            · go_simp
              (go_at_call 96; refine (HDG.out _ _).mono ?_; rintro e wm ⟨rfl, hbm⟩)
              try go_wp2_with fail
              refine hK.out _ _ ?_ (fun hHeld => ?_)
              · (try dsimp only); exact KP.out _ (Below.next (And.left hHeld) hbm)
              clear hK K
              try simp only [Act.put, List.getElem_toArray, List.getElem_cons_succ, List.getElem_cons_zero, List.setIfInBounds_toArray, List.set_cons_zero, List.set_cons_succ]
              have hA := Below.next hA hbm
              obtain ⟨hCl9, c0, c1, c2, c3, cf⟩ := HCC.out.drew.next hA
              refine wpAnyH_ready (rs := [1, 17]) (by kernel_rfl) (by simp) ?_
              refine AllReadyH.cons (o := _) rfl (fun K hK => ?_) (AllReadyH.cons (o := _) rfl (fun K hK => ?_) AllReadyH.nil)
              · go_simp
                refine hK.out _ _ ?_ (fun hHeld => ?_)
                · (try dsimp only); assumption
                clear hK K
                try simp only [Act.put, List.getElem_toArray, List.getElem_cons_succ, List.getElem_cons_zero, List.setIfInBounds_toArray, List.set_cons_zero, List.set_cons_succ]
                refine wpAnyH_ready (rs := [17]) (by kernel_rfl) (by simp) ?_
                refine AllReadyH.cons (o := _) rfl (fun K hK => ?_) AllReadyH.nil
                go_simp
                (go_at_call 95; refine (HSA.out _ _).mono ?_; rintro e wm ⟨rfl, hbm⟩)
                try go_wp2_with fail
                refine hK.out _ _ ?_ (fun hHeld => ?_)
                · (try dsimp only); exact KP.out _ (Below.next (And.left hHeld) hbm)
                clear hK K
                try simp only [Act.put, List.getElem_toArray, List.getElem_cons_succ, List.getElem_cons_zero, List.setIfInBounds_toArray, List.set_cons_zero, List.set_cons_succ]
                have hA := Below.next hA hbm
                obtain ⟨hCl9, c0, c1, c2, c3, cf⟩ := HCC.out.drew.next hA
                have hsl := HSL.out vi
                generalize signAsS vi (dg vi) = sg at *
                refine wpAnyH_take (i := 18) (oi := _) (v := ?v49) rfl (by kernel_rfl) (by kernel_rfl) (by kernel_rfl) (fun _ _ _ h => h) (Or.inl ⟨by kernel_rfl, ?hy49⟩) (by assumption) ?rest49
                case hy49 => (intro w' hSw; (try dsimp only at hSw); go_simp; try with_reducible rfl)
                try simp only [Act.put, List.getElem_toArray, List.getElem_cons_succ, List.getElem_cons_zero, List.setIfInBounds_toArray, List.set_cons_zero, List.set_cons_succ]
                have hbw3 : Below w.heap.size w wm := And.left (by assumption)
                have hzw3 := hbw3.size
                refine wpAnyH_ready (rs := [19]) (by kernel_rfl) (by simp) ?_
                refine AllReadyH.cons (o := _) rfl (fun K hK => ?_) AllReadyH.nil
                go_simp
                refine hK.out _ _ ?_ (fun hHeld => ?_)
                · (try dsimp only); exact KP.out _ (hbw3.alloc hzw3 _)
                clear hK K
                try simp only [Act.put, List.getElem_toArray, List.getElem_cons_succ, List.getElem_cons_zero, List.setIfInBounds_toArray, List.set_cons_zero, List.set_cons_succ]
                have OW := own_below (w := wr.drew) HOWN.out hA
                have HW := HCC.out.drew.next hA
                have HW2 := HRR.out.drew.next hA
                have hCm : C < wm.heap.size := HW.1
                have HOA := OW.alloc (.cells #[.int .i64 vi, .string (S sg)] 85)
                have HWA := HW.alloc (.cells #[.int .i64 vi, .string (S sg)] 85)
                have HWA2 := HW2.alloc (.cells #[.int .i64 vi, .string (S sg)] 85)
                have hbA := hbw3.alloc hzw3 (.cells #[.int .i64 vi, .string (S sg)] 85)
                obtain ⟨hCl8, x0, x1, x2, x3, xf⟩ := _root_.id HWA
                refine wpAnyH_ready (rs := [20]) (by kernel_rfl) (by simp) ?_
                refine AllReadyH.cons (o := _) rfl (fun K hK => ?_) AllReadyH.nil
                refine step_append_lies _ rfl _ _ 31 rfl (C + 1) 85 i0 (.agg #[.int .i64 0, .string ByteArray.empty]) 2 24 Tryd.underlying31 hi hzA hzB hzC rfl (by decide) _ L.length _ rfl HOA ⟨wm.heap.size, 0, none⟩ 1 1 [.int .i64 vi, .string (S sg)] rfl rfl (cells2 (by simp [go_sem]) (by simp [go_sem])) (by intro u hu; simp at hu; rcases hu with rfl | rfl <;> rfl) (by omega) (by unfold maxLen; omega) (by omega) (by simp; omega) _ rfl ?_
                intro g cap w3 hown3 hgr3 hg3 hgl3
                have hb3 : Below w.heap.size w w3 := hbA.grown hgr3 (by simp; omega) (fun q hq => by have := (HOA.lt q hq).1; omega)
                have hgC : C + 1 ≤ g := by
                  rcases hg3 with hg3 | hg3
                  · exact (HOA.lt g hg3).1
                  · have : (wm.alloc (.cells #[.int .i64 vi, .string (S sg)] 85)).heap.size = wm.heap.size + 1 := by simp
                    omega
                have HW3 := HWA.grown hgr3 (fun e => by have := (HOA.lt C e).1; omega)
                have HW4 := HWA2.grown hgr3 (fun e => by have := (HOA.lt _ e).1; omega)
                refine hK.out _ _ ?_ (fun hHeld => ?_)
                · (try dsimp only); exact KP.out _ (hb3)
                clear hK K
                try simp only [Act.put, List.getElem_toArray, List.getElem_cons_succ, List.getElem_cons_zero, List.setIfInBounds_toArray, List.set_cons_zero, List.set_cons_succ]
                obtain ⟨y, y0, y1, y2, y3, yf⟩ := _root_.id HW3
                refine wpAnyH_take (i := 21) (oi := _) (v := ?v50) rfl (by kernel_rfl) (by kernel_rfl) (by kernel_rfl) (fun _ _ _ h => h) (Or.inl ⟨by kernel_rfl, ?hy50⟩) (by assumption) ?rest50
                case hy50 => (intro w' hSw; (try dsimp only at hSw); go_simp; try with_reducible rfl)
                try simp only [Act.put, List.getElem_toArray, List.getElem_cons_succ, List.getElem_cons_zero, List.setIfInBounds_toArray, List.set_cons_zero, List.set_cons_succ]
                refine wpAnyH_ready (rs := [22]) (by kernel_rfl) (by simp) ?_
                refine AllReadyH.cons (o := _) rfl (fun K hK => ?_) AllReadyH.nil
                go_simp
                refine hK.out _ _ ?_ (fun hHeld => ?_)
                · (try dsimp only); exact KP.out _ (hb3.setCell (by show w.heap.size ≤ C; omega) _)
                clear hK K
                try simp only [Act.put, List.getElem_toArray, List.getElem_cons_succ, List.getElem_cons_zero, List.setIfInBounds_toArray, List.set_cons_zero, List.set_cons_succ]
                refine wpAnyH_done (by kernel_rfl) ?_ _
                clear hHeld y y0 y1 y2 y3 yf
                have hfo := own_set hown3 (g := C) (fun q hq => by simp [Value.ownBlock] at hq; omega) 3 (.slice (some ⟨g, 0, none⟩) (L.length + 1) cap)
                have hfc := (HW3.set (.slice (some ⟨g, 0, none⟩) (L.length + 1) cap)).2.2.2
                have hfr := HW4.but ((But.refl C w3).set 3 (.slice (some ⟨g, 0, none⟩) (L.length + 1) cap)) (by omega)
                have hfb := hb3.setCell (p := ⟨C, 3, none⟩) (by show w.heap.size ≤ C; omega) (.slice (some ⟨g, 0, none⟩) (L.length + 1) cap)
                go_wp2
                go_roundw
                case rel => exact ⟨L ++ [⟨vi, sg⟩], _, by (rw [List.length_append, List.length_singleton]; omega), by (first | (simp; done) | (simp; omega) | go_num), fun s hs => by (simp at hs; rcases hs with hs | rfl; exact hL8.out s hs; exact hsl), by rw [List.length_append, List.length_singleton, scells_append]; exact hfo, hfc, hfr, hfb⟩
                case measure => simp [intOf]; omega
              · go_simp
                (go_at_call 95; refine (HSA.out _ _).mono ?_; rintro e wm ⟨rfl, hbm⟩)
                try go_wp2_with fail
                refine hK.out _ _ ?_ (fun hHeld => ?_)
                · (try dsimp only); exact KP.out _ (Below.next (And.left hHeld) hbm)
                clear hK K
                try simp only [Act.put, List.getElem_toArray, List.getElem_cons_succ, List.getElem_cons_zero, List.setIfInBounds_toArray, List.set_cons_zero, List.set_cons_succ]
                have hA := Below.next hA hbm
                obtain ⟨hCl9, c0, c1, c2, c3, cf⟩ := HCC.out.drew.next hA
                have hsl := HSL.out vi
                generalize signAsS vi (dg vi) = sg at *
                refine wpAnyH_take (i := 18) (oi := _) (v := ?v51) rfl (by kernel_rfl) (by kernel_rfl) (by kernel_rfl) (fun _ _ _ h => h) (Or.inl ⟨by kernel_rfl, ?hy51⟩) (by assumption) ?rest51
                case hy51 => (intro w' hSw; (try dsimp only at hSw); go_simp; try with_reducible rfl)
                try simp only [Act.put, List.getElem_toArray, List.getElem_cons_succ, List.getElem_cons_zero, List.setIfInBounds_toArray, List.set_cons_zero, List.set_cons_succ]
                have hbw3 : Below w.heap.size w wm := And.left (by assumption)
                have hzw3 := hbw3.size
                refine wpAnyH_ready (rs := [1, 19]) (by kernel_rfl) (by simp) ?_
                refine AllReadyH.cons (o := _) rfl (fun K hK => ?_) (AllReadyH.cons (o := _) rfl (fun K hK => ?_) AllReadyH.nil)
                · go_simp
                  refine hK.out _ _ ?_ (fun hHeld => ?_)
                  · (try dsimp only); assumption
                  clear hK K
                  try simp only [Act.put, List.getElem_toArray, List.getElem_cons_succ, List.getElem_cons_zero, List.setIfInBounds_toArray, List.set_cons_zero, List.set_cons_succ]
                  refine wpAnyH_ready (rs := [19]) (by kernel_rfl) (by simp) ?_
                  refine AllReadyH.cons (o := _) rfl (fun K hK => ?_) AllReadyH.nil
                  go_simp
                  refine hK.out _ _ ?_ (fun hHeld => ?_)
                  · (try dsimp only); exact KP.out _ (hbw3.alloc hzw3 _)
                  clear hK K
                  try simp only [Act.put, List.getElem_toArray, List.getElem_cons_succ, List.getElem_cons_zero, List.setIfInBounds_toArray, List.set_cons_zero, List.set_cons_succ]
                  have OW := own_below (w := wr.drew) HOWN.out hA
                  have HW := HCC.out.drew.next hA
                  have HW2 := HRR.out.drew.next hA
                  have hCm : C < wm.heap.size := HW.1
                  have HOA := OW.alloc (.cells #[.int .i64 vi, .string (S sg)] 85)
                  have HWA := HW.alloc (.cells #[.int .i64 vi, .string (S sg)] 85)
                  have HWA2 := HW2.alloc (.cells #[.int .i64 vi, .string (S sg)] 85)
                  have hbA := hbw3.alloc hzw3 (.cells #[.int .i64 vi, .string (S sg)] 85)
                  obtain ⟨hCl8, x0, x1, x2, x3, xf⟩ := _root_.id HWA
                  refine wpAnyH_ready (rs := [20]) (by kernel_rfl) (by simp) ?_
                  refine AllReadyH.cons (o := _) rfl (fun K hK => ?_) AllReadyH.nil
                  refine step_append_lies _ rfl _ _ 31 rfl (C + 1) 85 i0 (.agg #[.int .i64 0, .string ByteArray.empty]) 2 24 Tryd.underlying31 hi hzA hzB hzC rfl (by decide) _ L.length _ rfl HOA ⟨wm.heap.size, 0, none⟩ 1 1 [.int .i64 vi, .string (S sg)] rfl rfl (cells2 (by simp [go_sem]) (by simp [go_sem])) (by intro u hu; simp at hu; rcases hu with rfl | rfl <;> rfl) (by omega) (by unfold maxLen; omega) (by omega) (by simp; omega) _ rfl ?_
                  intro g cap w3 hown3 hgr3 hg3 hgl3
                  have hb3 : Below w.heap.size w w3 := hbA.grown hgr3 (by simp; omega) (fun q hq => by have := (HOA.lt q hq).1; omega)
                  have hgC : C + 1 ≤ g := by
                    rcases hg3 with hg3 | hg3
                    · exact (HOA.lt g hg3).1
                    · have : (wm.alloc (.cells #[.int .i64 vi, .string (S sg)] 85)).heap.size = wm.heap.size + 1 := by simp
                      omega
                  have HW3 := HWA.grown hgr3 (fun e => by have := (HOA.lt C e).1; omega)
                  have HW4 := HWA2.grown hgr3 (fun e => by have := (HOA.lt _ e).1; omega)
                  refine hK.out _ _ ?_ (fun hHeld => ?_)
                  · (try dsimp only); exact KP.out _ (hb3)
                  clear hK K
                  try simp only [Act.put, List.getElem_toArray, List.getElem_cons_succ, List.getElem_cons_zero, List.setIfInBounds_toArray, List.set_cons_zero, List.set_cons_succ]
                  obtain ⟨y, y0, y1, y2, y3, yf⟩ := _root_.id HW3
                  refine wpAnyH_take (i := 21) (oi := _) (v := ?v52) rfl (by kernel_rfl) (by kernel_rfl) (by kernel_rfl) (fun _ _ _ h => h) (Or.inl ⟨by kernel_rfl, ?hy52⟩) (by assumption) ?rest52
                  case hy52 => (intro w' hSw; (try dsimp only at hSw); go_simp; try with_reducible rfl)
                  try simp only [Act.put, List.getElem_toArray, List.getElem_cons_succ, List.getElem_cons_zero, List.setIfInBounds_toArray, List.set_cons_zero, List.set_cons_succ]
                  refine wpAnyH_ready (rs := [22]) (by kernel_rfl) (by simp) ?_
                  refine AllReadyH.cons (o := _) rfl (fun K hK => ?_) AllReadyH.nil
                  go_simp
                  refine hK.out _ _ ?_ (fun hHeld => ?_)
                  · (try dsimp only); exact KP.out _ (hb3.setCell (by show w.heap.size ≤ C; omega) _)
                  clear hK K
                  try simp only [Act.put, List.getElem_toArray, List.getElem_cons_succ, List.getElem_cons_zero, List.setIfInBounds_toArray, List.set_cons_zero, List.set_cons_succ]
                  refine wpAnyH_done (by kernel_rfl) ?_ _
                  clear hHeld y y0 y1 y2 y3 yf
                  have hfo := own_set hown3 (g := C) (fun q hq => by simp [Value.ownBlock] at hq; omega) 3 (.slice (some ⟨g, 0, none⟩) (L.length + 1) cap)
                  have hfc := (HW3.set (.slice (some ⟨g, 0, none⟩) (L.length + 1) cap)).2.2.2
                  have hfr := HW4.but ((But.refl C w3).set 3 (.slice (some ⟨g, 0, none⟩) (L.length + 1) cap)) (by omega)
                  have hfb := hb3.setCell (p := ⟨C, 3, none⟩) (by show w.heap.size ≤ C; omega) (.slice (some ⟨g, 0, none⟩) (L.length + 1) cap)
                  go_wp2
                  go_roundw
                  case rel => exact ⟨L ++ [⟨vi, sg⟩], _, by (rw [List.length_append, List.length_singleton]; omega), by (first | (simp; done) | (simp; omega) | go_num), fun s hs => by (simp at hs; rcases hs with hs | rfl; exact hL8.out s hs; exact hsl), by rw [List.length_append, List.length_singleton, scells_append]; exact hfo, hfc, hfr, hfb⟩
                  case measure => simp [intOf]; omega
                · go_simp
                  refine hK.out _ _ ?_ (fun hHeld => ?_)
                  · (try dsimp only); exact KP.out _ (hbw3.alloc hzw3 _)
                  clear hK K
                  try simp only [Act.put, List.getElem_toArray, List.getElem_cons_succ, List.getElem_cons_zero, List.setIfInBounds_toArray, List.set_cons_zero, List.set_cons_succ]
                  have OW := own_below (w := wr.drew) HOWN.out hA
                  have HW := HCC.out.drew.next hA
                  have HW2 := HRR.out.drew.next hA
                  have hCm : C < wm.heap.size := HW.1
                  have HOA := OW.alloc (.cells #[.int .i64 vi, .string (S sg)] 85)
                  have HWA := HW.alloc (.cells #[.int .i64 vi, .string (S sg)] 85)
                  have HWA2 := HW2.alloc (.cells #[.int .i64 vi, .string (S sg)] 85)
                  have hbA := hbw3.alloc hzw3 (.cells #[.int .i64 vi, .string (S sg)] 85)
                  obtain ⟨hCl8, x0, x1, x2, x3, xf⟩ := _root_.id HWA
                  refine wpAnyH_ready (rs := [1]) (by kernel_rfl) (by simp) ?_
                  refine AllReadyH.cons (o := _) rfl (fun K hK => ?_) AllReadyH.nil
                  go_simp
                  refine hK.out _ _ ?_ (fun hHeld => ?_)
                  · (try dsimp only); assumption
                  clear hK K
                  try simp only [Act.put, List.getElem_toArray, List.getElem_cons_succ, List.getElem_cons_zero, List.setIfInBounds_toArray, List.set_cons_zero, List.set_cons_succ]
                  refine wpAnyH_ready (rs := [20]) (by kernel_rfl) (by simp) ?_
                  refine AllReadyH.cons (o := _) rfl (fun K hK => ?_) AllReadyH.nil
                  refine step_append_lies _ rfl _ _ 31 rfl (C + 1) 85 i0 (.agg #[.int .i64 0, .string ByteArray.empty]) 2 24 Tryd.underlying31 hi hzA hzB hzC rfl (by decide) _ L.length _ rfl HOA ⟨wm.heap.size, 0, none⟩ 1 1 [.int .i64 vi, .string (S sg)] rfl rfl (cells2 (by simp [go_sem]) (by simp [go_sem])) (by intro u hu; simp at hu; rcases hu with rfl | rfl <;> rfl) (by omega) (by unfold maxLen; omega) (by omega) (by simp; omega) _ rfl ?_
                  intro g cap w3 hown3 hgr3 hg3 hgl3
                  have hb3 : Below w.heap.size w w3 := hbA.grown hgr3 (by simp; omega) (fun q hq => by have := (HOA.lt q hq).1; omega)
                  have hgC : C + 1 ≤ g := by
                    rcases hg3 with hg3 | hg3
                    · exact (HOA.lt g hg3).1
                    · have : (wm.alloc (.cells #[.int .i64 vi, .string (S sg)] 85)).heap.size = wm.heap.size + 1 := by simp
                      omega
                  have HW3 := HWA.grown hgr3 (fun e => by have := (HOA.lt C e).1; omega)
                  have HW4 := HWA2.grown hgr3 (fun e => by have := (HOA.lt _ e).1; omega)
                  refine hK.out _ _ ?_ (fun hHeld => ?_)
                  · (try dsimp only); exact KP.out _ (hb3)
                  clear hK K
                  try simp only [Act.put, List.getElem_toArray, List.getElem_cons_succ, List.getElem_cons_zero, List.setIfInBounds_toArray, List.set_cons_zero, List.set_cons_succ]
                  obtain ⟨y, y0, y1, y2, y3, yf⟩ := _root_.id HW3
                  refine wpAnyH_take (i := 21) (oi := _) (v := ?v53) rfl (by kernel_rfl) (by kernel_rfl) (by kernel_rfl) (fun _ _ _ h => h) (Or.inl ⟨by kernel_rfl, ?hy53⟩) (by assumption) ?rest53
                  case hy53 => (intro w' hSw; (try dsimp only at hSw); go_simp; try with_reducible rfl)
                  try simp only [Act.put, List.getElem_toArray, List.getElem_cons_succ, List.getElem_cons_zero, List.setIfInBounds_toArray, List.set_cons_zero, List.set_cons_succ]
                  refine wpAnyH_ready (rs := [22]) (by kernel_rfl) (by simp) ?_
                  refine AllReadyH.cons (o := _) rfl (fun K hK => ?_) AllReadyH.nil
                  go_simp
                  refine hK.out _ _ ?_ (fun hHeld => ?_)
                  · (try dsimp only); exact KP.out _ (hb3.setCell (by show w.heap.size ≤ C; omega) _)
                  clear hK K
                  try simp only [Act.put, List.getElem_toArray, List.getElem_cons_succ, List.getElem_cons_zero, List.setIfInBounds_toArray, List.set_cons_zero, List.set_cons_succ]
                  refine wpAnyH_done (by kernel_rfl) ?_ _
                  clear hHeld y y0 y1 y2 y3 yf
                  have hfo := own_set hown3 (g := C) (fun q hq => by simp [Value.ownBlock] at hq; omega) 3 (.slice (some ⟨g, 0, none⟩) (L.length + 1) cap)
                  have hfc := (HW3.set (.slice (some ⟨g, 0, none⟩) (L.length + 1) cap)).2.2.2
                  have hfr := HW4.but ((But.refl C w3).set 3 (.slice (some ⟨g, 0, none⟩) (L.length + 1) cap)) (by omega)
                  have hfb := hb3.setCell (p := ⟨C, 3, none⟩) (by show w.heap.size ≤ C; omega) (.slice (some ⟨g, 0, none⟩) (L.length + 1) cap)
                  go_wp2
                  go_roundw
                  case rel => exact ⟨L ++ [⟨vi, sg⟩], _, by (rw [List.length_append, List.length_singleton]; omega), by (first | (simp; done) | (simp; omega) | go_num), fun s hs => by (simp at hs; rcases hs with hs | rfl; exact hL8.out s hs; exact hsl), by rw [List.length_append, List.length_singleton, scells_append]; exact hfo, hfc, hfr, hfb⟩
                  case measure => simp [intOf]; omega
      · have hkl : L.length = ids.length := by omega
        obtain ⟨hCl2, c0, c1, c2, c3, cf⟩ := _root_.id HCC.out
        obtain ⟨hRl2, r0, r1, r2, r3, rf⟩ := _root_.id HRR.out
        have hCR : ¬ C = w.heap.size + 1 := by omega
        have hRC : ¬ w.heap.size + 1 = C := by omega
        have hne : ∀ q, (Value.slice Av L.length cv).ownBlock = some q → q ≠ w.heap.size + 1 := fun q hq => by have := (HOWN.out.lt q hq).1; omega
        have hob := own_base HOWN.out (base' := w.heap.size) (by omega)
        have hHB := HBR.out
        go_wp2_with fail
        refine bodyPost_ret (v := .agg #[.int .i64 hh, .int .i64 rd, .string (S id), .slice Av L.length cv]) (by simp [results, Tryd.results91, go_sem, *]) rfl ⟨id, L, Av, cv, rfl, hil, hkl, hL8, ?_, ?_⟩
        · repeat (first | with_reducible exact hob | with_reducible refine own_set ?_ hne _ _)
        · repeat (first | with_reducible exact hHB | with_reducible refine Below.setCell ?_ (by first | omega | (simp <;> omega)) _)
end Go.Proofs.YtecimgkgdpnaeaaDoor

/-
  Validators drawn, a header of theirs, and a commit of it: l9Some.
-/
namespace Go.Proofs.YtecimgkgdpnaeaaDoor
open Go.ChangeShapes Go.WideShapes Go.ChangeAt Go.RowKit
set_option linter.unusedVariables false
set_option linter.unusedSimpArgs false
set_option maxRecDepth 100000

theorem valsHashS_len (l : List ValT) : (valsHashS l).length ≤ 8 := by
  unfold valsHashS
  split
  · exact Nat.le_of_eq (shortS_len _)
  · simp
theorem own_noneX {w : World} {base : Nat} {e : TypeId} {size n cap : Nat} {A : Option Addr} {xs : List Value} (h : w.ownsRow base e size (.slice A n cap) n xs) : A = none → cap = 0 := by
  rintro rfl
  rcases h.2 with ⟨h1, h2⟩ | ⟨g', cap', cur, h1, _⟩
  · simp only [Value.slice.injEq] at h1; exact h1.2.2
  · simp at h1
theorem sreads_own {w : World} {base : Nat} {e : TypeId} {A : Option Addr} {n c : Nat} {l : List SigT} (hn : l.length = n) (h : w.ownsRow base e 2 (.slice A n c) n (scells l)) : SReads w w.heap.size A l := by subst hn; exact SReads.of_own h
theorem infoInt1 : (Tryd.prog.info? 3).map (fun i => (i.zero, i.size, i.bytes)) = some (some (.int .i64 0), 1, 8) := by kernel_rfl
theorem one_cell_i1 (a : Int) : ∀ u ∈ (#[Value.int .i64 a] : Array Value).toList, u.oneCell' = true := by
  intro u hu; simp at hu; subst hu; rfl

theorem vr_set {w : World} {A : Option Addr} {L : List ValT} {k g : Nat} (h : VReads w w.heap.size A L ∧ ∀ q, A = some q → k ≤ q.block) (hg : g < k) (i : Nat) (u : Value) :
    VReads (w.setCell ⟨g, i, none⟩ u) (w.setCell ⟨g, i, none⟩ u).heap.size A L ∧ ∀ q, A = some q → k ≤ q.block := by
  refine ⟨fun hl => ?_, h.2⟩
  obtain ⟨b, off, rfl, hb, hc⟩ := h.1 hl
  have hk := h.2 _ rfl
  have e : (w.setCell ⟨g, i, none⟩ u).heap[b]? = w.heap[b]? := Below.heap_setCell _ _ _ _ (by intro e; have : b = g := e; simp only at hk; omega)
  exact ⟨b, off, rfl, by simpa [World.setCell] using hb, fun j hj => ⟨(World.cell?_of_block (w := w) (a := ⟨b, _, none⟩) e).trans (hc j hj).1, (World.cell?_of_block (w := w) (a := ⟨b, _, none⟩) e).trans (hc j hj).2⟩⟩
theorem sr_set {w : World} {A : Option Addr} {L : List SigT} {k g : Nat} (h : SReads w w.heap.size A L ∧ ∀ q, A = some q → k ≤ q.block) (hg : g < k) (i : Nat) (u : Value) :
    SReads (w.setCell ⟨g, i, none⟩ u) (w.setCell ⟨g, i, none⟩ u).heap.size A L ∧ ∀ q, A = some q → k ≤ q.block := by
  refine ⟨fun hl => ?_, h.2⟩
  obtain ⟨b, off, rfl, hb, hc⟩ := h.1 hl
  have hk := h.2 _ rfl
  have e : (w.setCell ⟨g, i, none⟩ u).heap[b]? = w.heap[b]? := Below.heap_setCell _ _ _ _ (by intro e; have : b = g := e; simp only at hk; omega)
  exact ⟨b, off, rfl, by simpa [World.setCell] using hb, fun j hj => ⟨(World.cell?_of_block (w := w) (a := ⟨b, _, none⟩) e).trans (hc j hj).1, (World.cell?_of_block (w := w) (a := ⟨b, _, none⟩) e).trans (hc j hj).2⟩⟩
theorem vr_drew {w : World} {A : Option Addr} {L : List ValT} {k : Nat} (h : VReads w w.heap.size A L ∧ ∀ q, A = some q → k ≤ q.block) : VReads w.drew w.drew.heap.size A L ∧ ∀ q, A = some q → k ≤ q.block := h
theorem sr_drew {w : World} {A : Option Addr} {L : List SigT} {k : Nat} (h : SReads w w.heap.size A L ∧ ∀ q, A = some q → k ≤ q.block) : SReads w.drew w.drew.heap.size A L ∧ ∀ q, A = some q → k ≤ q.block := h
theorem far_weak {P : Prop} {A : Option Addr} {k : Nat} (h : P ∧ ∀ q, A = some q → k + 2 ≤ q.block) : P ∧ ∀ q, A = some q → k ≤ q.block := ⟨h.1, fun q hq => by have := h.2 q hq; omega⟩
theorem own_far {w : World} {base : Nat} {e : TypeId} {size n c k : Nat} {A : Option Addr} {xs : List Value} (h : w.ownsRow base e size (.slice A n c) n xs) (hk : k ≤ base) : ∀ q, A = some q → k ≤ q.block := by
  intro q hq
  have h1 := h.lt q.block (by rw [hq]; rfl)
  omega
theorem scells_set0 (l : List SigT) (h : 0 < l.length) (t : List UInt8) : (scells l).set 1 (.string (S t)) = scells (l.set 0 ⟨l[0].val, t⟩) := by
  cases l with
  | nil => simp at h
  | cons x tl => rfl
theorem all_set {l : List SigT} {a : SigT} {P : SigT → Prop} (h : ∀ s ∈ l, P s) (ha : P a) : ∀ s ∈ l.set 0 a, P s := by
  intro s hs
  rcases List.mem_or_eq_of_mem_set hs with h1 | rfl
  · exact h s h1
  · exact ha
theorem all_app {l m : List SigT} {P : SigT → Prop} (h : ∀ s ∈ l, P s) (h2 : ∀ s ∈ m, P s) : ∀ s ∈ l ++ m, P s := by
  intro s hs
  rcases List.mem_append.1 hs with h1 | h1
  · exact h s h1
  · exact h2 s h1
theorem H6.lowX {w w' : World} {b k : Nat} {u0 u1 u2 u3 u4 u5 : Value} (h : H6 w b u0 u1 u2 u3 u4 u5) (hb : Below k w w') (hk : b < k) : H6 w' b u0 u1 u2 u3 u4 u5 := by
  obtain ⟨h1, c0, c1, c2, c3, c4, c5, hf⟩ := h
  have e := hb.block b hk
  exact ⟨Nat.lt_of_lt_of_le h1 hb.size, (World.cell?_of_block (w := w) e).trans c0, (World.cell?_of_block (w := w) e).trans c1, (World.cell?_of_block (w := w) e).trans c2, (World.cell?_of_block (w := w) e).trans c3, (World.cell?_of_block (w := w) e).trans c4, (World.cell?_of_block (w := w) e).trans c5, fun i => (World.frozen?_of_block (w := w) e).trans (hf i)⟩
theorem H6.far {w : World} {b g : Nat} {u0 u1 u2 u3 u4 u5 : Value} (h : H6 w b u0 u1 u2 u3 u4 u5) (hn : b ≠ g) (i : Nat) (u : Value) : H6 (w.setCell ⟨g, i, none⟩ u) b u0 u1 u2 u3 u4 u5 := h.but ((But.refl g w).set i u) hn
theorem H4.farX {w : World} {b g : Nat} {u0 u1 u2 u3 : Value} (h : H4 w b u0 u1 u2 u3) (hn : b ≠ g) (i : Nat) (u : Value) : H4 (w.setCell ⟨g, i, none⟩ u) b u0 u1 u2 u3 := h.but ((But.refl g w).set i u) hn
/-- What stands where the ways of l9Some meet. -/
def SEnd (B : Nat) (K : Cd) (w W : World) (Hb Cb : Nat) (h t : Int) (la vh ne da : List UInt8) (L : List ValT) (Av : Option Addr) (ch rd : Int) (id : List UInt8) (l : List SigT) (Ac : Option Addr) (cc : Nat) : Prop :=
  (L.length ≤ 4 ∧ -1 ≤ ch ∧ ch ≤ 1000002 ∧ id.length ≤ 1001 ∧ l.length ≤ 13 ∧ (Ac = none → cc = 0)) ∧ Hid (∀ s ∈ l, s.sig.length ≤ 1001) ∧ (VReads W W.heap.size Av L ∧ ∀ q, Av = some q → w.heap.size + 2 ≤ q.block) ∧ (SReads W W.heap.size Ac l ∧ ∀ q, Ac = some q → w.heap.size + 2 ≤ q.block) ∧
  H6 W Hb (.int .i64 h) (.int .i64 t) (.string (S la)) (.string (S vh)) (.string (S ne)) (.string (S da)) ∧ H4 W Cb (.int .i64 ch) (.int .i64 rd) (.string (S id)) (.slice Ac l.length cc) ∧
  H6 W w.heap.size (.int .i64 0) (.int .i64 0) (.string ⟨#[]⟩) (.string ⟨#[]⟩) (.string ⟨#[]⟩) (.string ⟨#[]⟩) ∧ H4 W (w.heap.size + 1) (.int .i64 0) (.int .i64 0) (.string ⟨#[]⟩) (.slice none 0 0) ∧ CurX W B K ∧ But B w W ∧ w.heap.size + 2 ≤ Hb ∧ w.heap.size + 2 ≤ Cb

set_option maxHeartbeats 4000000 in
theorem l9Some_in (B : Nat) (K : Cd) (w : World) (hs : CurX w B K) (hl : K.l.length ≤ 1048576) :
    Calls Tryd.prog 53 #[.pointer (some ⟨B, 0, none⟩)] w fun e w' => ∃ (L : List ValT) (Av : Option Addr) (vc : Nat) (h t : Int) (la va ne da : List UInt8) (ch cr : Int) (id : List UInt8) (l : List SigT) (Ac : Option Addr) (cc : Nat),
      e = .returned (.tuple #[.slice Av L.length vc, .agg #[.int .i64 h, .int .i64 t, .string (S la), .string (S va), .string (S ne), .string (S da)], .agg #[.int .i64 ch, .int .i64 cr, .string (S id), .slice Ac l.length cc]]) ∧
      (L.length ≤ 4 ∧ -1 ≤ h ∧ h ≤ 1000001 ∧ -1 ≤ t ∧ t ≤ 1000001 ∧ la.length ≤ 21 ∧ va.length ≤ 21 ∧ ne.length ≤ 21 ∧ da.length ≤ 21 ∧ -1 ≤ ch ∧ ch ≤ 1000002 ∧ 0 ≤ cr ∧ cr ≤ 2 ∧ id.length ≤ 1001 ∧ l.length ≤ 13 ∧ (Ac = none → cc = 0)) ∧
      Hid (∀ s ∈ l, s.sig.length ≤ 1001) ∧ Hid (VReads w' w'.heap.size Av L ∧ ∀ q, Av = some q → w.heap.size ≤ q.block) ∧ Hid (SReads w' w'.heap.size Ac l ∧ ∀ q, Ac = some q → w.heap.size ≤ q.block) ∧ CurX w' B K ∧ But B w w' := by
  obtain ⟨i0, hi, hzA, hzB, hzC⟩ := info_parts infoInt1
  have HB := hs.lt
  have HL6 := Lib.hid fun (W : World) (h : CurX W B K) => l6Some_in B K W h hl
  have HL7 := Lib.hid fun (W : World) (h : CurX W B K) => l7Head_in B K W h hl
  have H2 := Lib.hid fun (W : World) (h : CurX W B K) => below_in B K 2 W h hl (by omega) (by omega)
  have H3 := Lib.hid fun (W : World) (h : CurX W B K) => below_in B K 3 W h hl (by omega) (by omega)
  have H6' := Lib.hid fun (W : World) (h : CurX W B K) => below_in B K 6 W h hl (by omega) (by omega)
  have H99 := Lib.hid fun (W : World) (h : CurX W B K) => below_in B K 99 W h hl (by omega) (by omega)
  have HO6 := Lib.hid fun (W : World) (h : CurX W B K) => once_in B K 6 W h hl (by omega) (by omega)
  have HO4 := Lib.hid fun (W : World) (h : CurX W B K) => once_in B K 4 W h hl (by omega) (by omega)
  have HSP := Lib.hid fun (W : World) (t : List UInt8) (h : CurX W B K) (h2 : t.length ≤ 1000) => spoil_in B K t W h h2 hl
  go_enter Tryd.func53, Tryd.ntmps53
  go_wp2_with fail
  have hR3 := (H6.new w 25 (.int .i64 0) (.int .i64 0) (.string ⟨#[]⟩) (.string ⟨#[]⟩) (.string ⟨#[]⟩) (.string ⟨#[]⟩)).alloc (.cells #[.int .i64 0, .int .i64 0, .string ⟨#[]⟩, .slice none 0 0] 33)
  have hR4 := H4.new (w.alloc (.cells #[.int .i64 0, .int .i64 0, .string ⟨#[]⟩, .string ⟨#[]⟩, .string ⟨#[]⟩, .string ⟨#[]⟩] 25)) 33 (.int .i64 0) (.int .i64 0) (.string ⟨#[]⟩) (.slice none 0 0)
  have hsz : (w.alloc (.cells #[.int .i64 0, .int .i64 0, .string ⟨#[]⟩, .string ⟨#[]⟩, .string ⟨#[]⟩, .string ⟨#[]⟩] 25)).heap.size = w.heap.size + 1 := by simp
  rw [hsz] at hR4
  have hc := (hs.alloc (.cells #[.int .i64 0, .int .i64 0, .string ⟨#[]⟩, .string ⟨#[]⟩, .string ⟨#[]⟩, .string ⟨#[]⟩] 25)).alloc (.cells #[.int .i64 0, .int .i64 0, .string ⟨#[]⟩, .slice none 0 0] 33)
  have hb := ((But.refl B w).alloc (.cells #[.int .i64 0, .int .i64 0, .string ⟨#[]⟩, .string ⟨#[]⟩, .string ⟨#[]⟩, .string ⟨#[]⟩] 25)).alloc (.cells #[.int .i64 0, .int .i64 0, .string ⟨#[]⟩, .slice none 0 0] 33)
  have hz0 : ((w.alloc (.cells #[.int .i64 0, .int .i64 0, .string ⟨#[]⟩, .string ⟨#[]⟩, .string ⟨#[]⟩, .string ⟨#[]⟩] 25)).alloc (.cells #[.int .i64 0, .int .i64 0, .string ⟨#[]⟩, .slice none 0 0] 33)).heap.size = w.heap.size + 1 + 1 := by simp
  generalize (w.alloc (.cells #[.int .i64 0, .int .i64 0, .string ⟨#[]⟩, .string ⟨#[]⟩, .string ⟨#[]⟩, .string ⟨#[]⟩] 25)).alloc (.cells #[.int .i64 0, .int .i64 0, .string ⟨#[]⟩, .slice none 0 0] 33) = W0 at *
  clear hs hsz
  refine (HL6.out _ hc).mono ?_
  rintro e w1 ⟨L, Av, vc, rfl, hL1, hL4, ov, hc, b1⟩
  have hR3 := hR3.but b1 (by omega)
  have hR4 := hR4.but b1 (by omega)
  have hb := hb.trans b1
  have hz1 := b1.size
  clear b1
  go_wp2_with fail
  refine (HL7.out _ hc).mono ?_
  rintro e w2 ⟨h, t, la, va0, ne, da, rfl, hlen, hc, b2⟩
  have hR3 := hR3.but b2 (by omega)
  have hR4 := hR4.but b2 (by omega)
  have hb := hb.trans b2
  have hz2 := b2.size
  have ov := own_but ov b2 (by omega)
  have lv := ov.lt
  clear b2
  go_wp2_with fail
  have hV := H6.new w2 25 (.int .i64 h) (.int .i64 t) (.string (S la)) (.string (S va0)) (.string (S ne)) (.string (S da))
  have hc := hc.alloc (.cells #[.int .i64 h, .int .i64 t, .string (S la), .string (S va0), .string (S ne), .string (S da)] 25)
  have hR3 := hR3.alloc (.cells #[.int .i64 h, .int .i64 t, .string (S la), .string (S va0), .string (S ne), .string (S da)] 25)
  have hR4 := hR4.alloc (.cells #[.int .i64 h, .int .i64 t, .string (S la), .string (S va0), .string (S ne), .string (S da)] 25)
  have ov := ov.alloc (.cells #[.int .i64 h, .int .i64 t, .string (S la), .string (S va0), .string (S ne), .string (S da)] 25)
  have hb := hb.alloc (.cells #[.int .i64 h, .int .i64 t, .string (S la), .string (S va0), .string (S ne), .string (S da)] 25)
  have hz3 : (w2.alloc (.cells #[.int .i64 h, .int .i64 t, .string (S la), .string (S va0), .string (S ne), .string (S da)] 25)).heap.size = w2.heap.size + 1 := by simp
  generalize w2.alloc (.cells #[.int .i64 h, .int .i64 t, .string (S la), .string (S va0), .string (S ne), .string (S da)] 25) = W3 at *
  have hVW : w1.heap.size ≤ w2.heap.size := hz2
  generalize hHb : w2.heap.size = Hb at *
  have HVH := Lib.hid fun (W : World) (q : VReads W W.heap.size Av L) => sValsHash_any Av vc L W (by omega) q
  have hvl := valsHashS_len L
  generalize valsHashS L = vh at *
  refine (HVH.out _ (VReads.of_own ov)).mono ?_
  rintro e w4 ⟨rfl, b4⟩
  have hV := hV.next b4
  have hR3 := hR3.next b4
  have hR4 := hR4.next b4
  have ov := own_below ov b4
  have hb := hb.next b4
  have hc := hc.next b4
  have hz4 := b4.size
  clear b4 HVH
  obtain ⟨hVl, v0, v1, v2, v3, v4, v5, vf⟩ := _root_.id hV
  go_wp2_with fail
  clear v0 v1 v2 v3 v4 v5 vf hVl
  have hVR3 : w.heap.size ≠ Hb := by have := hb.size; omega
  have hVR4 : w.heap.size + 1 ≠ Hb := by omega
  have hc := hc.far (g := Hb) (by omega) 3 (.string (S vh))
  have hR3 := hR3.but ((But.refl Hb w4).set 3 (.string (S vh))) hVR3
  have hR4 := hR4.but ((But.refl Hb w4).set 3 (.string (S vh))) hVR4
  have hV := (hV.set (.string (S vh))).2.2.2.1
  have ov := own_set ov (g := Hb) (fun q hq => by have := (lv q hq).2; omega) 3 (.string (S vh))
  have hb := hb.setFar (g := Hb) (by omega) 3 (.string (S vh))
  have hzs : (w4.setCell ⟨Hb, 3, none⟩ (.string (S vh))).heap.size = w4.heap.size := by simp
  generalize w4.setCell ⟨Hb, 3, none⟩ (.string (S vh)) = W5 at *
  rw [← hzs]
  have hz45 : Hid (W5.heap.size = w4.heap.size) := hzs
  clear hzs
  have HO := Lib.hid (World.ownsRow_lit (e := 3) (size := 1) (base := W5.heap.size) W5 #[] 0 (Nat.le_refl _) (by simp [maxLen]) rfl)
  have HC0 := hc.alloc (.cells #[] 3)
  have HB0 := (But.refl B W5).alloc (.cells #[] 3)
  have HOV := Lib.hid ov
  have hBW : B < W5.heap.size := hc.lt
  clear ov
  go_loopw [7, 8] (fun out i wr => ∃ k : Nat, k ≤ L.length ∧ i = .int .i64 (k : Int) ∧ Hid (∃ ids : List Int, ids.length ≤ k ∧ wr.ownsRow W5.heap.size 3 1 out ids.length (ids.map iv) ∧ CurX wr B K ∧ But B W5 wr)) (fun _ i _ => L.length - (intOf i).toNat)
  case atStart => exact ⟨0, by omega, rfl, [], by simp, HO.out, HC0, HB0⟩
  case round =>
    obtain ⟨k, hk, rfl, HX⟩ := hrel
    obtain ⟨ids, hik, hown, hc', hbu⟩ := HX.out
    have hki : 0 ≤ (k : Int) ∧ (k : Int) ≤ L.length := by omega
    obtain ⟨Ao, co, rfl⟩ := own_slice hown
    have zz := hbu.size
    by_cases hlt : k < L.length
    · have hlti : (k : Int) < L.length := by omega
      have HOWN := Lib.hid hown
      have HBUT := Lib.hid hbu
      clear hown hbu HC0 HB0 hc HX
      go_wp2_with fail
      refine (HO6.out _ hc').mono ?_
      rintro e wa ⟨o, rfl, hca, ba⟩
      have HBA := Lib.hid (HBUT.out.trans ba)
      have oa := own_but HOWN.out ba hBW
      have hza := ba.size
      cases o
      · obtain ⟨b, off, rfl, hbB, hcl⟩ := (VReads.of_own (own_but HOV.out HBA.out (by omega))) (by omega)
        obtain ⟨k0, k1⟩ := hcl k hlt
        clear hcl
        generalize L[k].id = vi at *
        clear HOWN HBUT ba hc'
        go_wp2_with (at_builtin; refine app_low rfl _ _ 43 rfl Tryd.underlying43 hi hzA hzB hzC rfl (by decide) rfl oa (by omega) rfl rfl rfl (one_cell_i1 _) (by unfold maxLen; omega) (by omega) ?_; intro v1 w6 hown1 hlow)
        go_roundw
        case rel => exact ⟨k + 1, by omega, by go_num, ids ++ [vi], by simp; omega, by rw [List.length_append, List.length_singleton, List.map_append]; exact hown1, hca.low hlow hBW, HBA.out.low hlow⟩
        case measure => simp [intOf]; omega
      · have HOA := Lib.hid oa
        clear HOWN HBUT ba hc' oa
        go_wp2
        go_roundw
        case rel => exact ⟨k + 1, by omega, by go_num, ids, by omega, HOA.out, hca, HBA.out⟩
        case measure => simp [intOf]; omega
    · have hkl : k = L.length := by omega
      clear hlt
      subst hkl
      have hV := hV.but hbu (by omega)
      have hR3 := hR3.but hbu (by omega)
      have hR4 := hR4.but hbu (by omega)
      have hlen2 : ids.length ≤ 4 := by omega
      have HV := Lib.hid hV
      have HOI := Lib.hid hown
      have HL9 := Lib.hid fun (W : World) (rd : Int) (q : IReads W W.heap.size Ao ids) => l9For_in h t la vh ne da rd ids Ao co W (by omega) (by omega) (by omega) (by omega) (by omega) q
      have hHB : Hb ≠ B := by omega
      have KS := Lib.hid fun (W : World) (hcx : CurX W B K) (hbx : But B wr W) => (⟨⟨hcx, hbx⟩, (HV.out.but hbx hHB).2.1, (HV.out.but hbx hHB).2.2.1, (HV.out.but hbx hHB).2.2.2.1, (HV.out.but hbx hHB).2.2.2.2.1, (HV.out.but hbx hHB).2.2.2.2.2.1, (HV.out.but hbx hHB).2.2.2.2.2.2.1⟩ : (CurX W B K ∧ But B wr W) ∧ W.cell? ⟨Hb, 0, none⟩ = some (.int .i64 h) ∧ W.cell? ⟨Hb, 1, none⟩ = some (.int .i64 t) ∧ W.cell? ⟨Hb, 2, none⟩ = some (.string (S la)) ∧ W.cell? ⟨Hb, 3, none⟩ = some (.string (S vh)) ∧ W.cell? ⟨Hb, 4, none⟩ = some (.string (S ne)) ∧ W.cell? ⟨Hb, 5, none⟩ = some (.string (S da)))
      have HIT := Lib.hid fun (W : World) (hbx : But B wr W) => IReads.of_own (own_but HOI.out hbx hBW)
      have hbr := But.drew (But.refl B wr)
      clear hown HX HO HC0 HB0 hc hV
      go_upto_region 10 with fail
      go_cut [9] from 36 to 40 (fun x wx => ∃ (Cb rd : Nat) (id : List UInt8) (l : List SigT) (Ac : Option Addr) (cc : Nat), x = .pointer (some ⟨Cb, 0, none⟩) ∧ (rd ≤ 2 ∧ id.length ≤ 8 ∧ l.length ≤ 4) ∧ Hid (∀ s ∈ l, s.sig.length ≤ 8) ∧ Hid (wx.ownsRow wr.heap.size 85 2 (.slice Ac l.length cc) l.length (scells l)) ∧ H4 wx Cb (.int .i64 h) (.int .i64 (rd : Int)) (.string (S id)) (.slice Ac l.length cc) ∧ CurX wx B K ∧ But B wr wx ∧ (∀ q, (Value.slice Ac l.length cc).ownBlock = some q → q ≠ Cb) ∧ wr.heap.size ≤ Cb)
      case first =>
        go_wp2_with fail
        refine wp_region_held_drew (S := fun w' => (CurX w' B K ∧ But B wr w') ∧ w'.cell? ⟨Hb, 0, none⟩ = some (.int .i64 h) ∧ w'.cell? ⟨Hb, 1, none⟩ = some (.int .i64 t) ∧ w'.cell? ⟨Hb, 2, none⟩ = some (.string (S la)) ∧ w'.cell? ⟨Hb, 3, none⟩ = some (.string (S vh)) ∧ w'.cell? ⟨Hb, 4, none⟩ = some (.string (S ne)) ∧ w'.cell? ⟨Hb, 5, none⟩ = some (.string (S da))) (by kernel_rfl) (by (try dsimp only); exact KS.out _ hc'.drew hbr) (fun hHeld => ?_)
        refine wpAnyH_take (i := 0) (oi := _) (v := ?v0) rfl (by kernel_rfl) (by kernel_rfl) (by kernel_rfl) (fun _ _ _ h => h) (Or.inl ⟨by kernel_rfl, ?hy0⟩) (by assumption) ?rest0
        case hy0 => (intro w' hSw; (try dsimp only at hSw); go_simp; try with_reducible rfl)
        try simp only [Act.put, List.getElem_toArray, List.getElem_cons_succ, List.getElem_cons_zero, List.setIfInBounds_toArray, List.set_cons_zero, List.set_cons_succ]
        refine wpAnyH_take (i := 1) (oi := _) (v := ?v1) rfl (by kernel_rfl) (by kernel_rfl) (by kernel_rfl) (fun _ _ _ h => h) (Or.inl ⟨by kernel_rfl, ?hy1⟩) (by assumption) ?rest1
        case hy1 => (intro w' hSw; (try dsimp only at hSw); go_simp; try with_reducible rfl)
        try simp only [Act.put, List.getElem_toArray, List.getElem_cons_succ, List.getElem_cons_zero, List.setIfInBounds_toArray, List.set_cons_zero, List.set_cons_succ]
        refine wpAnyH_take (i := 3) (oi := _) (v := ?v2) rfl (by kernel_rfl) (by kernel_rfl) (by kernel_rfl) (fun _ _ _ h => h) (Or.inl ⟨by kernel_rfl, ?hy2⟩) (by assumption) ?rest2
        case hy2 => (intro w' hSw; (try dsimp only at hSw); go_simp; try with_reducible rfl)
        try simp only [Act.put, List.getElem_toArray, List.getElem_cons_succ, List.getElem_cons_zero, List.setIfInBounds_toArray, List.set_cons_zero, List.set_cons_succ]
        have hcur := hc'.drew
        have hbcur := hbr
        refine wpAnyH_ready (rs := [2, 5]) (by kernel_rfl) (by simp) ?_
        refine AllReadyH.cons (o := _) rfl (fun K hK => ?_) (AllReadyH.cons (o := _) rfl (fun K hK => ?_) AllReadyH.nil)
        · go_simp
          (go_at_call 82; refine (H3.out _ hcur).mono ?_; rintro e wm ⟨rd, rfl, hrd, hcm, bm⟩)
          try go_wp2_with fail
          refine hK.out _ _ ?_ (fun hHeld => ?_)
          · (try dsimp only); exact KS.out _ hcm (hbcur.trans bm)
          clear hK K
          try simp only [Act.put, List.getElem_toArray, List.getElem_cons_succ, List.getElem_cons_zero, List.setIfInBounds_toArray, List.set_cons_zero, List.set_cons_succ]
          skip
          have hcur := hcm
          have hbcur := hbcur.trans bm
          have bm0 := hbcur.size
          clear bm hcm
          refine wpAnyH_ready (rs := [4, 5]) (by kernel_rfl) (by simp) ?_
          refine AllReadyH.cons (o := _) rfl (fun K hK => ?_) (AllReadyH.cons (o := _) rfl (fun K hK => ?_) AllReadyH.nil)
          · have hbz := hbcur.size
            go_simp
            (go_at_call 91; refine (HL9.out _ _ (HIT.out _ hbcur)).mono ?_; rintro e wm2 ⟨id, l, Ac, cc, rfl, hid8, hll, hs8, os, bm⟩)
            try go_wp2_with fail
            refine hK.out _ _ ?_ (fun hHeld => ?_)
            · (try dsimp only); exact KS.out _ (hcur.next bm) (hbcur.next bm)
            clear hK K
            try simp only [Act.put, List.getElem_toArray, List.getElem_cons_succ, List.getElem_cons_zero, List.setIfInBounds_toArray, List.set_cons_zero, List.set_cons_succ]
            skip
            have hcur := hcur.next bm
            have hbcur := hbcur.next bm
            have HLL := Lib.hid hll
            rw [hll] at os
            have los := os.lt
            clear bm hll
            have hcu := hcur
            have hbu2 := hbcur
            refine wpAnyH_ready (rs := [5]) (by kernel_rfl) (by simp) ?_
            refine AllReadyH.cons (o := _) rfl (fun K hK => ?_) AllReadyH.nil
            go_simp
            refine hK.out _ _ ?_ (fun hHeld => ?_)
            · (try dsimp only); exact KS.out _ (hcur.alloc _) (hbcur.alloc _)
            clear hK K
            try simp only [Act.put, List.getElem_toArray, List.getElem_cons_succ, List.getElem_cons_zero, List.setIfInBounds_toArray, List.set_cons_zero, List.set_cons_succ]
            have hCB : wm2.heap.size ≠ B := by have := hcur.lt; exact fun e => by (have h9 : B < wm2.heap.size := this; omega)
            have hCw : Hb < wm2.heap.size := by have := HV.out.1; have h9 := hbcur.size; have h10 : wr.heap.size ≤ wm2.heap.size := h9; omega
            have hN : H4 (wm2.alloc (.cells #[.int .i64 0, .int .i64 0, .string ⟨#[]⟩, .slice none 0 0] 33)) wm2.heap.size (.int .i64 0) (.int .i64 0) (.string ⟨#[]⟩) (.slice none 0 0) := H4.new wm2 33 (.int .i64 0) (.int .i64 0) (.string ⟨#[]⟩) (.slice none 0 0)
            have hcur := hcur.alloc (.cells #[.int .i64 0, .int .i64 0, .string ⟨#[]⟩, .slice none 0 0] 33)
            have hbcur := hbcur.alloc (.cells #[.int .i64 0, .int .i64 0, .string ⟨#[]⟩, .slice none 0 0] 33)
            refine wpAnyH_ready (rs := [6]) (by kernel_rfl) (by simp) ?_
            refine AllReadyH.cons (o := _) rfl (fun K hK => ?_) AllReadyH.nil
            go_simp
            have hX := H4.new wm2 33 (.int .i64 h) (.int .i64 (rd : Int)) (.string (S id)) (.slice Ac ids.length cc)
            have os9 := os.alloc (.cells #[.int .i64 h, .int .i64 (rd : Int), .string (S id), .slice Ac ids.length cc] 33)
            have hcur9 := hcu.alloc (.cells #[.int .i64 h, .int .i64 (rd : Int), .string (S id), .slice Ac ids.length cc] 33)
            have hbcur9 := hbu2.alloc (.cells #[.int .i64 h, .int .i64 (rd : Int), .string (S id), .slice Ac ids.length cc] 33)
            have hqC : ∀ q, (Value.slice Ac ids.length cc).ownBlock = some q → q ≠ wm2.heap.size := fun q hq => by have := (los q hq).2; omega
            have hwC : wr.heap.size ≤ wm2.heap.size := by have h9 := hbu2.size; omega
            refine hK.out _ _ ?_ (fun hHeld => ?_)
            · (try dsimp only); exact KS.out _ hcur9 hbcur9
            clear hK K
            try simp only [Act.put, List.getElem_toArray, List.getElem_cons_succ, List.getElem_cons_zero, List.setIfInBounds_toArray, List.set_cons_zero, List.set_cons_succ]
            refine wpAnyH_done (by kernel_rfl) ?_ _
            clear hHeld
            have hob9 := own_base os9 (base' := wr.heap.size) (by have h9 := hbz; omega)
            go_wp2_with fail
            generalize (wm2.alloc (.cells #[.int .i64 h, .int .i64 (rd : Int), .string (S id), .slice Ac ids.length cc] 33)) = W9 at *
            rw [← HLL.out] at hob9 hX hqC
            go_meet
            case rel => exact ⟨wm2.heap.size, rd, id, l, Ac, cc, rfl, ⟨by omega, hid8, by (have := HLL.out; omega)⟩, hs8, hob9, hX, hcur9, hbcur9, hqC, hwC⟩
          · go_simp
            refine hK.out _ _ ?_ (fun hHeld => ?_)
            · (try dsimp only); exact KS.out _ (hcur.alloc _) (hbcur.alloc _)
            clear hK K
            try simp only [Act.put, List.getElem_toArray, List.getElem_cons_succ, List.getElem_cons_zero, List.setIfInBounds_toArray, List.set_cons_zero, List.set_cons_succ]
            have hCB : wm.heap.size ≠ B := by have := hcur.lt; exact fun e => by (have h9 : B < wm.heap.size := this; omega)
            have hCw : Hb < wm.heap.size := by have := HV.out.1; have h9 := hbcur.size; have h10 : wr.heap.size ≤ wm.heap.size := h9; omega
            have hN : H4 (wm.alloc (.cells #[.int .i64 0, .int .i64 0, .string ⟨#[]⟩, .slice none 0 0] 33)) wm.heap.size (.int .i64 0) (.int .i64 0) (.string ⟨#[]⟩) (.slice none 0 0) := H4.new wm 33 (.int .i64 0) (.int .i64 0) (.string ⟨#[]⟩) (.slice none 0 0)
            have hcur := hcur.alloc (.cells #[.int .i64 0, .int .i64 0, .string ⟨#[]⟩, .slice none 0 0] 33)
            have hbcur := hbcur.alloc (.cells #[.int .i64 0, .int .i64 0, .string ⟨#[]⟩, .slice none 0 0] 33)
            refine wpAnyH_ready (rs := [4]) (by kernel_rfl) (by simp) ?_
            refine AllReadyH.cons (o := _) rfl (fun K hK => ?_) AllReadyH.nil
            have hCl := hN.1
            have hbz := hbcur.size
            go_simp
            (go_at_call 91; refine (HL9.out _ _ (HIT.out _ hbcur)).mono ?_; rintro e wm2 ⟨id, l, Ac, cc, rfl, hid8, hll, hs8, os, bm⟩)
            try go_wp2_with fail
            refine hK.out _ _ ?_ (fun hHeld => ?_)
            · (try dsimp only); exact KS.out _ (hcur.next bm) (hbcur.next bm)
            clear hK K
            try simp only [Act.put, List.getElem_toArray, List.getElem_cons_succ, List.getElem_cons_zero, List.setIfInBounds_toArray, List.set_cons_zero, List.set_cons_succ]
            have hN := hN.next bm
            have hcur := hcur.next bm
            have hbcur := hbcur.next bm
            have HLL := Lib.hid hll
            rw [hll] at os
            have los := os.lt
            clear bm hll
            obtain ⟨hNl, n0, n1, n2, n3, nf⟩ := _root_.id hN
            have hwC : wr.heap.size ≤ wm.heap.size := by have := bm0; omega
            have hBC : B < wm.heap.size := by omega
            refine wpAnyH_ready (rs := [6]) (by kernel_rfl) (by simp) ?_
            refine AllReadyH.cons (o := _) rfl (fun K hK => ?_) AllReadyH.nil
            go_simp
            have hqC : ∀ q, (Value.slice Ac ids.length cc).ownBlock = some q → q ≠ wm.heap.size := fun q hq => by have h8 := (los q hq).1; have h9 := hCl; omega
            have hX := ((((((((hN).set (.int .i64 h)).1).set (.int .i64 (rd : Int))).2.1).set (.string (S id))).2.2.1).set (.slice Ac ids.length cc)).2.2.2
            have os9 := (own_set (own_set (own_set (own_set os hqC 0 (.int .i64 h)) hqC 1 (.int .i64 (rd : Int))) hqC 2 (.string (S id))) hqC 3 (.slice Ac ids.length cc))
            have hcur9 := (CurX.far (CurX.far (CurX.far (CurX.far hcur hBC 0 (.int .i64 h)) hBC 1 (.int .i64 (rd : Int))) hBC 2 (.string (S id))) hBC 3 (.slice Ac ids.length cc))
            have hbcur9 := (But.setFar (But.setFar (But.setFar (But.setFar hbcur hwC 0 (.int .i64 h)) hwC 1 (.int .i64 (rd : Int))) hwC 2 (.string (S id))) hwC 3 (.slice Ac ids.length cc))
            refine hK.out _ _ ?_ (fun hHeld => ?_)
            · (try dsimp only); exact KS.out _ hcur9 hbcur9
            clear hK K
            try simp only [Act.put, List.getElem_toArray, List.getElem_cons_succ, List.getElem_cons_zero, List.setIfInBounds_toArray, List.set_cons_zero, List.set_cons_succ]
            refine wpAnyH_done (by kernel_rfl) ?_ _
            clear hHeld
            have hob9 := own_base os9 (base' := wr.heap.size) (by have h9 := hbz; omega)
            go_wp2_with fail
            generalize ((((wm2.setCell ⟨wm.heap.size, 0, none⟩ (.int .i64 h)).setCell ⟨wm.heap.size, 1, none⟩ (.int .i64 (rd : Int))).setCell ⟨wm.heap.size, 2, none⟩ (.string (S id))).setCell ⟨wm.heap.size, 3, none⟩ (.slice Ac ids.length cc)) = W9 at *
            rw [← HLL.out] at hob9 hX hqC
            go_meet
            case rel => exact ⟨wm.heap.size, rd, id, l, Ac, cc, rfl, ⟨by omega, hid8, by (have := HLL.out; omega)⟩, hs8, hob9, hX, hcur9, hbcur9, hqC, hwC⟩
        · go_simp
          refine hK.out _ _ ?_ (fun hHeld => ?_)
          · (try dsimp only); exact KS.out _ (hcur.alloc _) (hbcur.alloc _)
          clear hK K
          try simp only [Act.put, List.getElem_toArray, List.getElem_cons_succ, List.getElem_cons_zero, List.setIfInBounds_toArray, List.set_cons_zero, List.set_cons_succ]
          have hCB : wr.heap.size ≠ B := by have := hcur.lt; exact fun e => by (have h9 : B < wr.heap.size := this; omega)
          have hCw : Hb < wr.heap.size := by have := HV.out.1; have h9 := hbcur.size; have h10 : wr.heap.size ≤ wr.heap.size := h9; omega
          have hN : H4 (wr.drew.alloc (.cells #[.int .i64 0, .int .i64 0, .string ⟨#[]⟩, .slice none 0 0] 33)) wr.heap.size (.int .i64 0) (.int .i64 0) (.string ⟨#[]⟩) (.slice none 0 0) := H4.new wr.drew 33 (.int .i64 0) (.int .i64 0) (.string ⟨#[]⟩) (.slice none 0 0)
          have hcur := hcur.alloc (.cells #[.int .i64 0, .int .i64 0, .string ⟨#[]⟩, .slice none 0 0] 33)
          have hbcur := hbcur.alloc (.cells #[.int .i64 0, .int .i64 0, .string ⟨#[]⟩, .slice none 0 0] 33)
          refine wpAnyH_ready (rs := [2]) (by kernel_rfl) (by simp) ?_
          refine AllReadyH.cons (o := _) rfl (fun K hK => ?_) AllReadyH.nil
          go_simp
          (go_at_call 82; refine (H3.out _ hcur).mono ?_; rintro e wm ⟨rd, rfl, hrd, hcm, bm⟩)
          try go_wp2_with fail
          refine hK.out _ _ ?_ (fun hHeld => ?_)
          · (try dsimp only); exact KS.out _ hcm (hbcur.trans bm)
          clear hK K
          try simp only [Act.put, List.getElem_toArray, List.getElem_cons_succ, List.getElem_cons_zero, List.setIfInBounds_toArray, List.set_cons_zero, List.set_cons_succ]
          have hN := hN.but bm hCB
          have hCl := hN.1
          have hcur := hcm
          have hbcur := hbcur.trans bm
          have bm0 := hbcur.size
          clear bm hcm
          refine wpAnyH_ready (rs := [4]) (by kernel_rfl) (by simp) ?_
          refine AllReadyH.cons (o := _) rfl (fun K hK => ?_) AllReadyH.nil
          have hCl := hN.1
          have hbz := hbcur.size
          go_simp
          (go_at_call 91; refine (HL9.out _ _ (HIT.out _ hbcur)).mono ?_; rintro e wm2 ⟨id, l, Ac, cc, rfl, hid8, hll, hs8, os, bm⟩)
          try go_wp2_with fail
          refine hK.out _ _ ?_ (fun hHeld => ?_)
          · (try dsimp only); exact KS.out _ (hcur.next bm) (hbcur.next bm)
          clear hK K
          try simp only [Act.put, List.getElem_toArray, List.getElem_cons_succ, List.getElem_cons_zero, List.setIfInBounds_toArray, List.set_cons_zero, List.set_cons_succ]
          have hN := hN.next bm
          have hcur := hcur.next bm
          have hbcur := hbcur.next bm
          have HLL := Lib.hid hll
          rw [hll] at os
          have los := os.lt
          clear bm hll
          obtain ⟨hNl, n0, n1, n2, n3, nf⟩ := _root_.id hN
          have hwC : wr.heap.size ≤ wr.heap.size := by exact Nat.le_refl _
          have hBC : B < wr.heap.size := by omega
          refine wpAnyH_ready (rs := [6]) (by kernel_rfl) (by simp) ?_
          refine AllReadyH.cons (o := _) rfl (fun K hK => ?_) AllReadyH.nil
          go_simp
          have hqC : ∀ q, (Value.slice Ac ids.length cc).ownBlock = some q → q ≠ wr.heap.size := fun q hq => by have h8 := (los q hq).1; have h9 := hCl; omega
          have hX := ((((((((hN).set (.int .i64 h)).1).set (.int .i64 (rd : Int))).2.1).set (.string (S id))).2.2.1).set (.slice Ac ids.length cc)).2.2.2
          have os9 := (own_set (own_set (own_set (own_set os hqC 0 (.int .i64 h)) hqC 1 (.int .i64 (rd : Int))) hqC 2 (.string (S id))) hqC 3 (.slice Ac ids.length cc))
          have hcur9 := (CurX.far (CurX.far (CurX.far (CurX.far hcur hBC 0 (.int .i64 h)) hBC 1 (.int .i64 (rd : Int))) hBC 2 (.string (S id))) hBC 3 (.slice Ac ids.length cc))
          have hbcur9 := (But.setFar (But.setFar (But.setFar (But.setFar hbcur hwC 0 (.int .i64 h)) hwC 1 (.int .i64 (rd : Int))) hwC 2 (.string (S id))) hwC 3 (.slice Ac ids.length cc))
          refine hK.out _ _ ?_ (fun hHeld => ?_)
          · (try dsimp only); exact KS.out _ hcur9 hbcur9
          clear hK K
          try simp only [Act.put, List.getElem_toArray, List.getElem_cons_succ, List.getElem_cons_zero, List.setIfInBounds_toArray, List.set_cons_zero, List.set_cons_succ]
          refine wpAnyH_done (by kernel_rfl) ?_ _
          clear hHeld
          have hob9 := own_base os9 (base' := wr.heap.size) (by have h9 := hbz; omega)
          go_wp2_with fail
          generalize ((((wm2.setCell ⟨wr.heap.size, 0, none⟩ (.int .i64 h)).setCell ⟨wr.heap.size, 1, none⟩ (.int .i64 (rd : Int))).setCell ⟨wr.heap.size, 2, none⟩ (.string (S id))).setCell ⟨wr.heap.size, 3, none⟩ (.slice Ac ids.length cc)) = W9 at *
          rw [← HLL.out] at hob9 hX hqC
          go_meet
          case rel => exact ⟨wr.heap.size, rd, id, l, Ac, cc, rfl, ⟨by omega, hid8, by (have := HLL.out; omega)⟩, hs8, hob9, hX, hcur9, hbcur9, hqC, hwC⟩
      case rest =>
        obtain ⟨Cb, rd, id, l, Ac, cc, rfl, ⟨hrd, hid8, hl4⟩, hs8, HOS, hX, hcur9, hbcur9, hqC, hwC⟩ := hcut
        rename World => W9
        have hCB : Cb ≠ B := by omega
        go_wp2_with fail
        refine (HO4.out _ hcur9).mono ?_
        rintro e wA ⟨o, rfl, hcA, bA⟩
        have hbA := hbcur9.trans bA
        have hVA := HV.out.but hbA hHB
        have hXA := hX.but bA hCB
        have hR3A := hR3.but hbA (by omega)
        have hR4A := hR4.but hbA (by omega)
        have ovA := own_but (own_but HOV.out hbu (by omega)) hbA (by omega)
        have osA := own_but HOS.out bA (by have := hcur9.lt; omega)
        have hbF := (hb.trans hbu).trans hbA
        have hrA9 := hbA
        have hz45' := hz45.out
        have hn13 : w.heap.size + 2 ≤ W5.heap.size := by omega
        clear HOS hX hcur9 bA
        go_upto_if 42 with fail
        go_cut [5] from 43 to 103 (fun u wx => ∃ (L' : List ValT) (Av' : Option Addr) (vc' : Nat) (ch : Int) (id' : List UInt8) (l' : List SigT) (Ac' : Option Addr) (cc' : Nat), u = .slice Av' L'.length vc' ∧ SEnd B K w wx Hb Cb h t la vh ne da L' Av' ch (rd : Int) id' l' Ac' cc')
        case first =>
          cases o
          · go_wp2_with fail
            go_meet
            case rel => exact ⟨L, Av, vc, h, id, l, Ac, cc, rfl, ⟨by omega, by omega, by omega, by omega, by omega, own_noneX osA⟩, (fun s hs => Nat.le_trans (hs8.out s hs) (by omega)), ⟨VReads.of_own ovA, own_far ovA (by omega)⟩, ⟨SReads.of_own osA, own_far osA (by omega)⟩, hVA, hXA, hR3A, hR4A, hcA, hbF, by omega, by omega⟩
          · go_wp2_with fail
            refine (H6'.out _ hcA).mono ?_
            rintro e wB ⟨n, rfl, hn, hcB, bB⟩
            have hbA := hbF
            have hrA := hrA9
            have hbB := hbA.trans bB
            have hrB := hrA.trans bB
            have hVB := hVA.but bB hHB
            have hXB := hXA.but bB hCB
            have hR3B := hR3A.but bB (by omega)
            have hR4B := hR4A.but bB (by omega)
            have ovB := own_but ovA bB (by omega)
            have osB := own_but osA bB (by omega)
            clear hVA hXA hR3A hR4A ovA osA hcA bB
            have hn6 : n = 0 ∨ n = 1 ∨ n = 2 ∨ n = 3 ∨ n = 4 ∨ n = 5 := by omega
            rcases hn6 with rfl | rfl | rfl | rfl | rfl | rfl
            · obtain ⟨hXl, x0, x1, x2, x3, xf⟩ := _root_.id hXB
              by_cases h0 : 0 < l.length
              · have h0i : (0 : Int) < (l.length : Int) := by omega
                obtain ⟨g, cap, hv, hg0, hgl⟩ := osB.form h0
                simp only [Value.slice.injEq, true_and] at hv
                obtain ⟨rfl, rfl⟩ := hv
                have k1 : wB.cell? ⟨g, 1, none⟩ = some (.string (S l[0].sig)) := (osB.cellAt 1 (by omega)).trans (scells_at l 0 h0).2
                have hs0 : l[0].sig.length ≤ 8 := hs8.out _ (List.getElem_mem _)
                have HSS := Lib.hid (scells_set0 l h0)
                have HAS := Lib.hid fun (t : List UInt8) (q : t.length ≤ 1001) => all_set (l := l) (a := ⟨l[0].val, t⟩) (P := fun s => s.sig.length ≤ 1001) (fun s hs => Nat.le_trans (hs8.out s hs) (by omega)) q
                generalize l[0].sig = s0 at *
                generalize l[0].val = vv at *
                have hgC : Cb ≠ g := fun e => hqC g rfl e.symm
                have hBg : B < g := by omega
                have hbd := But.drew (But.refl B wB)
                go_wp2_with fail
                refine wp_region_held_drew (S := fun w' => (CurX w' B K ∧ But B wr w') ∧ w'.cell? ⟨Cb, 3, none⟩ = some (.slice (some ⟨g, 0, none⟩) l.length cc)) (by kernel_rfl) (by (try dsimp only); exact ⟨⟨hcB.drew, hrB.drew⟩, x3⟩) (fun hHeld => ?_)
                refine wpAnyH_take (i := 0) (oi := _) (v := ?v3) rfl (by kernel_rfl) (by kernel_rfl) (by kernel_rfl) (fun _ _ _ h => h) (Or.inl ⟨by kernel_rfl, ?hy3⟩) (by assumption) ?rest3
                case hy3 => (intro w' hSw; (try dsimp only at hSw); go_simp; try with_reducible rfl)
                try simp only [Act.put, List.getElem_toArray, List.getElem_cons_succ, List.getElem_cons_zero, List.setIfInBounds_toArray, List.set_cons_zero, List.set_cons_succ]
                refine wpAnyH_take (i := 1) (oi := _) (v := ?v4) rfl (by kernel_rfl) (by kernel_rfl) (by kernel_rfl) (fun _ _ _ h => h) (Or.inl ⟨by kernel_rfl, ?hy4⟩) (by assumption) ?rest4
                case hy4 => (intro w' hSw; (try dsimp only at hSw); go_simp; try with_reducible rfl)
                try simp only [Act.put, List.getElem_toArray, List.getElem_cons_succ, List.getElem_cons_zero, List.setIfInBounds_toArray, List.set_cons_zero, List.set_cons_succ]
                refine wpAnyH_take (i := 2) (oi := _) (v := ?v5) rfl (by kernel_rfl) (by kernel_rfl) (by kernel_rfl) (fun _ _ _ h => h) (Or.inl ⟨by kernel_rfl, ?hy5⟩) (by assumption) ?rest5
                case hy5 => (intro w' hSw; (try dsimp only at hSw); go_simp; try with_reducible rfl)
                try simp only [Act.put, List.getElem_toArray, List.getElem_cons_succ, List.getElem_cons_zero, List.setIfInBounds_toArray, List.set_cons_zero, List.set_cons_succ]
                refine wpAnyH_take (i := 3) (oi := _) (v := ?v6) rfl (by kernel_rfl) (by kernel_rfl) (by kernel_rfl) (fun _ _ _ h => h) (Or.inl ⟨by kernel_rfl, ?hy6⟩) (by assumption) ?rest6
                case hy6 => (intro w' hSw; (try dsimp only at hSw); go_simp; try with_reducible rfl)
                try simp only [Act.put, List.getElem_toArray, List.getElem_cons_succ, List.getElem_cons_zero, List.setIfInBounds_toArray, List.set_cons_zero, List.set_cons_succ]
                refine wpAnyH_take (i := 4) (oi := _) (v := ?v7) rfl (by kernel_rfl) (by kernel_rfl) (by kernel_rfl) (fun _ _ _ h => h) (Or.inl ⟨by kernel_rfl, ?hy7⟩) (by assumption) ?rest7
                case hy7 => (intro w' hSw; (try dsimp only at hSw); go_simp; try with_reducible rfl)
                try simp only [Act.put, List.getElem_toArray, List.getElem_cons_succ, List.getElem_cons_zero, List.setIfInBounds_toArray, List.set_cons_zero, List.set_cons_succ]
                refine wpAnyH_take (i := 5) (oi := _) (v := ?v8) rfl (by kernel_rfl) (by kernel_rfl) (by kernel_rfl) (fun _ _ _ h => h) (Or.inl ⟨by kernel_rfl, ?hy8⟩) (by assumption) ?rest8
                case hy8 => (intro w' hSw; (try dsimp only at hSw); go_simp; try with_reducible rfl)
                try simp only [Act.put, List.getElem_toArray, List.getElem_cons_succ, List.getElem_cons_zero, List.setIfInBounds_toArray, List.set_cons_zero, List.set_cons_succ]
                refine wpAnyH_take (i := 6) (oi := _) (v := ?v9) rfl (by kernel_rfl) (by kernel_rfl) (by kernel_rfl) (fun _ _ _ h => h) (Or.inl ⟨by kernel_rfl, ?hy9⟩) (by assumption) ?rest9
                case hy9 => (intro w' hSw; (try dsimp only at hSw); go_simp; try with_reducible rfl)
                try simp only [Act.put, List.getElem_toArray, List.getElem_cons_succ, List.getElem_cons_zero, List.setIfInBounds_toArray, List.set_cons_zero, List.set_cons_succ]
                have k1d : wB.drew.cell? ⟨g, 1, none⟩ = some (.string (S s0)) := k1
                refine wpAnyH_ready (rs := [7]) (by kernel_rfl) (by simp) ?_
                refine AllReadyH.cons (o := _) rfl (fun K hK => ?_) AllReadyH.nil
                go_simp
                refine hK.out _ _ ?_ (fun hHeld => ?_)
                · (try dsimp only); exact ⟨⟨hcB.drew, hrB.drew⟩, x3⟩
                clear hK K
                try simp only [Act.put, List.getElem_toArray, List.getElem_cons_succ, List.getElem_cons_zero, List.setIfInBounds_toArray, List.set_cons_zero, List.set_cons_succ]
                refine wpAnyH_ready (rs := [8]) (by kernel_rfl) (by simp) ?_
                refine AllReadyH.cons (o := _) rfl (fun K hK => ?_) AllReadyH.nil
                go_simp
                (go_at_call 50; refine (HSP.out _ s0 hcB.drew (by omega)).mono ?_; rintro e wC ⟨t', rfl, ht', hcC, bC⟩)
                try go_wp2_with fail
                refine hK.out _ _ ?_ (fun hHeld => ?_)
                · (try dsimp only); exact ⟨⟨hcC, hrB.trans (hbd.trans bC)⟩, (hXB.but (hbd.trans bC) hCB).2.2.2.2.1⟩
                clear hK K
                try simp only [Act.put, List.getElem_toArray, List.getElem_cons_succ, List.getElem_cons_zero, List.setIfInBounds_toArray, List.set_cons_zero, List.set_cons_succ]
                refine wpAnyH_take (i := 9) (oi := _) (v := ?v10) rfl (by kernel_rfl) (by kernel_rfl) (by kernel_rfl) (fun _ _ _ h => h) (Or.inl ⟨by kernel_rfl, ?hy10⟩) (by assumption) ?rest10
                case hy10 => (intro w' hSw; (try dsimp only at hSw); go_simp; try with_reducible rfl)
                try simp only [Act.put, List.getElem_toArray, List.getElem_cons_succ, List.getElem_cons_zero, List.setIfInBounds_toArray, List.set_cons_zero, List.set_cons_succ]
                refine wpAnyH_take (i := 10) (oi := _) (v := ?v11) rfl (by kernel_rfl) (by kernel_rfl) (by kernel_rfl) (fun _ _ _ h => h) (Or.inl ⟨by kernel_rfl, ?hy11⟩) (by assumption) ?rest11
                case hy11 => (intro w' hSw; (try dsimp only at hSw); go_simp; try with_reducible rfl)
                try simp only [Act.put, List.getElem_toArray, List.getElem_cons_succ, List.getElem_cons_zero, List.setIfInBounds_toArray, List.set_cons_zero, List.set_cons_succ]
                have bC := hbd.trans bC
                have hbC := hbB.trans bC
                have hrC := hrB.trans bC
                have hVC := hVB.but bC hHB
                have hXC := hXB.but bC hCB
                have hR3C := hR3B.but bC (by omega)
                have hR4C := hR4B.but bC (by omega)
                have ovC := own_but ovB bC (by omega)
                have osC := own_but osB bC (by omega)
                have kf : wC.frozen? ⟨g, 1, none⟩ = false := osC.frozenAt 1
                have hbg := bC.size
                have kc := (bC.cell (b := g) (o := 1) hgl (by omega)).trans k1
                clear k1 k1d
                refine wpAnyH_ready (rs := [11]) (by kernel_rfl) (by simp) ?_
                refine AllReadyH.cons (o := _) rfl (fun K hK => ?_) AllReadyH.nil
                go_simp
                refine hK.out _ _ ?_ (fun hHeld => ?_)
                · (try dsimp only); exact ⟨⟨hcC.far hBg _ _, hrC.setFar hg0 _ _⟩, (hXC.farX hgC 1 _).2.2.2.2.1⟩
                clear hK K
                try simp only [Act.put, List.getElem_toArray, List.getElem_cons_succ, List.getElem_cons_zero, List.setIfInBounds_toArray, List.set_cons_zero, List.set_cons_succ]
                refine wpAnyH_done (by kernel_rfl) ?_ _
                clear hHeld
                have osD := (osC.stored 1 (.string (S t'))).1
                rw [HSS.out] at osD
                have hXD := hXC.farX (g := g) (by omega) 1 (.string (S t'))
                have hR3D := hR3C.far (g := g) (by omega) 1 (.string (S t'))
                have hR4D := hR4C.farX (g := g) (by omega) 1 (.string (S t'))
                have hVD := hVC.far (g := g) (by omega) 1 (.string (S t'))
                have ovD := own_set ovC (g := g) (fun q hq => by have := (lv q hq).2; omega) 1 (.string (S t'))
                have hcD := hcC.far (g := g) (by omega) 1 (.string (S t'))
                have hbD := hbC.setFar (g := g) (by omega) 1 (.string (S t'))
                generalize wC.setCell ⟨g, 1, none⟩ (.string (S t')) = WD at *
                have hlD : (l.set 0 ⟨vv, t'⟩).length = l.length := by simp
                have hslD := HAS.out t' ht'
                generalize l.set 0 ⟨vv, t'⟩ = lD at *
                rw [← hlD] at hXD
                go_wp2_with fail
                go_meet
                case rel => exact ⟨L, Av, vc, h, id, lD, (some ⟨g, 0, none⟩), cc, rfl, ⟨by omega, by omega, by omega, by omega, by omega, (fun e => by cases e)⟩, hslD, ⟨VReads.of_own ovD, own_far ovD (by omega)⟩, ⟨sreads_own hlD osD, own_far osD (by omega)⟩, hVD, hXD, hR3D, hR4D, hcD, hbD, by omega, by omega⟩
              · have h0i : ¬ (0 : Int) < (l.length : Int) := by omega
                go_wp2_with fail
                go_meet
                case rel => exact ⟨L, Av, vc, h, id, l, Ac, cc, rfl, ⟨by omega, by omega, by omega, by omega, by omega, (own_noneX osB)⟩, (fun s hs => Nat.le_trans (hs8.out s hs) (by omega)), ⟨VReads.of_own ovB, own_far ovB (by omega)⟩, ⟨SReads.of_own osB, own_far osB (by omega)⟩, hVB, hXB, hR3B, hR4B, hcB, hbB, by omega, by omega⟩
            · obtain ⟨hXl, x0, x1, x2, x3, xf⟩ := _root_.id hXB
              have hw1 : IntKind.i64.wrap (h + 1) = h + 1 := by rw [IntKind.wrap_i64]; omega
              have hCg : ¬ Hb = Cb := by omega
              have hXD := (hXB.set (.int .i64 (h + 1))).1
              have osD := own_set osB (g := Cb) hqC 0 (.int .i64 (h + 1))
              have hR3D := hR3B.far (g := Cb) (by omega) 0 (.int .i64 (h + 1))
              have hR4D := hR4B.farX (g := Cb) (by omega) 0 (.int .i64 (h + 1))
              have hVD := hVB.far (g := Cb) (by omega) 0 (.int .i64 (h + 1))
              have ovD := own_set ovB (g := Cb) (fun q hq => by have := (lv q hq).2; omega) 0 (.int .i64 (h + 1))
              have hcD := hcB.far (g := Cb) (by omega) 0 (.int .i64 (h + 1))
              have hbD := hbB.setFar (g := Cb) (by omega) 0 (.int .i64 (h + 1))
              go_wp2_with fail
              generalize wB.setCell ⟨Cb, 0, none⟩ (.int .i64 (h + 1)) = WD at *
              go_meet
              case rel => exact ⟨L, Av, vc, (h + 1), id, l, Ac, cc, rfl, ⟨by omega, by omega, by omega, by omega, by omega, (own_noneX osD)⟩, (fun s hs => Nat.le_trans (hs8.out s hs) (by omega)), ⟨VReads.of_own ovD, own_far ovD (by omega)⟩, ⟨SReads.of_own osD, own_far osD (by omega)⟩, hVD, hXD, hR3D, hR4D, hcD, hbD, by omega, by omega⟩
            · obtain ⟨hXl, x0, x1, x2, x3, xf⟩ := _root_.id hXB
              go_wp2_with fail
              refine (HSP.out _ id hcB (by omega)).mono ?_
              rintro e wC ⟨t', rfl, ht', hcC, bC⟩
              have hbC := hbB.trans bC
              have hrC := hrB.trans bC
              have hVC := hVB.but bC hHB
              have hXC := hXB.but bC hCB
              have hR3C := hR3B.but bC (by omega)
              have hR4C := hR4B.but bC (by omega)
              have ovC := own_but ovB bC (by omega)
              have osC := own_but osB bC (by omega)
              obtain ⟨hXl9, y0, y1, y2, y3, yf⟩ := _root_.id hXC
              have hXD := (hXC.set (.string (S t'))).2.2.1
              have osD := own_set osC (g := Cb) hqC 2 (.string (S t'))
              have hR3D := hR3C.far (g := Cb) (by omega) 2 (.string (S t'))
              have hR4D := hR4C.farX (g := Cb) (by omega) 2 (.string (S t'))
              have hVD := hVC.far (g := Cb) (by omega) 2 (.string (S t'))
              have ovD := own_set ovC (g := Cb) (fun q hq => by have := (lv q hq).2; omega) 2 (.string (S t'))
              have hcD := hcC.far (g := Cb) (by omega) 2 (.string (S t'))
              have hbD := hbC.setFar (g := Cb) (by omega) 2 (.string (S t'))
              go_wp2_with fail
              generalize wC.setCell ⟨Cb, 2, none⟩ (.string (S t')) = WD at *
              go_meet
              case rel => exact ⟨L, Av, vc, h, t', l, Ac, cc, rfl, ⟨by omega, by omega, by omega, by omega, by omega, (own_noneX osD)⟩, (fun s hs => Nat.le_trans (hs8.out s hs) (by omega)), ⟨VReads.of_own ovD, own_far ovD (by omega)⟩, ⟨SReads.of_own osD, own_far osD (by omega)⟩, hVD, hXD, hR3D, hR4D, hcD, hbD, by omega, by omega⟩
            · obtain ⟨hXl, x0, x1, x2, x3, xf⟩ := _root_.id hXB
              obtain ⟨i1, hi1, hz1A, hz1B, hz1C⟩ := info_parts info_csig
              have HOSB := Lib.hid osB
              have HSRB := Lib.hid (SReads.of_own osB)
              have hnB := own_noneX osB
              have hlB := osB.lt
              have HXB := Lib.hid hXB
              have HAA := Lib.hid (all_app (l := l) (m := l) (P := fun s => s.sig.length ≤ 1001) (fun s hs => Nat.le_trans (hs8.out s hs) (by omega)) (fun s hs => Nat.le_trans (hs8.out s hs) (by omega)))
              have hzB := hbB.size
              have hbBr := hbcur9.size
              go_wp2_with (at_builtin; refine app_csigs rfl _ _ 31 rfl Tryd.underlying31 hi1 hz1A hz1B hz1C rfl HOSB.out (by omega) rfl HSRB.out hnB (by omega) ?_; intro v1 w9 o9 b9 g9 f9; obtain ⟨A9, c9, rfl⟩ := own_slice o9; obtain ⟨hXl9, y0, y1, y2, y3, yf⟩ := HXB.out.grown g9 (fun e => hqC Cb e rfl))
              have hX9 := HXB.out.grown g9 (fun e => hqC Cb e rfl)
              have hwB := hrB.size
              have ov9 := own_gb ovB g9 (fun q hq e => by have h1 := (lv q hq).2; have h2 := (hlB q e.symm).1; omega)
              have hR39 := hR3B.lowX b9 (by omega)
              have hR49 := hR4B.low b9 (by omega)
              have hV9 := hVB.lowX b9 (by omega)
              have hc9 := hcB.low b9 (by omega)
              have hb9 := hbB.low (b9.mono (by omega))
              have hq9 : ∀ q, (Value.slice A9 (l.length + l.length) c9).ownBlock = some q → q ≠ Cb := fun q hq => by
                rcases f9 with f9 | f9
                · exact hqC q (f9.symm.trans hq)
                · have h8 := HXB.out.1
                  have h7 := Option.some.inj (f9.symm.trans hq)
                  omega
              have osD := own_set o9 (g := Cb) hq9 3 (.slice A9 (l.length + l.length) c9)
              have hXD := (hX9.set (.slice A9 (l.length + l.length) c9)).2.2.2
              have hR3D := hR39.far (g := Cb) (by omega) 3 (.slice A9 (l.length + l.length) c9)
              have hR4D := hR49.farX (g := Cb) (by omega) 3 (.slice A9 (l.length + l.length) c9)
              have hVD := hV9.far (g := Cb) (by omega) 3 (.slice A9 (l.length + l.length) c9)
              have ovD := own_set ov9 (g := Cb) (fun q hq => by have := (lv q hq).2; omega) 3 (.slice A9 (l.length + l.length) c9)
              have hcD := hc9.far (g := Cb) (by omega) 3 (.slice A9 (l.length + l.length) c9)
              have hbD := hb9.setFar (g := Cb) (by omega) 3 (.slice A9 (l.length + l.length) c9)
              generalize w9.setCell ⟨Cb, 3, none⟩ (.slice A9 (l.length + l.length) c9) = WD at *
              rw [← scells_append] at osD
              have e2 : l.length + l.length = (l ++ l).length := by simp
              rw [e2] at osD hXD
              go_meet
              case rel => exact ⟨L, Av, vc, h, id, (l ++ l), A9, c9, rfl, ⟨by omega, by omega, by omega, by omega, by (rw [← e2]; omega), (own_noneX osD)⟩, HAA.out, ⟨VReads.of_own ovD, own_far ovD (by omega)⟩, ⟨SReads.of_own osD, own_far osD (by omega)⟩, hVD, hXD, hR3D, hR4D, hcD, hbD, by omega, by omega⟩
            · go_wp2_with fail
              refine (HL6.out _ hcB).mono ?_
              rintro e wC ⟨L2, Av2, vc2, rfl, hL21, hL24, ovX, hcC, bC⟩
              have hbC := hbB.trans bC
              have hrC := hrB.trans bC
              have hVC := hVB.but bC hHB
              have hXC := hXB.but bC hCB
              have hR3C := hR3B.but bC (by omega)
              have hR4C := hR4B.but bC (by omega)
              have ovC := own_but ovB bC (by omega)
              have osC := own_but osB bC (by omega)
              have ovC := ovX
              have hzC := hrB.size
              go_wp2_with fail
              go_meet
              case rel => exact ⟨L2, Av2, vc2, h, id, l, Ac, cc, rfl, ⟨by omega, by omega, by omega, by omega, by omega, (own_noneX osC)⟩, (fun s hs => Nat.le_trans (hs8.out s hs) (by omega)), ⟨VReads.of_own ovC, own_far ovC (by omega)⟩, ⟨SReads.of_own osC, own_far osC (by omega)⟩, hVC, hXC, hR3C, hR4C, hcC, hbC, by omega, by omega⟩
            · obtain ⟨i1, hi1, hz1A, hz1B, hz1C⟩ := info_parts info_csig
              go_wp2_with fail
              refine (H2.out _ hcB).mono ?_
              rintro e wC ⟨m, rfl, hm, hcC, bC⟩
              have hbC := hbB.trans bC
              have hrC := hrB.trans bC
              have hVC := hVB.but bC hHB
              have hXC := hXB.but bC hCB
              have hR3C := hR3B.but bC (by omega)
              have hR4C := hR4B.but bC (by omega)
              have ovC := own_but ovB bC (by omega)
              have osC := own_but osB bC (by omega)
              have hwm : IntKind.i64.wrap (12 + (m : Int)) = 12 + (m : Int) := by rw [IntKind.wrap_i64]; omega
              clear hVB hXB hR3B hR4B ovB osB hcB bC hVC hR3C hR4C ovC
              go_wp2_with fail
              go_loopg [] (14 - l.length) (fun gh wz => ∃ (l5 : List SigT) (A5 : Option Addr) (c5 : Nat), l5.length + gh = 14 ∧ l5.length ≤ 13 ∧ Hid (∀ s ∈ l5, s.sig.length ≤ 8) ∧ Hid (wz.ownsRow wr.heap.size 85 2 (.slice A5 l5.length c5) l5.length (scells l5)) ∧ H4 wz Cb (.int .i64 h) (.int .i64 (rd : Int)) (.string (S id)) (.slice A5 l5.length c5) ∧ CurX wz B K ∧ But B wr wz ∧ (∀ q, (Value.slice A5 l5.length c5).ownBlock = some q → q ≠ Cb))
              case atStart => exact ⟨l, Ac, cc, by omega, by omega, hs8, osC, hXC, hcC, hrC, hqC⟩
              case round =>
                obtain ⟨l5, A5, c5, hg14, h13, h58, HO5, hX5, hc5, hr5, hq5⟩ := hrel
                rename World => wz
                have hbz5 := hr5.size
                by_cases hlt : l5.length < 12 + m
                · have hlti : (l5.length : Int) < 12 + (m : Int) := by omega
                  obtain ⟨hXl, x0, x1, x2, x3, xf⟩ := _root_.id hX5
                  go_wp2_with fail
                  refine wp_region_held_drew (S := fun w' => CurX w' B K ∧ But B wr w') (by kernel_rfl) (by (try dsimp only); exact ⟨hc5.drew, hr5.drew⟩) (fun hHeld => ?_)
                  clear hXl x0 x1 x2 x3 xf
                  refine wpAnyH_take (i := 0) (oi := _) (v := ?v12) rfl (by kernel_rfl) (by kernel_rfl) (by kernel_rfl) (fun _ _ _ h => h) (Or.inl ⟨by kernel_rfl, ?hy12⟩) (by assumption) ?rest12
                  case hy12 => (intro w' hSw; (try dsimp only at hSw); go_simp; try with_reducible rfl)
                  try simp only [Act.put, List.getElem_toArray, List.getElem_cons_succ, List.getElem_cons_zero, List.setIfInBounds_toArray, List.set_cons_zero, List.set_cons_succ]
                  refine wpAnyH_take (i := 2) (oi := _) (v := ?v13) rfl (by kernel_rfl) (by kernel_rfl) (by kernel_rfl) (fun _ _ _ h => h) (Or.inl ⟨by kernel_rfl, ?hy13⟩) (by assumption) ?rest13
                  case hy13 => (intro w' hSw; (try dsimp only at hSw); go_simp; try with_reducible rfl)
                  try simp only [Act.put, List.getElem_toArray, List.getElem_cons_succ, List.getElem_cons_zero, List.setIfInBounds_toArray, List.set_cons_zero, List.set_cons_succ]
                  have hcU := hc5.drew
                  have hrU := hr5.drew
                  have hXU := hX5.drew
                  have osU := HO5.out.drew
                  refine wpAnyH_ready (rs := [1, 3]) (by kernel_rfl) (by simp) ?_
                  refine AllReadyH.cons (o := _) rfl (fun K hK => ?_) (AllReadyH.cons (o := _) rfl (fun K hK => ?_) AllReadyH.nil)
                  · obtain ⟨hXl5, x0, x1, x2, x3, xf⟩ := _root_.id hXU
                    go_simp
                    refine hK.out _ _ ?_ (fun hHeld => ?_)
                    · (try dsimp only); exact ⟨hcU, hrU⟩
                    clear hK K
                    try simp only [Act.put, List.getElem_toArray, List.getElem_cons_succ, List.getElem_cons_zero, List.setIfInBounds_toArray, List.set_cons_zero, List.set_cons_succ]
                    clear hXl5 x0 x1 x2 x3 xf
                    refine wpAnyH_ready (rs := [3]) (by kernel_rfl) (by simp) ?_
                    refine AllReadyH.cons (o := _) rfl (fun K hK => ?_) AllReadyH.nil
                    go_simp
                    (go_at_call 82; refine (H99.out _ hcU).mono ?_; rintro e wm ⟨v, rfl, hv99, hcm, bm⟩)
                    try go_wp2_with fail
                    refine hK.out _ _ ?_ (fun hHeld => ?_)
                    · (try dsimp only); exact ⟨hcm, hrU.trans bm⟩
                    clear hK K
                    try simp only [Act.put, List.getElem_toArray, List.getElem_cons_succ, List.getElem_cons_zero, List.setIfInBounds_toArray, List.set_cons_zero, List.set_cons_succ]
                    have hrU := hrU.trans bm
                    have hXU := hXU.but bm hCB
                    have osU := own_but osU bm (by omega)
                    have hcU := hcm
                    clear bm hcm
                    have hwv : IntKind.i64.wrap (1 + (v : Int)) = 1 + (v : Int) := by rw [IntKind.wrap_i64]; omega
                    refine wpAnyH_take (i := 4) (oi := _) (v := ?v14) rfl (by kernel_rfl) (by kernel_rfl) (by kernel_rfl) (fun _ _ _ h => h) (Or.inl ⟨by kernel_rfl, ?hy14⟩) (by assumption) ?rest14
                    case hy14 => (intro w' hSw; (try dsimp only at hSw); go_simp; try with_reducible rfl)
                    try simp only [Act.put, List.getElem_toArray, List.getElem_cons_succ, List.getElem_cons_zero, List.setIfInBounds_toArray, List.set_cons_zero, List.set_cons_succ]
                    refine wpAnyH_take (i := 5) (oi := _) (v := ?v15) rfl (by kernel_rfl) (by kernel_rfl) (by kernel_rfl) (fun _ _ _ h => h) (Or.inl ⟨by kernel_rfl, ?hy15⟩) (by assumption) ?rest15
                    case hy15 => (intro w' hSw; (try dsimp only at hSw); go_simp; try with_reducible rfl)
                    try simp only [Act.put, List.getElem_toArray, List.getElem_cons_succ, List.getElem_cons_zero, List.setIfInBounds_toArray, List.set_cons_zero, List.set_cons_succ]
                    refine wpAnyH_ready (rs := [6]) (by kernel_rfl) (by simp) ?_
                    refine AllReadyH.cons (o := _) rfl (fun K hK => ?_) AllReadyH.nil
                    go_simp
                    refine hK.out _ _ ?_ (fun hHeld => ?_)
                    · (try dsimp only); exact ⟨hcU.alloc _, hrU.alloc _⟩
                    clear hK K
                    try simp only [Act.put, List.getElem_toArray, List.getElem_cons_succ, List.getElem_cons_zero, List.setIfInBounds_toArray, List.set_cons_zero, List.set_cons_succ]
                    have hzU := hrU.size
                    have hrU := hrU.alloc (.cells #[.int .i64 (1 + (v : Int)), .string ⟨#[]⟩] 85)
                    have hXU := hXU.alloc (.cells #[.int .i64 (1 + (v : Int)), .string ⟨#[]⟩] 85)
                    have osU := osU.alloc (.cells #[.int .i64 (1 + (v : Int)), .string ⟨#[]⟩] 85)
                    have hcU := hcU.alloc (.cells #[.int .i64 (1 + (v : Int)), .string ⟨#[]⟩] 85)
                    refine wpAnyH_ready (rs := [7]) (by kernel_rfl) (by simp) ?_
                    refine AllReadyH.cons (o := _) rfl (fun K hK => ?_) AllReadyH.nil
                    refine step_append_lies _ rfl _ _ 31 rfl wr.heap.size 85 i1 (.agg #[.int .i64 0, .string ByteArray.empty]) 2 24 Tryd.underlying31 hi1 hz1A hz1B hz1C rfl (by decide) _ l5.length _ rfl osU ⟨wm.heap.size, 0, none⟩ 1 1 [.int .i64 (1 + (v : Int)), .string ⟨#[]⟩] rfl rfl (cells2 (by simp [go_sem]) (by simp [go_sem])) (by intro u hu; simp at hu; rcases hu with rfl | rfl <;> rfl) (by omega) (by unfold maxLen; omega) (by omega) (by simp; omega) _ rfl ?_
                    intro g cap w3 hown3 hgr3 hg3 hgl3
                    have hb3 : Below wr.heap.size (wm.alloc (.cells #[.int .i64 (1 + (v : Int)), .string ⟨#[]⟩] 85)) w3 := (Below.refl wr.heap.size _).grown hgr3 (by simp; omega) (fun q hq => by have := (osU.lt q hq).1; omega)
                    have hX3 := hXU.grown hgr3 (fun e => hq5 Cb e rfl)
                    have hc3 := hcU.low hb3 (by omega)
                    have hr3 := hrU.low hb3
                    have hgC : Cb ≠ g := by
                      rcases hg3 with hg3 | hg3
                      · exact fun e => hq5 g hg3 e.symm
                      · have h9 : (wm.alloc (.cells #[.int .i64 (1 + (v : Int)), .string ⟨#[]⟩] 85)).heap.size = wm.heap.size + 1 := by simp
                        have h8 := hXU.1
                        omega
                    obtain ⟨hXl5, x0, x1, x2, x3, xf⟩ := _root_.id hX3
                    refine hK.out _ _ ?_ (fun hHeld => ?_)
                    · (try dsimp only); exact ⟨hc3, hr3⟩
                    clear hK K
                    try simp only [Act.put, List.getElem_toArray, List.getElem_cons_succ, List.getElem_cons_zero, List.setIfInBounds_toArray, List.set_cons_zero, List.set_cons_succ]
                    refine wpAnyH_take (i := 8) (oi := _) (v := ?v16) rfl (by kernel_rfl) (by kernel_rfl) (by kernel_rfl) (fun _ _ _ h => h) (Or.inl ⟨by kernel_rfl, ?hy16⟩) (by assumption) ?rest16
                    case hy16 => (intro w' hSw; (try dsimp only at hSw); go_simp; try with_reducible rfl)
                    try simp only [Act.put, List.getElem_toArray, List.getElem_cons_succ, List.getElem_cons_zero, List.setIfInBounds_toArray, List.set_cons_zero, List.set_cons_succ]
                    refine wpAnyH_ready (rs := [9]) (by kernel_rfl) (by simp) ?_
                    refine AllReadyH.cons (o := _) rfl (fun K hK => ?_) AllReadyH.nil
                    go_simp
                    refine hK.out _ _ ?_ (fun hHeld => ?_)
                    · (try dsimp only); exact ⟨hc3.far (by omega) _ _, hr3.setFar hwC _ _⟩
                    clear hK K
                    try simp only [Act.put, List.getElem_toArray, List.getElem_cons_succ, List.getElem_cons_zero, List.setIfInBounds_toArray, List.set_cons_zero, List.set_cons_succ]
                    refine wpAnyH_done (by kernel_rfl) ?_ _
                    clear hHeld hXl5 x0 x1 x2 x3 xf
                    have oF := own_set hown3 (g := Cb) (fun q hq => by simp [Value.ownBlock] at hq; omega) 3 (.slice (some ⟨g, 0, none⟩) (l5.length + 1) cap)
                    have hXF := (hX3.set (.slice (some ⟨g, 0, none⟩) (l5.length + 1) cap)).2.2.2
                    have hcF := hc3.far (g := Cb) (by omega) 3 (.slice (some ⟨g, 0, none⟩) (l5.length + 1) cap)
                    have hrF := hr3.setFar hwC 3 (.slice (some ⟨g, 0, none⟩) (l5.length + 1) cap)
                    generalize w3.setCell ⟨Cb, 3, none⟩ (.slice (some ⟨g, 0, none⟩) (l5.length + 1) cap) = WF at *
                    have e5 : l5.length + 1 = (l5 ++ [(⟨1 + (v : Int), []⟩ : SigT)]).length := by simp
                    have HS5 := Lib.hid (all_app (l := l5) (m := [(⟨1 + (v : Int), []⟩ : SigT)]) (P := fun s => s.sig.length ≤ 8) h58.out (by intro s hs; simp at hs; subst hs; simp))
                    go_wp2_with fail
                    go_roundg (gk - 1)
                    case measure => omega
                    case rel => exact ⟨l5 ++ [⟨1 + (v : Int), []⟩], some ⟨g, 0, none⟩, cap, by (rw [← e5]; omega), by (rw [← e5]; omega), HS5, by (rw [← e5, scells_append]; exact oF), by (rw [← e5]; exact hXF), hcF, hrF, by (intro q hq; simp [Value.ownBlock] at hq; omega)⟩
                  · go_simp
                    (go_at_call 82; refine (H99.out _ hcU).mono ?_; rintro e wm ⟨v, rfl, hv99, hcm, bm⟩)
                    try go_wp2_with fail
                    refine hK.out _ _ ?_ (fun hHeld => ?_)
                    · (try dsimp only); exact ⟨hcm, hrU.trans bm⟩
                    clear hK K
                    try simp only [Act.put, List.getElem_toArray, List.getElem_cons_succ, List.getElem_cons_zero, List.setIfInBounds_toArray, List.set_cons_zero, List.set_cons_succ]
                    have hrU := hrU.trans bm
                    have hXU := hXU.but bm hCB
                    have osU := own_but osU bm (by omega)
                    have hcU := hcm
                    clear bm hcm
                    have hwv : IntKind.i64.wrap (1 + (v : Int)) = 1 + (v : Int) := by rw [IntKind.wrap_i64]; omega
                    refine wpAnyH_take (i := 4) (oi := _) (v := ?v17) rfl (by kernel_rfl) (by kernel_rfl) (by kernel_rfl) (fun _ _ _ h => h) (Or.inl ⟨by kernel_rfl, ?hy17⟩) (by assumption) ?rest17
                    case hy17 => (intro w' hSw; (try dsimp only at hSw); go_simp; try with_reducible rfl)
                    try simp only [Act.put, List.getElem_toArray, List.getElem_cons_succ, List.getElem_cons_zero, List.setIfInBounds_toArray, List.set_cons_zero, List.set_cons_succ]
                    refine wpAnyH_take (i := 5) (oi := _) (v := ?v18) rfl (by kernel_rfl) (by kernel_rfl) (by kernel_rfl) (fun _ _ _ h => h) (Or.inl ⟨by kernel_rfl, ?hy18⟩) (by assumption) ?rest18
                    case hy18 => (intro w' hSw; (try dsimp only at hSw); go_simp; try with_reducible rfl)
                    try simp only [Act.put, List.getElem_toArray, List.getElem_cons_succ, List.getElem_cons_zero, List.setIfInBounds_toArray, List.set_cons_zero, List.set_cons_succ]
                    refine wpAnyH_ready (rs := [1, 6]) (by kernel_rfl) (by simp) ?_
                    refine AllReadyH.cons (o := _) rfl (fun K hK => ?_) (AllReadyH.cons (o := _) rfl (fun K hK => ?_) AllReadyH.nil)
                    · obtain ⟨hXl5, x0, x1, x2, x3, xf⟩ := _root_.id hXU
                      go_simp
                      refine hK.out _ _ ?_ (fun hHeld => ?_)
                      · (try dsimp only); exact ⟨hcU, hrU⟩
                      clear hK K
                      try simp only [Act.put, List.getElem_toArray, List.getElem_cons_succ, List.getElem_cons_zero, List.setIfInBounds_toArray, List.set_cons_zero, List.set_cons_succ]
                      clear hXl5 x0 x1 x2 x3 xf
                      refine wpAnyH_ready (rs := [6]) (by kernel_rfl) (by simp) ?_
                      refine AllReadyH.cons (o := _) rfl (fun K hK => ?_) AllReadyH.nil
                      go_simp
                      refine hK.out _ _ ?_ (fun hHeld => ?_)
                      · (try dsimp only); exact ⟨hcU.alloc _, hrU.alloc _⟩
                      clear hK K
                      try simp only [Act.put, List.getElem_toArray, List.getElem_cons_succ, List.getElem_cons_zero, List.setIfInBounds_toArray, List.set_cons_zero, List.set_cons_succ]
                      have hzU := hrU.size
                      have hrU := hrU.alloc (.cells #[.int .i64 (1 + (v : Int)), .string ⟨#[]⟩] 85)
                      have hXU := hXU.alloc (.cells #[.int .i64 (1 + (v : Int)), .string ⟨#[]⟩] 85)
                      have osU := osU.alloc (.cells #[.int .i64 (1 + (v : Int)), .string ⟨#[]⟩] 85)
                      have hcU := hcU.alloc (.cells #[.int .i64 (1 + (v : Int)), .string ⟨#[]⟩] 85)
                      refine wpAnyH_ready (rs := [7]) (by kernel_rfl) (by simp) ?_
                      refine AllReadyH.cons (o := _) rfl (fun K hK => ?_) AllReadyH.nil
                      refine step_append_lies _ rfl _ _ 31 rfl wr.heap.size 85 i1 (.agg #[.int .i64 0, .string ByteArray.empty]) 2 24 Tryd.underlying31 hi1 hz1A hz1B hz1C rfl (by decide) _ l5.length _ rfl osU ⟨wm.heap.size, 0, none⟩ 1 1 [.int .i64 (1 + (v : Int)), .string ⟨#[]⟩] rfl rfl (cells2 (by simp [go_sem]) (by simp [go_sem])) (by intro u hu; simp at hu; rcases hu with rfl | rfl <;> rfl) (by omega) (by unfold maxLen; omega) (by omega) (by simp; omega) _ rfl ?_
                      intro g cap w3 hown3 hgr3 hg3 hgl3
                      have hb3 : Below wr.heap.size (wm.alloc (.cells #[.int .i64 (1 + (v : Int)), .string ⟨#[]⟩] 85)) w3 := (Below.refl wr.heap.size _).grown hgr3 (by simp; omega) (fun q hq => by have := (osU.lt q hq).1; omega)
                      have hX3 := hXU.grown hgr3 (fun e => hq5 Cb e rfl)
                      have hc3 := hcU.low hb3 (by omega)
                      have hr3 := hrU.low hb3
                      have hgC : Cb ≠ g := by
                        rcases hg3 with hg3 | hg3
                        · exact fun e => hq5 g hg3 e.symm
                        · have h9 : (wm.alloc (.cells #[.int .i64 (1 + (v : Int)), .string ⟨#[]⟩] 85)).heap.size = wm.heap.size + 1 := by simp
                          have h8 := hXU.1
                          omega
                      obtain ⟨hXl5, x0, x1, x2, x3, xf⟩ := _root_.id hX3
                      refine hK.out _ _ ?_ (fun hHeld => ?_)
                      · (try dsimp only); exact ⟨hc3, hr3⟩
                      clear hK K
                      try simp only [Act.put, List.getElem_toArray, List.getElem_cons_succ, List.getElem_cons_zero, List.setIfInBounds_toArray, List.set_cons_zero, List.set_cons_succ]
                      refine wpAnyH_take (i := 8) (oi := _) (v := ?v19) rfl (by kernel_rfl) (by kernel_rfl) (by kernel_rfl) (fun _ _ _ h => h) (Or.inl ⟨by kernel_rfl, ?hy19⟩) (by assumption) ?rest19
                      case hy19 => (intro w' hSw; (try dsimp only at hSw); go_simp; try with_reducible rfl)
                      try simp only [Act.put, List.getElem_toArray, List.getElem_cons_succ, List.getElem_cons_zero, List.setIfInBounds_toArray, List.set_cons_zero, List.set_cons_succ]
                      refine wpAnyH_ready (rs := [9]) (by kernel_rfl) (by simp) ?_
                      refine AllReadyH.cons (o := _) rfl (fun K hK => ?_) AllReadyH.nil
                      go_simp
                      refine hK.out _ _ ?_ (fun hHeld => ?_)
                      · (try dsimp only); exact ⟨hc3.far (by omega) _ _, hr3.setFar hwC _ _⟩
                      clear hK K
                      try simp only [Act.put, List.getElem_toArray, List.getElem_cons_succ, List.getElem_cons_zero, List.setIfInBounds_toArray, List.set_cons_zero, List.set_cons_succ]
                      refine wpAnyH_done (by kernel_rfl) ?_ _
                      clear hHeld hXl5 x0 x1 x2 x3 xf
                      have oF := own_set hown3 (g := Cb) (fun q hq => by simp [Value.ownBlock] at hq; omega) 3 (.slice (some ⟨g, 0, none⟩) (l5.length + 1) cap)
                      have hXF := (hX3.set (.slice (some ⟨g, 0, none⟩) (l5.length + 1) cap)).2.2.2
                      have hcF := hc3.far (g := Cb) (by omega) 3 (.slice (some ⟨g, 0, none⟩) (l5.length + 1) cap)
                      have hrF := hr3.setFar hwC 3 (.slice (some ⟨g, 0, none⟩) (l5.length + 1) cap)
                      generalize w3.setCell ⟨Cb, 3, none⟩ (.slice (some ⟨g, 0, none⟩) (l5.length + 1) cap) = WF at *
                      have e5 : l5.length + 1 = (l5 ++ [(⟨1 + (v : Int), []⟩ : SigT)]).length := by simp
                      have HS5 := Lib.hid (all_app (l := l5) (m := [(⟨1 + (v : Int), []⟩ : SigT)]) (P := fun s => s.sig.length ≤ 8) h58.out (by intro s hs; simp at hs; subst hs; simp))
                      go_wp2_with fail
                      go_roundg (gk - 1)
                      case measure => omega
                      case rel => exact ⟨l5 ++ [⟨1 + (v : Int), []⟩], some ⟨g, 0, none⟩, cap, by (rw [← e5]; omega), by (rw [← e5]; omega), HS5, by (rw [← e5, scells_append]; exact oF), by (rw [← e5]; exact hXF), hcF, hrF, by (intro q hq; simp [Value.ownBlock] at hq; omega)⟩
                    · go_simp
                      refine hK.out _ _ ?_ (fun hHeld => ?_)
                      · (try dsimp only); exact ⟨hcU.alloc _, hrU.alloc _⟩
                      clear hK K
                      try simp only [Act.put, List.getElem_toArray, List.getElem_cons_succ, List.getElem_cons_zero, List.setIfInBounds_toArray, List.set_cons_zero, List.set_cons_succ]
                      have hzU := hrU.size
                      have hrU := hrU.alloc (.cells #[.int .i64 (1 + (v : Int)), .string ⟨#[]⟩] 85)
                      have hXU := hXU.alloc (.cells #[.int .i64 (1 + (v : Int)), .string ⟨#[]⟩] 85)
                      have osU := osU.alloc (.cells #[.int .i64 (1 + (v : Int)), .string ⟨#[]⟩] 85)
                      have hcU := hcU.alloc (.cells #[.int .i64 (1 + (v : Int)), .string ⟨#[]⟩] 85)
                      refine wpAnyH_ready (rs := [1]) (by kernel_rfl) (by simp) ?_
                      refine AllReadyH.cons (o := _) rfl (fun K hK => ?_) AllReadyH.nil
                      obtain ⟨hXl5, x0, x1, x2, x3, xf⟩ := _root_.id hXU
                      go_simp
                      refine hK.out _ _ ?_ (fun hHeld => ?_)
                      · (try dsimp only); exact ⟨hcU, hrU⟩
                      clear hK K
                      try simp only [Act.put, List.getElem_toArray, List.getElem_cons_succ, List.getElem_cons_zero, List.setIfInBounds_toArray, List.set_cons_zero, List.set_cons_succ]
                      clear hXl5 x0 x1 x2 x3 xf
                      refine wpAnyH_ready (rs := [7]) (by kernel_rfl) (by simp) ?_
                      refine AllReadyH.cons (o := _) rfl (fun K hK => ?_) AllReadyH.nil
                      refine step_append_lies _ rfl _ _ 31 rfl wr.heap.size 85 i1 (.agg #[.int .i64 0, .string ByteArray.empty]) 2 24 Tryd.underlying31 hi1 hz1A hz1B hz1C rfl (by decide) _ l5.length _ rfl osU ⟨wm.heap.size, 0, none⟩ 1 1 [.int .i64 (1 + (v : Int)), .string ⟨#[]⟩] rfl rfl (cells2 (by simp [go_sem]) (by simp [go_sem])) (by intro u hu; simp at hu; rcases hu with rfl | rfl <;> rfl) (by omega) (by unfold maxLen; omega) (by omega) (by simp; omega) _ rfl ?_
                      intro g cap w3 hown3 hgr3 hg3 hgl3
                      have hb3 : Below wr.heap.size (wm.alloc (.cells #[.int .i64 (1 + (v : Int)), .string ⟨#[]⟩] 85)) w3 := (Below.refl wr.heap.size _).grown hgr3 (by simp; omega) (fun q hq => by have := (osU.lt q hq).1; omega)
                      have hX3 := hXU.grown hgr3 (fun e => hq5 Cb e rfl)
                      have hc3 := hcU.low hb3 (by omega)
                      have hr3 := hrU.low hb3
                      have hgC : Cb ≠ g := by
                        rcases hg3 with hg3 | hg3
                        · exact fun e => hq5 g hg3 e.symm
                        · have h9 : (wm.alloc (.cells #[.int .i64 (1 + (v : Int)), .string ⟨#[]⟩] 85)).heap.size = wm.heap.size + 1 := by simp
                          have h8 := hXU.1
                          omega
                      obtain ⟨hXl5, x0, x1, x2, x3, xf⟩ := _root_.id hX3
                      refine hK.out _ _ ?_ (fun hHeld => ?_)
                      · (try dsimp only); exact ⟨hc3, hr3⟩
                      clear hK K
                      try simp only [Act.put, List.getElem_toArray, List.getElem_cons_succ, List.getElem_cons_zero, List.setIfInBounds_toArray, List.set_cons_zero, List.set_cons_succ]
                      refine wpAnyH_take (i := 8) (oi := _) (v := ?v20) rfl (by kernel_rfl) (by kernel_rfl) (by kernel_rfl) (fun _ _ _ h => h) (Or.inl ⟨by kernel_rfl, ?hy20⟩) (by assumption) ?rest20
                      case hy20 => (intro w' hSw; (try dsimp only at hSw); go_simp; try with_reducible rfl)
                      try simp only [Act.put, List.getElem_toArray, List.getElem_cons_succ, List.getElem_cons_zero, List.setIfInBounds_toArray, List.set_cons_zero, List.set_cons_succ]
                      refine wpAnyH_ready (rs := [9]) (by kernel_rfl) (by simp) ?_
                      refine AllReadyH.cons (o := _) rfl (fun K hK => ?_) AllReadyH.nil
                      go_simp
                      refine hK.out _ _ ?_ (fun hHeld => ?_)
                      · (try dsimp only); exact ⟨hc3.far (by omega) _ _, hr3.setFar hwC _ _⟩
                      clear hK K
                      try simp only [Act.put, List.getElem_toArray, List.getElem_cons_succ, List.getElem_cons_zero, List.setIfInBounds_toArray, List.set_cons_zero, List.set_cons_succ]
                      refine wpAnyH_done (by kernel_rfl) ?_ _
                      clear hHeld hXl5 x0 x1 x2 x3 xf
                      have oF := own_set hown3 (g := Cb) (fun q hq => by simp [Value.ownBlock] at hq; omega) 3 (.slice (some ⟨g, 0, none⟩) (l5.length + 1) cap)
                      have hXF := (hX3.set (.slice (some ⟨g, 0, none⟩) (l5.length + 1) cap)).2.2.2
                      have hcF := hc3.far (g := Cb) (by omega) 3 (.slice (some ⟨g, 0, none⟩) (l5.length + 1) cap)
                      have hrF := hr3.setFar hwC 3 (.slice (some ⟨g, 0, none⟩) (l5.length + 1) cap)
                      generalize w3.setCell ⟨Cb, 3, none⟩ (.slice (some ⟨g, 0, none⟩) (l5.length + 1) cap) = WF at *
                      have e5 : l5.length + 1 = (l5 ++ [(⟨1 + (v : Int), []⟩ : SigT)]).length := by simp
                      have HS5 := Lib.hid (all_app (l := l5) (m := [(⟨1 + (v : Int), []⟩ : SigT)]) (P := fun s => s.sig.length ≤ 8) h58.out (by intro s hs; simp at hs; subst hs; simp))
                      go_wp2_with fail
                      go_roundg (gk - 1)
                      case measure => omega
                      case rel => exact ⟨l5 ++ [⟨1 + (v : Int), []⟩], some ⟨g, 0, none⟩, cap, by (rw [← e5]; omega), by (rw [← e5]; omega), HS5, by (rw [← e5, scells_append]; exact oF), by (rw [← e5]; exact hXF), hcF, hrF, by (intro q hq; simp [Value.ownBlock] at hq; omega)⟩
                · have hlti : ¬ (l5.length : Int) < 12 + (m : Int) := by omega
                  obtain ⟨hXl, x0, x1, x2, x3, xf⟩ := _root_.id hX5
                  have hVD := HV.out.but hr5 hHB
                  have hR3D := hR3.but hr5 (by omega)
                  have hR4D := hR4.but hr5 (by omega)
                  have ovD := own_but (own_but HOV.out hbu (by omega)) hr5 (by omega)
                  have hbD := (hb.trans hbu).trans hr5
                  have osD := HO5.out
                  have hXD := hX5
                  have hcD := hc5
                  go_wp2_with fail
                  go_meet
                  case rel => exact ⟨L, Av, vc, h, id, l5, A5, c5, rfl, ⟨by omega, by omega, by omega, by omega, by omega, (own_noneX osD)⟩, (fun s hs => Nat.le_trans (h58.out s hs) (by omega)), ⟨VReads.of_own ovD, own_far ovD (by omega)⟩, ⟨SReads.of_own osD, own_far osD (by omega)⟩, hVD, hXD, hR3D, hR4D, hcD, hbD, by omega, by omega⟩
        case rest =>
          obtain ⟨L', Av', vc', ch, id', l', Ac', cc', rfl, ⟨hL4', hch1, hch2, hid', hl13, hAc⟩, hsg, hvr, hsr, hVA, hXA, hR3A, hR4A, hcA, hbF, hHb2, hCb2⟩ := hcut
          rename World => WZ
          obtain ⟨hVl, v0, v1, v2, v3, v4, v5, vf⟩ := hVA
          obtain ⟨hXl, x0, x1, x2, x3, xf⟩ := hXA
          obtain ⟨hR3l, r0, r1, r2, r3, r4, r5, rf⟩ := hR3A
          obtain ⟨hR4l, q0, q1, q2, q3, qf⟩ := hR4A
          have hd1 : ¬ Hb = w.heap.size := by omega
          have hd2 : ¬ Hb = w.heap.size + 1 := by omega
          have hd3 : ¬ w.heap.size = Hb := by omega
          have hd4 : ¬ w.heap.size + 1 = Hb := by omega
          have hd5 : ¬ Cb = w.heap.size := by omega
          have hd6 : ¬ Cb = w.heap.size + 1 := by omega
          have hvl4 : vh.length ≤ 21 := by omega
          go_wp2_with fail
          go_region
          all_goals
            go_wp2_with fail
            refine bodyPost_ret (v := .tuple #[.slice Av' L'.length vc', .agg #[.int .i64 h, .int .i64 t, .string (S la), .string (S vh), .string (S ne), .string (S da)], .agg #[.int .i64 ch, .int .i64 (rd : Int), .string (S id'), .slice Ac' l'.length cc']]) (by simp [results, Tryd.results53, go_sem, *]) rfl ⟨L', Av', vc', h, t, la, vh, ne, da, ch, rd, id', l', Ac', cc', rfl, ⟨by omega, by omega, by omega, by omega, by omega, by omega, by omega, by omega, by omega, by omega, by omega, by omega, by omega, by omega, by omega, hAc⟩, hsg, ?_, ?_, ?_, ?_⟩
            · refine Lib.hid (far_weak ?_)
              repeat (first | with_reducible exact hvr | with_reducible refine vr_drew ?_ | with_reducible refine vr_set ?_ (by omega) _ _)
            · refine Lib.hid (far_weak ?_)
              repeat (first | with_reducible exact hsr | with_reducible refine sr_drew ?_ | with_reducible refine sr_set ?_ (by omega) _ _)
            · repeat (first | with_reducible exact hcA | with_reducible refine CurX.drew ?_ | with_reducible refine CurX.far ?_ (by omega) _ _)
            · repeat (first | with_reducible exact hbF | with_reducible refine But.drew ?_ | with_reducible refine But.setFar ?_ (by omega) _ _)
end Go.Proofs.YtecimgkgdpnaeaaDoor

/-
  DrawShowCommit, DrawReadCommit, DrawCommitOk.
-/
namespace Go.Proofs.YtecimgkgdpnaeaaDoor
open Go.ChangeShapes Go.WideShapes Go.ChangeAt Go.RowKit
set_option linter.unusedVariables false
set_option linter.unusedSimpArgs false
set_option maxRecDepth 100000

theorem sShowCommit_flat (h r : Int) (id : List UInt8) (l : List SigT) (A : Option Addr) (c : Nat) (w : World) (hid : id.length ≤ 9223372036854775807) (hn : l.length ≤ 9223372036854775807) (hR : SReads w w.heap.size A l) (hm : ∀ s ∈ l, s.sig.length ≤ 9223372036854775807) :
    Calls Tryd.prog 19 #[.agg #[.int .i64 h, .int .i64 r, .string (S id), .slice A l.length c]] w fun e w' => e = .returned (.string (S (showCommitS ⟨h, r, id, l⟩))) ∧ Below w.heap.size w w' := sShowCommit_any ⟨h, r, id, l⟩ A c w hid hn hR hm
theorem showSigs_len : ∀ l : List SigT, l.all sigOk = true → (l.flatMap showSig).length ≤ 32 * l.length
  | [], _ => by simp
  | s :: t, h => by
    rw [List.all_cons, Bool.and_eq_true] at h
    have ih := showSigs_len t h.2
    have h1 := h.1
    unfold sigOk at h1
    rw [Bool.and_eq_true, decide_eq_true_eq] at h1
    have q1 := varS_len s.val
    have q2 := sized_len8 s.sig
    rw [List.flatMap_cons, List.length_append, List.length_cons]
    have q3 : (showSig s).length = (varS s.val).length + (sizedS s.sig).length := by unfold showSig; rw [List.length_append]
    have q4 := h1.2
    omega
theorem showCommitS_len (x : CommitT) : (showCommitS x).length ≤ 1000 := by
  unfold showCommitS
  split
  · next h =>
    obtain ⟨h1, h2⟩ := h
    have q := showSigs_len _ h2
    unfold headC at h1
    simp only [Bool.and_eq_true, decide_eq_true_eq] at h1
    have q0 : x.id.length ≤ 8 := by have := h1.1.2; unfold isIdB at this; simp only [Bool.or_eq_true, beq_iff_eq] at this; omega
    have q1 := varS_len x.h
    have q2 := varS_len x.r
    have q3 := sized_len8 x.id
    have q4 := varS_len (x.sigs.length : Int)
    simp only [List.length_append]
    omega
  · simp
/-- Signatures, read through a store into another block. -/
theorem sr_low {w : World} {A : Option Addr} {l : List SigT} {g : Nat} (h : SReads w w.heap.size A l) (hg : ∀ q, A = some q → q.block ≠ g) (i : Nat) (u : Value) : SReads (w.setCell ⟨g, i, none⟩ u) (w.setCell ⟨g, i, none⟩ u).heap.size A l := by
  intro hl
  obtain ⟨b, off, rfl, hb, hc⟩ := h hl
  have hk := hg _ rfl
  have e : (w.setCell ⟨g, i, none⟩ u).heap[b]? = w.heap[b]? := Below.heap_setCell _ _ _ _ (by intro e; exact hk e)
  exact ⟨b, off, rfl, by simpa [World.setCell] using hb, fun j hj => ⟨(World.cell?_of_block (w := w) (a := ⟨b, _, none⟩) e).trans (hc j hj).1, (World.cell?_of_block (w := w) (a := ⟨b, _, none⟩) e).trans (hc j hj).2⟩⟩
theorem vr_low {w : World} {A : Option Addr} {l : List ValT} {g : Nat} (h : VReads w w.heap.size A l) (hg : ∀ q, A = some q → q.block ≠ g) (i : Nat) (u : Value) : VReads (w.setCell ⟨g, i, none⟩ u) (w.setCell ⟨g, i, none⟩ u).heap.size A l := by
  intro hl
  obtain ⟨b, off, rfl, hb, hc⟩ := h hl
  have hk := hg _ rfl
  have e : (w.setCell ⟨g, i, none⟩ u).heap[b]? = w.heap[b]? := Below.heap_setCell _ _ _ _ (by intro e; exact hk e)
  exact ⟨b, off, rfl, by simpa [World.setCell] using hb, fun j hj => ⟨(World.cell?_of_block (w := w) (a := ⟨b, _, none⟩) e).trans (hc j hj).1, (World.cell?_of_block (w := w) (a := ⟨b, _, none⟩) e).trans (hc j hj).2⟩⟩
theorem sr_drw {w : World} {A : Option Addr} {l : List SigT} (h : SReads w w.heap.size A l) : SReads w.drew w.drew.heap.size A l := h
theorem vr_drw {w : World} {A : Option Addr} {l : List ValT} (h : VReads w w.heap.size A l) : VReads w.drew w.drew.heap.size A l := h

set_option maxHeartbeats 4000000 in
theorem drawShowCommit_in (K : Cd) (w : World) (hl : K.l.length ≤ 1048576) (hR : BReads w w.heap.size K.A K.l) :
    Calls Tryd.prog 13 #[.slice K.A K.l.length K.c] w fun e w' => ∃ (ch cr : Int) (id : List UInt8) (l : List SigT) (Ac : Option Addr) (cc : Nat), e = .returned (.agg #[.int .i64 ch, .int .i64 cr, .string (S id), .slice Ac l.length cc]) ∧ (-1 ≤ ch ∧ ch ≤ 1000002 ∧ 0 ≤ cr ∧ cr ≤ 2 ∧ id.length ≤ 1001 ∧ l.length ≤ 13 ∧ (Ac = none → cc = 0)) ∧ Hid (∀ s ∈ l, s.sig.length ≤ 1001) ∧ Hid (SReads w' w'.heap.size Ac l) ∧ Below w.heap.size w w' := by
  have hR0 := H4.new w 33 (.int .i64 0) (.int .i64 0) (.string ⟨#[]⟩) (.slice none 0 0)
  have hb0 := (Below.refl w.heap.size w).alloc (Nat.le_refl _) (.cells #[.int .i64 0, .int .i64 0, .string ⟨#[]⟩, .slice none 0 0] 33)
  have HN := Lib.hid fun (W : World) (h : Below w.heap.size w W) => new_in K W hl ((hR.below h (Nat.le_refl _)).more h.size)
  have H7 := Lib.hid fun (B : Nat) (W : World) (h : CurX W B K) => l9Some_in B K W h hl
  clear hR
  go_enter Tryd.func13, Tryd.ntmps13
  go_wp2_with fail
  generalize hW0 : w.alloc (.cells #[.int .i64 0, .int .i64 0, .string ⟨#[]⟩, .slice none 0 0] 33) = W0 at *
  have hz0 : W0.heap.size = w.heap.size + 1 := by rw [← hW0]; simp
  refine (HN.out _ hb0).mono ?_
  rintro e w1 ⟨rfl, c1, b1⟩
  have hR1 := hR0.next b1
  have hb1 := Below.next hb0 b1
  have hz1 := b1.size
  rw [hz0] at c1 ⊢
  clear hR0 hb0 b1 HN hW0
  generalize hB : w.heap.size + 1 = B at *
  go_wp2_with fail
  refine (H7.out B _ c1).mono ?_
  rintro e w2 ⟨L, Av, vc, h, t, la, va, ne, da, ch, cr, id, l, Ac, cc, rfl, ⟨hL4, hh1, hh2, ht1, ht2, hla, hva, hne, hda, hc1, hc2, hr1, hr2, hid, hl13, hAc⟩, hsg, hvr, hsr, c2, b2⟩
  have hb2 := Below.trans hb1 (b2.below (by omega) hb1.size)
  have hz2 := b2.size
  have hR3 := ((hR1.but b2 (by omega)).alloc (.cells #[.int .i64 h, .int .i64 t, .string (S la), .string (S va), .string (S ne), .string (S da)] 25)).alloc (.cells #[.int .i64 ch, .int .i64 cr, .string (S id), .slice Ac l.length cc] 33)
  have hSR := hsr.out.1.to (((Below.refl _ w2).alloc (Nat.le_refl _) (.cells #[.int .i64 h, .int .i64 t, .string (S la), .string (S va), .string (S ne), .string (S da)] 25)).alloc (by simp) (.cells #[.int .i64 ch, .int .i64 cr, .string (S id), .slice Ac l.length cc] 33))
  have hfar : ∀ q, Ac = some q → q.block ≠ w.heap.size := fun q hq => by have := hsr.out.2 q hq; omega
  have HSR := Lib.hid hSR
  have HF := Lib.hid hfar
  have HB := Lib.hid ((hb2.alloc hb2.size (.cells #[.int .i64 h, .int .i64 t, .string (S la), .string (S va), .string (S ne), .string (S da)] 25)).alloc (by simp; have := hb2.size; omega) (.cells #[.int .i64 ch, .int .i64 cr, .string (S id), .slice Ac l.length cc] 33))
  have HSZ : ((w2.alloc (.cells #[.int .i64 h, .int .i64 t, .string (S la), .string (S va), .string (S ne), .string (S da)] 25)).alloc (.cells #[.int .i64 ch, .int .i64 cr, .string (S id), .slice Ac l.length cc] 33)).heap.size = w2.heap.size + 2 := by simp
  obtain ⟨hRl, r0, r1, r2, r3, rf⟩ := hR3
  have hd1 : ¬ w.heap.size = w2.heap.size := by omega
  have hd2 : ¬ w.heap.size = w2.heap.size + 1 := by omega
  have hd3 : ¬ w2.heap.size = w.heap.size := by omega
  have hd4 : ¬ w2.heap.size + 1 = w.heap.size := by omega
  clear hsr hvr hR1 b2 hb1 hSR hfar hb2
  go_wp2_with fail
  refine bodyPost_ret (v := .agg #[.int .i64 ch, .int .i64 cr, .string (S id), .slice Ac l.length cc]) (by simp [results, Tryd.results13, go_sem, *]) rfl ⟨ch, cr, id, l, Ac, cc, rfl, ⟨hc1, hc2, hr1, hr2, hid, hl13, hAc⟩, hsg, ?_, ?_⟩
  · refine Lib.hid ?_
    repeat (first | with_reducible exact HSR.out | with_reducible refine sr_drw ?_ | with_reducible refine sr_low ?_ HF.out _ _)
  · repeat (first | with_reducible exact HB.out | with_reducible refine Below.drew ?_ | with_reducible refine Below.setCell ?_ (by first | omega | (simp <;> omega)) _)

set_option maxHeartbeats 4000000 in
theorem drawReadCommit_in (K : Cd) (w : World) (hl : K.l.length ≤ 1048576) (hR : BReads w w.heap.size K.A K.l) :
    Calls Tryd.prog 16 #[.slice K.A K.l.length K.c] w fun e w' => ∃ t : List UInt8, e = .returned (.string (S t)) ∧ t.length ≤ 1001 ∧ Below w.heap.size w w' := by
  have HN := Lib.hid (new_in K w hl hR)
  have H7 := Lib.hid fun (B : Nat) (W : World) (h : CurX W B K) => l9Some_in B K W h hl
  have HO := Lib.hid fun (B : Nat) (W : World) (h : CurX W B K) => once_in B K 3 W h hl (by omega) (by omega)
  have HSP := Lib.hid fun (B : Nat) (W : World) (t : List UInt8) (h : CurX W B K) (h2 : t.length ≤ 1000) => spoil_in B K t W h h2 hl
  go_enter Tryd.func16, Tryd.ntmps16
  go_wp2_with fail
  refine HN.out.mono ?_
  rintro e w1 ⟨rfl, c1, b1⟩
  have hz1 := b1.size
  go_wp2_with fail
  refine (H7.out w.heap.size _ c1).mono ?_
  rintro e w2 ⟨L, Av, vc, h, t, la, va, ne, da, ch, cr, id, l, Ac, cc, rfl, ⟨hL4, hh1, hh2, ht1, ht2, hla, hva, hne, hda, hc1, hc2, hr1, hr2, hid, hl13, hAc⟩, hsg, hvr, hsr, c2, b2⟩
  have hb2 := b1.trans (b2.below (Nat.le_refl _) hz1)
  have hz2 := b2.size
  have HSR := Lib.hid (hsr.out.1.to (((Below.refl _ w2).alloc (Nat.le_refl _) (.cells #[.int .i64 h, .int .i64 t, .string (S la), .string (S va), .string (S ne), .string (S da)] 25)).alloc (by simp) (.cells #[.int .i64 ch, .int .i64 cr, .string (S id), .slice Ac l.length cc] 33)))
  have hsl := showCommitS_len ⟨ch, cr, id, l⟩
  have HSH := Lib.hid fun (W : World) (q : SReads W W.heap.size Ac l) => sShowCommit_flat ch cr id l Ac cc W (by omega) (by omega) q (fun s hs => by have := hsg.out s hs; omega)
  generalize showCommitS ⟨ch, cr, id, l⟩ = s at *
  have c3 := (c2.alloc (.cells #[.int .i64 h, .int .i64 t, .string (S la), .string (S va), .string (S ne), .string (S da)] 25)).alloc (.cells #[.int .i64 ch, .int .i64 cr, .string (S id), .slice Ac l.length cc] 33)
  have hb3 := (hb2.alloc hb2.size (.cells #[.int .i64 h, .int .i64 t, .string (S la), .string (S va), .string (S ne), .string (S da)] 25)).alloc (by simp; have := hb2.size; omega) (.cells #[.int .i64 ch, .int .i64 cr, .string (S id), .slice Ac l.length cc] 33)
  clear hsr hvr hsg hAc
  go_wp2_with fail
  generalize (w2.alloc (.cells #[.int .i64 h, .int .i64 t, .string (S la), .string (S va), .string (S ne), .string (S da)] 25)).alloc (.cells #[.int .i64 ch, .int .i64 cr, .string (S id), .slice Ac l.length cc] 33) = W3 at *
  refine (HSH.out _ HSR.out).mono ?_
  rintro e w3 ⟨rfl, b3⟩
  have c3 := c3.next b3
  have hb3 := hb3.trans (b3.mono hb3.size)
  go_wp2_with fail
  refine (HO.out w.heap.size _ c3).mono ?_
  rintro e w4 ⟨o, rfl, c4, b4⟩
  have hb4 := hb3.trans (b4.below (Nat.le_refl _) hb3.size)
  cases o
  · go_wp2
    go_ret
    exact ⟨s, rfl, by omega, hb4⟩
  · go_wp2_with fail
    refine (HSP.out w.heap.size _ s c4 (by omega)).mono ?_
    rintro e w5 ⟨t', rfl, ht', c5, b5⟩
    have hb5 := hb4.trans (b5.below (Nat.le_refl _) hb4.size)
    go_wp2
    go_ret
    exact ⟨t', rfl, ht', hb5⟩

set_option maxHeartbeats 4000000 in
theorem drawCommitOk_in (K : Cd) (w : World) (hl : K.l.length ≤ 1048576) (hR : BReads w w.heap.size K.A K.l) :
    Calls Tryd.prog 31 #[.slice K.A K.l.length K.c] w fun e w' => ∃ (L : List ValT) (Av : Option Addr) (vc : Nat) (h t : Int) (la va ne da : List UInt8) (ch cr : Int) (id : List UInt8) (l : List SigT) (Ac : Option Addr) (cc : Nat), e = .returned (.tuple #[.slice Av L.length vc, .agg #[.int .i64 h, .int .i64 t, .string (S la), .string (S va), .string (S ne), .string (S da)], .agg #[.int .i64 ch, .int .i64 cr, .string (S id), .slice Ac l.length cc]]) ∧ (L.length ≤ 4 ∧ -1 ≤ h ∧ h ≤ 1000001 ∧ -1 ≤ t ∧ t ≤ 1000001 ∧ la.length ≤ 21 ∧ va.length ≤ 21 ∧ ne.length ≤ 21 ∧ da.length ≤ 21 ∧ -1 ≤ ch ∧ ch ≤ 1000002 ∧ 0 ≤ cr ∧ cr ≤ 2 ∧ id.length ≤ 1001 ∧ l.length ≤ 13 ∧ (Ac = none → cc = 0)) ∧ Hid (∀ s ∈ l, s.sig.length ≤ 1001) ∧ Hid (VReads w' w'.heap.size Av L) ∧ Hid (SReads w' w'.heap.size Ac l) ∧ Below w.heap.size w w' := by
  have hR0 := (H6.new w 25 (.int .i64 0) (.int .i64 0) (.string ⟨#[]⟩) (.string ⟨#[]⟩) (.string ⟨#[]⟩) (.string ⟨#[]⟩)).alloc (.cells #[.int .i64 0, .int .i64 0, .string ⟨#[]⟩, .slice none 0 0] 33)
  have hQ0 := H4.new (w.alloc (.cells #[.int .i64 0, .int .i64 0, .string ⟨#[]⟩, .string ⟨#[]⟩, .string ⟨#[]⟩, .string ⟨#[]⟩] 25)) 33 (.int .i64 0) (.int .i64 0) (.string ⟨#[]⟩) (.slice none 0 0)
  have hsz : (w.alloc (.cells #[.int .i64 0, .int .i64 0, .string ⟨#[]⟩, .string ⟨#[]⟩, .string ⟨#[]⟩, .string ⟨#[]⟩] 25)).heap.size = w.heap.size + 1 := by simp
  rw [hsz] at hQ0
  have hb0 := ((Below.refl w.heap.size w).alloc (Nat.le_refl _) (.cells #[.int .i64 0, .int .i64 0, .string ⟨#[]⟩, .string ⟨#[]⟩, .string ⟨#[]⟩, .string ⟨#[]⟩] 25)).alloc (by simp) (.cells #[.int .i64 0, .int .i64 0, .string ⟨#[]⟩, .slice none 0 0] 33)
  have HN := Lib.hid fun (W : World) (h : Below w.heap.size w W) => new_in K W hl ((hR.below h (Nat.le_refl _)).more h.size)
  have H7 := Lib.hid fun (B : Nat) (W : World) (h : CurX W B K) => l9Some_in B K W h hl
  clear hR hsz
  go_enter Tryd.func31, Tryd.ntmps31
  go_wp2_with fail
  have hz0 : ((w.alloc (.cells #[.int .i64 0, .int .i64 0, .string ⟨#[]⟩, .string ⟨#[]⟩, .string ⟨#[]⟩, .string ⟨#[]⟩] 25)).alloc (.cells #[.int .i64 0, .int .i64 0, .string ⟨#[]⟩, .slice none 0 0] 33)).heap.size = w.heap.size + 2 := by simp
  generalize (w.alloc (.cells #[.int .i64 0, .int .i64 0, .string ⟨#[]⟩, .string ⟨#[]⟩, .string ⟨#[]⟩, .string ⟨#[]⟩] 25)).alloc (.cells #[.int .i64 0, .int .i64 0, .string ⟨#[]⟩, .slice none 0 0] 33) = W0 at *
  refine (HN.out _ hb0).mono ?_
  rintro e w1 ⟨rfl, c1, b1⟩
  have hR1 := hR0.next b1
  have hQ1 := hQ0.next b1
  have hb1 := Below.next hb0 b1
  have hz1 := b1.size
  rw [hz0] at c1 ⊢
  clear hR0 hQ0 hb0 b1 HN
  generalize hB : w.heap.size + 2 = B at *
  go_wp2_with fail
  refine (H7.out B _ c1).mono ?_
  rintro e w2 ⟨L, Av, vc, h, t, la, va, ne, da, ch, cr, id, l, Ac, cc, rfl, ⟨hL4, hh1, hh2, ht1, ht2, hla, hva, hne, hda, hc1, hc2, hr1, hr2, hid, hl13, hAc⟩, hsg, hvr, hsr, c2, b2⟩
  have hb2 := Below.trans hb1 (b2.below (by omega) hb1.size)
  have hz2 := b2.size
  have hR3 := ((hR1.but b2 (by omega)).alloc (.cells #[.int .i64 h, .int .i64 t, .string (S la), .string (S va), .string (S ne), .string (S da)] 25)).alloc (.cells #[.int .i64 ch, .int .i64 cr, .string (S id), .slice Ac l.length cc] 33)
  have hQ3 := ((hQ1.but b2 (by omega)).alloc (.cells #[.int .i64 h, .int .i64 t, .string (S la), .string (S va), .string (S ne), .string (S da)] 25)).alloc (.cells #[.int .i64 ch, .int .i64 cr, .string (S id), .slice Ac l.length cc] 33)
  have hBW := (((Below.refl _ w2).alloc (Nat.le_refl _) (.cells #[.int .i64 h, .int .i64 t, .string (S la), .string (S va), .string (S ne), .string (S da)] 25)).alloc (by simp) (.cells #[.int .i64 ch, .int .i64 cr, .string (S id), .slice Ac l.length cc] 33))
  have HSR := Lib.hid (hsr.out.1.to hBW)
  have HVR := Lib.hid (hvr.out.1.to hBW)
  have HF1 := Lib.hid (fun q hq => by have := hsr.out.2 q hq; omega : ∀ q, Ac = some q → q.block ≠ w.heap.size)
  have HF2 := Lib.hid (fun q hq => by have := hsr.out.2 q hq; omega : ∀ q, Ac = some q → q.block ≠ w.heap.size + 1)
  have HG1 := Lib.hid (fun q hq => by have := hvr.out.2 q hq; omega : ∀ q, Av = some q → q.block ≠ w.heap.size)
  have HG2 := Lib.hid (fun q hq => by have := hvr.out.2 q hq; omega : ∀ q, Av = some q → q.block ≠ w.heap.size + 1)
  have HB := Lib.hid ((hb2.alloc hb2.size (.cells #[.int .i64 h, .int .i64 t, .string (S la), .string (S va), .string (S ne), .string (S da)] 25)).alloc (by simp; have := hb2.size; omega) (.cells #[.int .i64 ch, .int .i64 cr, .string (S id), .slice Ac l.length cc] 33))
  have hX := H4.new (w2.alloc (.cells #[.int .i64 h, .int .i64 t, .string (S la), .string (S va), .string (S ne), .string (S da)] 25)) 33 (.int .i64 ch) (.int .i64 cr) (.string (S id)) (.slice Ac l.length cc)
  have hV := (H6.new w2 25 (.int .i64 h) (.int .i64 t) (.string (S la)) (.string (S va)) (.string (S ne)) (.string (S da))).alloc (.cells #[.int .i64 ch, .int .i64 cr, .string (S id), .slice Ac l.length cc] 33)
  have hsz : (w2.alloc (.cells #[.int .i64 h, .int .i64 t, .string (S la), .string (S va), .string (S ne), .string (S da)] 25)).heap.size = w2.heap.size + 1 := by simp
  rw [hsz] at hX
  clear hsr hvr hR1 hQ1 b2 hb1 hBW hb2
  go_wp2_with fail
  generalize (w2.alloc (.cells #[.int .i64 h, .int .i64 t, .string (S la), .string (S va), .string (S ne), .string (S da)] 25)).alloc (.cells #[.int .i64 ch, .int .i64 cr, .string (S id), .slice Ac l.length cc] 33) = W3 at *
  obtain ⟨hRl, r0, r1, r2, r3, r4, r5, rf⟩ := hR3
  obtain ⟨hQl, q0, q1, q2, q3, qf⟩ := hQ3
  obtain ⟨hXl, x0, x1, x2, x3, xf⟩ := hX
  obtain ⟨hVl, v0, v1, v2, v3, v4, v5, vf⟩ := hV
  have hd1 : ¬ w.heap.size = w2.heap.size := by omega
  have hd2 : ¬ w.heap.size = w2.heap.size + 1 := by omega
  have hd3 : ¬ w2.heap.size = w.heap.size := by omega
  have hd4 : ¬ w2.heap.size + 1 = w.heap.size := by omega
  have hd5 : ¬ w.heap.size + 1 = w2.heap.size := by omega
  have hd6 : ¬ w2.heap.size = w.heap.size + 1 := by omega
  have hd7 : ¬ w.heap.size + 1 = w2.heap.size + 1 := by omega
  have hd8 : ¬ w2.heap.size + 1 = w.heap.size + 1 := by omega
  generalize hwa : w2.heap.size + 1 = b2' at *
  generalize hwb : w.heap.size + 1 = b1' at *
  go_region
  all_goals
    go_wp2_with fail
    refine bodyPost_ret (v := .tuple #[.slice Av L.length vc, .agg #[.int .i64 h, .int .i64 t, .string (S la), .string (S va), .string (S ne), .string (S da)], .agg #[.int .i64 ch, .int .i64 cr, .string (S id), .slice Ac l.length cc]]) (by simp [results, Tryd.results31, go_sem, *]) rfl ⟨L, Av, vc, h, t, la, va, ne, da, ch, cr, id, l, Ac, cc, rfl, ⟨hL4, hh1, hh2, ht1, ht2, hla, hva, hne, hda, hc1, hc2, hr1, hr2, hid, hl13, hAc⟩, hsg, ?_, ?_, ?_⟩
    · refine Lib.hid ?_
      repeat (first | with_reducible exact HVR.out | with_reducible refine vr_drw ?_ | with_reducible refine vr_low ?_ HG1.out _ _ | with_reducible refine vr_low ?_ HG2.out _ _)
    · refine Lib.hid ?_
      repeat (first | with_reducible exact HSR.out | with_reducible refine sr_drw ?_ | with_reducible refine sr_low ?_ HF1.out _ _ | with_reducible refine sr_low ?_ HF2.out _ _)
    · repeat (first | with_reducible exact HB.out | with_reducible refine Below.drew ?_ | with_reducible refine Below.setCell ?_ (by first | omega | (simp <;> omega)) _)
end Go.Proofs.YtecimgkgdpnaeaaDoor
