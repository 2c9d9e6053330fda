/-
  Plain functions on numbers and bytes: Crc.
-/
import Derived.Test.YtlaipnndoepdcaaMath1
namespace Go.Proofs.Ytlaipnndoepdcaa

def crcPoly : Nat := 2197175160
def crcStep (c : Nat) : Nat := if c % 2 = 1 then c / 2 ^^^ crcPoly else c / 2
def crcN : Nat → Nat → Nat
  | 0, c => c
  | k + 1, c => crcStep (crcN k c)
def crcStart : Nat := 4294967295
def crcL (l : List UInt8) : Nat := l.foldl (fun c b => crcN 8 (c ^^^ b.toNat)) crcStart
theorem crcStep_lt (c : Nat) (h : c < 4294967296) : crcStep c < 4294967296 := by
  unfold crcStep
  split
  · exact Nat.xor_lt_two_pow (n := 32) (by omega) (by decide)
  · omega
theorem crcN_lt (k : Nat) (c : Nat) (h : c < 4294967296) : crcN k c < 4294967296 := by
  induction k with
  | zero => exact h
  | succ k ih => exact crcStep_lt _ ih
theorem xor_byte_lt (c : Nat) (b : UInt8) (h : c < 4294967296) : c ^^^ b.toNat < 4294967296 :=
  Nat.xor_lt_two_pow (n := 32) h (Nat.lt_trans b.toNat_lt (by decide))
theorem crcL_lt (l : List UInt8) : crcL l < 4294967296 := by
  unfold crcL
  suffices h : ∀ (l : List UInt8) c, c < 4294967296 → l.foldl (fun c b => crcN 8 (c ^^^ b.toNat)) c < 4294967296 from h l _ (by decide)
  intro l
  induction l with
  | nil => intro c h; exact h
  | cons b l ih => intro c h; exact ih _ (crcN_lt _ _ (xor_byte_lt _ _ h))
theorem crcL_take (l : List UInt8) (k : Nat) (h : k < l.length) : crcL (l.take (k + 1)) = crcN 8 (crcL (l.take k) ^^^ l[k].toNat) := by
  rw [take_succ_get l k h]; unfold crcL; rw [List.foldl_append]; rfl
/-- What Crc returns. -/
def crcS (l : List UInt8) : Int := 4294967295 - (crcL l : Int)
end Go.Proofs.Ytlaipnndoepdcaa
