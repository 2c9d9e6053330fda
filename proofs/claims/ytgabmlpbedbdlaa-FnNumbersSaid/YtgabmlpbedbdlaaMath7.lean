/-
  Plain functions on numbers and bytes: Hex.
-/
import Derived.Test.YtgabmlpbedbdlaaMath1
namespace Go.Proofs.Ytgabmlpbedbdlaa

/-- A digit of sixteen. -/
def hexD (k : Nat) : UInt8 := if k < 10 then UInt8.ofNat (48 + k) else UInt8.ofNat (87 + k)
def hexB (b : UInt8) : List UInt8 := [hexD (b.toNat / 16), hexD (b.toNat % 16)]
/-- What Hex returns. -/
def hexL (l : List UInt8) : List UInt8 := l.flatMap hexB
theorem hexL_append (a b : List UInt8) : hexL (a ++ b) = hexL a ++ hexL b := by unfold hexL; rw [List.flatMap_append]
theorem hexL_cons (b : UInt8) (l : List UInt8) : hexL (b :: l) = hexD (b.toNat / 16) :: hexD (b.toNat % 16) :: hexL l := rfl
theorem hexL_len (l : List UInt8) : (hexL l).length = 2 * l.length := by
  induction l with
  | nil => rfl
  | cons b l ih => rw [hexL_cons]; simp only [List.length_cons]; omega
theorem hexL_take (l : List UInt8) (k : Nat) (h : k < l.length) : hexL (l.take (k + 1)) = hexL (l.take k) ++ [hexD (l[k].toNat / 16), hexD (l[k].toNat % 16)] := by
  rw [take_succ_get l k h, hexL_append]; rfl
def hexDigits : ByteArray := ⟨#[48, 49, 50, 51, 52, 53, 54, 55, 56, 57, 97, 98, 99, 100, 101, 102]⟩
theorem hexDigits_at (k : Nat) (h : k < 16) : hexDigits[k]'h = hexD k := by
  have : ∀ k : Fin 16, hexDigits[k.1]'k.2 = hexD k.1 := by decide
  exact this ⟨k, h⟩
end Go.Proofs.Ytgabmlpbedbdlaa
