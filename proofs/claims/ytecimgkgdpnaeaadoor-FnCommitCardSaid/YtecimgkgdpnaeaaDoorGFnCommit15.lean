/-
  Texts of this proof, laid into one: Sha0.
-/
import Derived.Test.YtecimgkgdpnaeaaDoorGFnCommit9
/-
  SHA-256 as a plain function on bytes; words of 32 bits; no program in sight.
-/
namespace Go.Proofs.YtecimgkgdpnaeaaDoor
set_option linter.unusedVariables false
set_option linter.unusedSimpArgs false
open Go.RowKit
abbrev W32 := BitVec 32
theorem wrap_u32 (n : Int) : IntKind.u32.wrap n = n % 4294967296 := by
  simp [IntKind.wrap, IntKind.bits, IntKind.signed]
/-- A word as a number. -/
def wn (x : W32) : Int := (x.toNat : Int)
theorem wn_lo (x : W32) : 0 ≤ wn x := by unfold wn; omega
theorem wn_hi (x : W32) : wn x < 4294967296 := by unfold wn; have := x.isLt; omega
theorem wn_nat (x : W32) : wn x = ((x.toNat : Nat) : Int) := rfl
@[go_sem] theorem u32_xor (x y : W32) : bits .xor .u32 (wn x) (wn y) = wn (x ^^^ y) := by
  show IntKind.u32.wrap ((BitVec.ofInt 32 (x.toNat : Int) ^^^ BitVec.ofInt 32 (y.toNat : Int)).toNat : Int) = ((x ^^^ y).toNat : Int)
  rw [BitVec.ofInt_natCast, BitVec.ofInt_natCast, BitVec.ofNat_toNat, BitVec.ofNat_toNat, BitVec.setWidth_eq, BitVec.setWidth_eq, wrap_u32]
  have := (x ^^^ y).isLt
  omega
@[go_sem] theorem u32_and (x y : W32) : bits .and .u32 (wn x) (wn y) = wn (x &&& y) := by
  show IntKind.u32.wrap ((BitVec.ofInt 32 (x.toNat : Int) &&& BitVec.ofInt 32 (y.toNat : Int)).toNat : Int) = ((x &&& y).toNat : Int)
  rw [BitVec.ofInt_natCast, BitVec.ofInt_natCast, BitVec.ofNat_toNat, BitVec.ofNat_toNat, BitVec.setWidth_eq, BitVec.setWidth_eq, wrap_u32]
  have := (x &&& y).isLt
  omega
@[go_sem] theorem u32_or (x y : W32) : bits .or .u32 (wn x) (wn y) = wn (x ||| y) := by
  show IntKind.u32.wrap ((BitVec.ofInt 32 (x.toNat : Int) ||| BitVec.ofInt 32 (y.toNat : Int)).toNat : Int) = ((x ||| y).toNat : Int)
  rw [BitVec.ofInt_natCast, BitVec.ofInt_natCast, BitVec.ofNat_toNat, BitVec.ofNat_toNat, BitVec.setWidth_eq, BitVec.setWidth_eq, wrap_u32]
  have := (x ||| y).isLt
  omega
@[go_sem] theorem u32_not (x : W32) : bits .xor .u32 4294967295 (wn x) = wn (~~~x) := by
  show IntKind.u32.wrap ((BitVec.ofInt 32 4294967295 ^^^ BitVec.ofInt 32 (x.toNat : Int)).toNat : Int) = ((~~~x).toNat : Int)
  have h1 : BitVec.ofInt 32 4294967295 = BitVec.allOnes 32 := by decide
  rw [BitVec.ofInt_natCast, BitVec.ofNat_toNat, BitVec.setWidth_eq, h1, BitVec.allOnes_xor, wrap_u32]
  have := (~~~x).isLt
  omega
@[go_sem] theorem u32_notm (x : W32) : bits .xor .u32 IntKind.u32.max (wn x) = wn (~~~x) := u32_not x
@[go_sem] theorem u32_add (x y : W32) : IntKind.u32.wrap (wn x + wn y) = wn (x + y) := by
  unfold wn; rw [wrap_u32, BitVec.toNat_add]; omega
theorem u32_shl (x : W32) (n : Nat) : IntKind.u32.wrap (wn x * 2 ^ n) = wn (x <<< n) := by
  unfold wn; rw [wrap_u32, BitVec.toNat_shiftLeft, Nat.shiftLeft_eq, Int.natCast_emod, Int.natCast_mul, Int.natCast_pow]; rfl
theorem u32_shr (x : W32) (n : Nat) : wn x / 2 ^ n = wn (x >>> n) := by
  unfold wn; rw [BitVec.toNat_ushiftRight, Nat.shiftRight_eq_div_pow, Int.natCast_ediv, Int.natCast_pow]; rfl
@[go_sem] theorem wn_i64 (x : W32) : IntKind.i64.wrap (wn x) = wn x := by rw [IntKind.wrap_i64]; have := wn_lo x; have := wn_hi x; omega
@[go_sem] theorem wn_u32 (x : W32) : IntKind.u32.wrap (wn x) = wn x := by rw [wrap_u32]; have := wn_lo x; have := wn_hi x; omega
theorem w32_lt (x : W32) : x.toNat < 9223372036854775808 := by have := x.isLt; omega
@[go_sem] theorem i64_xor (x y : W32) : bits .xor .i64 (wn x) (wn y) = wn (x ^^^ y) := by
  unfold wn; rw [xor_i64 _ _ (w32_lt x) (w32_lt y), BitVec.toNat_xor]
@[go_sem] theorem i64_and (x y : W32) : bits .and .i64 (wn x) (wn y) = wn (x &&& y) := by
  unfold wn; rw [and_i64 _ _ (w32_lt x) (w32_lt y), BitVec.toNat_and]
@[go_sem] theorem i64_or (x y : W32) : bits .or .i64 (wn x) (wn y) = wn (x ||| y) := by
  unfold wn; rw [or_i64 _ _ (w32_lt x) (w32_lt y), BitVec.toNat_or]
/-- x turned right. -/
def rotr (x : W32) (n : Nat) : W32 := x >>> n ||| x <<< (32 - n)
/-- The low 32 bits. -/
theorem i64_low (n : Nat) (h : n < 9223372036854775808) : bits .and .i64 (n : Int) 4294967295 = wn (BitVec.ofNat 32 n) := by
  unfold wn
  have := and_i64 n 4294967295 h (by omega)
  rw [show (4294967295 : Nat) = 2 ^ 32 - 1 from rfl, Nat.and_two_pow_sub_one_eq_mod] at this
  rw [BitVec.toNat_ofNat]; exact this
theorem i64_right (x : W32) (n : Nat) (h1 : 1 ≤ n) (h2 : n ≤ 31) :
    bits .and .i64 (bits .or .i64 (wn x / 2 ^ n) (wrap64 (wn x * 2 ^ (32 - n)))) 4294967295 = wn (rotr x n) := by
  unfold wn
  have hx := x.isLt
  have hp : 2 ^ (32 - n) ≤ 2 ^ 31 := Nat.pow_le_pow_right (by omega) (by omega)
  have h31 : (2 : Nat) ^ 31 = 2147483648 := rfl
  have hm : x.toNat * 2 ^ (32 - n) ≤ x.toNat * 2147483648 := Nat.mul_le_mul_left _ (by omega)
  have hd : x.toNat / 2 ^ n ≤ x.toNat := Nat.div_le_self _ _
  have e1 : ((x.toNat : Int) / 2 ^ n) = ((x.toNat / 2 ^ n : Nat) : Int) := by rw [Int.natCast_ediv, Int.natCast_pow]; rfl
  have e2 : ((x.toNat : Int) * 2 ^ (32 - n)) = ((x.toNat * 2 ^ (32 - n) : Nat) : Int) := by rw [Int.natCast_mul, Int.natCast_pow]; rfl
  have hor : x.toNat / 2 ^ n ||| x.toNat * 2 ^ (32 - n) < 2 ^ 63 := Nat.or_lt_two_pow (by omega) (by omega)
  rw [e1, e2, show wrap64 ((x.toNat * 2 ^ (32 - n) : Nat) : Int) = ((x.toNat * 2 ^ (32 - n) : Nat) : Int) from IntWalk.wrap64_in _ ⟨by omega, by omega⟩]
  rw [or_i64 _ _ (by omega) (by omega), i64_low _ (by omega)]
  unfold wn
  congr 1
  unfold rotr
  rw [BitVec.toNat_or, BitVec.toNat_ofNat, BitVec.toNat_ushiftRight, BitVec.toNat_shiftLeft, Nat.shiftRight_eq_div_pow, Nat.shiftLeft_eq, Nat.or_mod_two_pow]
  congr 1
  exact Nat.mod_eq_of_lt (by omega)
/-- The low word of any number. -/
theorem i64_word (z : Int) : bits .and .i64 z 4294967295 = wn (BitVec.ofInt 32 z) := by
  show IntKind.i64.wrap ((BitVec.ofInt 64 z &&& BitVec.ofInt 64 4294967295).toNat : Int) = ((BitVec.ofInt 32 z).toNat : Int)
  have h : (BitVec.ofInt 64 z &&& BitVec.ofInt 64 4294967295).toNat = (BitVec.ofInt 32 z).toNat := by
    rw [BitVec.toNat_and, show (BitVec.ofInt 64 4294967295).toNat = 2 ^ 32 - 1 from by decide, Nat.and_two_pow_sub_one_eq_mod, BitVec.toNat_ofInt, BitVec.toNat_ofInt]
    omega
  rw [h, IntKind.wrap_i64]
  have := (BitVec.ofInt 32 z).isLt
  omega
theorem ofInt_wn (x : W32) : BitVec.ofInt 32 (wn x) = x := by
  unfold wn; rw [BitVec.ofInt_natCast, BitVec.ofNat_toNat, BitVec.setWidth_eq]
theorem word_add (a b : Int) : BitVec.ofInt 32 (a + b) = BitVec.ofInt 32 a + BitVec.ofInt 32 b := BitVec.ofInt_add a b
theorem word_not (x : W32) : BitVec.ofInt 32 (-1 - wn x) = ~~~x := by
  apply BitVec.eq_of_toNat_eq
  rw [BitVec.toNat_ofInt, BitVec.toNat_not]
  unfold wn
  have := x.isLt
  omega
theorem i64_not (x : W32) : bits .and .i64 (-1 - wn x) 4294967295 = wn (~~~x) := by rw [i64_word, word_not]
/-- What uint(-k) & 31 is. -/
theorem u64_31 (n : Nat) (h1 : 1 ≤ n) (h2 : n ≤ 31) : bits .and .u64 (18446744073709551616 - (n : Int)) 31 = 32 - (n : Int) := by
  have : ∀ n : Fin 32, 1 ≤ n.1 → bits .and .u64 (18446744073709551616 - (n.1 : Int)) 31 = 32 - (n.1 : Int) := by decide +kernel
  exact this ⟨n, by omega⟩ h1

@[go_sem] theorem ofInt_add32 (a b : Int) : BitVec.ofInt 32 (a + b) = BitVec.ofInt 32 a + BitVec.ofInt 32 b := BitVec.ofInt_add a b
@[go_sem] theorem ofInt_wn' (x : W32) : BitVec.ofInt 32 (wn x) = x := ofInt_wn x
@[go_sem] theorem word_not' (x : W32) : BitVec.ofInt 32 (-1 - wn x) = ~~~x := word_not x
theorem word_wrap (z : Int) : BitVec.ofInt 32 (IntKind.i64.wrap z) = BitVec.ofInt 32 z := by
  apply BitVec.eq_of_toNat_eq
  rw [BitVec.toNat_ofInt, BitVec.toNat_ofInt, IntKind.wrap_i64]
  omega
@[go_sem] theorem word_xor (x : W32) : BitVec.ofInt 32 (bits .xor .i64 (-1) (wn x)) = ~~~x := by
  show BitVec.ofInt 32 (IntKind.i64.wrap ((BitVec.ofInt 64 (-1) ^^^ BitVec.ofInt 64 (x.toNat : Int)).toNat : Int)) = ~~~x
  rw [word_wrap, BitVec.ofInt_natCast, BitVec.ofNat_toNat, BitVec.setWidth_xor, BitVec.ofInt_natCast, BitVec.ofNat_toNat, show (BitVec.ofInt 64 (-1)).setWidth 32 = BitVec.allOnes 32 from by decide, BitVec.setWidth_setWidth_of_le _ (by omega), BitVec.setWidth_eq, BitVec.allOnes_xor]
@[go_sem] theorem i64_s2 (a b : W32) : IntKind.i64.wrap (wn a + wn b) = wn a + wn b := by
  rw [IntKind.wrap_i64]; have := wn_lo a; have := wn_hi a; have := wn_lo b; have := wn_hi b; omega
@[go_sem] theorem i64_s3 (a b c : W32) : IntKind.i64.wrap (wn a + wn b + wn c) = wn a + wn b + wn c := by
  rw [IntKind.wrap_i64]; have := wn_lo a; have := wn_hi a; have := wn_lo b; have := wn_hi b; have := wn_lo c; have := wn_hi c; omega
@[go_sem] theorem i64_s4 (a b c d : W32) : IntKind.i64.wrap (wn a + wn b + wn c + wn d) = wn a + wn b + wn c + wn d := by
  rw [IntKind.wrap_i64]; have := wn_lo a; have := wn_hi a; have := wn_lo b; have := wn_hi b; have := wn_lo c; have := wn_hi c; have := wn_lo d; have := wn_hi d; omega
@[go_sem] theorem i64_s5 (a b c d e : W32) : IntKind.i64.wrap (wn a + wn b + wn c + wn d + wn e) = wn a + wn b + wn c + wn d + wn e := by
  rw [IntKind.wrap_i64]; have := wn_lo a; have := wn_hi a; have := wn_lo b; have := wn_hi b; have := wn_lo c; have := wn_hi c; have := wn_lo d; have := wn_hi d; have := wn_lo e; have := wn_hi e; omega
@[go_sem] theorem i64_s15 (z a b c d e : W32) : IntKind.i64.wrap (wn z + (wn a + wn b + wn c + wn d + wn e)) = wn z + (wn a + wn b + wn c + wn d + wn e) := by
  rw [IntKind.wrap_i64]; have := wn_lo z; have := wn_hi z; have := wn_lo a; have := wn_hi a; have := wn_lo b; have := wn_hi b; have := wn_lo c; have := wn_hi c; have := wn_lo d; have := wn_hi d; have := wn_lo e; have := wn_hi e; omega
@[go_sem] theorem i64_s52 (a b c d e f g : W32) : IntKind.i64.wrap (wn a + wn b + wn c + wn d + wn e + (wn f + wn g)) = wn a + wn b + wn c + wn d + wn e + (wn f + wn g) := by
  rw [IntKind.wrap_i64]; have := wn_lo f; have := wn_hi f; have := wn_lo g; have := wn_hi g; have := wn_lo a; have := wn_hi a; have := wn_lo b; have := wn_hi b; have := wn_lo c; have := wn_hi c; have := wn_lo d; have := wn_hi d; have := wn_lo e; have := wn_hi e; omega

/-! The plain function. -/
structure St where
  a : W32
  b : W32
  c : W32
  d : W32
  e : W32
  f : W32
  g : W32
  h : W32
def bS1 (e : W32) : W32 := rotr e 6 ^^^ rotr e 11 ^^^ rotr e 25
def bS0 (a : W32) : W32 := rotr a 2 ^^^ rotr a 13 ^^^ rotr a 22
def chF (e f g : W32) : W32 := (e &&& f) ^^^ (~~~e &&& g)
def majF (a b c : W32) : W32 := (a &&& b) ^^^ (a &&& c) ^^^ (b &&& c)
def sS0 (x : W32) : W32 := rotr x 7 ^^^ rotr x 18 ^^^ x >>> 3
def sS1 (x : W32) : W32 := rotr x 17 ^^^ rotr x 19 ^^^ x >>> 10
def tF (k w : W32) (s : St) : W32 := s.h + bS1 s.e + chF s.e s.f s.g + k + w
def uF (s : St) : W32 := bS0 s.a + majF s.a s.b s.c
def rnd (k w : W32) (s : St) : St := ⟨tF k w s + uF s, s.a, s.b, s.c, s.d + tF k w s, s.e, s.f, s.g⟩
def rounds (K W : Nat → W32) (s : St) : Nat → St
  | 0 => s
  | n + 1 => rnd (K n) (W n) (rounds K W s n)
def sched (m : Nat → W32) (i : Nat) : W32 :=
  if _h : i < 16 then m i else sched m (i - 16) + sS0 (sched m (i - 15)) + sched m (i - 7) + sS1 (sched m (i - 2))
termination_by i
decreasing_by all_goals omega
theorem sched_lo (m : Nat → W32) (i : Nat) (h : i < 16) : sched m i = m i := by rw [sched, dif_pos h]
theorem sched_hi (m : Nat → W32) (i : Nat) (h : 16 ≤ i) : sched m i = sched m (i - 16) + sS0 (sched m (i - 15)) + sched m (i - 7) + sS1 (sched m (i - 2)) := by rw [sched, dif_neg (by omega)]
def St.add (s v : St) : St := ⟨s.a + v.a, s.b + v.b, s.c + v.c, s.d + v.d, s.e + v.e, s.f + v.f, s.g + v.g, s.h + v.h⟩
/-- The table of the rounds' constants. -/
def kTab : List Nat := [1116352408, 1899447441, 3049323471, 3921009573, 961987163, 1508970993, 2453635748, 2870763221, 3624381080, 310598401, 607225278, 1426881987, 1925078388, 2162078206, 2614888103, 3248222580, 3835390401, 4022224774, 264347078, 604807628, 770255983, 1249150122, 1555081692, 1996064986, 2554220882, 2821834349, 2952996808, 3210313671, 3336571891, 3584528711, 113926993, 338241895, 666307205, 773529912, 1294757372, 1396182291, 1695183700, 1986661051, 2177026350, 2456956037, 2730485921, 2820302411, 3259730800, 3345764771, 3516065817, 3600352804, 4094571909, 275423344, 430227734, 506948616, 659060556, 883997877, 958139571, 1322822218, 1537002063, 1747873779, 1955562222, 2024104815, 2227730452, 2361852424, 2428436474, 2756734187, 3204031479, 3329325298]
def kAt (i : Nat) : W32 := BitVec.ofNat 32 (kTab.getD i 0)
theorem kTab_lt : ∀ i, kTab.getD i 0 < 4294967296 := by
  intro i
  by_cases h : i < 64
  · have : ∀ i : Fin 64, kTab.getD i.1 0 < 4294967296 := by decide +kernel
    exact this ⟨i, h⟩
  · rw [List.getD, List.getElem?_eq_none (by show 64 ≤ i; omega)]; decide
theorem kAt_toNat (i : Nat) : (kAt i).toNat = kTab.getD i 0 := by
  unfold kAt; rw [BitVec.toNat_ofNat]; exact Nat.mod_eq_of_lt (kTab_lt i)
/-- A byte as a word. -/
def bw (b : UInt8) : W32 := BitVec.ofNat 32 b.toNat
theorem bw_toNat (b : UInt8) : (bw b).toNat = b.toNat := by
  unfold bw; rw [BitVec.toNat_ofNat]; exact Nat.mod_eq_of_lt (by have := b.toNat_lt; omega)
theorem byte_shl (b : UInt8) (n : Nat) (h : n ≤ 24) : IntKind.i64.wrap (wn (bw b) * 2 ^ n) = wn (bw b <<< n) := by
  have hb := b.toNat_lt
  have hp : 2 ^ n ≤ 2 ^ 24 := Nat.pow_le_pow_right (by omega) h
  have hm : b.toNat * 2 ^ n ≤ b.toNat * 2 ^ 24 := Nat.mul_le_mul_left _ hp
  have h24 : (2 : Nat) ^ 24 = 16777216 := rfl
  have e : (bw b <<< n).toNat = b.toNat * 2 ^ n := by
    rw [BitVec.toNat_shiftLeft, Nat.shiftLeft_eq, bw_toNat]; exact Nat.mod_eq_of_lt (by omega)
  have e2 : wn (bw b) * 2 ^ n = wn (bw b <<< n) := by
    unfold wn; rw [e, bw_toNat, Int.natCast_mul, Int.natCast_pow]; rfl
  rw [e2]; exact wn_i64 _
def wordB (b0 b1 b2 b3 : UInt8) : W32 := bw b0 <<< 24 ||| bw b1 <<< 16 ||| bw b2 <<< 8 ||| bw b3
def wordAt (l : List UInt8) (i : Nat) : W32 := wordB (l.getD (4 * i) 0) (l.getD (4 * i + 1) 0) (l.getD (4 * i + 2) 0) (l.getD (4 * i + 3) 0)
def shaBlk (s : St) (l : List UInt8) : St := s.add (rounds kAt (sched (wordAt l)) s 64)
def iv0 : St := ⟨1779033703, 3144134277, 1013904242, 2773480762, 1359893119, 2600822924, 528734635, 1541459225⟩
/-- The state behind k blocks. -/
def blocks (p : List UInt8) : Nat → St
  | 0 => iv0
  | k + 1 => shaBlk (blocks p k) ((p.drop (64 * k)).take 64)
def zerosN (n : Nat) : Nat := (64 - (n + 9) % 64) % 64
def padS (l : List UInt8) : List UInt8 := l ++ (128 :: (List.replicate (zerosN l.length + 1) 0 ++ fixedL 7 (8 * l.length)))
theorem padS_len (l : List UInt8) : (padS l).length = l.length + zerosN l.length + 9 := by
  unfold padS; simp; omega
theorem padS_mod (l : List UInt8) : (padS l).length % 64 = 0 := by
  rw [padS_len]; unfold zerosN; omega
def St.out (s : St) : List UInt8 := fixedL 4 s.a.toNat ++ (fixedL 4 s.b.toNat ++ (fixedL 4 s.c.toNat ++ (fixedL 4 s.d.toNat ++ (fixedL 4 s.e.toNat ++ (fixedL 4 s.f.toNat ++ (fixedL 4 s.g.toNat ++ fixedL 4 s.h.toNat))))))
/-- What Sha returns. -/
def shaS (l : List UInt8) : List UInt8 := (blocks (padS l) ((padS l).length / 64)).out
@[simp] theorem shaS_len (l : List UInt8) : (shaS l).length = 32 := by unfold shaS St.out; simp
/-- What Short returns. -/
def shortS (l : List UInt8) : List UInt8 := (shaS l).take 8
@[simp] theorem shortS_len (l : List UInt8) : (shortS l).length = 8 := by unfold shortS; simp
end Go.Proofs.YtecimgkgdpnaeaaDoor
