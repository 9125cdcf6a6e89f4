/-
  The plain specification of SHA-256 over 32-bit words, and how the walk's integers spell its operations.
-/
import Derived.WalkKit
namespace Go.Proofs.Ytmcpobmmogeiiaa
open Go.RowKit

abbrev Wd := BitVec 32
abbrev By := BitVec 8
/-- a word, a byte, as the model's values. -/
abbrev vW (x : Wd) : Value := .int .u32 (x.toNat : Int)
abbrev vB (x : By) : Value := .int .u8 (x.toNat : Int)

/-- a word turned right. -/
def rorW (x : Wd) (n : Nat) : Wd := (x >>> n) ||| (x <<< (32 - n))

theorem w_wrap (x : Wd) : IntKind.u32.wrap (x.toNat : Int) = (x.toNat : Int) := by
  have := x.isLt; exact IntWalk.u32_in _ (by omega)
theorem w_of (x : Wd) : BitVec.ofInt IntKind.u32.bits (x.toNat : Int) = x := by
  show BitVec.ofInt 32 (x.toNat : Int) = x
  rw [BitVec.ofInt_natCast, BitVec.ofNat_toNat]; simp
theorem w_or (x y : Wd) : bits BinOp.or IntKind.u32 (x.toNat : Int) (y.toNat : Int) = ((x ||| y).toNat : Int) := by
  unfold bits; rw [w_of, w_of]; exact w_wrap _
theorem w_and (x y : Wd) : bits BinOp.and IntKind.u32 (x.toNat : Int) (y.toNat : Int) = ((x &&& y).toNat : Int) := by
  unfold bits; rw [w_of, w_of]; exact w_wrap _
theorem w_xor (x y : Wd) : bits BinOp.xor IntKind.u32 (x.toNat : Int) (y.toNat : Int) = ((x ^^^ y).toNat : Int) := by
  unfold bits; rw [w_of, w_of]; exact w_wrap _
theorem w_not (x : Wd) : bits BinOp.xor IntKind.u32 4294967295 (x.toNat : Int) = ((~~~x).toNat : Int) := by
  show IntKind.u32.wrap ((BitVec.ofInt 32 4294967295 ^^^ BitVec.ofInt 32 (x.toNat : Int)).toNat : Int) = _
  have h1 : BitVec.ofInt 32 (x.toNat : Int) = x := w_of x
  have h2 : BitVec.ofInt 32 4294967295 = BitVec.allOnes 32 := by decide
  rw [h1, h2, BitVec.allOnes_xor]; exact w_wrap _
theorem w_shr (x : Wd) (n : Nat) : (x.toNat : Int) / 2 ^ n = ((x >>> n).toNat : Int) := by
  rw [BitVec.toNat_ushiftRight, Nat.shiftRight_eq_div_pow]; simp
theorem w_shl (x : Wd) (n : Nat) : (x.toNat : Int) * 2 ^ n % 4294967296 = ((x <<< n).toNat : Int) := by
  rw [BitVec.toNat_shiftLeft, Nat.shiftLeft_eq]; simp
theorem w_add (x y : Wd) : ((x.toNat : Int) + (y.toNat : Int)) % 4294967296 = ((x + y).toNat : Int) := by
  rw [BitVec.toNat_add]; simp
theorem w_ext (x : By) : (x.toNat : Int) = ((x.setWidth 32).toNat : Int) := by
  rw [BitVec.toNat_setWidth]; have := x.isLt; congr 1; omega

theorem and31 (n : Int) (h0 : 1 ≤ n) (h1 : n ≤ 31) : bits BinOp.and IntKind.u64 (IntKind.u64.wrap (-n)) 31 = 32 - n := by
  obtain ⟨m, rfl⟩ := Int.eq_ofNat_of_zero_le (by omega : 0 ≤ n)
  have key : ∀ m : Nat, m < 32 → 1 ≤ m → bits BinOp.and IntKind.u64 (IntKind.u64.wrap (-(m : Int))) 31 = 32 - (m : Int) := by decide +kernel
  exact key m (by omega) (by omega)

/-- the constants. -/
def kL : List Wd := [1116352408, 1899447441, 3049323471, 3921009573, 961987163, 1508970993, 2453635748, 2870763221, 3624381080, 310598401, 607225278, 1426881987, 1925078388, 2162078206, 2614888103, 3248222580, 3835390401, 4022224774, 264347078, 604807628, 770255983, 1249150122, 1555081692, 1996064986, 2554220882, 2821834349, 2952996808, 3210313671, 3336571891, 3584528711, 113926993, 338241895, 666307205, 773529912, 1294757372, 1396182291, 1695183700, 1986661051, 2177026350, 2456956037, 2730485921, 2820302411, 3259730800, 3345764771, 3516065817, 3600352804, 4094571909, 275423344, 430227734, 506948616, 659060556, 883997877, 958139571, 1322822218, 1537002063, 1747873779, 1955562222, 2024104815, 2227730452, 2361852424, 2428436474, 2756734187, 3204031479, 3329325298]
def K (t : Nat) : Wd := kL.getD t 0

/-- eight words. -/
structure S8 where
  a : Wd
  b : Wd
  c : Wd
  d : Wd
  e : Wd
  f : Wd
  g : Wd
  h : Wd
deriving DecidableEq

def S8.get (s : S8) : Nat → Wd
  | 0 => s.a | 1 => s.b | 2 => s.c | 3 => s.d | 4 => s.e | 5 => s.f | 6 => s.g | _ => s.h
def S8.row (s : S8) : Array Value := #[vW s.a, vW s.b, vW s.c, vW s.d, vW s.e, vW s.f, vW s.g, vW s.h]
def h0 : S8 := ⟨1779033703, 3144134277, 1013904242, 2773480762, 1359893119, 2600822924, 528734635, 1541459225⟩

def t1W (s : S8) (k w : Wd) : Wd := s.h + (rorW s.e 6 ^^^ rorW s.e 11 ^^^ rorW s.e 25) + ((s.e &&& s.f) ^^^ (~~~s.e &&& s.g)) + k + w
def t2W (s : S8) : Wd := (rorW s.a 2 ^^^ rorW s.a 13 ^^^ rorW s.a 22) + ((s.a &&& s.b) ^^^ (s.a &&& s.c) ^^^ (s.b &&& s.c))
def stepS (s : S8) (k w : Wd) : S8 := ⟨t1W s k w + t2W s, s.a, s.b, s.c, s.d + t1W s k w, s.e, s.f, s.g⟩
def roundsS (W : Nat → Wd) (s : S8) : Nat → S8
  | 0 => s
  | t + 1 => stepS (roundsS W s t) (K t) (W t)
def addS (s t : S8) : S8 := ⟨s.a + t.a, s.b + t.b, s.c + t.c, s.d + t.d, s.e + t.e, s.f + t.f, s.g + t.g, s.h + t.h⟩

def sg0 (x : Wd) : Wd := rorW x 7 ^^^ rorW x 18 ^^^ (x >>> 3)
def sg1 (x : Wd) : Wd := rorW x 17 ^^^ rorW x 19 ^^^ (x >>> 10)
def nextW (l : List Wd) : Wd := sg1 (l.getD (l.length - 2) 0) + l.getD (l.length - 7) 0 + sg0 (l.getD (l.length - 15) 0) + l.getD (l.length - 16) 0
def schedL (m : List Wd) : Nat → List Wd
  | 0 => m
  | n + 1 => schedL m n ++ [nextW (schedL m n)]
/-- the words of a block of 16 words. -/
def Wt (m : List Wd) (t : Nat) : Wd := (schedL m 48).getD t 0

def be32 (b0 b1 b2 b3 : By) : Wd := (b0.setWidth 32 <<< 24) ||| (b1.setWidth 32 <<< 16) ||| (b2.setWidth 32 <<< 8) ||| b3.setWidth 32
/-- a block's 16 words. -/
def words (b : List By) : List Wd := (List.range 16).map fun i => be32 (b.getD (4 * i) 0) (b.getD (4 * i + 1) 0) (b.getD (4 * i + 2) 0) (b.getD (4 * i + 3) 0)
/-- the state behind a block of 64 bytes. -/
def blockS (s : S8) (b : List By) : S8 := addS s (roundsS (Wt (words b)) s 64)

theorem schedL_length (m : List Wd) (hm : m.length = 16) (n : Nat) : (schedL m n).length = 16 + n := by
  induction n with
  | zero => exact hm
  | succ n ih => simp [schedL, ih]; omega
theorem schedL_stays (m : List Wd) (hm : m.length = 16) (n d t : Nat) (ht : t < 16 + n) : (schedL m (n + d)).getD t 0 = (schedL m n).getD t 0 := by
  induction d with
  | zero => rfl
  | succ d ih =>
    rw [← ih]
    show (schedL m (n + d) ++ _).getD t 0 = _
    simp only [List.getD_eq_getElem?_getD]
    rw [List.getElem?_append_left (by rw [schedL_length m hm]; omega)]
theorem Wt_low (m : List Wd) (hm : m.length = 16) (t : Nat) (ht : t < 16) : Wt m t = m.getD t 0 := by
  have := schedL_stays m hm 0 48 t (by omega)
  simpa [Wt, schedL] using this
theorem Wt_high (m : List Wd) (hm : m.length = 16) (t : Nat) (h0 : 16 ≤ t) (ht : t < 64) :
    Wt m t = sg1 (Wt m (t - 2)) + Wt m (t - 7) + sg0 (Wt m (t - 15)) + Wt m (t - 16) := by
  obtain ⟨n, rfl⟩ : ∃ n, t = 16 + n := ⟨t - 16, by omega⟩
  have hl := schedL_length m hm n
  have key : ∀ i, i < 16 + n → (schedL m n).getD i 0 = Wt m i := fun i hi => by
    have := schedL_stays m hm n (48 - n) i hi
    rw [show n + (48 - n) = 48 from by omega] at this
    exact this.symm
  have h1 := schedL_stays m hm (n + 1) (48 - (n + 1)) (16 + n) (by omega)
  rw [show n + 1 + (48 - (n + 1)) = 48 from by omega] at h1
  have h2 : (schedL m (n + 1)).getD (16 + n) 0 = nextW (schedL m n) := by
    show (schedL m n ++ [nextW (schedL m n)]).getD (16 + n) 0 = _
    simp only [List.getD_eq_getElem?_getD]
    rw [List.getElem?_append_right (by omega), hl]; simp
  show (schedL m 48).getD (16 + n) 0 = _
  rw [h1, h2]
  unfold nextW
  rw [hl, key _ (by omega), key _ (by omega), key _ (by omega), key _ (by omega)]

theorem words_length (b : List By) : (words b).length = 16 := by simp [words]
theorem words_getD (b : List By) (i : Nat) (hi : i < 16) : (words b).getD i 0 = be32 (b.getD (4 * i) 0) (b.getD (4 * i + 1) 0) (b.getD (4 * i + 2) 0) (b.getD (4 * i + 3) 0) := by
  simp [words, List.getD_eq_getElem?_getD, hi]

end Go.Proofs.Ytmcpobmmogeiiaa
