/-
  Numbers of 32 and 64 bits, bytes of numbers, a checksum: plain words. Nothing is claimed here.
-/
import Derived.Test.YtmkgmmgfjibjmaaFwC
namespace Go.Bf
open Go Go.RowKit Go.IntWalk
theorem wrap32 (n : Nat) (h : n < 4294967296) : IntKind.u32.wrap (n : Int) = n := u32_in _ ⟨by omega, by omega⟩
theorem wrap64 (n : Nat) (h : n < 18446744073709551616) : IntKind.u64.wrap (n : Int) = n := u64_in _ ⟨by omega, by omega⟩
theorem ofInt32 (x : BitVec 32) : BitVec.ofInt 32 (x.toNat : Int) = x := by
  rw [BitVec.ofInt_natCast, BitVec.ofNat_toNat]; simp
theorem xor32 (x y : BitVec 32) : bitF .xor .u32 (x.toNat : Int) (y.toNat : Int) = ((x ^^^ y).toNat : Int) := by
  unfold bitF
  show IntKind.u32.wrap ((BitVec.ofInt 32 (x.toNat : Int) ^^^ BitVec.ofInt 32 (y.toNat : Int)).toNat : Int) = _
  rw [ofInt32, ofInt32]
  exact wrap32 _ (x ^^^ y).isLt
theorem and32' (x y : BitVec 32) : bitF .and .u32 (x.toNat : Int) (y.toNat : Int) = ((x &&& y).toNat : Int) := by
  unfold bitF
  show IntKind.u32.wrap ((BitVec.ofInt 32 (x.toNat : Int) &&& BitVec.ofInt 32 (y.toNat : Int)).toNat : Int) = _
  rw [ofInt32, ofInt32]
  exact wrap32 _ (x &&& y).isLt
theorem mul32 (x y : BitVec 32) : IntKind.u32.wrap ((x.toNat : Int) * (y.toNat : Int)) = ((x * y).toNat : Int) := by
  rw [BitVec.toNat_mul, show (x.toNat : Int) * (y.toNat : Int) = ((x.toNat * y.toNat : Nat) : Int) by simp]
  generalize x.toNat * y.toNat = n
  simp [IntKind.wrap, IntKind.signed, IntKind.bits]
/-- One step of the checksum, on one bit. -/
def crc1 (n : BitVec 32) : BitVec 32 := (n >>> 1) ^^^ (3988292384#32 * (n &&& 1#32))
def crcJ : Nat → BitVec 32 → BitVec 32
  | 0, n => n
  | j + 1, n => crc1 (crcJ j n)
def crcB (n : BitVec 32) (c : UInt8) : BitVec 32 := crcJ 8 (n ^^^ BitVec.ofNat 32 c.toNat)
def crcL (b : List UInt8) : BitVec 32 := b.foldl crcB 4294967295#32
def sumD (b : List UInt8) : BitVec 32 := crcL b ^^^ 4294967295#32
theorem crcL_succ (b : List UInt8) (i : Nat) (h : i < b.length) : crcL (b.take (i + 1)) = crcB (crcL (b.take i)) b[i] := by
  rw [List.take_succ_eq_append_getElem h]; simp only [crcL, List.foldl_append, List.foldl_cons, List.foldl_nil]
theorem shr32_1 (n : BitVec 32) : Int.fdiv (n.toNat : Int) (2 ^ 1) = ((n >>> 1).toNat : Int) := by
  rw [BitVec.toNat_ushiftRight, Nat.shiftRight_eq_div_pow, Int.fdiv_eq_ediv_of_nonneg _ (by decide)]
  simp
theorem crc1_int (n : BitVec 32) : bitF .xor .u32 (Int.fdiv (n.toNat : Int) (2 ^ 1)) (IntKind.u32.wrap (3988292384 * bitF .and .u32 (n.toNat : Int) 1)) = ((crc1 n).toNat : Int) := by
  have h1 := and32' n 1#32
  simp only [show ((1#32 : BitVec 32).toNat : Int) = 1 from rfl] at h1
  have h2 := mul32 3988292384#32 (n &&& 1#32)
  simp only [show ((3988292384#32 : BitVec 32).toNat : Int) = 3988292384 from rfl] at h2
  rw [h1, h2, shr32_1, xor32]; rfl
theorem toNat_ofNat8 (c : UInt8) : (BitVec.ofNat 32 c.toNat).toNat = c.toNat := by
  rw [BitVec.toNat_ofNat, Nat.mod_eq_of_lt (by have := c.toNat_lt; omega)]
theorem xorc_int (n : BitVec 32) (c : UInt8) : bitF .xor .u32 (n.toNat : Int) (c.toNat : Int) = ((n ^^^ BitVec.ofNat 32 c.toNat).toNat : Int) := by
  have := xor32 n (BitVec.ofNat 32 c.toNat)
  rwa [toNat_ofNat8] at this
/-! ### Numbers as bytes -/
def getN (b : List UInt8) : Nat := b.foldl (fun n c => n * 256 + c.toNat) 0
theorem getN_succ (b : List UInt8) (i : Nat) (h : i < b.length) : getN (b.take (i + 1)) = getN (b.take i) * 256 + b[i].toNat := by
  rw [List.take_succ_eq_append_getElem h]; simp only [getN, List.foldl_append, List.foldl_cons, List.foldl_nil]
theorem getN_snoc (b : List UInt8) (c : UInt8) : getN (b ++ [c]) = getN b * 256 + c.toNat := by simp [getN]
theorem getN_lt : ∀ (n : Nat) (b : List UInt8), b.length = n → getN b < 256 ^ n
  | 0, b, h => by
    have : b = [] := List.eq_nil_of_length_eq_zero h
    subst this; simp [getN]
  | n + 1, b, h => by
    have hne : b ≠ [] := fun e => by subst e; simp at h
    obtain ⟨l, c, rfl⟩ : ∃ l c, b = l ++ [c] := ⟨b.dropLast, b.getLast hne, (List.dropLast_concat_getLast hne).symm⟩
    have := getN_lt n l (by simpa using h)
    have hc := c.toNat_lt
    rw [getN_snoc, Nat.pow_succ]
    omega
/-- The last k bytes of a number, the most significant one first. -/
def beB (n : Nat) : Nat → List UInt8
  | 0 => []
  | k + 1 => UInt8.ofNat (n / 256 ^ k % 256) :: beB n k
@[simp] theorem beB_length (n : Nat) : ∀ k, (beB n k).length = k
  | 0 => rfl
  | k + 1 => by simp [beB, beB_length n k]
theorem getN_cons (c : UInt8) (l : List UInt8) : getN (c :: l) = c.toNat * 256 ^ l.length + getN l := by
  have key : ∀ (l : List UInt8) (m : Nat), l.foldl (fun n c => n * 256 + c.toNat) m = m * 256 ^ l.length + getN l := by
    intro l
    induction l with
    | nil => intro m; simp [getN]
    | cons d l ih =>
      intro m
      simp only [getN, List.foldl_cons, List.length_cons] at ih ⊢
      rw [ih (m * 256 + d.toNat), ih (0 * 256 + d.toNat), Nat.pow_succ]
      simp only [Nat.zero_mul, Nat.zero_add, Nat.add_mul, Nat.mul_assoc]
      rw [Nat.mul_comm 256 (256 ^ l.length)]
      omega
  simp only [getN, List.foldl_cons]
  rw [key l (0 * 256 + c.toNat)]; simp [getN]
theorem getN_beB (n : Nat) : ∀ k, getN (beB n k) = n % 256 ^ k
  | 0 => by simp [beB, getN, Nat.mod_one]
  | k + 1 => by
    rw [beB, getN_cons, beB_length, getN_beB n k]
    have : (UInt8.ofNat (n / 256 ^ k % 256)).toNat = n / 256 ^ k % 256 := by simp
    rw [this, Nat.pow_succ, Nat.mod_mul, Nat.mul_comm]
    omega
theorem beB_getN : ∀ (l : List UInt8), beB (getN l) l.length = l
  | [] => rfl
  | c :: l => by
    have hl := getN_lt l.length l rfl
    have hp : 0 < 256 ^ l.length := Nat.pow_pos (by omega)
    have e1 : (c.toNat * 256 ^ l.length + getN l) / 256 ^ l.length = c.toNat := by
      rw [Nat.mul_comm, Nat.mul_add_div hp, Nat.div_eq_of_lt hl, Nat.add_zero]
    have key : ∀ (k a : Nat), beB (a * 256 ^ k + getN l) k = beB (getN l % 256 ^ k) k → True := fun _ _ _ => trivial
    have mod : ∀ (k m n : Nat), m % 256 ^ k = n % 256 ^ k → beB m k = beB n k := by
      intro k
      induction k with
      | zero => intro m n _; rfl
      | succ k ih =>
        intro m n h
        have hk : 0 < 256 ^ k := Nat.pow_pos (by omega)
        have h1 : m / 256 ^ k % 256 = n / 256 ^ k % 256 := by
          rw [Nat.pow_succ] at h
          have := congrArg (· / 256 ^ k) h
          simp only [Nat.mod_mul_right_div_self] at this
          exact this
        have h2 : m % 256 ^ k = n % 256 ^ k := by
          rw [Nat.pow_succ] at h
          have := congrArg (· % 256 ^ k) h
          simpa [Nat.mod_mul_right_mod] using this
        simp only [beB]
        rw [h1, ih m n h2]
    rw [List.length_cons, beB, getN_cons, e1, mod l.length (c.toNat * 256 ^ l.length + getN l) (getN l) (by simp [Nat.mul_comm]), beB_getN l]
    have : c.toNat % 256 = c.toNat := Nat.mod_eq_of_lt c.toNat_lt
    rw [this]; simp
theorem orb_int (n : Nat) (c : UInt8) (h : n < 256 ^ 7) : bitF .or .u64 (IntKind.u64.wrap ((n : Int) * 2 ^ (min 8 64))) (c.toNat : Int) = ((n * 256 + c.toNat : Nat) : Int) := by
  have hc := c.toNat_lt
  have e0 : ((n : Int) * 2 ^ (min 8 64)) = ((n * 256 : Nat) : Int) := by simp
  rw [e0, wrap64 _ (by omega)]
  unfold bitF
  show IntKind.u64.wrap ((BitVec.ofInt 64 ((n * 256 : Nat) : Int) ||| BitVec.ofInt 64 (c.toNat : Int)).toNat : Int) = _
  rw [BitVec.ofInt_natCast, BitVec.ofInt_natCast, BitVec.toNat_or, BitVec.toNat_ofNat, BitVec.toNat_ofNat, Nat.mod_eq_of_lt (by omega), Nat.mod_eq_of_lt (by omega)]
  have : n * 256 ||| c.toNat = n * 256 + c.toNat := by
    have := Nat.shiftLeft_add_eq_or_of_lt (i := 8) (b := c.toNat) (by omega) n
    rw [Nat.shiftLeft_eq] at this
    exact this.symm
  rw [this]
  exact wrap64 _ (by omega)
end Go.Bf
