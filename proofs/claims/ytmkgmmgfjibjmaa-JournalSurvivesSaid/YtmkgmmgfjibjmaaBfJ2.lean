/-
  The journal: checksums, numbers as bytes. Printed by program (j2.py). Nothing is claimed here.
-/
import Derived.Test.YtmkgmmgfjibjmaaBfX14
import Derived.Test.YtmkgmmgfjibjmaaBfJ0
set_option maxRecDepth 100000
set_option maxHeartbeats 4000000
namespace Go.Bf
open Go Go.RowKit Go.Proofs Go.IntWalk
attribute [local simp] encB rowL rowW encSs encPs encD maxLen isBytes_map bytesOf_map
theorem wrapu32 (c : UInt8) : IntKind.u32.wrap (c.toNat : Int) = c.toNat := wrap32 _ (by have := c.toNat_lt; omega)
theorem wrapu64 (c : UInt8) : IntKind.u64.wrap (c.toNat : Int) = c.toNat := wrap64 _ (by have := c.toNat_lt; omega)
theorem ent60 : Enters Try.prog 60 := enters_of Try.func60 rfl rfl
theorem ent59 : Enters Try.prog 59 := enters_of Try.func59 rfl rfl
theorem ent40 : Enters Try.prog 40 := enters_of Try.func40 rfl rfl
theorem ent43 : Enters Try.prog 43 := enters_of Try.func43 rfl rfl
theorem ent55 : Enters Try.prog 55 := enters_of Try.func55 rfl rfl
theorem ent42 : Enters Try.prog 42 := enters_of Try.func42 rfl rfl
theorem sum_c (b : List UInt8) (hb : b.length ≤ 140737488355328) : FnWp Try.prog 60 [encB b] (· = .ret (.int .u32 (sumD b).toNat)) := by
  refine FnWp.intro' Try.func60 rfl (by simp [Try.ntmps60]) fun E hE => ?_
  refine DWp.reg false fun kk hk => ?_
  simp
  refine hk _ ?_
  refine DWp.reg false fun kk hk => ?_
  simp
  refine hk _ ?_
  refine DWp.seqK fun k1 hk1 => ?_
  refine DWp.reg false fun kk hk => ?_
  simp
  refine hk _ ?_
  refine DWp.block ?_
  refine DWp.loopK (fun i : Nat => Know.of 28 [(3, .d (.int .u32 (crcL (b.take i)).toNat)), (6, .d (encB b)), (7, .d (.int .i64 b.length)), (8, .d (.int .i64 i))] [])
    (fun i => i ≤ b.length) (fun i => b.length - i) 0 (Sub.of [] ⟨rfl, rfl, by simp, by simp, by simp [crcL], by simp⟩) (by simp) ?_
  rintro i hi kl2 hkl2
  refine DWp.reg false fun kk hk => ?_
  simp
  refine hk _ ?_
  refine DWp.seqK fun k3 hk3 => ?_
  refine DWp.condB ?_
  simp
  refine ⟨fun hT0 => ?_, fun hF0 => ?_⟩
  · simp [Tt] at hT0
    refine DWp.skip ?_
    refine hk3 _ ?_
    refine DWp.seqK fun k4 hk4 => ?_
    refine DWp.block ?_
    refine DWp.reg false fun kk hk => ?_
    simp [hT0, rowB]
    refine hk _ ?_
    refine DWp.reg false fun kk hk => ?_
    simp [cB]
    refine hk _ ?_
    refine DWp.reg false fun kk hk => ?_
    simp
    refine hk _ ?_
    refine DWp.block ?_
    refine DWp.loopK (fun j : Nat => Know.of 28 [(3, .d (.int .u32 (crcJ j (crcL (b.take i) ^^^ BitVec.ofNat 32 b[i].toNat)).toNat)), (6, .d (encB b)), (7, .d (.int .i64 b.length)), (8, .d (.int .i64 i)), (16, .d (.int .i64 j))] [])
      (fun j => j ≤ 8) (fun j => 8 - j) 0 (Sub.of [] ⟨rfl, rfl, by simp, by simp, by simp [crcJ, wrapu32, xorc_int], by simp⟩) (by simp) ?_
    rintro j hj kl5 hkl5
    refine DWp.reg false fun kk hk => ?_
    simp
    refine hk _ ?_
    refine DWp.seqK fun k6 hk6 => ?_
    refine DWp.condB ?_
    simp
    refine ⟨fun hT1 => ?_, fun hF1 => ?_⟩
    · simp [Tt] at hT1
      refine DWp.skip ?_
      refine hk6 _ ?_
      refine DWp.seqK fun k7 hk7 => ?_
      refine DWp.block ?_
      refine DWp.regionV false ?_
      simp
      refine hk7 _ ?_
      refine DWp.regionV false ?_
      simp
      rw [i64_in _ (by omega)]
      refine hkl5 _ (j + 1) (by omega) (by omega) (Sub.of [] ⟨rfl, rfl, by simp, by simp, by simp [crcJ]; exact crc1_int _, by simp⟩)
    · simp [Ff] at hF1
      obtain rfl : j = 8 := by omega
      have hfin : crcJ 8 (crcL (b.take i) ^^^ BitVec.ofNat 32 b[i].toNat) = crcB (crcL (b.take i)) b[i] := rfl
      refine DWp.exit ?_
      simp
      refine hk4 _ ?_
      refine DWp.regionV false ?_
      simp
      rw [i64_in _ (by omega)]
      refine hkl2 _ (i + 1) (by omega) (by omega) (Sub.of [] ⟨rfl, rfl, by simp, by simp, by simp [crcL_succ b i hT0, hfin], by simp⟩)
  · simp [Ff] at hF0
    refine DWp.exit ?_
    simp
    refine hk1 _ ?_
    refine DWp.reg false fun kk hk => ?_
    simp
    refine hk _ ?_
    obtain rfl : i = b.length := by omega
    refine DWp.ret (hE _ ?_).2
    simp
    have := xor32 4294967295#32 (crcL b)
    rw [sumD, BitVec.xor_comm, ← this]
    rfl
theorem get_c (b : List UInt8) (hb : b.length ≤ 8) : FnWp Try.prog 40 [encB b] (· = .ret (.int .u64 (getN b))) := by
  refine FnWp.intro' Try.func40 rfl (by simp [Try.ntmps40]) fun E hE => ?_
  refine DWp.reg false fun kk hk => ?_
  simp
  refine hk _ ?_
  refine DWp.seqK fun k1 hk1 => ?_
  refine DWp.reg false fun kk hk => ?_
  simp
  refine hk _ ?_
  refine DWp.block ?_
  refine DWp.loopK (fun i : Nat => Know.of 18 [(2, .d (.int .u64 (getN (b.take i)))), (5, .d (encB b)), (6, .d (.int .i64 b.length)), (7, .d (.int .i64 i))] [])
    (fun i => i ≤ b.length) (fun i => b.length - i) 0 (Sub.of [] ⟨rfl, rfl, by simp, by simp, by simp [getN], by simp⟩) (by simp) ?_
  rintro i hi kl2 hkl2
  refine DWp.reg false fun kk hk => ?_
  simp
  refine hk _ ?_
  refine DWp.seqK fun k3 hk3 => ?_
  refine DWp.condB ?_
  simp
  refine ⟨fun hT0 => ?_, fun hF0 => ?_⟩
  · simp [Tt] at hT0
    refine DWp.skip ?_
    refine hk3 _ ?_
    refine DWp.seqK fun k4 hk4 => ?_
    refine DWp.block ?_
    refine DWp.reg false fun kk hk => ?_
    simp [hT0, rowB]
    refine hk _ ?_
    refine DWp.regionV false ?_
    simp [cB]
    refine hk4 _ ?_
    refine DWp.regionV false ?_
    simp
    rw [i64_in _ (by omega)]
    have hlt : getN (b.take i) < 256 ^ 7 := Nat.lt_of_lt_of_le (getN_lt i (b.take i) (by simp; omega)) (Nat.pow_le_pow_right (by omega) (by omega))
    have ho := orb_int (getN (b.take i)) b[i] hlt
    refine hkl2 _ (i + 1) (by omega) (by omega) (Sub.of [] ⟨rfl, rfl, by simp, by simp, by simp [getN_succ b i hT0, bits_u64]; simpa [wrapu64, bits_u64] using ho, by simp⟩)
  · simp [Ff] at hF0
    refine DWp.exit ?_
    simp
    refine hk1 _ ?_
    refine DWp.reg false fun kk hk => ?_
    simp
    refine hk _ ?_
    obtain rfl : i = b.length := by omega
    refine DWp.ret (hE _ ?_).2
    simp
theorem equalB_c (a b : List UInt8) : FnWp Try.prog 42 [encB a, encB b] (· = .ret (.bool (decide (a = b)))) := by
  refine FnWp.intro' Try.func42 rfl (by simp [Try.ntmps42]) fun E hE => ?_
  refine DWp.reg false fun kk hk => ?_
  simp
  refine hk _ ?_
  refine DWp.reg false fun kk hk => ?_
  simp
  refine hk _ ?_
  refine DWp.ret (hE _ ?_).2
  simp
/-- j bytes of a number have been put, from the end. -/
def putJ (ds : List DV) (off len n : Nat) : Nat → List DV
  | 0 => ds
  | j + 1 => (putJ ds off len n j).set (off + (len - 1 - j)) (cB (UInt8.ofNat (n / 256 ^ j % 256)))
def putD (ds : List DV) (off len n : Nat) : List DV := ds.take off ++ (beB n len).map cB ++ ds.drop (off + len)
theorem putJ_eq (ds : List DV) (off len n : Nat) (hf : off + len ≤ ds.length) : ∀ j, j ≤ len → putJ ds off len n j = ds.take (off + (len - j)) ++ (beB n j).map cB ++ ds.drop (off + len)
  | 0, _ => by simp [putJ, beB]
  | j + 1, h => by
    rw [putJ, putJ_eq ds off len n hf j (by omega), show off + (len - j) = (off + (len - 1 - j)) + 1 by omega, List.take_succ_eq_append_getElem (by omega), beB]
    have hl : (ds.take (off + (len - 1 - j))).length = off + (len - 1 - j) := by simp; omega
    rw [show off + (len - (j + 1)) = off + (len - 1 - j) by omega]
    simp only [List.append_assoc, List.map_cons, List.cons_append, List.nil_append]
    rw [List.set_append_right _ _ (by omega), hl, Nat.sub_self, List.set_cons_zero]
theorem putJ_length (ds : List DV) (off len n : Nat) : ∀ j, (putJ ds off len n j).length = ds.length
  | 0 => rfl
  | j + 1 => by simp [putJ, putJ_length ds off len n j]
theorem putJ_end (ds : List DV) (off len n : Nat) (hf : off + len ≤ ds.length) : putJ ds off len n len = putD ds off len n := by
  rw [putJ_eq ds off len n hf len (Nat.le_refl _)]; simp [putD]
theorem byte_int (n j : Nat) (hj : j < 8) : IntKind.u8.wrap (Int.fdiv (n : Int) (2 ^ (min (8 * j) 64))) = ((UInt8.ofNat (n / 256 ^ j % 256)).toNat : Int) := by
  rw [Nat.min_eq_left (by omega)]
  have e : ((2 : Int) ^ (8 * j)) = ((256 ^ j : Nat) : Int) := by rw [Int.pow_mul]; simp
  rw [e, Int.fdiv_eq_ediv_of_nonneg _ (Int.natCast_nonneg _)]
  have : ((n : Int) / ((256 ^ j : Nat) : Int)) = ((n / 256 ^ j : Nat) : Int) := by simp
  rw [this]
  generalize n / 256 ^ j = m
  simp [IntKind.wrap, IntKind.signed, IntKind.bits]
theorem put_c (t : TypeId) (off len n : Nat) (c : Option Nat) (ds : List DV) (hl : len ≤ 8) (hf : off + len ≤ ds.length) : FnM1 Try.prog 59 [.own 0 1 off len c, .d (.int .u64 n)] t ds (fun d ds' => d = .tup [] ∧ ds' = putD ds off len n) := by
  refine FnM1.intro' 0 Try.func59 rfl (by simp [Try.ntmps59]) (.inr ⟨_, _, _, _, rfl⟩) fun E hE => ?_
  refine DWp.reg false fun kk hk => ?_
  simp
  refine hk _ ?_
  refine DWp.block ?_
  refine DWp.loopK (fun j : Nat => Know.of 23 [(0, .own 0 1 off len c), (1, .d (.int .u64 n)), (5, .own 0 1 off len c), (6, .d (.int .i64 len)), (7, .d (.int .i64 j))] [(t, (putJ ds off len n j).map .d)] (fun _ _ _ => True) [0])
    (fun j => j ≤ len) (fun j => len - j) 0 (Sub.of [0] ⟨rfl, rfl, by simp, by simp, by simp, by simp [putJ]⟩) (by simp) ?_
  rintro j hj kl1 hkl1
  refine DWp.reg false fun kk hk => ?_
  simp
  refine hk _ ?_
  refine DWp.seqK fun k2 hk2 => ?_
  refine DWp.condB ?_
  simp
  refine ⟨fun hT0 => ?_, fun hF0 => ?_⟩
  · simp [Tt] at hT0
    refine DWp.skip ?_
    refine hk2 _ ?_
    refine DWp.seqK fun k3 hk3 => ?_
    refine DWp.block ?_
    refine DWp.reg false fun kk hk => ?_
    simp
    refine hk _ ?_
    have h8 : IntKind.i64.wrap (8 * (j : Int)) = ((8 * j : Nat) : Int) := by rw [i64_in _ (by omega)]; simp
    have h9 : IntKind.i64.wrap (IntKind.i64.wrap ((len : Int) - 1) - (j : Int)) = ((len - 1 - j : Nat) : Int) := by rw [i64_in ((len : Int) - 1) (by omega), i64_in _ (by omega)]; omega
    have hb := byte_int n j (by omega)
    have h10 : (8 * (j : Int)).toNat = 8 * j := by omega
    have hpl := putJ_length ds off len n j
    refine DWp.regionV false ?_
    simp [h8, h9, hpl]
    refine ⟨by omega, by omega, by omega, ?_⟩
    refine hk3 _ ?_
    refine DWp.regionV false ?_
    simp
    rw [i64_in ((j : Int) + 1) (by omega)]
    refine hkl1 _ (j + 1) (by omega) (by omega) (Sub.of [0] ⟨rfl, rfl, by simp, by simp, by simp, by simp [putJ, List.map_set, cB, hb, h10, bits_u64]⟩)
  · simp [Ff] at hF0
    refine DWp.exit ?_
    simp
    obtain rfl : j = len := by omega
    refine (hE _ ⟨by simp, 0, _, putJ ds off j n j, .inr ⟨1, off, j, c, by simp⟩, by simp; rfl, by simp, ?_⟩).1
    simp [putJ_end ds off j n hf]
end Go.Bf
