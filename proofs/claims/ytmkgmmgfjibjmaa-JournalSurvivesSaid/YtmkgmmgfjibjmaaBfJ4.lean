/-
  The journal: the form of sectors. Printed by program (j3.py). Nothing is claimed here.
-/
import Derived.Test.YtmkgmmgfjibjmaaBfJ3
set_option maxRecDepth 100000
set_option maxHeartbeats 8000000
namespace Go.Bf
open Go Go.RowKit Go.Proofs Go.IntWalk
attribute [local simp] encB rowL rowW encSs encPs encD maxLen isBytes_map bytesOf_map
def kindD (s : List UInt8) : UInt8 := s.getD 10 0
def lenD (s : List UInt8) : Nat := (s.getD 11 0).toNat
def genD (s : List UInt8) : Nat := getN (s.take 4)
theorem s10_eq (s : List UInt8) (h : 10 < s.length) : s[10] = kindD s := by simp [kindD, h]
theorem s11_eq (s : List UInt8) (h : 11 < s.length) : s[11].toNat = lenD s := by simp [lenD, h]
theorem lenD_lt (s : List UInt8) : lenD s < 256 := UInt8.toNat_lt _
theorem genD_lt (s : List UInt8) : genD s < 4294967296 := by
  have h := getN_lt _ (s.take 4) rfl
  refine Nat.lt_of_lt_of_le h (Nat.le_trans (Nat.pow_le_pow_right (by omega) (show (s.take 4).length ≤ 4 by simp; omega)) (by decide))
/-- The bytes of a record that a sector says it bears. -/
def partD (s : List UInt8) : List UInt8 := (s.drop 12).take (lenD s)
theorem and8 (x : UInt8) (y : Nat) (hy : y < 256) : bitF .and .u8 (x.toNat : Int) (y : Int) = ((x &&& UInt8.ofNat y).toNat : Int) := by
  unfold bitF
  show IntKind.u8.wrap ((BitVec.ofInt 8 (x.toNat : Int) &&& BitVec.ofInt 8 (y : Int)).toNat : Int) = _
  rw [BitVec.ofInt_natCast, BitVec.ofInt_natCast, BitVec.toNat_and, BitVec.toNat_ofNat, BitVec.toNat_ofNat, Nat.mod_eq_of_lt (by have := x.toNat_lt; omega), Nat.mod_eq_of_lt (by omega)]
  rw [UInt8.toNat_and, UInt8.toNat_ofNat', Nat.mod_eq_of_lt (by omega)]
  have : x.toNat &&& y ≤ x.toNat := Nat.and_le_left
  have hx := x.toNat_lt
  generalize x.toNat &&& y = m at *
  simp [IntKind.wrap, IntKind.signed, IntKind.bits]
  omega
/-- The form of a sector, without its checksum. -/
def formD (s : List UInt8) : Bool := !(decide (112 < lenD s) || decide (3 < kindD s) || (decide (kindD s &&& 2 = 0) && decide (lenD s < 112)) || (decide (kindD s &&& 1 = 0) && decide (lenD s = 0)))
theorem form_le {s : List UInt8} (h : formD s = true) : lenD s ≤ 112 := by
  simp only [formD, Bool.not_eq_true', Bool.or_eq_false_iff, decide_eq_false_iff_not] at h; omega
theorem form_bool (s : List UInt8) : (decide (112 < (lenD s : Int)) || decide (3 < ((kindD s).toNat : Int)) || decide (bitF .and .u8 ((kindD s).toNat : Int) 2 = 0) && decide ((lenD s : Int) < 112) || decide (bitF .and .u8 ((kindD s).toNat : Int) 1 = 0) && decide (lenD s = 0)) = !formD s := by
  have hb1 := and8 (kindD s) 1 (by omega)
  have hb2 := and8 (kindD s) 2 (by omega)
  rw [show ((1 : Nat) : Int) = 1 from rfl] at hb1
  rw [show ((2 : Nat) : Int) = 2 from rfl] at hb2
  have z : ∀ x : UInt8, decide ((x.toNat : Int) = 0) = decide (x = 0) := fun x => by
    rw [decide_eq_decide, ← UInt8.toNat_inj, UInt8.toNat_zero]; omega
  have l3 : decide (3 < ((kindD s).toNat : Int)) = decide (3 < kindD s) := by
    rw [decide_eq_decide, UInt8.lt_iff_toNat_lt, show (3 : UInt8).toNat = 3 from rfl]; omega
  rw [hb1, hb2, z, z, l3, formD, Bool.not_not, decide_eq_decide.2 (show 112 < (lenD s : Int) ↔ 112 < lenD s by omega), decide_eq_decide.2 (show (lenD s : Int) < 112 ↔ lenD s < 112 by omega)]
  rfl
def goodD (s : List UInt8) (k : Nat) : Bool := formD s && decide (0 < genD s) && decide (s = encS (genD s) k (kindD s) (partD s))
theorem good_c (s : List UInt8) (hs : s.length = 128) (k : Nat) (hk0 : k < 9223372036854775808) : FnWp Try.prog 55 [encB s, .int .i64 k] (· = .ret (.bool (goodD s k))) := by
  refine FnWp.intro' Try.func55 rfl (by simp [Try.ntmps55]) fun E hE => ?_
  refine DWp.reg false fun kk hk => ?_
  simp
  refine hk _ ?_
  have hs10 : 10 < s.length := by omega
  have hs11 : 11 < s.length := by omega
  have e10 : s[10] = kindD s := s10_eq s hs10
  have e11 : s[11].toNat = lenD s := s11_eq s hs11
  have hl := lenD_lt s
  have w11 : IntKind.i64.wrap (lenD s : Int) = lenD s := i64_in _ (by omega)
  have hb1 := and8 (kindD s) 1 (by omega)
  have hb2 := and8 (kindD s) 2 (by omega)
  refine DWp.reg false fun kk hk => ?_
  simp [hs11, rowB, cB, e11, w11]
  refine ⟨by omega, ?_⟩
  refine hk _ ?_
  refine DWp.seqK fun k1 hk1 => ?_
  refine DWp.reg false fun kk hk => ?_
  simp [hs10, rowB, cB, e10]
  refine ⟨fun _ => by omega, fun _ _ => by omega, fun _ _ _ => by omega, ?_⟩
  refine hk _ ?_
  refine DWp.sub (Sub.of (n := 60) (sl := [(0, .d (encB s)), (1, .d (.int .i64 k)), (5, .d (.int .i64 (lenD s))), (40, .d (.bool (!formD s)))]) (ml := []) [] ⟨rfl, rfl, by simp, by simp, by simp; exact form_bool s, by simp⟩) ?_
  refine DWp.condB ?_
  simp
  refine ⟨fun hT0 => ?_, fun hF0 => ?_⟩
  · simp [Tt] at hT0
    refine DWp.reg false fun kk hk => ?_
    simp
    refine hk _ ?_
    refine DWp.ret (hE _ ?_).2
    simp [goodD, hT0]
  · simp [Ff] at hF0
    have hle : lenD s ≤ 112 := form_le hF0
    have w12 : IntKind.i64.wrap (12 + (lenD s : Int)) = ((12 + lenD s : Nat) : Int) := by rw [i64_in _ (by omega)]; omega
    have w13 : ((12 : Int) + (lenD s : Int)).toNat = 12 + lenD s := by omega
    have hpl : (partD s).length ≤ 112 := by simp [partD]; omega
    have hpart : List.drop 12 (List.take (12 + lenD s) (s.map rowB)) = (partD s).map rowB := by rw [List.drop_take, Nat.add_sub_cancel_left, partD, List.map_take, List.map_drop]
    refine DWp.skip ?_
    refine hk1 _ ?_
    refine DWp.reg false fun kk hk => ?_
    simp
    refine ⟨by omega, ?_⟩
    rw [← List.map_take]
    refine CallAt.det false ent40 rfl (get_c (s.take 4) (by simp; omega)) ?_
    simp
    refine hk _ ?_
    refine DWp.sub (Sub.of (n := 60) (sl := [(0, .d (encB s)), (1, .d (.int .i64 k)), (5, .d (.int .i64 (lenD s))), (6, .d (.int .u64 (genD s)))]) (ml := []) [] ⟨rfl, rfl, by simp, by simp, by simp [genD], by simp⟩) ?_
    refine DWp.drawPR false [] (.take 0 (.take 1 (.take 2 (.take 3 (.take 4 (.take 5 (.take 6 (.take 7 (.take 8 (.take 9 (.take 10 (.take 11 (.take 12 (.take 13 (.take 14 (.take 15 (.take 16 .done))))))))))))))))) mixed (by kernel_rfl) fun kk hk => ?_
    simp [hs10, rowB, e10, w12, w13, hpart]
    refine ⟨fun _ => by omega, fun _ => ⟨by omega, by omega⟩, ?_⟩
    refine DetCall.intro ent43 rfl (fun _ => encode_c (genD s) k (kindD s) (partD s) hpl hk0) ?_
    simp
    refine DetCall.intro ent42 rfl (fun _ => equalB_c s _) ?_
    simp
    refine hk _ ?_
    refine DWp.ret (hE _ ?_).2
    simp [goodD, hF0]
end Go.Bf
