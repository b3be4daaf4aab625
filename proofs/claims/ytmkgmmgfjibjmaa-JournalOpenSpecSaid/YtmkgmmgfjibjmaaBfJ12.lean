/-
  The journal's reference: sectors. Printed by program (j11.py). Nothing is claimed here.
-/
import Derived.Test.YtmkgmmgfjibjmaaBfJ11
set_option maxRecDepth 100000
set_option maxHeartbeats 8000000
namespace Go.Bf
open Go Go.RowKit Go.Proofs Go.IntWalk
attribute [local simp] encB rowL rowW encSs encPs encD maxLen isBytes_map bytesOf_map encJ
theorem num_int (n : Nat) (c : UInt8) (h : n < 256 ^ 7) : IntKind.u64.wrap (IntKind.u64.wrap (256 * (n : Int)) + IntKind.u64.wrap (c.toNat : Int)) = ((n * 256 + c.toNat : Nat) : Int) := by
  have hc := c.toNat_lt
  rw [show (256 * (n : Int)) = ((256 * n : Nat) : Int) by simp, wrap64 _ (by omega), wrap64 _ (by omega), show ((256 * n : Nat) : Int) + (c.toNat : Int) = ((n * 256 + c.toNat : Nat) : Int) by omega, wrap64 _ (by omega)]
theorem bad_bool (s : List UInt8) (hs : s.length = 128) (k : Nat) (hk : k < 65536) : (decide (genD s = 0) || !decide ((genD s : Int) = (tailD s : Int)) || !decide (IntKind.u32.wrap (getN (List.take 4 (List.drop 4 s)) : Int) = ((sumD (List.take 116 (List.drop 8 s))).toNat : Int)) || !decide ((getN (List.take 2 (List.drop 8 s)) : Int) = IntKind.u64.wrap (k : Int)) || decide (3 < ((kindD s).toNat : Int)) || decide (112 < (lenD s : Int)) || decide (((kindD s).toNat : Int) < 2) && !decide ((lenD s : Int) = 112) || decide (((kindD s).toNat : Int).tmod 2 = 0) && decide (lenD s = 0)) = badR s k := by
  have h4 := getN_lt 4 (List.take 4 (List.drop 4 s)) (by simp; omega)
  rw [wrap32 _ (by omega), wrap64 _ (by omega), badR, decide_eq_decide.2 (show (genD s : Int) = (tailD s : Int) ↔ genD s = tailD s by omega), decide_eq_decide.2 (show (getN (List.take 4 (List.drop 4 s)) : Int) = ((sumD (List.take 116 (List.drop 8 s))).toNat : Int) ↔ getN (List.take 4 (List.drop 4 s)) = (sumD (List.take 116 (List.drop 8 s))).toNat by omega),
    decide_eq_decide.2 (show (getN (List.take 2 (List.drop 8 s)) : Int) = (k : Int) ↔ getN (List.take 2 (List.drop 8 s)) = k by omega), decide_eq_decide.2 (show 3 < ((kindD s).toNat : Int) ↔ 3 < (kindD s).toNat by omega), decide_eq_decide.2 (show 112 < (lenD s : Int) ↔ 112 < lenD s by omega), decide_eq_decide.2 (show ((kindD s).toNat : Int) < 2 ↔ (kindD s).toNat < 2 by omega),
    decide_eq_decide.2 (show (lenD s : Int) = 112 ↔ lenD s = 112 by omega), decide_eq_decide.2 (show ((kindD s).toNat : Int).tmod 2 = 0 ↔ (kindD s).toNat % 2 = 0 by rw [Int.tmod_eq_emod_of_nonneg (by omega)]; omega)]
theorem zeros_iff (s : List UInt8) (hs : s.length = 128) (h : lenD s ≤ 112) : ((s.drop (12 + lenD s)).take (112 - lenD s)).all (· == 0) = true ↔ ∀ j, 12 + lenD s ≤ j → j < 124 → s.getD j 0 = 0 := by
  rw [List.all_eq_true]
  constructor
  · intro h1 j h2 h3
    have hj : j < s.length := by omega
    have e : s.getD j 0 = s[j] := by simp [hj]
    rw [e]
    refine eq_of_beq (h1 _ ?_)
    rw [List.mem_iff_getElem]
    exact ⟨j - (12 + lenD s), by simp; omega, by simp [show 12 + lenD s + (j - (12 + lenD s)) = j by omega]⟩
  · intro h1 x hx
    obtain ⟨i, hi, rfl⟩ := List.mem_iff_getElem.1 hx
    simp only [List.length_take, List.length_drop] at hi
    have := h1 (12 + lenD s + i) (by omega) (by omega)
    have e : s.getD (12 + lenD s + i) 0 = s[12 + lenD s + i] := by simp [show 12 + lenD s + i < s.length by omega]
    rw [e] at this
    simp [this]
theorem tmod2 (n : Nat) : Int.tmod (n : Int) 2 = 1 ↔ n % 2 = 1 := by
  rw [Int.tmod_eq_emod_of_nonneg (by omega)]; omega
theorem step_odd (n : BitVec 32) (h : n.toNat % 2 = 1) : bitF .xor .u32 (Int.fdiv (n.toNat : Int) (2 ^ 1)) 3988292384 = ((crc1 n).toNat : Int) := by
  have := xor32 (n >>> 1) 3988292384#32
  rw [crc1_odd n h, shr32_1, ← this]; rfl
theorem step_even (n : BitVec 32) (h : ¬ n.toNat % 2 = 1) : Int.fdiv (n.toNat : Int) (2 ^ 1) = ((crc1 n).toNat : Int) := by
  rw [crc1_even n h, shr32_1]
theorem ent57 : Enters Try.prog 57 := enters_of Try.func57 rfl rfl
theorem ent67 : Enters Try.prog 67 := enters_of Try.func67 rfl rfl
theorem ent64 : Enters Try.prog 64 := enters_of Try.func64 rfl rfl
theorem refNumber_c (b : List UInt8) (hb : b.length ≤ 8) : FnWp Try.prog 57 [encB b] (· = .ret (.int .u64 (getN b))) := by
  refine FnWp.intro' Try.func57 rfl (by simp [Try.ntmps57]) fun E hE => ?_
  refine DWp.reg false fun kk hk => ?_
  simp
  refine hk _ ?_
  refine DWp.reg false fun kk hk => ?_
  simp
  refine hk _ ?_
  refine DWp.seqK fun k1 hk1 => ?_
  refine DWp.reg false fun kk hk => ?_
  simp
  refine hk _ ?_
  refine DWp.block ?_
  refine DWp.loopK (fun i : Nat => Know.of 20 [(0, .d (encB b)), (3, .d (.int .u64 (getN (b.take i)))), (4, .d (.int .i64 i))] [])
    (fun i => i ≤ b.length) (fun i => b.length - i) 0 (Sub.of [] ⟨rfl, rfl, by simp, by simp, by simp [getN], by simp⟩) (by simp) ?_
  rintro i hi kl2 hkl2
  refine DWp.seqK fun k3 hk3 => ?_
  refine DWp.reg false fun kk hk => ?_
  simp
  refine hk _ ?_
  refine DWp.condB ?_
  simp
  refine ⟨fun hT0 => ?_, fun hF0 => ?_⟩
  · simp [Tt] at hT0
    refine DWp.skip ?_
    refine hk3 _ ?_
    refine DWp.seqK fun k4 hk4 => ?_
    refine DWp.block ?_
    refine DWp.regionV false ?_
    simp [hT0, rowB, cB]
    refine hk4 _ ?_
    refine DWp.regionV false ?_
    simp
    rw [i64_in ((i : Int) + 1) (by omega)]
    have hlt : getN (b.take i) < 256 ^ 7 := Nat.lt_of_lt_of_le (getN_lt i (b.take i) (by simp; omega)) (Nat.pow_le_pow_right (by omega) (by omega))
    have ho := num_int (getN (b.take i)) b[i] hlt
    refine hkl2 _ (i + 1) (by omega) (by omega) (Sub.of [] ⟨rfl, rfl, by simp, by simp, by simp [getN_succ b i hT0]; simpa using ho, by simp⟩)
  · simp [Ff] at hF0
    refine DWp.exit ?_
    simp
    refine hk1 _ ?_
    refine DWp.reg false fun kk hk => ?_
    simp
    refine hk _ ?_
    obtain rfl : i = b.length := by omega
    refine DWp.ret (hE _ ?_).2
    simp
theorem refSum_c (b : List UInt8) (hb : b.length ≤ 140737488355328) : FnWp Try.prog 67 [encB b] (· = .ret (.int .u32 (sumD b).toNat)) := by
  refine FnWp.intro' Try.func67 rfl (by simp [Try.ntmps67]) fun E hE => ?_
  refine DWp.reg false fun kk hk => ?_
  simp
  refine hk _ ?_
  refine DWp.reg false fun kk hk => ?_
  simp
  refine hk _ ?_
  refine DWp.seqK fun k1 hk1 => ?_
  refine DWp.reg false fun kk hk => ?_
  simp
  refine hk _ ?_
  refine DWp.block ?_
  refine DWp.loopK (fun i : Nat => Know.of 33 [(0, .d (encB b)), (3, .d (.int .u32 (crcL (b.take i)).toNat)), (4, .d (.int .i64 i))] [])
    (fun i => i ≤ b.length) (fun i => b.length - i) 0 (Sub.of [] ⟨rfl, rfl, by simp, by simp, by simp [crcL], by simp⟩) (by simp) ?_
  rintro i hi kl2 hkl2
  refine DWp.seqK fun k3 hk3 => ?_
  refine DWp.reg false fun kk hk => ?_
  simp
  refine hk _ ?_
  refine DWp.condB ?_
  simp
  refine ⟨fun hT0 => ?_, fun hF0 => ?_⟩
  · simp [Tt] at hT0
    refine DWp.skip ?_
    refine hk3 _ ?_
    refine DWp.seqK fun k4 hk4 => ?_
    refine DWp.block ?_
    refine DWp.reg false fun kk hk => ?_
    simp [hT0, rowB, cB]
    refine hk _ ?_
    refine DWp.reg false fun kk hk => ?_
    simp
    refine hk _ ?_
    refine DWp.block ?_
    refine DWp.loopK (fun j : Nat => Know.of 33 [(0, .d (encB b)), (3, .d (.int .u32 (crcJ j (crcL (b.take i) ^^^ BitVec.ofNat 32 b[i].toNat)).toNat)), (4, .d (.int .i64 i)), (5, .d (.int .i64 j))] [])
      (fun j => j ≤ 8) (fun j => 8 - j) 0 (Sub.of [] ⟨rfl, rfl, by simp, by simp, by simp [crcJ, wrapu32, xorc_int], by simp⟩) (by simp) ?_
    rintro j hj kl5 hkl5
    obtain ⟨n, hn⟩ : ∃ n, crcJ j (crcL (b.take i) ^^^ BitVec.ofNat 32 b[i].toNat) = n := ⟨_, rfl⟩
    simp only [hn]
    refine DWp.seqK fun k6 hk6 => ?_
    refine DWp.reg false fun kk hk => ?_
    simp
    refine hk _ ?_
    refine DWp.condB ?_
    simp
    refine ⟨fun hT1 => ?_, fun hF1 => ?_⟩
    · simp [Tt] at hT1
      refine DWp.skip ?_
      refine hk6 _ ?_
      refine DWp.seqK fun k7 hk7 => ?_
      refine DWp.block ?_
      refine DWp.reg false fun kk hk => ?_
      simp
      refine hk _ ?_
      refine DWp.condB ?_
      simp
      refine ⟨fun hT2 => ?_, fun hF2 => ?_⟩
      · simp [Tt] at hT2
        have hst := step_odd n ((tmod2 _).1 hT2)
        refine DWp.regionV false ?_
        simp
        refine hk7 _ ?_
        refine DWp.regionV false ?_
        simp
        rw [i64_in _ (by omega)]
        refine hkl5 _ (j + 1) (by omega) (by omega) (Sub.of [] ⟨rfl, rfl, by simp, by simp, by simp [crcJ, hn]; exact hst, by simp⟩)
      · simp [Ff] at hF2
        have hst := step_even n (mt (tmod2 _).2 hF2)
        refine DWp.regionV false ?_
        simp
        refine hk7 _ ?_
        refine DWp.regionV false ?_
        simp
        rw [i64_in _ (by omega)]
        refine hkl5 _ (j + 1) (by omega) (by omega) (Sub.of [] ⟨rfl, rfl, by simp, by simp, by simp [crcJ, hn]; exact hst, by simp⟩)
    · simp [Ff] at hF1
      obtain rfl : j = 8 := by omega
      have hfin : crcB (crcL (b.take i)) b[i] = n := hn
      refine DWp.exit ?_
      simp
      refine hk4 _ ?_
      refine DWp.regionV false ?_
      simp
      rw [i64_in _ (by omega)]
      refine hkl2 _ (i + 1) (by omega) (by omega) (Sub.of [] ⟨rfl, rfl, by simp, by simp, by simp [crcL_succ b i hT0, hfin], by simp⟩)
  · simp [Ff] at hF0
    refine DWp.exit ?_
    simp
    refine hk1 _ ?_
    refine DWp.reg false fun kk hk => ?_
    simp
    refine hk _ ?_
    obtain rfl : i = b.length := by omega
    refine DWp.ret (hE _ ?_).2
    simp
    have := xor32 (crcL b) 4294967295#32
    rw [sumD, ← this]
    rfl
theorem refGood_c (s : List UInt8) (hs : s.length = 128) (k : Nat) (hk0 : k < 65536) : FnWp Try.prog 64 [encB s, .int .i64 k] (· = .ret (.bool (goodD s k))) := by
  refine FnWp.intro' Try.func64 rfl (by simp [Try.ntmps64]) fun E hE => ?_
  refine DWp.reg false fun kk hk => ?_
  simp
  refine hk _ ?_
  rw [← good_eq s k hs hk0] at hE
  have hs10 : 10 < s.length := by omega
  have hs11 : 11 < s.length := by omega
  have e10 : s[10] = kindD s := s10_eq s hs10
  have e11 : s[11].toNat = lenD s := s11_eq s hs11
  have hl := lenD_lt s
  have w11 : IntKind.i64.wrap (lenD s : Int) = lenD s := i64_in _ (by omega)
  refine DWp.reg false fun kk hk => ?_
  simp [hs11, rowB, cB, e11, w11]
  refine ⟨by omega, ?_⟩
  refine hk _ ?_
  refine DWp.seqK fun k1 hk1 => ?_
  refine DWp.drawPR false [] (.take 0 (.take 1 (.take 2 (.take 3 (.take 4 (.take 5 (.take 6 (.take 7 (.take 8 (.take 9 (.take 10 (.take 11 (.take 12 (.take 13 (.take 14 (.take 15 (.take 16 (.take 17 (.take 18 (.take 19 (.take 20 (.take 21 (.take 22 (.take 23 (.take 24 (.take 25 (.take 26 (.take 27 (.take 28 (.take 29 (.take 30 (.take 31 (.take 32 (.take 33 (.take 34 (.take 35 (.take 36 (.take 37 (.take 38 (.take 39 (.take 40 (.take 41 (.take 42 (.take 43 (.take 44 (.take 45 (.take 46 (.take 47 (.take 48 (.take 49 (.take 50 (.take 51 (.take 52 (.take 53 (.take 54 (.take 55 (.take 56 (.take 57 (.take 58 (.take 59 (.take 60 (.take 61 .done)))))))))))))))))))))))))))))))))))))))))))))))))))))))))))))) mixed (by kernel_rfl) fun kk hk => ?_
  simp [hs10, rowB, cB, e10]
  have hA : FnWp Try.prog 57 [DV.list (List.take 4 (List.map rowB s))] (· = .ret (.int .u64 (genD s))) := by rw [← List.map_take]; exact refNumber_c (s.take 4) (by simp; omega)
  have hB : FnWp Try.prog 57 [DV.list (List.drop 124 (List.map rowB s))] (· = .ret (.int .u64 (tailD s))) := by rw [← List.map_drop]; exact refNumber_c (s.drop 124) (by simp; omega)
  have hC : FnWp Try.prog 57 [DV.list (List.drop 4 (List.take 8 (List.map rowB s)))] (· = .ret (.int .u64 (getN ((s.drop 4).take 4)))) := by rw [← List.map_take, ← List.map_drop, List.drop_take]; exact refNumber_c ((s.drop 4).take 4) (by simp; omega)
  have hD : FnWp Try.prog 67 [DV.list (List.drop 8 (List.take 124 (List.map rowB s)))] (· = .ret (.int .u32 (sumD ((s.drop 8).take 116)).toNat)) := by rw [← List.map_take, ← List.map_drop, List.drop_take]; exact refSum_c ((s.drop 8).take 116) (by simp; omega)
  have hE' : FnWp Try.prog 57 [DV.list (List.drop 8 (List.take 10 (List.map rowB s)))] (· = .ret (.int .u64 (getN ((s.drop 8).take 2)))) := by rw [← List.map_take, ← List.map_drop, List.drop_take]; exact refNumber_c ((s.drop 8).take 2) (by simp; omega)
  have htk : List.take 128 (List.map rowB s) = List.map rowB s := List.take_of_length_le (by simp; omega)
  refine ⟨by omega, ?_⟩
  refine DetCall.intro (d := .int .u64 (genD s)) ent57 rfl (fun _ => hA) ?_
  simp [hs10, rowB, cB, e10]
  refine ⟨fun _ => by omega, ?_⟩
  refine DetCall.intro (d := .int .u64 (genD s)) ent57 rfl (fun _ => hA) ?_
  simp [hs10, rowB, cB, e10]
  refine ⟨fun _ => by omega, ?_⟩
  refine DetCall.intro (d := .int .u64 (tailD s)) ent57 rfl (fun _ => hB) ?_
  simp [hs10, rowB, cB, e10]
  refine ⟨by intros; omega, ?_⟩
  refine DetCall.intro (d := .int .u64 (getN ((s.drop 4).take 4))) ent57 rfl (fun _ => hC) ?_
  simp [hs10, rowB, cB, e10]
  refine ⟨by intros; omega, ?_⟩
  refine DetCall.intro (d := .int .u32 (sumD ((s.drop 8).take 116)).toNat) ent67 rfl (fun _ => hD) ?_
  simp [hs10, rowB, cB, e10]
  refine ⟨by intros; omega, ?_⟩
  refine DetCall.intro (d := .int .u64 (getN ((s.drop 8).take 2))) ent57 rfl (fun _ => hE') ?_
  simp [hs10, rowB, cB, e10]
  refine ⟨by intros; omega, by intros; omega, by intros; omega, ?_⟩
  refine hk _ ?_
  refine DWp.sub (Sub.of (n := 84) (sl := [(0, .d (encB s)), (1, .d (.int .i64 k)), (5, .d (.int .i64 (lenD s))), (72, .d (.bool (badR s k)))]) (ml := []) [] ⟨rfl, rfl, by simp, by simp, by simp; exact bad_bool s hs k hk0, by simp⟩) ?_
  refine DWp.condB ?_
  simp
  refine ⟨fun hT0 => ?_, fun hF0 => ?_⟩
  · simp [Tt] at hT0
    refine DWp.reg false fun kk hk => ?_
    simp
    refine hk _ ?_
    refine DWp.ret (hE _ ?_).2
    simp [goodR, hT0]
  · simp [Ff] at hF0
    have hle : lenD s ≤ 112 := form_le ((bad_iff s k).1 hF0).2.2.2.2
    have w12 : IntKind.i64.wrap (12 + (lenD s : Int)) = ((12 + lenD s : Nat) : Int) := by rw [i64_in _ (by omega)]; omega
    refine DWp.skip ?_
    refine hk1 _ ?_
    refine DWp.seqK fun k2 hk2 => ?_
    refine DWp.reg false fun kk hk => ?_
    simp
    refine hk _ ?_
    refine DWp.block ?_
    refine DWp.loopK (fun i : Nat => Know.of 84 [(0, .d (encB s)), (6, .d (.int .i64 i))] [])
      (fun i => 12 + lenD s ≤ i ∧ i ≤ 124 ∧ ∀ j, 12 + lenD s ≤ j → j < i → s.getD j 0 = 0) (fun i => 124 - i) (12 + lenD s) (Sub.of [] ⟨rfl, rfl, by simp, by simp, by simp [w12], by simp⟩) ⟨by omega, by omega, fun j h1 h2 => by omega⟩ ?_
    rintro i ⟨hi1, hi2, hz⟩ kl3 hkl3
    refine DWp.seqK fun k4 hk4 => ?_
    refine DWp.reg false fun kk hk => ?_
    simp
    refine hk _ ?_
    refine DWp.condB ?_
    simp
    refine ⟨fun hT1 => ?_, fun hF1 => ?_⟩
    · simp [Tt] at hT1
      have hlt : i < s.length := by omega
      refine DWp.skip ?_
      refine hk4 _ ?_
      refine DWp.seqK fun k5 hk5 => ?_
      refine DWp.block ?_
      refine DWp.reg false fun kk hk => ?_
      simp [hlt, rowB, cB]
      refine hk _ ?_
      refine DWp.condB ?_
      simp
      refine ⟨fun hT2 => ?_, fun hF2 => ?_⟩
      · simp [Tt] at hT2
        refine DWp.reg false fun kk hk => ?_
        simp
        refine hk _ ?_
        have hno : ((s.drop (12 + lenD s)).take (112 - lenD s)).all (· == 0) = false := by
          rw [Bool.eq_false_iff]
          intro h
          have := (zeros_iff s hs hle).1 h i hi1 (by omega)
          rw [show s.getD i 0 = s[i] by simp [hlt]] at this
          exact hT2 (by rw [this]; rfl)
        refine DWp.ret (hE _ ?_).2
        rw [show goodR s k = false by rw [goodR, hno, Bool.and_false]]
        simp
      · simp [Ff] at hF2
        have hzi : s.getD i 0 = 0 := by rw [show s.getD i 0 = s[i] by simp [hlt]]; exact UInt8.toNat_inj.1 hF2
        refine DWp.skip ?_
        refine hk5 _ ?_
        refine DWp.regionV false ?_
        simp
        rw [i64_in _ (by omega)]
        refine hkl3 _ (i + 1) ⟨by omega, by omega, fun j h1 h2 => ?_⟩ (by omega) (Sub.of [] ⟨rfl, rfl, by simp, by simp, by simp, by simp⟩)
        by_cases e : j = i
        · subst e; exact hzi
        · exact hz j h1 (by omega)
    · simp [Ff] at hF1
      obtain rfl : i = 124 := by omega
      refine DWp.exit ?_
      simp
      refine hk2 _ ?_
      refine DWp.reg false fun kk hk => ?_
      simp
      refine hk _ ?_
      have hyes := (zeros_iff s hs hle).2 hz
      refine DWp.ret (hE _ ?_).2
      rw [show goodR s k = true by rw [goodR, hyes, hF0]; rfl]
      simp
end Go.Bf
