/-
  The journal: sectors. Printed by program (j3.py). Nothing is claimed here.
-/
import Derived.Test.YtmkgmmgfjibjmaaBfJ2
set_option maxRecDepth 100000
set_option maxHeartbeats 8000000
namespace Go.Bf
open Go Go.RowKit Go.Proofs Go.IntWalk
attribute [local simp] encB rowL rowW encSs encPs encD maxLen isBytes_map bytesOf_map
def z128 : List UInt8 := List.replicate 128 0
theorem tz128 : tzero Try.prog 88 = some (repl 128 (.int .u8 0)) := by kernel_rfl
theorem z2s_z : (repl 128 (DV.int .u8 0)).map z2s = z128.map (SV.d ∘ cB) := by
  rw [repl_eq, List.map_replicate, z128, List.map_replicate]; rfl
def putL (l : List UInt8) (off len n : Nat) : List UInt8 := l.take off ++ beB n len ++ l.drop (off + len)
theorem putD_map (l : List UInt8) (off len n : Nat) : putD (l.map cB) off len n = (putL l off len n).map cB := by simp [putD, putL]
theorem putL_length (l : List UInt8) (off len n : Nat) (h : off + len ≤ l.length) : (putL l off len n).length = l.length := by simp [putL]; omega
/-- The part of a sector that the checksum is of. -/
def bodyD (k : Nat) (kind : UInt8) (b : List UInt8) : List UInt8 := beB k 2 ++ [kind, UInt8.ofNat b.length] ++ (b ++ List.replicate (112 - b.length) 0)
def encS (g k : Nat) (kind : UInt8) (b : List UInt8) : List UInt8 := beB g 4 ++ beB (sumD (bodyD k kind b)).toNat 4 ++ bodyD k kind b ++ beB g 4
theorem bodyD_length (k : Nat) (kind : UInt8) (b : List UInt8) (h : b.length ≤ 112) : (bodyD k kind b).length = 116 := by simp [bodyD]; omega
theorem encS_length (g k : Nat) (kind : UInt8) (b : List UInt8) (h : b.length ≤ 112) : (encS g k kind b).length = 128 := by simp [encS, bodyD_length k kind b h]
def e1 (g : Nat) : List UInt8 := putL z128 0 4 g
def e2 (g k : Nat) : List UInt8 := putL (e1 g) 8 2 k
def e3 (g k : Nat) (kind : UInt8) (n : Nat) : List UInt8 := ((e2 g k).set 10 kind).set 11 (UInt8.ofNat n)
def e4 (g k : Nat) (kind : UInt8) (b : List UInt8) : List UInt8 := (e3 g k kind b.length).take 12 ++ b ++ (e3 g k kind b.length).drop (12 + b.length)
def e5 (g k : Nat) (kind : UInt8) (b : List UInt8) : List UInt8 := putL (e4 g k kind b) 124 4 g
theorem e1_eq (g : Nat) : e1 g = beB g 4 ++ List.replicate 124 0 := by simp [e1, putL, z128]
theorem e2_eq (g k : Nat) : e2 g k = beB g 4 ++ List.replicate 4 0 ++ beB k 2 ++ List.replicate 118 0 := by
  rw [e2, e1_eq, putL, show List.replicate 124 (0 : UInt8) = List.replicate 4 0 ++ (List.replicate 2 0 ++ List.replicate 118 0) from rfl]
  rw [show beB g 4 ++ (List.replicate 4 (0 : UInt8) ++ (List.replicate 2 0 ++ List.replicate 118 0)) = (beB g 4 ++ List.replicate 4 0) ++ (List.replicate 2 0 ++ List.replicate 118 0) by rw [List.append_assoc], List.take_append_of_le_length (by rw [List.length_append, beB_length, List.length_replicate]; omega), List.take_of_length_le (by rw [List.length_append, beB_length, List.length_replicate]; omega)]
  rw [show (beB g 4 ++ List.replicate 4 (0 : UInt8)) ++ (List.replicate 2 0 ++ List.replicate 118 0) = (beB g 4 ++ List.replicate 4 0 ++ List.replicate 2 0) ++ List.replicate 118 0 by simp only [List.append_assoc], List.drop_append, List.drop_eq_nil_of_le (by rw [List.length_append, List.length_append, beB_length, List.length_replicate, List.length_replicate]; omega), List.length_append, List.length_append, beB_length, List.length_replicate, List.length_replicate]
  rfl
theorem set_at {α : Type} (a b : List α) (x y : α) (i : Nat) (h : a.length = i) : (a ++ x :: b).set i y = a ++ y :: b := by
  rw [List.set_append_right _ _ (by omega), h, Nat.sub_self, List.set_cons_zero]
theorem e3_eq (g k : Nat) (kind : UInt8) (n : Nat) : e3 g k kind n = beB g 4 ++ List.replicate 4 0 ++ beB k 2 ++ [kind, UInt8.ofNat n] ++ List.replicate 116 0 := by
  rw [e3, e2_eq, show List.replicate 118 (0 : UInt8) = 0 :: 0 :: List.replicate 116 0 from rfl, set_at _ _ _ _ 10 (by simp)]
  rw [show beB g 4 ++ List.replicate 4 0 ++ beB k 2 ++ kind :: 0 :: List.replicate 116 0 = (beB g 4 ++ List.replicate 4 0 ++ beB k 2 ++ [kind]) ++ 0 :: List.replicate 116 0 by simp, set_at _ _ _ _ 11 (by simp)]
  simp
theorem e4_eq (g k : Nat) (kind : UInt8) (b : List UInt8) (h : b.length ≤ 112) : e4 g k kind b = beB g 4 ++ List.replicate 4 0 ++ bodyD k kind b ++ List.replicate 4 0 := by
  rw [e4, e3_eq]
  have h12 : (beB g 4 ++ List.replicate 4 (0 : UInt8) ++ beB k 2 ++ [kind, UInt8.ofNat b.length]).length = 12 := by simp
  rw [List.take_append_of_le_length (by omega), List.take_of_length_le (by omega), List.drop_append, List.drop_eq_nil_of_le (by omega), h12, List.drop_replicate, bodyD]
  rw [show 116 - (12 + b.length - 12) = (112 - b.length) + 4 by omega, ← List.replicate_append_replicate]
  simp only [List.append_assoc, List.nil_append]
theorem e5_eq (g k : Nat) (kind : UInt8) (b : List UInt8) (h : b.length ≤ 112) : e5 g k kind b = beB g 4 ++ List.replicate 4 0 ++ bodyD k kind b ++ beB g 4 := by
  have hb := bodyD_length k kind b h
  have h124 : (beB g 4 ++ List.replicate 4 (0 : UInt8) ++ bodyD k kind b).length = 124 := by simp [hb]
  rw [e5, e4_eq g k kind b h, putL, List.take_append_of_le_length (by omega), List.take_of_length_le (by omega), List.drop_eq_nil_of_le (by simp [hb])]
  simp
theorem e5_length (g k : Nat) (kind : UInt8) (b : List UInt8) (h : b.length ≤ 112) : (e5 g k kind b).length = 128 := by rw [e5_eq g k kind b h]; simp [bodyD_length k kind b h]
theorem e5_body (g k : Nat) (kind : UInt8) (b : List UInt8) (h : b.length ≤ 112) : ((e5 g k kind b).drop 8).take 116 = bodyD k kind b := by
  have hb := bodyD_length k kind b h
  rw [e5_eq g k kind b h, show beB g 4 ++ List.replicate 4 (0 : UInt8) ++ bodyD k kind b ++ beB g 4 = (beB g 4 ++ List.replicate 4 0) ++ (bodyD k kind b ++ beB g 4) by simp]
  rw [List.drop_append, List.drop_eq_nil_of_le (by simp)]
  simp [hb]
theorem e6_eq (g k : Nat) (kind : UInt8) (b : List UInt8) (h : b.length ≤ 112) : putL (e5 g k kind b) 4 4 (sumD (bodyD k kind b)).toNat = encS g k kind b := by
  rw [e5_eq g k kind b h, putL, encS]
  rw [show beB g 4 ++ List.replicate 4 (0 : UInt8) ++ bodyD k kind b ++ beB g 4 = beB g 4 ++ (List.replicate 4 0 ++ (bodyD k kind b ++ beB g 4)) by simp]
  rw [List.take_append_of_le_length (by simp), List.take_of_length_le (by simp), List.drop_append, List.drop_eq_nil_of_le (by simp)]
  simp [List.drop_append]
@[simp] theorem z128_length : z128.length = 128 := List.length_replicate ..
@[simp] theorem e1_length (g : Nat) : (e1 g).length = 128 := by rw [e1_eq]; simp
@[simp] theorem e2_length (g k : Nat) : (e2 g k).length = 128 := by rw [e2_eq]; simp
@[simp] theorem e3_length (g k : Nat) (kind : UInt8) (n : Nat) : (e3 g k kind n).length = 128 := by rw [e3_eq]; simp
theorem e4_length (g k : Nat) (kind : UInt8) (b : List UInt8) (h : b.length ≤ 112) : (e4 g k kind b).length = 128 := by rw [e4_eq g k kind b h]; simp [bodyD_length k kind b h]
theorem e4_cells (g k : Nat) (kind : UInt8) (b : List UInt8) (h : b.length ≤ 112) : spl ((e3 g k kind b.length).map (SV.d ∘ cB)) 12 ((b.map fun c => SV.d (cB c)).take (min b.length 116)) = (e4 g k kind b).map (SV.d ∘ cB) := by
  rw [Nat.min_eq_left (by omega), List.take_of_length_le (by simp), spl_eq _ _ _ (by simp; omega)]
  simp [e4, Function.comp_def]
theorem encode_c (g k : Nat) (kind : UInt8) (b : List UInt8) (hb : b.length ≤ 112) (hk : k < 9223372036854775808) : FnWp Try.prog 43 [.int .u64 g, .int .i64 k, cB kind, encB b] (· = .ret (encB (encS g k kind b))) := by
  have hS := encS_length g k kind b hb
  have hb8 : IntKind.u8.wrap (b.length : Int) = ((UInt8.ofNat b.length).toNat : Int) := by simp [IntKind.wrap, IntKind.signed, IntKind.bits]
  have h4 := e4_length g k kind b hb
  have h5 := e5_length g k kind b hb
  refine FnWp.intro' Try.func43 rfl (by simp [Try.ntmps43]) fun E hE => ?_
  refine DWp.reg false fun kk hk => ?_
  simp
  refine hk _ ?_
  refine DWp.reg false fun kk hk => ?_
  simp [tz128, z2s_z]
  refine hk _ ?_
  refine DWp.sub (Sub.of (n := 35) (sl := [(0, .d (.int .u64 g)), (1, .d (.int .i64 k)), (2, .d (cB kind)), (3, .d (encB b)), (9, .loc 0 0)]) (ml := [(88, ((z128).map cB).map .d)]) [0] ⟨rfl, rfl, by simp, by simp, by simp [cB], by simp⟩) ?_
  refine DWp.reg false fun kk hk => ?_
  simp
  refine CallAt.mem1 0 false ent59 rfl (allD_mapc cB _) rfl (put_c 88 0 4 g _ ((z128).map cB) (by omega) (by simp <;> omega)) ?_
  rintro d ds' ⟨rfl, rfl⟩
  simp
  refine hk _ ?_
  refine DWp.sub (Sub.of (n := 35) (sl := [(0, .d (.int .u64 g)), (1, .d (.int .i64 k)), (2, .d (cB kind)), (3, .d (encB b)), (9, .loc 0 0)]) (ml := [(88, ((e1 g).map cB).map .d)]) [1] ⟨rfl, rfl, by simp, by simp, by simp [cB], by simp [putD_map, e1]⟩) ?_
  refine DWp.reg false fun kk hk => ?_
  simp [wrap64 k (by omega)]
  refine CallAt.mem1 0 false ent59 rfl (allD_mapc cB _) rfl (put_c 88 8 2 k _ ((e1 g).map cB) (by omega) (by simp <;> omega)) ?_
  rintro d ds' ⟨rfl, rfl⟩
  simp
  refine hk _ ?_
  refine DWp.sub (Sub.of (n := 35) (sl := [(0, .d (.int .u64 g)), (1, .d (.int .i64 k)), (2, .d (cB kind)), (3, .d (encB b)), (9, .loc 0 0)]) (ml := [(88, ((e2 g k).map cB).map .d)]) [1] ⟨rfl, rfl, by simp, by simp, by simp [cB], by simp [putD_map, e2]⟩) ?_
  refine DWp.reg false fun kk hk => ?_
  simp [hb8, cB]
  refine hk _ ?_
  refine DWp.sub (Sub.of (n := 35) (sl := [(0, .d (.int .u64 g)), (1, .d (.int .i64 k)), (2, .d (cB kind)), (3, .d (encB b)), (9, .loc 0 0)]) (ml := [(88, ((e3 g k kind b.length).map cB).map .d)]) [0] ⟨rfl, rfl, by simp, by simp, by simp [cB], by simp [e3, List.map_set, cB]⟩) ?_
  refine DWp.reg false fun kk hk => ?_
  simp
  refine ⟨by omega, ?_⟩
  refine hk _ ?_
  refine DWp.sub (Sub.of (n := 35) (sl := [(0, .d (.int .u64 g)), (1, .d (.int .i64 k)), (2, .d (cB kind)), (3, .d (encB b)), (9, .loc 0 0)]) (ml := [(88, ((e4 g k kind b).map cB).map .d)]) [0] ⟨rfl, rfl, by simp, by simp, by simp [cB], by simp; exact e4_cells g k kind b hb⟩) ?_
  refine DWp.reg false fun kk hk => ?_
  simp [h4]
  refine CallAt.mem1 0 false ent59 rfl (allD_mapc cB _) rfl (put_c 88 124 4 g _ ((e4 g k kind b).map cB) (by omega) (by simp <;> omega)) ?_
  rintro d ds' ⟨rfl, rfl⟩
  simp
  refine hk _ ?_
  refine DWp.sub (Sub.of (n := 35) (sl := [(0, .d (.int .u64 g)), (1, .d (.int .i64 k)), (2, .d (cB kind)), (3, .d (encB b)), (9, .loc 0 0)]) (ml := [(88, ((e5 g k kind b).map cB).map .d)]) [1] ⟨rfl, rfl, by simp, by simp, by simp [cB], by simp [putD_map, e5]⟩) ?_
  refine DWp.drawPR false [4] (.take 0 (.take 1 (.lend 2 (.take 3 (.call 4 .done))))) mixed (by kernel_rfl) fun kk hk => ?_
  simp [h5]
  refine LendC.intro (ds := [encB (bodyD k kind b)]) ent60 (by simp; rw [← List.map_drop, ← List.map_take, e5_body g k kind b hb, allD_mapc]; simp [bodyD_length k kind b hb, rowB]) (sum_c _ (by rw [bodyD_length k kind b hb]; omega)) rfl ?_
  simp [wrap64 (sumD (bodyD k kind b)).toNat (by have := (sumD (bodyD k kind b)).isLt; omega)]
  refine CallH.mem1 0 ent59 rfl (allD_mapc cB _) rfl (put_c 88 4 4 (sumD (bodyD k kind b)).toNat _ ((e5 g k kind b).map cB) (by omega) (by simp <;> omega)) ?_
  rintro d ds' ⟨rfl, rfl⟩
  simp
  refine hk _ ?_
  refine DWp.sub (Sub.of (n := 35) (sl := [(0, .d (.int .u64 g)), (1, .d (.int .i64 k)), (2, .d (cB kind)), (3, .d (encB b)), (9, .loc 0 0)]) (ml := [(88, ((encS g k kind b).map cB).map .d)]) [1] ⟨rfl, rfl, by simp, by simp, by simp [cB], by simp [putD_map, e6_eq g k kind b hb]⟩) ?_
  refine DWp.reg false fun kk hk => ?_
  simp [hS]
  refine hk _ ?_
  refine DWp.ret (hE _ ?_).2
  have htk : List.take 128 ((encS g k kind b).map (SV.d ∘ cB)) = (encS g k kind b).map (SV.d ∘ cB) := List.take_of_length_le (by simp [hS])
  simp [hS, htk]
  intro a _; rfl
end Go.Bf
