import Derived.Test.YtmkgmmgfjibjmaaBfX4
namespace Go.Bf
open Go Go.RowKit Go.Proofs Go.IntWalk
attribute [local simp] encB rowL rowW encSs encPs encD

theorem RetPost.fresh {P : Program} {K : Know} {i : Nat} {Q : Out → Prop} {s : SV} {ml : List (TypeId × List SV)} (ν : List Nat) (h : ViewOk K K.n [(i, s)] ml ν) (hQ : Q (.fresh s ml)) : RetPost P K [.tmp i] Q :=
  .inr (.inr ⟨s, ml, ν, h, hQ⟩)

/-- The cells of a slice of sectors. -/
def cellsL (ss : List (List UInt8)) : List SV := ss.map fun l => .d (encB l)

theorem ent61 : Enters Try.prog 61 := enters_of Try.func61 rfl rfl
theorem ent36 : Enters Try.prog 36 := enters_of Try.func36 rfl rfl
theorem ent48 : Enters Try.prog 48 := enters_of Try.func48 rfl rfl
theorem ent47 : Enters Try.prog 47 := enters_of Try.func47 rfl rfl
theorem ent46 : Enters Try.prog 46 := enters_of Try.func46 rfl rfl

theorem cloneL_own (ss : List (List UInt8)) (hl : ss.length ≤ 4096) (h0 : ss ≠ []) : FnWp Try.prog 61 [encSs ss] (· = .fresh (.own 0 1 0 ss.length none) [(22, cellsL ss)]) := by
  refine FnWp.intro' Try.func61 rfl (by simp [Try.ntmps61]) fun E hE => ?_
  refine DWp.reg false fun k hk => ?_
  simp
  refine hk _ (DWp.seqK fun kA hkA => ?_)
  refine DWp.reg false fun k1 hk1 => ?_
  simp
  refine OpsWp.nilEq (xs := ss.map rowL) rfl Try.underlying22 rfl (by simp) (by simp) fun b hb => VCops_sound (im := false) _ _ ?_
  simp
  refine hk1 _ (DWp.cond ?_)
  simp
  refine ⟨fun h => ?_, fun h => ?_⟩
  · simp at hb
    exact absurd (hb h) h0
  · refine DWp.skip ?_
    simp
    refine hkA _ (DWp.reg false fun k hk => ?_)
    simp
    refine ⟨⟨wideL ss, by simp [maxLen]; omega, by omega⟩, hk _ (DWp.ret ?_)⟩
    refine (hE _ (RetPost.fresh [1] ⟨rfl, rfl, by simp, by simp, by simp, by simp [cellsL, renL_eq]⟩ rfl)).2

@[simp] theorem cellsL_length (ss : List (List UInt8)) : (cellsL ss).length = ss.length := by simp [cellsL]
@[simp] theorem renL_cellsL (ρ : Nat → Nat) (ss : List (List UInt8)) : renL ρ (cellsL ss) = cellsL ss := renL_mapd ρ _ ss
@[simp] theorem frzL_cellsL (b : Nat) (ds : List DV) (ss : List (List UInt8)) : frzL b ds (cellsL ss) = cellsL ss := frzL_mapd b ds _ ss
@[simp] theorem allD_cellsL (ss : List (List UInt8)) : allD (cellsL ss) = some (ss.map encB) := allD_map _ ss

@[simp] theorem take_cellsL (ss : List (List UInt8)) : List.take ss.length (cellsL ss) = cellsL ss := take_map_len ss _
theorem cellsL_set (ss : List (List UInt8)) (i : Nat) (b : List UInt8) : (cellsL ss).set i (.d (.list (b.map rowB))) = cellsL (ss.set i b) := by simp [cellsL, List.map_set]

def setAt (ss : List (List UInt8)) (w : Int × List UInt8) : List (List UInt8) := ss.set w.1.toNat w.2
def performL (ss : List (List UInt8)) (ps : List (Int × List UInt8)) : List (List UInt8) := ps.foldl setAt ss
@[simp] theorem performL_length (ss : List (List UInt8)) (ps : List (Int × List UInt8)) : (performL ss ps).length = ss.length := by
  unfold performL
  induction ps generalizing ss with
  | nil => rfl
  | cons p ps ih => rw [List.foldl_cons, ih, setAt, List.length_set]

theorem perform_c (ss : List (List UInt8)) (ps : List (Int × List UInt8)) (hl : ss.length ≤ 4096) (h0 : ss ≠ []) (hp : ps.length ≤ 4096) (hb : ∀ w ∈ ps, 0 ≤ w.1 ∧ w.1 < ss.length) :
    FnWp Try.prog 48 [encSs ss, encPs ps] (· = .fresh (.own 0 1 0 ss.length none) [(22, cellsL (performL ss ps))]) := by
  refine FnWp.intro' Try.func48 rfl (by simp [Try.ntmps48]) fun E hE => ?_
  refine DWp.reg false fun k hk => ?_
  simp
  refine hk _ (DWp.reg false fun k hk => ?_)
  simp
  refine CallAt.own false ent61 rfl (cloneL_own ss hl h0) ?_
  simp
  refine hk _ (DWp.seqK fun kA hkA => ?_)
  refine DWp.reg false fun k2 hk2 => ?_
  simp
  refine hk2 _ (DWp.block ?_)
  refine DWp.loopK (fun i : Nat => Know.of 24 [(5, .own 0 1 0 ss.length none), (10, .d (encPs ps)), (11, .d (.int .i64 ps.length)), (12, .d (.int .i64 i))] [(22, cellsL (performL ss (ps.take i)))])
    (fun i => i ≤ ps.length) (fun i => ps.length - i) 0 (Sub.of [0] ⟨rfl, rfl, by simp, by simp, by simp, by simp [cellsL, renL_eq, performL]⟩) (by simp) ?_
  rintro i hi kl hkl
  refine DWp.reg false fun k hk => ?_
  simp
  refine hk _ (DWp.iff fun k hk => ?_)
  simp
  refine ⟨fun hlt => DWp.skip (hk _ ?_), fun hge => DWp.exit ?_⟩
  · have hw := hb ps[i] (List.getElem_mem hlt)
    refine DWp.blockK fun k hk => ?_
    refine DWp.reg false fun k1 hk1 => ?_
    simp [hlt]
    refine hk1 _ (DWp.regionV false ?_)
    simp
    refine ⟨hw, by first | omega | (simp; omega), hk _ (DWp.regionV false ?_)⟩
    simp
    rw [i64_in _ (by omega)]
    refine hkl _ (i + 1) (by omega) (by omega) (Sub.of [0] ⟨rfl, rfl, by simp, by simp, by simp, ?_⟩)
    simp only [memsOk, renL_cellsL, and_true]
    simp
    rw [List.take_add_one, List.getElem?_eq_getElem hlt]
    simp only [performL, List.foldl_append]
    simp [cellsL, setAt, List.map_set]
  · simp
    refine hkA _ (DWp.reg false fun k3 hk3 => ?_)
    simp
    refine hk3 _ (DWp.ret ?_)
    have : i = ps.length := by omega
    subst this
    rw [List.take_length]
    refine (hE _ (RetPost.fresh [0] ⟨rfl, rfl, by simp, by simp, by simp, by simp [cellsL, renL_eq]⟩ rfl)).2
end Go.Bf
