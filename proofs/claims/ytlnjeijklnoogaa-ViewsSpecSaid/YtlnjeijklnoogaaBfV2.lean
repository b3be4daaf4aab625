/-
  Views: the keys of a map, sorted: the library's contracts, as contracts on data. Nothing is claimed here.
-/
import Derived.Test.YtlnjeijklnoogaaBfV0
import Derived.Test.YtlnjeijklnoogaaBfSh
set_option maxRecDepth 100000
namespace Go.Bf
open Go Go.RowKit Go.Proofs Go.Maps Go.Shelf
def Rz (_ : Value) : Option (DataW Unit × List MemPlace) := some (.lit (.bool false), [])
theorem ints_out {J : Imm} {w w' : World} {t : TypeId} {v : Value} {zs : List Int} (hH : Holds J w) (hb : Below w.heap.size w w') (hrow : w'.ownsRow w.heap.size t 1 v zs.length (zs.map encZ)) (hk : ∀ z ∈ zs, InK .i64 z) :
    ∃ J' : Imm, (∀ b o v, J b o = some v → J' b o = some v) ∧ (∀ b o, b < w.heap.size → J' b o = J b o) ∧ Holds J' w' ∧ Rep J' v (encI zs) := by
  have keep : ∀ b o v, J b o = some v → vc w' b o = some v := fun b o v h => below_vc hb (hH.cell b o v h)
  rcases hrow.2 with ⟨rfl, hz⟩ | ⟨g, cap, cur, rfl, hg, hblk, h1, h2, h3, h4⟩
  · have : zs = [] := List.eq_nil_of_length_eq_zero hz
    subst this
    exact ⟨J, fun _ _ _ h => h, fun _ _ _ => rfl, ⟨keep, hH.one⟩, .empty (by simp [maxLen])⟩
  · rw [Nat.mul_one] at h3 h4
    have none : ∀ o, J g o = none := fun o => by
      cases h : J g o with
      | none => rfl
      | some v => have := vc_lt (hH.cell g o v h); omega
    let J' : Imm := fun b o => if b = g then (if o % 2 = 0 ∧ o / 2 < zs.length then cur[o / 2]? else .none) else J b o
    have get : ∀ j, j < zs.length → J' g (2 * j) = some (encZ (zs.getD j 0)) := fun j hj => by
      have : (cur.toList.take zs.length)[j]? = (zs.map encZ)[j]? := by rw [h4]
      rw [List.getElem?_take, if_pos hj] at this
      simp only [J', if_true]
      rw [if_pos ⟨by omega, by omega⟩, show 2 * j / 2 = j by omega, ← Array.getElem?_toList, this]
      simp [hj]
    refine ⟨J', fun b o v h => ?_, fun b o hb' => ?_, ⟨fun b o v h => ?_, fun b o v h => ?_⟩, ?_⟩
    · have : b ≠ g := fun e => by subst e; rw [none o] at h; cases h
      simp only [J', if_neg this]; exact h
    · have : b ≠ g := by omega
      simp only [J', if_neg this]
    · by_cases e : b = g
      · subst e
        simp only [J', if_true] at h
        split at h
        · rename_i hc
          have := vc_cell w' b (o / 2)
          rw [show 2 * (o / 2) = o by omega] at this
          rw [this]
          simp only [World.cell?, hblk, Option.isSome_none, Bool.false_eq_true, if_false]
          exact h
        · cases h
      · simp only [J', if_neg e] at h; exact keep b o v h
    · by_cases e : b = g
      · subst e
        by_cases hc : o < zs.length
        · rw [get o hc] at h; cases h; rfl
        · simp only [J', if_true] at h
          rw [if_neg (by omega)] at h; cases h
      · simp only [J', if_neg e] at h; exact hH.one b o v h
    · have key := Rep.slice (J := J') (b := g) (off := 0) (cap := cap) (wd := 1) (xs := zs.map rowI) (fun i _ => encZ (zs.getD i 0)) (by simpa using h1) h2 (by simp [rowI]) (fun i j hi hj => by
        obtain rfl : j = 0 := by omega
        simp only [List.length_map] at hi
        simpa using get i hi) (fun i j r d hr hd => by
        rw [List.getElem?_map, Option.map_eq_some_iff] at hr
        obtain ⟨z, hz, rfl⟩ := hr
        have : j = 0 := by have := (List.getElem?_eq_some_iff.1 hd).1; simp [rowI] at this; exact this
        subst this
        simp only [rowI, List.getElem?_cons_zero, Option.some.injEq] at hd
        subst hd
        rw [List.getD_eq_getElem?_getD, hz]
        exact .int (hk z (List.mem_of_getElem? hz)))
      rw [List.length_map] at key
      exact key
theorem fnArg {J : Imm} {vs : Array Value} {d : DV} (h : RepL J vs [d]) : ∃ v, vs = #[v] ∧ Rep J v d := by
  obtain ⟨h1, h2⟩ := h
  have h1' : vs.size = 1 := h1
  refine ⟨vs[0], ?_, h2 0 _ d (Array.getElem?_eq_getElem (by omega)) rfl⟩
  apply Array.ext
  · simp [h1']
  · intro i hi _
    obtain rfl : i = 0 := by omega
    rfl
/-- maps.Keys: a function over a new block that holds the map. -/
theorem keys_of {f g : FuncId} {t : TypeId} {es : List (DV × DV)} (h : ∀ mb w, CallsIn Fence.wide 5 Try.prog f #[.map mb] w fun e w' => e = .returned (.func (.func g) #[] #[.pointer (some ⟨w.heap.size, 0, none⟩)]) ∧ w' = w.alloc (.cells #[.map mb] t)) :
    FnWp Try.prog f [.mapd es] (· = .ret (.fn g [.box0 [.mapd es]])) := fun w J vs hH hv => by
  obtain ⟨v, rfl, hr⟩ := fnArg hv
  obtain ⟨B, rfl⟩ : ∃ B, v = .map (some B) := by cases hr; exact ⟨_, rfl⟩
  refine (callsIn_wide.1 (h (some B) w)).mono ?_
  rintro e w' ⟨rfl, rfl⟩
  have hb := below_alloc w (.cells #[.map (some B)] t)
  have none : ∀ o, J w.heap.size o = none := fun o => by
    cases h : J w.heap.size o with
    | none => rfl
    | some v => have := vc_lt (hH.cell _ o v h); omega
  let J' : Imm := fun b o => if b = w.heap.size then (if o = 0 then some (.map (some B)) else .none) else J b o
  have hle : ∀ b o v, J b o = some v → J' b o = some v := fun b o v h => by
    have : b ≠ w.heap.size := fun e => by subst e; rw [none o] at h; cases h
    simp only [J', if_neg this]; exact h
  have e0 : J' w.heap.size 0 = some (.map (some B)) := by simp [J']
  have hcell : ∀ b o v, J' b o = some v → vc (w.alloc (.cells #[.map (some B)] t)) b o = some v := fun b o v h => by
    by_cases e : b = w.heap.size
    · subst e
      simp only [J', if_true] at h
      split at h
      · rename_i ho
        subst ho
        cases h
        have := vc_cell (w.alloc (.cells #[.map (some B)] t)) w.heap.size 0
        rw [show 2 * 0 = 0 by rfl] at this
        rw [this]
        simp only [World.cell?, heap_alloc_new', Option.isSome_none, Bool.false_eq_true, if_false]; rfl
      · cases h
    · simp only [J', if_neg e] at h; exact below_vc hb (hH.cell b o v h)
  refine ⟨.ret _, J', hb, hle, fun b o hlt => by simp only [J', if_neg (show b ≠ w.heap.size by omega)], ⟨hcell, fun b o v h => ?_⟩, ?_, rfl⟩
  · by_cases e : b = w.heap.size
    · subst e
      simp only [J', if_true] at h
      split at h
      · cases h; rfl
      · cases h
    · simp only [J', if_neg e] at h; exact hH.one b o v h
  · refine .fn rfl fun i v d hv hd => ?_
    obtain rfl : i = 0 := by have := (List.getElem?_eq_some_iff.1 hd).1; simpa using this
    simp at hv hd
    subst hv hd
    refine .box0 (fun _ => .map (some B)) (fun j hj => ?_) (fun j d hd => ?_)
    · obtain rfl : j = 0 := by simpa using hj
      simpa using e0
    · obtain rfl : j = 0 := by have := (List.getElem?_eq_some_iff.1 hd).1; simpa using this
      simp at hd
      subst hd
      exact hr.mono hle
/-- The keys of such a map, as the library's contract reads them. -/
theorem owns_of {J : Imm} {w : World} (hw : ∀ b o v, J b o = some v → vc w b o = some v) {B : Nat} {L : List (Int × List Int)} {f : Int × List Int → DV} (hr : Rep J (.map (some B)) (.mapd (L.map fun p => (.int .i64 p.1, f p)))) (hlen : L.length ≤ maxLen) {k : TypeId} (hk : Try.prog.underlying k = some (.int .i64)) :
    ∃ D : DataW Unit, w.ownsMap Try.prog k Rz B L.length D ∧ Maps.size D = L.length ∧ (intKeys D).Perm (L.map (·.1)) ∧ ∀ p ∈ L, InK .i64 p.1 := by
  cases hr with
  | @mapd _ clock _ ks vs bs hJ hkk hvv =>
    obtain ⟨ms, e1, e2, e3⟩ := hJ.world hw
    rw [List.length_map] at e2
    have hkey : ∀ (i : Nat) (m : MapEntry) (p : Int × List Int), ms[i]? = some m → L[i]? = some p → m.key = .int .i64 p.1 ∧ InK .i64 p.1 := fun i m p h1 h2 => by
      obtain ⟨k1, _, _⟩ := e3 i m h1
      have := hkk i (.int .i64 p.1, f p) (by rw [List.getElem?_map, h2]; rfl)
      rw [k1]
      simp only at this
      generalize ks i = x at this
      cases this with
      | int h => exact ⟨rfl, h⟩
    have hLget : ∀ (i : Nat) (m : MapEntry), ms[i]? = some m → ∃ p, L[i]? = some p := fun i m h => by
      have := (Array.getElem?_eq_some_iff.1 h).1
      exact ⟨L[i], List.getElem?_eq_getElem (by omega)⟩
    have hst : MapKept.Stamped ms clock := by
      refine ⟨fun m hm => ?_, ?_, ?_⟩
      · obtain ⟨i, hi⟩ := List.mem_iff_getElem?.1 hm
        rw [Array.getElem?_toList] at hi
        have hlt : i < (L.map fun p => (DV.int .i64 p.1, f p)).length := by have := (Array.getElem?_eq_some_iff.1 hi).1; simp; omega
        rw [(e3 i m hi).2.2]; exact hJ.lt i hlt
      · refine List.pairwise_iff_getElem.2 fun i j h1 hj hij e => ?_
        simp only [List.length_map, Array.length_toList] at hj h1
        simp only [List.getElem_map, Array.getElem_toList] at e
        have := hJ.inj i j (by simp; omega) (by simp; omega) (by rw [← (e3 i _ (Array.getElem?_eq_getElem h1)).2.2, ← (e3 j _ (Array.getElem?_eq_getElem hj)).2.2]; exact e)
        omega
      · refine List.pairwise_iff_getElem.2 fun i j h1 hj hij e => ?_
        simp only [List.length_map, Array.length_toList] at hj h1
        simp only [List.getElem_map, Array.getElem_toList] at e
        have := hJ.kinj i j (by simp; omega) (by simp; omega) (by rw [← (e3 i _ (Array.getElem?_eq_getElem h1)).1, ← (e3 j _ (Array.getElem?_eq_getElem hj)).1]; exact e)
        omega
    have hkO : ∀ (i : Nat) (m : MapEntry) (p : Int × List Int), ms[i]? = some m → L[i]? = some p → keyOf Try.prog k m.key = some (.int .i64 p.1) := fun i m p h1 h2 => by
      obtain ⟨k1, k2⟩ := hkey i m p h1 h2
      rw [k1]
      simp only [keyOf, hk, mapKey, Lit.wf]
      rw [inK_i64] at k2
      simp [k2.1, k2.2, IntKind.min, IntKind.max, IntKind.signed, IntKind.bits]
    have hrd : ∀ (i : Nat) (m : MapEntry) (p : Int × List Int), ms[i]? = some m → L[i]? = some p → WideElems.rd Try.prog k Rz m = some (.int .i64 p.1, .lit (.bool false)) := fun i m p h1 h2 => by
      have : m = ⟨m.key, m.val, m.born⟩ := rfl
      rw [this]
      exact WideElems.rd_mk (R := Rz) (yv := (.lit (.bool false), [])) (hkO i m p h1 h2) rfl
    refine ⟨_, ⟨ms, clock, e1, ⟨by omega, hst, fun m hm => ?_⟩, by omega, rfl⟩, ?_, ?_, fun p hp => ?_⟩
    · obtain ⟨i, hi⟩ := List.mem_iff_getElem?.1 hm
      rw [Array.getElem?_toList] at hi
      obtain ⟨p, hp⟩ := hLget i m hi
      exact ⟨_, hrd i m p hi hp⟩
    · rw [Maps.size_eq, length_sorted]; simp [e2]
    · show ((ms.toList.map (WideElems.rg Try.prog k Rz)).foldr DataW.insert []).map (fun p => intOf p.1) |>.Perm _
      refine ((WideShapes.sorted_perm _).map _).trans ?_
      rw [List.map_map]
      refine List.Perm.of_eq (List.ext_getElem? fun i => ?_)
      simp only [List.getElem?_map, Array.getElem?_toList, Function.comp_def]
      by_cases hi : i < ms.size
      · obtain ⟨p, hp⟩ := hLget i _ (Array.getElem?_eq_getElem hi)
        rw [Array.getElem?_eq_getElem hi, hp]
        simp only [Option.map_some, WideElems.rg_of (hrd i _ p (Array.getElem?_eq_getElem hi) hp), intOf]
      · rw [Array.getElem?_eq_none (by omega), List.getElem?_eq_none (by omega)]; rfl
    · obtain ⟨i, hi⟩ := List.mem_iff_getElem?.1 hp
      have := (List.getElem?_eq_some_iff.1 hi).1
      exact (hkey i ms[i] p (Array.getElem?_eq_getElem (by omega)) hi).2
def sortI (l : List Int) : List Int := l.mergeSort fun x y => decide (x ≤ y)
theorem sortsA (m : Nat) : AnyZI.SortsIn Try.prog Try.sortedA_ren Fence.wide m :=
  ⟨fun blk off cap ss W hH hblk hsz => callsIn_wide.2 (AnyM.slices_Sort_int Try.sortA blk off cap ss W hH hblk hsz),
   fun p cap W => callsIn_wide.2 (AnyM.slices_Sort_int_none Try.sortA p cap W)⟩
theorem sorted_of {g : FuncId} (hg : Enters Try.prog g) {L : List (Int × List Int)} {f : Int × List Int → DV} (hlen : L.length * 8 ≤ 140737488355328)
    (hseq : ∀ (Bm B : Nat) (D : DataW Unit) (w : World), Bm < w.heap.size → w.cell? ⟨Bm, 0, none⟩ = some (.map (some B)) → w.ownsMap Try.prog 3 Rz B L.length D → SeqGives Fence.wide 2 Try.prog g #[.pointer (some ⟨Bm, 0, none⟩)] encZ (fun ss => ss.Perm (intKeys D)) (Maps.size D) w) :
    FnWp Try.prog 32 [.fn g [.box0 [.mapd (L.map fun p => (.int .i64 p.1, f p))]]] (· = .ret (encI (sortI (L.map (·.1))))) := fun w J vs hH hv => by
  obtain ⟨v, rfl, hr⟩ := fnArg hv
  obtain ⟨cs, rfl, h1, h2⟩ : ∃ cs : Array Value, v = .func (.func g) #[] cs ∧ cs.size = 1 ∧ ∀ u, cs[0]? = some u → Rep J u (.box0 [.mapd (L.map fun p => (.int .i64 p.1, f p))]) := by
    cases hr with | @fn _ cs _ hl h => exact ⟨cs, rfl, hl, fun u hu => h 0 u _ hu rfl⟩
  have hr0 := h2 cs[0] (Array.getElem?_eq_getElem (by omega))
  obtain ⟨Bm, B, hu, hJ, hrm⟩ : ∃ Bm B, cs[0] = .pointer (some ⟨Bm, 0, none⟩) ∧ J Bm 0 = some (.map (some B)) ∧ Rep J (.map (some B)) (.mapd (L.map fun p => (.int .i64 p.1, f p))) := by
    generalize cs[0] = u at hr0
    cases hr0 with
    | @box0 b _ vs hc hr =>
      have q1 := hc 0 (by simp)
      have q2 := hr 0 _ rfl
      cases hq : vs 0 <;> rw [hq] at q2 <;> cases q2
      rw [hq] at q1
      exact ⟨b, _, rfl, q1, by rw [← hq]; exact hr 0 _ rfl⟩
  have hcs : cs = #[.pointer (some ⟨Bm, 0, none⟩)] := by
    apply Array.ext
    · simp [h1]
    · intro i hi _
      obtain rfl : i = 0 := by omega
      exact hu
  subst hcs
  have hm : w.cell? ⟨Bm, 0, none⟩ = some (.map (some B)) := by
    have := hH.cell _ _ _ hJ
    rw [← vc_cell]; exact this
  have hlt : Bm < w.heap.size := vc_lt (hH.cell _ _ _ hJ)
  obtain ⟨D, hown, hsize, hperm, hin⟩ := owns_of (w := w) hH.cell hrm (by simp only [maxLen]; omega) Try.underlying3
  have cS := AnyZI.sorted_in Try.sortedA Fence.wide 5 trivial trivial trivial trivial rfl (by omega) (sortsA _) (enters_of Try.func56 (by kernel_rfl) rfl) g #[.pointer (some ⟨Bm, 0, none⟩)] trivial hg _ _ (by rw [hsize]; simp only [maxLen]; omega) (by rw [hsize]; exact hlen) w (hseq Bm B D w hlt hm hown)
  change CallsIn _ _ Try.prog 32 _ _ _ at cS
  refine (callsIn_wide.1 cS).mono ?_
  rintro e w' ⟨v, ss, rfl, hS, hrow, _, hb⟩
  have hss : ss.mergeSort (fun x y => decide (x ≤ y)) = sortI (L.map (·.1)) := mergeSort_of_perm_i (hS.trans hperm)
  have hlen2 : ss.length = (sortI (L.map (·.1))).length := by rw [← hss, List.length_mergeSort]
  rw [hss, hlen2] at hrow
  obtain ⟨J', k1, k2, k3, k4⟩ := ints_out hH hb hrow (fun z hz => by
    have : z ∈ L.map (·.1) := (List.mergeSort_perm _ _).mem_iff.1 hz
    obtain ⟨p, hp, rfl⟩ := List.mem_map.1 this
    exact hin p hp)
  exact ⟨.ret _, J', hb, k1, k2, k3, k4, rfl⟩
end Go.Bf
