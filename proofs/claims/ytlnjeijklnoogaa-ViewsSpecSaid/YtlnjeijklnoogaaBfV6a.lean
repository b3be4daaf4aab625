/-
  Views: the canonical relations, in plain words; the keys of a map that may be nil. Nothing is claimed here.
-/
import Derived.Test.YtlnjeijklnoogaaBfV5
import Derived.Test.YtlnjeijklnoogaaBfV1
set_option maxRecDepth 100000
namespace Go.Bf
open Go Go.RowKit Go.Proofs Go.Maps Go.Shelf
def encMO : Option (List Int) → DV
  | none => .nilm
  | some l => encMB l
def getL (L : List (Int × List Int)) (a : Int) : Option (List Int) := (L.find? fun p => p.1 == a).map (·.2)
theorem getE_MM (a : Int) : ∀ L : List (Int × List Int), (getE (.int .i64 a) (L.map fun p => (DV.int .i64 p.1, encMB p.2))).getD .nilm = encMO (getL L a)
  | [] => rfl
  | p :: L => by
    rw [List.map_cons, getE, keyB_int, getL, List.find?_cons]
    by_cases h : (p.1 == a) = true
    · simp [h, encMO]
    · have h' : (p.1 == a) = false := by simpa using h
      rw [if_neg h, h', getE_MM a L]; rfl
theorem keys_nil {f g : FuncId} {t : TypeId} (h : ∀ mb w, CallsIn Fence.wide 5 Try.prog f #[.map mb] w fun e w' => e = .returned (.func (.func g) #[] #[.pointer (some ⟨w.heap.size, 0, none⟩)]) ∧ w' = w.alloc (.cells #[.map mb] t)) :
    FnWp Try.prog f [.nilm] (· = .ret (.fn g [.box0 [.nilm]])) := fun w J vs hH hv => by
  obtain ⟨v, rfl, hr⟩ := fnArg hv
  obtain rfl : v = .map none := by cases hr; rfl
  refine (callsIn_wide.1 (h none w)).mono ?_
  rintro e w' ⟨rfl, rfl⟩
  have hb := below_alloc w (.cells #[.map none] t)
  have none : ∀ o, J w.heap.size o = none := fun o => by
    cases h : J w.heap.size o with
    | none => rfl
    | some v => have := vc_lt (hH.cell _ o v h); omega
  let J' : Imm := fun b o => if b = w.heap.size then (if o = 0 then some (.map .none) else .none) else J b o
  have hle : ∀ b o v, J b o = some v → J' b o = some v := fun b o v h => by
    have : b ≠ w.heap.size := fun e => by subst e; rw [none o] at h; cases h
    simp only [J', if_neg this]; exact h
  have e0 : J' w.heap.size 0 = some (.map .none) := by simp [J']
  have hcell : ∀ b o v, J' b o = some v → vc (w.alloc (.cells #[.map .none] t)) b o = some v := fun b o v h => by
    by_cases e : b = w.heap.size
    · subst e
      simp only [J', if_true] at h
      split at h
      · rename_i ho
        subst ho
        cases h
        have := vc_cell (w.alloc (.cells #[.map .none] t)) w.heap.size 0
        rw [show 2 * 0 = 0 by rfl] at this
        rw [this]
        simp only [World.cell?, heap_alloc_new', Option.isSome_none, Bool.false_eq_true, if_false]; rfl
      · cases h
    · simp only [J', if_neg e] at h; exact below_vc hb (hH.cell b o v h)
  refine ⟨.ret _, J', hb, hle, fun b o hlt => by simp only [J', if_neg (show b ≠ w.heap.size by omega)], ⟨hcell, fun b o v h => ?_⟩, ?_, rfl⟩
  · by_cases e : b = w.heap.size
    · subst e
      simp only [J', if_true] at h
      split at h
      · cases h; rfl
      · cases h
    · simp only [J', if_neg e] at h; exact hH.one b o v h
  · refine .fn rfl fun i v d hv hd => ?_
    obtain rfl : i = 0 := by have := (List.getElem?_eq_some_iff.1 hd).1; simpa using this
    simp at hv hd
    subst hv hd
    refine .box0 (fun _ => .map .none) (fun j hj => ?_) (fun j d hd => ?_)
    · obtain rfl : j = 0 := by simpa using hj
      simpa using e0
    · obtain rfl : j = 0 := by have := (List.getElem?_eq_some_iff.1 hd).1; simpa using this
      simp at hd
      subst hd
      exact .nilm
theorem sorted_nil {g : FuncId} (hg : Enters Try.prog g) (hseq : ∀ (Bm : Nat) (w : World), Bm < w.heap.size → w.cell? ⟨Bm, 0, none⟩ = some (.map none) → SeqGives Fence.wide 2 Try.prog g #[.pointer (some ⟨Bm, 0, none⟩)] encZ (fun ss : List Int => ss = []) 0 w) :
    FnWp Try.prog 32 [.fn g [.box0 [.nilm]]] (· = .ret (encI (sortI []))) := fun w J vs hH hv => by
  obtain ⟨v, rfl, hr⟩ := fnArg hv
  obtain ⟨cs, rfl, h1, h2⟩ : ∃ cs : Array Value, v = .func (.func g) #[] cs ∧ cs.size = 1 ∧ ∀ u, cs[0]? = some u → Rep J u (.box0 [.nilm]) := by
    cases hr with | @fn _ cs _ hl h => exact ⟨cs, rfl, hl, fun u hu => h 0 u _ hu rfl⟩
  have hr0 := h2 cs[0] (Array.getElem?_eq_getElem (by omega))
  obtain ⟨Bm, hu, hJ⟩ : ∃ Bm, cs[0] = .pointer (some ⟨Bm, 0, none⟩) ∧ J Bm 0 = some (.map none) := by
    generalize cs[0] = u at hr0
    cases hr0 with
    | @box0 b _ vs hc hr =>
      have q1 := hc 0 (by simp)
      have q2 := hr 0 _ rfl
      cases hq : vs 0 <;> rw [hq] at q2 <;> cases q2
      rw [hq] at q1
      exact ⟨b, rfl, q1⟩
  have hcs : cs = #[.pointer (some ⟨Bm, 0, none⟩)] := by
    apply Array.ext
    · simp [h1]
    · intro i hi _
      obtain rfl : i = 0 := by omega
      exact hu
  subst hcs
  have hm : w.cell? ⟨Bm, 0, none⟩ = some (.map none) := by
    have := hH.cell _ _ _ hJ
    rw [← vc_cell]; exact this
  have hlt : Bm < w.heap.size := vc_lt (hH.cell _ _ _ hJ)
  have cS := AnyZI.sorted_in Try.sortedA Fence.wide 5 trivial trivial trivial trivial rfl (by omega) (sortsA _) (enters_of Try.func56 (by kernel_rfl) rfl) g #[.pointer (some ⟨Bm, 0, none⟩)] trivial hg _ 0 (Nat.zero_le _) (by omega) w (hseq Bm w hlt hm)
  change CallsIn _ _ Try.prog 32 _ _ _ at cS
  refine (callsIn_wide.1 cS).mono ?_
  rintro e w' ⟨v, ss, rfl, hS, hrow, _, hb⟩
  subst hS
  obtain ⟨J', k1, k2, k3, k4⟩ := ints_out (zs := []) hH hb (by simpa using hrow) (fun z hz => by cases hz)
  exact ⟨.ret _, J', hb, k1, k2, k3, k4, by simp [sortI]⟩
theorem keysO_c (o : Option (List Int)) : FnWp Try.prog 44 [encMO o] (· = .ret (.fn 65 [.box0 [encMO o]])) := by
  cases o with
  | none => exact keys_nil fun mb w => AnyZI.keys_in Try.keysA Fence.wide 5 trivial rfl mb w
  | some l => exact keysA_c _
theorem sortedO_c (o : Option (List Int)) (hl : (o.getD []).length * 8 ≤ 140737488355328) : FnWp Try.prog 32 [.fn 65 [.box0 [encMO o]]] (· = .ret (encI (sortI (o.getD [])))) := by
  cases o with
  | none => exact sorted_nil (enters_of Try.func65 rfl rfl) fun Bm w hlt hm => AnyZI.keys_gives_nil (ρ := Try.keysA_ren) { Try.keysA with } Fence.wide _ trivial rfl Bm w hlt hm
  | some l => exact sortedA_c l hl
/-- Cells that hold clipped data hold data. -/
theorem Sub.declip {K : Know} (b : Nat) {t : TypeId} {cells cells' : List SV} (hmem : K.mem b = .live t cells) (h : ∀ (i : Nat) s, cells'[i]? = some s → ∃ s0, cells[i]? = some s0 ∧ (s = s0 ∨ ∃ xs, s0 = .clip xs ∧ s = .d (.list xs))) :
    Sub { K with mem := Bf.put K.mem b (.live t cells') } K := fun x a w hm => by
  have hlen : cells'.length ≤ cells.length := by
    rcases Nat.lt_or_ge cells.length cells'.length with hlt | hge
    · obtain ⟨s0, h1, _⟩ := h cells.length _ (List.getElem?_eq_getElem hlt)
      rw [List.getElem?_eq_none (Nat.le_refl _)] at h1; cases h1
    · exact hge
  refine ⟨x, Ctx.ext_refl _, ⟨hm.fro, hm.size, hm.defers, hm.below, hm.holds, hm.old, hm.slots, fun b' hb' => ?_, fun b' hb' => ?_, fun b' t' cs hb' => ?_, hm.inj, hm.one, fun b' hb' => ?_, fun b' es hb' => ?_⟩⟩
  · simp only [Bf.put] at hb'; split at hb'
    · cases hb'
    · exact hm.unborn b' hb'
  · simp only [Bf.put] at hb'; split at hb'
    · cases hb'
    · exact hm.dead b' hb'
  · simp only [Bf.put] at hb'; split at hb'
    · rename_i e; subst e; cases hb'
      obtain ⟨B, vals, fr, g1, g2, g3, g4, g5, g6⟩ := (hm.live _ _ _ hmem).out
      refine ⟨B, vals, fr, g1, g2, g3, by omega, fun o s hs => ?_, g6⟩
      obtain ⟨s0, e1, e2⟩ := h o s hs
      obtain ⟨v, e3, r⟩ := g5 o s0 e1
      rcases e2 with rfl | ⟨xs, rfl, rfl⟩
      · exact ⟨v, e3, r⟩
      · obtain ⟨_, rfl, hv⟩ := clip_inv r
        exact ⟨_, e3, .d hv⟩
    · exact hm.live b' t' cs hb'
  · simp only [Bf.put]
    have : b' ≠ b := fun e => by subst e; rw [hm.fresh _ hb'] at hmem; cases hmem
    rw [if_neg this]; exact hm.fresh b' hb'
  · simp only [Bf.put] at hb'; split at hb'
    · cases hb'
    · exact hm.maps b' es hb'
/-- Cells that hold lists of numbers. -/
def cI (l : List (List Int)) : List SV := l.map fun x => .d (encI x)
@[simp] theorem cI_length (l : List (List Int)) : (cI l).length = l.length := by simp [cI]
@[simp] theorem cI_renL (ρ : Nat → Nat) (l : List (List Int)) : renL ρ (cI l) = cI l := renL_mapd ρ encI l
@[simp] theorem cI_frzL (b : Nat) (ds : List DV) (l : List (List Int)) : frzL b ds (cI l) = cI l := frzL_mapd b ds encI l
@[simp] theorem cI_allD (l : List (List Int)) : allD (cI l) = some (l.map encI) := allD_map encI l
theorem cI_append (a b : List (List Int)) : cI (a ++ b) = cI a ++ cI b := by simp [cI]
theorem cI_one (x : List Int) : cI [x] = [.d (encI x)] := rfl
@[simp] theorem cR_frzL (b : Nat) (ds : List DV) (l : List Rl) : frzL b ds (cR l) = cR l := frzL_mapD b ds _
theorem rows_I (l : List (List Int)) : (l.map encI).map (fun d => [d]) = l.map rowII := by simp [rowII, Function.comp_def]
/-- The canonical form of a relation; of chooses the labels. -/
def canonD (of : List (Int × List Int) → List Int) (r : Rl) : Rl :=
  (of (listsN r.1 r.2 r.1.length), (of (listsN r.1 r.2 r.1.length)).map fun a => sortI ((getL (listsN r.1 r.2 r.1.length) a).getD []))
def publicD (of : List (Int × List Int) → List Int) (l : List Rl) : List Rl := dd eqC (sortR cmpC (l.map (canonD of)))
theorem ddF_le {α : Type} (e : α → α → Bool) : ∀ (l : List α) (p : α), (ddF e p l).length ≤ l.length
  | [], _ => Nat.le_refl _
  | y :: t, p => by
    simp only [ddF]
    have := ddF_le e t y
    split <;> simp <;> omega
theorem dd_le {α : Type} (e : α → α → Bool) (l : List α) : (dd e l).length ≤ l.length := by
  cases l with
  | nil => exact Nat.le_refl _
  | cons x t => have := ddF_le e t x; simp [dd]; omega
/-- Lengths that are asked. -/
def okR (of : List (Int × List Int) → List Int) (r : Rl) : Prop := r.1.length ≤ 1000000 ∧ (∀ l ∈ r.2, l.length ≤ 1000000) ∧ (of (listsN r.1 r.2 r.1.length)).length ≤ 1000000 ∧ (listsN r.1 r.2 r.1.length).length ≤ 1000000 ∧ ∀ a, ((getL (listsN r.1 r.2 r.1.length) a).getD []).length ≤ 1000000
theorem canon_fit {of : List (Int × List Int) → List Int} {r : Rl} (h : okR of r) : fitR (canonD of r) := by
  refine ⟨?_, ?_, fun l hl => ?_⟩
  · have := h.2.2.1; simp only [canonD]; omega
  · have := h.2.2.1; simp only [canonD, List.length_map]; omega
  · simp only [canonD, List.mem_map] at hl
    obtain ⟨a, _, rfl⟩ := hl
    have := h.2.2.2.2 a
    simp only [sortI, List.length_mergeSort]; omega
end Go.Bf
