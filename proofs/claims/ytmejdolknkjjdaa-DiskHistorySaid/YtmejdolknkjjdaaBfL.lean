/-
  The operations that write local memory: what they leave, and that they do. Nothing is claimed here.
-/
import Derived.Test.YtmejdolknkjjdaaBfK
import Derived.Laws.CopyOwn
namespace Go.Bf
open Go Go.RowKit
variable {P : Program}

def Know.newB (K : Know) (t : TypeId) (cells : List SV) : Know := { K with mem := Bf.put K.mem K.nx (.live t cells), nx := K.nx + 1 }
def Know.setB (K : Know) (b : Nat) (m : MB) : Know := { K with mem := Bf.put K.mem b m }

/-- The cells at the front of a row are data. -/
structure Front (J : Imm) (β : Nat → Nam) (vs : Array Value) (ss : List SV) : Prop where
  le : ss.length ≤ vs.size
  get : ∀ (o : Nat) s, ss[o]? = some s → ∃ v, vs[o]? = some v ∧ SRep J β v s

theorem ArrR.front {J : Imm} {β : Nat → Nam} {vs : Array Value} {ss : List SV} (h : ArrR J β vs ss) : Front J β vs ss :=
  ⟨by rw [h.1]; exact Nat.le_refl _, fun o s hs => by
    have hlt : o < vs.size := by rw [h.1]; exact (List.getElem?_eq_some_iff.1 hs).1
    exact ⟨vs[o], Array.getElem?_eq_getElem hlt, h.2 o _ s (Array.getElem?_eq_getElem hlt) hs⟩⟩

/-- A new local block is there, nothing else has turned. -/
theorem Models.newLive {x : Ctx} {K : Know} {a : Act} {w w1 : World} (hm : Models x K a w) (hb : Below w.heap.size w w1) {B : Nat} {vals : Array Value} {t T : TypeId} {cells : List SV} (hB : w.heap.size ≤ B)
    (hcell : w1.heap[B]? = some (.cells vals T (0, 0))) (h1 : ∀ v ∈ vals, v.oneCell' = true) (hc : Front x.J x.β vals cells) :
    ∃ x', x.le x' ∧ x'.J = x.J ∧ x'.β K.nx = .live B vals.size t ∧ Models x' (K.newB t cells) a w1 := by
  have hm1 := hm.grow hb
  have hun : x.β K.nx = .unborn := hm.unborn _ (hm.fresh _ (Nat.le_refl _))
  let β' : Nat → Nam := Bf.put x.β K.nx (.live B vals.size t)
  have hβ : ∀ b, (x.β b).le (β' b) := fun b => by
    simp only [β', Bf.put]
    split
    · rename_i e; rw [e, hun]; trivial
    · exact Nam.le_refl _
  have hβn : β' K.nx = .live B vals.size t := by simp [β', Bf.put]
  have hβo : ∀ b, b ≠ K.nx → β' b = x.β b := fun b hb => by simp [β', Bf.put, hb]
  have hbig : ∀ b B' sz t', x.β b = .live B' sz t' → b ≠ K.nx ∧ (K.mem b = .unborn → False) := fun b B' sz t' h => by
    exact ⟨fun e => (by rw [e, hun] at h; cases h), fun e => (by rw [hm.unborn b e] at h; cases h)⟩
  refine ⟨{ x with β := β' }, ⟨fun _ _ _ h => h, hβ, rfl, rfl, rfl⟩, rfl, hβn, ?_⟩
  have notmem : ∀ b, (match K.mem b with | .live _ _ => True | _ => False) → b ≠ K.nx := fun b h e => by
    rw [e, hm.fresh _ (Nat.le_refl _)] at h; exact h
  have liveB : ∀ b B' sz t', x.β b = .live B' sz t' → B' < w.heap.size := fun b B' sz t' h => by
    cases hmem : K.mem b with
    | unborn => exact absurd hmem (fun e => (hbig b B' sz t' h).2 e)
    | dead => rw [hm.dead b hmem] at h; cases h
    | live t'' cells'' =>
      obtain ⟨B2, vals2, fr2, g1, ⟨T, g2⟩, _⟩ := (hm.live b t'' cells'' hmem).out
      rw [h] at g1; cases g1
      exact (Array.getElem?_eq_some_iff.1 g2).1
  refine ⟨hm1.fro, hm1.size, hm1.defers, hm1.below, hm1.holds, hm1.old, ?_, ?_, ?_, ?_, ?_, hm1.one, ?_⟩
  · intro i s hs
    obtain ⟨v, e, r⟩ := hm1.slots i s hs
    exact ⟨v, e, r.mono (fun _ _ _ h => h) hβ⟩
  · intro b hb'
    by_cases e : b = K.nx
    · subst e; simp [Know.newB, Bf.put] at hb'
    · simp only [Know.newB, Bf.put, if_neg e] at hb'
      show β' b = _
      rw [hβo b e]; exact hm1.unborn b hb'
  · intro b hb'
    by_cases e : b = K.nx
    · subst e; simp [Know.newB, Bf.put] at hb'
    · simp only [Know.newB, Bf.put, if_neg e] at hb'
      show β' b = _
      rw [hβo b e]; exact hm1.dead b hb'
  · intro b t' cells' hb'
    by_cases e : b = K.nx
    · subst e
      simp only [Know.newB, Bf.put, if_true, MB.live.injEq] at hb'
      obtain ⟨rfl, rfl⟩ := hb'
      refine ⟨B, vals, (0, 0), hβn, ⟨T, hcell⟩, rfl, hc.le, fun o s hs => ?_, fun o => ?_, ?_, h1⟩
      · obtain ⟨v, e, r⟩ := hc.get o s hs
        exact ⟨v, e, r.mono (fun _ _ _ h => h) hβ⟩
      · cases hJ : x.J B o with
        | none => rfl
        | some v =>
          have := World.block_lt_of_cell? w _ (hm.holds B o v hJ)
          simp only at this; omega
      · have := hm.w0le
        refine ⟨?_, fun ho => ?_⟩
        · show x.w0.heap.size ≤ B
          omega
        · have := hm.othlt B ho; omega
    · simp only [Know.newB, Bf.put, if_neg e] at hb'
      obtain ⟨B2, vals2, fr2, g1, g2, g3, g4, g5, g6, g7, g8⟩ := (hm1.live b t' cells' hb').out
      exact ⟨B2, vals2, fr2, (hβo b e).trans g1, g2, g3, g4, fun o s hs => let ⟨v, e, r⟩ := g5 o s hs; ⟨v, e, r.mono (fun _ _ _ h => h) hβ⟩, g6, g7, g8⟩
  · intro b b' B2 sz t2 sz' t2' h h'
    by_cases e : b = K.nx
    · by_cases e' : b' = K.nx
      · rw [e, e']
      · have h' : x.β b' = _ := (hβo b' e').symm.trans h'
        have h : β' b = _ := h
        rw [e, hβn] at h; cases h
        have := liveB b' _ _ _ h'
        omega
    · by_cases e' : b' = K.nx
      · have h : x.β b = _ := (hβo b e).symm.trans h
        have h' : β' b' = _ := h'
        rw [e', hβn] at h'; cases h'
        have := liveB b _ _ _ h
        omega
      · exact hm1.inj b b' B2 sz t2 sz' t2' ((hβo b e).symm.trans h) ((hβo b' e').symm.trans h')
  · intro b hb'
    have : b ≠ K.nx := by simp only [Know.newB] at hb'; omega
    simp only [Know.newB, Bf.put, if_neg this]
    exact hm1.fresh b (by simp only [Know.newB] at hb'; omega)

/-- A local block is written. -/
theorem Models.setLive {x : Ctx} {K : Know} {a : Act} {w w1 : World} (hm : Models x K a w) {b B : Nat} {t : TypeId} {cells cells' : List SV} {sz : Nat} {t0 : TypeId} (hmem : K.mem b = .live t cells) (hβ : x.β b = .live B sz t0)
    {vals' : Array Value} (hsz : vals'.size = sz) (hw : w1 = w.setRow B vals') (h1 : ∀ v ∈ vals', v.oneCell' = true) (hc : Front x.J x.β vals' cells') : Models x (K.setB b (.live t cells')) a w1 := by
  obtain ⟨B2, vals, fr, g1, ⟨T, g2⟩, g3, g4, g5, g6, g7, g8⟩ := (hm.live b t cells hmem).out
  rw [hβ] at g1
  cases g1
  have hB := (Array.getElem?_eq_some_iff.1 g2).1
  have hrow : w1.heap[B]? = some (.cells vals' T fr) := by rw [hw]; exact setRow_heap w B vals vals' T fr g2
  have hoth : ∀ k, k ≠ B → w1.heap[k]? = w.heap[k]? := fun k hk => by
    rw [hw]; unfold World.setRow
    simp only [Array.getElem?_modify]
    rw [if_neg (Ne.symm hk)]
  have hsize : w1.heap.size = w.heap.size := by rw [hw]; simp [World.setRow]
  have hbel : Below B w w1 := ⟨by rw [hw]; rfl, by rw [hw]; rfl, by rw [hw]; rfl, by omega, fun k hk => hoth k (by omega)⟩
  have hkeep : ∀ b o v, x.J b o = some v → w1.cell? ⟨b, o, none⟩ = some v := by
    intro b' o v hv
    have hne : b' ≠ B := fun e => by subst e; rw [g6 o] at hv; cases hv
    have := hm.holds b' o v hv
    rw [← this]
    exact World.cell?_of_block (hoth b' hne)
  refine ⟨hm.fro, hm.size, ?_, x.w0.up _ _ _ _ _ hm.below (hbel.mono g7.1) (fun k hk => hoth k fun e => g7.2 (e ▸ hk)) hkeep, hkeep, hm.old, hm.slots, ?_, ?_, ?_, hm.inj, hm.one, ?_⟩
  · refine hm.defers.mono fun D _ _ hD => hoth D fun e => ?_
    subst e; rw [g2] at hD; cases hD
  · intro b' h'
    by_cases e : b' = b
    · subst e; simp [Know.setB, Bf.put] at h'
    · simp only [Know.setB, Bf.put, if_neg e] at h'; exact hm.unborn b' h'
  · intro b' h'
    by_cases e : b' = b
    · subst e; simp [Know.setB, Bf.put] at h'
    · simp only [Know.setB, Bf.put, if_neg e] at h'; exact hm.dead b' h'
  · intro b' t' cells2 h'
    by_cases e : b' = b
    · subst e
      simp only [Know.setB, Bf.put, if_true, MB.live.injEq] at h'
      obtain ⟨rfl, rfl⟩ := h'
      exact ⟨B, vals', fr, by rw [hβ, hsz], ⟨T, hrow⟩, g3, hc.le, hc.get, g6, g7, h1⟩
    · simp only [Know.setB, Bf.put, if_neg e] at h'
      obtain ⟨B3, vals3, fr3, k1, ⟨T', k2⟩, k3, k4, k5, k6, k7, k8⟩ := (hm.live b' t' cells2 h').out
      have hne : B3 ≠ B := fun e2 => by subst e2; exact e (hm.inj b' b _ _ _ _ _ k1 hβ)
      exact ⟨B3, vals3, fr3, k1, ⟨T', (hoth B3 hne).trans k2⟩, k3, k4, k5, k6, k7, k8⟩
  · intro b' h'
    have : b' ≠ b := fun e => by
      subst e; rw [hm.fresh b' h'] at hmem; cases hmem
    simp only [Know.setB, Bf.put, if_neg this]
    exact hm.fresh b' h'

end Go.Bf
