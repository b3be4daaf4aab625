/-
  Views of what is known: renaming, forgetting. Nothing is claimed here.
-/
import Derived.Test.YtmejdolknkjjdaaBfT
namespace Go.Bf
open Go Go.RowKit
variable {P : Program} {r : Option Nat}

/-- What is known as K may be seen as K'. -/
def Sub (K' K : Know) : Prop := ∀ x a w, Models x K a w → ∃ y, x.ext y ∧ Models y K' a w

theorem Sub.refl (K : Know) : Sub K K := fun x _ _ h => ⟨x, Ctx.ext_refl _, h⟩
theorem Sub.trans {A B C : Know} (h : Sub A B) (k : Sub B C) : Sub A C := fun x a w hm => by
  obtain ⟨y, h1, h2⟩ := k x a w hm
  obtain ⟨z, h3, h4⟩ := h y a w h2
  exact ⟨z, Ctx.ext_trans h1 h3, h4⟩
mutual
theorem SRep.ren {J : Imm} {β : Nat → Nam} {ρ : Nat → Nat} : ∀ (s : SV) {v : Value}, SRep J β v (s.ren ρ) → SRep J (fun b => β (ρ b)) v s
  | .d x, v, h => by rw [SV.ren] at h; cases h with | d h => exact .d h
  | .loc b off, v, h => by
    rw [SV.ren] at h
    cases h with
    | loc h => exact .loc h
    | locDead h => exact .locDead h
  | .own b wd off len c, v, h => by
    rw [SV.ren] at h
    cases h with
    | own h h1 h2 h3 h4 => exact .own h h1 h2 h3 h4
    | ownDead h => exact .ownDead h
  | .clip xs, v, h => by rw [SV.ren] at h; cases h with | clip h => exact .clip h
  | .agg cs, v, h => by
    rw [SV.ren] at h
    cases h with
    | agg hl hh => exact .agg (by rw [hl, renL_eq, List.length_map]) fun i v d hv hd => renL_rep cs i v d hd (hh i v _ hv (by rw [renL_eq, List.getElem?_map, hd]; rfl))
  | .clo f cs, v, h => by
    rw [SV.ren] at h
    cases h with
    | clo hl hh => exact .clo (by rw [hl, renL_eq, List.length_map]) fun i v d hv hd => renL_rep cs i v d hd (hh i v _ hv (by rw [renL_eq, List.getElem?_map, hd]; rfl))
  | .cnd g s, v, h => by
    rw [SV.ren] at h
    cases h with
    | cndT hg h => exact .cndT hg (SRep.ren s h)
    | cndF hg => exact .cndF hg
theorem renL_rep {J : Imm} {β : Nat → Nam} {ρ : Nat → Nat} : ∀ (cs : List SV) (i : Nat) (v : Value) (d : SV), cs[i]? = some d → SRep J β v (d.ren ρ) → SRep J (fun b => β (ρ b)) v d
  | [], i, v, d, h, _ => by simp at h
  | c :: cs, 0, v, d, h, hr => by simp at h; subst h; exact SRep.ren c hr
  | c :: cs, i + 1, v, d, h, hr => renL_rep cs i v d (by simpa using h) hr
end

def rho (nx : Nat) (ν : List Nat) (b : Nat) : Nat := match ν[b]? with
  | some c => c
  | none => nx + b

theorem rho_inj {nx : Nat} {ν : List Nat} (hnd : ν.Nodup) (hlt : ∀ b ∈ ν, b < nx) {a b : Nat} (h : rho nx ν a = rho nx ν b) : a = b := by
  unfold rho at h
  cases ha : ν[a]? with
  | none =>
    cases hb : ν[b]? with
    | none => simp only [ha, hb] at h; omega
    | some d => simp only [ha, hb] at h; have := hlt d (List.mem_of_getElem? hb); omega
  | some c =>
    cases hb : ν[b]? with
    | none => simp only [ha, hb] at h; have := hlt c (List.mem_of_getElem? ha); omega
    | some d =>
      simp only [ha, hb] at h
      subst h
      exact (List.getElem?_inj (List.getElem?_eq_some_iff.1 ha).1 hnd).1 (ha.trans hb.symm)

def lk : List (Nat × SV) → Nat → Option SV
  | [], _ => none
  | (j, s) :: r, i => if i = j then some s else lk r i

/-- What is known, written out. -/
def Know.of (n : Nat) (sl : List (Nat × SV)) (ml : List (TypeId × List SV)) (gh : Ghost := fun _ _ _ => True) (fro : List Nat := []) (b0 : Option (Nat × Imm) := none) : Know :=
  { slots := lk sl, mem := fun b => match ml[b]? with | some (t, cs) => .live t cs | none => .unborn, n := n, nx := ml.length, gh := gh, fro := fro, b0 := b0 }

def slotsOk (K : Know) (ρ : Nat → Nat) : List (Nat × SV) → Prop
  | [] => True
  | (i, s) :: l => K.slots i = some (s.ren ρ) ∧ slotsOk K ρ l
def memsOk (K : Know) (ρ : Nat → Nat) : Nat → List (TypeId × List SV) → Prop
  | _, [] => True
  | j, (t, cs) :: l => K.mem (ρ j) = .live t (renL ρ cs) ∧ memsOk K ρ (j + 1) l

theorem slotsOk_spec {K : Know} {ρ : Nat → Nat} : ∀ {l : List (Nat × SV)}, slotsOk K ρ l → ∀ i s, lk l i = some s → K.slots i = some (s.ren ρ)
  | [], _, i, s, h => by simp [lk] at h
  | (j, t) :: l, ⟨h1, h2⟩, i, s, h => by
    simp only [lk] at h
    split at h
    · rename_i e; cases h; rw [e]; exact h1
    · exact slotsOk_spec h2 i s h
theorem memsOk_spec {K : Know} {ρ : Nat → Nat} : ∀ {l : List (TypeId × List SV)} {j : Nat}, memsOk K ρ j l → ∀ i t cs, l[i]? = some (t, cs) → K.mem (ρ (j + i)) = .live t (renL ρ cs)
  | [], j, _, i, t, cs, h => by simp at h
  | (t0, c0) :: l, j, ⟨h1, h2⟩, 0, t, cs, h => by simp at h; obtain ⟨rfl, rfl⟩ := h; exact h1
  | (t0, c0) :: l, j, ⟨h1, h2⟩, i + 1, t, cs, h => by
    have := memsOk_spec h2 i t cs (by simpa using h)
    rw [← this]; congr 2; omega

/-- K may be seen as the knowledge written out: new name ↦ old name by ν. -/
structure ViewOk (K : Know) (n : Nat) (sl : List (Nat × SV)) (ml : List (TypeId × List SV)) (ν : List Nat) : Prop where
  n : n = K.n
  len : ν.length = ml.length
  nd : ν.Nodup
  lt : ∀ b ∈ ν, b < K.nx
  slots : slotsOk K (rho K.nx ν) sl
  mems : memsOk K (rho K.nx ν) 0 ml

theorem Sub.of {K : Know} {n : Nat} {sl : List (Nat × SV)} {ml : List (TypeId × List SV)} (ν : List Nat) (h : ViewOk K n sl ml ν) : Sub (Know.of n sl ml K.gh K.fro K.b0) K := fun x a w hm => by
  have hun : ∀ b, ml.length ≤ b → rho K.nx ν b = K.nx + b := fun b hb => by
    unfold rho
    rw [List.getElem?_eq_none (by rw [h.len]; exact hb)]
  refine ⟨{ x with β := fun b => x.β (rho K.nx ν b) }, ⟨fun _ _ _ h => h, rfl, rfl⟩, ⟨hm.fro, by rw [hm.size, ← h.n]; rfl, hm.defers, hm.below, hm.holds, hm.old, ?_, ?_, ?_, ?_, ?_, hm.one, ?_⟩⟩
  · intro i s hs
    obtain ⟨v, e, rr⟩ := hm.slots i _ (slotsOk_spec h.slots i s hs)
    exact ⟨v, e, SRep.ren (β := x.β) (ρ := rho K.nx ν) s rr⟩
  · intro b hb
    simp only [Know.of] at hb
    split at hb
    · cases hb
    · rename_i hn
      have hle : ml.length ≤ b := List.getElem?_eq_none_iff.1 hn
      simp only [hun b hle]
      exact hm.unborn _ (hm.fresh _ (by omega))
  · intro b hb
    simp only [Know.of] at hb
    split at hb <;> cases hb
  · intro b t cells hb
    simp only [Know.of] at hb
    split at hb
    · rename_i t' cs hg
      cases hb
      have hmem := memsOk_spec h.mems b _ _ hg
      rw [Nat.zero_add] at hmem
      obtain ⟨B, vals, fr, h1, h2, h3, h4, h5, h6, h7, h8⟩ := (hm.live _ _ _ hmem).out
      refine ⟨B, vals, fr, h1, h2, h3, by simpa [renL_eq] using h4, fun o s hs => ?_, h6, h7, h8⟩
      obtain ⟨v, e, rr⟩ := h5 o (s.ren (rho K.nx ν)) (by rw [renL_eq, List.getElem?_map, hs]; rfl)
      exact ⟨v, e, SRep.ren (β := x.β) (ρ := rho K.nx ν) s rr⟩
    · cases hb
  · intro b b' B sz t sz' t' h1 h2
    exact rho_inj h.nd h.lt (hm.inj _ _ B sz t sz' t' h1 h2)
  · intro b hb
    simp only [Know.of]
    rw [List.getElem?_eq_none hb]

end Go.Bf
