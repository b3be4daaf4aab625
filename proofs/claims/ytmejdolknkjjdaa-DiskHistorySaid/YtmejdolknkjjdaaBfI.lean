/-
  Operations that lay new immutable blocks, and the making of struct values: what is yielded, and that it is. Nothing is claimed here.
-/
import Derived.Test.YtmejdolknkjjdaaBfH
import Derived.Laws.MakeOwn
namespace Go.Bf
open Go Go.RowKit
variable {P : Program}

/-- A new block of cells is there, nothing else has turned: its cells may be held immutable from here on. -/
theorem Models.newImm {x : Ctx} {K : Know} {a : Act} {w w1 : World} (hm : Models x K a w) (hb : Below w.heap.size w w1) {B : Nat} {vals : Array Value} {t : TypeId} {fr : Nat × Nat} (hB : w.heap.size ≤ B)
    (hcell : w1.heap[B]? = some (.cells vals t fr)) (h1 : ∀ v ∈ vals, v.oneCell' = true) :
    ∃ x', x.le x' ∧ x'.β = x.β ∧ Models x' K a w1 ∧ ∀ (o : Nat) v, vals[o]? = some v → x'.J B o = some v := by
  have hm1 := hm.grow hb
  have old : ∀ b o v, x.J b o = some v → b ≠ B := fun b o v hv e => by
    have := World.block_lt_of_cell? w _ (hm.holds b o v hv)
    simp only at this; omega
  obtain ⟨hle, hm2⟩ := hm1.moreJ (fun b o => if b = B then vals[o]? else x.J b o) (fun b o v hv => by simp [old b o v hv, hv])
    (fun b o v hv => by
      by_cases e : b = B
      · subst e
        simp only [if_true] at hv
        simp [World.cell?, hcell, hv]
      · simp only [if_neg e] at hv
        exact hm1.holds b o v hv)
    (fun b o hlt => by
      have := hm.w0le
      have : b < w.heap.size := by rcases hlt with h | h
                                   · omega
                                   · exact hm.othlt b h
      rw [if_neg (by omega)])
    (fun b t' cells hmem B' sz t'' hβ o => by
      obtain ⟨B2, vals2, fr2, g1, ⟨T, g2⟩, g3, g4, g5, g6, g7, g8⟩ := (hm.live b t' cells hmem).out
      rw [hβ] at g1
      cases g1
      have := (Array.getElem?_eq_some_iff.1 g2).1
      rw [if_neg (by omega)]
      exact g6 o)
    (fun b o v hv => by
      by_cases e : b = B
      · subst e
        simp only [if_true] at hv
        exact h1 v (Array.mem_of_getElem? hv)
      · simp only [if_neg e] at hv
        exact hm.one b o v hv)
  exact ⟨_, hle, rfl, hm2, fun o v hv => by simp [hv]⟩

theorem below_alloc (w : World) (o : Obj) : Below w.heap.size w (w.alloc o) := (Below.refl _ w).alloc (Nat.le_refl _) o
theorem heap_alloc_new' (w : World) (o : Obj) : (w.alloc o).heap[w.heap.size]? = some o := World.alloc_heap_new w o

/-- Cells in a row that are data. -/
def ArrR (J : Imm) (β : Nat → Nam) (vs : Array Value) (ss : List SV) : Prop := vs.size = ss.length ∧ ∀ (i : Nat) v s, vs[i]? = some v → ss[i]? = some s → SRep J β v s

/-- One part of a row is replaced. -/
def spl {α : Type} (cells : List α) (off : Nat) (p : List α) : List α :=
  match p with
  | [c] => cells.set off c
  | p => cells.take off ++ p ++ cells.drop (off + p.length)

theorem spl_length {α : Type} (cells : List α) (off : Nat) (p : List α) (h : off + p.length ≤ cells.length) : (spl cells off p).length = cells.length := by
  unfold spl; split
  · simp
  · simp; omega

theorem spl_get {α : Type} (cells : List α) (off : Nat) (p : List α) (h : off + p.length ≤ cells.length) (i : Nat) : (spl cells off p)[i]? = if off ≤ i ∧ i < off + p.length then p[i - off]? else cells[i]? := by
  unfold spl
  split
  · rename_i c
    simp only [List.length_cons, List.length_nil] at h ⊢
    rw [List.getElem?_set]
    by_cases e : off = i
    · subst e; simp; omega
    · simp only [e, if_false]; rw [if_neg (by omega)]
  · rw [List.append_assoc, List.getElem?_append]
    simp only [List.length_take]
    by_cases h1 : i < off
    · rw [if_pos (by omega), if_neg (by omega), List.getElem?_take, if_pos h1]
    · rw [if_neg (by omega), List.getElem?_append]
      have : i - min off cells.length = i - off := by omega
      rw [this]
      by_cases h2 : i < off + p.length
      · rw [if_pos (by omega), if_pos (by omega)]
      · rw [if_neg (by omega), if_neg (by omega), List.getElem?_drop]
        congr 1; omega

theorem foldl_setIn : ∀ (ps : List Value) (k off : Nat) (cs : Array Value), off + k + ps.length ≤ cs.size → 
    ((ps.zipIdx k).foldl (fun cs (c, j) => cs.setIfInBounds (off + j) c) cs).size = cs.size ∧
    ∀ i : Nat, ((ps.zipIdx k).foldl (fun cs (c, j) => cs.setIfInBounds (off + j) c) cs)[i]? = if off + k ≤ i ∧ i < off + k + ps.length then ps[i - (off + k)]? else cs[i]? := by
  intro ps
  induction ps with
  | nil => intro k off cs h; exact ⟨rfl, fun i => by rw [if_neg (by simp only [List.length_nil]; omega)]; rfl⟩
  | cons p ps ih =>
    intro k off cs h
    simp only [List.zipIdx_cons, List.foldl_cons, List.length_cons] at h ⊢
    obtain ⟨h1, h2⟩ := ih (k + 1) off (cs.setIfInBounds (off + k) p) (by simp; omega)
    refine ⟨by rw [h1]; simp, fun i => ?_⟩
    rw [h2 i]
    by_cases e1 : off + (k + 1) ≤ i ∧ i < off + (k + 1) + ps.length
    · rw [if_pos e1, if_pos (by omega)]
      have : i - (off + k) = (i - (off + (k + 1))) + 1 := by omega
      rw [this, List.getElem?_cons_succ]
    · rw [if_neg e1]
      by_cases e2 : i = off + k
      · subst e2
        rw [if_pos (by omega), Nat.sub_self]
        have : off + k < cs.size := by omega
        simp [this]
      · rw [if_neg (by omega)]
        exact Array.getElem?_setIfInBounds_ne (Ne.symm e2)

theorem arrR_splice {J : Imm} {β : Nat → Nam} {cs ps : Array Value} {ss qs : List SV} (h1 : ArrR J β cs ss) (h2 : ArrR J β ps qs) {off : Nat} (hl : off + qs.length ≤ ss.length) :
    ArrR J β (ps.zipIdx.foldl (fun cs (c, j) => cs.setIfInBounds (off + j) c) cs) (spl ss off qs) := by
  have e : ps.zipIdx.foldl (fun cs (c, j) => cs.setIfInBounds (off + j) c) cs = (ps.toList.zipIdx 0).foldl (fun cs (c, j) => cs.setIfInBounds (off + j) c) cs := by
    rw [← Array.foldl_toList]; simp
  rw [e]
  have hps : ps.toList.length = qs.length := by simpa using h2.1
  obtain ⟨g1, g2⟩ := foldl_setIn ps.toList 0 off cs (by rw [hps, h1.1]; omega)
  refine ⟨by rw [g1, spl_length _ _ _ hl, h1.1], fun i v s hv hs => ?_⟩
  rw [g2 i] at hv
  rw [spl_get _ _ _ hl] at hs
  simp only [Nat.add_zero, hps] at hv
  split at hv
  · rename_i hc
    rw [if_pos hc] at hs
    exact h2.2 _ v s (by simpa using hv) hs
  · rename_i hc
    rw [if_neg hc] at hs
    exact h1.2 i v s hv hs

/-- The parts of a struct or a slice literal, laid over zero cells. -/
def fillS (place : Nat → Option (Nat × Nat)) (cells : List SV) : List (Nat × SV) → Option (List SV)
  | [] => some cells
  | (i, s) :: rest =>
    match place i with
    | none => none
    | some (off, size) => if s.cells.length = size ∧ off + size ≤ cells.length then fillS place (spl cells off s.cells) rest else none

/-- It names no local block that is gone, and hangs on no guard. -/
def solid (mem : Mem) : SV → Bool
  | .loc b _ => match mem b with | .live _ _ => true | _ => false
  | .own b _ _ _ _ => match mem b with | .live _ _ => true | _ => false
  | .cnd _ _ => false
  | _ => true

theorem Models.cells {x : Ctx} {K : Know} {a : Act} {w : World} (hm : Models x K a w) {v : Value} {s : SV} (hs : SRep x.J x.β v s) (hsol : solid K.mem s = true) : ArrR x.J x.β v.cells s.cells := by
  have nd : ∀ b, (match K.mem b with | .live _ _ => true | _ => false) = true → x.β b ≠ .dead := fun b hb => by
    split at hb
    · rename_i t cells e
      obtain ⟨B, sz, t', h1, _⟩ := hm.cell e
      rw [h1]; simp
    · cases hb
  exact SRep.cells_spec hs (fun g s' e => by subst e; simp [solid] at hsol) (fun b off e => by subst e; exact nd b hsol) (fun b wd off l c e => by subst e; exact nd b hsol)

theorem fillS_sound {x : Ctx} {K : Know} {a : Act} {w : World} (hm : Models x K a w) {place : Nat → Option (Nat × Nat)} : ∀ (parts : List (Nat × SV)) (vparts : List (Nat × Value)) (cells : List SV) (cs : Array Value) (r : List SV),
    vparts.length = parts.length → (∀ (i : Nat) p q, parts[i]? = some p → vparts[i]? = some q → p.1 = q.1 ∧ SRep x.J x.β q.2 p.2 ∧ solid K.mem p.2 = true) → ArrR x.J x.β cs cells → fillS place cells parts = some r →
    ∃ rs, Instr.fill place cs vparts = some rs ∧ ArrR x.J x.β rs r := by
  intro parts
  induction parts with
  | nil =>
    intro vparts cells cs r hl hp hc h
    obtain rfl : vparts = [] := List.eq_nil_of_length_eq_zero hl
    simp only [fillS, Option.some.injEq] at h
    subst h
    exact ⟨cs, rfl, hc⟩
  | cons p parts ih =>
    intro vparts cells cs r hl hp hc h
    cases vparts with
    | nil => simp at hl
    | cons q vparts =>
      obtain ⟨i, s⟩ := p
      obtain ⟨i', v⟩ := q
      obtain ⟨rfl, hs, hsol⟩ := hp 0 _ _ rfl rfl
      simp only [fillS] at h
      split at h
      · cases h
      · rename_i off size hpl
        split at h
        · rename_i hcond
          obtain ⟨hsz, hfit⟩ := hcond
          have hcells := hm.cells hs hsol
          obtain ⟨rs, e, hr⟩ := ih vparts _ (v.cells.zipIdx.foldl (fun cs (c, j) => cs.setIfInBounds (off + j) c) cs) r (by simpa using hl)
            (fun j p q h1 h2 => hp (j + 1) p q (by simpa using h1) (by simpa using h2)) (arrR_splice hc hcells (by show off + s.cells.length ≤ cells.length; omega)) h
          refine ⟨rs, ?_, hr⟩
          simp only [Instr.fill, hpl]
          have h1 : v.cells.size = size := by rw [hcells.1, hsz]
          have h2 : ¬ (v.cells.size ≠ size ∨ off + v.cells.size > cs.size) := by rw [h1, hc.1]; simp; omega
          simp only [Bool.or_eq_true, decide_eq_true_eq, h2, if_false]
          exact e
        · cases h

theorem zeroDV_rep {J : Imm} {v : Value} {d : DV} (h : zeroDV v = some d) : Rep J v d ∧ v.oneCell' = true := by
  unfold zeroDV at h
  split at h
  · rename_i k n
    split at h
    · rename_i hn; subst hn; cases h
      exact ⟨.int ⟨(min_le_max k).2.1, (min_le_max k).2.2⟩, rfl⟩
    · cases h
  · cases h; exact ⟨.bool, rfl⟩
  · rename_i s
    split at h
    · rename_i hs
      cases h
      obtain ⟨⟨l⟩⟩ := s
      simp only at hs
      have : l = [] := by simpa using hs
      subst this
      exact ⟨.str (by simp [maxLen]), rfl⟩
    · cases h
  · cases h; exact ⟨.empty (by simp [maxLen]), rfl⟩
  · cases h; exact ⟨.nilp, rfl⟩
  · cases h; exact ⟨.nilf, rfl⟩
  · cases h; exact ⟨.nili, rfl⟩
  · cases h; exact ⟨.nilm, rfl⟩
  · cases h

/-- A zero cell, as a local block holds it: of a nil slice it is known that nothing lies behind it. -/
def z2s : DV → SV
  | .list [] => .clip []
  | d => .d d

theorem zeroDV_z2s {J : Imm} {β : Nat → Nam} {v : Value} {d : DV} (h : zeroDV v = some d) : SRep J β v (z2s d) := by
  have hr := (zeroDV_rep (J := J) h).1
  unfold z2s
  split
  · have : v = .slice none 0 0 := by
      unfold zeroDV at h
      split at h <;> (try split at h) <;> first | rfl | (cases h; done) | (simp at h; done)
    subst this
    exact .clip hr
  · exact .d hr

theorem tzero_sound {t : TypeId} {zs : List DV} (h : tzero P t = some zs) (w : World) (J : Imm) : ∃ v i, (zeroValue t).run P w = .ok v w ∧ P.info? t = some i ∧ i.zero = some v ∧ i.size = zs.length ∧ v.cells.size = zs.length ∧
    (∀ (j : Nat) u d, v.cells[j]? = some u → zs[j]? = some d → Rep J u d ∧ zeroDV u = some d) ∧ (∀ u ∈ v.cells, u.oneCell' = true) ∧ zs.length ≠ 0 := by
  unfold tzero at h
  rw [Option.bind_eq_some_iff] at h
  obtain ⟨k, hk, hz⟩ := h
  obtain ⟨i, h1, h2, h3, h4, h5, h6, h7⟩ := ek_info hk
  obtain ⟨v, h8, h9, h10⟩ := h7 zs hz
  obtain ⟨g1, g2⟩ := mapM_get h10
  have hsz : v.cells.size = zs.length := by rw [g1]; simp
  refine ⟨v, i, by simp [zeroValue, typeInfo, h1, h8], h1, h8, by omega, hsz, fun j u d hu hd => ⟨(zeroDV_rep (g2 j u d (by simpa using hu) hd)).1, g2 j u d (by simpa using hu) hd⟩, fun u hu => ?_, by omega⟩
  obtain ⟨j, hj, rfl⟩ := Array.mem_iff_getElem.1 hu
  have hlt : j < zs.length := by omega
  exact (zeroDV_rep (J := J) (g2 j _ (zs[j]) (by simp [hj]) (List.getElem?_eq_getElem hlt))).2

/-- A struct literal. -/
def buildF (P : Program) (mem : Mem) (t : TypeId) (parts : List (Nat × SV)) : R :=
  match tk P t, tzero P t with
  | .struct fs _, some zs =>
    if fs.all (fun f => decide (f.2 ≠ .bad)) && parts.all (fun p => solid mem p.2) then
      (fillS (fun i => match fs[i]? with | some (o, .one) => some (o, 1) | some (o, .agg n) => some (o, n) | _ => none) (zs.map z2s) parts).map fun r => (True, mkAgg r)
    else none
  | _, _ => none

end Go.Bf
