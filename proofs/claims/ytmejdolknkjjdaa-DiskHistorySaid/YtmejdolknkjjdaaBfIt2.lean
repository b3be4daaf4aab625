/-
  A range over a function, in the caller. Nothing is claimed here.
-/
import Derived.Test.YtmejdolknkjjdaaBfIt
namespace Go.Bf
open Go Go.RowKit
variable {P : Program}

/-- The same knowledge in another frame of things. -/
theorem Models.reframe {z : Ctx} {K : Know} {a1 a2 : Act} {w1 w2 : World} (hm : Models z K a1 w1) {B2 : Base} {oth2 : Nat → Prop} {J2 : Imm} {g2 : Ghost} {fro2 : List Nat} {b02 : Option (Nat × Imm)}
    (hfro : (∀ i ∈ fro2, a2.tmps[i]? = B2.fr[i]?) ∧ (∀ n J, b02 = some (n, J) → B2.heap.size = n ∧ J2 = J ∧ ∀ oth J g w, B2.inv oth J g w ↔ (g oth J w ∧ n ≤ w.heap.size ∧ (∀ k, oth k → n ≤ k ∧ k < w.heap.size) ∧ StOk n g)))
    (hsz : a2.tmps.size = K.n) (hsl : ∀ i s, K.slots i = some s → a2.tmps[i]? = a1.tmps[i]?) (hdf : Marks w2 B2.heap.size oth2 a2.defers) (hinv : B2.inv oth2 z.J g2 w2) (hJ : ∀ b o v, z.J b o = some v → w2.cell? ⟨b, o, none⟩ = some v)
    (hold : ∀ b o, (b < B2.heap.size ∨ oth2 b) → z.J b o = J2 b o)
    (hlive : ∀ b B sz t, z.β b = .live B sz t → w2.heap[B]? = w1.heap[B]? ∧ B2.heap.size ≤ B ∧ ¬ oth2 B) :
    Models { z with w0 := B2, oth := oth2, J0 := J2 } { K with gh := g2, fro := fro2, b0 := b02 } a2 w2 where
  fro := hfro
  size := hsz
  defers := hdf
  below := hinv
  holds := hJ
  old := hold
  slots := fun i s hs => by
    obtain ⟨v, e, rr⟩ := hm.slots i s hs
    exact ⟨v, (hsl i s hs).trans e, rr⟩
  unborn := hm.unborn
  dead := hm.dead
  live := fun b t cells hmem => by
    obtain ⟨B, vals, fr, g1, ⟨T, g2⟩, g3, g4, g5, g6, g7, g8⟩ := (hm.live b t cells hmem).out
    obtain ⟨e1, e2, e3⟩ := hlive b B _ _ g1
    exact ⟨B, vals, fr, g1, ⟨T, e1.trans g2⟩, g3, g4, g5, g6, ⟨e2, e3⟩, g8⟩
  inj := hm.inj
  one := hm.one
  fresh := hm.fresh

theorem Models.blockOf {x : Ctx} {K : Know} {a : Act} {w : World} (hm : Models x K a w) {b B sz : Nat} {t : TypeId} (h : x.β b = .live B sz t) : B < w.heap.size ∧ x.w0.heap.size ≤ B ∧ ¬ x.oth B ∧ ∃ vals T fr, w.heap[B]? = some (.cells vals T fr) := by
  cases hmem : K.mem b with
  | unborn => rw [hm.unborn b hmem] at h; cases h
  | dead => rw [hm.dead b hmem] at h; cases h
  | live t' cells =>
    obtain ⟨B2, vals, fr, g1, ⟨T, g2⟩, g3, g4, g5, g6, g7, g8⟩ := (hm.live b t' cells hmem).out
    rw [h] at g1; cases g1
    exact ⟨(Array.getElem?_eq_some_iff.1 g2).1, g7.1, g7.2, _, _, _, g2⟩

theorem marks_low {w : World} {base : Nat} {oth : Nat → Prop} : ∀ {ds : List Deferred}, Marks w base oth ds → ∀ d ∈ ds, ∃ D, d = { target := .collected D, args := #[] } ∧ D < w.heap.size ∧ base ≤ D ∧ ¬ oth D
  | [], _, d, hd => by simp at hd
  | e :: ds, ⟨⟨D, h1, h2, h3, h4⟩, h⟩, d, hd => by
    rcases List.mem_cons.1 hd with rfl | hd
    · exact ⟨D, h1, (Array.getElem?_eq_some_iff.1 h2).1, h3.1, h3.2⟩
    · exact marks_low h d hd

theorem Marks.turn {w w' : World} {base : Nat} {oth oth' : Nat → Prop} : ∀ {ds : List Deferred}, (∀ d ∈ ds, ∀ D : Nat, d.target = .collected D → w'.heap[D]? = w.heap[D]? ∧ ¬ oth' D) → Marks w base oth ds → Marks w' base oth' ds
  | [], _, _ => trivial
  | d :: ds, hk, ⟨⟨D, h1, h2, h3, h4⟩, h⟩ => by
    have := hk d (by simp) D (by rw [h1])
    exact ⟨⟨D, h1, this.1.trans h2, ⟨h3.1, this.2⟩, h4⟩, Marks.turn (fun d' hd' => hk d' (by simp [hd'])) h⟩

/-- What is known within a round. -/
def roundK (S : Know) (L : List Nat) (ps : Array Tmp) (x : List DV) : Know :=
  { S with slots := fun i => match lk ((ps.toList.zip x).map fun p => (p.1, SV.d p.2)) i with | some s => some s | none => S.slots i, gh := fun _ _ _ => True, fro := L, b0 := none }

def inner (T : Know) (L : List Nat) : Know := { T with gh := fun _ _ _ => True, fro := L, b0 := none }

/-- Of the frame that the loop is in. -/
structure OfK (K : Know) (L : List Nat) (T : Know) : Prop where
  n : T.n = K.n
  gh : T.gh = K.gh
  fro : T.fro = K.fro
  b0 : T.b0 = K.b0
  slots : ∀ i s, T.slots i = some s → i ∈ L

/-- What is asked where a round is left. -/
def RoundQ (Q : XE → Know → Prop) (K : Know) (L : List Nat) (iv : Prop) (nxt : Know) : XE → Know → Prop
  | .normal, K' => iv ∧ Sub (inner nxt L) K'
  | .ret, K' => ∃ T, OfK K L T ∧ Sub (inner T L) K' ∧ Q .ret T
  | .exit id, K' => ∃ T, OfK K L T ∧ Sub (inner T L) K' ∧ Q (.exit id) T
  | .pan _, _ => False

/-- The base of a round: what was there, and is none of the frame's own, is left be. -/
def Base.round (B : Base) (xoth : Nat → Prop) (xg : Ghost) (W : World) (R : Nat → Prop) (fr : Array Value) (hx : ∀ k, xoth k → R k) : Base :=
  { heap := B.heap
    inv := fun oth J _ W' => B.inv xoth J xg W' ∧ W.heap.size ≤ W'.heap.size ∧ (∀ k, oth k ↔ R k) ∧ ∀ k : Nat, R k → k < W.heap.size ∧ W'.heap[k]? = W.heap[k]?
    fr := fr
    up := fun oth J g w w' h hb ho hJ => ⟨B.up _ _ _ _ _ h.1 hb (fun k hk => ho k ((h.2.2.1 k).2 (hx k hk))) hJ, Nat.le_trans h.2.1 hb.size, h.2.2.1, fun k hk => ⟨(h.2.2.2 k hk).1, (ho k ((h.2.2.1 k).2 hk)).trans (h.2.2.2 k hk).2⟩⟩
    size := fun oth J g w h => ⟨(B.size _ _ _ _ h.1).1, fun k hk => Nat.lt_of_lt_of_le (h.2.2.2 k ((h.2.2.1 k).1 hk)).1 h.2.1⟩
    moreJ := fun oth J J' g w h h1 h2 => ⟨B.moreJ _ _ _ _ _ h.1 h1 h2, h.2⟩ }

theorem foldl_set {args : List Value} {ps : List Nat} (hnd : ps.Nodup) : ∀ (tmps : Array Value), (∀ p ∈ ps, p < tmps.size) →
    ((ps.zip args).foldl (fun t (p : Nat × Value) => t.setIfInBounds p.1 p.2) tmps).size = tmps.size ∧ (∀ i, i ∉ ps → ((ps.zip args).foldl (fun t (p : Nat × Value) => t.setIfInBounds p.1 p.2) tmps)[i]? = tmps[i]?) ∧
      ∀ (j : Nat) p v, ps[j]? = some p → args[j]? = some v → ((ps.zip args).foldl (fun t (p : Nat × Value) => t.setIfInBounds p.1 p.2) tmps)[p]? = some v := by
  induction ps generalizing args with
  | nil => intro tmps _; exact ⟨rfl, fun _ _ => rfl, fun j p v h => by simp at h⟩
  | cons q ps ih =>
    intro tmps hlt
    cases args with
    | nil => exact ⟨rfl, fun _ _ => rfl, fun j p v _ h => by simp at h⟩
    | cons u args =>
      rw [List.nodup_cons] at hnd
      simp only [List.zip_cons_cons, List.foldl_cons]
      obtain ⟨h1, h2, h3⟩ := ih (args := args) hnd.2 (tmps.setIfInBounds q u) (fun p hp => by simp; exact hlt p (by simp [hp]))
      refine ⟨by rw [h1]; simp, fun i hi => ?_, fun j p v hp hv => ?_⟩
      · rw [h2 i (fun h => hi (by simp [h]))]
        exact Array.getElem?_setIfInBounds_ne (fun e => hi (by simp [e]))
      · cases j with
        | zero =>
          simp at hp hv; subst hp; subst hv
          rw [h2 q hnd.1]
          simp [hlt q (by simp)]
        | succ j => exact h3 j p v (by simpa using hp) (by simpa using hv)

theorem marks_at {w : World} {base : Nat} {oth : Nat → Prop} : ∀ {ds : List Deferred}, Marks w base oth ds → ∀ d ∈ ds, ∀ D : Nat, d.target = .collected D → w.heap[D]? = some (.deferred (some [])) ∧ base ≤ D ∧ ¬ oth D
  | [], _, d, hd, _, _ => by simp at hd
  | e :: ds, ⟨⟨D, h1, h2, h3, h4⟩, h⟩, d, hd, D', hD => by
    rcases List.mem_cons.1 hd with rfl | hd
    · rw [h1] at hD; cases hD; exact ⟨h2, h3⟩
    · exact marks_at h d hd D' hD

theorem lk_zip : ∀ (ps : List Nat) (x : List DV) (i : Nat) (s : SV), lk ((ps.zip x).map fun p => (p.1, SV.d p.2)) i = some s → ∃ (j : Nat) (d : DV), ps[j]? = some i ∧ x[j]? = some d ∧ s = .d d
  | [], _, i, s, h => by simp [lk] at h
  | _ :: _, [], i, s, h => by simp [lk] at h
  | p :: ps, d :: x, i, s, h => by
    simp only [List.zip_cons_cons, List.map_cons, lk] at h
    split at h
    · rename_i e; cases h; exact ⟨0, d, by simp [e], by simp, rfl⟩
    · obtain ⟨j, d', h1, h2, h3⟩ := lk_zip ps x i s h
      exact ⟨j + 1, d', by simpa using h1, by simpa using h2, h3⟩

theorem cell_put {w : World} {l : Nat} {lp lp' : Loop} (hl : w.heap[l]? = some (.loop lp)) {b o : Nat} {v : Value} (h : w.cell? ⟨b, o, none⟩ = some v) : (w.putObj l (.loop lp')).cell? ⟨b, o, none⟩ = some v := by
  have hne : b ≠ l := fun e => by subst e; simp [World.cell?, hl] at h
  rw [← h]
  exact World.cell?_of_block (World.putObj_heap_other hne)

theorem below_put {w : World} {l n : Nat} {o : Obj} (hn : n ≤ l) : Below n w (w.putObj l o) := ⟨rfl, rfl, rfl, by simp, fun k hk => World.putObj_heap_other (by omega)⟩

theorem DWp.rangeF {g : Operand} {ps : Array Tmp} {assign body : Code} {Q : XE → Know → Prop} {K : Know} {f : FuncId} {caps : List DV} {ys : List (List DV)} (S : List (List DV) → Know) (Iv : List (List DV) → Prop) (L : List Nat)
    (he : Enters P f) (hseq : SeqWp P f caps ys) (hg : rdK K true g = some (True, .d (.fn f caps))) (hS : ∀ pre, OfK K L (S pre)) (hnd : ps.toList.Nodup) (hps : ∀ p ∈ ps.toList, p ∉ L ∧ p < K.n) (hys : ∀ x ∈ ys, x.length = ps.size) (h0 : Sub (S []) K) (hi0 : Iv [])
    (hround : ∀ l pre x, pre ++ [x] <+: ys → Iv pre → DWp P (some l) assign (thenX (fun K1 => K1.b0 = none ∧ DWp P (some l) body (RoundQ Q K L (Iv (pre ++ [x])) (S (pre ++ [x]))) K1) (fun _ _ => False)) (roundK (S pre) L ps x))
    (hdone : Iv ys → Q .normal (S ys)) : DWp P none (.rangeFunc g ps assign body) Q K := fun x a w hm => by
  obtain ⟨y0, hxy0, hm0⟩ := h0 x a w hm
  have hrg := d_inv (rdK_rep hm hg trivial rfl)
  generalize hev : a.eval g = zf at hrg
  obtain ⟨cs, rfl, hcl, hch⟩ : ∃ cs : Array Value, zf = .func (.func f) #[] cs ∧ cs.size = caps.length ∧ ∀ (i : Nat) v d, cs[i]? = some v → caps[i]? = some d → Rep x.J v d := by
    cases hrg with | @fn _ cs _ hl hh => exact ⟨cs, rfl, hl, hh⟩
  have hbase : y0.w0 = x.w0 := hxy0.w0
  have hw0 : y0.w0.heap.size ≤ w.heap.size := hm0.w0le
  have hoth0 : ∀ k, y0.oth k → k < w.heap.size := hm0.othlt
  have hlow : ∀ d ∈ a.defers, ∀ D : Nat, d.target = .collected D → D < w.heap.size := fun d hd D hD => (Array.getElem?_eq_some_iff.1 (marks_at hm.defers d hd D hD).1).1
  refine wpIn_rangeFunc ?_
  intro fn hfn
  obtain ⟨rec, hrec⟩ : ∃ rec : LoopState → Option Code → Loop, rec = fun st pe => { state := st, pending := pe, fn, tmps := a.tmps, params := ps, assign, body, defers := w.heap.size } := ⟨_, rfl⟩
  obtain ⟨W1, hW1⟩ : ∃ W1, (w.alloc (.deferred (some []))).alloc (.loop (rec .ready none)) = W1 := ⟨_, rfl⟩
  have hn1 : W1.heap.size = w.heap.size + 2 := by rw [← hW1]; simp
  have hL1 : W1.heap[w.heap.size + 1]? = some (.loop (rec .ready none)) := by
    rw [← hW1]; have := World.alloc_heap_new (w.alloc (.deferred (some []))) (.loop (rec .ready none)); rwa [World.size_alloc] at this
  have hK1 : W1.heap[w.heap.size]? = some (.deferred (some [])) := by
    rw [← hW1]; exact (Below.heap_alloc _ _ _ (by simp)).trans (World.alloc_heap_new w _)
  have hbw : Below w.heap.size w W1 := by rw [← hW1]; exact ((Below.refl _ w).alloc (Nat.le_refl _) _).alloc (by simp) _
  have hm1 := hm0.grow hbw
  -- what the loop holds between two rounds
  let H : Loop → Know → Ghost := fun lp T oth J' W => ∃ y : Ctx, y0.ext y ∧ y.oth = y0.oth ∧ Models y T a W ∧ W.heap[w.heap.size + 1]? = some (.loop lp) ∧ W.heap[w.heap.size]? = some (.deferred (some [])) ∧
    (∀ b B sz t, y.β b = .live B sz t → B < W1.heap.size ∨ oth B) ∧ ∀ b o v, y.J b o = some v → b < W1.heap.size ∨ oth b ∨ J' b o = some v
  have hstok : ∀ lp T, StOk W1.heap.size (H lp T) := fun lp T => by
    refine ⟨?_, ?_⟩
    · rintro oth J' W W' ⟨y, hy, hyo, hmy, hl, hD, hlv, hJc⟩ hb ho hJ'
      have hyb : y.w0.heap.size ≤ w.heap.size := by rw [hy.w0]; exact hw0
      have hsame : ∀ k : Nat, k < W1.heap.size ∨ oth k → W'.heap[k]? = W.heap[k]? := fun k hk => hk.elim (fun h => hb.block k h) (ho k)
      have hcell : ∀ b o v, y.J b o = some v → W'.cell? ⟨b, o, none⟩ = some v := fun b o v hv => by
        have h1 := hmy.holds b o v hv
        rcases hJc b o v hv with h | h | h
        · rw [← h1]; exact World.cell?_of_block (hsame b (.inl h))
        · rw [← h1]; exact World.cell?_of_block (hsame b (.inr h))
        · exact hJ' b o v h
      have hoy : ∀ k, y.oth k → k < w.heap.size := fun k hk => hoth0 k (by rw [← hyo]; exact hk)
      refine ⟨y, hy, hyo, ?_, (hsame _ (.inl (by omega))).trans hl, (hsame _ (.inl (by omega))).trans hD, hlv, hJc⟩
      exact hmy.reframe (B2 := y.w0) (oth2 := y.oth) (J2 := y.J0) (g2 := T.gh) (fro2 := T.fro) (b02 := T.b0) hmy.fro hmy.size (fun _ _ _ => rfl)
        (Marks.turn (fun d hd D hD => ⟨hsame D (.inl (by have := hlow d hd D hD; omega)), (marks_at hmy.defers d hd D hD).2.2⟩) hmy.defers)
        (y.w0.up _ _ _ _ _ hmy.below (hb.mono (by omega)) (fun k hk => hsame k (.inl (by have := hoy k hk; omega))) hcell) hcell hmy.old
        (fun b B sz t hβ => ⟨hsame B (hlv b B sz t hβ), (hmy.blockOf hβ).2.1, (hmy.blockOf hβ).2.2.1⟩)
    · rintro oth J' J'' W ⟨y, hy, hyo, hmy, hl, hD, hlv, hJc⟩ h1 h2
      exact ⟨y, hy, hyo, hmy, hl, hD, hlv, fun b o v hv => (hJc b o v hv).imp id (Or.imp id (h1 b o v))⟩
  -- behind the loop
  have hend : ∀ (lp : Loop) (T : Know) oth J' W2, lp.state ≠ .busy → OfK K L T → H lp T oth J' W2 → ∃ W3, (Instr.endLoop (w.heap.size + 1)).run P W2 = .ok lp.pending W3 ∧
      ∃ y, x.ext y ∧ Models y T { a with defers := { target := .collected w.heap.size, args := #[] } :: a.defers } W3 := by
    rintro lp T oth J' W2 hst hT ⟨y, hy, hyo, hmy, hl, hD, hlv, hJc⟩
    have hyb : y.w0.heap.size ≤ w.heap.size := by rw [hy.w0]; exact hw0
    have hoy : ∀ k, y.oth k → k < w.heap.size := fun k hk => hoth0 k (by rw [← hyo]; exact hk)
    have hlt : w.heap.size + 1 < W2.heap.size := (Array.getElem?_eq_some_iff.1 hl).1
    refine ⟨_, run_endLoop hl hst, y, Ctx.ext_trans hxy0 hy, ?_⟩
    have hcell : ∀ b o v, y.J b o = some v → (W2.putObj (w.heap.size + 1) (.loop { lp with state := .exhausted })).cell? ⟨b, o, none⟩ = some v := fun b o v hv => cell_put hl (hmy.holds b o v hv)
    exact hmy.reframe (B2 := y.w0) (oth2 := y.oth) (J2 := y.J0) (g2 := T.gh) (fro2 := T.fro) (b02 := T.b0) hmy.fro hmy.size (fun _ _ _ => rfl)
      ⟨⟨w.heap.size, rfl, (World.putObj_heap_other (by omega)).trans hD, ⟨hyb, fun h => by have := hoy _ h; omega⟩, fun d hd e => by have := hlow d hd _ e; omega⟩,
        Marks.turn (fun d hd D hD => ⟨World.putObj_heap_other (by have := hlow d hd D hD; omega), (marks_at hmy.defers d hd D hD).2.2⟩) hmy.defers⟩
      (y.w0.up _ _ _ _ _ hmy.below (below_put (by omega)) (fun k hk => World.putObj_heap_other (by have := hoy k hk; omega)) hcell) hcell hmy.old
      (fun b B sz t hβ => ⟨World.putObj_heap_other (fun e => by
        obtain ⟨_, _, _, vals, T, fr, hc⟩ := hmy.blockOf hβ
        rw [e, hl] at hc; cases hc), (hmy.blockOf hβ).2.1, (hmy.blockOf hβ).2.2.1⟩)
  refine ⟨w.heap.size + 1, [{ target := .collected w.heap.size, args := #[] }], W1, { target := .fn (.func f) cs, args := #[.func (.yield (w.heap.size + 1)) #[] #[]] }, W1, f,
    #[.func (.yield (w.heap.size + 1)) #[] #[]] ++ cs, W1, ?_, ?_, ?_, ?_, ?_, ?_⟩
  · rw [← hW1, hrec]; exact run_enterLoop_outer _ _ _ _ _
  · simp only [resolve, hev]
    simp [go_sem]
  · intro f' _; exact about_wide
  · have := he (#[.func (.yield (w.heap.size + 1)) #[] #[]] ++ cs) W1
    simp [invoke, this]
  · intro h; simp [FW, Fence.wide] at h
  refine callsIn_wide.2 ((hseq W1 y0.J cs (w.heap.size + 1) (fun pre oth J' W => Iv pre ∧ H (rec .ready none) (S pre) oth J' W) (fun oth J' W => ∃ c T, OfK K L T ∧ H (rec .done (some c)) T oth J' W ∧ ((c = .ret ∧ Q .ret T) ∨ ∃ id, c = .exit id ∧ Q (.exit id) T))
    ⟨hm1.holds, hm1.one⟩ ⟨hcl, fun i v d hv hd => (hch i v d hv hd).mono hxy0.J⟩ (fun pre => ⟨fun _ _ _ _ h h1 h2 h3 => ⟨h.1, (hstok _ _).up _ _ _ _ h.2 h1 h2 h3⟩, fun _ _ _ _ h h1 h2 => ⟨h.1, (hstok _ _).moreJ _ _ _ _ h.2 h1 h2⟩⟩) ?_ ?_ ?_).mono ?_)
  · refine ⟨?_, ?_⟩
    · rintro oth J W W' ⟨c, T, hT, hH, hc⟩ h1 h2 h3
      exact ⟨c, T, hT, (hstok _ _).up _ _ _ _ hH h1 h2 h3, hc⟩
    · rintro oth J J' W ⟨c, T, hT, hH, hc⟩ h1 h2
      exact ⟨c, T, hT, (hstok _ _).moreJ _ _ _ _ hH h1 h2, hc⟩
  · -- one round
    rintro pre row hpre oth W J' args ⟨hiv, y, hy, hyo, hmy, hl, hD, hlv, hJc⟩ hoth hn1W hJ' hJlow hargs
    have hyb : y.w0.heap.size ≤ w.heap.size := by rw [hy.w0]; exact hw0
    have hoy : ∀ k, y.oth k → k < w.heap.size := fun k hk => hoth0 k (by rw [← hyo]; exact hk)
    have hrl : row.length = ps.size := hys row (hpre.subset (by simp))
    have hal : args.size = ps.size := by rw [hargs.1, hrl]
    have hlW : w.heap.size + 1 < W.heap.size := (Array.getElem?_eq_some_iff.1 hl).1
    have hrun := run_yield (P := P) (args := args) hl (by rw [hrec]; exact hal)
    rw [hrec] at hrun
    refine ⟨fn, _, assign, body, hrun, roundIn_of_wpIn trivial ?_⟩
    simp only at hrun ⊢
    generalize htm : (ps.zip args).foldl (fun tmps (t, v) => tmps.setIfInBounds t v) a.tmps = tmps'
    have hfold := foldl_set (args := args.toList) hnd a.tmps (fun p hp => by rw [hm.size]; exact (hps p hp).2)
    have htm' : (ps.toList.zip args.toList).foldl (fun t (p : Nat × Value) => t.setIfInBounds p.1 p.2) a.tmps = tmps' := by
      rw [← htm, ← Array.foldl_toList, Array.toList_zip]
    rw [htm'] at hfold
    -- others' blocks
    let R : Nat → Prop := fun k => k < W.heap.size ∧ ∀ b sz t, y.β b ≠ .live k sz t
    have hyR : ∀ k, y.oth k → R k := fun k hk => ⟨by have := hoy k hk; omega, fun b sz t hβ => (hmy.blockOf hβ).2.2.1 hk⟩
    have hlR : R (w.heap.size + 1) := ⟨hlW, fun b sz t hβ => by obtain ⟨_, _, _, _, _, _, hc⟩ := hmy.blockOf hβ; rw [hl] at hc; cases hc⟩
    have hDR : R w.heap.size := ⟨by omega, fun b sz t hβ => by obtain ⟨_, _, _, _, _, _, hc⟩ := hmy.blockOf hβ; rw [hD] at hc; cases hc⟩
    have hdR : ∀ d ∈ a.defers, ∀ D : Nat, d.target = .collected D → R D := fun d hd D hDt => by
      have h1 := marks_at hmy.defers d hd D hDt
      exact ⟨(Array.getElem?_eq_some_iff.1 h1.1).1, fun b sz t hβ => by obtain ⟨_, _, _, _, _, _, hc⟩ := hmy.blockOf hβ; rw [h1.1] at hc; cases hc⟩
    -- what is immutable: the caller's, and the iterator's
    have hnone : ∀ b o, (b < W1.heap.size ∨ oth b) → y.J b o = none → J' b o = none := fun b o hb hn => by
      rw [hJlow b o hb]
      cases hc : y0.J b o with
      | none => rfl
      | some v => rw [hy.J b o v hc] at hn; cases hn
    let J1 : Imm := fun b o => match y.J b o with | some v => some v | none => J' b o
    have hJ1y : ∀ b o v, y.J b o = some v → J1 b o = some v := fun b o v hv => by simp only [J1, hv]
    have hJ1' : ∀ b o v, J' b o = some v → J1 b o = some v := fun b o v hv => by
      simp only [J1]
      cases hc : y.J b o with
      | none => exact hv
      | some u =>
        have e1 := hmy.holds b o u hc
        have e2 := hJ'.cell b o v hv
        rw [e1] at e2; exact e2
    have hJ1c : ∀ b o v, J1 b o = some v → y.J b o = some v ∨ (y.J b o = none ∧ J' b o = some v) := fun b o v hv => by
      simp only [J1] at hv
      cases hc : y.J b o with
      | none => rw [hc] at hv; exact .inr ⟨rfl, hv⟩
      | some u => rw [hc] at hv; exact .inl hv
    have hJ1low : ∀ b o, (b < y.w0.heap.size ∨ y.oth b) → J1 b o = y.J b o := fun b o hb => by
      simp only [J1]
      cases hc : y.J b o with
      | some u => rfl
      | none => exact hnone b o (.inl (hb.elim (fun h => by omega) (fun h => by have := hoy b h; omega))) hc
    obtain ⟨_, hmJ⟩ := hmy.moreJ J1 hJ1y (fun b o v hv => by
        rcases hJ1c b o v hv with h | h
        · exact hmy.holds b o v h
        · exact hJ'.cell b o v h.2) hJ1low (fun b t cells hmem B sz t' hβ o => by
        obtain ⟨B2, vals2, fr2, g1, _, _, _, _, g6, _, _⟩ := (hmy.live b t cells hmem).out
        rw [hβ] at g1; cases g1
        have := hnone B o (hlv b B _ _ hβ) (g6 o)
        simp only [J1, g6 o, this]) (fun b o v hv => by
        rcases hJ1c b o v hv with h | h
        · exact hmy.one b o v h
        · exact hJ'.one b o v h.2)
    let z1 : Ctx := { J := J1, β := y.β, w0 := Base.round y.w0 y.oth K.gh W R a.tmps hyR, J0 := J1, oth := R }
    have hmI : Models z1 (inner (S pre) L) { tmps := a.tmps, defers := [] } W :=
      hmJ.reframe (B2 := Base.round y.w0 y.oth K.gh W R a.tmps hyR) (oth2 := R) (J2 := J1) (g2 := fun _ _ _ => True) (fro2 := L) (b02 := none) ⟨fun _ _ => rfl, fun n J h => by cases h⟩ hmJ.size (fun _ _ _ => rfl) trivial
        ⟨by have := hmJ.below; rw [(hS pre).gh] at this; exact this, Nat.le_refl _, fun _ => Iff.rfl, fun k hk => ⟨hk.1, rfl⟩⟩ hmJ.holds (fun _ _ _ => rfl)
        (fun b B sz t hβ => ⟨rfl, (hmy.blockOf hβ).2.1, fun hR => hR.2 b sz t hβ⟩)
    have hmR : Models z1 (roundK (S pre) L ps row) { tmps := tmps', defers := [] } W :=
      { hmI with
        fro := ⟨fun i hi => by rw [hfold.2.1 i (fun h => (hps i h).1 hi)]; rfl, fun n J h => by cases h⟩
        size := by rw [hfold.1]; exact hmI.size
        slots := fun i s hs => by
          simp only [roundK] at hs
          split at hs
          · rename_i s' hlk
            cases hs
            obtain ⟨j, d, h1, h2, rfl⟩ := lk_zip _ _ _ _ hlk
            have hj : j < args.size := by rw [hargs.1]; exact (List.getElem?_eq_some_iff.1 h2).1
            refine ⟨args[j], hfold.2.2 j i args[j] h1 (by simp [hj]), .d ((hargs.2 j _ d (Array.getElem?_eq_getElem hj) h2).mono hJ1')⟩
          · obtain ⟨v, e, rr⟩ := hmI.slots i s hs
            have hiL := (hS pre).slots i s hs
            exact ⟨v, by rw [hfold.2.1 i (fun h => (hps i h).1 hiL)]; exact e, rr⟩ }
    refine wpIn_mono (hround _ pre row hpre hiv z1 _ W hmR) ?_
    rintro e a1 w1 ⟨z, K1, xe, hz, hex, hmz, hq⟩
    cases e with
    | normal =>
      cases xe <;> first | exact hex.elim | skip
      obtain ⟨hb0n, hbody⟩ := hq
      have hbz := hmz.below
      rw [hz.w0] at hbz
      obtain ⟨i1, i2, i3, i4⟩ := hbz
      have hl1 : w1.heap[w.heap.size + 1]? = some (.loop (rec .ready none)) := (i4 _ hlR).2.trans hl
      refine ⟨_, run_beginRound hl1 (by rw [hrec]), ?_⟩
      obtain ⟨busy, hbusy⟩ : ∃ lp : Loop, lp = { rec .ready none with state := .busy } := ⟨_, rfl⟩
      rw [← hbusy]
      obtain ⟨w2, hw2⟩ : ∃ w2, w1.putObj (w.heap.size + 1) (.loop busy) = w2 := ⟨_, rfl⟩
      have hlt1 : w.heap.size + 1 < w1.heap.size := (Array.getElem?_eq_some_iff.1 hl1).1
      have hsz2 : w2.heap.size = w1.heap.size := by rw [← hw2]; simp
      have hl2 : w2.heap[w.heap.size + 1]? = some (.loop busy) := by rw [← hw2]; exact World.putObj_heap_same hlt1
      have ho2 : ∀ k : Nat, k ≠ w.heap.size + 1 → w2.heap[k]? = w1.heap[k]? := fun k hk => by rw [← hw2]; exact World.putObj_heap_other hk
      have hcell2 : ∀ b o v, z.J b o = some v → w2.cell? ⟨b, o, none⟩ = some v := fun b o v hv => by rw [← hw2]; exact cell_put hl1 (hmz.holds b o v hv)
      have hzl : ∀ b B sz t, z.β b = .live B sz t → B ≠ w.heap.size + 1 ∧ y.w0.heap.size ≤ B ∧ ¬ R B := fun b B sz t hβ => by
        obtain ⟨g1, g2, g3, vals, T, fr, hc⟩ := hmz.blockOf hβ
        refine ⟨fun e => ?_, by rw [hz.w0] at g2; exact g2, fun hR => g3 ((i3 B).2 hR)⟩
        rw [e, hl1] at hc; cases hc
      have hm2 := hmz.reframe (a2 := a1) (w2 := w2) (B2 := Base.round y.w0 y.oth K.gh w2 R a.tmps hyR) (oth2 := R) (J2 := z.J) (g2 := K1.gh) (fro2 := K1.fro) (b02 := K1.b0)
        ⟨by have := hmz.fro.1; rw [hz.w0] at this; exact this, fun n J h => by rw [hb0n] at h; cases h⟩ hmz.size (fun _ _ _ => rfl)
        (by
          have hmk := hmz.defers
          rw [hz.w0] at hmk
          exact Marks.turn (fun d hd D hDt => by
            have h1 := marks_at hmk d hd D hDt
            exact ⟨ho2 D (fun e => by rw [e, hl1] at h1; cases h1.1), fun hR => h1.2.2 ((i3 D).2 hR)⟩) hmk)
        ⟨y.w0.up _ _ _ _ _ i1 (by rw [← hw2]; exact below_put (by omega)) (fun k hk => ho2 k (by have := hoy k hk; omega)) hcell2, Nat.le_refl _, fun _ => Iff.rfl, fun k hk => ⟨by rw [hsz2]; exact Nat.lt_of_lt_of_le (i4 k hk).1 i2, rfl⟩⟩
        hcell2 (fun _ _ _ => rfl) (fun b B sz t hβ => ⟨ho2 B (hzl b B sz t hβ).1, (hzl b B sz t hβ).2.1, (hzl b B sz t hβ).2.2⟩)
      rw [hw2]
      refine wpIn_mono (hbody _ a1 w2 hm2) ?_
      rintro e3 a3 w3 ⟨z3, K3, xe3, hz3, hex3, hm3, hq3⟩
      -- the round's end
      have fin : ∀ (jump : Option Code) (T : Know), OfK K L T → Sub (inner T L) K3 → ∃ v w4, (Instr.endRound (w.heap.size + 1) jump).run P w3 = .ok v w4 ∧ v = .bool jump.isNone ∧ Keeps W1.heap.size oth W w4 ∧
          (∀ b o v, J' b o = some v → w4.cell? ⟨b, o, none⟩ = some v) ∧ w4.heap.size = w3.heap.size ∧ H (rec (if jump.isNone then .ready else .done) jump) T (fun k => oth k ∨ (W.heap.size ≤ k ∧ k < w4.heap.size)) J' w4 := by
        intro jump T hT hsub
        obtain ⟨z4, hz4, hm4⟩ := hsub z3 a3 w3 hm3
        have hz4w : z4.w0 = Base.round y.w0 y.oth K.gh w2 R a.tmps hyR := hz4.w0.trans hz3.w0
        have hz4J : z4.J0 = z.J := hz4.J0.trans hz3.J0
        have hb4 := hm4.below
        rw [hz4w] at hb4
        obtain ⟨j1, j2, j3, j4⟩ := hb4
        have hl3 : w3.heap[w.heap.size + 1]? = some (.loop busy) := (j4 _ hlR).2.trans hl2
        have hlt3 := (Array.getElem?_eq_some_iff.1 hl3).1
        have hlpe : ({ busy with state := if jump.isNone then .ready else .done, pending := jump } : Loop) = rec (if jump.isNone then .ready else .done) jump := by rw [hbusy, hrec]
        have hend4 := run_endRound (P := P) jump hl3
        rw [hlpe] at hend4
        obtain ⟨w4, hw4⟩ : ∃ w4, w3.putObj (w.heap.size + 1) (.loop (rec (if jump.isNone then .ready else .done) jump)) = w4 := ⟨_, rfl⟩
        rw [hw4] at hend4
        have hs4 : w4.heap.size = w3.heap.size := by rw [← hw4]; simp
        have ho4 : ∀ k : Nat, k ≠ w.heap.size + 1 → w4.heap[k]? = w3.heap[k]? := fun k hk => by rw [← hw4]; exact World.putObj_heap_other hk
        have hR4 : ∀ k : Nat, R k → k ≠ w.heap.size + 1 → w4.heap[k]? = W.heap[k]? := fun k hk hne => (ho4 k hne).trans ((j4 k hk).2.trans ((ho2 k hne).trans (i4 k hk).2))
        have hcell4 : ∀ b o v, z4.J b o = some v → w4.cell? ⟨b, o, none⟩ = some v := fun b o v hv => by rw [← hw4]; exact cell_put hl3 (hm4.holds b o v hv)
        have hJz : ∀ b o v, J1 b o = some v → z4.J b o = some v := fun b o v hv => hz4.J b o v (hz3.J b o v (hz.J b o v hv))
        have hWw4 : W.heap.size ≤ w4.heap.size := by omega
        have hz4l : ∀ b B sz t, z4.β b = .live B sz t → B ≠ w.heap.size + 1 ∧ y.w0.heap.size ≤ B ∧ ¬ R B ∧ B < w3.heap.size := fun b B sz t hβ => by
          obtain ⟨g1, g2, g3, vals, T, fr, hc⟩ := hm4.blockOf hβ
          refine ⟨fun e => ?_, by rw [hz4w] at g2; exact g2, fun hR => g3 ((j3 B).2 hR), g1⟩
          rw [e, hl3] at hc; cases hc
        have hJold : ∀ b o, (b < y.w0.heap.size ∨ R b) → z4.J b o = J1 b o := fun b o hb => by
          have e1 := hm4.old b o (by
            rcases hb with h | h
            · left; rw [hz4w]; exact h
            · right; exact (j3 b).2 h)
          have e2 := hmz.old b o (by
            rcases hb with h | h
            · left; rw [hz.w0]; exact h
            · right; exact (i3 b).2 h)
          rw [e1, hz4J, e2, hz.J0]
        have hnotR : ∀ k, k < W.heap.size → ¬ R k → k < W1.heap.size ∨ oth k := fun k hk hn => by
          by_cases hex : ∃ b sz t, y.β b = .live k sz t
          · obtain ⟨b, sz, t, hβ⟩ := hex; exact hlv b k sz t hβ
          · exact absurd ⟨hk, fun b sz t hβ => hex ⟨b, sz, t, hβ⟩⟩ hn
        refine ⟨_, w4, hend4, rfl, ⟨hWw4, fun k h1 h2 h3 => ?_⟩, fun b o v hv => hcell4 b o v (hJz b o v (hJ1' b o v hv)), hs4, ?_⟩
        · by_cases hR : R k
          · exact hR4 k hR (by omega)
          · rcases hnotR k h2 hR with h | h
            · omega
            · exact absurd h h3
        · refine ⟨{ z4 with w0 := y.w0, oth := y.oth, J0 := y.J0 }, ⟨fun b o v hv => hJz b o v (hJ1y b o v (hy.J b o v hv)), hy.w0, hy.J0⟩, hyo, ?_, by rw [← hw4]; exact World.putObj_heap_same hlt3, (hR4 _ hDR (by omega)).trans hD, fun b B sz t hβ => ?_, fun b o v hv => ?_⟩
          · have hfr : ∀ i ∈ L, a3.tmps[i]? = a.tmps[i]? := fun i hi => by have := hm4.fro.1 i hi; rw [hz4w] at this; exact this
            have := hm4.reframe (a2 := a) (w2 := w4) (B2 := y.w0) (oth2 := y.oth) (J2 := y.J0) (g2 := K.gh) (fro2 := K.fro) (b02 := K.b0)
              ⟨by have := hmy.fro.1; rw [(hS pre).fro] at this; exact this, by have := hmy.fro.2; rw [(hS pre).b0] at this; exact this⟩ (by rw [hm.size]; exact hT.n.symm)
              (fun i s hs => (hfr i (hT.slots i s hs)).symm)
              (Marks.turn (fun d hd D hDt => ⟨hR4 D (hdR d hd D hDt) (by have := hlow d hd D hDt; omega), (marks_at hmy.defers d hd D hDt).2.2⟩) hmy.defers)
              (y.w0.up _ _ _ _ _ j1 (by rw [← hw4]; exact below_put (by omega)) (fun k hk => ho4 k (by have := hoy k hk; omega)) hcell4) hcell4
              (fun b o hb => by rw [hJold b o (hb.imp id (hyR b)), hJ1low b o hb]; exact hmy.old b o hb)
              (fun b B sz t hβ => ⟨ho4 B (hz4l b B sz t hβ).1, (hz4l b B sz t hβ).2.1, fun h => (hz4l b B sz t hβ).2.2.1 (hyR B h)⟩)
            have heT : ({ inner T L with gh := K.gh, fro := K.fro, b0 := K.b0 } : Know) = T := by
              obtain ⟨q1, q2, q3, q4, q5⟩ := hT
              cases T
              simp only [inner] at *
              subst q2; subst q3; subst q4
              rfl
            rw [heT] at this
            exact this
          · obtain ⟨g1, g2, g3, g4⟩ := hz4l b B sz t hβ
            rcases Nat.lt_or_ge B W.heap.size with hlt | hge
            · exact (hnotR B hlt g3).imp id .inl
            · exact .inr (.inr ⟨hge, by omega⟩)
          · rcases Nat.lt_or_ge b W.heap.size with hlt | hge
            · by_cases hR : R b
              · have hv' : z4.J b o = some v := hv
                rw [hJold b o (.inr hR)] at hv'
                rcases hJ1c b o v hv' with h | h
                · exact (hJc b o v h).imp id (Or.imp .inl id)
                · exact .inr (.inr h.2)
              · exact (hnotR b hlt hR).imp id fun h => .inl (.inl h)
            · have := World.block_lt_of_cell? w4 _ (hcell4 b o v hv)
              exact .inr (.inl (.inr ⟨hge, this⟩))
      cases e3 with
      | normal =>
        cases xe3 <;> first | exact hex3.elim | skip
        obtain ⟨v, w4, hrun4, rfl, hk, hc, hs4, hH⟩ := fin none _ (hS _) hq3.2
        refine ⟨_, w4, hrun4, hk, hc, _, fun k h => .inl h, fun k h => ?_, fun k h hn => ?_, .inl ⟨rfl, hq3.1, hH⟩⟩
        · rcases h with h | h
          · exact ⟨(hoth k h).1, Nat.lt_of_lt_of_le (hoth k h).2 hk.1⟩
          · exact ⟨by omega, h.2⟩
        · rcases h with h | h
          · exact absurd h hn
          · exact h.1
      | ret =>
        cases xe3 <;> first | exact hex3.elim | skip
        obtain ⟨T, hT, hsub, hQ⟩ := hq3
        obtain ⟨v, w4, hrun4, rfl, hk, hc, hs4, hH⟩ := fin (some .ret) T hT hsub
        refine ⟨_, w4, hrun4, hk, hc, _, fun k h => .inl h, fun k h => ?_, fun k h hn => ?_, .inr ⟨rfl, .ret, T, hT, hH, .inl ⟨rfl, hQ⟩⟩⟩
        · rcases h with h | h
          · exact ⟨(hoth k h).1, Nat.lt_of_lt_of_le (hoth k h).2 hk.1⟩
          · exact ⟨by omega, h.2⟩
        · rcases h with h | h
          · exact absurd h hn
          · exact h.1
      | exit id =>
        cases xe3 <;> first | exact hex3.elim | skip
        have hid : id = _ := hex3
        subst hid
        obtain ⟨T, hT, hsub, hQ⟩ := hq3
        obtain ⟨v, w4, hrun4, rfl, hk, hc, hs4, hH⟩ := fin (some (.exit id)) T hT hsub
        refine ⟨_, w4, hrun4, hk, hc, _, fun k h => .inl h, fun k h => ?_, fun k h hn => ?_, .inr ⟨rfl, .exit id, T, hT, hH, .inr ⟨id, rfl, hQ⟩⟩⟩
        · rcases h with h | h
          · exact ⟨(hoth k h).1, Nat.lt_of_lt_of_le (hoth k h).2 hk.1⟩
          · exact ⟨by omega, h.2⟩
        · rcases h with h | h
          · exact absurd h hn
          · exact h.1
      | panic ch => cases xe3 <;> first | exact hex3.elim | exact hq3.elim
      | goto t => cases xe3 <;> exact hex3.elim
      | outgrown => cases xe3 <;> exact hex3.elim
    | exit id => cases xe <;> first | exact hex.elim | exact hq.elim
    | ret => cases xe <;> first | exact hex.elim | exact hq.elim
    | panic ch => cases xe <;> first | exact hex.elim | exact hq.elim
    | goto t => cases xe <;> exact hex.elim
    | outgrown => cases xe <;> exact hex.elim
  · refine ⟨hi0, y0, Ctx.ext_refl _, rfl, hm1, hL1, hK1, fun b B sz t hβ => .inl (by have := (hm0.blockOf hβ).1; omega), fun b o v hv => .inl ?_⟩
    have := World.block_lt_of_cell? W1 _ (hm1.holds b o v hv)
    exact this
  · rintro e W2 ⟨⟨v, rfl⟩, oth, J', hfin⟩
    rcases hfin with ⟨hiv, hH⟩ | ⟨c, T, hT, hH, hc⟩
    · obtain ⟨W3, hrun, y, hxy, hmy⟩ := hend _ _ _ _ _ (by rw [hrec]; simp) (hS ys) hH
      refine ⟨_, W3, hrun, ?_⟩
      rw [hrec]
      exact ⟨y, S ys, .normal, hxy, trivial, hmy, hdone hiv⟩
    · obtain ⟨W3, hrun, y, hxy, hmy⟩ := hend _ _ _ _ _ (by rw [hrec]; simp) hT hH
      refine ⟨_, W3, hrun, ?_⟩
      rw [hrec]
      rcases hc with ⟨rfl, hq⟩ | ⟨id, rfl, hq⟩
      · exact wpIn_ret ⟨y, T, .ret, hxy, trivial, hmy, hq⟩
      · exact wpIn_exit ⟨y, T, .exit id, hxy, rfl, hmy, hq⟩

attribute [simp] Know.iter roundK inner

end Go.Bf
