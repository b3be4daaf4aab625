/-
  Views of what is known: renaming, forgetting, freezing; loops; calls that borrow. Nothing is claimed here.
-/
import Derived.Test.YtmejdolknkjjdaaBfV
import Derived.Sort.LoopGhostIn
namespace Go.Bf
open Go Go.RowKit
variable {P : Program} {r : Option Nat}

theorem DWp.sub {c : Code} {Q : XE → Know → Prop} {K K' : Know} (hs : Sub K' K) (h : DWp P r c Q K') : DWp P r c Q K := fun x a w hm => by
  obtain ⟨y, h1, h2⟩ := hs x a w hm
  exact wpIn_mono (h y a w h2) fun _ _ _ => Post.ext h1
theorem OpsWp.sub {ops : Array Oper} {l : List Oper} {Q : XE → Know → Prop} {K K' : Know} (hs : Sub K' K) (h : OpsWp P r ops Q l K') : OpsWp P r ops Q l K := fun x a w hm => by
  obtain ⟨y, h1, h2⟩ := hs x a w hm
  exact opsL_ext h1 _ _ _ (h y a w h2)

/-! ### Names -/
theorem renL_mapd {α : Type} (ρ : Nat → Nat) (f : α → DV) (l : List α) : renL ρ (l.map fun c => .d (f c)) = l.map fun c => .d (f c) := by
  rw [renL_eq, List.map_map]
  exact List.map_congr_left fun c _ => by simp [SV.ren]
theorem renL_append (ρ : Nat → Nat) (a b : List SV) : renL ρ (a ++ b) = renL ρ a ++ renL ρ b := by simp [renL_eq]
theorem renL_replicate (ρ : Nat → Nat) (n : Nat) (s : SV) : renL ρ (List.replicate n s) = List.replicate n (s.ren ρ) := by simp [renL_eq]

/-! ### Freezing -/
mutual
def SV.frz (b : Nat) (ds : List DV) : SV → SV
  | .d x => .d x
  | .loc b' off => if b' = b then .d (.ptr (ds.drop off)) else .loc b' off
  | .own b' wd off len c => if b' = b ∧ off + len * wd ≤ ds.length then .d (.list (if wd = 1 then ((ds.drop off).take len).map fun d => [d] else chunk wd len ((ds.drop off).take (len * wd)))) else .own b' wd off len c
  | .clip xs => .clip xs
  | .agg cs => mkAgg (frzL b ds cs)
  | .clo f cs => match allD (frzL b ds cs) with
    | some es => .d (.fn f es)
    | none => .clo f (frzL b ds cs)
  | .cnd g s => .cnd g (s.frz b ds)
def frzL (b : Nat) (ds : List DV) : List SV → List SV
  | [] => []
  | c :: cs => c.frz b ds :: frzL b ds cs
end
theorem frzL_eq (b : Nat) (ds : List DV) : ∀ cs : List SV, frzL b ds cs = cs.map (SV.frz b ds)
  | [] => by simp [frzL]
  | c :: cs => by simp [frzL, frzL_eq b ds cs]
theorem frzL_mapd {α : Type} (b : Nat) (ds : List DV) (f : α → DV) (l : List α) : frzL b ds (l.map fun c => .d (f c)) = l.map fun c => .d (f c) := by
  rw [frzL_eq, List.map_map]
  exact List.map_congr_left fun c _ => by simp [SV.frz]

structure FrzC (x y : Ctx) (b B : Nat) (ds : List DV) : Prop where
  J : ∀ b o v, x.J b o = some v → y.J b o = some v
  live : ∃ sz t, x.β b = .live B sz t
  β : y.β = Bf.put x.β b .dead
  cells : ∀ (o : Nat) d, ds[o]? = some d → ∃ u, y.J B o = some u ∧ Rep y.J u d

mutual
theorem SRep.frz {x y : Ctx} {b B : Nat} {ds : List DV} (hf : FrzC x y b B ds) : ∀ (s : SV) {v : Value}, SRep x.J x.β v s → SRep y.J y.β v (s.frz b ds)
  | .d z, v, h => by rw [SV.frz]; exact .d ((d_inv h).mono hf.J)
  | .loc b' off, v, h => by
    rw [SV.frz]
    obtain ⟨sz, t, hl⟩ := hf.live
    split
    · rename_i e
      subst e
      obtain rfl := loc_inv h hl
      refine .d (.ptr (fun j => (y.J B (off + j)).getD undef) (fun j hj => ?_) (fun j d hd => ?_))
      · obtain ⟨u, e1, _⟩ := hf.cells (off + j) _ (by rw [← List.getElem?_drop]; exact List.getElem?_eq_getElem hj)
        rw [e1]; rfl
      · rw [List.getElem?_drop] at hd
        obtain ⟨u, e1, e2⟩ := hf.cells _ d hd
        rw [e1]; exact e2
    · rename_i e
      have hb : y.β b' = x.β b' := by rw [hf.β, Bf.put, if_neg e]
      cases h with
      | loc h => exact .loc (hb.trans h)
      | locDead h => exact .locDead (hb.trans h)
  | .own b' wd off len c, v, h => by
    rw [SV.frz]
    obtain ⟨sz, t, hl⟩ := hf.live
    split
    · rename_i e
      obtain ⟨rfl, hle⟩ := e
      obtain ⟨cap, rfl, f1, f2, f3, _⟩ := own_inv h hl
      have hch : (if wd = 1 then ((ds.drop off).take len).map fun d => [d] else chunk wd len ((ds.drop off).take (len * wd))) = chunk wd len ((ds.drop off).take (len * wd)) := by
        split
        · rename_i hw; subst hw; rw [Nat.mul_one, chunk_one len _ (by simp; omega)]
        · rfl
      rw [hch]
      have hlen : ((ds.drop off).take (len * wd)).length = len * wd := by simp; omega
      obtain ⟨c1, c2, c3⟩ := chunk_spec len _ hlen
      have key : ∀ j e, ((ds.drop off).take (len * wd))[j]? = some e → ∃ u, y.J B (off + j) = some u ∧ Rep y.J u e := fun j e he => by
        rw [List.getElem?_take] at he
        split at he
        · rw [List.getElem?_drop] at he; exact hf.cells _ e he
        · cases he
      have := Rep.slice (J := y.J) (b := B) (off := off) (cap := cap) (wd := wd) (xs := chunk wd len ((ds.drop off).take (len * wd))) (fun i j => (y.J B (off + i * wd + j)).getD undef) (by omega) f3 c2
        (fun i j hi hj => by
          have hi' : (chunk wd len ((ds.drop off).take (len * wd)))[i]? = some (chunk wd len ((ds.drop off).take (len * wd)))[i] := List.getElem?_eq_getElem hi
          have hj' : j < ((chunk wd len ((ds.drop off).take (len * wd)))[i]).length := by rw [c2 _ (List.getElem_mem hi)]; exact hj
          obtain ⟨u, e1, _⟩ := key (i * wd + j) _ (c3 i j _ _ hi' (List.getElem?_eq_getElem hj'))
          rw [← Nat.add_assoc] at e1
          rw [e1]; rfl)
        (fun i j q e hq he => by
          obtain ⟨u, e1, e2⟩ := key (i * wd + j) e (c3 i j q e hq he)
          rw [← Nat.add_assoc] at e1
          rw [e1]; exact e2)
      rw [c1] at this
      exact .d this
    · rename_i e
      by_cases hbb : b' = b
      · subst hbb
        exact .ownDead (by rw [hf.β, Bf.put, if_pos rfl])
      · have hb : y.β b' = x.β b' := by rw [hf.β, Bf.put, if_neg hbb]
        cases h with
        | own h h1 h2 h3 h4 => exact .own (hb.trans h) h1 h2 h3 h4
        | ownDead h => exact .ownDead (hb.trans h)
  | .clip xs, v, h => by rw [SV.frz]; cases h with | clip h => exact .clip (h.mono hf.J)
  | .agg cs, v, h => by
    rw [SV.frz]
    cases h with
    | agg hl hh =>
      refine SRep.of_mkAgg (by rw [hl, frzL_eq, List.length_map]) fun i v d hv hd => ?_
      rw [frzL_eq, List.getElem?_map, Option.map_eq_some_iff] at hd
      obtain ⟨d0, h0, rfl⟩ := hd
      exact frzL_rep hf cs i v d0 h0 (hh i v d0 hv h0)
  | .clo f cs, v, h => by
    rw [SV.frz]
    cases h with
    | clo hl hh =>
      have all : ∀ (i : Nat) v d, _ → (frzL b ds cs)[i]? = some d → SRep y.J y.β v d := fun i v d (hv : _[i]? = some v) hd => by
        rw [frzL_eq, List.getElem?_map, Option.map_eq_some_iff] at hd
        obtain ⟨d0, h0, rfl⟩ := hd
        exact frzL_rep hf cs i v d0 h0 (hh i v d0 hv h0)
      split
      · rename_i es hes
        obtain ⟨g1, g2⟩ := allD_get hes
        refine .d (.fn (by rw [hl, g1, frzL_eq, List.length_map]) fun i v d hv hd => d_inv (all i v (.d d) hv (g2 i d hd)))
      · exact .clo (by rw [hl, frzL_eq, List.length_map]) all
  | .cnd g s, v, h => by
    rw [SV.frz]
    cases h with
    | cndT hg h => exact .cndT hg (SRep.frz hf s h)
    | cndF hg => exact .cndF hg
theorem frzL_rep {x y : Ctx} {b B : Nat} {ds : List DV} (hf : FrzC x y b B ds) : ∀ (cs : List SV) (i : Nat) (v : Value) (d : SV), cs[i]? = some d → SRep x.J x.β v d → SRep y.J y.β v (d.frz b ds)
  | [], i, v, d, h, _ => by simp at h
  | c :: cs, 0, v, d, h, hr => by simp at h; subst h; exact SRep.frz hf c hr
  | c :: cs, i + 1, v, d, h, hr => frzL_rep hf cs i v d (by simpa using h) hr
end

def Know.frz (K : Know) (b : Nat) (ds : List DV) : Know :=
  { slots := fun i => (K.slots i).map (SV.frz b ds), mem := fun b' => if b' = b then .dead else match K.mem b' with | .live t cs => .live t (frzL b ds cs) | m => m, n := K.n, nx := K.nx, gh := K.gh, fro := K.fro, b0 := K.b0 }

theorem Sub.freeze {K : Know} (b : Nat) {t : TypeId} {cells : List SV} {ds : List DV} (hmem : K.mem b = .live t cells) (hds : allD cells = some ds) : Sub (K.frz b ds) K := fun x a w hm => by
  obtain ⟨B, vals, fr, h1, ⟨T, h2⟩, h3, h4, h5, h6, h7, h8⟩ := (hm.live b t cells hmem).out
  let y : Ctx := { x with J := fun b' o => if b' = B then vals[o]? else x.J b' o, β := Bf.put x.β b .dead }
  have hJ : ∀ b o v, x.J b o = some v → y.J b o = some v := fun b' o v hv => by
    have : b' ≠ B := fun e => by subst e; rw [h6] at hv; cases hv
    simp only [y, if_neg this]; exact hv
  obtain ⟨g1, g2⟩ := allD_get hds
  have hf : FrzC x y b B ds := ⟨hJ, ⟨_, _, h1⟩, rfl, fun o d hd => by
    obtain ⟨v, e, rr⟩ := h5 o _ (g2 o d hd)
    exact ⟨v, by simp only [y, if_true]; exact e, (d_inv rr).mono hJ⟩⟩
  have hholds : ∀ b o v, y.J b o = some v → w.cell? ⟨b, o, none⟩ = some v := by
    intro b' o v hv
    simp only [y] at hv
    split at hv
    · rename_i e; subst e; simp [World.cell?, h2, hv]
    · exact hm.holds b' o v hv
  refine ⟨y, ⟨hJ, rfl, rfl⟩, ⟨hm.fro, hm.size, hm.defers, x.w0.moreJ _ _ _ _ _ hm.below hJ hholds, hholds, ?_, ?_, ?_, ?_, ?_, ?_, ?_, ?_⟩⟩
  · intro b' o hlt
    have hlt' : b' < x.w0.heap.size ∨ x.oth b' := hlt
    have : b' ≠ B := fun e => by
      subst e
      rcases hlt' with h | h
      · have := h7.1; omega
      · exact h7.2 h
    simp only [y, if_neg this]; exact hm.old b' o hlt'
  · intro i s hs
    simp only [Know.frz, Option.map_eq_some_iff] at hs
    obtain ⟨s0, hs0, rfl⟩ := hs
    obtain ⟨v, e, rr⟩ := hm.slots i s0 hs0
    exact ⟨v, e, SRep.frz hf s0 rr⟩
  · intro b' hb
    simp only [Know.frz] at hb
    split at hb
    · cases hb
    · rename_i e
      simp only [y, Bf.put, if_neg e]
      refine hm.unborn b' ?_
      split at hb <;> simp_all
  · intro b' hb
    simp only [Know.frz] at hb
    split at hb
    · rename_i e; subst e; simp [y, Bf.put]
    · rename_i e
      simp only [y, Bf.put, if_neg e]
      refine hm.dead b' ?_
      split at hb <;> simp_all
  · intro b' t' cells' hb
    simp only [Know.frz] at hb
    split at hb
    · cases hb
    · rename_i e
      split at hb
      · rename_i t0 cs0 hm0
        cases hb
        obtain ⟨B', vals', fr', k1, k2, k3, k4, k5, k6, k7, k8⟩ := (hm.live b' _ cs0 hm0).out
        have hBB : B' ≠ B := fun e2 => by subst e2; exact e (hm.inj b' b _ _ _ _ _ k1 h1)
        refine ⟨B', vals', fr', by simp only [y, Bf.put, if_neg e]; exact k1, k2, k3, by simpa [frzL_eq] using k4, fun o s hs => ?_, fun o => by simp only [y, if_neg hBB]; exact k6 o, k7, k8⟩
        rw [frzL_eq, List.getElem?_map, Option.map_eq_some_iff] at hs
        obtain ⟨s0, hs0, rfl⟩ := hs
        obtain ⟨v, e1, rr⟩ := k5 o s0 hs0
        exact ⟨v, e1, SRep.frz hf s0 rr⟩
      · simp_all
  · intro b1 b2 B1 sz t1 sz' t2 e1 e2
    simp only [y, Bf.put] at e1 e2
    split at e1 <;> split at e2 <;> first | (cases e1; done) | (cases e2; done) | exact hm.inj _ _ _ _ _ _ _ e1 e2
  · intro b' o v hv
    simp only [y] at hv
    split at hv
    · exact h8 v (Array.mem_of_getElem? hv)
    · exact hm.one b' o v hv
  · intro b' hb
    have hne : b' ≠ b := fun e => by subst e; have := hm.fresh b' hb; rw [hmem] at this; cases this
    simp only [Know.frz, if_neg hne, hm.fresh b' hb]

/-- What is handed over may be held immutable. -/
theorem FnWp.frozen {f : FuncId} {ds es : List DV} {s : SV} {t : TypeId} {cells : List SV} {d : DV} (h : FnWp P f ds (· = .fresh s [(t, cells)])) (ha : allD cells = some es) (hd : s.frz 0 es = .d d) : FnWp P f ds (· = .ret d) := fun w J vs hJ hv => by
  refine (h w J vs hJ hv).mono ?_
  rintro e w' ⟨o, J', hb, hJ', hold, hH, he, rfl⟩
  cases e with
  | returned v =>
    obtain ⟨β, h1, h2, h3, h4⟩ := he
    obtain ⟨B, vals, fr, g1, ⟨T, g2⟩, g3, g4, g5, g6, g7, g8⟩ := (h2 0 t cells rfl).out
    simp only at g1 g5 g6 g7
    replace g7 : w.heap.size ≤ B := g7.1
    let x : Ctx := ⟨J', β, Base.plain w, J', fun _ => False⟩
    let y : Ctx := ⟨fun b o => if b = B then vals[o]? else J' b o, Bf.put β 0 .dead, Base.plain w, J', fun _ => False⟩
    have hle : ∀ b o v, J' b o = some v → y.J b o = some v := fun b o v hv => by
      have : b ≠ B := fun e => by subst e; rw [g6] at hv; cases hv
      simp only [y, if_neg this]; exact hv
    obtain ⟨a1, a2⟩ := allD_get ha
    have hf : FrzC x y 0 B es := ⟨hle, ⟨_, _, g1⟩, rfl, fun o d hd => by
      obtain ⟨u, e1, e2⟩ := g5 o _ (a2 o d hd)
      exact ⟨u, by simp only [y, if_true]; exact e1, (d_inv e2).mono hle⟩⟩
    have hr := SRep.frz hf s h1
    rw [hd] at hr
    refine ⟨.ret d, y.J, hb, fun b o v hv => hle b o v (hJ' b o v hv), fun b o hlt => ?_, ⟨fun b o v hv => ?_, fun b o v hv => ?_⟩, d_inv hr, rfl⟩
    · have : b ≠ B := by omega
      simp only [y, if_neg this]; exact hold b o hlt
    · simp only [y] at hv
      split at hv
      · rename_i e; subst e; simp [World.cell?, g2, hv]
      · exact hH.cell b o v hv
    · simp only [y] at hv
      split at hv
      · exact g8 v (Array.mem_of_getElem? hv)
      · exact hH.one b o v hv
  | panicked ch => exact he.elim
  | outgrown => exact he.elim

/-! ### Loops -/
theorem DWp.loop {σ : Type} (S : σ → Know) (Iv : σ → Prop) (μ : σ → Nat) (s0 : σ) {c : Code} {Q : XE → Know → Prop} {K : Know} (hs : Sub (S s0) K) (h0 : Iv s0)
    (hr : ∀ s, Iv s → DWp P r c (thenX (fun K' => ∃ s', Iv s' ∧ μ s' < μ s ∧ Sub (S s') K') Q) (S s)) : DWp P r (.loop c) Q K := fun x a w hm => by
  refine wpIn_loop_ghost (fun n a w => ∃ s y, μ s = n ∧ Iv s ∧ x.ext y ∧ Models y (S s) a w) (μ s0) ?_ ?_
  · obtain ⟨y, h1, h2⟩ := hs x a w hm
    exact ⟨s0, y, rfl, h0, h1, h2⟩
  · rintro n a w ⟨s, y, rfl, hi, hxy, hm⟩
    refine wpIn_mono (hr s hi y a w hm) ?_
    rintro e a' w' ⟨z, K', xe, h1, h2, h3, h4⟩
    cases e with
    | normal =>
      cases xe <;> first | exact h2.elim | skip
      obtain ⟨s', k1, k2, k3⟩ := h4
      obtain ⟨z', k4, k5⟩ := k3 z a' w' h3
      exact ⟨μ s', k2, s', z', rfl, k1, Ctx.ext_trans hxy (Ctx.ext_trans h1 k4), k5⟩
    | exit id => cases xe <;> first | exact h2.elim | exact ⟨z, K', _, Ctx.ext_trans hxy h1, h2, h3, h4⟩
    | goto l => cases xe <;> exact h2.elim
    | ret => cases xe <;> first | exact h2.elim | exact ⟨z, K', _, Ctx.ext_trans hxy h1, h2, h3, h4⟩
    | panic ch => cases xe <;> first | exact h2.elim | exact ⟨z, K', _, Ctx.ext_trans hxy h1, h2, h3, h4⟩
    | outgrown => cases xe <;> exact h2.elim

/-! ### Calls that borrow -/
def DV.flat1 : DV → Bool
  | .int _ _ | .bool _ | .str _ => true
  | _ => false
def DV.flat : DV → Bool
  | .tup ds => ds.all DV.flat1
  | .agg ds => ds.all DV.flat1
  | d => d.flat1

theorem Rep.flat1 {J J' : Imm} {v : Value} {d : DV} (h : Rep J v d) (hf : d.flat1 = true) : Rep J' v d := by
  cases h <;> first | (cases hf; done) | constructor
  all_goals assumption
theorem Rep.flat {J J' : Imm} {v : Value} {d : DV} (h : Rep J v d) (hf : d.flat = true) : Rep J' v d := by
  cases h with
  | tup hl hh =>
    refine .tup hl fun i v d hv hd => (hh i v d hv hd).flat1 ?_
    simp only [DV.flat, List.all_eq_true] at hf
    exact hf d (List.mem_of_getElem? hd)
  | agg hl hh =>
    refine .agg hl fun i v d hv hd => (hh i v d hv hd).flat1 ?_
    simp only [DV.flat, List.all_eq_true] at hf
    exact hf d (List.mem_of_getElem? hd)
  | int h => exact .int h
  | bool => exact .bool
  | str h => exact .str h
  | _ => cases hf

def snapL (mem : Mem) : List SV → Option (List DV)
  | [] => some []
  | s :: ss => match snapD mem 6 s, snapL mem ss with
    | some d, some ds => some (d :: ds)
    | _, _ => none

theorem snapL_rep {x : Ctx} {K : Know} {a : Act} {w : World} (hm : Models x K a w) {J : Imm} (hJ : SnapJ x K w J) : ∀ {ss : List SV} {ds : List DV} {vs : List Value}, snapL K.mem ss = some ds → ArrR x.J x.β vs.toArray ss → RepL J vs.toArray ds := by
  intro ss
  induction ss with
  | nil =>
    intro ds vs h hr
    simp only [snapL, Option.some.injEq] at h
    subst h
    exact ⟨by simpa using hr.1, fun i v d hv hd => by simp at hd⟩
  | cons s ss ih =>
    intro ds vs h hr
    cases vs with
    | nil => obtain ⟨t1, _⟩ := hr; simp at t1
    | cons v vs =>
      simp only [snapL] at h
      split at h
      · rename_i d ds' h1 h2
        cases h
        have htail : ArrR x.J x.β vs.toArray ss := ⟨by obtain ⟨t1, _⟩ := hr; simpa using t1, fun i u q hu hq => hr.2 (i + 1) u q (by simpa using hu) (by simpa using hq)⟩
        obtain ⟨t1, t2⟩ := ih h2 htail
        refine ⟨by simpa using t1, fun i u q hu hq => ?_⟩
        cases i with
        | zero => simp at hu hq; subst hu; subst hq; exact snapD_rep hm hJ 6 s _ _ (hr.2 0 v s (by simp) (by simp)) h1
        | succ i => exact t2 i u q (by simpa using hu) (by simpa using hq)
      · cases h

/-- **A contract serves at a call that lends local memory, where what is handed back holds no memory.** -/
theorem CallS.borrow {f : FuncId} {ss : List SV} {ds : List DV} {K : Know} {Q : Out → Prop} {k : OutS → Know → Prop} (hd : snapL K.mem ss = some ds) (h : FnWp P f ds Q)
    (hk : ∀ o, Q o → match o with | .ret d => d.flat = true ∧ k (.ret (.d d)) K | .clip _ => False | .fresh _ _ => False | .pan d => d.flat = true ∧ k (.pan d) K) : CallS P f ss K k := by
  intro x a w vs hm hr
  obtain ⟨vs⟩ := vs
  let J' : Imm := fun b o => if b < x.w0.heap.size then x.J b o else match w.cell? ⟨b, o, none⟩ with | some v => if v.oneCell' then some v else none | none => none
  have hge : ∀ b o, ¬ b < x.w0.heap.size → ∀ v, J' b o = some v ↔ w.cell? ⟨b, o, none⟩ = some v ∧ v.oneCell' = true := fun b o hb v => by
    simp only [J', if_neg hb]
    cases w.cell? ⟨b, o, none⟩ with
    | none => simp
    | some u => by_cases h1 : u.oneCell' = true <;> simp [h1] <;> (intro e; subst e; simp [h1])
  have hlt : ∀ b o, b < x.w0.heap.size → J' b o = x.J b o := fun b o hb => by simp only [J', if_pos hb]
  have hle : ∀ b o v, x.J b o = some v → J' b o = some v := fun b o v hv => by
    by_cases hb : b < x.w0.heap.size
    · rw [hlt b o hb]; exact hv
    · exact (hge b o hb v).2 ⟨hm.holds b o v hv, hm.one b o v hv⟩
  have hH : Holds J' w := ⟨fun b o v hv => by
    by_cases hb : b < x.w0.heap.size
    · rw [hlt b o hb] at hv; exact hm.holds b o v hv
    · exact ((hge b o hb v).1 hv).1, fun b o v hv => by
    by_cases hb : b < x.w0.heap.size
    · rw [hlt b o hb] at hv; exact hm.one b o v hv
    · exact ((hge b o hb v).1 hv).2⟩
  have hS : SnapJ x K w J' := ⟨hle, fun b t cells hmem B sz t' hβ o v hv => by
    obtain ⟨B2, vals2, fr2, g1, ⟨T, g2⟩, g3, g4, g5, g6, g7, g8⟩ := (hm.live b t cells hmem).out
    rw [hβ] at g1; cases g1
    refine (hge B o (by omega) v).2 ⟨hv, g8 v ?_⟩
    simp only [World.cell?, g2, Option.isSome_none, Bool.false_eq_true, if_false] at hv
    exact Array.mem_of_getElem? hv⟩
  refine (h w J' vs.toArray hH (snapL_rep hm hS hd hr)).mono ?_
  rintro e w' ⟨o, J'', hb, hJ, hold, hH', he, hq⟩
  have hm1 := hm.grow hb
  have := hk o hq
  cases e with
  | returned v =>
    cases o with
    | ret d => exact ⟨x, K, .ret (.d d), Ctx.ext_refl _, hm1, .d (Rep.flat (J' := x.J) he this.1), this.2⟩
    | clip xs => exact this.elim
    | fresh s ml => exact this.elim
    | pan d => exact he.elim
  | panicked ch =>
    cases o with
    | ret d => exact he.elim
    | clip xs => exact he.elim
    | fresh s ml => exact he.elim
    | pan d => obtain ⟨v, rfl, hv⟩ := he; exact ⟨x, K, .pan d, Ctx.ext_refl _, hm1, ⟨v, rfl, hv.flat this.1⟩, this.2⟩
  | outgrown => cases o <;> exact he.elim

/-! ### How a call is met -/
theorem CallAt.det {ops : Array Oper} {Q : XE → Know → Prop} {f : FuncId} {ss : List SV} {ds : List DV} {d : DV} {dst : Option Nat} {rest : List Oper} {K : Know} (im : Bool) (he : Enters P f) (hd : toDs ss = some ds)
    (h : FnWp P f ds (· = .ret d)) (hk : VCops P r im ops Q rest (K.put dst (.d d))) : CallAt P r ops Q f ss dst rest K :=
  ⟨he, CallS.pure hd h fun o ho => by subst ho; exact ⟨id, VCops_sound _ _ hk⟩⟩
theorem CallAt.clip {ops : Array Oper} {Q : XE → Know → Prop} {f : FuncId} {ss : List SV} {ds : List DV} {xs : List (List DV)} {dst : Option Nat} {rest : List Oper} {K : Know} (im : Bool) (he : Enters P f) (hd : toDs ss = some ds)
    (h : FnWp P f ds (· = .clip xs)) (hk : VCops P r im ops Q rest (K.put dst (.clip xs))) : CallAt P r ops Q f ss dst rest K :=
  ⟨he, CallS.pure hd h fun o ho => by subst ho; exact ⟨id, VCops_sound _ _ hk⟩⟩
theorem CallAt.lend {ops : Array Oper} {Q : XE → Know → Prop} {f : FuncId} {ss : List SV} {ds : List DV} {d : DV} {dst : Option Nat} {rest : List Oper} {K : Know} (im : Bool) (he : Enters P f) (hd : snapL K.mem ss = some ds)
    (h : FnWp P f ds (· = .ret d)) (hfl : d.flat = true) (hk : VCops P r im ops Q rest (K.put dst (.d d))) : CallAt P r ops Q f ss dst rest K :=
  ⟨he, CallS.borrow hd h fun o ho => by subst ho; exact ⟨hfl, id, VCops_sound _ _ hk⟩⟩
theorem CallAt.own {ops : Array Oper} {Q : XE → Know → Prop} {f : FuncId} {ss : List SV} {ds : List DV} {s : SV} {ml : List (TypeId × List SV)} {dst : Option Nat} {rest : List Oper} {K : Know} (im : Bool) (he : Enters P f) (hd : toDs ss = some ds)
    (h : FnWp P f ds (· = .fresh s ml)) (hk : VCops P r im ops Q rest ((K.more ml).put dst (s.ren fun j => K.nx + j))) : CallAt P r ops Q f ss dst rest K :=
  ⟨he, CallS.pure hd h fun o ho => by subst ho; exact ⟨id, VCops_sound _ _ hk⟩⟩
/-- Any outcome. -/
theorem CallAt.any {ops : Array Oper} {Q : XE → Know → Prop} {f : FuncId} {ss : List SV} {ds : List DV} {R : DV → Prop} {dst : Option Nat} {rest : List Oper} {K : Know} (im : Bool) (he : Enters P f) (hd : toDs ss = some ds)
    (h : FnWp P f ds fun o => ∃ d, o = .ret d ∧ R d) (hk : ∀ d, R d → VCops P r im ops Q rest (K.put dst (.d d))) : CallAt P r ops Q f ss dst rest K :=
  ⟨he, CallS.pure hd h fun o ho => by obtain ⟨d, rfl, hd⟩ := ho; exact ⟨id, VCops_sound _ _ (hk d hd)⟩⟩

@[simp] theorem Know.of_slots (n : Nat) (sl : List (Nat × SV)) (ml : List (TypeId × List SV)) (g : Ghost) (fr : List Nat) (b0 : Option (Nat × Imm)) : (Know.of n sl ml g fr b0).slots = lk sl := rfl
@[simp] theorem Know.of_mem (n : Nat) (sl : List (Nat × SV)) (ml : List (TypeId × List SV)) (g : Ghost) (fr : List Nat) (b0 : Option (Nat × Imm)) (b : Nat) : (Know.of n sl ml g fr b0).mem b = match ml[b]? with | some (t, cs) => .live t cs | none => .unborn := rfl
@[simp] theorem Know.of_n (n : Nat) (sl : List (Nat × SV)) (ml : List (TypeId × List SV)) (g : Ghost) (fr : List Nat) (b0 : Option (Nat × Imm)) : (Know.of n sl ml g fr b0).n = n := rfl
@[simp] theorem Know.of_nx (n : Nat) (sl : List (Nat × SV)) (ml : List (TypeId × List SV)) (g : Ghost) (fr : List Nat) (b0 : Option (Nat × Imm)) : (Know.of n sl ml g fr b0).nx = ml.length := rfl
@[simp] theorem Know.of_gh (n : Nat) (sl : List (Nat × SV)) (ml : List (TypeId × List SV)) (g : Ghost) (fr : List Nat) (b0 : Option (Nat × Imm)) : (Know.of n sl ml g fr b0).gh = g := rfl
@[simp] theorem Know.of_fro (n : Nat) (sl : List (Nat × SV)) (ml : List (TypeId × List SV)) (g : Ghost) (fr : List Nat) (b0 : Option (Nat × Imm)) : (Know.of n sl ml g fr b0).fro = fr := rfl
@[simp] theorem Know.of_b0 (n : Nat) (sl : List (Nat × SV)) (ml : List (TypeId × List SV)) (g : Ghost) (fr : List Nat) (b0 : Option (Nat × Imm)) : (Know.of n sl ml g fr b0).b0 = b0 := rfl
theorem renL_repl (ρ : Nat → Nat) (n : Nat) (x : DV) : renL ρ (repl n (.d x)) = repl n (.d x) := by rw [renL_eq, repl_eq, List.map_replicate, SV.ren]
theorem frzL_repl (b : Nat) (ds : List DV) (n : Nat) (x : DV) : frzL b ds (repl n (.d x)) = repl n (.d x) := by rw [frzL_eq, repl_eq, List.map_replicate, SV.frz]
theorem allD_repl (n : Nat) (x : DV) : allD (repl n (.d x)) = some (repl n x) := by
  have := allD_mapd (List.replicate n x); rw [List.map_replicate] at this; exact this
attribute [simp] renL_repl frzL_repl allD_repl Know.more SV.ren renL rho lk slotsOk memsOk SV.frz frzL Know.frz DV.flat DV.flat1 snapL renL_mapd renL_append renL_replicate frzL_mapd

end Go.Bf
