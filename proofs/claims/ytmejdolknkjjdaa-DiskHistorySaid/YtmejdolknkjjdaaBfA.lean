/-
  Data that a Go value stands for, and what a frame and a heap are known to hold: over any program, no dump is named. Nothing is claimed here.
-/
import Derived.OrdersIn
import Derived.RangeFuncNested
import Derived.RangeFuncLeaves
import Derived.Laws.AppendOwn
import Derived.Laws.AppendOwnNone
import Derived.Laws.Append
import Derived.OwnWalk
import Derived.Below
import Derived.OwnWalkIn
import Derived.KernelRfl
namespace Go.Bf
open Go Go.RowKit

/-- Cells that never change from here on: block, offset. -/
abbrev Imm := Nat → Nat → Option Value

/-- Immutable data. A slice is a list of rows of cells; a struct or an array a row of cells. -/
inductive DV where
  | int (k : IntKind) (n : Int)
  | bool (b : Bool)
  | str (s : List UInt8)
  | list (xs : List (List DV))
  | agg (ds : List DV)
  | tup (ds : List DV)
  | ptr (ds : List DV)
  | iface (t : TypeId) (d : DV)
  | fn (f : FuncId) (caps : List DV)
  | nilp
  | nilf
  | nili
  | nilm
  | yld (l : Nat)
  deriving Inhabited

/-- The number fits its kind. -/
def InK (k : IntKind) (n : Int) : Prop := k.min ≤ n ∧ n ≤ k.max

/-- The value v is the datum d, by immutable cells. -/
inductive Rep (J : Imm) : Value → DV → Prop
  | int {k n} : InK k n → Rep J (.int k n) (.int k n)
  | bool {b} : Rep J (.bool b) (.bool b)
  | str {s : List UInt8} : s.length ≤ maxLen → Rep J (.string ⟨s.toArray⟩) (.str s)
  | empty {a cap} : cap ≤ maxLen → Rep J (.slice a 0 cap) (.list [])
  | slice {b off cap wd : Nat} {xs : List (List DV)} (vs : Nat → Nat → Value) (hcap : xs.length ≤ cap) (hmax : cap ≤ maxLen) (hw : ∀ r ∈ xs, r.length = wd)
      (hc : ∀ (i j : Nat), i < xs.length → j < wd → J b (off + i * wd + j) = some (vs i j))
      (hr : ∀ (i j : Nat) r d, xs[i]? = some r → r[j]? = some d → Rep J (vs i j) d) : Rep J (.slice (some ⟨b, off, none⟩) xs.length cap) (.list xs)
  | agg {cs : Array Value} {ds : List DV} (hl : cs.size = ds.length) (h : ∀ (i : Nat) v d, cs[i]? = some v → ds[i]? = some d → Rep J v d) : Rep J (.agg cs) (.agg ds)
  | tup {cs : Array Value} {ds : List DV} (hl : cs.size = ds.length) (h : ∀ (i : Nat) v d, cs[i]? = some v → ds[i]? = some d → Rep J v d) : Rep J (.tuple cs) (.tup ds)
  | ptr {b off : Nat} {ds : List DV} (vs : Nat → Value) (hc : ∀ (j : Nat), j < ds.length → J b (off + j) = some (vs j)) (hr : ∀ (j : Nat) d, ds[j]? = some d → Rep J (vs j) d) :
      Rep J (.pointer (some ⟨b, off, none⟩)) (.ptr ds)
  | iface {t v d} : Rep J v d → Rep J (.iface t v) (.iface t d)
  | fn {f} {cs : Array Value} {ds : List DV} (hl : cs.size = ds.length) (h : ∀ (i : Nat) v d, cs[i]? = some v → ds[i]? = some d → Rep J v d) : Rep J (.func (.func f) #[] cs) (.fn f ds)
  | nilp : Rep J (.pointer none) .nilp
  | nilf : Rep J .nilFunc .nilf
  | nili : Rep J .nilIface .nili
  | nilm : Rep J (.map none) .nilm
  | yld {l} : Rep J (.func (.yield l) #[] #[]) (.yld l)

theorem Rep.mono {J J' : Imm} (hJ : ∀ b o v, J b o = some v → J' b o = some v) {v : Value} {d : DV} (h : Rep J v d) : Rep J' v d := by
  induction h with
  | int h => exact .int h
  | bool => exact .bool
  | str h => exact .str h
  | empty h => exact .empty h
  | slice vs h1 h2 h3 hc hr ih => exact .slice vs h1 h2 h3 (fun i j hi hj => hJ _ _ _ (hc i j hi hj)) ih
  | agg hl h ih => exact .agg hl ih
  | tup hl h ih => exact .tup hl ih
  | ptr vs hc hr ih => exact .ptr vs (fun j hj => hJ _ _ _ (hc j hj)) ih
  | iface h ih => exact .iface ih
  | fn hl h ih => exact .fn hl ih
  | nilp => exact .nilp
  | nilf => exact .nilf
  | nili => exact .nili
  | nilm => exact .nilm
  | yld => exact .yld

/-- What becomes of a name of a local block. -/
inductive Nam where
  | unborn
  | dead
  | live (B sz : Nat) (t : TypeId)

/-- What a slot or a local cell may hold: data, or a way into a local block (by the block's name). -/
inductive SV where
  | d (x : DV)
  | loc (b off : Nat)
  | own (b wd off len : Nat) (cap : Option Nat)
  | clip (xs : List (List DV))
  | agg (cs : List SV)
  | clo (f : FuncId) (caps : List SV)
  | cnd (g : Bool) (s : SV)
  deriving Inhabited

inductive SRep (J : Imm) (β : Nat → Nam) : Value → SV → Prop
  | d {v x} : Rep J v x → SRep J β v (.d x)
  | loc {b B sz t off} : β b = .live B sz t → SRep J β (.pointer (some ⟨B, off, none⟩)) (.loc b off)
  | locDead {v b off} : β b = .dead → SRep J β v (.loc b off)
  | own {b B sz t wd off len cap : Nat} {c : Option Nat} : β b = .live B sz t → off + cap * wd ≤ sz → len ≤ cap → cap ≤ maxLen → (∀ x, c = some x → cap = x) →
      SRep J β (.slice (some ⟨B, off, none⟩) len cap) (.own b wd off len c)
  | ownDead {v b wd off len c} : β b = .dead → SRep J β v (.own b wd off len c)
  | clip {a n} {xs : List (List DV)} : Rep J (.slice a n n) (.list xs) → SRep J β (.slice a n n) (.clip xs)
  | agg {cs : Array Value} {ds : List SV} (hl : cs.size = ds.length) (h : ∀ (i : Nat) v d, cs[i]? = some v → ds[i]? = some d → SRep J β v d) : SRep J β (.agg cs) (.agg ds)
  | clo {f} {cs : Array Value} {ds : List SV} (hl : cs.size = ds.length) (h : ∀ (i : Nat) v d, cs[i]? = some v → ds[i]? = some d → SRep J β v d) : SRep J β (.func (.func f) #[] cs) (.clo f ds)
  | cndT {v g s} : g = true → SRep J β v s → SRep J β v (.cnd g s)
  | cndF {g s} : g = false → SRep J β undef (.cnd g s)

/-- A name's fate only moves on. -/
def Nam.le : Nam → Nam → Prop
  | .unborn, _ => True
  | .dead, y => y = .dead
  | .live B sz t, y => y = .live B sz t ∨ y = .dead

theorem Nam.le_refl (x : Nam) : x.le x := by cases x <;> simp [Nam.le]
theorem Nam.le_trans {x y z : Nam} (h : x.le y) (k : y.le z) : x.le z := by
  cases x with
  | unborn => trivial
  | dead => simp only [Nam.le] at h; subst h; exact k
  | live B sz t =>
    rcases h with rfl | rfl
    · exact k
    · exact .inr k

theorem SRep.mono {J J' : Imm} {β β' : Nat → Nam} (hJ : ∀ b o v, J b o = some v → J' b o = some v) (hβ : ∀ b, (β b).le (β' b)) {v : Value} {s : SV}
    (h : SRep J β v s) : SRep J' β' v s := by
  induction h with
  | d h => exact .d (h.mono hJ)
  | @loc b B sz t off h =>
    have := hβ b; rw [h] at this
    rcases this with h' | h'
    · exact .loc h'
    · exact .locDead h'
  | @locDead v b off h => have := hβ b; rw [h] at this; exact .locDead this
  | @own b B sz t wd off len cap c h h1 h2 h3 h4 =>
    have := hβ b; rw [h] at this
    rcases this with h' | h'
    · exact .own h' h1 h2 h3 h4
    · exact .ownDead h'
  | @ownDead v b wd off len c h => have := hβ b; rw [h] at this; exact .ownDead this
  | clip h => exact .clip (h.mono hJ)
  | agg hl h ih => exact .agg hl ih
  | clo hl h ih => exact .clo hl ih
  | cndT hg h ih => exact .cndT hg ih
  | cndF hg => exact .cndF hg

/-- What is known of a local block: its first cells. -/
inductive MB where
  | unborn
  | dead
  | live (t : TypeId) (cells : List SV)
  deriving Inhabited

abbrev Slots := Nat → Option SV
abbrev Mem := Nat → MB

def put {α : Type} (f : Nat → α) (i : Nat) (x : α) : Nat → α := fun j => if j = i then x else f j

theorem put_comm {α : Type} (f : Nat → α) {i j : Nat} (x y : α) (h : i ≠ j) : put (put f i x) j y = put (put f j y) i x := by
  funext k; unfold put; by_cases h1 : k = j <;> by_cases h2 : k = i <;> simp_all

/-- What must hold of the world besides, for an iterator's caller: of the blocks that the caller has laid since, of the cells that are immutable, of the world. -/
abbrev Ghost := (Nat → Prop) → Imm → World → Prop

/-- It abides what an iterator does whose blocks begin at n. -/
structure StOk (n : Nat) (g : Ghost) : Prop where
  up : ∀ oth J W W', g oth J W → Below n W W' → (∀ k : Nat, oth k → W'.heap[k]? = W.heap[k]?) → (∀ b o v, J b o = some v → W'.cell? ⟨b, o, none⟩ = some v) → g oth J W'
  moreJ : ∀ oth J J' W, g oth J W → (∀ b o v, J b o = some v → J' b o = some v) → (∀ b o v, J' b o = some v → W.cell? ⟨b, o, none⟩ = some v) → g oth J' W

/-- What is known at a point of a function's run. n: how many slots the frame has; nx: the next name of a local block; fro: slots that are never written. -/
structure Know where
  slots : Slots
  mem : Mem
  n : Nat
  nx : Nat
  gh : Ghost := fun _ _ _ => True
  fro : List Nat := []
  b0 : Option (Nat × Imm) := none

def Know.put (K : Know) (dst : Option Nat) (s : SV) : Know :=
  match dst with
  | some i => { K with slots := Bf.put K.slots i (some s) }
  | none => K

def Know.setm (K : Know) (b : Nat) (m : MB) : Know := { K with mem := Bf.put K.mem b m }

/-- What was at a function's start: how many blocks; what must hold of the world from then on; the frame's slots that are never written. -/
structure Base where
  heap : Array Obj
  inv : (Nat → Prop) → Imm → Ghost → World → Prop
  fr : Array Value
  up : ∀ oth J g w w', inv oth J g w → Below heap.size w w' → (∀ k : Nat, oth k → w'.heap[k]? = w.heap[k]?) → (∀ b o v, J b o = some v → w'.cell? ⟨b, o, none⟩ = some v) → inv oth J g w'
  size : ∀ oth J g w, inv oth J g w → heap.size ≤ w.heap.size ∧ ∀ k, oth k → k < w.heap.size
  moreJ : ∀ oth J J' g w, inv oth J g w → (∀ b o v, J b o = some v → J' b o = some v) → (∀ b o v, J' b o = some v → w.cell? ⟨b, o, none⟩ = some v) → inv oth J' g w

def Base.plain (w : World) : Base := { heap := w.heap, inv := fun oth _ _ w' => Below w.heap.size w w' ∧ ∀ k, ¬ oth k, fr := #[], up := fun _ _ _ _ _ h k _ _ => ⟨h.1.trans k, h.2⟩, size := fun _ _ _ _ h => ⟨h.1.size, fun k hk => absurd hk (h.2 k)⟩, moreJ := fun _ _ _ _ _ h _ _ => h }

/-- A point of the run, seen from the function's start: what is immutable, which block bears which name, and what there was at the start. -/
structure Ctx where
  J : Imm
  β : Nat → Nam
  w0 : Base
  J0 : Imm
  oth : Nat → Prop := fun _ => False

structure Ctx.le (x y : Ctx) : Prop where
  J : ∀ b o v, x.J b o = some v → y.J b o = some v
  β : ∀ b, (x.β b).le (y.β b)
  w0 : y.w0 = x.w0
  J0 : y.J0 = x.J0
  oth : y.oth = x.oth

theorem Ctx.le_refl (x : Ctx) : x.le x := ⟨fun _ _ _ h => h, fun _ => Nam.le_refl _, rfl, rfl, rfl⟩
theorem Ctx.le_trans {x y z : Ctx} (h : x.le y) (k : y.le z) : x.le z :=
  ⟨fun b o v e => k.J b o v (h.J b o v e), fun b => Nam.le_trans (h.β b) (k.β b), k.w0.trans h.w0, k.J0.trans h.J0, k.oth.trans h.oth⟩

/-- The marks that loops over iterators have left among the deferred calls: each block is as it was laid. -/
def Marks (w : World) (base : Nat) (oth : Nat → Prop) : List Deferred → Prop
  | [] => True
  | d :: ds => (∃ D, d = { target := .collected D, args := #[] } ∧ w.heap[D]? = some (.deferred (some [])) ∧ (base ≤ D ∧ ¬ oth D) ∧ ∀ d' ∈ ds, d'.target ≠ .collected D) ∧ Marks w base oth ds

/-- The cells of a local block. -/
structure Block (x : Ctx) (w : World) (b : Nat) (t : TypeId) (cells : List SV) : Prop where
  out : ∃ (B : Nat) (vals : Array Value) (fr : Nat × Nat), x.β b = .live B vals.size t ∧ (∃ T, w.heap[B]? = some (.cells vals T fr)) ∧ fr = (0, 0) ∧ cells.length ≤ vals.size ∧
    (∀ (o : Nat) s, cells[o]? = some s → ∃ v, vals[o]? = some v ∧ SRep x.J x.β v s) ∧ (∀ o, x.J B o = none) ∧ (x.w0.heap.size ≤ B ∧ ¬ x.oth B) ∧ (∀ v ∈ vals, v.oneCell' = true)

structure Models (x : Ctx) (K : Know) (a : Act) (w : World) : Prop where
  fro : (∀ i ∈ K.fro, a.tmps[i]? = x.w0.fr[i]?) ∧ (∀ n J, K.b0 = some (n, J) → x.w0.heap.size = n ∧ x.J0 = J ∧ ∀ oth J g w, x.w0.inv oth J g w ↔ (g oth J w ∧ n ≤ w.heap.size ∧ (∀ k, oth k → n ≤ k ∧ k < w.heap.size) ∧ StOk n g))
  size : a.tmps.size = K.n
  defers : Marks w x.w0.heap.size x.oth a.defers
  below : x.w0.inv x.oth x.J K.gh w
  holds : ∀ b o v, x.J b o = some v → w.cell? ⟨b, o, none⟩ = some v
  old : ∀ b o, (b < x.w0.heap.size ∨ x.oth b) → x.J b o = x.J0 b o
  slots : ∀ i s, K.slots i = some s → ∃ v, a.tmps[i]? = some v ∧ SRep x.J x.β v s
  unborn : ∀ b, K.mem b = .unborn → x.β b = .unborn
  dead : ∀ b, K.mem b = .dead → x.β b = .dead
  live : ∀ b t cells, K.mem b = .live t cells → Block x w b t cells
  inj : ∀ b b' B sz t sz' t', x.β b = .live B sz t → x.β b' = .live B sz' t' → b = b'
  one : ∀ b o v, x.J b o = some v → v.oneCell' = true
  fresh : ∀ b, K.nx ≤ b → K.mem b = .unborn

theorem Models.w0le {x : Ctx} {K : Know} {a : Act} {w : World} (h : Models x K a w) : x.w0.heap.size ≤ w.heap.size := (x.w0.size _ _ _ _ h.below).1
theorem Models.othlt {x : Ctx} {K : Know} {a : Act} {w : World} (h : Models x K a w) : ∀ k, x.oth k → k < w.heap.size := (x.w0.size _ _ _ _ h.below).2

theorem act_put_size (a : Act) (dst : Option Tmp) (v : Value) : (a.put dst v).tmps.size = a.tmps.size := by
  cases dst <;> simp [Act.put]
theorem act_put_defers (a : Act) (dst : Option Tmp) (v : Value) : (a.put dst v).defers = a.defers := by
  cases dst <;> rfl

/-- A slot is written. -/
theorem Models.put {x : Ctx} {K : Know} {a : Act} {w : World} (h : Models x K a w) {dst : Option Nat} {v : Value} {s : SV} (hd : ∀ i, dst = some i → i < K.n ∧ i ∉ K.fro)
    (hv : SRep x.J x.β v s) : Models x (K.put dst s) (a.put dst v) w := by
  cases dst with
  | none => exact ⟨h.fro, h.size, h.defers, h.below, h.holds, h.old, h.slots, h.unborn, h.dead, h.live, h.inj, h.one, h.fresh⟩
  | some i =>
    have hi := (hd i rfl).1
    refine ⟨⟨fun j hj => ((Array.getElem?_setIfInBounds_ne (i := i) (j := j) (fun e => (hd i rfl).2 (by rw [e]; exact hj))).trans (h.fro.1 j hj)), h.fro.2⟩, by rw [act_put_size]; exact h.size, by rw [act_put_defers]; exact h.defers, h.below, h.holds, h.old, ?_, h.unborn, h.dead, h.live, h.inj, h.one, h.fresh⟩
    intro j s' hs
    simp only [Know.put, Bf.put] at hs
    by_cases e : j = i
    · subst e
      simp only [if_true] at hs
      cases hs
      exact ⟨v, by simp [Act.put, h.size, hi], hv⟩
    · simp only [if_neg e] at hs
      obtain ⟨v', h1, h2⟩ := h.slots j s' hs
      exact ⟨v', by simp [Act.put, Array.getElem?_setIfInBounds_ne (Ne.symm e)]; exact h1, h2⟩

/-- The world moves on by a draw. -/
theorem Marks.mono {w w' : World} {base : Nat} {oth : Nat → Prop} : ∀ {ds : List Deferred}, (∀ D : Nat, base ≤ D → ¬ oth D → w.heap[D]? = some (Obj.deferred (some [])) → w'.heap[D]? = w.heap[D]?) → Marks w base oth ds → Marks w' base oth ds
  | [], _, _ => trivial
  | _ :: _, hk, ⟨⟨D, h1, h2, h3, h4⟩, h⟩ => ⟨⟨D, h1, (hk D h3.1 h3.2 h2).trans h2, h3, h4⟩, h.mono hk⟩

theorem Block.same {x : Ctx} {w w' : World} {b : Nat} {t : TypeId} {cells : List SV} (h : Block x w b t cells) (hk : ∀ B : Nat, B < w.heap.size → w'.heap[B]? = w.heap[B]?) : Block x w' b t cells := by
  obtain ⟨B, vals, fr, h1, ⟨T, h2⟩, h3, h4, h5, h6, h7, h8⟩ := h.out
  exact ⟨B, vals, fr, h1, ⟨T, (hk B (Array.getElem?_eq_some_iff.1 h2).1).trans h2⟩, h3, h4, h5, h6, h7, h8⟩

/-- Nothing that lay has turned: what was known is known. -/
theorem Models.grow {x : Ctx} {K : Know} {a : Act} {w w' : World} (h : Models x K a w) (hb : Below w.heap.size w w') : Models x K a w' where
  fro := h.fro
  size := h.size
  defers := h.defers.mono fun D _ _ hD => hb.block D (Array.getElem?_eq_some_iff.1 hD).1
  below := x.w0.up _ _ _ _ _ h.below (hb.mono h.w0le) (fun k hk => hb.block k (h.othlt k hk)) fun b o v hv => by
    have := h.holds b o v hv
    exact (hb.cell (p := ⟨b, o, none⟩) (World.block_lt_of_cell? w _ this)).trans this
  holds := fun b o v hv => by
    have := h.holds b o v hv
    exact (hb.cell (p := ⟨b, o, none⟩) (World.block_lt_of_cell? w _ this)).trans this
  old := h.old
  slots := h.slots
  unborn := h.unborn
  dead := h.dead
  live := fun b t cells hm => (h.live b t cells hm).same fun B hB => hb.block B hB
  inj := h.inj
  one := h.one
  fresh := h.fresh

/-- More cells are immutable from here on: cells of blocks that are no local ones, and that lay not at the start. -/
theorem Models.moreJ {x : Ctx} {K : Know} {a : Act} {w : World} (h : Models x K a w) (J' : Imm) (h1 : ∀ b o v, x.J b o = some v → J' b o = some v)
    (h2 : ∀ b o v, J' b o = some v → w.cell? ⟨b, o, none⟩ = some v) (h3 : ∀ b o, (b < x.w0.heap.size ∨ x.oth b) → J' b o = x.J b o)
    (h4 : ∀ b t cells, K.mem b = .live t cells → ∀ B sz t', x.β b = .live B sz t' → ∀ o, J' B o = none) (h5 : ∀ b o v, J' b o = some v → v.oneCell' = true) :
    x.le { x with J := J' } ∧ Models { x with J := J' } K a w := by
  have hle : x.le { x with J := J' } := ⟨h1, fun _ => Nam.le_refl _, rfl, rfl, rfl⟩
  refine ⟨hle, h.fro, h.size, h.defers, x.w0.moreJ _ _ _ _ _ h.below h1 h2, h2, fun b o hb => (h3 b o hb).trans (h.old b o hb), ?_, h.unborn, h.dead, ?_, h.inj, h5, h.fresh⟩
  · intro i s hs
    obtain ⟨v, e, r⟩ := h.slots i s hs
    exact ⟨v, e, r.mono hle.J hle.β⟩
  · intro b t cells hm
    obtain ⟨B, vals, fr, g1, g2, g3, g4, g5, g6, g7, g8⟩ := (h.live b t cells hm).out
    exact ⟨B, vals, fr, g1, g2, g3, g4, fun o s hs => let ⟨v, e, r⟩ := g5 o s hs; ⟨v, e, r.mono hle.J hle.β⟩, h4 b t cells hm B _ _ g1, g7, g8⟩

/-- Knowledge may be given up, so long as what is kept names no block that is given up. -/
structure Know.le (K' K : Know) : Prop where
  n : K'.n = K.n
  nx : K.nx ≤ K'.nx
  slots : ∀ i s, K'.slots i = some s → K.slots i = some s
  mem : K'.mem = K.mem
  gh : K'.gh = K.gh
  fro : ∀ i ∈ K'.fro, i ∈ K.fro
  b0 : K'.b0 = K.b0

theorem Models.weaken {x : Ctx} {K K' : Know} {a : Act} {w : World} (h : Models x K a w) (hk : K'.le K) : Models x K' a w :=
  ⟨⟨fun i hi => h.fro.1 i (hk.fro i hi), hk.b0 ▸ h.fro.2⟩, hk.n ▸ h.size, h.defers, hk.gh ▸ h.below, h.holds, h.old, fun i s hs => h.slots i s (hk.slots i s hs), hk.mem ▸ h.unborn, hk.mem ▸ h.dead, hk.mem ▸ h.live, h.inj, h.one, fun b hb => hk.mem ▸ h.fresh b (Nat.le_trans hk.nx hb)⟩

end Go.Bf
