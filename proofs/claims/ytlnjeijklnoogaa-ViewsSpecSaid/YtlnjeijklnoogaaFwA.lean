/-
  How walks over the model are reckoned on data: our own rules, proved sound over any program. Nothing is claimed here.
-/
import Derived.OrdersIn
import Derived.RangeFuncNested
import Derived.RangeFuncLeaves
import Derived.Laws.AppendOwn
import Derived.Laws.AppendOwnNone
import Derived.Laws.Append
import Derived.OwnWalk
import Derived.Below
import Derived.OwnWalkIn
import Derived.KernelRfl
import Derived.Laws.Closers25b
import Derived.Laws.BytesArg
import Derived.Lib.ConvBytes
import Derived.Laws.MakeOwn
import Derived.Laws.CopyOwn
import Derived.MapKept
import Derived.ChangeKeysEq
/-
  Data that a Go value stands for, and what a frame and a heap are known to hold: over any program, no dump is named. Nothing is claimed here.
-/
namespace Go.Bf
open Go Go.RowKit

/-- The parts of a map: how many entries, the clock, and the keys, values and births in turn. -/
def mapCell (es : Array MapEntry) (clock : Nat) (i : Nat) : Option Value :=
  if i = 0 then some (.int .i64 es.size) else if i = 1 then some (.int .i64 clock) else
    (es[(i - 2) / 3]?).map fun e => if (i - 2) % 3 = 0 then e.key else if (i - 2) % 3 = 1 then e.val else .int .i64 e.born
/-- What a block holds: cells at even places, the parts of a map at odd ones. -/
def vc (w : World) (b o : Nat) : Option Value :=
  match w.heap[b]? with
  | some (.cells c _ _) => if o % 2 = 0 then c[o / 2]? else none
  | some (.map es c) => if o % 2 = 1 then mapCell es c (o / 2) else none
  | _ => none
theorem vc_cell (w : World) (b o : Nat) : vc w b (2 * o) = w.cell? ⟨b, o, none⟩ := by
  unfold vc World.cell?
  cases h : w.heap[b]? with
  | none => rfl
  | some x => cases x <;> simp
theorem vc_block {w w' : World} {b : Nat} (h : w'.heap[b]? = w.heap[b]?) (o : Nat) : vc w' b o = vc w b o := by
  unfold vc; rw [h]
theorem vc_lt {w : World} {b o : Nat} {v : Value} (h : vc w b o = some v) : b < w.heap.size := by
  rcases Nat.lt_or_ge b w.heap.size with h' | h'
  · exact h'
  · unfold vc at h; rw [Array.getElem?_eq_none h'] at h; cases h
theorem below_vc {w w' : World} (hb : Below w.heap.size w w') {b o : Nat} {v : Value} (h : vc w b o = some v) : vc w' b o = some v := by
  rw [vc_block (hb.block b (vc_lt h))]; exact h
/-- Cells that never change from here on: block, offset. -/
abbrev Imm := Nat → Nat → Option Value

/-- Immutable data. A slice is a list of rows of cells; a struct or an array a row of cells. -/
inductive DV where
  | int (k : IntKind) (n : Int)
  | bool (b : Bool)
  | str (s : List UInt8)
  | list (xs : List (List DV))
  | agg (ds : List DV)
  | tup (ds : List DV)
  | ptr (ds : List DV)
  | iface (t : TypeId) (d : DV)
  | fn (f : FuncId) (caps : List DV)
  | nilp
  | nilf
  | nili
  | nilm
  | yld (l : Nat)
  | mapd (es : List (DV × DV))
  | box0 (ds : List DV)
  deriving Inhabited

/-- The number fits its kind. -/
def InK (k : IntKind) (n : Int) : Prop := k.min ≤ n ∧ n ≤ k.max

/-- The parts of a map object are held immutable: n entries. -/
structure MapJ (J : Imm) (B n clock : Nat) (ks vs : Nat → Value) (bs : Nat → Nat) : Prop where
  size : J B 1 = some (.int .i64 n)
  clk : J B 3 = some (.int .i64 clock)
  key : ∀ i, i < n → J B (6 * i + 5) = some (ks i)
  val : ∀ i, i < n → J B (6 * i + 7) = some (vs i)
  born : ∀ i, i < n → J B (6 * i + 9) = some (.int .i64 (bs i))
  lt : ∀ i, i < n → bs i < clock
  inj : ∀ i j, i < n → j < n → bs i = bs j → i = j
  kinj : ∀ i j, i < n → j < n → ks i = ks j → i = j

theorem nodup_get {α β : Type} {f : α → β} {l : List α} (h : (l.map f).Nodup) {i j : Nat} {a b : α} (hi : l[i]? = some a) (hj : l[j]? = some b) (e : f a = f b) : i = j := by
  obtain ⟨h1, rfl⟩ := List.getElem?_eq_some_iff.1 hi
  obtain ⟨h2, rfl⟩ := List.getElem?_eq_some_iff.1 hj
  have key := List.pairwise_iff_getElem.1 h
  rcases Nat.lt_trichotomy i j with q | q | q
  · have k := key i j (by simpa using h1) (by simpa using h2) q
    simp only [List.getElem_map] at k; exact absurd e k
  · exact q
  · have k := key j i (by simpa using h2) (by simpa using h1) q
    simp only [List.getElem_map] at k; exact absurd e.symm k
theorem MapJ.mono {J J' : Imm} (hJ : ∀ b o v, J b o = some v → J' b o = some v) {B n clock : Nat} {ks vs : Nat → Value} {bs : Nat → Nat} (h : MapJ J B n clock ks vs bs) : MapJ J' B n clock ks vs bs :=
  ⟨hJ _ _ _ h.size, hJ _ _ _ h.clk, fun i hi => hJ _ _ _ (h.key i hi), fun i hi => hJ _ _ _ (h.val i hi), fun i hi => hJ _ _ _ (h.born i hi), h.lt, h.inj, h.kinj⟩
/-- A place of a map's parts is held by a map object. -/
theorem vc_odd {w : World} {B o : Nat} {v : Value} (h : vc w B (2 * o + 1) = some v) : ∃ ms c, w.heap[B]? = some (.map ms c) ∧ mapCell ms c o = some v := by
  unfold vc at h
  split at h
  · split at h
    · omega
    · cases h
  · rename_i ms c e
    split at h
    · refine ⟨ms, c, e, ?_⟩; rw [show (2 * o + 1) / 2 = o by omega] at h; exact h
    · cases h
  · cases h
theorem vc_map {w : World} {B : Nat} {ms : Array MapEntry} {c : Nat} (h : w.heap[B]? = some (.map ms c)) (o : Nat) : vc w B (2 * o + 1) = mapCell ms c o := by
  unfold vc; rw [h]; simp only []; rw [if_pos (by omega), show (2 * o + 1) / 2 = o by omega]
theorem mapCell_part (ms : Array MapEntry) (c i : Nat) : mapCell ms c (3 * i + 2) = (ms[i]?).map (·.key) ∧ mapCell ms c (3 * i + 3) = (ms[i]?).map (·.val) ∧ mapCell ms c (3 * i + 4) = (ms[i]?).map fun e => .int .i64 e.born := by
  unfold mapCell
  rw [if_neg (by omega), if_neg (by omega), if_neg (by omega), if_neg (by omega), if_neg (by omega), if_neg (by omega), show (3 * i + 2 - 2) / 3 = i by omega, show (3 * i + 3 - 2) / 3 = i by omega, show (3 * i + 4 - 2) / 3 = i by omega,
    show (3 * i + 2 - 2) % 3 = 0 by omega, show (3 * i + 3 - 2) % 3 = 1 by omega, show (3 * i + 4 - 2) % 3 = 2 by omega]
  exact ⟨rfl, rfl, rfl⟩
/-- The map itself. -/
theorem MapJ.world {J : Imm} {w : World} (hw : ∀ b o v, J b o = some v → vc w b o = some v) {B n clock : Nat} {ks vs : Nat → Value} {bs : Nat → Nat} (h : MapJ J B n clock ks vs bs) :
    ∃ ms : Array MapEntry, w.heap[B]? = some (.map ms clock) ∧ ms.size = n ∧ ∀ (i : Nat) m, ms[i]? = some m → m.key = ks i ∧ m.val = vs i ∧ m.born = bs i := by
  obtain ⟨ms, c, e1, e2⟩ := vc_odd (o := 0) (hw _ _ _ h.size)
  have e3 := hw _ _ _ h.clk
  rw [show 3 = 2 * 1 + 1 by rfl, vc_map e1] at e3
  simp only [mapCell, if_true, Option.some.injEq, Value.int.injEq, true_and] at e2
  simp only [mapCell, if_true, Option.some.injEq, Value.int.injEq, true_and, Nat.one_ne_zero, if_false] at e3
  have e2' : ms.size = n := by omega
  have e3' : c = clock := by omega
  subst e3'
  refine ⟨ms, e1, e2', fun i m hm => ?_⟩
  have hi : i < n := by rw [← e2']; exact (Array.getElem?_eq_some_iff.1 hm).1
  obtain ⟨p1, p2, p3⟩ := mapCell_part ms c i
  have q1 := hw _ _ _ (h.key i hi)
  have q2 := hw _ _ _ (h.val i hi)
  have q3 := hw _ _ _ (h.born i hi)
  rw [show 6 * i + 5 = 2 * (3 * i + 2) + 1 by omega, vc_map e1, p1, hm] at q1
  rw [show 6 * i + 7 = 2 * (3 * i + 3) + 1 by omega, vc_map e1, p2, hm] at q2
  rw [show 6 * i + 9 = 2 * (3 * i + 4) + 1 by omega, vc_map e1, p3, hm] at q3
  simp only [Option.map_some, Option.some.injEq, Value.int.injEq, true_and] at q1 q2 q3
  exact ⟨q1, q2, by omega⟩
/-- A map whose parts are held. -/
theorem MapJ.of {J : Imm} {B : Nat} {ms : Array MapEntry} {c : Nat} (h : ∀ i v, mapCell ms c i = some v → J B (2 * i + 1) = some v) (hst : MapKept.Stamped ms c) : MapJ J B ms.size c (fun i => ((ms[i]?).map (·.key)).getD undef) (fun i => ((ms[i]?).map (·.val)).getD undef) (fun i => ((ms[i]?).map (·.born)).getD 0) := by
  have get : ∀ i, i < ms.size → ms[i]? = some ms[i]! := fun i hi => by simp [hi]
  refine ⟨h 0 _ rfl, h 1 _ rfl, fun i hi => ?_, fun i hi => ?_, fun i hi => ?_, fun i hi => ?_, fun i j hi hj e => ?_, fun i j hi hj e => ?_⟩
  · rw [show 6 * i + 5 = 2 * (3 * i + 2) + 1 by omega]; refine h _ _ ?_; rw [(mapCell_part ms c i).1, get i hi]; rfl
  · rw [show 6 * i + 7 = 2 * (3 * i + 3) + 1 by omega]; refine h _ _ ?_; rw [(mapCell_part ms c i).2.1, get i hi]; rfl
  · rw [show 6 * i + 9 = 2 * (3 * i + 4) + 1 by omega]; refine h _ _ ?_; rw [(mapCell_part ms c i).2.2, get i hi]; rfl
  · rw [get i hi]; exact hst.1 _ (Array.mem_toList_iff.2 (Array.mem_of_getElem? (get i hi)))
  · rw [get i hi, get j hj] at e; exact nodup_get (f := fun m : MapEntry => m.born) hst.2.1 (by simpa using get i hi) (by simpa using get j hj) e
  · rw [get i hi, get j hj] at e; exact nodup_get (f := fun m : MapEntry => m.key) hst.2.2 (by simpa using get i hi) (by simpa using get j hj) e

/-- The value v is the datum d, by immutable cells. -/
inductive Rep (J : Imm) : Value → DV → Prop
  | int {k n} : InK k n → Rep J (.int k n) (.int k n)
  | bool {b} : Rep J (.bool b) (.bool b)
  | str {s : List UInt8} : s.length ≤ maxLen → Rep J (.string ⟨s.toArray⟩) (.str s)
  | empty {a cap} : cap ≤ maxLen → Rep J (.slice a 0 cap) (.list [])
  | slice {b off cap wd : Nat} {xs : List (List DV)} (vs : Nat → Nat → Value) (hcap : xs.length ≤ cap) (hmax : cap ≤ maxLen) (hw : ∀ r ∈ xs, r.length = wd)
      (hc : ∀ (i j : Nat), i < xs.length → j < wd → J b (2 * (off + i * wd + j)) = some (vs i j))
      (hr : ∀ (i j : Nat) r d, xs[i]? = some r → r[j]? = some d → Rep J (vs i j) d) : Rep J (.slice (some ⟨b, off, none⟩) xs.length cap) (.list xs)
  | agg {cs : Array Value} {ds : List DV} (hl : cs.size = ds.length) (h : ∀ (i : Nat) v d, cs[i]? = some v → ds[i]? = some d → Rep J v d) : Rep J (.agg cs) (.agg ds)
  | tup {cs : Array Value} {ds : List DV} (hl : cs.size = ds.length) (h : ∀ (i : Nat) v d, cs[i]? = some v → ds[i]? = some d → Rep J v d) : Rep J (.tuple cs) (.tup ds)
  | ptr {b off : Nat} {ds : List DV} (vs : Nat → Value) (hc : ∀ (j : Nat), j < ds.length → J b (2 * (off + j)) = some (vs j)) (hr : ∀ (j : Nat) d, ds[j]? = some d → Rep J (vs j) d) :
      Rep J (.pointer (some ⟨b, off, none⟩)) (.ptr ds)
  | iface {t v d} : Rep J v d → Rep J (.iface t v) (.iface t d)
  | fn {f} {cs : Array Value} {ds : List DV} (hl : cs.size = ds.length) (h : ∀ (i : Nat) v d, cs[i]? = some v → ds[i]? = some d → Rep J v d) : Rep J (.func (.func f) #[] cs) (.fn f ds)
  | nilp : Rep J (.pointer none) .nilp
  | nilf : Rep J .nilFunc .nilf
  | nili : Rep J .nilIface .nili
  | nilm : Rep J (.map none) .nilm
  | yld {l} : Rep J (.func (.yield l) #[] #[]) (.yld l)
  | mapd {B clock : Nat} {es : List (DV × DV)} (ks vs : Nat → Value) (bs : Nat → Nat) (h : MapJ J B es.length clock ks vs bs) (hk : ∀ (i : Nat) q, es[i]? = some q → Rep J (ks i) q.1)
      (hv : ∀ (i : Nat) q, es[i]? = some q → Rep J (vs i) q.2) : Rep J (.map (some B)) (.mapd es)
  | box0 {b : Nat} {ds : List DV} (vs : Nat → Value) (hc : ∀ (j : Nat), j < ds.length → J b (2 * j) = some (vs j)) (hr : ∀ (j : Nat) d, ds[j]? = some d → Rep J (vs j) d) : Rep J (.pointer (some ⟨b, 0, none⟩)) (.box0 ds)

theorem Rep.mono {J J' : Imm} (hJ : ∀ b o v, J b o = some v → J' b o = some v) {v : Value} {d : DV} (h : Rep J v d) : Rep J' v d := by
  induction h with
  | int h => exact .int h
  | bool => exact .bool
  | str h => exact .str h
  | empty h => exact .empty h
  | slice vs h1 h2 h3 hc hr ih => exact .slice vs h1 h2 h3 (fun i j hi hj => hJ _ _ _ (hc i j hi hj)) ih
  | agg hl h ih => exact .agg hl ih
  | tup hl h ih => exact .tup hl ih
  | ptr vs hc hr ih => exact .ptr vs (fun j hj => hJ _ _ _ (hc j hj)) ih
  | iface h ih => exact .iface ih
  | fn hl h ih => exact .fn hl ih
  | nilp => exact .nilp
  | nilf => exact .nilf
  | nili => exact .nili
  | nilm => exact .nilm
  | yld => exact .yld
  | mapd ks vs bs h hk hv ihk ihv => exact .mapd ks vs bs (h.mono hJ) ihk ihv
  | box0 vs hc hr ih => exact .box0 vs (fun j hj => hJ _ _ _ (hc j hj)) ih

/-- What becomes of a name of a local block. -/
inductive Nam where
  | unborn
  | dead
  | live (B sz : Nat) (t : TypeId)

/-- What a slot or a local cell may hold: data, or a way into a local block (by the block's name). -/
inductive SV where
  | d (x : DV)
  | loc (b off : Nat)
  | own (b wd off len : Nat) (cap : Option Nat)
  | clip (xs : List (List DV))
  | agg (cs : List SV)
  | clo (f : FuncId) (caps : List SV)
  | cnd (g : Bool) (s : SV)
  | mp (b : Nat)
  deriving Inhabited

inductive SRep (J : Imm) (β : Nat → Nam) : Value → SV → Prop
  | d {v x} : Rep J v x → SRep J β v (.d x)
  | loc {b B sz t off} : β b = .live B sz t → SRep J β (.pointer (some ⟨B, off, none⟩)) (.loc b off)
  | locDead {v b off} : β b = .dead → SRep J β v (.loc b off)
  | own {b B sz t wd off len cap : Nat} {c : Option Nat} : β b = .live B sz t → off + cap * wd ≤ sz → len ≤ cap → cap ≤ maxLen → (∀ x, c = some x → cap = x) →
      SRep J β (.slice (some ⟨B, off, none⟩) len cap) (.own b wd off len c)
  | ownDead {v b wd off len c} : β b = .dead → SRep J β v (.own b wd off len c)
  | clip {a n} {xs : List (List DV)} : Rep J (.slice a n n) (.list xs) → SRep J β (.slice a n n) (.clip xs)
  | agg {cs : Array Value} {ds : List SV} (hl : cs.size = ds.length) (h : ∀ (i : Nat) v d, cs[i]? = some v → ds[i]? = some d → SRep J β v d) : SRep J β (.agg cs) (.agg ds)
  | clo {f} {cs : Array Value} {ds : List SV} (hl : cs.size = ds.length) (h : ∀ (i : Nat) v d, cs[i]? = some v → ds[i]? = some d → SRep J β v d) : SRep J β (.func (.func f) #[] cs) (.clo f ds)
  | cndT {v g s} : g = true → SRep J β v s → SRep J β v (.cnd g s)
  | cndF {g s} : g = false → SRep J β undef (.cnd g s)
  | mp {b B : Nat} : β b = .live B 0 0 → SRep J β (.map (some B)) (.mp b)
  | mpDead {v b} : β b = .dead → SRep J β v (.mp b)

/-- A name's fate only moves on. -/
def Nam.le : Nam → Nam → Prop
  | .unborn, _ => True
  | .dead, y => y = .dead
  | .live B sz t, y => y = .live B sz t ∨ y = .dead

theorem Nam.le_refl (x : Nam) : x.le x := by cases x <;> simp [Nam.le]
theorem Nam.le_trans {x y z : Nam} (h : x.le y) (k : y.le z) : x.le z := by
  cases x with
  | unborn => trivial
  | dead => simp only [Nam.le] at h; subst h; exact k
  | live B sz t =>
    rcases h with rfl | rfl
    · exact k
    · exact .inr k

theorem SRep.mono {J J' : Imm} {β β' : Nat → Nam} (hJ : ∀ b o v, J b o = some v → J' b o = some v) (hβ : ∀ b, (β b).le (β' b)) {v : Value} {s : SV}
    (h : SRep J β v s) : SRep J' β' v s := by
  induction h with
  | d h => exact .d (h.mono hJ)
  | @loc b B sz t off h =>
    have := hβ b; rw [h] at this
    rcases this with h' | h'
    · exact .loc h'
    · exact .locDead h'
  | @locDead v b off h => have := hβ b; rw [h] at this; exact .locDead this
  | @own b B sz t wd off len cap c h h1 h2 h3 h4 =>
    have := hβ b; rw [h] at this
    rcases this with h' | h'
    · exact .own h' h1 h2 h3 h4
    · exact .ownDead h'
  | @ownDead v b wd off len c h => have := hβ b; rw [h] at this; exact .ownDead this
  | clip h => exact .clip (h.mono hJ)
  | agg hl h ih => exact .agg hl ih
  | clo hl h ih => exact .clo hl ih
  | cndT hg h ih => exact .cndT hg ih
  | cndF hg => exact .cndF hg
  | @mp b B h =>
    have := hβ b; rw [h] at this
    rcases this with h' | h'
    · exact .mp h'
    · exact .mpDead h'
  | @mpDead v b h => have := hβ b; rw [h] at this; exact .mpDead this

/-- An object that is no row of cells: a map; the iterator of a map that is immutable, by what is left. -/
inductive MO where
  | map (es : List (DV × SV))
  | iter (left : List (DV × DV))
  deriving Inhabited

/-- What is known of a local block: its first cells. -/
inductive MB where
  | unborn
  | dead
  | live (t : TypeId) (cells : List SV)
  | mp (o : MO)
  deriving Inhabited

/-- The object is as it is known. -/
def ObjR (J : Imm) (β : Nat → Nam) (obj : Obj) : MO → Prop
  | .map es => ∃ ms clock, obj = .map ms clock ∧ ms.size = es.length ∧ (∀ (i : Nat) m q, ms[i]? = some m → es[i]? = some q → Rep J m.key q.1 ∧ SRep J β m.val q.2) ∧ MapKept.Stamped ms clock
  | .iter left => (left = [] ∧ ∃ c, obj = .mapIter none c #[] c) ∨ ∃ B n clock ks vs bs sn, obj = .mapIter (some B) clock sn clock ∧ MapJ J B n clock ks vs bs ∧
      ((List.range n).filter fun i => !sn.contains (bs i)).length = left.length ∧
      ∀ (j : Nat) i q, ((List.range n).filter fun i => !sn.contains (bs i))[j]? = some i → left[j]? = some q → Rep J (ks i) q.1 ∧ Rep J (vs i) q.2

theorem ObjR.mono' {J J' : Imm} {β β' : Nat → Nam} (hJ : ∀ b o v, J b o = some v → J' b o = some v) {f : SV → SV} (hs : ∀ v s, SRep J β v s → SRep J' β' v (f s)) {obj : Obj} : ∀ {o : MO}, ObjR J β obj o →
    ObjR J' β' obj (match o with | .map es => .map (es.map fun q => (q.1, f q.2)) | .iter l => .iter l)
  | .map es, ⟨ms, c, h1, h2, h3, h4⟩ => ⟨ms, c, h1, by simp [h2], fun i m q e1 e2 => by
      rw [List.getElem?_map, Option.map_eq_some_iff] at e2
      obtain ⟨q0, e3, rfl⟩ := e2
      exact ⟨(h3 i m q0 e1 e3).1.mono hJ, hs _ _ (h3 i m q0 e1 e3).2⟩, h4⟩
  | .iter l, h => by
    rcases h with h | ⟨B, n, c, ks, vs, bs, sn, h1, h2, h3, h4⟩
    · exact .inl h
    · exact .inr ⟨B, n, c, ks, vs, bs, sn, h1, h2.mono hJ, h3, fun j i q e1 e2 => ⟨(h4 j i q e1 e2).1.mono hJ, (h4 j i q e1 e2).2.mono hJ⟩⟩
theorem ObjR.mono {J J' : Imm} {β β' : Nat → Nam} (hJ : ∀ b o v, J b o = some v → J' b o = some v) (hs : ∀ v s, SRep J β v s → SRep J' β' v s) {obj : Obj} {o : MO} (h : ObjR J β obj o) : ObjR J' β' obj o := by
  have := h.mono' hJ (f := id) hs
  cases o <;> simpa using this

/-- An object of this kind. -/
def isMO : Obj → Bool
  | .map .. => true
  | .mapIter .. => true
  | _ => false
theorem ObjR.is {J : Imm} {β : Nat → Nam} {obj : Obj} {o : MO} (h : ObjR J β obj o) : isMO obj = true := by
  cases o with
  | map es => obtain ⟨ms, c, rfl, _⟩ := h; rfl
  | iter l => rcases h with ⟨_, c, rfl⟩ | ⟨B, n, c, ks, vs, bs, sn, rfl, _⟩ <;> rfl

abbrev Slots := Nat → Option SV
abbrev Mem := Nat → MB

def put {α : Type} (f : Nat → α) (i : Nat) (x : α) : Nat → α := fun j => if j = i then x else f j

theorem put_comm {α : Type} (f : Nat → α) {i j : Nat} (x y : α) (h : i ≠ j) : put (put f i x) j y = put (put f j y) i x := by
  funext k; unfold put; by_cases h1 : k = j <;> by_cases h2 : k = i <;> simp_all

/-- What must hold of the world besides, for an iterator's caller: of the blocks that the caller has laid since, of the cells that are immutable, of the world. -/
abbrev Ghost := (Nat → Prop) → Imm → World → Prop

/-- It abides what an iterator does whose blocks begin at n. -/
structure StOk (n : Nat) (g : Ghost) : Prop where
  up : ∀ oth J W W', g oth J W → Below n W W' → (∀ k : Nat, oth k → W'.heap[k]? = W.heap[k]?) → (∀ b o v, J b o = some v → vc W' b o = some v) → g oth J W'
  moreJ : ∀ oth J J' W, g oth J W → (∀ b o v, J b o = some v → J' b o = some v) → (∀ b o v, J' b o = some v → vc W b o = some v) → g oth J' W

/-- What is known at a point of a function's run. n: how many slots the frame has; nx: the next name of a local block; fro: slots that are never written. -/
structure Know where
  slots : Slots
  mem : Mem
  n : Nat
  nx : Nat
  gh : Ghost := fun _ _ _ => True
  fro : List Nat := []
  b0 : Option (Nat × Imm) := none

def Know.put (K : Know) (dst : Option Nat) (s : SV) : Know :=
  match dst with
  | some i => { K with slots := Bf.put K.slots i (some s) }
  | none => K

def Know.setm (K : Know) (b : Nat) (m : MB) : Know := { K with mem := Bf.put K.mem b m }

/-- What was at a function's start: how many blocks; what must hold of the world from then on; the frame's slots that are never written. -/
structure Base where
  heap : Array Obj
  inv : (Nat → Prop) → Imm → Ghost → World → Prop
  fr : Array Value
  up : ∀ oth J g w w', inv oth J g w → Below heap.size w w' → (∀ k : Nat, oth k → w'.heap[k]? = w.heap[k]?) → (∀ b o v, J b o = some v → vc w' b o = some v) → inv oth J g w'
  size : ∀ oth J g w, inv oth J g w → heap.size ≤ w.heap.size ∧ ∀ k, oth k → k < w.heap.size
  moreJ : ∀ oth J J' g w, inv oth J g w → (∀ b o v, J b o = some v → J' b o = some v) → (∀ b o v, J' b o = some v → vc w b o = some v) → inv oth J' g w

def Base.plain (w : World) : Base := { heap := w.heap, inv := fun oth _ _ w' => Below w.heap.size w w' ∧ ∀ k, ¬ oth k, fr := #[], up := fun _ _ _ _ _ h k _ _ => ⟨h.1.trans k, h.2⟩, size := fun _ _ _ _ h => ⟨h.1.size, fun k hk => absurd hk (h.2 k)⟩, moreJ := fun _ _ _ _ _ h _ _ => h }

/-- A point of the run, seen from the function's start: what is immutable, which block bears which name, and what there was at the start. -/
structure Ctx where
  J : Imm
  β : Nat → Nam
  w0 : Base
  J0 : Imm
  oth : Nat → Prop := fun _ => False

structure Ctx.le (x y : Ctx) : Prop where
  J : ∀ b o v, x.J b o = some v → y.J b o = some v
  β : ∀ b, (x.β b).le (y.β b)
  w0 : y.w0 = x.w0
  J0 : y.J0 = x.J0
  oth : y.oth = x.oth

theorem Ctx.le_refl (x : Ctx) : x.le x := ⟨fun _ _ _ h => h, fun _ => Nam.le_refl _, rfl, rfl, rfl⟩
theorem Ctx.le_trans {x y z : Ctx} (h : x.le y) (k : y.le z) : x.le z :=
  ⟨fun b o v e => k.J b o v (h.J b o v e), fun b => Nam.le_trans (h.β b) (k.β b), k.w0.trans h.w0, k.J0.trans h.J0, k.oth.trans h.oth⟩

/-- The marks that loops over iterators have left among the deferred calls: each block is as it was laid. -/
def Marks (w : World) (base : Nat) (oth : Nat → Prop) : List Deferred → Prop
  | [] => True
  | d :: ds => (∃ D, d = { target := .collected D, args := #[] } ∧ w.heap[D]? = some (.deferred (some [])) ∧ (base ≤ D ∧ ¬ oth D) ∧ ∀ d' ∈ ds, d'.target ≠ .collected D) ∧ Marks w base oth ds

/-- The cells of a local block. -/
structure Block (x : Ctx) (w : World) (b : Nat) (t : TypeId) (cells : List SV) : Prop where
  out : ∃ (B : Nat) (vals : Array Value) (fr : Nat × Nat), x.β b = .live B vals.size t ∧ (∃ T, w.heap[B]? = some (.cells vals T fr)) ∧ fr = (0, 0) ∧ cells.length ≤ vals.size ∧
    (∀ (o : Nat) s, cells[o]? = some s → ∃ v, vals[o]? = some v ∧ SRep x.J x.β v s) ∧ (∀ o, x.J B o = none) ∧ (x.w0.heap.size ≤ B ∧ ¬ x.oth B) ∧ (∀ v ∈ vals, v.oneCell' = true)

/-- A local object that is no row of cells. -/
structure MBlock (x : Ctx) (w : World) (b : Nat) (m : MO) : Prop where
  out : ∃ (B : Nat) (obj : Obj), x.β b = .live B 0 0 ∧ w.heap[B]? = some obj ∧ ObjR x.J x.β obj m ∧ (∀ o, x.J B o = none) ∧ (x.w0.heap.size ≤ B ∧ ¬ x.oth B)

theorem MBlock.same {x : Ctx} {w w' : World} {b : Nat} {m : MO} (h : MBlock x w b m) (hk : ∀ B : Nat, B < w.heap.size → w'.heap[B]? = w.heap[B]?) : MBlock x w' b m := by
  obtain ⟨B, ob, h1, h2, h3, h4, h5⟩ := h.out
  exact ⟨B, ob, h1, (hk B (Array.getElem?_eq_some_iff.1 h2).1).trans h2, h3, h4, h5⟩

structure Models (x : Ctx) (K : Know) (a : Act) (w : World) : Prop where
  fro : (∀ i ∈ K.fro, a.tmps[i]? = x.w0.fr[i]?) ∧ (∀ n J, K.b0 = some (n, J) → x.w0.heap.size = n ∧ x.J0 = J ∧ ∀ oth J g w, x.w0.inv oth J g w ↔ (g oth J w ∧ n ≤ w.heap.size ∧ (∀ k, oth k → n ≤ k ∧ k < w.heap.size) ∧ StOk n g))
  size : a.tmps.size = K.n
  defers : Marks w x.w0.heap.size x.oth a.defers
  below : x.w0.inv x.oth x.J K.gh w
  holds : ∀ b o v, x.J b o = some v → vc w b o = some v
  old : ∀ b o, (b < x.w0.heap.size ∨ x.oth b) → x.J b o = x.J0 b o
  slots : ∀ i s, K.slots i = some s → ∃ v, a.tmps[i]? = some v ∧ SRep x.J x.β v s
  unborn : ∀ b, K.mem b = .unborn → x.β b = .unborn
  dead : ∀ b, K.mem b = .dead → x.β b = .dead
  live : ∀ b t cells, K.mem b = .live t cells → Block x w b t cells
  inj : ∀ b b' B sz t sz' t', x.β b = .live B sz t → x.β b' = .live B sz' t' → b = b'
  one : ∀ b o v, x.J b (2 * o) = some v → v.oneCell' = true
  fresh : ∀ b, K.nx ≤ b → K.mem b = .unborn
  maps : ∀ b es, K.mem b = .mp es → MBlock x w b es

theorem Models.cellJ {x : Ctx} {K : Know} {a : Act} {w : World} (h : Models x K a w) {b o : Nat} {v : Value} (hv : x.J b (2 * o) = some v) : w.cell? ⟨b, o, none⟩ = some v := by rw [← vc_cell]; exact h.holds _ _ _ hv
theorem Models.w0le {x : Ctx} {K : Know} {a : Act} {w : World} (h : Models x K a w) : x.w0.heap.size ≤ w.heap.size := (x.w0.size _ _ _ _ h.below).1
theorem Models.othlt {x : Ctx} {K : Know} {a : Act} {w : World} (h : Models x K a w) : ∀ k, x.oth k → k < w.heap.size := (x.w0.size _ _ _ _ h.below).2

theorem act_put_size (a : Act) (dst : Option Tmp) (v : Value) : (a.put dst v).tmps.size = a.tmps.size := by
  cases dst <;> simp [Act.put]
theorem act_put_defers (a : Act) (dst : Option Tmp) (v : Value) : (a.put dst v).defers = a.defers := by
  cases dst <;> rfl

/-- A slot is written. -/
theorem Models.put {x : Ctx} {K : Know} {a : Act} {w : World} (h : Models x K a w) {dst : Option Nat} {v : Value} {s : SV} (hd : ∀ i, dst = some i → i < K.n ∧ i ∉ K.fro)
    (hv : SRep x.J x.β v s) : Models x (K.put dst s) (a.put dst v) w := by
  cases dst with
  | none => exact ⟨h.fro, h.size, h.defers, h.below, h.holds, h.old, h.slots, h.unborn, h.dead, h.live, h.inj, h.one, h.fresh, h.maps⟩
  | some i =>
    have hi := (hd i rfl).1
    refine ⟨⟨fun j hj => ((Array.getElem?_setIfInBounds_ne (i := i) (j := j) (fun e => (hd i rfl).2 (by rw [e]; exact hj))).trans (h.fro.1 j hj)), h.fro.2⟩, by rw [act_put_size]; exact h.size, by rw [act_put_defers]; exact h.defers, h.below, h.holds, h.old, ?_, h.unborn, h.dead, h.live, h.inj, h.one, h.fresh, h.maps⟩
    intro j s' hs
    simp only [Know.put, Bf.put] at hs
    by_cases e : j = i
    · subst e
      simp only [if_true] at hs
      cases hs
      exact ⟨v, by simp [Act.put, h.size, hi], hv⟩
    · simp only [if_neg e] at hs
      obtain ⟨v', h1, h2⟩ := h.slots j s' hs
      exact ⟨v', by simp [Act.put, Array.getElem?_setIfInBounds_ne (Ne.symm e)]; exact h1, h2⟩

/-- The world moves on by a draw. -/
theorem Marks.mono {w w' : World} {base : Nat} {oth : Nat → Prop} : ∀ {ds : List Deferred}, (∀ D : Nat, base ≤ D → ¬ oth D → w.heap[D]? = some (Obj.deferred (some [])) → w'.heap[D]? = w.heap[D]?) → Marks w base oth ds → Marks w' base oth ds
  | [], _, _ => trivial
  | _ :: _, hk, ⟨⟨D, h1, h2, h3, h4⟩, h⟩ => ⟨⟨D, h1, (hk D h3.1 h3.2 h2).trans h2, h3, h4⟩, h.mono hk⟩

theorem Block.same {x : Ctx} {w w' : World} {b : Nat} {t : TypeId} {cells : List SV} (h : Block x w b t cells) (hk : ∀ B : Nat, B < w.heap.size → w'.heap[B]? = w.heap[B]?) : Block x w' b t cells := by
  obtain ⟨B, vals, fr, h1, ⟨T, h2⟩, h3, h4, h5, h6, h7, h8⟩ := h.out
  exact ⟨B, vals, fr, h1, ⟨T, (hk B (Array.getElem?_eq_some_iff.1 h2).1).trans h2⟩, h3, h4, h5, h6, h7, h8⟩

/-- Nothing that lay has turned: what was known is known. -/
theorem Models.grow {x : Ctx} {K : Know} {a : Act} {w w' : World} (h : Models x K a w) (hb : Below w.heap.size w w') : Models x K a w' where
  fro := h.fro
  size := h.size
  defers := h.defers.mono fun D _ _ hD => hb.block D (Array.getElem?_eq_some_iff.1 hD).1
  below := x.w0.up _ _ _ _ _ h.below (hb.mono h.w0le) (fun k hk => hb.block k (h.othlt k hk)) fun b o v hv => by
    have := h.holds b o v hv
    exact below_vc hb this
  holds := fun b o v hv => by
    have := h.holds b o v hv
    exact below_vc hb this
  old := h.old
  slots := h.slots
  unborn := h.unborn
  dead := h.dead
  live := fun b t cells hm => (h.live b t cells hm).same fun B hB => hb.block B hB
  inj := h.inj
  one := h.one
  fresh := h.fresh
  maps := fun b es hm => (h.maps b es hm).same fun B hB => hb.block B hB

/-- More cells are immutable from here on: cells of blocks that are no local ones, and that lay not at the start. -/
theorem Models.moreJ {x : Ctx} {K : Know} {a : Act} {w : World} (h : Models x K a w) (J' : Imm) (h1 : ∀ b o v, x.J b o = some v → J' b o = some v)
    (h2 : ∀ b o v, J' b o = some v → vc w b o = some v) (h3 : ∀ b o, (b < x.w0.heap.size ∨ x.oth b) → J' b o = x.J b o)
    (h4 : ∀ b t cells, K.mem b = .live t cells → ∀ B sz t', x.β b = .live B sz t' → ∀ o, J' B o = none) (h5 : ∀ b o v, J' b (2 * o) = some v → v.oneCell' = true)
    (h6 : ∀ b es, K.mem b = .mp es → ∀ B sz t', x.β b = .live B sz t' → ∀ o, J' B o = none) :
    x.le { x with J := J' } ∧ Models { x with J := J' } K a w := by
  have hle : x.le { x with J := J' } := ⟨h1, fun _ => Nam.le_refl _, rfl, rfl, rfl⟩
  refine ⟨hle, h.fro, h.size, h.defers, x.w0.moreJ _ _ _ _ _ h.below h1 h2, h2, fun b o hb => (h3 b o hb).trans (h.old b o hb), ?_, h.unborn, h.dead, ?_, h.inj, h5, h.fresh, ?_⟩
  · intro i s hs
    obtain ⟨v, e, r⟩ := h.slots i s hs
    exact ⟨v, e, r.mono hle.J hle.β⟩
  · intro b t cells hm
    obtain ⟨B, vals, fr, g1, g2, g3, g4, g5, g6, g7, g8⟩ := (h.live b t cells hm).out
    exact ⟨B, vals, fr, g1, g2, g3, g4, fun o s hs => let ⟨v, e, r⟩ := g5 o s hs; ⟨v, e, r.mono hle.J hle.β⟩, h4 b t cells hm B _ _ g1, g7, g8⟩
  · intro b es hm
    obtain ⟨B, ob, g1, g2, g4, g5, g6⟩ := (h.maps b es hm).out
    exact ⟨B, ob, g1, g2, g4.mono hle.J (fun _ _ e => e.mono hle.J hle.β), h6 b es hm B _ _ g1, g6⟩

/-- Knowledge may be given up, so long as what is kept names no block that is given up. -/
structure Know.le (K' K : Know) : Prop where
  n : K'.n = K.n
  nx : K.nx ≤ K'.nx
  slots : ∀ i s, K'.slots i = some s → K.slots i = some s
  mem : K'.mem = K.mem
  gh : K'.gh = K.gh
  fro : ∀ i ∈ K'.fro, i ∈ K.fro
  b0 : K'.b0 = K.b0

theorem Models.weaken {x : Ctx} {K K' : Know} {a : Act} {w : World} (h : Models x K a w) (hk : K'.le K) : Models x K' a w :=
  ⟨⟨fun i hi => h.fro.1 i (hk.fro i hi), hk.b0 ▸ h.fro.2⟩, hk.n ▸ h.size, h.defers, hk.gh ▸ h.below, h.holds, h.old, fun i s hs => h.slots i s (hk.slots i s hs), hk.mem ▸ h.unborn, hk.mem ▸ h.dead, hk.mem ▸ h.live, h.inj, h.one, fun b hb => hk.mem ▸ h.fresh b (Nat.le_trans hk.nx hb), hk.mem ▸ h.maps⟩

end Go.Bf

/-
  What an operation that only reads yields, reckoned on what is known, and that it does so: over any program. Nothing is claimed here.
-/
namespace Go.Bf
open Go Go.RowKit

/-! ### Types -/
/-- How many cells a variable of a type has: one that is no aggregate, or an aggregate of so many. -/
inductive LK where
  | one
  | agg (n : Nat)
  | bad
  deriving DecidableEq

/-- What is asked of an element's type. -/
structure EK where
  sz : Nat
  bytes : Nat
  u8 : Bool
  zero : Option (List DV)
  lk : LK

inductive TK where
  | bool
  | int (k : IntKind)
  | str
  | one
  | slice (e : EK)
  | struct (fs : List (Nat × LK)) (n : Nat)
  | arr (n : Nat) (e : EK) (sz : Nat)
  | bad

def zeroDV : Value → Option DV
  | .int k n => if n = 0 then some (.int k 0) else none
  | .bool b => some (.bool b)
  | .string s => if s.data = #[] then some (.str []) else none
  | .slice none 0 0 => some (.list [])
  | .pointer none => some .nilp
  | .nilFunc => some .nilf
  | .nilIface => some .nili
  | .map none => some .nilm
  | _ => none

def lkOf (P : Program) (t : TypeId) : LK :=
  match P.underlying t, P.info? t with
  | some (.struct _), some i => if i.size = 0 then .bad else .agg i.size
  | some (.array _ _), some i => if i.size = 0 then .bad else .agg i.size
  | some _, some i => if i.size = 1 then .one else .bad
  | _, _ => .bad

def isU8 (P : Program) (t : TypeId) : Bool := match P.underlying t with | some (.int .u8) => true | _ => false

def ekOf (P : Program) (t : TypeId) : Option EK :=
  match P.info? t with
  | some i => if i.size = 0 then none else
    some { sz := i.size, bytes := i.bytes, u8 := isU8 P t, lk := lkOf P t, zero := match i.zero with | some z => if z.cells.size = i.size then z.cells.toList.mapM zeroDV else none | none => none }
  | none => none

def tzero (P : Program) (t : TypeId) : Option (List DV) := (ekOf P t).bind (·.zero)

def tk (P : Program) (t : TypeId) : TK :=
  match P.underlying t with
  | some .bool => .bool
  | some (.int k) => .int k
  | some .string => .str
  | some (.slice e) => match ekOf P e with | some k => .slice k | none => .bad
  | some (.struct fs) => match P.info? t with | some i => if i.size = 0 then .bad else .struct (fs.toList.map fun f => (f.offset, lkOf P f.type)) i.size | none => .bad
  | some (.array n e) => match ekOf P e, P.info? t with | some k, some i => if i.size = 0 then .bad else .arr n k i.size | _, _ => .bad
  | some _ => .one
  | none => .bad

variable {P : Program}

theorem tk_slice {t : TypeId} {k : EK} (h : tk P t = .slice k) : ∃ e, P.underlying t = some (.slice e) ∧ ekOf P e = some k := by
  unfold tk at h; split at h <;> try (split at h) <;> try (split at h)
  all_goals simp_all
theorem tk_struct {t : TypeId} {fs : List (Nat × LK)} {n : Nat} (h : tk P t = .struct fs n) : ∃ fields i, P.underlying t = some (.struct fields) ∧ P.info? t = some i ∧ i.size = n ∧ n ≠ 0 ∧ fs = fields.toList.map fun f => (f.offset, lkOf P f.type) := by
  unfold tk at h; split at h
  all_goals (try split at h) <;> (try split at h) <;> simp_all
theorem tk_arr {t : TypeId} {k : EK} {n sz : Nat} (h : tk P t = .arr n k sz) : ∃ e i, P.underlying t = some (.array n e) ∧ ekOf P e = some k ∧ P.info? t = some i ∧ i.size = sz ∧ sz ≠ 0 := by
  unfold tk at h; split at h
  all_goals (try split at h) <;> (try split at h) <;> simp_all
theorem tk_int {t : TypeId} {k : IntKind} (h : tk P t = .int k) : P.underlying t = some (.int k) := by
  unfold tk at h; split at h
  all_goals (try split at h) <;> (try split at h) <;> simp_all
theorem tk_str {t : TypeId} (h : tk P t = .str) : P.underlying t = some .string := by
  unfold tk at h; split at h
  all_goals (try split at h) <;> (try split at h) <;> simp_all
theorem tk_bool {t : TypeId} (h : tk P t = .bool) : P.underlying t = some .bool := by
  unfold tk at h; split at h
  all_goals (try split at h) <;> (try split at h) <;> simp_all

theorem run_underlying' {t : TypeId} {d : TypeDesc} (h : P.underlying t = some d) (w : World) : (underlying t).run P w = .ok d w := by
  simp [underlying, h]
theorem run_sizeOf' {t : TypeId} {i : TypeInfo} (h : P.info? t = some i) (w : World) : (sizeOf t).run P w = .ok i.size w := by
  simp [sizeOf, typeInfo, h]

theorem lk_agg {t : TypeId} {n : Nat} (h : lkOf P t = .agg n) (w : World) : (isAgg t).run P w = .ok true w ∧ (sizeOf t).run P w = .ok n w ∧ n ≠ 0 := by
  unfold lkOf at h
  split at h <;> (try split at h) <;> simp_all [isAgg, underlying, sizeOf, typeInfo] <;> (rw [← h]; assumption)
theorem lk_one {t : TypeId} (h : lkOf P t = .one) (w : World) : (isAgg t).run P w = .ok false w ∧ (sizeOf t).run P w = .ok 1 w := by
  unfold lkOf at h
  split at h
  · split at h <;> cases h
  · split at h <;> cases h
  · rename_i d i h1 h2 h3 h4
    split at h
    · rename_i hs
      refine ⟨?_, by rw [run_sizeOf' h4, hs]⟩
      unfold isAgg
      cases d <;> simp_all [underlying]
    · cases h
  · cases h
theorem ek_info {t : TypeId} {k : EK} (h : ekOf P t = some k) : ∃ i, P.info? t = some i ∧ i.size = k.sz ∧ i.bytes = k.bytes ∧ k.sz ≠ 0 ∧ isU8 P t = k.u8 ∧ lkOf P t = k.lk ∧
    (∀ z, k.zero = some z → ∃ v, i.zero = some v ∧ v.cells.size = i.size ∧ v.cells.toList.mapM zeroDV = some z) := by
  unfold ekOf at h
  split at h
  · rename_i i hi
    split at h
    · cases h
    · rename_i hs
      simp only [Option.some.injEq] at h
      subst h
      refine ⟨i, hi, rfl, rfl, hs, rfl, rfl, fun z hz => ?_⟩
      simp only at hz
      split at hz
      · rename_i v hv
        split at hz
        · rename_i h1; exact ⟨v, hv, h1, hz⟩
        · cases hz
      · cases hz
  · cases h

/-! ### Reading operands -/
def cval : Value → Option (Prop × SV)
  | .int k n => some (InK k n, .d (.int k n))
  | .bool b => some (True, .d (.bool b))
  | .string s => some (s.data.size ≤ maxLen, .d (.str s.data.toList))
  | .slice none 0 0 => some (True, .clip [])
  | .pointer none => some (True, .d .nilp)
  | .nilFunc => some (True, .d .nilf)
  | .nilIface => some (True, .d .nili)
  | .map none => some (True, .d .nilm)
  | _ => none

theorem cval_rep {J : Imm} {β : Nat → Nam} {v : Value} {p : Prop} {d : SV} (h : cval v = some (p, d)) (hp : p) : SRep J β v d := by
  unfold cval at h
  split at h <;> simp only [Option.some.injEq, Prod.mk.injEq, reduceCtorEq] at h <;> obtain ⟨rfl, rfl⟩ := h
  · exact .d (.int hp)
  · exact .d .bool
  · rename_i s; exact .d (Rep.str (s := s.data.toList) (by simpa using hp))
  · exact .clip (.empty (by simp [maxLen]))
  · exact .d .nilp
  · exact .d .nilf
  · exact .d .nili
  · exact .d .nilm

/-- An operand under a guard: what must hold besides, and what it is. -/
def rdK (K : Know) (G : Bool) : Operand → Option (Prop × SV)
  | .const v => cval v
  | .func f => some (True, .d (.fn f []))
  | .tmp t => match K.slots t with
    | some (.cnd g s) => some (G = true → g = true, s)
    | some s => some (True, s)
    | none => none
  | .global _ => none

theorem eval_tmp {a : Act} {i : Nat} {v : Value} (h : a.tmps[i]? = some v) : a.eval (.tmp i) = v := by
  simp [Act.eval, Array.getD_eq_getD_getElem?, h]

theorem rdK_rep {x : Ctx} {K : Know} {a : Act} {w : World} (hm : Models x K a w) {G : Bool} {o : Operand} {p : Prop} {s : SV} (h : rdK K G o = some (p, s)) (hp : p) (hG : G = true) :
    SRep x.J x.β (a.eval o) s := by
  cases o with
  | const v => exact cval_rep h hp
  | func f =>
    simp only [rdK, Option.some.injEq, Prod.mk.injEq] at h
    obtain ⟨rfl, rfl⟩ := h
    exact .d (.fn rfl (by simp))
  | global g => simp [rdK] at h
  | tmp t =>
    simp only [rdK] at h
    cases hs : K.slots t with
    | none => simp [hs] at h
    | some s' =>
      obtain ⟨v, h1, h2⟩ := hm.slots t s' hs
      rw [eval_tmp h1]
      rw [hs] at h
      split at h
      · rename_i g s'' e
        cases e
        simp only [Option.some.injEq, Prod.mk.injEq] at h
        obtain ⟨rfl, rfl⟩ := h
        cases h2 with
        | cndT _ h => exact h
        | cndF hg => rw [hp hG] at hg; cases hg
      · rename_i e
        simp only [Option.some.injEq, Prod.mk.injEq] at h e
        obtain ⟨rfl, rfl⟩ := h
        subst e
        exact h2
      · simp at h

/-! ### Aggregates -/
def allD : List SV → Option (List DV)
  | [] => some []
  | .d x :: r => (allD r).map (x :: ·)
  | _ :: _ => none

theorem allD_eq : ∀ {cs : List SV} {ds : List DV}, allD cs = some ds → cs = ds.map .d
  | [], ds, h => by simp [allD] at h; simp [← h]
  | .d x :: r, ds, h => by
    simp only [allD, Option.map_eq_some_iff] at h
    obtain ⟨ds', h1, rfl⟩ := h
    simp [allD_eq h1]
  | .loc .. :: _, _, h => by simp [allD] at h
  | .own .. :: _, _, h => by simp [allD] at h
  | .clip .. :: _, _, h => by simp [allD] at h
  | .agg .. :: _, _, h => by simp [allD] at h
  | .clo .. :: _, _, h => by simp [allD] at h
  | .cnd .. :: _, _, h => by simp [allD] at h

theorem allD_map {α : Type} (f : α → DV) (l : List α) : allD (l.map fun c => .d (f c)) = some (l.map f) := by
  induction l with
  | nil => rfl
  | cons c l ih => simp [allD, ih]

theorem allD_mapd (l : List DV) : allD (l.map .d) = some l := by
  have := allD_map (fun x => x) l
  simpa using this

def mkAgg (cs : List SV) : SV := match allD cs with | some ds => .d (.agg ds) | none => .agg cs

theorem SRep.of_mkAgg {J : Imm} {β : Nat → Nam} {vs : Array Value} {cs : List SV} (hl : vs.size = cs.length) (h : ∀ (i : Nat) v s, vs[i]? = some v → cs[i]? = some s → SRep J β v s) :
    SRep J β (.agg vs) (mkAgg cs) := by
  unfold mkAgg
  split
  · rename_i ds hd
    have e := allD_eq hd
    subst e
    refine .d (.agg (by simpa using hl) fun i v d hv hd' => ?_)
    have := h i v (.d d) hv (by simp [hd'])
    cases this with | d h => exact h
  · exact .agg hl h

/-- The cells of a value. -/
def SV.cells : SV → List SV
  | .d (.agg ds) => ds.map .d
  | .agg cs => cs
  | s => [s]

theorem SRep.cells_spec {J : Imm} {β : Nat → Nam} {v : Value} {s : SV} (h : SRep J β v s) (hn : ∀ g s', s ≠ .cnd g s') (hdead : ∀ b off, s = .loc b off → β b ≠ .dead) (hdead' : ∀ b wd off l c, s = .own b wd off l c → β b ≠ .dead) (hdead2 : ∀ b, s = .mp b → β b ≠ .dead) :
    v.cells.size = s.cells.length ∧ ∀ (i : Nat) u t, v.cells[i]? = some u → s.cells[i]? = some t → SRep J β u t := by
  cases h with
  | d h =>
    cases h with
    | agg hl h =>
      refine ⟨by simpa [Value.cells, SV.cells] using hl, fun i u t hu ht => ?_⟩
      simp only [SV.cells, List.getElem?_map, Option.map_eq_some_iff] at ht
      obtain ⟨d, hd, rfl⟩ := ht
      exact .d (h i u d hu hd)
    | int h => exact ⟨rfl, fun i u t hu ht => by cases i <;> simp [Value.cells, SV.cells] at hu ht; subst hu ht; exact .d (.int h)⟩
    | bool => exact ⟨rfl, fun i u t hu ht => by cases i <;> simp [Value.cells, SV.cells] at hu ht; subst hu ht; exact .d .bool⟩
    | str h => exact ⟨rfl, fun i u t hu ht => by cases i <;> simp [Value.cells, SV.cells] at hu ht; subst hu ht; exact .d (.str h)⟩
    | empty h => exact ⟨rfl, fun i u t hu ht => by cases i <;> simp [Value.cells, SV.cells] at hu ht; subst hu ht; exact .d (.empty h)⟩
    | slice vs h1 h2 h3 h4 h5 => exact ⟨rfl, fun i u t hu ht => by cases i <;> simp [Value.cells, SV.cells] at hu ht; subst hu ht; exact .d (.slice vs h1 h2 h3 h4 h5)⟩
    | tup h1 h2 => exact ⟨rfl, fun i u t hu ht => by cases i <;> simp [Value.cells, SV.cells] at hu ht; subst hu ht; exact .d (.tup h1 h2)⟩
    | ptr vs h1 h2 => exact ⟨rfl, fun i u t hu ht => by cases i <;> simp [Value.cells, SV.cells] at hu ht; subst hu ht; exact .d (.ptr vs h1 h2)⟩
    | iface h1 => exact ⟨rfl, fun i u t hu ht => by cases i <;> simp [Value.cells, SV.cells] at hu ht; subst hu ht; exact .d (.iface h1)⟩
    | fn h1 h2 => exact ⟨rfl, fun i u t hu ht => by cases i <;> simp [Value.cells, SV.cells] at hu ht; subst hu ht; exact .d (.fn h1 h2)⟩
    | nilp => exact ⟨rfl, fun i u t hu ht => by cases i <;> simp [Value.cells, SV.cells] at hu ht; subst hu ht; exact .d .nilp⟩
    | nilf => exact ⟨rfl, fun i u t hu ht => by cases i <;> simp [Value.cells, SV.cells] at hu ht; subst hu ht; exact .d .nilf⟩
    | nili => exact ⟨rfl, fun i u t hu ht => by cases i <;> simp [Value.cells, SV.cells] at hu ht; subst hu ht; exact .d .nili⟩
    | nilm => exact ⟨rfl, fun i u t hu ht => by cases i <;> simp [Value.cells, SV.cells] at hu ht; subst hu ht; exact .d .nilm⟩
    | mapd ks vs bs h hk hv => exact ⟨rfl, fun i u t hu ht => by cases i <;> simp [Value.cells, SV.cells] at hu ht; subst hu ht; exact .d (.mapd ks vs bs h hk hv)⟩
    | box0 vs h1 h2 => exact ⟨rfl, fun i u t hu ht => by cases i <;> simp [Value.cells, SV.cells] at hu ht; subst hu ht; exact .d (.box0 vs h1 h2)⟩
    | yld => exact ⟨rfl, fun i u t hu ht => by cases i <;> simp [Value.cells, SV.cells] at hu ht; subst hu ht; exact .d .yld⟩
  | loc h => exact ⟨rfl, fun i u t hu ht => by cases i <;> simp [Value.cells, SV.cells] at hu ht; subst hu ht; exact .loc h⟩
  | locDead h => exact absurd h (hdead _ _ rfl)
  | own h h1 h2 h3 h4 => exact ⟨rfl, fun i u t hu ht => by cases i <;> simp [Value.cells, SV.cells] at hu ht; subst hu ht; exact .own h h1 h2 h3 h4⟩
  | ownDead h => exact absurd h (hdead' _ _ _ _ _ rfl)
  | mp h => exact ⟨rfl, fun i u t hu ht => by cases i <;> simp [Value.cells, SV.cells] at hu ht; subst hu ht; exact .mp h⟩
  | mpDead h => exact absurd h (hdead2 _ rfl)
  | clip h => exact ⟨rfl, fun i u t hu ht => by cases i <;> simp [Value.cells, SV.cells] at hu ht; subst hu ht; exact .clip h⟩
  | agg hl h => exact ⟨hl, h⟩
  | clo hl h => exact ⟨rfl, fun i u t hu ht => by cases i <;> simp [Value.cells, SV.cells] at hu ht; subst hu ht; exact .clo hl h⟩
  | cndT _ h => exact absurd rfl (hn _ _)
  | cndF _ => exact absurd rfl (hn _ _)

end Go.Bf

/-
  The operations that only read: what each yields, and that it does so. Nothing is claimed here.
-/
namespace Go.Bf
open Go Go.RowKit
variable {P : Program}

abbrev R := Option (Prop × SV)

/-- So many of the same: never written out. -/
def repl {α : Type} (n : Nat) (x : α) : List α := List.replicate n x
theorem repl_eq {α : Type} (n : Nat) (x : α) : repl n x = List.replicate n x := rfl
@[simp] theorem repl_length {α : Type} (n : Nat) (x : α) : (repl n x).length = n := List.length_replicate

/-- The rows of a slice that is known, and the bound of its capacity where that is known. -/
def chunk (wd : Nat) : Nat → List DV → List (List DV)
  | 0, _ => []
  | n + 1, ds => ds.take wd :: chunk wd n (ds.drop wd)

theorem chunk_one (n : Nat) (ds : List DV) (h : n = ds.length) : chunk 1 n ds = ds.map fun d => [d] := by
  induction n generalizing ds with
  | zero => cases ds <;> simp_all [chunk]
  | succ n ih =>
    cases ds with
    | nil => simp at h
    | cons d ds => simp [chunk, ih ds (by simpa using h)]

/-- The cells of an own slice. -/
def ownCells (mem : Mem) (b wd off len : Nat) : Option (List SV) :=
  match mem b with
  | .live _ cells => some ((cells.drop off).take (len * wd))
  | _ => none

def lenF (mem : Mem) : SV → Option Nat
  | .d (.list xs) => some xs.length
  | .clip xs => some xs.length
  | .own b _ _ len _ => match mem b with
    | .live _ _ => some len
    | _ => none
  | _ => none

def lenS : SV → Option Nat
  | .d (.str s) => some s.length
  | _ => none

def rdO (rd : Operand → Option SV) : Option Operand → Option (Option SV)
  | none => some none
  | some u => (rd u).map some

def intOf' : SV → Option (IntKind × Int)
  | .d (.int k n) => some (k, n)
  | _ => none

/-- What stands for a value where there is none. -/
def dflt : TK → DV
  | .bool => .bool false
  | .int k => .int k 0
  | .str => .str []
  | .slice _ => .list []
  | _ => .nilp
/-- One cell of a row; one cell of a local block. -/
def loadRow (k : TK) : List DV → R
  | d :: _ => some (True, .d d)
  | [] => some (False, .d (dflt k))
def loadCell (k : TK) : Option SV → R
  | some c => some (True, c)
  | none => some (False, .d (dflt k))
@[simp] theorem loadRow_cons (k : TK) (d : DV) (ds : List DV) : loadRow k (d :: ds) = some (True, .d d) := rfl
@[simp] theorem loadRow_nil (k : TK) : loadRow k [] = some (False, .d (dflt k)) := rfl
@[simp] theorem loadCell_some (k : TK) (c : SV) : loadCell k (some c) = some (True, c) := rfl
@[simp] theorem loadCell_none (k : TK) : loadCell k none = some (False, .d (dflt k)) := rfl
def loadF (P : Program) (mem : Mem) (t : TypeId) : SV → R
  | .loc b off =>
    match mem b with
    | .live _ cells =>
      match lkOf P t with
      | .agg n => some (off + n ≤ cells.length, mkAgg ((cells.drop off).take n))
      | .one => loadCell (tk P t) cells[off]?
      | .bad => none
    | _ => none
  | .d (.ptr ds) =>
    match lkOf P t with
    | .agg n => some (n ≤ ds.length, .d (.agg (ds.take n)))
    | .one => loadRow (tk P t) ds
    | .bad => none
  | _ => none

def fieldAddrF (P : Program) (mem : Mem) (t : TypeId) (f : Nat) (s : SV) : R :=
  match tk P t with
  | .struct fs _ =>
    match fs[f]? with
    | some (_, .bad) => none
    | some (o, _) =>
      match s with
      | .loc b off => match mem b with
        | .live _ _ => some (True, .loc b (off + o))
        | _ => none
      | .d (.ptr ds) => some (o ≤ ds.length, .d (.ptr (ds.drop o)))
      | _ => none
    | none => none
  | _ => none

def fieldF (P : Program) (t : TypeId) (f : Nat) (s : SV) : R :=
  match tk P t with
  | .struct fs _ =>
    match fs[f]? with
    | some (o, .agg n) =>
      match s with
      | .d (.agg ds) => some (True, .d (.agg ((ds.drop o).take n)))
      | .agg ds => some (True, mkAgg ((ds.drop o).take n))
      | _ => none
    | some (o, .one) =>
      match s with
      | .d (.agg ds) => match ds[o]? with
          | some d => some (True, .d d)
          | none => none
      | .agg ds => match ds[o]? with
          | some d => some (True, d)
          | none => none
      | _ => none
    | _ => none
  | _ => none

def indexAddrF (P : Program) (mem : Mem) (t : TypeId) (s i : SV) : R :=
  match intOf' i with
  | some (_, i) =>
    match tk P t with
    | .slice e =>
      match s with
      | .d (.list xs) => some (0 ≤ i ∧ i < xs.length ∧ (xs.getD i.toNat []).length = e.sz, .d (.ptr (xs.getD i.toNat [])))
      | .clip xs => some (0 ≤ i ∧ i < xs.length ∧ (xs.getD i.toNat []).length = e.sz, .d (.ptr (xs.getD i.toNat [])))
      | .own b wd off len _ => match mem b with
        | .live _ _ => some (0 ≤ i ∧ i < (len : Int) ∧ wd = e.sz, .loc b (off + i.toNat * wd))
        | _ => none
      | _ => none
    | .arr n e _ =>
      match s with
      | .loc b off => match mem b with
        | .live _ _ => some (0 ≤ i ∧ i < (n : Int), .loc b (off + i.toNat * e.sz))
        | _ => none
      | .d (.ptr ds) => some (0 ≤ i ∧ i < (n : Int) ∧ i.toNat * e.sz ≤ ds.length, .d (.ptr (ds.drop (i.toNat * e.sz))))
      | _ => none
    | _ => none
  | none => none

def indexF (P : Program) (t : TypeId) (s i : SV) : R :=
  match intOf' i with
  | some (_, i) =>
    match tk P t, s with
    | .str, .d (.str l) => some (0 ≤ i ∧ i < l.length, .d (.int .u8 (l.getD i.toNat 0).toNat))
    | .arr n e _, .d (.agg ds) =>
      match e.lk with
      | .one => some (0 ≤ i ∧ i < (n : Int) ∧ n ≤ ds.length, .d (ds.getD i.toNat .nilp))
      | _ => none
    | _, _ => none
  | none => none

/-- A slice of rows whose width is known holds rows of that width. -/
def Wide (wd : Nat) (xs : List (List DV)) : Prop := ∀ r ∈ xs, r.length = wd

def boundF (lo : Option SV) (dflt : Int) : Option Int :=
  match lo with
  | none => some dflt
  | some s => (intOf' s).map (·.2)

def sliceListF (P : Program) (t : TypeId) (xs : List (List DV)) (lo hi mx : Option SV) : R :=
  match tk P t, boundF lo 0, boundF hi xs.length with
  | .slice e, some a, some b =>
    match mx with
    | none => some (0 ≤ a ∧ a ≤ b ∧ b ≤ xs.length ∧ Wide e.sz xs, .d (.list ((xs.take b.toNat).drop a.toNat)))
    | some m =>
      match intOf' m, hi with
      | some (_, m), some _ => some (0 ≤ a ∧ a ≤ b ∧ b = m ∧ m ≤ xs.length ∧ Wide e.sz xs, .clip ((xs.take b.toNat).drop a.toNat))
      | _, _ => none
  | _, _, _ => none

/-- A slice expression. -/
def sliceF (P : Program) (mem : Mem) (t : TypeId) (s : SV) (lo hi mx : Option SV) : R :=
  match s with
  | .d (.str l) =>
    match tk P t, mx, boundF lo 0, boundF hi l.length with
    | .str, none, some a, some b => some (0 ≤ a ∧ a ≤ b ∧ b ≤ l.length, .d (.str ((l.take b.toNat).drop a.toNat)))
    | _, _, _, _ => none
  | .d (.list xs) => sliceListF P t xs lo hi mx
  | .clip xs => sliceListF P t xs lo hi mx
  | .own b wd off len _ =>
    match tk P t, mem b, boundF lo 0, boundF hi len, mx with
    | .slice e, .live _ _, some l, some h, none => some (0 ≤ l ∧ l ≤ h ∧ h ≤ (len : Int) ∧ (l = 0 ∨ l < (len : Int)) ∧ wd = e.sz, .own b wd (off + l.toNat * wd) (h.toNat - l.toNat) none)
    | _, _, _, _, _ => none
  | .loc b off =>
    match tk P t, mem b, boundF lo 0, mx with
    | .arr n e _, .live _ cells, some l, none =>
      match boundF hi n with
      | some h => some (0 ≤ l ∧ l ≤ h ∧ h ≤ (n : Int) ∧ (l = 0 ∨ l < (n : Int)) ∧ n ≤ maxLen ∧ off + n * e.sz ≤ cells.length, .own b e.sz (off + l.toNat * e.sz) (h.toNat - l.toNat) none)
      | none => none
    | _, _, _, _ => none
  | _ => none

def bitF (op : BinOp) (k : IntKind) (x y : Int) : Int :=
  let a := BitVec.ofInt k.bits x
  let b := BitVec.ofInt k.bits y
  match op with
  | .and => k.wrap (a &&& b).toNat
  | .or => k.wrap (a ||| b).toNat
  | .xor => k.wrap (a ^^^ b).toNat
  | _ => k.wrap (a &&& ~~~b).toNat

def binInt (op : BinOp) (k : IntKind) (a b : Int) : R :=
  match op with
  | .add => some (True, .d (.int k (k.wrap (a + b))))
  | .sub => some (True, .d (.int k (k.wrap (a - b))))
  | .mul => some (True, .d (.int k (k.wrap (a * b))))
  | .quo => some (b ≠ 0, .d (.int k (k.wrap (a.tdiv b))))
  | .rem => some (b ≠ 0, .d (.int k (a.tmod b)))
  | .and => some (True, .d (.int k (bitF .and k a b)))
  | .or => some (True, .d (.int k (bitF .or k a b)))
  | .xor => some (True, .d (.int k (bitF .xor k a b)))
  | .andNot => some (True, .d (.int k (bitF .andNot k a b)))
  | .eql => some (True, .d (.bool (decide (a = b))))
  | .neq => some (True, .d (.bool (!decide (a = b))))
  | .lss => some (True, .d (.bool (decide (a < b))))
  | .leq => some (True, .d (.bool (decide (a ≤ b))))
  | .gtr => some (True, .d (.bool (decide (b < a))))
  | .geq => some (True, .d (.bool (decide (b ≤ a))))
  | .shl => some (0 ≤ b, .d (.int k (k.wrap (a * 2 ^ (min b.toNat k.bits)))))
  | .shr => some (0 ≤ b, .d (.int k (a.fdiv (2 ^ (min b.toNat k.bits)))))

def isShift : BinOp → Bool
  | .shl | .shr => true
  | _ => false

/-- A byte. -/
def u8Of : DV → Option Int
  | .int .u8 n => some n
  | _ => none
/-- Arrays of bytes are compared. -/
def arrEqF (P : Program) (op : BinOp) (t : TypeId) (a b : List DV) : R :=
  match tk P t with
  | .arr n ek _ => if ek.u8 && decide (a.length = n) && decide (b.length = n) && !P.eqGuardType P.depth t && decide (ek.sz = 1) then
      match a.mapM u8Of, b.mapM u8Of with
      | some p, some q => match op with
        | .eql => some (True, .d (.bool (decide (p = q))))
        | .neq => some (True, .d (.bool (!decide (p = q))))
        | _ => none
      | _, _ => none
    else none
  | _ => none
def binF (P : Program) (op : BinOp) (t : TypeId) (x y : SV) : R :=
  match x, y with
  | .d (.int k a), .d (.int k' b) => if isShift op || decide (k = k') then binInt op k a b else none
  | .d (.bool a), .d (.bool b) =>
    match tk P t, op with
    | .bool, .eql => some (True, .d (.bool (a == b)))
    | .bool, .neq => some (True, .d (.bool (!(a == b))))
    | _, _ => none
  | .d (.str a), .d (.str b) =>
    match op with
    | .add => some (a.length + b.length ≤ maxLen, .d (.str (a ++ b)))
    | .eql => some (True, .d (.bool (decide (a = b))))
    | .neq => some (True, .d (.bool (!decide (a = b))))
    | .lss => some (True, .d (.bool (Op.bytesLess a b)))
    | .leq => some (True, .d (.bool (Op.bytesLess a b || decide (a = b))))
    | .gtr => some (True, .d (.bool (!(Op.bytesLess a b || decide (a = b)))))
    | .geq => some (True, .d (.bool (!Op.bytesLess a b)))
    | _ => none
  | .d (.agg a), .d (.agg b) => arrEqF P op t a b
  | _, _ => none

def unF (op : UnOp) (x : SV) : R :=
  match op, x with
  | .not, .d (.bool b) => some (True, .d (.bool (!b)))
  | .neg, .d (.int k n) => some (True, .d (.int k (k.wrap (0 - n))))
  | .xor, .d (.int k n) => some (True, .d (.int k (bitF .xor k (if k.signed then -1 else k.max) n)))
  | _, _ => none

/-- The bytes that rows of one cell each are. -/
def bytesOf : List (List DV) → List UInt8
  | [.int .u8 n] :: r => UInt8.ofNat n.toNat :: bytesOf r
  | _ :: r => 0 :: bytesOf r
  | [] => []
def IsBytes (xs : List (List DV)) : Prop := ∀ r ∈ xs, ∃ n, r = [.int .u8 n]

def cB (c : UInt8) : DV := .int .u8 c.toNat
def rowB (c : UInt8) : List DV := [cB c]
/-- A slice of bytes. -/
def encB (l : List UInt8) : DV := .list (l.map rowB)

theorem bytesOf_map (l : List UInt8) : bytesOf (l.map rowB) = l := by
  induction l with
  | nil => rfl
  | cons c l ih => simp [bytesOf, rowB, cB, ih]
theorem isBytes_map (l : List UInt8) : IsBytes (l.map rowB) := by
  intro r hr
  obtain ⟨c, _, rfl⟩ := List.mem_map.1 hr
  exact ⟨_, rfl⟩

/-- Surely no interface type. -/
def TK.conc : TK → Bool
  | .bool | .int _ | .str | .slice _ | .struct _ _ | .arr _ _ _ => true
  | _ => false

def TK.ok : TK → Bool
  | .bad => false
  | _ => true

def convF (P : Program) (mem : Mem) (src dst : TypeId) (x : SV) : R :=
  match tk P dst, x with
  | .int k, .d (.int _ n) => if (tk P src).ok then some (True, .d (.int k (k.wrap n))) else none
  | .str, .d (.str s) => if (tk P src).ok then some (True, .d (.str s)) else none
  | .str, .d (.list xs) =>
    match tk P src with
    | .slice e => if e.u8 then some (IsBytes xs, .d (.str (bytesOf xs))) else none
    | _ => none
  | .str, .clip xs =>
    match tk P src with
    | .slice e => if e.u8 then some (IsBytes xs, .d (.str (bytesOf xs))) else none
    | _ => none
  | .str, .own b wd off len _ =>
    match tk P src with
    | .slice e => if e.u8 then match ownCells mem b wd off len with
      | some cells => match allD cells with
        | some ds => some (IsBytes (ds.map fun d => [d]) ∧ wd = 1 ∧ ds.length = len, .d (.str (bytesOf (ds.map fun d => [d]))))
        | none => none
      | none => none
      else none
    | _ => none
  | _, _ => none

def extractF (i : Nat) : SV → R
  | .d (.tup ds) => (ds[i]?).map fun d => (True, .d d)
  | _ => none

/-- The greater or the smaller of two numbers of one kind. -/
def maxF (mx : Bool) : SV → SV → R
  | .d (.int k a), .d (.int k' b) => if k = k' then some (True, .d (.int k (if (if mx then b > a else b < a) then b else a))) else none
  | _, _ => none
def maxL (mx : Bool) (rd : Operand → Option SV) : List Operand → R
  | [x, y] => (rd x).bind fun a => (rd y).bind fun b => maxF mx a b
  | [x, y, z] => (rd x).bind fun a => (rd y).bind fun b => (rd z).bind fun c => (maxF mx a b).bind fun p => maxF mx p.2 c
  | _ => none
/-! ### Maps -/
/-- A key of the kind. -/
def isKey : TK → DV → Prop
  | .int k, .int k' _ => k' = k
  | .str, .str _ => True
  | .bool, .bool _ => True
  | _, _ => False
def keyB : DV → DV → Bool
  | .int _ a, .int _ b => decide (a = b)
  | .str s, .str t => decide (s = t)
  | .bool a, .bool b => a == b
  | _, _ => false
def getE {α : Type} (d : DV) : List (DV × α) → Option α
  | [] => none
  | e :: es => if keyB d e.1 then some e.2 else getE d es
def updE {α : Type} (d : DV) (v : α) : List (DV × α) → List (DV × α)
  | [] => [(d, v)]
  | e :: es => if keyB d e.1 then (d, v) :: es else e :: updE d v es
def zeroV (P : Program) (e : TypeId) : Option DV := match P.info? e with
  | some i => match i.zero with
    | some (.agg cs) => (cs.toList.mapM zeroDV).map .agg
    | some v => zeroDV v
    | none => none
  | none => none
/-- A map type: the kind of its keys, and the zero value of its elements. -/
def mapT (P : Program) (t : TypeId) : Option (TK × DV) := match P.underlying t with
  | some (.map k e) => match tk P k with
    | .int i => (zeroV P e).map fun z => (.int i, z)
    | .str => (zeroV P e).map fun z => (.str, z)
    | .bool => (zeroV P e).map fun z => (.bool, z)
    | _ => none
  | _ => none
/-- All keys are of the kind. -/
def okKeys {α : Type} (kt : TK) (es : List (DV × α)) : Prop := ∀ e ∈ es, isKey kt e.1
def okD (ok : Bool) (z : DV) (o : Option DV) : SV := if ok then .d (.tup [o.getD z, .bool o.isSome]) else .d (o.getD z)
def lookF (P : Program) (mem : Mem) (t : TypeId) (ok : Bool) (s i : SV) : R :=
  match mapT P t, i with
  | some (kt, z), .d k => match s with
    | .d .nilm => some (isKey kt k, okD ok z none)
    | .d (.mapd es) => some (isKey kt k ∧ okKeys kt es, okD ok z (getE k es))
    | .mp b => match mem b with
      | .mp (.map es) => if ok then match allD (es.map (·.2)) with
          | some ds => some (isKey kt k ∧ okKeys kt es, okD true z (getE k ((es.map (·.1)).zip ds)))
          | none => none
        else some (isKey kt k ∧ okKeys kt es, (getE k es).getD (.d z))
      | _ => none
    | _ => none
  | _, _ => none
/-- Is it the nil map? -/
def nilM (mem : Mem) : SV → Option Bool
  | .d .nilm => some true
  | .d (.mapd _) => some false
  | .mp b => match mem b with
    | .mp (.map _) => some false
    | _ => none
  | _ => none
def mapEqF (P : Program) (mem : Mem) (op : BinOp) (t : TypeId) (x : SV) : R := match nilM mem x, op, mapT P t with
  | some b, .eql, some _ => some (True, .d (.bool b))
  | some b, .neq, some _ => some (True, .d (.bool (!b)))
  | _, _, _ => none
def isNilMap : Operand → Bool
  | .const (.map none) => true
  | _ => false
theorem isNilMap_eq {u : Operand} (h : isNilMap u = true) : u = .const (.map none) := by
  unfold isNilMap at h
  split at h
  · rfl
  · cases h
def lenM (mem : Mem) : SV → Option Nat
  | .d .nilm => some 0
  | .d (.mapd es) => some es.length
  | .mp b => match mem b with
    | .mp (.map es) => some es.length
    | _ => none
  | _ => none

/-- The operations that only read, and are no call of a function: what must hold, and what is yielded. -/
def opP (P : Program) (mem : Mem) (rd : Operand → Option SV) : Op → R
  | .move x => (rd x).map fun s => (True, s)
  | .assign x => (rd x).map fun s => (True, s)
  | .load t x => (rd x).bind (loadF P mem t)
  | .fieldAddr t x f => (rd x).bind (fieldAddrF P mem t f)
  | .field t x f => (rd x).bind (fieldF P t f)
  | .indexAddr t x i => (rd x).bind fun s => (rd i).bind fun j => indexAddrF P mem t s j
  | .index t x i => (rd x).bind fun s => (rd i).bind fun j => indexF P t s j
  | .slice t x lo hi mx => (rd x).bind fun s => (rdO rd lo).bind fun l => (rdO rd hi).bind fun h => (rdO rd mx).bind fun m => sliceF P mem t s l h m
  | .binOp op t x y _ => if isNilMap y then (rd x).bind (mapEqF P mem op t) else (rd x).bind fun a => (rd y).bind fun b => binF P op t a b
  | .lookup t x i ok => (rd x).bind fun s => (rd i).bind fun j => lookF P mem t ok s j
  | .unOp op _ x => (rd x).bind (unF op)
  | .convert s d x => (rd x).bind (convF P mem s d)
  | .extract x i => (rd x).bind (extractF i)
  | .makeInterface t x => match rd x with
    | some (.d d) => if (tk P t).conc then some (True, .d (.iface t d)) else none
    | _ => none
  | .makeFunc (.func f) first captured =>
    if first = #[] then
      match captured.toList.mapM rd with
      | some cs => some (True, match allD cs with | some ds => .d (.fn f ds) | none => .clo f cs)
      | none => none
    else none
  | .call { callee := .builtin .len, args := args, argTypes := ts } =>
    match args.toList, ts.toList with
    | [x], [t] => match tk P t with
      | .arr n _ _ => some (n ≤ maxLen, .d (.int .i64 n))
      | .slice _ => ((rd x).bind (lenF mem)).map fun (n : Nat) => (True, SV.d (.int .i64 (n : Int)))
      | .str => ((rd x).bind lenS).map fun (n : Nat) => (True, SV.d (.int .i64 (n : Int)))
      | .bad => match mapT P t with
        | some _ => ((rd x).bind (lenM mem)).map fun (n : Nat) => (n ≤ maxLen, SV.d (.int .i64 (n : Int)))
        | none => none
      | _ => none
    | _, _ => none
  | .call { callee := .builtin .max, args := args, .. } => maxL true rd args.toList
  | .call { callee := .builtin .min, args := args, .. } => maxL false rd args.toList
  | _ => none

end Go.Bf

/-
  The operations that only read: soundness. Nothing is claimed here.
-/
namespace Go.Bf
open Go Go.RowKit
variable {P : Program}

theorem inK_len {n : Nat} (h : n ≤ maxLen) : InK .i64 (n : Int) := by
  simp only [InK, IntKind.min, IntKind.max, IntKind.signed, IntKind.bits, maxLen] at *
  constructor <;> simp <;> omega

theorem addr_add (b off n : Nat) : (⟨b, off, none⟩ : Addr).add n = ⟨b, off + n, none⟩ := by
  unfold Addr.add; split
  · rename_i h; subst h; rfl
  · rfl

theorem Models.cell {x : Ctx} {K : Know} {a : Act} {w : World} (hm : Models x K a w) {b : Nat} {t : TypeId} {cells : List SV} (h : K.mem b = .live t cells) :
    ∃ B sz t', x.β b = .live B sz t' ∧ cells.length ≤ sz ∧ ∀ (o : Nat) s, cells[o]? = some s → ∃ v, w.cell? ⟨B, o, none⟩ = some v ∧ SRep x.J x.β v s := by
  obtain ⟨B, vals, fr, h1, ⟨T, h2⟩, h3, h4, h5, h6, h7, h8⟩ := (hm.live b t cells h).out
  exact ⟨B, _, t, h1, h4, fun o s hs => let ⟨v, e, r⟩ := h5 o s hs; ⟨v, by simp [World.cell?, h2, e], r⟩⟩

/-- Some cells in a row, each of them known. -/
theorem loadCells_some {w : World} {J : Imm} {β : Nat → Nam} {b off n : Nat} {cs : List SV} (hn : cs.length = n)
    (h : ∀ (j : Nat) s, cs[j]? = some s → ∃ v, w.cell? ⟨b, off + j, none⟩ = some v ∧ SRep J β v s) :
    ∃ vs : Array Value, (loadCells ⟨b, off, none⟩ n).run P w = .ok vs w ∧ vs.size = cs.length ∧ ∀ (i : Nat) v s, vs[i]? = some v → cs[i]? = some s → SRep J β v s := by
  let f : Nat → Value := fun j => (w.cell? ⟨b, off + j, none⟩).getD undef
  have hf : ∀ j, j < n → w.cell? ((⟨b, off, none⟩ : Addr).add j) = some (f j) := fun j hj => by
    obtain ⟨v, e, _⟩ := h j (cs[j]'(by omega)) (List.getElem?_eq_getElem (by omega))
    rw [addr_add]
    simp [f, e]
  refine ⟨_, run_loadCells (P := P) w ⟨b, off, none⟩ n f hf, by simp [hn], fun i v s hv hs => ?_⟩
  obtain ⟨v', e, r⟩ := h i s hs
  have hi : i < n := by rw [← hn]; exact (List.getElem?_eq_some_iff.1 hs).1
  simp [hi, f, e] at hv
  subst hv
  exact r

theorem loc_inv {J : Imm} {β : Nat → Nam} {v : Value} {b off B sz : Nat} {t : TypeId} (h : SRep J β v (.loc b off)) (hb : β b = .live B sz t) : v = .pointer (some ⟨B, off, none⟩) := by
  cases h with
  | loc h => rw [hb] at h; cases h; rfl
  | locDead h => rw [hb] at h; cases h
theorem own_inv {J : Imm} {β : Nat → Nam} {v : Value} {b wd off len : Nat} {c : Option Nat} {B sz : Nat} {t : TypeId} (h : SRep J β v (.own b wd off len c)) (hb : β b = .live B sz t) :
    ∃ cap, v = .slice (some ⟨B, off, none⟩) len cap ∧ off + cap * wd ≤ sz ∧ len ≤ cap ∧ cap ≤ maxLen ∧ (∀ x, c = some x → cap = x) := by
  cases h with
  | own h h1 h2 h3 h4 => rw [hb] at h; cases h; exact ⟨_, rfl, h1, h2, h3, h4⟩
  | ownDead h => rw [hb] at h; cases h
theorem d_inv {J : Imm} {β : Nat → Nam} {v : Value} {x : DV} (h : SRep J β v (.d x)) : Rep J v x := by cases h; assumption

/-- A row taken out of an aggregate. -/
theorem agg_part {J : Imm} {cs : Array Value} {ds : List DV} (hl : cs.size = ds.length) (h : ∀ (i : Nat) v d, cs[i]? = some v → ds[i]? = some d → Rep J v d) (o n : Nat) :
    Rep J (.agg (cs.extract o (o + n))) (.agg ((ds.drop o).take n)) := by
  refine .agg (by simp [hl]; omega) fun i v d hv hd => ?_
  rw [List.getElem?_take] at hd
  split at hd
  · rename_i hi
    rw [List.getElem?_drop] at hd
    rw [Array.getElem?_extract] at hv
    split at hv
    · exact h (o + i) v d hv hd
    · cases hv
  · cases hd

theorem loadF_sound {x : Ctx} {K : Know} {a : Act} {w : World} (hm : Models x K a w) {t : TypeId} {v : Value} {s s' : SV} {vc : Prop}
    (hs : SRep x.J x.β v s) (h : loadF P K.mem t s = some (vc, s')) (hvc : vc) : ∃ u, (Instr.loadAt t v).run P w = .ok u w ∧ SRep x.J x.β u s' := by
  unfold loadF at h
  split at h
  · rename_i b off
    split at h
    · rename_i t' cells hb
      obtain ⟨B, sz, t'', h1, h2, h3⟩ := hm.cell hb
      obtain rfl := loc_inv hs h1
      split at h
      · rename_i n hk
        obtain ⟨k1, k2, k3⟩ := lk_agg hk w
        simp only [Option.some.injEq, Prod.mk.injEq] at h
        obtain ⟨rfl, rfl⟩ := h
        obtain ⟨vs, e1, e2, e3⟩ := loadCells_some (P := P) (w := w) (J := x.J) (β := x.β) (b := B) (off := off) (n := n) (cs := (cells.drop off).take n) (by simp; omega)
          (fun j s hj => h3 (off + j) s (by
            rw [List.getElem?_take] at hj
            split at hj
            · simpa using hj
            · cases hj))
        refine ⟨.agg vs, ?_, SRep.of_mkAgg e2 e3⟩
        simp [Instr.loadAt, Instr.sureAddr, loadVar, k1, k2, e1, Result.andThen]
      · rename_i hk
        obtain ⟨k1, k2⟩ := lk_one hk w
        cases hc : cells[off]? with
        | some c =>
          rw [hc] at h
          simp only [loadCell, Option.some.injEq, Prod.mk.injEq] at h
          obtain ⟨rfl, rfl⟩ := h
          obtain ⟨u, e, r⟩ := h3 off c hc
          refine ⟨u, ?_, r⟩
          simp [Instr.loadAt, Instr.sureAddr, loadVar, k1, Result.andThen, e]
        | none =>
          rw [hc] at h
          simp only [loadCell, Option.some.injEq, Prod.mk.injEq] at h
          exact (h.1 ▸ hvc).elim
      · cases h
    · cases h
  · rename_i ds
    have hp := d_inv hs
    cases hp with
    | @ptr b off _ vs hc hr =>
      split at h
      · rename_i n hk
        obtain ⟨k1, k2, k3⟩ := lk_agg hk w
        simp only [Option.some.injEq, Prod.mk.injEq] at h
        obtain ⟨rfl, rfl⟩ := h
        obtain ⟨us, e1, e2, e3⟩ := loadCells_some (P := P) (w := w) (J := x.J) (β := x.β) (b := b) (off := off) (n := n) (cs := (ds.take n).map .d) (by simp; omega)
          (fun j s hj => by
            simp only [List.getElem?_map, List.getElem?_take, Option.map_eq_some_iff] at hj
            obtain ⟨d, hd, rfl⟩ := hj
            split at hd
            · exact ⟨_, hm.cellJ (hc j (List.getElem?_eq_some_iff.1 hd).1), .d (hr j d hd)⟩
            · cases hd)
        refine ⟨.agg us, ?_, ?_⟩
        · simp [Instr.loadAt, Instr.sureAddr, loadVar, k1, k2, e1, Result.andThen]
        · refine .d (.agg (by simpa using e2) fun i v d hv hd => ?_)
          exact d_inv (e3 i v (.d d) hv (by rw [List.getElem?_map, hd]; rfl))
      · rename_i hk
        obtain ⟨k1, k2⟩ := lk_one hk w
        cases ds with
        | nil =>
          simp only [loadRow, Option.some.injEq, Prod.mk.injEq] at h
          exact (h.1 ▸ hvc).elim
        | cons d ds =>
          simp only [loadRow, Option.some.injEq, Prod.mk.injEq] at h
          obtain ⟨rfl, rfl⟩ := h
          have e := hm.cellJ (hc 0 (by simp))
          refine ⟨vs 0, ?_, .d (hr 0 d (by simp))⟩
          simp only [Nat.add_zero] at e
          simp [Instr.loadAt, Instr.sureAddr, loadVar, k1, Result.andThen, e]
      · cases h
  · cases h

theorem lk_size {t : TypeId} (h : lkOf P t ≠ .bad) (w : World) : ∃ n, (sizeOf t).run P w = .ok n w ∧ n ≠ 0 := by
  cases hk : lkOf P t with
  | one => exact ⟨1, (lk_one hk w).2, by simp⟩
  | agg n => exact ⟨n, (lk_agg hk w).2.1, (lk_agg hk w).2.2⟩
  | bad => exact absurd hk h

theorem ptr_drop {J : Imm} {b off : Nat} {ds : List DV} (h : Rep J (.pointer (some ⟨b, off, none⟩)) (.ptr ds)) (o : Nat) (ho : o ≤ ds.length) : Rep J (.pointer (some ⟨b, off + o, none⟩)) (.ptr (ds.drop o)) := by
  cases h with
  | ptr vs hc hr =>
    refine .ptr (fun j => vs (o + j)) (fun j hj => ?_) (fun j d hd => hr (o + j) d (by simpa using hd))
    rw [Nat.add_assoc]; exact hc (o + j) (by simp at hj; omega)

theorem fieldAddrF_sound {x : Ctx} {K : Know} {a : Act} {w : World} (hm : Models x K a w) {t : TypeId} {f : Nat} {v : Value} {s s' : SV} {vc : Prop}
    (hs : SRep x.J x.β v s) (h : fieldAddrF P K.mem t f s = some (vc, s')) (hvc : vc) : ∃ u, (Instr.fieldAt t v f).run P w = .ok u w ∧ SRep x.J x.β u s' := by
  unfold fieldAddrF at h
  split at h
  · rename_i fs n hk
    obtain ⟨fields, i, hu, hi, hsz, hn, hfs⟩ := tk_struct hk
    split at h
    · cases h
    · rename_i o lk hbad hf
      have hfield : ∃ fd, fields[f]? = some fd ∧ fd.offset = o ∧ lkOf P fd.type = lk := by
        rw [hfs, List.getElem?_map, Option.map_eq_some_iff] at hf
        obtain ⟨fd, h1, h2⟩ := hf
        simp only [Prod.mk.injEq] at h2
        exact ⟨fd, by simpa using h1, h2.1, h2.2⟩
      obtain ⟨fd, hfd, rfl, rfl⟩ := hfield
      obtain ⟨sz, hsz', hne⟩ := lk_size (P := P) (t := fd.type) hbad w
      have run : ∀ b off, (Instr.fieldAt t (.pointer (some ⟨b, off, none⟩)) f).run P w = .ok (.pointer (some ⟨b, off + fd.offset, none⟩)) w := fun b off => by
        simp [Instr.fieldAt, underlying, hu, hfd, Instr.sureAddr, fieldPlace, hsz', hne, addr_add, Result.andThen]
      cases s with
      | loc b off =>
        simp only at h
        split at h
        · rename_i t' cells hb
          obtain ⟨B, sz, t'', h1, h2, h3⟩ := hm.cell hb
          obtain rfl := loc_inv hs h1
          simp only [Option.some.injEq, Prod.mk.injEq] at h
          obtain ⟨rfl, rfl⟩ := h
          exact ⟨_, run _ _, .loc h1⟩
        · cases h
      | d y =>
        cases y with
        | ptr ds =>
          simp only [Option.some.injEq, Prod.mk.injEq] at h
          obtain ⟨rfl, rfl⟩ := h
          have hp := d_inv hs
          cases hp with
          | @ptr b off _ vs hc hr => exact ⟨_, run _ _, .d (ptr_drop (.ptr vs hc hr) _ hvc)⟩
        | _ => cases h
      | _ => cases h
    · cases h
  · cases h

theorem fieldF_sound {x : Ctx} {w : World} {t : TypeId} {f : Nat} {v : Value} {s s' : SV} {vc : Prop}
    (hs : SRep x.J x.β v s) (h : fieldF P t f s = some (vc, s')) (hvc : vc) : ∃ u, (Instr.field t v f).run P w = .ok u w ∧ SRep x.J x.β u s' := by
  unfold fieldF at h
  split at h
  · rename_i fs n hk
    obtain ⟨fields, i, hu, hi, hsz, hn, hfs⟩ := tk_struct hk
    have hfield : ∀ o lk, fs[f]? = some (o, lk) → ∃ fd, fields[f]? = some fd ∧ fd.offset = o ∧ lkOf P fd.type = lk := fun o lk hf => by
      rw [hfs, List.getElem?_map, Option.map_eq_some_iff] at hf
      obtain ⟨fd, h1, h2⟩ := hf
      simp only [Prod.mk.injEq] at h2
      exact ⟨fd, by simpa using h1, h2.1, h2.2⟩
    split at h
    · rename_i o n' hf
      obtain ⟨fd, hfd, rfl, hlk⟩ := hfield _ _ hf
      obtain ⟨k1, k2, k3⟩ := lk_agg hlk w
      have run : ∀ cs, (Instr.field t (.agg cs) f).run P w = .ok (.agg (cs.extract fd.offset (fd.offset + n'))) w := fun cs => by
        simp [Instr.field, underlying, hu, hfd, asAgg, part, k1, k2, Result.andThen]
      cases s with
      | d y =>
        cases y with
        | agg ds =>
          simp only [Option.some.injEq, Prod.mk.injEq] at h
          obtain ⟨rfl, rfl⟩ := h
          have hp := d_inv hs
          cases hp with
          | agg hl hh => exact ⟨_, run _, .d (agg_part hl hh _ _)⟩
        | _ => cases h
      | agg ds =>
        simp only [Option.some.injEq, Prod.mk.injEq] at h
        obtain ⟨rfl, rfl⟩ := h
        cases hs with
        | agg hl hh =>
          refine ⟨_, run _, SRep.of_mkAgg (by simp [hl]; omega) fun i v d hv hd => ?_⟩
          rw [List.getElem?_take] at hd
          split at hd
          · rw [List.getElem?_drop] at hd
            rw [Array.getElem?_extract] at hv
            split at hv
            · exact hh _ v d hv hd
            · cases hv
          · cases hd
      | _ => cases h
    · rename_i o hf
      obtain ⟨fd, hfd, rfl, hlk⟩ := hfield _ _ hf
      obtain ⟨k1, k2⟩ := lk_one hlk w
      have run : ∀ (cs : Array Value) u, cs[fd.offset]? = some u → (Instr.field t (.agg cs) f).run P w = .ok u w := fun cs u hu' => by
        simp [Instr.field, underlying, hu, hfd, asAgg, part, k1, hu', Result.andThen]
      cases s with
      | d y =>
        cases y with
        | agg ds =>
          have hp := d_inv hs
          cases hp with
          | @agg cs ds hl hh =>
            simp only at h
            split at h
            · rename_i d hd
              simp only [Option.some.injEq, Prod.mk.injEq] at h
              obtain ⟨rfl, rfl⟩ := h
              have hlt : fd.offset < cs.size := by rw [hl]; exact (List.getElem?_eq_some_iff.1 hd).1
              exact ⟨_, run _ _ (Array.getElem?_eq_getElem hlt), .d (hh _ _ _ (Array.getElem?_eq_getElem hlt) hd)⟩
            · cases h
        | _ => cases h
      | agg ds =>
        cases hs with
        | @agg cs ds hl hh =>
          simp only at h
          split at h
          · rename_i d hd
            simp only [Option.some.injEq, Prod.mk.injEq] at h
            obtain ⟨rfl, rfl⟩ := h
            have hlt : fd.offset < cs.size := by rw [hl]; exact (List.getElem?_eq_some_iff.1 hd).1
            exact ⟨_, run _ _ (Array.getElem?_eq_getElem hlt), hh _ _ _ (Array.getElem?_eq_getElem hlt) hd⟩
          · cases h
      | _ => cases h
    · cases h
  · cases h

theorem intOf'_inv {J : Imm} {β : Nat → Nam} {v : Value} {s : SV} {k : IntKind} {n : Int} (hs : SRep J β v s) (h : intOf' s = some (k, n)) : v = .int k n ∧ InK k n := by
  unfold intOf' at h
  split at h
  · simp only [Option.some.injEq, Prod.mk.injEq] at h
    obtain ⟨rfl, rfl⟩ := h
    have := d_inv hs
    cases this with | int h => exact ⟨rfl, h⟩
  · cases h

/-- One row of a slice. -/
theorem slice_row {J : Imm} {b off cap len : Nat} {xs : List (List DV)} (h : Rep J (.slice (some ⟨b, off, none⟩) len cap) (.list xs)) {wd i : Nat} (hi : i < xs.length) (hw : (xs.getD i []).length = wd) :
    Rep J (.pointer (some ⟨b, off + i * wd, none⟩)) (.ptr (xs.getD i [])) := by
  cases h with
  | empty => simp at hi
  | @slice _ _ _ wd' _ vs hcap hmax hwd hc hr =>
    have hget : xs[i]? = some (xs.getD i []) := by simp [List.getD, List.getElem?_eq_getElem hi]
    have : wd' = wd := by rw [← hw]; exact (hwd _ (List.mem_of_getElem? hget)).symm
    subst this
    exact .ptr (vs i) (fun j hj => hc i j hi (by omega)) (fun j d hd => hr i j _ d hget hd)

end Go.Bf

/-
  The operations that only read: soundness, second part. Nothing is claimed here.
-/
namespace Go.Bf
open Go Go.RowKit
variable {P : Program}

theorem ek_size {t : TypeId} {k : EK} (h : ekOf P t = some k) (w : World) : (sizeOf t).run P w = .ok k.sz w := by
  obtain ⟨i, hi, h1, _⟩ := ek_info h
  rw [run_sizeOf' hi, h1]

theorem run_indexAt_slice {w : World} {t e : TypeId} {k : EK} (hu : P.underlying t = some (.slice e)) (he : ekOf P e = some k) {kd : IntKind} {i : Int} {b off len cap : Nat} (h0 : 0 ≤ i) (h1 : i < (len : Int)) :
    (Instr.indexAt t (.slice (some ⟨b, off, none⟩) len cap) (.int kd i)).run P w = .ok (.pointer (some ⟨b, off + i.toNat * k.sz, none⟩)) w := by
  have := ek_size he w
  simp [Instr.indexAt, underlying, hu, asIntOf, h0, h1, this, addr_add, Result.andThen]

theorem run_indexAt_arr {w : World} {t e : TypeId} {k : EK} {n : Nat} (hu : P.underlying t = some (.array n e)) (he : ekOf P e = some k) {kd : IntKind} {i : Int} {b off : Nat} (h0 : 0 ≤ i) (h1 : i < (n : Int)) :
    (Instr.indexAt t (.pointer (some ⟨b, off, none⟩)) (.int kd i)).run P w = .ok (.pointer (some ⟨b, off + i.toNat * k.sz, none⟩)) w := by
  have := ek_size he w
  simp [Instr.indexAt, underlying, hu, asIntOf, h0, h1, this, addr_add, Result.andThen, Instr.sureAddr]

theorem rep_list_some {J : Imm} {a : Option Addr} {len cap : Nat} {xs : List (List DV)} (h : Rep J (.slice a len cap) (.list xs)) : len = xs.length ∧ len ≤ cap ∧ cap ≤ maxLen ∧ (0 < xs.length → ∃ b off, a = some ⟨b, off, none⟩) := by
  cases h with
  | empty h => exact ⟨rfl, Nat.zero_le _, h, fun h => by simp at h⟩
  | slice vs h1 h2 _ _ _ => exact ⟨rfl, h1, h2, fun _ => ⟨_, _, rfl⟩⟩

theorem rep_list_inv {J : Imm} {v : Value} {xs : List (List DV)} (h : Rep J v (.list xs)) : ∃ a cap, v = .slice a xs.length cap := by
  cases h with
  | empty h => exact ⟨_, _, rfl⟩
  | slice vs h1 h2 _ _ _ => exact ⟨_, _, rfl⟩

theorem indexAddr_list {x : Ctx} {w : World} {t e : TypeId} {k : EK} (hu : P.underlying t = some (.slice e)) (he : ekOf P e = some k) {v : Value} {kd : IntKind} {i : Int} {xs : List (List DV)} (hv : Rep x.J v (.list xs))
    (h0 : 0 ≤ i) (h1 : i < xs.length) (hw : (xs.getD i.toNat []).length = k.sz) :
    ∃ u, (Instr.indexAt t v (.int kd i)).run P w = .ok u w ∧ SRep x.J x.β u (.d (.ptr (xs.getD i.toNat []))) := by
  obtain ⟨a, cap, rfl⟩ := rep_list_inv hv
  obtain ⟨b, off, rfl⟩ := (rep_list_some hv).2.2.2 (by omega)
  exact ⟨_, run_indexAt_slice hu he h0 h1, .d (slice_row hv (by omega) hw)⟩

theorem clip_inv {J : Imm} {β : Nat → Nam} {v : Value} {xs : List (List DV)} (h : SRep J β v (.clip xs)) : ∃ a, v = .slice a xs.length xs.length ∧ Rep J v (.list xs) := by
  cases h with
  | clip h => have := (rep_list_some h).1; subst this; exact ⟨_, rfl, h⟩

theorem indexAddrF_sound {x : Ctx} {K : Know} {a : Act} {w : World} (hm : Models x K a w) {t : TypeId} {v u : Value} {s r s' : SV} {vc : Prop}
    (hs : SRep x.J x.β v s) (hr : SRep x.J x.β u r) (h : indexAddrF P K.mem t s r = some (vc, s')) (hvc : vc) : ∃ q, (Instr.indexAt t v u).run P w = .ok q w ∧ SRep x.J x.β q s' := by
  unfold indexAddrF at h
  split at h
  · rename_i kd i hi
    obtain ⟨rfl, _⟩ := intOf'_inv hr hi
    split at h
    · rename_i k hk
      obtain ⟨e, hu, he⟩ := tk_slice hk
      cases s with
      | d y =>
        cases y with
        | list xs =>
          simp only [Option.some.injEq, Prod.mk.injEq] at h
          obtain ⟨rfl, rfl⟩ := h
          exact indexAddr_list hu he (d_inv hs) hvc.1 hvc.2.1 hvc.2.2
        | _ => cases h
      | clip xs =>
        simp only [Option.some.injEq, Prod.mk.injEq] at h
        obtain ⟨rfl, rfl⟩ := h
        obtain ⟨_, _, hv⟩ := clip_inv hs
        exact indexAddr_list hu he hv hvc.1 hvc.2.1 hvc.2.2
      | own b wd off len c =>
        simp only at h
        split at h
        · rename_i t' cells hb
          simp only [Option.some.injEq, Prod.mk.injEq] at h
          obtain ⟨rfl, rfl⟩ := h
          obtain ⟨B, sz, t'', h1, h2, h3⟩ := hm.cell hb
          obtain ⟨cap, rfl, _⟩ := own_inv hs h1
          obtain ⟨g0, g1, rfl⟩ := hvc
          exact ⟨_, run_indexAt_slice hu he g0 g1, .loc h1⟩
        · cases h
      | _ => cases h
    · rename_i n k sz hk
      obtain ⟨e, _, hu, he, _⟩ := tk_arr hk
      cases s with
      | d y =>
        cases y with
        | ptr ds =>
          simp only [Option.some.injEq, Prod.mk.injEq] at h
          obtain ⟨rfl, rfl⟩ := h
          have hp := d_inv hs
          cases hp with
          | @ptr b off _ vs hc hr' => exact ⟨_, run_indexAt_arr hu he hvc.1 hvc.2.1, .d (ptr_drop (.ptr vs hc hr') _ hvc.2.2)⟩
        | _ => cases h
      | loc b off =>
        simp only at h
        split at h
        · rename_i t' cells hb
          simp only [Option.some.injEq, Prod.mk.injEq] at h
          obtain ⟨rfl, rfl⟩ := h
          obtain ⟨B, sz, t'', h1, h2, h3⟩ := hm.cell hb
          obtain rfl := loc_inv hs h1
          exact ⟨_, run_indexAt_arr hu he hvc.1 hvc.2, .loc h1⟩
        · cases h
      | _ => cases h
    · cases h
  · cases h

theorem indexF_sound {x : Ctx} {w : World} {t : TypeId} {v u : Value} {s r s' : SV} {vc : Prop}
    (hs : SRep x.J x.β v s) (hr : SRep x.J x.β u r) (h : indexF P t s r = some (vc, s')) (hvc : vc) : ∃ q, (Instr.index t v u).run P w = .ok q w ∧ SRep x.J x.β q s' := by
  unfold indexF at h
  split at h
  · rename_i kd i hi
    obtain ⟨rfl, _⟩ := intOf'_inv hr hi
    split at h
    · rename_i l hk
      have hu := tk_str hk
      simp only [Option.some.injEq, Prod.mk.injEq] at h
      obtain ⟨rfl, rfl⟩ := h
      have hp := d_inv hs
      cases hp with
      | str hl =>
        have hlt : i.toNat < l.length := by omega
        have hsz : i.toNat < (⟨l.toArray⟩ : ByteArray).size := by simpa [ByteArray.size] using hlt
        have hb : (⟨l.toArray⟩ : ByteArray)[i.toNat]? = some (l.getD i.toNat 0) := by
          rw [getElem?_pos (⟨l.toArray⟩ : ByteArray) i.toNat hsz]
          simp only [List.getD, List.getElem?_eq_getElem hlt, Option.getD_some]
          rfl
        refine ⟨.int .u8 (l.getD i.toNat 0).toNat, ?_, .d (.int ?_)⟩
        · simp only [Instr.index, underlying, Sem.run_bind, asIntOf, Sem.run_pure, Result.andThen_ok, hu, run_program, hvc.1, if_true, hb]
        · simp only [InK, IntKind.min, IntKind.max, IntKind.signed, IntKind.bits]
          have := (l.getD i.toNat 0).toNat_lt
          constructor
          · simp
          · simp only [Bool.false_eq_true, if_false]; omega
    · rename_i n k sz ds hk
      obtain ⟨e, _, hu, he, _⟩ := tk_arr hk
      split at h
      · rename_i hlk
        simp only [Option.some.injEq, Prod.mk.injEq] at h
        obtain ⟨rfl, rfl⟩ := h
        have hp := d_inv hs
        obtain ⟨inf, h1, h2, h3, h4, h5, h6, h7⟩ := ek_info he
        obtain ⟨k1, k2⟩ := lk_one (h6.trans hlk) w
        rw [run_sizeOf' h1, h2] at k2
        simp only [Result.ok.injEq, and_true] at k2
        cases hp with
        | @agg cs _ hl hh =>
          have hlt : i.toNat < ds.length := by omega
          have hlt' : i.toNat < cs.size := by omega
          refine ⟨cs[i.toNat], ?_, .d (hh i.toNat _ _ (Array.getElem?_eq_getElem hlt') (by simp [List.getD, List.getElem?_eq_getElem hlt]))⟩
          have hs' := ek_size he w
          simp [Instr.index, underlying, hu, asIntOf, hvc.1, hvc.2.1, Result.andThen, part, k1, hs', k2, hlt']
      · cases h
    · cases h
  · cases h

end Go.Bf

/-
  The operations that only read: soundness, third part: slice expressions, arithmetic, conversions. Nothing is claimed here.
-/
namespace Go.Bf
open Go Go.RowKit
variable {P : Program}

/-- An optional operand. -/
def OptR (x : Ctx) : Option Value → Option SV → Prop
  | none, none => True
  | some v, some s => SRep x.J x.β v s
  | _, _ => False

theorem run_sliceBound {w : World} {k : IntKind} {i : Int} {y : Nat} (code : BoundsCode) (h0 : 0 ≤ i) (h1 : i ≤ (y : Int)) : (Instr.sliceBound (.int k i) y code).run P w = .ok i.toNat w := by
  simp [Instr.sliceBound, asIntOf, h0, h1]

theorem boundF_inv {x : Ctx} {v : Option Value} {s : Option SV} {dflt a : Int} (hr : OptR x v s) (h : boundF s dflt = some a) : (v = none ∧ a = dflt) ∨ ∃ k, v = some (.int k a) := by
  cases s with
  | none =>
    cases v with
    | none => simp [boundF] at h; exact .inl ⟨rfl, h.symm⟩
    | some v => exact hr.elim
  | some s =>
    cases v with
    | none => exact hr.elim
    | some v =>
      simp only [boundF, Option.map_eq_some_iff] at h
      obtain ⟨⟨k, n⟩, h1, rfl⟩ := h
      obtain ⟨rfl, _⟩ := intOf'_inv hr h1
      exact .inr ⟨k, rfl⟩

theorem run_bounds {x : Ctx} {w : World} {vl vh : Option Value} {sl sh : Option SV} (hl : OptR x vl sl) (hh : OptR x vh sh) {len cap : Nat} {a b : Int} (ha : boundF sl 0 = some a) (hb : boundF sh len = some b)
    (h0 : 0 ≤ a) (h1 : a ≤ b) (h2 : b ≤ (len : Int)) (h3 : len ≤ cap) (isS : Bool) : (Instr.sliceBounds isS len cap vl vh none).run P w = .ok (a.toNat, b.toNat, cap) w := by
  have hbc : b ≤ (cap : Int) := by omega
  have hb0 : 0 ≤ b := by omega
  have hab : a ≤ (b.toNat : Int) := by omega
  unfold Instr.sliceBounds
  rcases boundF_inv hl ha with ⟨rfl, rfl⟩ | ⟨k, rfl⟩ <;> rcases boundF_inv hh hb with ⟨rfl, rfl⟩ | ⟨k', rfl⟩
  · simp
  · simp [Result.andThen, run_sliceBound _ hb0 hbc]
  · simp only [Int.toNat_natCast] at hab ⊢
    simp [Result.andThen, run_sliceBound _ h0 hab]
  · simp [Result.andThen, run_sliceBound _ hb0 hbc, run_sliceBound _ h0 hab]

theorem run_bounds3 {x : Ctx} {w : World} {vl : Option Value} {sl : Option SV} (hl : OptR x vl sl) {len cap : Nat} {a b m : Int} (ha : boundF sl 0 = some a) {k k' : IntKind}
    (h0 : 0 ≤ a) (h1 : a ≤ b) (h2 : b ≤ m) (h3 : m ≤ (cap : Int)) : (Instr.sliceBounds true len cap vl (some (.int k b)) (some (.int k' m))).run P w = .ok (a.toNat, b.toNat, m.toNat) w := by
  have hm0 : 0 ≤ m := by omega
  have hb0 : 0 ≤ b := by omega
  have hab : a ≤ (b.toNat : Int) := by omega
  have hbm : b ≤ (m.toNat : Int) := by omega
  unfold Instr.sliceBounds
  rcases boundF_inv hl ha with ⟨rfl, rfl⟩ | ⟨k, rfl⟩
  · simp [Result.andThen, run_sliceBound _ hm0 h3, run_sliceBound _ hb0 hbm]
  · simp [Result.andThen, run_sliceBound _ hm0 h3, run_sliceBound _ hb0 hbm, run_sliceBound _ h0 hab]

theorem rep_sub {J : Imm} {a : Option Addr} {len cap : Nat} {xs : List (List DV)} (h : Rep J (.slice a len cap) (.list xs)) {l r m wd : Nat} (h1 : l ≤ r) (h2 : r ≤ xs.length) (hm : r ≤ m) (hmc : m ≤ cap)
    (hwd : ∀ q ∈ xs, q.length = wd) : Rep J (.slice (if m = l then a else a.map (·.add (l * wd))) (r - l) (m - l)) (.list ((xs.take r).drop l)) := by
  have hmax : cap ≤ maxLen := (rep_list_some h).2.2.1
  have hlen : ((xs.take r).drop l).length = r - l := by simp; omega
  by_cases hz : r = l
  · subst hz
    have : (xs.take r).drop r = [] := List.eq_nil_of_length_eq_zero (by simp)
    rw [this, Nat.sub_self]
    exact .empty (by omega)
  · have hml : m ≠ l := by omega
    cases h with
    | empty => simp at h2; omega
    | @slice b off _ wd' _ vs hcap hmx hw hc hr =>
      have hwe : wd' = wd := by
        have h0 : xs[0]? = some (xs[0]'(by omega)) := List.getElem?_eq_getElem (by omega)
        rw [← hw _ (List.mem_of_getElem? h0), hwd _ (List.mem_of_getElem? h0)]
      subst hwe
      rw [if_neg hml, ← hlen]
      simp only [Option.map_some, addr_add]
      refine .slice (fun i j => vs (l + i) j) (by rw [hlen]; omega) (by omega) (fun q hq => hw q (List.mem_of_mem_take (List.mem_of_mem_drop hq))) (fun i j hi hj => ?_) (fun i j q d hq hd => ?_)
      · rw [Nat.add_assoc off, ← Nat.add_mul]
        exact hc (l + i) j (by rw [hlen] at hi; omega) hj
      · refine hr (l + i) j q d ?_ hd
        rw [List.getElem?_drop, List.getElem?_take] at hq
        split at hq
        · exact hq
        · cases hq

theorem run_slice_slice {w : World} {t e : TypeId} {k : EK} (hu : P.underlying t = some (.slice e)) (he : ekOf P e = some k) {a : Option Addr} {len cap l h m : Nat} {lo hi mx : Option Value}
    (hb : (Instr.sliceBounds true len cap lo hi mx).run P w = .ok (l, h, m) w) :
    (Instr.sliceAt t (.slice a len cap) lo hi mx).run P w = .ok (.slice (if m = l then a else a.map (·.add (l * k.sz))) (h - l) (m - l)) w := by
  have hs := ek_size he w
  simp [Instr.sliceAt, Instr.slice, underlying, hu, hb, hs, Result.andThen]

theorem list_slice {x : Ctx} {w : World} {t e : TypeId} {k : EK} (hu : P.underlying t = some (.slice e)) (he : ekOf P e = some k) {v : Value} {xs : List (List DV)} (hv : Rep x.J v (.list xs))
    {vl vh vm : Option Value} {sl sh sm : Option SV} (hl : OptR x vl sl) (hh : OptR x vh sh) (hm' : OptR x vm sm) {a b : Int} (ha : boundF sl 0 = some a) (hb : boundF sh xs.length = some b)
    (h0 : 0 ≤ a) (h1 : a ≤ b) (hw : Wide k.sz xs) :
    (sm = none → b ≤ xs.length → ∃ q, (Instr.sliceAt t v vl vh vm).run P w = .ok q w ∧ SRep x.J x.β q (.d (.list ((xs.take b.toNat).drop a.toNat)))) ∧
    (∀ s kd m, sm = some s → intOf' s = some (kd, m) → sh ≠ none → b = m → m ≤ xs.length → ∃ q, (Instr.sliceAt t v vl vh vm).run P w = .ok q w ∧ SRep x.J x.β q (.clip ((xs.take b.toNat).drop a.toNat))) := by
  obtain ⟨ad, cap, rfl⟩ := rep_list_inv hv
  have hle := (rep_list_some hv).2.1
  constructor
  · intro hsm h2
    subst hsm
    have : vm = none := by cases vm with | none => rfl | some _ => exact hm'.elim
    subst this
    refine ⟨_, run_slice_slice hu he (run_bounds hl hh ha hb h0 h1 h2 hle true), .d (rep_sub hv (by omega) (by omega) (by omega) (Nat.le_refl _) hw)⟩
  · intro s kd m hsm hi hne hbm h2
    subst hsm hbm
    cases vm with
    | none => exact hm'.elim
    | some vm =>
      obtain ⟨rfl, _⟩ := intOf'_inv hm' hi
      rcases boundF_inv hh hb with ⟨rfl, _⟩ | ⟨k', rfl⟩
      · cases sh with
        | none => exact absurd rfl hne
        | some _ => exact hh.elim
      · refine ⟨_, run_slice_slice hu he (run_bounds3 hl ha h0 h1 (Int.le_refl _) (by omega)), .clip ?_⟩
        exact rep_sub hv (by omega) (by omega) (Nat.le_refl _) (by omega) hw

theorem sliceListF_sound {x : Ctx} {w : World} {t : TypeId} {v : Value} {vl vh vm : Option Value} {xs : List (List DV)} {s' : SV} {sl sh sm : Option SV} {vc : Prop}
    (hv : Rep x.J v (.list xs)) (hl : OptR x vl sl) (hh : OptR x vh sh) (hmx : OptR x vm sm) (h : sliceListF P t xs sl sh sm = some (vc, s')) (hvc : vc) :
    ∃ q, (Instr.sliceAt t v vl vh vm).run P w = .ok q w ∧ SRep x.J x.β q s' := by
  unfold sliceListF at h
  split at h
  · rename_i k l b hk ha hb
    obtain ⟨e, hu, he⟩ := tk_slice hk
    cases sm with
    | none =>
      simp only [Option.some.injEq, Prod.mk.injEq] at h
      obtain ⟨rfl, rfl⟩ := h
      exact (list_slice hu he hv hl hh hmx ha hb hvc.1 hvc.2.1 hvc.2.2.2).1 rfl hvc.2.2.1
    | some m =>
      cases hi : intOf' m with
      | none => simp [hi] at h
      | some p =>
        obtain ⟨kd, mm⟩ := p
        cases sh with
        | none => simp [hi] at h
        | some q =>
          simp only [hi, Option.some.injEq, Prod.mk.injEq] at h
          obtain ⟨rfl, rfl⟩ := h
          exact (list_slice hu he hv hl hh hmx ha hb hvc.1 hvc.2.1 hvc.2.2.2.2).2 _ _ _ rfl hi (by simp) hvc.2.2.1 hvc.2.2.2.1
  · cases h

theorem sliceF_sound {x : Ctx} {K : Know} {a : Act} {w : World} (hm : Models x K a w) {t : TypeId} {v : Value} {vl vh vm : Option Value} {s s' : SV} {sl sh sm : Option SV} {vc : Prop}
    (hs : SRep x.J x.β v s) (hl : OptR x vl sl) (hh : OptR x vh sh) (hmx : OptR x vm sm) (h : sliceF P K.mem t s sl sh sm = some (vc, s')) (hvc : vc) :
    ∃ q, (Instr.sliceAt t v vl vh vm).run P w = .ok q w ∧ SRep x.J x.β q s' := by
  unfold sliceF at h
  cases s with
  | d y =>
    cases y with
    | list xs => exact sliceListF_sound (d_inv hs) hl hh hmx h hvc
    | str l =>
      simp only at h
      split at h
      · rename_i a b hk ha hb
        have hu := tk_str hk
        simp only [Option.some.injEq, Prod.mk.injEq] at h
        obtain ⟨rfl, rfl⟩ := h
        have hp := d_inv hs
        cases hp with
        | str hlen =>
          have hvm : vm = none := by cases vm with | none => rfl | some _ => exact hmx.elim
          subst hvm
          have hsz : (⟨l.toArray⟩ : ByteArray).size = l.length := by simp [ByteArray.size]
          have hb' := run_bounds (P := P) (w := w) hl hh (len := l.length) (cap := l.length) ha hb hvc.1 hvc.2.1 hvc.2.2 (Nat.le_refl _) false
          refine ⟨.string ((⟨l.toArray⟩ : ByteArray).extract a.toNat b.toNat), ?_, ?_⟩
          · simp [Instr.sliceAt, Instr.slice, underlying, hu, hsz, hb', Result.andThen]
          · have : ((⟨l.toArray⟩ : ByteArray).extract a.toNat b.toNat) = ⟨((l.take b.toNat).drop a.toNat).toArray⟩ := by
              apply ByteArray.ext
              simp [ByteArray.data_extract]
              rw [List.drop_take]
            rw [this]
            exact .d (.str (by simp; omega))
      · cases h
    | _ => cases h
  | clip xs =>
    obtain ⟨_, _, hv⟩ := clip_inv hs
    exact sliceListF_sound hv hl hh hmx h hvc
  | own b wd off len c =>
    simp only at h
    split at h
    · rename_i k t' cells l r hk hb ha hbb
      obtain ⟨e, hu, he⟩ := tk_slice hk
      simp only [Option.some.injEq, Prod.mk.injEq] at h
      obtain ⟨rfl, rfl⟩ := h
      obtain ⟨B, sz, t'', h1, h2, h3⟩ := hm.cell hb
      obtain ⟨cap, rfl, g1, g2, g3, g4⟩ := own_inv hs h1
      have hvm : vm = none := by cases vm with | none => rfl | some _ => exact hmx.elim
      subst hvm
      obtain ⟨c0, c1, c2, c3, rfl⟩ := hvc
      refine ⟨_, run_slice_slice hu he (run_bounds hl hh ha hbb c0 c1 c2 g2 true), ?_⟩
      have e1 : (if cap = l.toNat then (some ⟨B, off, none⟩ : Option Addr) else Option.map (fun (x : Addr) => x.add (l.toNat * k.sz)) (some (⟨B, off, none⟩ : Addr))) = some ⟨B, off + l.toNat * k.sz, none⟩ := by
        split
        · rename_i hc
          rcases c3 with c3 | c3
          · subst c3; simp
          · omega
        · simp [addr_add]
      rw [e1]
      refine .own h1 ?_ (by omega) (by omega) (fun x hx => by cases hx)
      have : l.toNat ≤ cap := by omega
      have hmul : l.toNat * k.sz + (cap - l.toNat) * k.sz = cap * k.sz := by rw [← Nat.add_mul]; congr 1; omega
      omega
    · cases h
  | loc b off =>
    simp only at h
    split at h
    · rename_i n k sz t' cells l hk hb ha
      obtain ⟨e, i, hu, he, hi, hi1, hi2⟩ := tk_arr hk
      split at h
      · rename_i r hbb
        simp only [Option.some.injEq, Prod.mk.injEq] at h
        obtain ⟨rfl, rfl⟩ := h
        obtain ⟨B, sz', t'', h1, h2, h3⟩ := hm.cell hb
        obtain rfl := loc_inv hs h1
        have hvm : vm = none := by cases vm with | none => rfl | some _ => exact hmx.elim
        subst hvm
        obtain ⟨c0, c1, c2, c3, c4, c5⟩ := hvc
        have hb' := run_bounds (P := P) (w := w) hl hh (len := n) (cap := n) ha hbb c0 c1 c2 (Nat.le_refl _) false
        have hs' := ek_size he w
        have e1 : (if n = l.toNat then (⟨B, off, none⟩ : Addr) else (⟨B, off, none⟩ : Addr).add (l.toNat * k.sz)) = ⟨B, off + l.toNat * k.sz, none⟩ := by
          split
          · rename_i hc
            rcases c3 with c3 | c3
            · subst c3; simp
            · omega
          · simp [addr_add]
        refine ⟨.slice (some ⟨B, off + l.toNat * k.sz, none⟩) (r.toNat - l.toNat) (n - l.toNat), ?_, ?_⟩
        · simp [Instr.sliceAt, underlying, hu, Instr.sureAddr, hb', hs', Result.andThen, e1]
        · refine .own h1 ?_ (by omega) (by omega) (fun x hx => by cases hx)
          have hmul : l.toNat * k.sz + (n - l.toNat) * k.sz = n * k.sz := by rw [← Nat.add_mul]; congr 1; omega
          omega
      · cases h
    · cases h
  | _ => cases h

end Go.Bf

/-
  The operations that only read: soundness, fourth part: arithmetic, conversions; all of them together. Nothing is claimed here.
-/
namespace Go.Bf
open Go Go.RowKit
variable {P : Program}

theorem min_le_max (k : IntKind) : k.min ≤ k.max ∧ k.min ≤ 0 ∧ 0 ≤ k.max := by cases k <;> decide

theorem inK_wrap (k : IntKind) (n : Int) : InK k (k.wrap n) := wrap_within k n

theorem inK_fdiv {k : IntKind} {a : Int} (h : InK k a) (n : Nat) : InK k (a.fdiv (2 ^ n)) := by
  have hp : (0 : Int) < 2 ^ n := Int.pow_pos (by decide)
  have h1 : a.fdiv (2 ^ n) = a / 2 ^ n := Int.fdiv_eq_ediv_of_nonneg a (Int.le_of_lt hp)
  rw [h1]
  have hm := min_le_max k
  constructor
  · rcases Int.le_total 0 a with h0 | h0
    · exact Int.le_trans hm.2.1 (Int.ediv_nonneg h0 (Int.le_of_lt hp))
    · have : a ≤ a / 2 ^ n := by
        rw [Int.le_ediv_iff_mul_le hp]
        have h2 : (-a) * 1 ≤ (-a) * 2 ^ n := Int.mul_le_mul_of_nonneg_left (by omega) (by omega)
        rw [Int.neg_mul, Int.neg_mul, Int.mul_one] at h2
        omega
      exact Int.le_trans h.1 this
  · rcases Int.le_total 0 a with h0 | h0
    · exact Int.le_trans (Int.ediv_le_self _ h0) h.2
    · have : a / 2 ^ n ≤ 0 := by
        have := Int.ediv_le_ediv hp h0
        simpa using this
      exact Int.le_trans this hm.2.2

theorem tmod_le_self {a b : Int} (h : 0 ≤ a) : a.tmod b ≤ a := by
  have h1 := Int.tmod_nonneg b h
  have h2 : (a.tmod b).natAbs ≤ a.natAbs := by rw [Int.natAbs_tmod]; exact Nat.mod_le _ _
  omega

theorem inK_tmod {k : IntKind} {a : Int} (b : Int) (ha : InK k a) : InK k (a.tmod b) := by
  have hm := min_le_max k
  rcases Int.le_total 0 a with h0 | h0
  · exact ⟨Int.le_trans hm.2.1 (Int.tmod_nonneg b h0), Int.le_trans (tmod_le_self h0) ha.2⟩
  · have h1 : (-a).tmod b ≤ -a := tmod_le_self (by omega)
    have h2 := Int.tmod_nonneg b (show 0 ≤ -a by omega)
    rw [Int.neg_tmod] at h1 h2
    exact ⟨by have := ha.1; omega, by omega⟩

theorem eqGuard_plain (w : World) (op : BinOp) (t : TypeId) (x y : Operand) (u v : Value) (hu : ∀ cs, u ≠ .agg cs) (hu' : u ≠ .nilIface) : (eqGuard op t x y u v).run P w = .ok () w := by
  cases op <;> first
    | rfl
    | (unfold eqGuard
       simp only [Bool.not_true, Bool.false_eq_true, if_false]
       split
       · exact absurd rfl hu'
       · exact absurd rfl (hu _)
       · rfl)

theorem binInt_sound {x : Ctx} {w : World} {op : BinOp} {t : TypeId} {k k' : IntKind} {a b : Int} {s' : SV} {vc : Prop} (ha : InK k a) (hk : (isShift op || decide (k = k')) = true)
    (h : binInt op k a b = some (vc, s')) (hvc : vc) : ∃ z, (binOp op t (.int k a) (.int k' b)).run P w = .ok z w ∧ SRep x.J x.β z s' := by
  cases op <;> simp only [binInt, Option.some.injEq, Prod.mk.injEq] at h <;> obtain ⟨rfl, rfl⟩ := h <;> simp only [isShift, Bool.false_or, decide_eq_true_eq, Bool.true_or] at hk <;> (try subst hk)
  case shl =>
    have : ¬ b < 0 := by omega
    refine ⟨_, ?_, .d (.int (inK_wrap _ _))⟩
    simp [binOp, Op.shift, this]
  case shr =>
    have : ¬ b < 0 := by omega
    refine ⟨_, ?_, .d (.int (inK_fdiv ha _))⟩
    simp [binOp, Op.shift, this]
  case quo =>
    refine ⟨_, ?_, .d (.int (inK_wrap _ _))⟩
    simp [binOp, Op.intDiv, hvc]
  case rem =>
    refine ⟨_, ?_, .d (.int (inK_tmod _ ha))⟩
    simp [binOp, Op.intDiv, hvc]
  all_goals first
    | (refine ⟨_, ?_, .d .bool⟩; simp [binOp, Op.intCmp]; done)
    | (refine ⟨_, ?_, .d .bool⟩; simp [binOp, Op.intCmp]; rfl)
    | (refine ⟨_, ?_, .d (.int (inK_wrap _ _))⟩; simp [binOp, Op.intArith]; done)
    | (refine ⟨_, ?_, .d (.int (inK_wrap _ _))⟩; simp [binOp, Op.intBits, bitF]; done)

theorem run_equalIn_bool {w : World} {t : TypeId} (hu : P.underlying t = some .bool) (a b : Bool) (d : Nat) : (Op.equalIn (d + 1) t (.bool a) (.bool b)).run P w = .ok (a == b) w := by
  simp only [Op.equalIn, Sem.run_bind, run_underlying' hu, Result.andThen_ok]
  rfl
theorem run_equal_bool {w : World} {t : TypeId} (hu : P.underlying t = some .bool) (a b : Bool) : (Op.equal t (.bool a) (.bool b)).run P w = .ok (a == b) w :=
  run_equalIn_bool hu a b 9999

theorem mapM_get {α β : Type} {f : α → Option β} : ∀ {l : List α} {r : List β}, l.mapM f = some r → r.length = l.length ∧ ∀ (i : Nat) a b, l[i]? = some a → r[i]? = some b → f a = some b := by
  intro l
  induction l with
  | nil => intro r h; simp at h; subst h; exact ⟨rfl, fun i a b h => by simp at h⟩
  | cons x l ih =>
    intro r h
    simp only [List.mapM_cons, Option.bind_eq_bind, Option.bind_eq_some_iff, Option.pure_def, Option.some.injEq] at h
    obtain ⟨y, hy, r', hr, rfl⟩ := h
    obtain ⟨h1, h2⟩ := ih hr
    refine ⟨by simp [h1], fun i a b ha hb => ?_⟩
    cases i with
    | zero => simp at ha hb; subst ha hb; exact hy
    | succ i => exact h2 i a b (by simpa using ha) (by simpa using hb)

theorem u8Of_rep {J : Imm} {cs : List Value} {ds : List DV} {p : List Int} (hl : cs.length = ds.length) (h : ∀ (i : Nat) v d, cs[i]? = some v → ds[i]? = some d → Rep J v d) (hp : ds.mapM u8Of = some p) : cs = p.map (Value.int .u8) := by
  obtain ⟨g1, g2⟩ := mapM_get hp
  apply List.ext_getElem?
  intro i
  rw [List.getElem?_map]
  by_cases hi : i < ds.length
  · have h1 : cs[i]? = some cs[i] := List.getElem?_eq_getElem (by omega)
    have h2 : ds[i]? = some ds[i] := List.getElem?_eq_getElem hi
    have h3 : p[i]? = some p[i] := List.getElem?_eq_getElem (by omega)
    have hr := h i _ _ h1 h2
    have hu := g2 i _ _ h2 h3
    rw [h1, h3, Option.map_some]
    generalize cs[i] = c at hr
    generalize ds[i] = d at hr hu
    cases d <;> simp only [u8Of] at hu <;> try (cases hu; done)
    rename_i k n
    cases k <;> simp only [u8Of] at hu <;> cases hu
    cases hr; rfl
  · rw [List.getElem?_eq_none (by omega), List.getElem?_eq_none (by omega)]; rfl
theorem run_eqItems_u8 {w : World} {e : TypeId} (he : P.underlying e = some (.int .u8)) (d : Nat) (p q : List Int) (hpq : p.length = q.length) : ∀ (n k : Nat), k + n = p.length →
    (Op.eqItems (d + 1) e 1 (p.map (Value.int .u8)).toArray (q.map (Value.int .u8)).toArray (List.range' k n)).run P w = .ok (decide (p.drop k = q.drop k)) w
  | 0, k, h => by
    rw [List.drop_of_length_le (by omega), List.drop_of_length_le (by omega)]
    simp [Op.eqItems]
  | n + 1, k, h => by
    have h1 : k < p.length := by omega
    have h2 : k < q.length := by omega
    have hp : (part e (p.map (Value.int .u8)).toArray k).run P w = .ok (.int .u8 p[k]) w := run_part_plain w (by simp [Program.plainKey, he]) (by simp [h1])
    have hq : (part e (q.map (Value.int .u8)).toArray k).run P w = .ok (.int .u8 q[k]) w := run_part_plain w (by simp [Program.plainKey, he]) (by simp [h2])
    have heq : (Op.equalIn (d + 1) e (.int .u8 p[k]) (.int .u8 q[k])).run P w = .ok (p[k] == q[k]) w := by
      simp only [Op.equalIn, Sem.run_bind, run_underlying' he, Result.andThen_ok]; rfl
    rw [List.range'_succ, Op.eqItems, Nat.mul_one]
    simp only [Sem.run_bind, hp, hq, Result.andThen_ok, heq]
    have ih := run_eqItems_u8 (w := w) he d p q hpq n (k + 1) (by omega)
    have key : (p.drop k = q.drop k) ↔ (p[k] = q[k] ∧ p.drop (k + 1) = q.drop (k + 1)) := by
      rw [List.drop_eq_getElem_cons h1, List.drop_eq_getElem_cons h2, List.cons.injEq]
    have key2 : decide (p.drop k = q.drop k) = (decide (p[k] = q[k]) && decide (p.drop (k + 1) = q.drop (k + 1))) := by
      rw [← Bool.decide_and]; exact decide_eq_decide.2 key
    rw [key2]
    by_cases hx : p[k] = q[k]
    · simp only [hx, beq_self_eq_true, Bool.not_true, Bool.false_eq_true, if_false, decide_true, Bool.true_and]
      exact ih
    · have : (p[k] == q[k]) = false := by simpa using hx
      simp [this, hx]
theorem arrEqF_sound {x : Ctx} {w : World} {op : BinOp} {t : TypeId} {pp qq : Operand} {u v : Value} {a b : List DV} {s' : SV} {vc : Prop} (hs : SRep x.J x.β u (.d (.agg a))) (hr : SRep x.J x.β v (.d (.agg b)))
    (h : arrEqF P op t a b = some (vc, s')) : ∃ z, (do eqGuard op t pp qq u v; binOp op t u v : Sem Value).run P w = .ok z w ∧ SRep x.J x.β z s' := by
  unfold arrEqF at h
  have h1 := d_inv hs
  have h2 := d_inv hr
  split at h
  · rename_i n ek sz hk
    obtain ⟨e, i, hu, hek, _⟩ := tk_arr hk
    split at h
    · rename_i hc
      simp only [Bool.and_eq_true, decide_eq_true_eq, Bool.not_eq_true'] at hc
      obtain ⟨⟨⟨⟨hu8, hal⟩, hbl⟩, hgd⟩, hz1⟩ := hc
      obtain ⟨ie, k1, k2, k3, k4, k5, k6, k7⟩ := ek_info hek
      have he : P.underlying e = some (.int .u8) := by
        rw [← k5] at hu8
        unfold isU8 at hu8
        split at hu8
        · assumption
        · cases hu8
      split at h
      · rename_i p q hp hq
        cases h1 with
        | @agg cs _ hl1 hh1 =>
          cases h2 with
          | @agg ds _ hl2 hh2 =>
            have e1 := u8Of_rep (cs := cs.toList) (by simpa using hl1) (fun i v d g1 g2 => hh1 i v d (by simpa using g1) g2) hp
            have e2 := u8Of_rep (cs := ds.toList) (by simpa using hl2) (fun i v d g1 g2 => hh2 i v d (by simpa using g1) g2) hq
            have e1' : cs = (p.map (Value.int .u8)).toArray := by rw [← e1]
            have e2' : ds = (q.map (Value.int .u8)).toArray := by rw [← e2]
            have hpl := (mapM_get hp).1
            have hql := (mapM_get hq).1
            have hsz : ie.size = 1 := by rw [k2, hz1]
            have heq : (Op.equal t (.agg cs) (.agg ds)).run P w = .ok (decide (p = q)) w := by
              show (Op.equalIn (9999 + 1) t _ _).run P w = _
              rw [run_equalIn_array w 9999 cs ds hu k1, show P.cellsOf e = 1 by simp [Program.cellsOf, k1, hsz], e1', e2', List.range_eq_range']
              have := run_eqItems_u8 (P := P) (w := w) he 9998 p q (by omega) n 0 (by omega)
              simpa using this
            cases op <;> simp only [Option.some.injEq, Prod.mk.injEq, reduceCtorEq] at h <;> obtain ⟨rfl, rfl⟩ := h
            · have hg : (eqGuard .eql t pp qq (.agg cs) (.agg ds)).run P w = .ok () w := by simp [eqGuard, run_program, hgd, Result.andThen]
              exact ⟨_, by simp only [Sem.run_bind, hg, Result.andThen_ok, binOp, heq, Sem.run_pure], .d .bool⟩
            · have hg : (eqGuard .neq t pp qq (.agg cs) (.agg ds)).run P w = .ok () w := by simp [eqGuard, run_program, hgd, Result.andThen]
              exact ⟨_, by simp only [Sem.run_bind, hg, Result.andThen_ok, binOp, heq, Sem.run_pure], .d .bool⟩
      · cases h
    · cases h
  · cases h

theorem binF_sound {x : Ctx} {w : World} {op : BinOp} {t : TypeId} {p q : Operand} {u v : Value} {s r s' : SV} {vc : Prop} (hs : SRep x.J x.β u s) (hr : SRep x.J x.β v r)
    (h : binF P op t s r = some (vc, s')) (hvc : vc) : ∃ z, (do eqGuard op t p q u v; binOp op t u v : Sem Value).run P w = .ok z w ∧ SRep x.J x.β z s' := by
  unfold binF at h
  split at h
  · rename_i k a k' b
    split at h
    · rename_i hk
      have h1 := d_inv hs
      have h2 := d_inv hr
      cases h1 with
      | int ha =>
        cases h2 with
        | int hb =>
          have hg := eqGuard_plain (P := P) w op t p q (.int k a) (.int k' b) (by simp) (by simp)
          simp only [Sem.run_bind, hg, Result.andThen_ok]
          exact binInt_sound ha hk h hvc
    · cases h
  · rename_i a b
    have h1 := d_inv hs
    have h2 := d_inv hr
    cases h1; cases h2
    have hg := eqGuard_plain (P := P) w op t p q (.bool a) (.bool b) (by simp) (by simp)
    simp only [Sem.run_bind, hg, Result.andThen_ok]
    split at h
    · rename_i hk
      have hu := tk_bool hk
      simp only [Option.some.injEq, Prod.mk.injEq] at h
      obtain ⟨rfl, rfl⟩ := h
      refine ⟨_, ?_, .d .bool⟩
      simp only [binOp, Sem.run_bind, run_equal_bool hu, Result.andThen_ok, Sem.run_pure]
    · rename_i hk
      have hu := tk_bool hk
      simp only [Option.some.injEq, Prod.mk.injEq] at h
      obtain ⟨rfl, rfl⟩ := h
      refine ⟨_, ?_, .d .bool⟩
      simp only [binOp, Sem.run_bind, run_equal_bool hu, Result.andThen_ok, Sem.run_pure]
    · cases h
  · rename_i a b
    have h1 := d_inv hs
    have h2 := d_inv hr
    cases h1 with
    | str hl =>
      cases h2 with
      | str hl' =>
        have hg := eqGuard_plain (P := P) w op t p q (.string ⟨a.toArray⟩) (.string ⟨b.toArray⟩) (by simp) (by simp)
        simp only [Sem.run_bind, hg, Result.andThen_ok]
        have ea : (⟨a.toArray⟩ : ByteArray).toList = a := by rw [ByteArray.toList_eq]
        have eb : (⟨b.toArray⟩ : ByteArray).toList = b := by rw [ByteArray.toList_eq]
        cases op <;> simp only [Option.some.injEq, Prod.mk.injEq, reduceCtorEq] at h <;> obtain ⟨rfl, rfl⟩ := h
        case add =>
          have hlen : ¬ (((⟨a.toArray⟩ : ByteArray).size + (⟨b.toArray⟩ : ByteArray).size : Nat) : Int) > IntKind.i64.max := by
            simp only [ByteArray.size, List.size_toArray, IntKind.max, IntKind.signed, IntKind.bits]
            simp only [maxLen] at hvc
            simp; omega
          refine ⟨.string ⟨(a ++ b).toArray⟩, ?_, .d (.str (by simpa using hvc))⟩
          simp only [binOp, Op.stringOp, hlen, if_false]
          simp only [Sem.run_pure, Result.ok.injEq, Value.string.injEq, and_true]
          apply ByteArray.ext
          simp
        all_goals
          refine ⟨_, ?_, .d .bool⟩
          simp only [binOp, Op.stringOp, ea, eb, Sem.run_pure, Result.ok.injEq, and_true, Value.bool.injEq]
        all_goals (rw [Bool.eq_iff_iff]; simp)
  · exact arrEqF_sound hs hr h
  · cases h

theorem unF_sound {x : Ctx} {w : World} {op : UnOp} {u : Value} {s s' : SV} {vc : Prop} (hs : SRep x.J x.β u s)
    (h : unF op s = some (vc, s')) : ∃ z, (Op.unary op u).run P w = .ok z w ∧ SRep x.J x.β z s' := by
  unfold unF at h
  split at h
  · have h1 := d_inv hs
    cases h1
    simp only [Option.some.injEq, Prod.mk.injEq] at h
    obtain ⟨rfl, rfl⟩ := h
    exact ⟨_, by simp [Op.unary], .d .bool⟩
  · have h1 := d_inv hs
    cases h1
    simp only [Option.some.injEq, Prod.mk.injEq] at h
    obtain ⟨rfl, rfl⟩ := h
    refine ⟨_, ?_, .d (.int (inK_wrap _ _))⟩
    simp [Op.unary, Op.intArith]
  · have h1 := d_inv hs
    cases h1
    simp only [Option.some.injEq, Prod.mk.injEq] at h
    obtain ⟨rfl, rfl⟩ := h
    refine ⟨_, ?_, .d (.int (inK_wrap _ _))⟩
    simp [Op.unary, Op.intBits, bitF]
  · cases h

end Go.Bf

/-
  The operations that only read, all together. Nothing is claimed here.
-/
namespace Go.Bf
open Go Go.RowKit
variable {P : Program}

theorem isU8_eq {t : TypeId} (h : isU8 P t = true) : P.underlying t = some (.int .u8) := by
  unfold isU8 at h; split at h
  · assumption
  · cases h

theorem bytesOf_eq {xs : List (List DV)} : ∀ (_ : IsBytes xs) (i : Nat), i < xs.length → ∃ n, xs[i]? = some [.int .u8 n] ∧ (bytesOf xs)[i]? = some (UInt8.ofNat n.toNat) := by
  induction xs with
  | nil => intro _ i hi; simp at hi
  | cons r xs ih =>
    intro h i hi
    obtain ⟨n, rfl⟩ := h r (by simp)
    cases i with
    | zero => exact ⟨n, rfl, rfl⟩
    | succ i => exact ih (fun q hq => h q (by simp [hq])) i (by simpa using hi)
theorem bytesOf_len : ∀ (xs : List (List DV)), (bytesOf xs).length = xs.length := by
  intro xs
  induction xs with
  | nil => rfl
  | cons r xs ih => unfold bytesOf; split <;> simp_all

/-- The numbers that rows of one cell each are. -/
def numsOf : List (List DV) → List Int
  | [.int .u8 n] :: r => n :: numsOf r
  | _ :: r => 0 :: numsOf r
  | [] => []
theorem numsOf_len : ∀ (xs : List (List DV)), (numsOf xs).length = xs.length := by
  intro xs
  induction xs with
  | nil => rfl
  | cons r xs ih => unfold numsOf; split <;> simp_all
theorem bytesOf_nums {xs : List (List DV)} (h : IsBytes xs) : bytesOf xs = (numsOf xs).map fun n => UInt8.ofNat n.toNat := by
  induction xs with
  | nil => rfl
  | cons r xs ih =>
    obtain ⟨n, rfl⟩ := h r (by simp)
    simp [bytesOf, numsOf, ih fun q hq => h q (by simp [hq])]
theorem numsOf_get {xs : List (List DV)} (h : IsBytes xs) {i : Nat} (hi : i < xs.length) : xs[i]? = some [.int .u8 ((numsOf xs).getD i 0)] := by
  induction xs generalizing i with
  | nil => simp at hi
  | cons r xs ih =>
    obtain ⟨n, rfl⟩ := h r (by simp)
    cases i with
    | zero => simp [numsOf]
    | succ i => simpa [numsOf] using ih (fun q hq => h q (by simp [hq])) (by simpa using hi)

theorem run_conv_bytes {x : Ctx} {K : Know} {a : Act} {w : World} (hm : Models x K a w) {src dst e : TypeId} (hs : P.underlying src = some (.slice e)) (he : P.underlying e = some (.int .u8)) (hd : P.underlying dst = some .string)
    {v : Value} {xs : List (List DV)} (hv : Rep x.J v (.list xs)) (hb : IsBytes xs) : ∃ z, (convert src dst v).run P w = .ok z w ∧ SRep x.J x.β z (.d (.str (bytesOf xs))) := by
  have hlen : xs.length ≤ maxLen := by
    obtain ⟨ad, cap, rfl⟩ := rep_list_inv hv
    have := rep_list_some hv; omega
  have hrep : SRep x.J x.β (.string (strOfNums (numsOf xs))) (.d (.str (bytesOf xs))) := by
    rw [bytesOf_nums hb]
    exact .d (.str (by rw [List.length_map, numsOf_len]; exact hlen))
  cases hv with
  | @empty ad cap hc =>
    cases ad with
    | none => exact ⟨_, run_convert_bytes_nil w src e hs he _ _ dst hd, .d (.str (by simp))⟩
    | some ad =>
      refine ⟨_, ?_, .d (.str (by simp [bytesOf]))⟩
      rw [run_convert_bytes_string w src dst e _ _ _ hs he hd, run_bytesToString w ad 0 cap [] (by simp [loadCells, loadCellsFrom])]
      rfl
  | @slice b off cap wd _ vs hcap hmx hw hc hr =>
    refine ⟨_, run_convert_bytes_arg w src e hs he b off _ cap (numsOf xs) (numsOf_len xs) (fun i hi => ?_) dst hd, hrep⟩
    have hx := numsOf_get hb hi
    have hwd : wd = 1 := by rw [← hw _ (List.mem_of_getElem? hx)]; rfl
    subst hwd
    have h1 := hm.cellJ (hc i 0 hi (by omega))
    have h2 := hr i 0 _ _ hx rfl
    rw [Nat.mul_one, Nat.add_zero] at h1
    rw [h1]
    generalize vs i 0 = u at h2
    cases h2 with | int _ => rfl

theorem ownCells_get {mem : Mem} {b wd off len : Nat} {cells : List SV} (h : ownCells mem b wd off len = some cells) : ∃ t all, mem b = .live t all ∧ cells = (all.drop off).take (len * wd) := by
  unfold ownCells at h
  split at h
  · rename_i t all hb; cases h; exact ⟨t, all, hb, rfl⟩
  · cases h

theorem tk_ok {t : TypeId} (h : (tk P t).ok = true) : ∃ d, P.underlying t = some d := by
  cases hu : P.underlying t with
  | none => simp [tk, hu, TK.ok] at h
  | some d => exact ⟨d, rfl⟩

theorem tk_conc {t : TypeId} (h : (tk P t).conc = true) : ∃ d, P.underlying t = some d ∧ ∀ ms, d ≠ .interface ms := by
  cases hu : P.underlying t with
  | none => simp [tk, hu, TK.conc] at h
  | some d =>
    refine ⟨d, rfl, fun ms e => ?_⟩
    subst e
    simp [tk, hu, TK.conc] at h

theorem convF_sound {x : Ctx} {K : Know} {a : Act} {w : World} (hm : Models x K a w) {src dst : TypeId} {u : Value} {s s' : SV} {vc : Prop} (hs : SRep x.J x.β u s)
    (h : convF P K.mem src dst s = some (vc, s')) (hvc : vc) : ∃ z, (convert src dst u).run P w = .ok z w ∧ SRep x.J x.β z s' := by
  unfold convF at h
  have hsrc : ∀ {k : EK}, tk P src = .slice k → k.u8 = true → ∃ e, P.underlying src = some (.slice e) ∧ P.underlying e = some (.int .u8) := fun hk h8 => by
    obtain ⟨e, hu, he⟩ := tk_slice hk
    obtain ⟨i, h1, h2, h3, h4, h5, h6, h7⟩ := ek_info he
    exact ⟨e, hu, isU8_eq (h5.trans h8)⟩
  split at h
  · rename_i k k' n hk
    have hu := tk_int hk
    split at h
    · rename_i hok
      obtain ⟨d, hd⟩ := tk_ok hok
      simp only [Option.some.injEq, Prod.mk.injEq] at h
      obtain ⟨rfl, rfl⟩ := h
      have h1 := d_inv hs
      cases h1
      refine ⟨_, ?_, .d (.int (inK_wrap _ _))⟩
      simp only [convert, Sem.run_bind, run_underlying' hd, run_underlying' hu, Result.andThen_ok]
      rfl
    · cases h
  · rename_i l hk
    have hu := tk_str hk
    split at h
    · rename_i hok
      obtain ⟨d, hd⟩ := tk_ok hok
      simp only [Option.some.injEq, Prod.mk.injEq] at h
      obtain ⟨rfl, rfl⟩ := h
      have h1 := d_inv hs
      cases h1 with
      | str hl =>
        refine ⟨_, ?_, .d (.str hl)⟩
        simp only [convert, Sem.run_bind, run_underlying' hd, run_underlying' hu, Result.andThen_ok]
        rfl
    · cases h
  · rename_i xs hk
    split at h
    · rename_i k hk'
      split at h
      · rename_i h8
        simp only [Option.some.injEq, Prod.mk.injEq] at h
        obtain ⟨rfl, rfl⟩ := h
        obtain ⟨e, e1, e2⟩ := hsrc hk' h8
        exact run_conv_bytes hm e1 e2 (tk_str hk) (d_inv hs) hvc
      · cases h
    · cases h
  · rename_i xs hk
    split at h
    · rename_i k hk'
      split at h
      · rename_i h8
        simp only [Option.some.injEq, Prod.mk.injEq] at h
        obtain ⟨rfl, rfl⟩ := h
        obtain ⟨e, e1, e2⟩ := hsrc hk' h8
        obtain ⟨_, _, hv⟩ := clip_inv hs
        exact run_conv_bytes hm e1 e2 (tk_str hk) hv hvc
      · cases h
    · cases h
  · rename_i b wd off len c hk
    split at h
    · rename_i k hk'
      split at h
      · rename_i h8
        obtain ⟨e, e1, e2⟩ := hsrc hk' h8
        split at h
        · rename_i cells hc
          split at h
          · rename_i ds hds
            simp only [Option.some.injEq, Prod.mk.injEq] at h
            obtain ⟨rfl, rfl⟩ := h
            obtain ⟨t, all, hb, rfl⟩ := ownCells_get hc
            obtain ⟨g1, rfl, g3⟩ := hvc
            obtain ⟨B, sz, t'', h1, h2, h3⟩ := hm.cell hb
            obtain ⟨cap, rfl, g4, g5, g6, _⟩ := own_inv hs h1
            have hall := allD_eq hds
            refine ⟨_, run_convert_bytes_arg w src e e1 e2 B off len cap (numsOf (ds.map fun d => [d])) (by rw [numsOf_len, List.length_map, g3]) (fun i hi => ?_) dst (tk_str hk), ?_⟩
            · have hx := numsOf_get g1 (i := i) (by rw [List.length_map]; omega)
              have hcell : all[off + i]? = some (.d (.int .u8 ((numsOf (ds.map fun d => [d])).getD i 0))) := by
                have : ((all.drop off).take (len * 1))[i]? = (ds.map SV.d)[i]? := by rw [hall]
                rw [List.getElem?_take, if_pos (by omega), List.getElem?_drop] at this
                rw [this]
                rw [List.getElem?_map, Option.map_eq_some_iff] at hx ⊢
                obtain ⟨d, hd, he⟩ := hx
                simp only [List.cons.injEq, and_true] at he
                exact ⟨d, hd, by rw [he]⟩
              obtain ⟨v, e3, r⟩ := h3 _ _ hcell
              rw [e3]
              have := d_inv r
              generalize (numsOf (ds.map fun d => [d])).getD i 0 = q at this
              cases this with | int _ => rfl
            · rw [bytesOf_nums g1]
              exact .d (.str (by rw [List.length_map, numsOf_len, List.length_map]; omega))
          · cases h
        · cases h
      · cases h
    · cases h
  · cases h

theorem extractF_sound {x : Ctx} {w : World} {i : Nat} {u : Value} {s s' : SV} {vc : Prop} (hs : SRep x.J x.β u s) (h : extractF i s = some (vc, s')) : ∃ z, (Instr.extract u i).run P w = .ok z w ∧ SRep x.J x.β z s' := by
  unfold extractF at h
  split at h
  · rename_i ds
    simp only [Option.map_eq_some_iff, Prod.mk.injEq] at h
    obtain ⟨d, hd, rfl, rfl⟩ := h
    have h1 := d_inv hs
    cases h1 with
    | @tup cs _ hl hh =>
      have hlt : i < cs.size := by rw [hl]; exact (List.getElem?_eq_some_iff.1 hd).1
      exact ⟨cs[i], by simp [Instr.extract, hlt], .d (hh i _ _ (Array.getElem?_eq_getElem hlt) hd)⟩
  · cases h

theorem lenF_sound {x : Ctx} {K : Know} {a : Act} {w : World} (hm : Models x K a w) {u : Value} {s : SV} {n : Nat} (hs : SRep x.J x.β u s) (h : lenF K.mem s = some n) :
    ∃ ad cap, u = .slice ad n cap ∧ n ≤ maxLen := by
  unfold lenF at h
  split at h
  · rename_i xs
    cases h
    obtain ⟨ad, cap, rfl⟩ := rep_list_inv (d_inv hs)
    have := rep_list_some (d_inv hs)
    exact ⟨ad, cap, rfl, by omega⟩
  · cases h
    obtain ⟨ad, rfl, hv⟩ := clip_inv hs
    have := rep_list_some hv
    exact ⟨ad, _, rfl, by omega⟩
  · split at h
    · rename_i t cells hb
      cases h
      obtain ⟨B, sz, t'', h1, h2, h3⟩ := hm.cell hb
      obtain ⟨cap, rfl, g4, g5, g6, _⟩ := own_inv hs h1
      exact ⟨_, cap, rfl, by omega⟩
    · cases h
  · cases h

theorem lenS_sound {x : Ctx} {u : Value} {s : SV} {n : Nat} (hs : SRep x.J x.β u s) (h : lenS s = some n) :
    ∃ l : List UInt8, u = .string ⟨l.toArray⟩ ∧ n = l.length ∧ n ≤ maxLen := by
  unfold lenS at h
  split at h
  · cases h
    have h1 := d_inv hs
    cases h1 with | str hl => exact ⟨_, rfl, rfl, hl⟩
  · cases h

theorem rdO_sound {x : Ctx} {a : Act} {rd : Operand → Option SV} {q : Option Operand} {s : Option SV} (hrd : ∀ u, q = some u → ∀ s, rd u = some s → SRep x.J x.β (a.eval u) s) (h : rdO rd q = some s) : OptR x (q.map a.eval) s := by
  cases q with
  | none => simp only [rdO, Option.some.injEq] at h; subst h; trivial
  | some u =>
    simp only [rdO, Option.map_eq_some_iff] at h
    obtain ⟨s', h1, rfl⟩ := h
    exact hrd u rfl s' h1

theorem maxF_sound {x : Ctx} {u v : Value} {s r s' : SV} {mx : Bool} {vc : Prop} (hs : SRep x.J x.β u s) (hr : SRep x.J x.β v r) (h : maxF mx s r = some (vc, s')) :
    ∃ k a b, u = .int k a ∧ v = .int k b ∧ s' = .d (.int k (if (if mx then b > a else b < a) then b else a)) ∧ SRep x.J x.β (.int k (if (if mx then b > a else b < a) then b else a)) s' := by
  unfold maxF at h
  split at h
  · rename_i k a k' b
    split at h
    · rename_i e
      subst e
      simp only [Option.some.injEq, Prod.mk.injEq] at h
      obtain ⟨_, rfl⟩ := h
      obtain ⟨rfl, ha⟩ := intOf'_inv hs (k := k) (n := a) rfl
      obtain ⟨rfl, hb⟩ := intOf'_inv hr (k := k) (n := b) rfl
      refine ⟨k, a, b, rfl, rfl, rfl, .d (.int ?_)⟩
      split <;> split <;> assumption
    · cases h
  · cases h
theorem maxL_sound {x : Ctx} {a : Act} {w : World} {mx : Bool} {args : Array Operand} {ts : Array TypeId} {ty : TypeId} {rd : Operand → Option SV} (hrd : ∀ u ∈ args.toList, ∀ s, rd u = some s → SRep x.J x.β (a.eval u) s) {vc : Prop} {s : SV}
    (h : maxL mx rd args.toList = some (vc, s)) : ∃ v, ((if mx then Builtin.max_ ts ty (args.map a.eval) else Builtin.min_ ts ty (args.map a.eval))).run P w = .ok v w ∧ SRep x.J x.β v s := by
  generalize hl : args.toList = l at h hrd
  unfold maxL at h
  split at h
  · rename_i p q
    simp only [Option.bind_eq_some_iff] at h
    obtain ⟨s1, h1, s2, h2, h3⟩ := h
    obtain ⟨k, m, n, e1, e2, e3, r⟩ := maxF_sound (hrd p (by simp) _ h1) (hrd q (by simp) _ h2) h3
    have ha : args = #[p, q] := by cases args; simp_all
    subst ha
    refine ⟨_, ?_, r⟩
    cases mx <;> simp [e1, e2, run_max_int2, run_min_int2]
  · rename_i p q z
    simp only [Option.bind_eq_some_iff] at h
    obtain ⟨s1, h1, s2, h2, s3, h3, ⟨vc', s4⟩, h4, h5⟩ := h
    obtain ⟨k, m, n, e1, e2, e3, r⟩ := maxF_sound (hrd p (by simp) _ h1) (hrd q (by simp) _ h2) h4
    obtain ⟨k', m', n', e1', e2', e3', r'⟩ := maxF_sound r (hrd z (by simp) _ h3) h5
    have ha : args = #[p, q, z] := by cases args; simp_all
    subst ha
    simp only [Value.int.injEq] at e1'
    obtain ⟨rfl, rfl⟩ := e1'
    refine ⟨_, ?_, r'⟩
    cases mx
    · simp [e1, e2, e2', Builtin.min_, Builtin.min2]
    · simp [e1, e2, e2', Builtin.max_, Builtin.max2]
  · cases h
/-! ### Maps -/
theorem zeroDV_rep {J : Imm} {v : Value} {d : DV} (h : zeroDV v = some d) : Rep J v d ∧ v.oneCell' = true := by
  unfold zeroDV at h
  split at h
  · rename_i k n
    split at h
    · rename_i hn; subst hn; cases h
      exact ⟨.int ⟨(min_le_max k).2.1, (min_le_max k).2.2⟩, rfl⟩
    · cases h
  · cases h; exact ⟨.bool, rfl⟩
  · rename_i s
    split at h
    · rename_i hs
      cases h
      obtain ⟨⟨l⟩⟩ := s
      simp only at hs
      have : l = [] := by simpa using hs
      subst this
      exact ⟨.str (by simp [maxLen]), rfl⟩
    · cases h
  · cases h; exact ⟨.empty (by simp [maxLen]), rfl⟩
  · cases h; exact ⟨.nilp, rfl⟩
  · cases h; exact ⟨.nilf, rfl⟩
  · cases h; exact ⟨.nili, rfl⟩
  · cases h; exact ⟨.nilm, rfl⟩
  · cases h


def TK.desc : TK → TypeDesc
  | .int k => .int k
  | .str => .string
  | _ => .bool
theorem mapT_inv {t : TypeId} {kt : TK} {z : DV} (h : mapT P t = some (kt, z)) : ∃ k e, P.underlying t = some (.map k e) ∧ P.underlying k = some kt.desc ∧ ∀ (w : World) (J : Imm), ∃ v, (zeroValue e).run P w = .ok v w ∧ Rep J v z := by
  have zero : ∀ {e : TypeId}, zeroV P e = some z → ∀ (w : World) (J : Imm), ∃ v, (zeroValue e).run P w = .ok v w ∧ Rep J v z := fun {e} hz w J => by
    unfold zeroV at hz
    split at hz
    · rename_i i hi
      split at hz
      · rename_i cs hc
        rw [Option.map_eq_some_iff] at hz
        obtain ⟨ds, hds, rfl⟩ := hz
        obtain ⟨g1, g2⟩ := mapM_get hds
        exact ⟨.agg cs, by simp [zeroValue, typeInfo, hi, hc], .agg (by simpa using g1.symm) fun i v d h1 h2 => (zeroDV_rep (g2 i v d (by simpa using h1) h2)).1⟩
      · rename_i v hv _
        exact ⟨v, by simp [zeroValue, typeInfo, *], (zeroDV_rep hz).1⟩
      · cases hz
    · cases hz
  unfold mapT at h
  split at h
  · rename_i k e hu
    split at h
    · rename_i i hk
      rw [Option.map_eq_some_iff] at h
      obtain ⟨z', hz, h⟩ := h; cases h
      exact ⟨k, e, hu, tk_int hk, zero hz⟩
    · rename_i hk
      rw [Option.map_eq_some_iff] at h
      obtain ⟨z', hz, h⟩ := h; cases h
      exact ⟨k, e, hu, tk_str hk, zero hz⟩
    · rename_i hk
      rw [Option.map_eq_some_iff] at h
      obtain ⟨z', hz, h⟩ := h; cases h
      exact ⟨k, e, hu, tk_bool hk, zero hz⟩
    · cases h
  · cases h

theorem isKey_val {J : Imm} {kt : TK} {v : Value} {d : DV} (h : isKey kt d) (hr : Rep J v d) : MapKept.IsKey kt.desc v := by
  cases kt <;> cases d <;> simp only [isKey] at h <;> cases hr <;> simp [TK.desc, MapKept.IsKey]
  exact h
theorem sameNow_rep {J : Imm} {kt : TK} {u v : Value} {d e : DV} (hd : isKey kt d) (he : isKey kt e) (hu : Rep J u d) (hv : Rep J v e) : Instr.sameNow kt.desc u v = some (keyB d e) := by
  cases kt <;> cases d <;> simp only [isKey] at hd <;> cases e <;> simp only [isKey] at he <;> cases hu <;> cases hv <;> simp only [TK.desc, Instr.sameNow, keyB]
  · subst hd; subst he
    simp only [if_true, Option.some.injEq]
    rw [Bool.eq_iff_iff]; simp
  · rename_i a _ b _
    rw [Option.some.injEq, Bool.eq_iff_iff, MapKept.bytes_beq, decide_eq_true_eq]
    constructor
    · intro e; simpa using e
    · rintro rfl; rfl

theorem look_core {α : Type} {J : Imm} {kt : TK} {u : Value} {k : DV} (hk : isKey kt k) (hu : Rep J u k) {Rv : Value → α → Prop} : ∀ (ms : List MapEntry) (es : List (DV × α)) (n : Nat), ms.length = es.length →
    (∀ (i : Nat) m q, ms[i]? = some m → es[i]? = some q → Rep J m.key q.1 ∧ Rv m.val q.2) → (∀ e ∈ es, isKey kt e.1) →
    (∃ z j m, Instr.findNow kt.desc u ms n = some (some (n + j, m.val)) ∧ ms[j]? = some m ∧ m.key = u ∧ getE k es = some z ∧ Rv m.val z ∧ ∀ x, updE k x es = es.set j (k, x)) ∨
    (Instr.findNow kt.desc u ms n = some none ∧ (∀ m ∈ ms, m.key ≠ u) ∧ getE k es = none ∧ ∀ x, updE k x es = es ++ [(k, x)])
  | [], [], n, _, _, _ => .inr ⟨rfl, by simp, rfl, fun _ => rfl⟩
  | m :: ms, e :: es, n, hl, hr, hks => by
    have h0 := hr 0 m e rfl rfl
    have hke := hks e (by simp)
    have hs := sameNow_rep hk hke hu h0.1
    obtain ⟨r, hr2, hiff⟩ := MapKept.sameNow_of_keys (isKey_val hk hu) (isKey_val hke h0.1)
    rw [hs] at hr2; cases hr2
    by_cases hb : keyB k e.1 = true
    · exact .inl ⟨e.2, 0, m, by simp [Instr.findNow, hs, hb], rfl, (hiff.1 hb).symm, by simp [getE, hb], h0.2, fun x => by simp [updE, hb]⟩
    · have hbf : keyB k e.1 = false := by simpa using hb
      rcases look_core hk hu ms es (n + 1) (by simpa using hl) (fun i m q h1 h2 => hr (i + 1) m q (by simpa using h1) (by simpa using h2)) (fun e he => hks e (by simp [he])) with ⟨z, j, m', g1, g2, g3, g4, g5, g6⟩ | ⟨g1, g2, g3, g4⟩
      · exact .inl ⟨z, j + 1, m', by simp [Instr.findNow, hs, hbf, g1]; omega, by simpa using g2, g3, by simp [getE, hbf, g4], g5, fun x => by simp [updE, hbf, g6]⟩
      · refine .inr ⟨by simp [Instr.findNow, hs, hbf, g1], fun m' hm' => ?_, by simp [getE, hbf, g3], fun x => by simp [updE, hbf, g4]⟩
        rcases List.mem_cons.1 hm' with rfl | h
        · exact fun e => hb (hiff.2 e.symm)
        · exact g2 m' h
  | [], _ :: _, _, hl, _, _ => by simp at hl
  | _ :: _, [], _, hl, _, _ => by simp at hl

theorem getE_zip {k : DV} : ∀ {es : List (DV × SV)} {ds : List DV}, allD (es.map (·.2)) = some ds → (getE k es = none → getE k ((es.map (·.1)).zip ds) = none) ∧ ∀ s, getE k es = some s → ∃ d, s = .d d ∧ getE k ((es.map (·.1)).zip ds) = some d := by
  intro es
  induction es with
  | nil => intro ds h; simp [allD] at h; subst h; simp [getE]
  | cons e es ih =>
    intro ds h
    have h' := allD_eq h
    cases ds with
    | nil => simp at h'
    | cons d ds =>
      simp only [List.map_cons, List.cons.injEq] at h'
      obtain ⟨h1, h2⟩ := h'
      obtain ⟨i1, i2⟩ := ih (ds := ds) (by rw [h2]; exact allD_mapd ds)
      by_cases hb : keyB k e.1 = true
      · refine ⟨fun h => by simp [getE, hb] at h, fun s hs => ?_⟩
        simp only [getE, hb, if_true, Option.some.injEq] at hs
        subst hs
        exact ⟨d, h1, by simp [getE, hb]⟩
      · refine ⟨fun h => by simp only [getE, hb] at h; simp only [List.map_cons, List.zip_cons_cons, getE, hb]; exact i1 h, fun s hs => ?_⟩
        simp only [getE, hb] at hs
        obtain ⟨d', g1, g2⟩ := i2 s hs
        exact ⟨d', g1, by simp only [List.map_cons, List.zip_cons_cons, getE, hb]; exact g2⟩

/-- A lookup, on the entries. -/
theorem run_look {α : Type} {J : Imm} {w : World} {t k e : TypeId} {kt : TK} {z : DV} (hu : P.underlying t = some (.map k e)) (hk : P.underlying k = some kt.desc) (hz : ∃ v, (zeroValue e).run P w = .ok v w ∧ Rep J v z)
    {u : Value} {d : DV} (hd : isKey kt d) (hr : Rep J u d) {B c : Nat} {ms : Array MapEntry} (hB : w.heap[B]? = some (.map ms c)) {es : List (DV × α)} {Rv : Value → α → Prop} (hl : ms.size = es.length)
    (hrep : ∀ (i : Nat) m q, ms[i]? = some m → es[i]? = some q → Rep J m.key q.1 ∧ Rv m.val q.2) (hks : ∀ e ∈ es, isKey kt e.1) (ok : Bool) :
    ∃ v b, (Instr.lookup t (.map (some B)) u ok).run P w = .ok (if ok then .tuple #[v, .bool b] else v) w ∧ ((∃ y, getE d es = some y ∧ Rv v y ∧ b = true) ∨ (getE d es = none ∧ Rep J v z ∧ b = false)) := by
  obtain ⟨zv, z1, z2⟩ := hz
  have hik := isKey_val hd hr
  rcases look_core hd hr ms.toList es 0 (by simpa using hl) (fun i m q h1 h2 => hrep i m q (by simpa using h1) h2) hks with ⟨y, j, m, g1, g2, g3, g4, g5, _⟩ | ⟨g1, _, g3, _⟩
  · refine ⟨m.val, true, ?_, .inl ⟨y, g4, g5, rfl⟩⟩
    simp [Instr.lookup, run_underlying' hu, MapKept.run_getObj_map hB, MapKept.run_checkKey hk hik, MapKept.run_findKey hk g1, Result.andThen]
  · refine ⟨zv, false, ?_, .inr ⟨g3, z2, rfl⟩⟩
    simp [Instr.lookup, run_underlying' hu, MapKept.run_getObj_map hB, MapKept.run_checkKey hk hik, MapKept.run_findKey hk g1, z1, Result.andThen]

theorem okD_rep {J : Imm} {β : Nat → Nam} {v : Value} {b ok : Bool} {z : DV} {o : Option DV} (h : (∃ y, o = some y ∧ Rep J v y ∧ b = true) ∨ (o = none ∧ Rep J v z ∧ b = false)) : SRep J β (if ok then .tuple #[v, .bool b] else v) (okD ok z o) := by
  have h1 : Rep J v (o.getD z) ∧ b = o.isSome := by
    rcases h with ⟨y, rfl, h1, rfl⟩ | ⟨rfl, h1, rfl⟩ <;> exact ⟨h1, rfl⟩
  cases ok with
  | false => exact .d h1.1
  | true =>
    refine .d (.tup rfl fun i u d hu hd => ?_)
    match i with
    | 0 => simp at hu hd; subst hu hd; exact h1.1
    | 1 => simp at hu hd; subst hu hd; rw [h1.2]; exact .bool
    | i + 2 => simp at hd

theorem lookF_sound {x : Ctx} {K : Know} {a : Act} {w : World} (hm : Models x K a w) {t : TypeId} {v u : Value} {s i s' : SV} {ok : Bool} {vc : Prop} (hs : SRep x.J x.β v s) (hi : SRep x.J x.β u i)
    (h : lookF P K.mem t ok s i = some (vc, s')) (hvc : vc) : ∃ z, (Instr.lookup t v u ok).run P w = .ok z w ∧ SRep x.J x.β z s' := by
  unfold lookF at h
  split at h
  · rename_i kt z k hT
    obtain ⟨kk, e, hu, hk, hz⟩ := mapT_inv hT
    have hir := d_inv hi
    split at h
    · simp only [Option.some.injEq, Prod.mk.injEq] at h
      obtain ⟨rfl, rfl⟩ := h
      have hv := d_inv hs
      cases hv
      obtain ⟨zv, z1, z2⟩ := hz w x.J
      have hik := isKey_val hvc hir
      refine ⟨if ok then .tuple #[zv, .bool false] else zv, ?_, okD_rep (.inr ⟨rfl, z2, rfl⟩)⟩
      simp [Instr.lookup, run_underlying' hu, MapKept.run_checkKey hk hik, MapKept.run_findKey hk (show Instr.findNow kt.desc u [] 0 = some none from rfl), z1, Result.andThen]
    · rename_i es
      simp only [Option.some.injEq, Prod.mk.injEq] at h
      obtain ⟨rfl, rfl⟩ := h
      have hv := d_inv hs
      cases hv with
      | @mapd B clock _ ks vs bs hJ hkk hvv =>
        obtain ⟨ms, e1, e2, e3⟩ := hJ.world hm.holds
        obtain ⟨v, b, r1, r2⟩ := run_look (P := P) (w := w) (es := es) (Rv := Rep x.J) hu hk (hz w x.J) hvc.1 hir e1 (by omega) (fun i m q h1 h2 => by
          obtain ⟨k1, k2, _⟩ := e3 i m h1
          rw [k1, k2]; exact ⟨hkk i q h2, hvv i q h2⟩) hvc.2 ok
        exact ⟨_, r1, okD_rep r2⟩
    · rename_i b
      split at h
      · rename_i es hb
        obtain ⟨B, obj, h1, h2, ⟨ms, c, rfl, g2, g3, g4⟩, _⟩ := (hm.maps b _ hb).out
        obtain rfl : v = .map (some B) := by
          cases hs with
          | mp h => rw [h1] at h; cases h; rfl
          | mpDead h => rw [h1] at h; cases h
        split at h
        · rename_i hok
          subst hok
          split at h
          · rename_i ds hds
            simp only [Option.some.injEq, Prod.mk.injEq] at h
            obtain ⟨rfl, rfl⟩ := h
            obtain ⟨v, b, r1, r2⟩ := run_look (P := P) (w := w) (es := es) (Rv := fun v s => SRep x.J x.β v s) hu hk (hz w x.J) hvc.1 hir h2 g2 g3 hvc.2 true
            obtain ⟨f1, f2⟩ := getE_zip (k := k) hds
            refine ⟨_, r1, okD_rep ?_⟩
            rcases r2 with ⟨y, q1, q2, q3⟩ | ⟨q1, q2, q3⟩
            · obtain ⟨d, rfl, q4⟩ := f2 y q1
              exact .inl ⟨d, q4, d_inv q2, q3⟩
            · exact .inr ⟨f1 q1, q2, q3⟩
          · cases h
        · rename_i hok
          simp only [Option.some.injEq, Prod.mk.injEq] at h
          obtain ⟨rfl, rfl⟩ := h
          obtain rfl : ok = false := by simpa using hok
          obtain ⟨v, b, r1, r2⟩ := run_look (P := P) (w := w) (es := es) (Rv := fun v s => SRep x.J x.β v s) hu hk (hz w x.J) hvc.1 hir h2 g2 g3 hvc.2 false
          refine ⟨v, r1, ?_⟩
          rcases r2 with ⟨y, q1, q2, q3⟩ | ⟨q1, q2, q3⟩
          · rw [q1]; exact q2
          · rw [q1]; exact .d q2
      · cases h
    · cases h
  · cases h

theorem nilM_sound {x : Ctx} {K : Know} {a : Act} {w : World} (hm : Models x K a w) {v : Value} {s : SV} {b : Bool} (hs : SRep x.J x.β v s) (h : nilM K.mem s = some b) : ∃ o, v = .map o ∧ b = o.isNone := by
  unfold nilM at h
  split at h
  · cases h; have hv := d_inv hs; cases hv; exact ⟨_, rfl, rfl⟩
  · cases h; have hv := d_inv hs; cases hv; exact ⟨_, rfl, rfl⟩
  · rename_i b'
    split at h
    · rename_i es hb
      cases h
      obtain ⟨B, obj, h1, h2, _⟩ := (hm.maps b' _ hb).out
      cases hs with
      | mp h => exact ⟨_, rfl, rfl⟩
      | mpDead h => rw [h1] at h; cases h
    · cases h
  · cases h
theorem run_equalIn_map {w : World} {t k e : TypeId} (hu : P.underlying t = some (.map k e)) (o : Option Nat) (d : Nat) : (Op.equalIn (d + 1) t (.map o) (.map none)).run P w = .ok o.isNone w := by
  cases o <;> simp only [Op.equalIn, Sem.run_bind, run_underlying' hu, Result.andThen_ok] <;> rfl
theorem run_equal_map {w : World} {t k e : TypeId} (hu : P.underlying t = some (.map k e)) (o : Option Nat) : (Op.equal t (.map o) (.map none)).run P w = .ok o.isNone w :=
  run_equalIn_map hu o 9999
theorem mapEqF_sound {x : Ctx} {K : Know} {a : Act} {w : World} (hm : Models x K a w) {op : BinOp} {t : TypeId} {pp qq : Operand} {u v : Value} {s s' : SV} {vc : Prop} (hs : SRep x.J x.β u s)
    (h : mapEqF P K.mem op t s = some (vc, s')) (hr : v = .map none := by rfl) : ∃ z, (do eqGuard op t pp qq u v; binOp op t u v : Sem Value).run P w = .ok z w ∧ SRep x.J x.β z s' := by
  unfold mapEqF at h
  subst hr
  split at h
  · rename_i b p hb hT
    simp only [Option.some.injEq, Prod.mk.injEq] at h
    obtain ⟨rfl, rfl⟩ := h
    obtain ⟨o, rfl, rfl⟩ := nilM_sound hm hs hb
    obtain ⟨k, e, hu, _, _⟩ := mapT_inv (kt := p.1) (z := p.2) hT
    have hg := eqGuard_plain (P := P) w .eql t pp qq (.map o) (.map none) (by simp) (by simp)
    refine ⟨.bool o.isNone, ?_, .d .bool⟩
    simp only [Sem.run_bind, hg, Result.andThen_ok]
    simp only [binOp, Sem.run_bind, run_equal_map hu, Result.andThen_ok, Sem.run_pure]
  · rename_i b p hb hT
    simp only [Option.some.injEq, Prod.mk.injEq] at h
    obtain ⟨rfl, rfl⟩ := h
    obtain ⟨o, rfl, rfl⟩ := nilM_sound hm hs hb
    obtain ⟨k, e, hu, _, _⟩ := mapT_inv (kt := p.1) (z := p.2) hT
    have hg := eqGuard_plain (P := P) w .neq t pp qq (.map o) (.map none) (by simp) (by simp)
    refine ⟨.bool (!o.isNone), ?_, .d .bool⟩
    simp only [Sem.run_bind, hg, Result.andThen_ok]
    simp only [binOp, Sem.run_bind, run_equal_map hu, Result.andThen_ok, Sem.run_pure]
  · cases h

theorem lenM_sound {x : Ctx} {K : Know} {a : Act} {w : World} (hm : Models x K a w) {t k e ty : TypeId} {u : Value} {s : SV} {n : Nat} (hs : SRep x.J x.β u s) (h : lenM K.mem s = some n) (hu : P.underlying t = some (.map k e)) :
    (Builtin.len_ #[t] ty #[u]).run P w = .ok (.int .i64 n) w := by
  unfold lenM at h
  split at h
  · cases h; have hv := d_inv hs; cases hv
    simp [Builtin.len_, underlying, hu, goInt, Result.andThen]
  · cases h; have hv := d_inv hs
    cases hv with
    | @mapd B clock _ ks vs bs hJ hkk hvv =>
      obtain ⟨ms, e1, e2, e3⟩ := hJ.world hm.holds
      simp [Builtin.len_, underlying, hu, goInt, Result.andThen, MapKept.run_getObj_map e1, e2]
  · split at h
    · rename_i b es hb
      cases h
      obtain ⟨B, obj, h1, h2, ⟨ms, c, rfl, g2, g3, g4⟩, _⟩ := (hm.maps _ _ hb).out
      cases hs with
      | mp h =>
        rw [h1] at h; cases h
        simp [Builtin.len_, underlying, hu, goInt, Result.andThen, MapKept.run_getObj_map h2, g2]
      | mpDead h => rw [h1] at h; cases h
    · cases h
  · cases h

/-- **An operation that only reads yields what is reckoned.** -/
theorem opP_sound {x : Ctx} {K : Know} {a : Act} {w : World} (hm : Models x K a w) {o : Oper} {rd : Operand → Option SV} (hrd : ∀ u ∈ o.op.operands, ∀ s, rd u = some s → SRep x.J x.β (a.eval u) s)
    {vc : Prop} {s : SV} (h : opP P K.mem rd o.op = some (vc, s)) (hvc : vc) : ∃ v, (execOp a.eval o).run P w = .ok (.value v) w ∧ SRep x.J x.β v s := by
  obtain ⟨dst, op, type, pos, after, guard⟩ := o
  simp only at h
  have lift : ∀ (m : Sem Value) z, m.run P w = .ok z w → (do pure (Next.value (← m)) : Sem Next).run P w = .ok (.value z) w := fun m z hz => by simp [hz, Result.andThen]
  cases op with
  | move u =>
    simp only [opP, Option.map_eq_some_iff, Prod.mk.injEq] at h
    obtain ⟨s', h1, rfl, rfl⟩ := h
    exact ⟨_, rfl, hrd u (by simp [Op.operands]) _ h1⟩
  | assign u =>
    simp only [opP, Option.map_eq_some_iff, Prod.mk.injEq] at h
    obtain ⟨s', h1, rfl, rfl⟩ := h
    exact ⟨_, rfl, hrd u (by simp [Op.operands]) _ h1⟩
  | load t u =>
    simp only [opP, Option.bind_eq_some_iff] at h
    obtain ⟨s', h1, h2⟩ := h
    obtain ⟨z, e, r⟩ := loadF_sound (P := P) hm (hrd u (by simp [Op.operands]) _ h1) h2 hvc
    exact ⟨z, lift _ _ e, r⟩
  | fieldAddr t u f =>
    simp only [opP, Option.bind_eq_some_iff] at h
    obtain ⟨s', h1, h2⟩ := h
    obtain ⟨z, e, r⟩ := fieldAddrF_sound (P := P) hm (hrd u (by simp [Op.operands]) _ h1) h2 hvc
    exact ⟨z, lift _ _ e, r⟩
  | field t u f =>
    simp only [opP, Option.bind_eq_some_iff] at h
    obtain ⟨s', h1, h2⟩ := h
    obtain ⟨z, e, r⟩ := fieldF_sound (P := P) (w := w) (hrd u (by simp [Op.operands]) _ h1) h2 hvc
    exact ⟨z, lift _ _ e, r⟩
  | indexAddr t u i =>
    simp only [opP, Option.bind_eq_some_iff] at h
    obtain ⟨s', h1, j, h2, h3⟩ := h
    obtain ⟨z, e, r⟩ := indexAddrF_sound (P := P) hm (hrd u (by simp [Op.operands]) _ h1) (hrd i (by simp [Op.operands]) _ h2) h3 hvc
    exact ⟨z, lift _ _ e, r⟩
  | index t u i =>
    simp only [opP, Option.bind_eq_some_iff] at h
    obtain ⟨s', h1, j, h2, h3⟩ := h
    obtain ⟨z, e, r⟩ := indexF_sound (P := P) (w := w) (hrd u (by simp [Op.operands]) _ h1) (hrd i (by simp [Op.operands]) _ h2) h3 hvc
    exact ⟨z, lift _ _ e, r⟩
  | slice t u lo hi mx =>
    simp only [opP, Option.bind_eq_some_iff] at h
    obtain ⟨s', h1, l, h2, r, h3, m, h4, h5⟩ := h
    obtain ⟨z, e, r⟩ := sliceF_sound (P := P) hm (hrd u (by simp [Op.operands]) _ h1) (rdO_sound (fun q hq => hrd q (by simp [Op.operands, hq])) h2) (rdO_sound (fun q hq => hrd q (by simp [Op.operands, hq])) h3) (rdO_sound (fun q hq => hrd q (by simp [Op.operands, hq])) h4) h5 hvc
    exact ⟨z, lift _ _ e, r⟩
  | binOp op t u v t' =>
    simp only [opP] at h
    split at h
    · rename_i hn
      obtain rfl := isNilMap_eq hn
      rw [Option.bind_eq_some_iff] at h
      obtain ⟨s', h1, h3⟩ := h
      obtain ⟨z, e, r⟩ := mapEqF_sound (P := P) hm (pp := u) (qq := .const (.map none)) (v := .map none) (hrd u (by simp [Op.operands]) _ h1) h3
      exact ⟨z, lift _ _ e, r⟩
    · simp only [Option.bind_eq_some_iff] at h
      obtain ⟨s', h1, j, h2, h3⟩ := h
      obtain ⟨z, e, r⟩ := binF_sound (P := P) (w := w) (p := u) (q := v) (hrd u (by simp [Op.operands]) _ h1) (hrd v (by simp [Op.operands]) _ h2) h3 hvc
      exact ⟨z, lift _ _ e, r⟩
  | lookup t u i ok =>
    simp only [opP, Option.bind_eq_some_iff] at h
    obtain ⟨s', h1, j, h2, h3⟩ := h
    obtain ⟨z, e, r⟩ := lookF_sound (P := P) hm (hrd u (by simp [Op.operands]) _ h1) (hrd i (by simp [Op.operands]) _ h2) h3 hvc
    exact ⟨z, lift _ _ e, r⟩
  | unOp op t u =>
    simp only [opP, Option.bind_eq_some_iff] at h
    obtain ⟨s', h1, h2⟩ := h
    obtain ⟨z, e, r⟩ := unF_sound (P := P) (w := w) (hrd u (by simp [Op.operands]) _ h1) h2
    exact ⟨z, lift _ _ e, r⟩
  | convert t t' u =>
    simp only [opP, Option.bind_eq_some_iff] at h
    obtain ⟨s', h1, h2⟩ := h
    obtain ⟨z, e, r⟩ := convF_sound (P := P) hm (hrd u (by simp [Op.operands]) _ h1) h2 hvc
    exact ⟨z, lift _ _ e, r⟩
  | extract u i =>
    simp only [opP, Option.bind_eq_some_iff] at h
    obtain ⟨s', h1, h2⟩ := h
    obtain ⟨z, e, r⟩ := extractF_sound (P := P) (w := w) (hrd u (by simp [Op.operands]) _ h1) h2
    exact ⟨z, lift _ _ e, r⟩
  | makeInterface t u =>
    simp only [opP] at h
    split at h
    · rename_i d hd
      split at h
      · rename_i hc
        simp only [Option.some.injEq, Prod.mk.injEq] at h
        obtain ⟨rfl, rfl⟩ := h
        obtain ⟨de, hu, hde⟩ := tk_conc hc
        refine ⟨.iface t (a.eval u), lift _ _ ?_, .d (.iface (d_inv (hrd u (by simp [Op.operands]) _ hd)))⟩
        simp only [Instr.makeInterface, Sem.run_bind, run_underlying' hu, Result.andThen_ok]
        cases de <;> first | rfl | exact absurd rfl (hde _)
      · cases h
    · cases h
  | makeFunc fn first captured =>
    cases fn with
    | func f =>
      simp only [opP] at h
      split at h
      · rename_i hf
        subst hf
        split at h
        · rename_i cs hcs
          simp only [Option.some.injEq, Prod.mk.injEq] at h
          obtain ⟨rfl, rfl⟩ := h
          obtain ⟨g1, g2⟩ := mapM_get hcs
          refine ⟨.func (.func f) #[] (captured.map a.eval), by simp [execOp, Instr.makeFunc], ?_⟩
          have hsz : (captured.map a.eval).size = cs.length := by simp [g1]
          have hall : ∀ (i : Nat) v d, (captured.map a.eval)[i]? = some v → cs[i]? = some d → SRep x.J x.β v d := fun i v d hv hd => by
            rw [Array.getElem?_map, Option.map_eq_some_iff] at hv
            obtain ⟨q, hq, rfl⟩ := hv
            exact hrd q (by simp [Op.operands]; exact Array.mem_of_getElem? hq) d (g2 i q d (by simpa using hq) hd)
          split
          · rename_i ds hds
            have := allD_eq hds
            subst this
            exact .d (.fn (by simpa using hsz) fun i v d hv hd => d_inv (hall i v (.d d) hv (by rw [List.getElem?_map, hd]; rfl)))
          · exact .clo hsz hall
        · cases h
      · cases h
    | _ => simp [opP] at h
  | call c =>
    obtain ⟨callee, args, ts⟩ := c
    cases callee with
    | builtin b =>
      cases b with
      | len =>
        simp only [opP] at h
        split at h
        · rename_i u t hu ht
          obtain rfl : args = #[u] := by cases args; simp_all
          obtain rfl : ts = #[t] := by cases ts; simp_all
          have run : ∀ z, (Builtin.len_ #[t] type #[a.eval u]).run P w = .ok z w → (execOp a.eval { dst, op := .call { callee := .builtin .len, args := #[u], argTypes := #[t] }, type, pos, after, guard }).run P w = .ok (.value z) w := fun z hz => by
            simp [execOp, resolve, invoke, builtin, hz, Result.andThen]
          split at h
          · rename_i n k sz hk
            obtain ⟨e, i, hu', _⟩ := tk_arr hk
            simp only [Option.some.injEq, Prod.mk.injEq] at h
            obtain ⟨rfl, rfl⟩ := h
            refine ⟨.int .i64 n, run _ ?_, .d (.int (inK_len hvc))⟩
            simp [Builtin.len_, underlying, hu', goInt, Result.andThen]
          · rename_i k hk
            obtain ⟨e, hu', _⟩ := tk_slice hk
            simp only [Option.map_eq_some_iff, Prod.mk.injEq, Option.bind_eq_some_iff] at h
            obtain ⟨n, ⟨s', h1, h2⟩, rfl, rfl⟩ := h
            have hr := hrd u (by simp [Op.operands, Call.operands]) _ h1
            obtain ⟨ad, cap, e1, e3⟩ := lenF_sound hm hr h2
            refine ⟨.int .i64 n, run _ ?_, .d (.int (inK_len e3))⟩
            rw [e1]
            simp [Builtin.len_, underlying, hu', goInt, Result.andThen]
          · rename_i hk
            have hu' := tk_str hk
            simp only [Option.map_eq_some_iff, Prod.mk.injEq, Option.bind_eq_some_iff] at h
            obtain ⟨n, ⟨s', h1, h2⟩, rfl, rfl⟩ := h
            have hr := hrd u (by simp [Op.operands, Call.operands]) _ h1
            obtain ⟨l, e1, rfl, e3⟩ := lenS_sound hr h2
            refine ⟨.int .i64 l.length, run _ ?_, .d (.int (inK_len e3))⟩
            rw [e1]
            simp only [Builtin.len_, List.getElem?_toArray, List.getElem?_cons_zero, Sem.run_bind, run_underlying' hu', Result.andThen_ok]
            simp [goInt, ByteArray.size]
          · split at h
            · rename_i p hT
              obtain ⟨k, e, hu', _, _⟩ := mapT_inv (kt := p.1) (z := p.2) hT
              simp only [Option.map_eq_some_iff, Prod.mk.injEq, Option.bind_eq_some_iff] at h
              obtain ⟨n, ⟨s', h1, h2⟩, rfl, rfl⟩ := h
              have hr := hrd u (by simp [Op.operands, Call.operands]) _ h1
              refine ⟨.int .i64 n, run _ ?_, .d (.int (inK_len hvc))⟩
              exact lenM_sound hm hr h2 hu'
            · cases h
          · cases h
        · cases h
      | max =>
        simp only [opP] at h
        obtain ⟨v, e1, e2⟩ := maxL_sound (P := P) (w := w) (x := x) (a := a) (ts := ts) (ty := type) (fun u hu => hrd u (by simp [Op.operands, Call.operands]; simpa using hu)) h
        refine ⟨v, ?_, e2⟩
        simp only [if_true] at e1
        simp [execOp, resolve, invoke, builtin, e1, Result.andThen]
      | min =>
        simp only [opP] at h
        obtain ⟨v, e1, e2⟩ := maxL_sound (P := P) (w := w) (x := x) (a := a) (ts := ts) (ty := type) (fun u hu => hrd u (by simp [Op.operands, Call.operands]; simpa using hu)) h
        refine ⟨v, ?_, e2⟩
        simp only [Bool.false_eq_true, if_false] at e1
        simp [execOp, resolve, invoke, builtin, e1, Result.andThen]
      | _ => simp [opP] at h
    | _ => simp [opP] at h
  | _ => simp [opP] at h

end Go.Bf

/-
  Operations that lay new immutable blocks, and the making of struct values: what is yielded, and that it is. Nothing is claimed here.
-/
namespace Go.Bf
open Go Go.RowKit
variable {P : Program}

/-- A new block of cells is there, nothing else has turned: its cells may be held immutable from here on. -/
theorem Models.newImm {x : Ctx} {K : Know} {a : Act} {w w1 : World} (hm : Models x K a w) (hb : Below w.heap.size w w1) {B : Nat} {vals : Array Value} {t : TypeId} {fr : Nat × Nat} (hB : w.heap.size ≤ B)
    (hcell : w1.heap[B]? = some (.cells vals t fr)) (h1 : ∀ v ∈ vals, v.oneCell' = true) :
    ∃ x', x.le x' ∧ x'.β = x.β ∧ Models x' K a w1 ∧ ∀ (o : Nat) v, vals[o]? = some v → x'.J B (2 * o) = some v := by
  have hm1 := hm.grow hb
  have old : ∀ b o v, x.J b o = some v → b ≠ B := fun b o v hv e => by
    have := vc_lt (hm.holds b o v hv)
    omega
  obtain ⟨hle, hm2⟩ := hm1.moreJ (fun b o => if b = B then (if o % 2 = 0 then vals[o / 2]? else none) else x.J b o) (fun b o v hv => by simp [old b o v hv, hv])
    (fun b o v hv => by
      by_cases e : b = B
      · subst e
        simp only [if_true] at hv
        simp [vc, hcell, hv]
      · simp only [if_neg e] at hv
        exact hm1.holds b o v hv)
    (fun b o hlt => by
      have := hm.w0le
      have : b < w.heap.size := by rcases hlt with h | h
                                   · omega
                                   · exact hm.othlt b h
      rw [if_neg (by omega)])
    (fun b t' cells hmem B' sz t'' hβ o => by
      obtain ⟨B2, vals2, fr2, g1, ⟨T, g2⟩, g3, g4, g5, g6, g7, g8⟩ := (hm.live b t' cells hmem).out
      rw [hβ] at g1
      cases g1
      have := (Array.getElem?_eq_some_iff.1 g2).1
      rw [if_neg (by omega)]
      exact g6 o)
    (fun b o v hv => by
      by_cases e : b = B
      · subst e
        simp only [if_true, Nat.mul_mod_right, Nat.mul_div_cancel_left _ (show 0 < 2 by omega)] at hv
        exact h1 v (Array.mem_of_getElem? hv)
      · simp only [if_neg e] at hv
        exact hm.one b o v hv)
    (fun b es hmem B' sz t'' hβ o => by
      obtain ⟨B2, ob, g1, g2, g4, g5, g6⟩ := (hm.maps b es hmem).out
      rw [hβ] at g1
      cases g1
      have := (Array.getElem?_eq_some_iff.1 g2).1
      rw [if_neg (by omega)]
      exact g5 o)
  exact ⟨_, hle, rfl, hm2, fun o v hv => by simp [hv]⟩

theorem below_alloc (w : World) (o : Obj) : Below w.heap.size w (w.alloc o) := (Below.refl _ w).alloc (Nat.le_refl _) o
theorem heap_alloc_new' (w : World) (o : Obj) : (w.alloc o).heap[w.heap.size]? = some o := World.alloc_heap_new w o

/-- Cells in a row that are data. -/
def ArrR (J : Imm) (β : Nat → Nam) (vs : Array Value) (ss : List SV) : Prop := vs.size = ss.length ∧ ∀ (i : Nat) v s, vs[i]? = some v → ss[i]? = some s → SRep J β v s

/-- One part of a row is replaced. -/
def spl {α : Type} (cells : List α) (off : Nat) (p : List α) : List α :=
  match p with
  | [c] => cells.set off c
  | p => cells.take off ++ p ++ cells.drop (off + p.length)

theorem spl_length {α : Type} (cells : List α) (off : Nat) (p : List α) (h : off + p.length ≤ cells.length) : (spl cells off p).length = cells.length := by
  unfold spl; split
  · simp
  · simp; omega

theorem spl_get {α : Type} (cells : List α) (off : Nat) (p : List α) (h : off + p.length ≤ cells.length) (i : Nat) : (spl cells off p)[i]? = if off ≤ i ∧ i < off + p.length then p[i - off]? else cells[i]? := by
  unfold spl
  split
  · rename_i c
    simp only [List.length_cons, List.length_nil] at h ⊢
    rw [List.getElem?_set]
    by_cases e : off = i
    · subst e; simp; omega
    · simp only [e, if_false]; rw [if_neg (by omega)]
  · rw [List.append_assoc, List.getElem?_append]
    simp only [List.length_take]
    by_cases h1 : i < off
    · rw [if_pos (by omega), if_neg (by omega), List.getElem?_take, if_pos h1]
    · rw [if_neg (by omega), List.getElem?_append]
      have : i - min off cells.length = i - off := by omega
      rw [this]
      by_cases h2 : i < off + p.length
      · rw [if_pos (by omega), if_pos (by omega)]
      · rw [if_neg (by omega), if_neg (by omega), List.getElem?_drop]
        congr 1; omega

theorem foldl_setIn : ∀ (ps : List Value) (k off : Nat) (cs : Array Value), off + k + ps.length ≤ cs.size → 
    ((ps.zipIdx k).foldl (fun cs (c, j) => cs.setIfInBounds (off + j) c) cs).size = cs.size ∧
    ∀ i : Nat, ((ps.zipIdx k).foldl (fun cs (c, j) => cs.setIfInBounds (off + j) c) cs)[i]? = if off + k ≤ i ∧ i < off + k + ps.length then ps[i - (off + k)]? else cs[i]? := by
  intro ps
  induction ps with
  | nil => intro k off cs h; exact ⟨rfl, fun i => by rw [if_neg (by simp only [List.length_nil]; omega)]; rfl⟩
  | cons p ps ih =>
    intro k off cs h
    simp only [List.zipIdx_cons, List.foldl_cons, List.length_cons] at h ⊢
    obtain ⟨h1, h2⟩ := ih (k + 1) off (cs.setIfInBounds (off + k) p) (by simp; omega)
    refine ⟨by rw [h1]; simp, fun i => ?_⟩
    rw [h2 i]
    by_cases e1 : off + (k + 1) ≤ i ∧ i < off + (k + 1) + ps.length
    · rw [if_pos e1, if_pos (by omega)]
      have : i - (off + k) = (i - (off + (k + 1))) + 1 := by omega
      rw [this, List.getElem?_cons_succ]
    · rw [if_neg e1]
      by_cases e2 : i = off + k
      · subst e2
        rw [if_pos (by omega), Nat.sub_self]
        have : off + k < cs.size := by omega
        simp [this]
      · rw [if_neg (by omega)]
        exact Array.getElem?_setIfInBounds_ne (Ne.symm e2)

theorem arrR_splice {J : Imm} {β : Nat → Nam} {cs ps : Array Value} {ss qs : List SV} (h1 : ArrR J β cs ss) (h2 : ArrR J β ps qs) {off : Nat} (hl : off + qs.length ≤ ss.length) :
    ArrR J β (ps.zipIdx.foldl (fun cs (c, j) => cs.setIfInBounds (off + j) c) cs) (spl ss off qs) := by
  have e : ps.zipIdx.foldl (fun cs (c, j) => cs.setIfInBounds (off + j) c) cs = (ps.toList.zipIdx 0).foldl (fun cs (c, j) => cs.setIfInBounds (off + j) c) cs := by
    rw [← Array.foldl_toList]; simp
  rw [e]
  have hps : ps.toList.length = qs.length := by simpa using h2.1
  obtain ⟨g1, g2⟩ := foldl_setIn ps.toList 0 off cs (by rw [hps, h1.1]; omega)
  refine ⟨by rw [g1, spl_length _ _ _ hl, h1.1], fun i v s hv hs => ?_⟩
  rw [g2 i] at hv
  rw [spl_get _ _ _ hl] at hs
  simp only [Nat.add_zero, hps] at hv
  split at hv
  · rename_i hc
    rw [if_pos hc] at hs
    exact h2.2 _ v s (by simpa using hv) hs
  · rename_i hc
    rw [if_neg hc] at hs
    exact h1.2 i v s hv hs

/-- The parts of a struct or a slice literal, laid over zero cells. -/
def fillS (place : Nat → Option (Nat × Nat)) (cells : List SV) : List (Nat × SV) → Option (List SV)
  | [] => some cells
  | (i, s) :: rest =>
    match place i with
    | none => none
    | some (off, size) => if s.cells.length = size ∧ off + size ≤ cells.length then fillS place (spl cells off s.cells) rest else none

/-- It names no local block that is gone, and hangs on no guard. -/
def solid (mem : Mem) : SV → Bool
  | .loc b _ => match mem b with | .live _ _ => true | _ => false
  | .own b _ _ _ _ => match mem b with | .live _ _ => true | _ => false
  | .cnd _ _ => false
  | .mp b => match mem b with | .mp _ => true | _ => false
  | _ => true

theorem Models.cells {x : Ctx} {K : Know} {a : Act} {w : World} (hm : Models x K a w) {v : Value} {s : SV} (hs : SRep x.J x.β v s) (hsol : solid K.mem s = true) : ArrR x.J x.β v.cells s.cells := by
  have nd : ∀ b, (match K.mem b with | .live _ _ => true | _ => false) = true → x.β b ≠ .dead := fun b hb => by
    split at hb
    · rename_i t cells e
      obtain ⟨B, sz, t', h1, _⟩ := hm.cell e
      rw [h1]; simp
    · cases hb
  have nm : ∀ b, (match K.mem b with | .mp _ => true | _ => false) = true → x.β b ≠ .dead := fun b hb => by
    split at hb
    · rename_i es e
      obtain ⟨B, ob, h1, _⟩ := (hm.maps b es e).out
      rw [h1]; simp
    · cases hb
  exact SRep.cells_spec hs (fun g s' e => by subst e; simp [solid] at hsol) (fun b off e => by subst e; exact nd b hsol) (fun b wd off l c e => by subst e; exact nd b hsol) (fun b e => by subst e; exact nm b hsol)

theorem fillS_sound {x : Ctx} {K : Know} {a : Act} {w : World} (hm : Models x K a w) {place : Nat → Option (Nat × Nat)} : ∀ (parts : List (Nat × SV)) (vparts : List (Nat × Value)) (cells : List SV) (cs : Array Value) (r : List SV),
    vparts.length = parts.length → (∀ (i : Nat) p q, parts[i]? = some p → vparts[i]? = some q → p.1 = q.1 ∧ SRep x.J x.β q.2 p.2 ∧ solid K.mem p.2 = true) → ArrR x.J x.β cs cells → fillS place cells parts = some r →
    ∃ rs, Instr.fill place cs vparts = some rs ∧ ArrR x.J x.β rs r := by
  intro parts
  induction parts with
  | nil =>
    intro vparts cells cs r hl hp hc h
    obtain rfl : vparts = [] := List.eq_nil_of_length_eq_zero hl
    simp only [fillS, Option.some.injEq] at h
    subst h
    exact ⟨cs, rfl, hc⟩
  | cons p parts ih =>
    intro vparts cells cs r hl hp hc h
    cases vparts with
    | nil => simp at hl
    | cons q vparts =>
      obtain ⟨i, s⟩ := p
      obtain ⟨i', v⟩ := q
      obtain ⟨rfl, hs, hsol⟩ := hp 0 _ _ rfl rfl
      simp only [fillS] at h
      split at h
      · cases h
      · rename_i off size hpl
        split at h
        · rename_i hcond
          obtain ⟨hsz, hfit⟩ := hcond
          have hcells := hm.cells hs hsol
          obtain ⟨rs, e, hr⟩ := ih vparts _ (v.cells.zipIdx.foldl (fun cs (c, j) => cs.setIfInBounds (off + j) c) cs) r (by simpa using hl)
            (fun j p q h1 h2 => hp (j + 1) p q (by simpa using h1) (by simpa using h2)) (arrR_splice hc hcells (by show off + s.cells.length ≤ cells.length; omega)) h
          refine ⟨rs, ?_, hr⟩
          simp only [Instr.fill, hpl]
          have h1 : v.cells.size = size := by rw [hcells.1, hsz]
          have h2 : ¬ (v.cells.size ≠ size ∨ off + v.cells.size > cs.size) := by rw [h1, hc.1]; simp; omega
          simp only [Bool.or_eq_true, decide_eq_true_eq, h2, if_false]
          exact e
        · cases h

/-- A zero cell, as a local block holds it: of a nil slice it is known that nothing lies behind it. -/
def z2s : DV → SV
  | .list [] => .clip []
  | d => .d d

theorem zeroDV_z2s {J : Imm} {β : Nat → Nam} {v : Value} {d : DV} (h : zeroDV v = some d) : SRep J β v (z2s d) := by
  have hr := (zeroDV_rep (J := J) h).1
  unfold z2s
  split
  · have : v = .slice none 0 0 := by
      unfold zeroDV at h
      split at h <;> (try split at h) <;> first | rfl | (cases h; done) | (simp at h; done)
    subst this
    exact .clip hr
  · exact .d hr

theorem tzero_sound {t : TypeId} {zs : List DV} (h : tzero P t = some zs) (w : World) (J : Imm) : ∃ v i, (zeroValue t).run P w = .ok v w ∧ P.info? t = some i ∧ i.zero = some v ∧ i.size = zs.length ∧ v.cells.size = zs.length ∧
    (∀ (j : Nat) u d, v.cells[j]? = some u → zs[j]? = some d → Rep J u d ∧ zeroDV u = some d) ∧ (∀ u ∈ v.cells, u.oneCell' = true) ∧ zs.length ≠ 0 := by
  unfold tzero at h
  rw [Option.bind_eq_some_iff] at h
  obtain ⟨k, hk, hz⟩ := h
  obtain ⟨i, h1, h2, h3, h4, h5, h6, h7⟩ := ek_info hk
  obtain ⟨v, h8, h9, h10⟩ := h7 zs hz
  obtain ⟨g1, g2⟩ := mapM_get h10
  have hsz : v.cells.size = zs.length := by rw [g1]; simp
  refine ⟨v, i, by simp [zeroValue, typeInfo, h1, h8], h1, h8, by omega, hsz, fun j u d hu hd => ⟨(zeroDV_rep (g2 j u d (by simpa using hu) hd)).1, g2 j u d (by simpa using hu) hd⟩, fun u hu => ?_, by omega⟩
  obtain ⟨j, hj, rfl⟩ := Array.mem_iff_getElem.1 hu
  have hlt : j < zs.length := by omega
  exact (zeroDV_rep (J := J) (g2 j _ (zs[j]) (by simp [hj]) (List.getElem?_eq_getElem hlt))).2

/-- A struct literal. -/
def buildF (P : Program) (mem : Mem) (t : TypeId) (parts : List (Nat × SV)) : R :=
  match tk P t, tzero P t with
  | .struct fs _, some zs =>
    if fs.all (fun f => decide (f.2 ≠ .bad)) && parts.all (fun p => solid mem p.2) then
      (fillS (fun i => match fs[i]? with | some (o, .one) => some (o, 1) | some (o, .agg n) => some (o, n) | _ => none) (zs.map z2s) parts).map fun r => (True, mkAgg r)
    else none
  | _, _ => none

end Go.Bf

/-
  The quiet operations: they leave what is known of memory as it is. Nothing is claimed here.
-/
namespace Go.Bf
open Go Go.RowKit
variable {P : Program}

def DV.one : DV → Bool
  | .agg _ => false
  | .tup _ => false
  | _ => true
def SV.one : SV → Bool
  | .d x => x.one
  | .agg _ => false
  | .cnd _ _ => false
  | _ => true

theorem Rep.one {J : Imm} {v : Value} {x : DV} (h : Rep J v x) (h1 : x.one = true) : v.oneCell' = true := by
  cases h <;> first | rfl | simp [DV.one] at h1

theorem Models.oneCell {x : Ctx} {K : Know} {a : Act} {w : World} (hm : Models x K a w) {v : Value} {s : SV} (hs : SRep x.J x.β v s) (hsol : solid K.mem s = true) (h1 : s.one = true) : v.oneCell' = true := by
  have nd : ∀ b, (match K.mem b with | .live _ _ => true | _ => false) = true → x.β b ≠ .dead := fun b hb => by
    split at hb
    · rename_i t cells e
      obtain ⟨B, sz, t', h1, _⟩ := hm.cell e
      rw [h1]; simp
    · cases hb
  have nm : ∀ b, (match K.mem b with | .mp _ => true | _ => false) = true → x.β b ≠ .dead := fun b hb => by
    split at hb
    · rename_i es e
      obtain ⟨B, ob, h1, _⟩ := (hm.maps b es e).out
      rw [h1]; simp
    · cases hb
  cases hs with
  | d h => exact h.one h1
  | mp _ => rfl
  | mpDead h => exact absurd h (nm _ hsol)
  | loc _ => rfl
  | locDead h => exact absurd h (nd _ hsol)
  | own _ _ _ _ _ => rfl
  | ownDead h => exact absurd h (nd _ hsol)
  | clip _ => rfl
  | agg _ _ => simp [SV.one] at h1
  | clo _ _ => rfl
  | cndT _ _ => simp [SV.one] at h1
  | cndF _ => simp [SV.one] at h1

def makeF (P : Program) (t : TypeId) (l c : SV) : R :=
  match tk P t, intOf' l, intOf' c with
  | .slice k, some (_, l), some (_, c) => match k.zero with
    | some zs => some (0 ≤ l ∧ l ≤ c ∧ (k.bytes : Int) * c ≤ 281474976710656 ∧ c ≤ maxLen, .d (.list (repl l.toNat zs)))
    | none => none
  | _, _, _ => none

/-- The cells of a slice literal. -/
def litCells (P : Program) (mem : Mem) (t : TypeId) (len : Nat) (parts : List (Nat × SV)) : Option (EK × List SV) :=
  match tk P t with
  | .slice k => match k.zero with
    | some zs => if parts.all (fun p => solid mem p.2) && decide (len * k.sz ≤ 16777216) then
        match fillS (fun i => some (i * k.sz, k.sz)) ((List.replicate len zs).flatten.map .d) parts with
        | some cells => if cells.all SV.one && cells.all (solid mem) then some (k, cells) else none
        | none => none
      else none
    | none => none
  | _ => none

/-- A slice without room is data. -/
def uncl : SV → SV
  | .clip xs => .d (.list xs)
  | s => s
theorem uncl_rep {J : Imm} {β : Nat → Nam} {v : Value} {s : SV} {d : DV} (h : SRep J β v s) (hd : uncl s = .d d) : Rep J v d := by
  cases s with
  | clip xs =>
    simp only [uncl, SV.d.injEq] at hd
    subst hd
    cases h with
    | clip h => exact h
  | d x => simp only [uncl, SV.d.injEq] at hd; subst hd; exact d_inv h
  | _ => simp [uncl] at hd
def allE (cs : List SV) : Option (List DV) := match allD cs with
  | some ds => some ds
  | none => allD (cs.map uncl)
theorem allE_get {cs : List SV} {ds : List DV} (h : allE cs = some ds) : ds.length = cs.length ∧ ∀ (i : Nat) d, ds[i]? = some d → ∃ s, cs[i]? = some s ∧ uncl s = .d d := by
  unfold allE at h
  split at h
  · rename_i ds' hd
    cases h
    have e := allD_eq hd
    subst e
    exact ⟨by simp, fun i d hi => ⟨.d d, by simp [hi], rfl⟩⟩
  · have e := allD_eq h
    have hl := congrArg List.length e
    refine ⟨by simpa using hl.symm, fun i d hi => ?_⟩
    have := congrArg (·[i]?) e
    simp only [List.getElem?_map, hi, Option.map_some] at this
    cases hc : cs[i]? with
    | none => rw [hc] at this; cases this
    | some s => rw [hc] at this; exact ⟨s, rfl, by simpa using this⟩
def litF (P : Program) (mem : Mem) (t : TypeId) (len : Nat) (parts : List (Nat × SV)) : R :=
  match litCells P mem t len parts with
  | some (k, cells) => match allE cells with
    | some ds => some (True, .d (.list (chunk k.sz len ds)))
    | none => none
  | none => none

def rdParts (rd : Operand → Option SV) (parts : Array (Nat × Operand)) : Option (List (Nat × SV)) :=
  parts.toList.mapM fun p => (rd p.2).map fun s => (p.1, s)

/-- The quiet operations that are no calls. im: a slice that is made here is never written again. -/
def opQ (P : Program) (im : Bool) (mem : Mem) (rd : Operand → Option SV) (op : Op) : R :=
  match op with
  | .build t parts => (rdParts rd parts).bind fun ps => buildF P mem t ps
  | .makeSlice t l c => if im then (rd l).bind fun l => (rd c).bind fun c => makeF P t l c else none
  | .buildSlice t n parts => if im then (rdParts rd parts).bind fun ps => litF P mem t n ps else none
  | .convert s d x =>
    match tk P d, rd x with
    | .slice k, some (.d (.str l)) => if k.u8 && (tk P s).ok then some (True, .d (encB l)) else none
    | _, _ => opP P mem rd (.convert s d x)
  | op => opP P mem rd op

theorem rdParts_sound {x : Ctx} {a : Act} {rd : Operand → Option SV} {parts : Array (Nat × Operand)} {ps : List (Nat × SV)} (hrd : ∀ u ∈ (parts.toList.map (·.2)).toArray, ∀ s, rd u = some s → SRep x.J x.β (a.eval u) s) (h : rdParts rd parts = some ps) :
    (parts.map fun (i, x) => (i, a.eval x)).toList.length = ps.length ∧ ∀ (i : Nat) p q, ps[i]? = some p → (parts.map fun (i, x) => (i, a.eval x)).toList[i]? = some q → p.1 = q.1 ∧ SRep x.J x.β q.2 p.2 := by
  obtain ⟨g1, g2⟩ := mapM_get h
  refine ⟨by simp [g1], fun i p q hp hq => ?_⟩
  simp only [Array.toList_map, List.getElem?_map, Option.map_eq_some_iff] at hq
  obtain ⟨⟨j, u⟩, hu, rfl⟩ := hq
  have := g2 i _ p hu hp
  simp only [Option.map_eq_some_iff] at this
  obtain ⟨s, hs, rfl⟩ := this
  exact ⟨rfl, hrd u (by simp; exact ⟨j, by simpa using List.mem_of_getElem? hu⟩) s hs⟩

theorem buildF_sound {x : Ctx} {K : Know} {a : Act} {w : World} (hm : Models x K a w) {t : TypeId} {ps : List (Nat × SV)} {vs : Array (Nat × Value)} {s : SV} {vc : Prop}
    (hl : vs.toList.length = ps.length) (hp : ∀ (i : Nat) p q, ps[i]? = some p → vs.toList[i]? = some q → p.1 = q.1 ∧ SRep x.J x.β q.2 p.2) (h : buildF P K.mem t ps = some (vc, s)) :
    ∃ v, (Instr.build t vs).run P w = .ok v w ∧ SRep x.J x.β v s := by
  unfold buildF at h
  split at h
  · rename_i fs n zs hk hz
    split at h
    · rename_i hcond
      simp only [Bool.and_eq_true, List.all_eq_true, decide_eq_true_eq] at hcond
      obtain ⟨hfs, hsol⟩ := hcond
      simp only [Option.map_eq_some_iff, Prod.mk.injEq] at h
      obtain ⟨r, hr, rfl, rfl⟩ := h
      obtain ⟨fields, i, hu, hi, hsz, hn, rfl⟩ := tk_struct hk
      obtain ⟨z, i', z1, z2, z3, z4, z5, z6, z7, z8⟩ := tzero_sound hz w x.J
      have hzero : ArrR x.J x.β z.cells (zs.map z2s) := ⟨by simp [z5], fun j u s hu hs => by
        rw [List.getElem?_map, Option.map_eq_some_iff] at hs
        obtain ⟨d, hd, rfl⟩ := hs
        exact zeroDV_z2s (z6 j u d hu hd).2⟩
      -- the fields' places
      have hplaces : ∃ pl : Array (Nat × Nat), (fields.mapM fun f => do pure (f.offset, ← sizeOf f.type) : Sem (Array (Nat × Nat))).run P w = .ok pl w ∧
          ∀ i : Nat, pl[i]? = (fun i => match (fields.toList.map fun f => (f.offset, lkOf P f.type))[i]? with | some (o, .one) => some (o, 1) | some (o, .agg n) => some (o, n) | _ => none) i := by
        have key : ∀ (l : List Field), (∀ f ∈ l, lkOf P f.type ≠ .bad) → ∃ pl : List (Nat × Nat), (l.mapM fun f => do pure (f.offset, ← sizeOf f.type) : Sem (List (Nat × Nat))).run P w = .ok pl w ∧
            ∀ i : Nat, pl[i]? = (fun i => match (l.map fun f => (f.offset, lkOf P f.type))[i]? with | some (o, .one) => some (o, 1) | some (o, .agg n) => some (o, n) | _ => none) i := by
          intro l
          induction l with
          | nil => intro _; exact ⟨[], rfl, fun i => by simp⟩
          | cons f l ih =>
            intro hb
            obtain ⟨pl, e, hpl⟩ := ih fun g hg => hb g (by simp [hg])
            have hf := hb f (by simp)
            obtain ⟨m, hm', hmm⟩ : ∃ m, (sizeOf f.type).run P w = .ok m w ∧ (lkOf P f.type = .one ∧ m = 1 ∨ lkOf P f.type = .agg m) := by
              cases hlk : lkOf P f.type with
              | one => exact ⟨1, (lk_one hlk w).2, .inl ⟨rfl, rfl⟩⟩
              | agg n => exact ⟨n, (lk_agg hlk w).2.1, .inr rfl⟩
              | bad => exact absurd hlk hf
            refine ⟨(f.offset, m) :: pl, ?_, fun i => ?_⟩
            · simp only [List.mapM_cons, Sem.run_bind, hm', Result.andThen_ok, Sem.run_pure, e]
            · cases i with
              | zero =>
                simp only [List.getElem?_cons_zero, List.map_cons]
                rcases hmm with ⟨h1, h2⟩ | h1 <;> simp [*]
              | succ i => simpa using hpl i
        obtain ⟨pl, e, hpl⟩ := key fields.toList fun f hf => hfs _ (List.mem_map.2 ⟨f, hf, rfl⟩)
        refine ⟨pl.toArray, ?_, fun i => by simpa using hpl i⟩
        rw [Array.mapM_eq_mapM_toList, Sem.run_map, e]
        rfl
      obtain ⟨pl, e1, e2⟩ := hplaces
      obtain ⟨rs, f1, f2⟩ := fillS_sound hm ps vs.toList (zs.map z2s) z.cells r hl (fun i p q h1 h2 => ⟨(hp i p q h1 h2).1, (hp i p q h1 h2).2, hsol p (List.mem_of_getElem? h1)⟩) hzero (place := fun i => pl[i]?) (by rw [← hr]; congr 1; funext i; exact e2 i)
      refine ⟨.agg rs, ?_, SRep.of_mkAgg f2.1 f2.2⟩
      unfold Instr.build
      simp only [Sem.run_bind, z1, Result.andThen_ok, run_underlying' hu, e1, f1, Sem.run_pure]
    · cases h
  · cases h

/-- Zero cells, over and over. -/
theorem madeCells_get (z : Array Value) (n : Nat) (i : Nat) (hi : i < n) (hz : z.size ≠ 0) : (madeCells z n)[i]? = z[i % z.size]? := by
  have hlt : i % z.size < z.size := Nat.mod_lt _ (by omega)
  simp [madeCells, hi, hlt]

theorem rep_rows {J : Imm} {B wd cap : Nat} {vals : Array Value} {xs : List (List DV)} (hJ : ∀ (o : Nat) v, vals[o]? = some v → J B (2 * o) = some v) (hw : ∀ r ∈ xs, r.length = wd) (hcap : xs.length ≤ cap) (hmax : cap ≤ maxLen)
    (h : ∀ (i j : Nat) r d, xs[i]? = some r → r[j]? = some d → ∃ v, vals[i * wd + j]? = some v ∧ Rep J v d) : Rep J (.slice (some ⟨B, 0, none⟩) xs.length cap) (.list xs) := by
  refine .slice (fun i j => (vals[i * wd + j]?).getD undef) hcap hmax hw (fun i j hi hj => ?_) (fun i j r d hr hd => ?_)
  · have hr : xs[i]? = some (xs[i]'hi) := List.getElem?_eq_getElem hi
    have hj' : j < (xs[i]'hi).length := by rw [hw _ (List.mem_of_getElem? hr)]; exact hj
    obtain ⟨v, e, _⟩ := h i j _ _ hr (List.getElem?_eq_getElem hj')
    rw [Nat.zero_add, hJ _ v e, e]; rfl
  · obtain ⟨v, e, r'⟩ := h i j r d hr hd
    rw [e]; exact r'

theorem makeF_sound {x : Ctx} {K : Know} {a : Act} {w : World} (hm : Models x K a w) {t : TypeId} {u v : Value} {l c s' : SV} {vc : Prop} (hl : SRep x.J x.β u l) (hc : SRep x.J x.β v c)
    (h : makeF P t l c = some (vc, s')) (hvc : vc) : ∃ x' w' z, (Instr.makeSlice t u v).run P w = .ok z w' ∧ x.le x' ∧ x'.β = x.β ∧ Models x' K a w' ∧ SRep x'.J x'.β z s' := by
  unfold makeF at h
  split at h
  · rename_i k kl l' kc c' hk h1 h2
    obtain ⟨rfl, _⟩ := intOf'_inv hl h1
    obtain ⟨rfl, _⟩ := intOf'_inv hc h2
    obtain ⟨e, hu, he⟩ := tk_slice hk
    split at h
    · rename_i zs hz
      simp only [Option.some.injEq, Prod.mk.injEq] at h
      obtain ⟨rfl, rfl⟩ := h
      obtain ⟨g0, g1, g2, g3⟩ := hvc
      have htz : tzero P e = some zs := by simp [tzero, he, hz]
      obtain ⟨z, i, z1, z2, z3, z4, z5, z6, z7, z8⟩ := tzero_sound htz w x.J
      replace z6 := fun j u d h1 h2 => (z6 j u d h1 h2).1
      obtain ⟨i', k1, k2, k3, k4, k5, k6, k7⟩ := ek_info he
      rw [z2] at k1; cases k1
      have hrun := run_make (P := P) w t e i z hu z2 z3 kl kc l' c' g0 g1 (by rw [k3]; exact g2) (by simp only [maxLen] at g3; omega)
      have hone : ∀ v ∈ madeCells z.cells (c'.toNat * i.size), v.oneCell' = true := fun v hv => by
        obtain ⟨j, hj, rfl⟩ := Array.mem_iff_getElem.1 hv
        have hj' : j < c'.toNat * i.size := by simpa [madeCells] using hj
        have e1 := madeCells_get z.cells _ j hj' (by omega)
        rw [Array.getElem?_eq_getElem hj] at e1
        exact z7 _ (Array.mem_of_getElem? e1.symm)
      obtain ⟨x', hle, hβ, hm', hJ⟩ := hm.newImm (below_alloc w _) (Nat.le_refl _) (heap_alloc_new' w (.cells (madeCells z.cells (c'.toNat * i.size)) e)) hone
      refine ⟨x', _, _, hrun, hle, hβ, hm', .d ?_⟩
      have hlen : (List.replicate l'.toNat zs).length = l'.toNat := by simp
      have := rep_rows (J := x'.J) (B := w.heap.size) (wd := i.size) (cap := c'.toNat) (xs := List.replicate l'.toNat zs) hJ (fun r hr => by rw [List.eq_of_mem_replicate hr]; omega) (by rw [hlen]; omega) (by omega)
        (fun j q r d hr hd => by
          have hj : j < l'.toNat := by
            have := (List.getElem?_eq_some_iff.1 hr).1
            rwa [hlen] at this
          rw [List.getElem?_replicate] at hr
          split at hr
          · cases hr
            have hq : q < i.size := by rw [z4]; exact (List.getElem?_eq_some_iff.1 hd).1
            have hmod : (j * i.size + q) % z.cells.size = q := by
              rw [z5, ← z4, Nat.add_comm, Nat.add_mul_mod_self_right]
              exact Nat.mod_eq_of_lt hq
            have hlt : j * i.size + q < c'.toNat * i.size := by
              have : (j + 1) * i.size ≤ c'.toNat * i.size := Nat.mul_le_mul_right _ (by omega)
              rw [Nat.add_mul, Nat.one_mul] at this
              omega
            have hq' : q < z.cells.size := by omega
            refine ⟨z.cells[q], ?_, (z6 q _ d (Array.getElem?_eq_getElem hq') hd).mono hle.J⟩
            rw [madeCells_get _ _ _ hlt (by omega), hmod]
            exact Array.getElem?_eq_getElem hq'
          · exact absurd hj ‹_›)
      rw [hlen] at this
      exact this
    · cases h
  · cases h

theorem allD_get {cs : List SV} {ds : List DV} (h : allD cs = some ds) : ds.length = cs.length ∧ ∀ (i : Nat) d, ds[i]? = some d → cs[i]? = some (.d d) := by
  have := allD_eq h
  subst this
  exact ⟨by simp, fun i d hd => by rw [List.getElem?_map, hd]; rfl⟩

theorem chunk_spec {wd : Nat} : ∀ (n : Nat) (ds : List DV), ds.length = n * wd → (chunk wd n ds).length = n ∧ (∀ r ∈ chunk wd n ds, r.length = wd) ∧ ∀ (i j : Nat) r d, (chunk wd n ds)[i]? = some r → r[j]? = some d → ds[i * wd + j]? = some d := by
  intro n
  induction n with
  | zero => intro ds h; exact ⟨rfl, fun r hr => by simp [chunk] at hr, fun i j r d hr => by simp [chunk] at hr⟩
  | succ n ih =>
    intro ds h
    rw [Nat.add_mul, Nat.one_mul] at h
    obtain ⟨h1, h2, h3⟩ := ih (ds.drop wd) (by simp; omega)
    refine ⟨by simp [chunk, h1], fun r hr => ?_, fun i j r d hr hd => ?_⟩
    · simp only [chunk, List.mem_cons] at hr
      rcases hr with rfl | hr
      · simp; omega
      · exact h2 r hr
    · cases i with
      | zero =>
        simp only [chunk, List.getElem?_cons_zero, Option.some.injEq] at hr
        subst hr
        rw [List.getElem?_take] at hd
        split at hd
        · simpa using hd
        · cases hd
      | succ i =>
        have := h3 i j r d (by simpa [chunk] using hr) hd
        rw [List.getElem?_drop] at this
        rw [← this]; congr 1; rw [Nat.add_mul, Nat.one_mul]; omega

/-- The cells of a slice literal, as the machine lays them. -/
theorem litCells_sound {x : Ctx} {K : Know} {a : Act} {w : World} (hm : Models x K a w) {t : TypeId} {len : Nat} {ps : List (Nat × SV)} {vs : Array (Nat × Value)} {k : EK} {cells : List SV}
    (hl : vs.toList.length = ps.length) (hp : ∀ (i : Nat) p q, ps[i]? = some p → vs.toList[i]? = some q → p.1 = q.1 ∧ SRep x.J x.β q.2 p.2) (h : litCells P K.mem t len ps = some (k, cells)) :
    ∃ e rs, tk P t = .slice k ∧ P.underlying t = some (.slice e) ∧ ekOf P e = some k ∧ (Instr.buildSlice t len vs).run P w = .ok (.slice (some ⟨w.heap.size, 0, none⟩) len len) (w.alloc (.cells rs e)) ∧ ArrR x.J x.β rs cells ∧
      cells.length = len * k.sz ∧ (∀ v ∈ rs, v.oneCell' = true) ∧ len ≤ maxLen := by
  unfold litCells at h
  split at h
  · rename_i k' hk
    obtain ⟨e, hu, he⟩ := tk_slice hk
    split at h
    · rename_i zs hz
      split at h
      · rename_i hcond
        simp only [Bool.and_eq_true, List.all_eq_true, decide_eq_true_eq] at hcond
        obtain ⟨hsol, hfit⟩ := hcond
        split at h
        · rename_i cells' hfill
          split at h
          · rename_i hone
            simp only [Option.some.injEq, Prod.mk.injEq] at h
            obtain ⟨rfl, rfl⟩ := h
            have htz : tzero P e = some zs := by simp [tzero, he, hz]
            obtain ⟨z, i, z1, z2, z3, z4, z5, z6, z7, z8⟩ := tzero_sound htz w x.J
            replace z6 := fun j u d h1 h2 => (z6 j u d h1 h2).1
            obtain ⟨i', k1, k2, k3, k4, k5, k6, k7⟩ := ek_info he
            rw [z2] at k1; cases k1
            have hflat : ((List.replicate len zs).flatten.map SV.d).length = len * k'.sz := by
              simp [List.length_flatten, List.map_replicate, List.sum_replicate_nat, ← k2, z4]
            have hzero : ArrR x.J x.β ((Array.range (len * k'.sz)).map (z.cells[· % z.cells.size]!)) ((List.replicate len zs).flatten.map .d) := by
              refine ⟨by rw [hflat]; simp, fun j u s hu hs => ?_⟩
              have hj : j < len * k'.sz := by rw [← hflat]; exact (List.getElem?_eq_some_iff.1 hs).1
              have e1 := madeCells_get z.cells (len * k'.sz) j hj (by omega)
              rw [show (madeCells z.cells (len * k'.sz))[j]? = some u from hu] at e1
              rw [List.getElem?_map, Option.map_eq_some_iff] at hs
              obtain ⟨d, hd, rfl⟩ := hs
              refine .d (z6 (j % z.cells.size) u d e1.symm ?_)
              have hjm : j % z.cells.size < zs.length := by rw [z5]; exact Nat.mod_lt _ (by omega)
              have key : ∀ (n j : Nat), ((List.replicate n zs).flatten)[j]? = some d → zs[j % zs.length]? = some d := by
                intro n
                induction n with
                | zero => intro j hj; simp at hj
                | succ n ih =>
                  intro j hj
                  rw [List.replicate_succ, List.flatten_cons, List.getElem?_append] at hj
                  split at hj
                  · rename_i hlt; rw [Nat.mod_eq_of_lt hlt]; exact hj
                  · rename_i hge
                    have := ih _ hj
                    rw [← this, ← Nat.mod_eq_sub_mod (by omega)]
              rw [z5]; exact key len j hd
            obtain ⟨rs, f1, f2⟩ := fillS_sound hm ps vs.toList _ _ cells' hl (fun i p q h1 h2 => ⟨(hp i p q h1 h2).1, (hp i p q h1 h2).2, hsol p (List.mem_of_getElem? h1)⟩) hzero hfill
            have hlenC : cells'.length = len * k'.sz := by
              have : ∀ (parts : List (Nat × SV)) (cells r : List SV), fillS (fun i => some (i * k'.sz, k'.sz)) cells parts = some r → r.length = cells.length := by
                intro parts
                induction parts with
                | nil => intro cells r h; simp only [fillS, Option.some.injEq] at h; rw [h]
                | cons p parts ih =>
                  intro cells r h
                  simp only [fillS] at h
                  split at h
                  · rename_i hc
                    rw [ih _ _ h, spl_length _ _ _ (by omega)]
                  · cases h
              rw [this _ _ _ hfill, hflat]
            simp only [Bool.and_eq_true, List.all_eq_true] at hone
            refine ⟨e, rs, hk, hu, he, ?_, f2, hlenC, fun v hv => ?_, ?_⟩
            · unfold Instr.buildSlice
              have hsz := ek_size he w
              have n1 : ¬ (len * k'.sz > 2 ^ 24) := by omega
              by_cases hz0 : len * k'.sz = 0
              · have e1 : ∀ z : Array Value, Array.map (fun x => z[x % z.size]!) (Array.range (len * k'.sz)) = #[] := fun z => by
                  apply Array.eq_empty_of_size_eq_zero; simp [hz0]
                rw [e1] at f1
                have e3 : Array.map (fun (_ : Nat) => (default : Value)) (Array.range 0) = #[] := by
                  apply Array.eq_empty_of_size_eq_zero; simp
                simp only [Sem.run_bind, run_underlying' hu, Result.andThen_ok, hsz, hz0, if_true]
                simp [e3, f1, newRow, Result.andThen]
              · simp only [Sem.run_bind, run_underlying' hu, Result.andThen_ok, hsz, n1, if_false, hz0, z1, Sem.run_pure, f1]
                simp [newRow, Result.andThen]
            · obtain ⟨j, hj, rfl⟩ := Array.mem_iff_getElem.1 hv
              have hj' : j < cells'.length := by rw [← f2.1]; exact hj
              have hmem := List.getElem_mem hj'
              exact hm.oneCell (f2.2 j _ _ (Array.getElem?_eq_getElem hj) (List.getElem?_eq_getElem hj')) (hone.2 _ hmem) (hone.1 _ hmem)
            · have : len ≤ len * k'.sz := Nat.le_mul_of_pos_right _ (by omega)
              simp only [maxLen]; omega
          · cases h
        · cases h
      · cases h
    · cases h
  · cases h

end Go.Bf

/-
  The quiet operations, all together. Nothing is claimed here.
-/
namespace Go.Bf
open Go Go.RowKit
variable {P : Program}

theorem litF_sound {x : Ctx} {K : Know} {a : Act} {w : World} (hm : Models x K a w) {t : TypeId} {len : Nat} {ps : List (Nat × SV)} {vs : Array (Nat × Value)} {s : SV} {vc : Prop}
    (hl : vs.toList.length = ps.length) (hp : ∀ (i : Nat) p q, ps[i]? = some p → vs.toList[i]? = some q → p.1 = q.1 ∧ SRep x.J x.β q.2 p.2) (h : litF P K.mem t len ps = some (vc, s)) :
    ∃ x' w' z, (Instr.buildSlice t len vs).run P w = .ok z w' ∧ x.le x' ∧ x'.β = x.β ∧ Models x' K a w' ∧ SRep x'.J x'.β z s ∧ Below w.heap.size w w' := by
  unfold litF at h
  split at h
  · rename_i k cells hc
    split at h
    · rename_i ds hds
      simp only [Option.some.injEq, Prod.mk.injEq] at h
      obtain ⟨rfl, rfl⟩ := h
      obtain ⟨e, rs, hk, hu, he, hrun, harr, hlen, hone, hmax⟩ := litCells_sound hm hl hp hc
      obtain ⟨x', hle, hβ, hm', hJ⟩ := hm.newImm (below_alloc w _) (Nat.le_refl _) (heap_alloc_new' w (.cells rs e)) hone
      refine ⟨x', _, _, hrun, hle, hβ, hm', .d ?_, below_alloc w _⟩
      obtain ⟨g1, g2⟩ := allE_get hds
      obtain ⟨c1, c2, c3⟩ := chunk_spec (wd := k.sz) len ds (by omega)
      have := rep_rows (J := x'.J) (B := w.heap.size) (wd := k.sz) (cap := len) (xs := chunk k.sz len ds) hJ c2 (by omega) hmax (fun i j r d hr hd => by
        have h1 := c3 i j r d hr hd
        obtain ⟨s, h2, h3⟩ := g2 _ d h1
        have hlt : i * k.sz + j < rs.size := by rw [harr.1]; exact (List.getElem?_eq_some_iff.1 h2).1
        exact ⟨rs[i * k.sz + j], Array.getElem?_eq_getElem hlt, (uncl_rep (harr.2 _ _ _ (Array.getElem?_eq_getElem hlt) h2) h3).mono hle.J⟩)
      rw [c1] at this
      exact this
    · cases h
  · cases h

theorem makeF_below {w w' : World} {t : TypeId} {u v z : Value} {x : Ctx} {l c s' : SV} {vc : Prop} (hl : SRep x.J x.β u l) (hc : SRep x.J x.β v c)
    (h : makeF P t l c = some (vc, s')) (hvc : vc) (hr : (Instr.makeSlice t u v).run P w = .ok z w') : Below w.heap.size w w' := by
  unfold makeF at h
  split at h
  · rename_i k kl l' kc c' hk h1 h2
    obtain ⟨rfl, _⟩ := intOf'_inv hl h1
    obtain ⟨rfl, _⟩ := intOf'_inv hc h2
    obtain ⟨e, hu, he⟩ := tk_slice hk
    split at h
    · rename_i zs hz
      simp only [Option.some.injEq, Prod.mk.injEq] at h
      obtain ⟨rfl, rfl⟩ := h
      obtain ⟨g0, g1, g2, g3⟩ := hvc
      have htz : tzero P e = some zs := by simp [tzero, he, hz]
      obtain ⟨z, i, z1, z2, z3, z4, z5, z6, z7, z8⟩ := tzero_sound htz w x.J
      replace z6 := fun j u d h1 h2 => (z6 j u d h1 h2).1
      obtain ⟨i', k1, k2, k3, k4, k5, k6, k7⟩ := ek_info he
      rw [z2] at k1; cases k1
      have hrun := run_make (P := P) w t e i z hu z2 z3 kl kc l' c' g0 g1 (by rw [k3]; exact g2) (by simp only [maxLen] at g3; omega)
      rw [hrun] at hr
      cases hr
      exact below_alloc w _
    · cases h
  · cases h

theorem below_bytesWorld (w : World) (e : TypeId) (s : ByteArray) : Below w.heap.size w (Lib.bytesWorld w e s) :=
  ⟨rfl, rfl, rfl, by rw [Lib.bytesWorld_size]; omega, fun k hk => Lib.bytesWorld_at_old w e s k hk⟩

/-- **A quiet operation yields what is reckoned, and what is known of memory stays.** -/
theorem opQ_sound {x : Ctx} {K : Know} {a : Act} {w : World} (hm : Models x K a w) {im : Bool} {o : Oper} {rd : Operand → Option SV} (hrd : ∀ u ∈ o.op.operands, ∀ s, rd u = some s → SRep x.J x.β (a.eval u) s)
    {vc : Prop} {s : SV} (h : opQ P im K.mem rd o.op = some (vc, s)) (hvc : vc) :
    ∃ x' w' v, (execOp a.eval o).run P w = .ok (.value v) w' ∧ x.le x' ∧ x'.β = x.β ∧ Models x' K a w' ∧ SRep x'.J x'.β v s ∧ Below w.heap.size w w' := by
  have plain : opP P K.mem rd o.op = some (vc, s) → ∃ x' w' v, (execOp a.eval o).run P w = .ok (.value v) w' ∧ x.le x' ∧ x'.β = x.β ∧ Models x' K a w' ∧ SRep x'.J x'.β v s ∧ Below w.heap.size w w' := fun h => by
    obtain ⟨v, e, r⟩ := opP_sound hm hrd h hvc
    exact ⟨x, w, v, e, Ctx.le_refl _, rfl, hm, r, Below.refl _ _⟩
  obtain ⟨dst, op, type, pos, after, guard⟩ := o
  simp only at h plain
  have lift : ∀ (m : Sem Value) z w', m.run P w = .ok z w' → (do pure (Next.value (← m)) : Sem Next).run P w = .ok (.value z) w' := fun m z w' hz => by simp [hz, Result.andThen]
  cases op with
  | build t parts =>
    simp only [opQ, Option.bind_eq_some_iff] at h
    obtain ⟨ps, h1, h2⟩ := h
    obtain ⟨g1, g2⟩ := rdParts_sound (fun u hu => hrd u (by simpa [Op.operands] using hu)) h1
    obtain ⟨v, e, r⟩ := buildF_sound hm g1 g2 h2
    exact ⟨x, w, v, lift _ _ _ e, Ctx.le_refl _, rfl, hm, r, Below.refl _ _⟩
  | makeSlice t l c =>
    simp only [opQ] at h
    split at h
    · simp only [Option.bind_eq_some_iff] at h
      obtain ⟨sl, h1, sc, h2, h3⟩ := h
      obtain ⟨x', w', z, e, hle, hβ, hm', r⟩ := makeF_sound hm (hrd l (by simp [Op.operands]) _ h1) (hrd c (by simp [Op.operands]) _ h2) h3 hvc
      exact ⟨x', w', z, lift _ _ _ e, hle, hβ, hm', r, makeF_below (hrd l (by simp [Op.operands]) _ h1) (hrd c (by simp [Op.operands]) _ h2) h3 hvc e⟩
    · cases h
  | buildSlice t n parts =>
    simp only [opQ] at h
    split at h
    · simp only [Option.bind_eq_some_iff] at h
      obtain ⟨ps, h1, h2⟩ := h
      obtain ⟨g1, g2⟩ := rdParts_sound (fun u hu => hrd u (by simpa [Op.operands] using hu)) h1
      obtain ⟨x', w', z, e, hle, hβ, hm', r, hb⟩ := litF_sound hm g1 g2 h2
      exact ⟨x', w', z, lift _ _ _ e, hle, hβ, hm', r, hb⟩
    · cases h
  | convert t t' u =>
    simp only [opQ] at h
    split at h
    · rename_i k l hk hl
      split at h
      · rename_i hcond
        simp only [Bool.and_eq_true] at hcond
        obtain ⟨h8, hok⟩ := hcond
        simp only [Option.some.injEq, Prod.mk.injEq] at h
        obtain ⟨rfl, rfl⟩ := h
        obtain ⟨e, hu, he⟩ := tk_slice hk
        obtain ⟨d, hd⟩ := tk_ok hok
        obtain ⟨i, k1, k2, k3, k4, k5, k6, k7⟩ := ek_info he
        have hv := d_inv (hrd u (by simp [Op.operands]) _ hl)
        generalize hev : a.eval u = v at hv
        cases hv with
        | str hlen =>
          have hrun := Lib.run_convert_string_bytes (P := P) w t t' e ⟨l.toArray⟩ hd hu (isU8_eq (k5.trans h8))
          have hone : ∀ v ∈ Lib.bytesCells w e ⟨l.toArray⟩, v.oneCell' = true := fun v hv => by
            simp only [Lib.bytesCells, Array.mem_append, Array.mem_map, Array.mem_replicate] at hv
            rcases hv with ⟨b, _, rfl⟩ | ⟨_, rfl⟩ <;> rfl
          obtain ⟨x', hle, hβ, hm', hJ⟩ := hm.newImm (below_bytesWorld w e ⟨l.toArray⟩) (Nat.le_refl _) (Lib.bytesWorld_at_new w e _) hone
          rw [← hev] at hrun
          refine ⟨x', _, _, lift _ _ _ hrun, hle, hβ, hm', .d ?_, below_bytesWorld _ _ _⟩
          have hsz : (⟨l.toArray⟩ : ByteArray).size = (l.map rowB).length := by simp [ByteArray.size]
          have hcapm : grownCap w (⟨l.toArray⟩ : ByteArray).size 0 e ≤ maxLen := grownCap_le_maxLen w _ _ e (by rw [hsz]; simpa using hlen)
          have hcap : (⟨l.toArray⟩ : ByteArray).size ≤ grownCap w (⟨l.toArray⟩ : ByteArray).size 0 e := grownCap_ge w _ _ e
          have := rep_rows (J := x'.J) (B := w.heap.size) (wd := 1) (cap := grownCap w (⟨l.toArray⟩ : ByteArray).size 0 e) (xs := l.map rowB) hJ (fun r hr => by obtain ⟨c, _, rfl⟩ := List.mem_map.1 hr; rfl) (by rw [← hsz]; exact hcap) hcapm
            (fun i j r d hr hd => by
              rw [List.getElem?_map, Option.map_eq_some_iff] at hr
              obtain ⟨c, hc, rfl⟩ := hr
              have hj : j = 0 := by
                have := (List.getElem?_eq_some_iff.1 hd).1
                simp [rowB] at this; exact this
              subst hj
              simp only [rowB, List.getElem?_cons_zero, Option.some.injEq] at hd
              subst hd
              have hi := (List.getElem?_eq_some_iff.1 hc).1
              refine ⟨.int .u8 c.toNat, ?_, .int ?_⟩
              · simp only [Lib.bytesCells, Nat.mul_one, Nat.add_zero]
                rw [Array.getElem?_append_left (by simpa using hi)]
                simp [hc]
              · have := c.toNat_lt
                simp only [InK, IntKind.min, IntKind.max, IntKind.signed, IntKind.bits, Bool.false_eq_true, if_false]
                omega)
          rw [← hsz] at this
          exact this
      · cases h
    · exact plain h
  | _ => exact plain h

end Go.Bf

/-
  The operations that write local memory: what they leave, and that they do. Nothing is claimed here.
-/
namespace Go.Bf
open Go Go.RowKit
variable {P : Program}

def Know.newB (K : Know) (t : TypeId) (cells : List SV) : Know := { K with mem := Bf.put K.mem K.nx (.live t cells), nx := K.nx + 1 }
def Know.setB (K : Know) (b : Nat) (m : MB) : Know := { K with mem := Bf.put K.mem b m }
def Know.newO (K : Know) (o : MO) : Know := { K with mem := Bf.put K.mem K.nx (.mp o), nx := K.nx + 1 }

/-- The cells at the front of a row are data. -/
structure Front (J : Imm) (β : Nat → Nam) (vs : Array Value) (ss : List SV) : Prop where
  le : ss.length ≤ vs.size
  get : ∀ (o : Nat) s, ss[o]? = some s → ∃ v, vs[o]? = some v ∧ SRep J β v s

theorem ArrR.front {J : Imm} {β : Nat → Nam} {vs : Array Value} {ss : List SV} (h : ArrR J β vs ss) : Front J β vs ss :=
  ⟨by rw [h.1]; exact Nat.le_refl _, fun o s hs => by
    have hlt : o < vs.size := by rw [h.1]; exact (List.getElem?_eq_some_iff.1 hs).1
    exact ⟨vs[o], Array.getElem?_eq_getElem hlt, h.2 o _ s (Array.getElem?_eq_getElem hlt) hs⟩⟩

/-- A new local block is there, nothing else has turned. -/
theorem Models.newLive {x : Ctx} {K : Know} {a : Act} {w w1 : World} (hm : Models x K a w) (hb : Below w.heap.size w w1) {B : Nat} {vals : Array Value} {t T : TypeId} {cells : List SV} (hB : w.heap.size ≤ B)
    (hcell : w1.heap[B]? = some (.cells vals T (0, 0))) (h1 : ∀ v ∈ vals, v.oneCell' = true) (hc : Front x.J x.β vals cells) :
    ∃ x', x.le x' ∧ x'.J = x.J ∧ x'.β K.nx = .live B vals.size t ∧ Models x' (K.newB t cells) a w1 := by
  have hm1 := hm.grow hb
  have hun : x.β K.nx = .unborn := hm.unborn _ (hm.fresh _ (Nat.le_refl _))
  let β' : Nat → Nam := Bf.put x.β K.nx (.live B vals.size t)
  have hβ : ∀ b, (x.β b).le (β' b) := fun b => by
    simp only [β', Bf.put]
    split
    · rename_i e; rw [e, hun]; trivial
    · exact Nam.le_refl _
  have hβn : β' K.nx = .live B vals.size t := by simp [β', Bf.put]
  have hβo : ∀ b, b ≠ K.nx → β' b = x.β b := fun b hb => by simp [β', Bf.put, hb]
  have hbig : ∀ b B' sz t', x.β b = .live B' sz t' → b ≠ K.nx ∧ (K.mem b = .unborn → False) := fun b B' sz t' h => by
    exact ⟨fun e => (by rw [e, hun] at h; cases h), fun e => (by rw [hm.unborn b e] at h; cases h)⟩
  refine ⟨{ x with β := β' }, ⟨fun _ _ _ h => h, hβ, rfl, rfl, rfl⟩, rfl, hβn, ?_⟩
  have notmem : ∀ b, (match K.mem b with | .live _ _ => True | _ => False) → b ≠ K.nx := fun b h e => by
    rw [e, hm.fresh _ (Nat.le_refl _)] at h; exact h
  have liveB : ∀ b B' sz t', x.β b = .live B' sz t' → B' < w.heap.size := fun b B' sz t' h => by
    cases hmem : K.mem b with
    | unborn => exact absurd hmem (fun e => (hbig b B' sz t' h).2 e)
    | dead => rw [hm.dead b hmem] at h; cases h
    | live t'' cells'' =>
      obtain ⟨B2, vals2, fr2, g1, ⟨T, g2⟩, _⟩ := (hm.live b t'' cells'' hmem).out
      rw [h] at g1; cases g1
      exact (Array.getElem?_eq_some_iff.1 g2).1
    | mp es =>
      obtain ⟨B2, ob, g1, g2, _⟩ := (hm.maps b es hmem).out
      rw [h] at g1; cases g1
      exact (Array.getElem?_eq_some_iff.1 g2).1
  refine ⟨hm1.fro, hm1.size, hm1.defers, hm1.below, hm1.holds, hm1.old, ?_, ?_, ?_, ?_, ?_, hm1.one, ?_, ?_⟩
  · intro i s hs
    obtain ⟨v, e, r⟩ := hm1.slots i s hs
    exact ⟨v, e, r.mono (fun _ _ _ h => h) hβ⟩
  · intro b hb'
    by_cases e : b = K.nx
    · subst e; simp [Know.newB, Bf.put] at hb'
    · simp only [Know.newB, Bf.put, if_neg e] at hb'
      show β' b = _
      rw [hβo b e]; exact hm1.unborn b hb'
  · intro b hb'
    by_cases e : b = K.nx
    · subst e; simp [Know.newB, Bf.put] at hb'
    · simp only [Know.newB, Bf.put, if_neg e] at hb'
      show β' b = _
      rw [hβo b e]; exact hm1.dead b hb'
  · intro b t' cells' hb'
    by_cases e : b = K.nx
    · subst e
      simp only [Know.newB, Bf.put, if_true, MB.live.injEq] at hb'
      obtain ⟨rfl, rfl⟩ := hb'
      refine ⟨B, vals, (0, 0), hβn, ⟨T, hcell⟩, rfl, hc.le, fun o s hs => ?_, fun o => ?_, ?_, h1⟩
      · obtain ⟨v, e, r⟩ := hc.get o s hs
        exact ⟨v, e, r.mono (fun _ _ _ h => h) hβ⟩
      · cases hJ : x.J B o with
        | none => rfl
        | some v =>
          have := vc_lt (hm.holds B o v hJ)
          omega
      · have := hm.w0le
        refine ⟨?_, fun ho => ?_⟩
        · show x.w0.heap.size ≤ B
          omega
        · have := hm.othlt B ho; omega
    · simp only [Know.newB, Bf.put, if_neg e] at hb'
      obtain ⟨B2, vals2, fr2, g1, g2, g3, g4, g5, g6, g7, g8⟩ := (hm1.live b t' cells' hb').out
      exact ⟨B2, vals2, fr2, (hβo b e).trans g1, g2, g3, g4, fun o s hs => let ⟨v, e, r⟩ := g5 o s hs; ⟨v, e, r.mono (fun _ _ _ h => h) hβ⟩, g6, g7, g8⟩
  · intro b b' B2 sz t2 sz' t2' h h'
    by_cases e : b = K.nx
    · by_cases e' : b' = K.nx
      · rw [e, e']
      · have h' : x.β b' = _ := (hβo b' e').symm.trans h'
        have h : β' b = _ := h
        rw [e, hβn] at h; cases h
        have := liveB b' _ _ _ h'
        omega
    · by_cases e' : b' = K.nx
      · have h : x.β b = _ := (hβo b e).symm.trans h
        have h' : β' b' = _ := h'
        rw [e', hβn] at h'; cases h'
        have := liveB b _ _ _ h
        omega
      · exact hm1.inj b b' B2 sz t2 sz' t2' ((hβo b e).symm.trans h) ((hβo b' e').symm.trans h')
  · intro b hb'
    have : b ≠ K.nx := by simp only [Know.newB] at hb'; omega
    simp only [Know.newB, Bf.put, if_neg this]
    exact hm1.fresh b (by simp only [Know.newB] at hb'; omega)
  · intro b es hb'
    by_cases e : b = K.nx
    · subst e; simp [Know.newB, Bf.put] at hb'
    · simp only [Know.newB, Bf.put, if_neg e] at hb'
      obtain ⟨B2, ob, g1, g2, g4, g5, g6⟩ := (hm1.maps b es hb').out
      exact ⟨B2, ob, (hβo b e).trans g1, g2, g4.mono (fun _ _ _ h => h) (fun _ _ r => r.mono (fun _ _ _ h => h) hβ), g5, g6⟩

/-- A local block is written. -/
theorem Models.setLive {x : Ctx} {K : Know} {a : Act} {w w1 : World} (hm : Models x K a w) {b B : Nat} {t : TypeId} {cells cells' : List SV} {sz : Nat} {t0 : TypeId} (hmem : K.mem b = .live t cells) (hβ : x.β b = .live B sz t0)
    {vals' : Array Value} (hsz : vals'.size = sz) (hw : w1 = w.setRow B vals') (h1 : ∀ v ∈ vals', v.oneCell' = true) (hc : Front x.J x.β vals' cells') : Models x (K.setB b (.live t cells')) a w1 := by
  obtain ⟨B2, vals, fr, g1, ⟨T, g2⟩, g3, g4, g5, g6, g7, g8⟩ := (hm.live b t cells hmem).out
  rw [hβ] at g1
  cases g1
  have hB := (Array.getElem?_eq_some_iff.1 g2).1
  have hrow : w1.heap[B]? = some (.cells vals' T fr) := by rw [hw]; exact setRow_heap w B vals vals' T fr g2
  have hoth : ∀ k, k ≠ B → w1.heap[k]? = w.heap[k]? := fun k hk => by
    rw [hw]; unfold World.setRow
    simp only [Array.getElem?_modify]
    rw [if_neg (Ne.symm hk)]
  have hsize : w1.heap.size = w.heap.size := by rw [hw]; simp [World.setRow]
  have hbel : Below B w w1 := ⟨by rw [hw]; rfl, by rw [hw]; rfl, by rw [hw]; rfl, by omega, fun k hk => hoth k (by omega)⟩
  have hkeep : ∀ b o v, x.J b o = some v → vc w1 b o = some v := by
    intro b' o v hv
    have hne : b' ≠ B := fun e => by subst e; rw [g6 o] at hv; cases hv
    have := hm.holds b' o v hv
    rw [← this]
    exact vc_block (hoth b' hne) _
  refine ⟨hm.fro, hm.size, ?_, x.w0.up _ _ _ _ _ hm.below (hbel.mono g7.1) (fun k hk => hoth k fun e => g7.2 (e ▸ hk)) hkeep, hkeep, hm.old, hm.slots, ?_, ?_, ?_, hm.inj, hm.one, ?_, ?_⟩
  · refine hm.defers.mono fun D _ _ hD => hoth D fun e => ?_
    subst e; rw [g2] at hD; cases hD
  · intro b' h'
    by_cases e : b' = b
    · subst e; simp [Know.setB, Bf.put] at h'
    · simp only [Know.setB, Bf.put, if_neg e] at h'; exact hm.unborn b' h'
  · intro b' h'
    by_cases e : b' = b
    · subst e; simp [Know.setB, Bf.put] at h'
    · simp only [Know.setB, Bf.put, if_neg e] at h'; exact hm.dead b' h'
  · intro b' t' cells2 h'
    by_cases e : b' = b
    · subst e
      simp only [Know.setB, Bf.put, if_true, MB.live.injEq] at h'
      obtain ⟨rfl, rfl⟩ := h'
      exact ⟨B, vals', fr, by rw [hβ, hsz], ⟨T, hrow⟩, g3, hc.le, hc.get, g6, g7, h1⟩
    · simp only [Know.setB, Bf.put, if_neg e] at h'
      obtain ⟨B3, vals3, fr3, k1, ⟨T', k2⟩, k3, k4, k5, k6, k7, k8⟩ := (hm.live b' t' cells2 h').out
      have hne : B3 ≠ B := fun e2 => by subst e2; exact e (hm.inj b' b _ _ _ _ _ k1 hβ)
      exact ⟨B3, vals3, fr3, k1, ⟨T', (hoth B3 hne).trans k2⟩, k3, k4, k5, k6, k7, k8⟩
  · intro b' h'
    have : b' ≠ b := fun e => by
      subst e; rw [hm.fresh b' h'] at hmem; cases hmem
    simp only [Know.setB, Bf.put, if_neg this]
    exact hm.fresh b' h'
  · intro b' es h'
    by_cases e : b' = b
    · subst e; simp [Know.setB, Bf.put] at h'
    · simp only [Know.setB, Bf.put, if_neg e] at h'
      obtain ⟨B3, ob, k1, k2, k4, k5, k6⟩ := (hm.maps b' es h').out
      have hne : B3 ≠ B := fun e2 => by subst e2; exact e (hm.inj b' b _ _ _ _ _ k1 hβ)
      exact ⟨B3, ob, k1, (hoth B3 hne).trans k2, k4, k5, k6⟩

/-- A new local object is there, nothing else has turned. -/
theorem Models.newObj {x : Ctx} {K : Know} {a : Act} {w w1 : World} (hm : Models x K a w) (hb : Below w.heap.size w w1) {B : Nat} {obj : Obj} {mo : MO} (hB : w.heap.size ≤ B)
    (hcell : w1.heap[B]? = some obj) (hc : ObjR x.J x.β obj mo) :
    ∃ x', x.le x' ∧ x'.J = x.J ∧ x'.β K.nx = .live B 0 0 ∧ Models x' (K.newO mo) a w1 := by
  have hm1 := hm.grow hb
  have hun : x.β K.nx = .unborn := hm.unborn _ (hm.fresh _ (Nat.le_refl _))
  let β' : Nat → Nam := Bf.put x.β K.nx (.live B 0 0)
  have hβ : ∀ b, (x.β b).le (β' b) := fun b => by
    simp only [β', Bf.put]
    split
    · rename_i e; rw [e, hun]; trivial
    · exact Nam.le_refl _
  have hβn : β' K.nx = .live B 0 0 := by simp [β', Bf.put]
  have hβo : ∀ b, b ≠ K.nx → β' b = x.β b := fun b hb => by simp [β', Bf.put, hb]
  have hbig : ∀ b B' sz t', x.β b = .live B' sz t' → b ≠ K.nx ∧ (K.mem b = .unborn → False) := fun b B' sz t' h => by
    exact ⟨fun e => (by rw [e, hun] at h; cases h), fun e => (by rw [hm.unborn b e] at h; cases h)⟩
  refine ⟨{ x with β := β' }, ⟨fun _ _ _ h => h, hβ, rfl, rfl, rfl⟩, rfl, hβn, ?_⟩
  have notmem : ∀ b, (match K.mem b with | .live _ _ => True | _ => False) → b ≠ K.nx := fun b h e => by
    rw [e, hm.fresh _ (Nat.le_refl _)] at h; exact h
  have liveB : ∀ b B' sz t', x.β b = .live B' sz t' → B' < w.heap.size := fun b B' sz t' h => by
    cases hmem : K.mem b with
    | unborn => exact absurd hmem (fun e => (hbig b B' sz t' h).2 e)
    | dead => rw [hm.dead b hmem] at h; cases h
    | live t'' cells'' =>
      obtain ⟨B2, vals2, fr2, g1, ⟨T, g2⟩, _⟩ := (hm.live b t'' cells'' hmem).out
      rw [h] at g1; cases g1
      exact (Array.getElem?_eq_some_iff.1 g2).1
    | mp es =>
      obtain ⟨B2, ob, g1, g2, _⟩ := (hm.maps b es hmem).out
      rw [h] at g1; cases g1
      exact (Array.getElem?_eq_some_iff.1 g2).1
  refine ⟨hm1.fro, hm1.size, hm1.defers, hm1.below, hm1.holds, hm1.old, ?_, ?_, ?_, ?_, ?_, hm1.one, ?_, ?_⟩
  · intro i s hs
    obtain ⟨v, e, r⟩ := hm1.slots i s hs
    exact ⟨v, e, r.mono (fun _ _ _ h => h) hβ⟩
  · intro b hb'
    by_cases e : b = K.nx
    · subst e; simp [Know.newO, Bf.put] at hb'
    · simp only [Know.newO, Bf.put, if_neg e] at hb'
      show β' b = _
      rw [hβo b e]; exact hm1.unborn b hb'
  · intro b hb'
    by_cases e : b = K.nx
    · subst e; simp [Know.newO, Bf.put] at hb'
    · simp only [Know.newO, Bf.put, if_neg e] at hb'
      show β' b = _
      rw [hβo b e]; exact hm1.dead b hb'
  · intro b t' cells' hb'
    by_cases e : b = K.nx
    · subst e
      simp [Know.newO, Bf.put] at hb'
    · simp only [Know.newO, Bf.put, if_neg e] at hb'
      obtain ⟨B2, vals2, fr2, g1, g2, g3, g4, g5, g6, g7, g8⟩ := (hm1.live b t' cells' hb').out
      exact ⟨B2, vals2, fr2, (hβo b e).trans g1, g2, g3, g4, fun o s hs => let ⟨v, e, r⟩ := g5 o s hs; ⟨v, e, r.mono (fun _ _ _ h => h) hβ⟩, g6, g7, g8⟩
  · intro b b' B2 sz t2 sz' t2' h h'
    by_cases e : b = K.nx
    · by_cases e' : b' = K.nx
      · rw [e, e']
      · have h' : x.β b' = _ := (hβo b' e').symm.trans h'
        have h : β' b = _ := h
        rw [e, hβn] at h; cases h
        have := liveB b' _ _ _ h'
        omega
    · by_cases e' : b' = K.nx
      · have h : x.β b = _ := (hβo b e).symm.trans h
        have h' : β' b' = _ := h'
        rw [e', hβn] at h'; cases h'
        have := liveB b _ _ _ h
        omega
      · exact hm1.inj b b' B2 sz t2 sz' t2' ((hβo b e).symm.trans h) ((hβo b' e').symm.trans h')
  · intro b hb'
    have : b ≠ K.nx := by simp only [Know.newO] at hb'; omega
    simp only [Know.newO, Bf.put, if_neg this]
    exact hm1.fresh b (by simp only [Know.newO] at hb'; omega)
  · intro b es hb'
    by_cases e : b = K.nx
    · subst e
      simp only [Know.newO, Bf.put, if_true, MB.mp.injEq] at hb'
      subst hb'
      refine ⟨B, obj, hβn, hcell, hc.mono (fun _ _ _ h => h) (fun _ _ r => r.mono (fun _ _ _ h => h) hβ), fun o => ?_, ?_⟩
      · cases hJ : x.J B o with
        | none => rfl
        | some v =>
          have := vc_lt (hm.holds B o v hJ)
          omega
      · have := hm.w0le
        refine ⟨?_, fun ho => ?_⟩
        · show x.w0.heap.size ≤ B
          omega
        · have := hm.othlt B ho; omega
    · simp only [Know.newO, Bf.put, if_neg e] at hb'
      obtain ⟨B2, ob, g1, g2, g4, g5, g6⟩ := (hm1.maps b es hb').out
      exact ⟨B2, ob, (hβo b e).trans g1, g2, g4.mono (fun _ _ _ h => h) (fun _ _ r => r.mono (fun _ _ _ h => h) hβ), g5, g6⟩

/-- A local object is written. -/
theorem Models.setObj {x : Ctx} {K : Know} {a : Act} {w w1 : World} (hm : Models x K a w) {b B : Nat} {mo mo' : MO} {obj obj' : Obj} (hmem : K.mem b = .mp mo) (hβ : x.β b = .live B 0 0) (g2 : w.heap[B]? = some obj) (hiM : isMO obj = true)
    (hw : w1 = { w with heap := w.heap.setIfInBounds B obj' }) (hc : ObjR x.J x.β obj' mo') : Models x (K.setB b (.mp mo')) a w1 := by
  obtain ⟨B2, ob2, g1, g2', g4, g6, g7⟩ := (hm.maps b mo hmem).out
  rw [hβ] at g1
  cases g1
  have hB := (Array.getElem?_eq_some_iff.1 g2).1
  have hrow : w1.heap[B]? = some obj' := by rw [hw]; simp [hB]
  have hoth : ∀ k, k ≠ B → w1.heap[k]? = w.heap[k]? := fun k hk => by
    rw [hw]; exact Array.getElem?_setIfInBounds_ne (Ne.symm hk)
  have hsize : w1.heap.size = w.heap.size := by rw [hw]; simp
  have hbel : Below B w w1 := ⟨by rw [hw], by rw [hw], by rw [hw], by omega, fun k hk => hoth k (by omega)⟩
  have hkeep : ∀ b o v, x.J b o = some v → vc w1 b o = some v := by
    intro b' o v hv
    have hne : b' ≠ B := fun e => by subst e; rw [g6 o] at hv; cases hv
    have := hm.holds b' o v hv
    rw [← this]
    exact vc_block (hoth b' hne) _
  refine ⟨hm.fro, hm.size, ?_, x.w0.up _ _ _ _ _ hm.below (hbel.mono g7.1) (fun k hk => hoth k fun e => g7.2 (e ▸ hk)) hkeep, hkeep, hm.old, hm.slots, ?_, ?_, ?_, hm.inj, hm.one, ?_, ?_⟩
  · refine hm.defers.mono fun D _ _ hD => hoth D fun e => ?_
    subst e; rw [g2] at hD; cases hD; cases hiM
  · intro b' h'
    by_cases e : b' = b
    · subst e; simp [Know.setB, Bf.put] at h'
    · simp only [Know.setB, Bf.put, if_neg e] at h'; exact hm.unborn b' h'
  · intro b' h'
    by_cases e : b' = b
    · subst e; simp [Know.setB, Bf.put] at h'
    · simp only [Know.setB, Bf.put, if_neg e] at h'; exact hm.dead b' h'
  · intro b' t' cells2 h'
    by_cases e : b' = b
    · subst e; simp [Know.setB, Bf.put] at h'
    · simp only [Know.setB, Bf.put, if_neg e] at h'
      obtain ⟨B3, vals3, fr3, k1, ⟨T', k2⟩, k3, k4, k5, k6, k7, k8⟩ := (hm.live b' t' cells2 h').out
      have hne : B3 ≠ B := fun e2 => by subst e2; exact e (hm.inj b' b _ _ _ _ _ k1 hβ)
      exact ⟨B3, vals3, fr3, k1, ⟨T', (hoth B3 hne).trans k2⟩, k3, k4, k5, k6, k7, k8⟩
  · intro b' h'
    have : b' ≠ b := fun e => by
      subst e; rw [hm.fresh b' h'] at hmem; cases hmem
    simp only [Know.setB, Bf.put, if_neg this]
    exact hm.fresh b' h'
  · intro b' es h'
    by_cases e : b' = b
    · subst e
      simp only [Know.setB, Bf.put, if_true, MB.mp.injEq] at h'
      subst h'
      exact ⟨B, obj', hβ, hrow, hc, g6, g7⟩
    · simp only [Know.setB, Bf.put, if_neg e] at h'
      obtain ⟨B3, ob, k1, k2, k4, k5, k6⟩ := (hm.maps b' es h').out
      have hne : B3 ≠ B := fun e2 => by subst e2; exact e (hm.inj b' b _ _ _ _ _ k1 hβ)
      exact ⟨B3, ob, k1, (hoth B3 hne).trans k2, k4, k5, k6⟩

/-- An entry is set. -/
theorem run_mapSet {x : Ctx} {w : World} {t k e : TypeId} {kt : TK} (hu : P.underlying t = some (.map k e)) (hk : P.underlying k = some kt.desc)
    {u v : Value} {d : DV} {s : SV} (hd : isKey kt d) (hr : Rep x.J u d) (hs : SRep x.J x.β v s) {B : Nat} {obj : Obj} (hB : w.heap[B]? = some obj) {es : List (DV × SV)} (ho : ObjR x.J x.β obj (.map es)) (hks : ∀ e ∈ es, isKey kt e.1) :
    ∃ obj', (Instr.mapUpdate t (.map (some B)) u v).run P w = .ok () { w with heap := w.heap.setIfInBounds B obj' } ∧ ObjR x.J x.β obj' (.map (updE d s es)) := by
  obtain ⟨ms, c, rfl, h2, h3, h4⟩ := ho
  have hik := isKey_val hd hr
  rcases look_core hd hr (Rv := fun v s => SRep x.J x.β v s) ms.toList es 0 (by simpa using h2) (fun i m q h1 h2 => h3 i m q (by simpa using h1) h2) hks with ⟨y, j, m, g1, g2, g3, g4, g5, g6⟩ | ⟨g1, g2, g3, g4⟩
  · have hj : ms[j]? = some m := by simpa using g2
    refine ⟨.map (ms.modify j fun e => { e with key := u, val := v }) c, ?_, _, _, rfl, ?_, ?_, ?_⟩
    · simp [Instr.mapUpdate, run_underlying' hu, MapKept.run_getObj_map hB, MapKept.run_checkKey hk hik, MapKept.run_findKey hk g1, hj, g3, MapKept.run_keyThatStays hik, MapKept.run_setObj_map _ hB, Result.andThen]
    · rw [g6]; simp [h2]
    · intro i m' q h1' h2'
      rw [g6] at h2'
      rw [Array.getElem?_modify] at h1'
      rw [List.getElem?_set] at h2'
      by_cases e : j = i
      · subst e
        simp only [if_true] at h1' h2'
        rw [hj] at h1'; simp only [Option.map_some, Option.some.injEq] at h1'
        split at h2'
        · cases h2'; subst h1'; exact ⟨hr, hs⟩
        · cases h2'
      · rw [if_neg e] at h1' h2'
        exact h3 i m' q h1' h2'
    · exact MapKept.stamped_modify h4 _ _ (fun _ _ => rfl) (fun e' _ he' => by rw [hj] at he'; cases he'; exact g3.symm)
  · refine ⟨.map (ms.push { key := u, val := v, born := c }) (c + 1), ?_, _, _, rfl, ?_, ?_, ?_⟩
    · simp [Instr.mapUpdate, run_underlying' hu, MapKept.run_getObj_map hB, MapKept.run_checkKey hk hik, MapKept.run_findKey hk g1, MapKept.run_setObj_map _ hB, Result.andThen]
    · rw [g4]; simp [h2]
    · intro i m' q h1' h2'
      rw [g4] at h2'
      rw [Array.getElem?_push] at h1'
      rw [List.getElem?_append] at h2'
      split at h1'
      · rename_i e
        cases h1'
        rw [if_neg (by omega)] at h2'
        rw [show i - es.length = 0 by omega] at h2'
        cases h2'; exact ⟨hr, hs⟩
      · rename_i e
        have hlt := (Array.getElem?_eq_some_iff.1 h1').1
        rw [if_pos (by omega)] at h2'
        exact h3 i m' q h1' h2'
    · exact MapKept.stamped_push h4 g2

end Go.Bf

/-
  The operations that write local memory: new variables, stores, new rows. Nothing is claimed here.
-/
namespace Go.Bf
open Go Go.RowKit
variable {P : Program}

def undefS : SV := .cnd false (.d .nilp)

def lkLen : LK → Nat → Bool
  | .one, n => n == 1
  | .agg m, n => n == m
  | .bad, _ => false

/-- What an operation on local memory leads to. k: what is yielded, and what is known then. -/
def opM (P : Program) (K : Know) (rd : Operand → Option SV) (op : Op) (k : SV → Know → Prop) : Prop :=
  match op with
  | .alloc t => match tzero P t with
    | some zs => k (.loc K.nx 0) (K.newB t (zs.map z2s))
    | none => False
  | .box t u => match rd u with
    | some s => if solid K.mem s && s.cells.all SV.one && s.cells.all (solid K.mem) then k (.loc K.nx 0) (K.newB t s.cells) else False
    | none => False
  | .store t u v => match rd u, rd v with
    | some (.loc b off), some s => match K.mem b with
      | .live bt cells =>
        if solid K.mem s && s.cells.all SV.one && s.cells.all (solid K.mem) && lkLen (lkOf P t) s.cells.length then
          off + s.cells.length ≤ cells.length ∧ k undefS (K.setB b (.live bt (spl cells off s.cells)))
        else False
      | _ => False
    | _, _ => False
  | .makeSlice t l c => match rd l, rd c with
    | some l, some c => match tk P t, intOf' l, intOf' c with
      | .slice ek, some (_, l), some (_, c) => match ek.zero with
        | some zs => (0 ≤ l ∧ l ≤ c ∧ (ek.bytes : Int) * c ≤ 281474976710656 ∧ c ≤ maxLen) ∧
            k (.own K.nx ek.sz 0 l.toNat (some c.toNat)) (K.newB t (match zs with | [z] => repl c.toNat (.d z) | zs => (List.replicate c.toNat zs).flatten.map .d))
        | none => False
      | _, _, _ => False
    | _, _ => False
  | .buildSlice t n parts => match rdParts rd parts with
    | some ps => match litCells P K.mem t n ps with
      | some (ek, cells) => k (.own K.nx ek.sz 0 n (some n)) (K.newB t cells)
      | none => False
    | none => False
  | .makeMap t none => match mapT P t with
    | some _ => k (.mp K.nx) (K.newO (.map []))
    | none => False
  | .makeMap t (some u) => match rd u, mapT P t with
    | some (.d (.int _ _)), some _ => k (.mp K.nx) (K.newO (.map []))
    | _, _ => False
  | .mapUpdate t m i v => match rd m, rd i, rd v, mapT P t with
    | some (.mp b), some (.d key), some s, some (kt, _) => match K.mem b with
      | .mp (.map es) => (isKey kt key ∧ okKeys kt es) ∧ k undefS (K.setB b (.mp (.map (updE key s es))))
      | _ => False
    | _, _, _, _ => False
  | _ => False

/-- What an operation on local memory comes to, as the machine carries it out. -/
def MemRun (P : Program) (x : Ctx) (a : Act) (o : Oper) (w : World) (k : SV → Know → Prop) : Prop :=
  ∃ x' w' K' s, ((∃ v, (execOp a.eval o).run P w = .ok (.value v) w' ∧ SRep x'.J x'.β v s) ∨ ((execOp a.eval o).run P w = .ok .skip w' ∧ SRep x'.J x'.β undef s)) ∧ x.le x' ∧ Models x' K' a w' ∧ k s K'

theorem one_all {x : Ctx} {K : Know} {a : Act} {w : World} (hm : Models x K a w) {vs : Array Value} {ss : List SV} (h : ArrR x.J x.β vs ss) (h1 : ∀ s ∈ ss, s.one = true) (h2 : ∀ s ∈ ss, solid K.mem s = true) : ∀ v ∈ vs, v.oneCell' = true := fun v hv => by
  obtain ⟨j, hj, rfl⟩ := Array.mem_iff_getElem.1 hv
  have hj' : j < ss.length := by rw [← h.1]; exact hj
  have hmem := List.getElem_mem hj'
  exact hm.oneCell (h.2 j _ _ (Array.getElem?_eq_getElem hj) (List.getElem?_eq_getElem hj')) (h2 _ hmem) (h1 _ hmem)

/-- A store of some cells in a row, into a local block. -/
theorem Models.storeRow {x : Ctx} {K : Know} {a : Act} {w : World} (hm : Models x K a w) {b B sz off : Nat} {t bt : TypeId} {cells : List SV} (hmem : K.mem b = .live bt cells) (hβ : x.β b = .live B sz t) {vs : List Value} {ss : List SV}
    (hr : ArrR x.J x.β vs.toArray ss) (hone : ∀ v ∈ vs, v.oneCell' = true) (hfit : off + ss.length ≤ cells.length) :
    ∃ w', (storeCells ⟨B, off, none⟩ vs).run P w = .ok () w' ∧ Models x (K.setB b (.live bt (spl cells off ss))) a w' := by
  obtain ⟨B2, vals, fr, g1, ⟨T, g2⟩, g3, g4, g5, g6, g7, g8⟩ := (hm.live b bt cells hmem).out
  rw [hβ] at g1
  cases g1
  subst g3
  have hl : vs.length = ss.length := by simpa using hr.1
  have hrun := run_storeCells_at (P := P) B off T vs 0 vals w g2 (by omega) hone
  refine ⟨_, hrun, hm.setLive hmem hβ ?_ rfl ?_ ⟨?_, ?_⟩⟩
  · simp; omega
  · intro v hv
    simp only [List.mem_toArray, List.mem_append] at hv
    rcases hv with (hv | hv) | hv
    · exact g8 v (by simpa using List.mem_of_mem_take hv)
    · exact hone v hv
    · exact g8 v (by simpa using List.mem_of_mem_drop hv)
  · rw [spl_length _ _ _ hfit]; simp; omega
  · intro o s hs
    rw [spl_get _ _ _ hfit] at hs
    simp only [Nat.add_zero, List.getElem?_toArray]
    have hspl := spl_get vals.toList off vs (by simp; omega) o
    have hsp : spl vals.toList off vs = vals.toList.take off ++ vs ++ vals.toList.drop (off + vs.length) ∨ True := .inr trivial
    have key : (List.take off vals.toList ++ vs ++ List.drop (off + vs.length) vals.toList)[o]? = if off ≤ o ∧ o < off + vs.length then vs[o - off]? else vals.toList[o]? := by
      rw [List.append_assoc, List.getElem?_append]
      simp only [List.length_take, Array.length_toList]
      by_cases h1 : o < off
      · rw [if_pos (by omega), if_neg (by omega), List.getElem?_take, if_pos h1]
      · rw [if_neg (by omega), List.getElem?_append]
        have : o - min off vals.size = o - off := by omega
        rw [this]
        by_cases h2 : o < off + vs.length
        · rw [if_pos (by omega), if_pos (by omega)]
        · rw [if_neg (by omega), if_neg (by omega), List.getElem?_drop]
          congr 1; omega
    rw [key]
    by_cases hc : off ≤ o ∧ o < off + ss.length
    · rw [if_pos hc] at hs
      rw [if_pos (by omega)]
      have hlt : o - off < vs.length := by omega
      exact ⟨vs[o - off], List.getElem?_eq_getElem hlt, hr.2 _ _ s (by simp [hlt]) hs⟩
    · rw [if_neg hc] at hs
      rw [if_neg (by omega)]
      obtain ⟨v, e, r⟩ := g5 o s hs
      exact ⟨v, by simpa using e, r⟩

theorem opM_sound {x : Ctx} {K : Know} {a : Act} {w : World} (hm : Models x K a w) {o : Oper} {rd : Operand → Option SV} (hrd : ∀ u ∈ o.op.operands, ∀ s, rd u = some s → SRep x.J x.β (a.eval u) s)
    {k : SV → Know → Prop} (h : opM P K rd o.op k) : MemRun P x a o w k := by
  obtain ⟨dst, op, type, pos, after, guard⟩ := o
  have lift : ∀ (m : Sem Value) z w', m.run P w = .ok z w' → (do pure (Next.value (← m)) : Sem Next).run P w = .ok (.value z) w' := fun m z w' hz => by simp [hz, Result.andThen]
  have liftU : ∀ (m : Sem Unit) w', m.run P w = .ok () w' → (do m; pure Next.skip : Sem Next).run P w = .ok .skip w' := fun m w' hz => by simp [hz, Result.andThen]
  simp only at h hrd
  cases op with
  | alloc t =>
    simp only [opM] at h
    split at h
    · rename_i zs hz
      unfold tzero at hz
      rw [Option.bind_eq_some_iff] at hz
      obtain ⟨ek, hk, hzz⟩ := hz
      obtain ⟨i, h1, h2, h3, h4, h5, h6, h7⟩ := ek_info hk
      obtain ⟨v, h8, h9, h10⟩ := h7 zs hzz
      obtain ⟨g1, g2⟩ := mapM_get h10
      have hsz : v.cells.size = zs.length := by rw [g1]; simp
      have hzv : (zeroValue t).run P w = .ok v w := by simp [zeroValue, typeInfo, h1, h8]
      have hget : ∀ (j : Nat) d, zs[j]? = some d → ∃ u, v.cells[j]? = some u ∧ zeroDV u = some d := fun j d hd => by
        have hlt : j < v.cells.size := by rw [hsz]; exact (List.getElem?_eq_some_iff.1 hd).1
        exact ⟨v.cells[j], Array.getElem?_eq_getElem hlt, g2 j _ d (by simp [hlt]) hd⟩
      obtain ⟨x', hle, hJ, hβ, hm'⟩ := hm.newLive (t := t) (cells := zs.map z2s) (below_alloc w (.cells v.cells t)) (Nat.le_refl _) (heap_alloc_new' w (.cells v.cells t))
        (fun u hu => by
          obtain ⟨j, hj, rfl⟩ := Array.mem_iff_getElem.1 hu
          have hlt : j < zs.length := by omega
          exact (zeroDV_rep (J := x.J) (g2 j _ (zs[j]) (by simp [hj]) (List.getElem?_eq_getElem hlt))).2)
        ⟨by simp [hsz], fun j s hs => by
          rw [List.getElem?_map, Option.map_eq_some_iff] at hs
          obtain ⟨d, hd, rfl⟩ := hs
          obtain ⟨u, e, hu⟩ := hget j d hd
          exact ⟨u, e, zeroDV_z2s hu⟩⟩
      refine ⟨x', _, _, _, .inl ⟨.pointer (some ⟨w.heap.size, 0, none⟩), ?_, .loc hβ⟩, hle, hm', h⟩
      exact lift _ _ _ (by simp [Instr.alloc, hzv, newVar, newRow, Result.andThen])
    · exact h.elim
  | box t u =>
    simp only [opM] at h
    split at h
    · rename_i s hs
      split at h
      · rename_i hcond
        simp only [Bool.and_eq_true, List.all_eq_true] at hcond
        obtain ⟨⟨c1, c2⟩, c3⟩ := hcond
        have hr := hm.cells (hrd u (by simp [Op.operands]) s hs) c1
        obtain ⟨x', hle, hJ, hβ, hm'⟩ := hm.newLive (t := t) (below_alloc w (.cells (a.eval u).cells t)) (Nat.le_refl _) (heap_alloc_new' w (.cells (a.eval u).cells t)) (one_all hm hr c2 c3) hr.front
        refine ⟨x', _, _, _, .inl ⟨.pointer (some ⟨w.heap.size, 0, none⟩), ?_, .loc hβ⟩, hle, hm', h⟩
        exact lift _ _ _ (by simp [Instr.box, newVar, newRow, Result.andThen])
      · exact h.elim
    · exact h.elim
  | store t u v =>
    simp only [opM] at h
    split at h
    · rename_i b off s hu hv
      split at h
      · rename_i bt cells hmem
        split at h
        · rename_i hcond
          simp only [Bool.and_eq_true, List.all_eq_true] at hcond
          obtain ⟨⟨⟨c1, c2⟩, c3⟩, c4⟩ := hcond
          obtain ⟨hfit, hk⟩ := h
          obtain ⟨B, sz, t', h1, h2, h3⟩ := hm.cell hmem
          have hr := hm.cells (hrd v (by simp [Op.operands]) s hv) c1
          have he := loc_inv (hrd u (by simp [Op.operands]) _ hu) h1
          have hr' : ArrR x.J x.β (a.eval v).cells.toList.toArray s.cells := by simpa using hr
          have hone : ∀ q ∈ (a.eval v).cells.toList, q.oneCell' = true := fun q hq => one_all hm hr c2 c3 q (by simpa using hq)
          obtain ⟨w', hrun, hm'⟩ := hm.storeRow (P := P) (off := off) hmem h1 hr' hone hfit
          have hsize : (sizeOf t).run P w = .ok (a.eval v).cells.size w := by
            rw [hr.1]
            cases hlk : lkOf P t with
            | one => rw [hlk] at c4; simp only [lkLen, beq_iff_eq] at c4; rw [c4]; exact (lk_one hlk w).2
            | agg n => rw [hlk] at c4; simp only [lkLen, beq_iff_eq] at c4; rw [c4]; exact (lk_agg hlk w).2.1
            | bad => rw [hlk] at c4; cases c4
          refine ⟨x, w', _, _, .inr ⟨?_, .cndF rfl⟩, Ctx.le_refl _, hm', hk⟩
          refine liftU _ _ ?_
          simp only [Instr.storeAt, he, Instr.sureAddr, Sem.run_bind, Sem.run_pure, Result.andThen_ok, storeVar, hsize, ne_eq, not_true_eq_false, if_false]
          simpa using hrun
        · exact h.elim
      · exact h.elim
    · exact h.elim
  | makeSlice t l c =>
    simp only [opM] at h
    split at h
    · rename_i sl sc hl hc
      split at h
      · rename_i ek kl l' kc c' hk h1 h2
        split at h
        · rename_i zs hz
          obtain ⟨⟨g0, g1, g2, g3⟩, hk'⟩ := h
          obtain ⟨hel, _⟩ := intOf'_inv (hrd l (by simp [Op.operands]) _ hl) h1
          obtain ⟨hec, _⟩ := intOf'_inv (hrd c (by simp [Op.operands]) _ hc) h2
          obtain ⟨e, hu, he⟩ := tk_slice hk
          have htz : tzero P e = some zs := by simp [tzero, he, hz]
          obtain ⟨z, i, z1, z2, z3, z4, z5, z6, z7, z8⟩ := tzero_sound htz w x.J
          replace z6 := fun j u d h1 h2 => (z6 j u d h1 h2).1
          obtain ⟨i', k1, k2, k3, k4, k5, k6, k7⟩ := ek_info he
          rw [z2] at k1; cases k1
          have hrun := run_make (P := P) w t e i z hu z2 z3 kl kc l' c' g0 g1 (by rw [k3]; exact g2) (by simp only [maxLen] at g3; omega)
          have hone : ∀ v ∈ madeCells z.cells (c'.toNat * i.size), v.oneCell' = true := fun v hv => by
            obtain ⟨j, hj, rfl⟩ := Array.mem_iff_getElem.1 hv
            have hj' : j < c'.toNat * i.size := by simpa [madeCells] using hj
            have e1 := madeCells_get z.cells _ j hj' (by omega)
            rw [Array.getElem?_eq_getElem hj] at e1
            exact z7 _ (Array.mem_of_getElem? e1.symm)
          have hcells : (match zs with | [z] => repl c'.toNat (SV.d z) | zs => (List.replicate c'.toNat zs).flatten.map .d) = (List.replicate c'.toNat zs).flatten.map .d := by
            split
            · simp [repl_eq]
            · rfl
          rw [hcells] at hk'
          have hflat : ((List.replicate c'.toNat zs).flatten.map SV.d).length = c'.toNat * i.size := by
            simp [List.length_flatten, List.map_replicate, List.sum_replicate_nat, z4]
          have hfront : Front x.J x.β (madeCells z.cells (c'.toNat * i.size)) ((List.replicate c'.toNat zs).flatten.map .d) := by
            refine ⟨by rw [hflat]; simp [madeCells], fun j s hs => ?_⟩
            have hj : j < c'.toNat * i.size := by rw [← hflat]; exact (List.getElem?_eq_some_iff.1 hs).1
            have hjm : j % z.cells.size < z.cells.size := Nat.mod_lt _ (by omega)
            rw [List.getElem?_map, Option.map_eq_some_iff] at hs
            obtain ⟨d, hd, rfl⟩ := hs
            have key : ∀ (n j : Nat), ((List.replicate n zs).flatten)[j]? = some d → zs[j % zs.length]? = some d := by
              intro n
              induction n with
              | zero => intro j hj; simp at hj
              | succ n ih =>
                intro j hj
                rw [List.replicate_succ, List.flatten_cons, List.getElem?_append] at hj
                split at hj
                · rename_i hlt; rw [Nat.mod_eq_of_lt hlt]; exact hj
                · have := ih _ hj
                  rw [← this, ← Nat.mod_eq_sub_mod (by omega)]
            refine ⟨z.cells[j % z.cells.size], ?_, .d (z6 (j % z.cells.size) _ d (Array.getElem?_eq_getElem hjm) ?_)⟩
            · rw [madeCells_get _ _ _ hj (by omega)]; exact Array.getElem?_eq_getElem hjm
            · rw [z5]; exact key _ j hd
          obtain ⟨x', hle, hJ, hβ, hm'⟩ := hm.newLive (t := t) (below_alloc w (.cells (madeCells z.cells (c'.toNat * i.size)) e)) (Nat.le_refl _) (heap_alloc_new' w _) hone hfront
          refine ⟨x', _, _, _, .inl ⟨.slice (some ⟨w.heap.size, 0, none⟩) l'.toNat c'.toNat, lift _ _ _ ?_, ?_⟩, hle, hm', hk'⟩
          · show (Instr.makeSlice t (a.eval l) (a.eval c)).run P w = _
            rw [hel, hec]; exact hrun
          · refine .own hβ ?_ (by omega) (by omega) (fun q hq => by cases hq; rfl)
            simp [madeCells, k2]
        · exact h.elim
      · exact h.elim
    · exact h.elim
  | buildSlice t n parts =>
    simp only [opM] at h
    split at h
    · rename_i ps hps
      split at h
      · rename_i ek cells hc
        obtain ⟨g1, g2⟩ := rdParts_sound (fun u hu => hrd u (by simpa [Op.operands] using hu)) hps
        obtain ⟨e, rs, hk, hu, he, hrun, harr, hlen, hone, hmax⟩ := litCells_sound hm g1 g2 hc
        obtain ⟨x', hle, hJ, hβ, hm'⟩ := hm.newLive (t := t) (below_alloc w (.cells rs e)) (Nat.le_refl _) (heap_alloc_new' w _) hone harr.front
        refine ⟨x', _, _, _, .inl ⟨_, lift _ _ _ hrun, ?_⟩, hle, hm', h⟩
        exact .own hβ (by rw [harr.1, hlen]; omega) (Nat.le_refl _) hmax (fun q hq => by cases hq; rfl)
      · exact h.elim
    · exact h.elim
  | makeMap t r =>
    have empty : ∀ (J : Imm) (β : Nat → Nam), ObjR J β (.map #[] 0) (.map []) := fun J β => ⟨#[], 0, rfl, rfl, fun i m q h1 => by simp at h1, MapKept.stamped_empty 0⟩
    have fin : k (.mp K.nx) (K.newO (.map [])) → (Instr.makeMap t (r.map a.eval)).run P w = .ok (.map (some w.heap.size)) (w.alloc (.map #[] 0)) → MemRun P x a { dst, op := .makeMap t r, type, pos, after, guard } w k := fun h hrun => by
      obtain ⟨x', hle, hJ, hβ, hm'⟩ := hm.newObj (below_alloc w (.map #[] 0)) (Nat.le_refl _) (heap_alloc_new' w _) (empty _ _)
      exact ⟨x', _, _, _, .inl ⟨.map (some w.heap.size), lift _ _ _ hrun, .mp hβ⟩, hle, hm', h⟩
    cases r with
    | none =>
      simp only [opM] at h
      split at h
      · exact fin h (by simp [Instr.makeMap, Result.andThen])
      · exact h.elim
    | some u =>
      simp only [opM] at h
      split at h
      · rename_i kd n p hr hT
        obtain ⟨k', e, hu, _, _⟩ := mapT_inv (kt := p.1) (z := p.2) hT
        have hv := d_inv (hrd u (by simp [Op.operands]) _ hr)
        refine fin h ?_
        cases hu' : a.eval u <;> rw [hu'] at hv <;> cases hv
        simp [Instr.makeMap, run_underlying' hu, hu', asInt, asIntOf, Result.andThen]
      · exact h.elim
  | mapUpdate t m i v =>
    simp only [opM] at h
    split at h
    · rename_i b key s kt z h1 h2 h3 hT
      split at h
      · rename_i es hb
        obtain ⟨⟨c1, c2⟩, hk⟩ := h
        obtain ⟨kk, e, hu, hkk, _⟩ := mapT_inv hT
        obtain ⟨B, obj, g1, g2, g3, g5, g6⟩ := (hm.maps b _ hb).out
        have hmv : a.eval m = .map (some B) := by
          have := hrd m (by simp [Op.operands]) _ h1
          cases hv : a.eval m <;> rw [hv] at this <;> cases this <;> rename_i h <;> rw [g1] at h <;> cases h
          rfl
        obtain ⟨obj', r1, r2⟩ := run_mapSet (P := P) (w := w) hu hkk c1 (d_inv (hrd i (by simp [Op.operands]) _ h2)) (hrd v (by simp [Op.operands]) _ h3) g2 g3 c2
        refine ⟨x, _, _, _, .inr ⟨liftU (Instr.mapUpdate t (a.eval m) (a.eval i) (a.eval v)) _ (by rw [hmv]; exact r1), .cndF rfl⟩, Ctx.le_refl _, hm.setObj hb g1 g2 g3.is rfl r2, hk⟩
      · exact h.elim
    · exact h.elim
  | _ => exact h.elim

end Go.Bf
