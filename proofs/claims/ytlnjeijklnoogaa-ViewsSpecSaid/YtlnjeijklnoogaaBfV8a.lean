/-
  Messages as data; rows of cells of any width. Nothing is claimed here.
-/
import Derived.Test.YtlnjeijklnoogaaBfV3
namespace Go.Bf
open Go Go.RowKit Go.IntWalk
/-- A message. -/
structure Msg where
  kind : Int
  fr : Int
  to : Int
  no : Int
  item : Int
  amount : Int
  day : Int
  label : Int
  labels : List Int
  verdicts : List Int
  rels : List Rl
  sg : { s : List UInt8 // s.length = 32 }
  deriving DecidableEq
def rowMsg (m : Msg) : List DV := [.int .i64 m.kind, .int .i64 m.fr, .int .i64 m.to, .int .i64 m.no, .int .i64 m.item, .int .i64 m.amount, .int .i64 m.day, .int .i64 m.label, encI m.labels, encI m.verdicts, encRels m.rels] ++ m.sg.1.map cB
def encMsg (m : Msg) : DV := .agg (rowMsg m)
def encMsgs (l : List Msg) : DV := .list (l.map rowMsg)
@[simp] theorem rowMsg_length (m : Msg) : (rowMsg m).length = 43 := by simp [rowMsg, m.sg.2]
theorem rowMsg_one (m : Msg) : ∀ d ∈ rowMsg m, d.one = true := by
  intro d hd
  simp only [rowMsg, List.mem_append, List.mem_cons, List.not_mem_nil, or_false, List.mem_map] at hd
  rcases hd with (rfl | rfl | rfl | rfl | rfl | rfl | rfl | rfl | rfl | rfl | rfl) | ⟨c, _, rfl⟩ <;> rfl
@[simp] theorem rowMsg_allone (m : Msg) : ((rowMsg m).map SV.d).all SV.one = true := by
  rw [List.all_eq_true]
  intro s hs
  obtain ⟨d, hd, rfl⟩ := List.mem_map.1 hs
  exact rowMsg_one m d hd
theorem rowMsg_one' (m : Msg) : (∀ x ∈ rowMsg m, DV.one x = true) = True := eq_true (rowMsg_one m)
theorem take_rowMsg (m : Msg) : List.take 43 (rowMsg m) = rowMsg m := List.take_of_length_le (by simp)
theorem take_rowMsgD (m : Msg) : List.take 43 ((rowMsg m).map SV.d) = (rowMsg m).map SV.d := List.take_of_length_le (by simp)
theorem spl_msg {cells : List SV} (h : cells.length = 43) (m : Msg) : spl cells 0 ((rowMsg m).map .d) = (rowMsg m).map .d := by
  unfold spl
  split
  · rename_i c hc; have := congrArg List.length hc; simp at this
  · simp [h]
def zMsg : Msg := ⟨0, 0, 0, 0, 0, 0, 0, 0, [], [], [], ⟨List.replicate 32 0, by simp⟩⟩
/-- Lengths that fit. -/
def fitRs (r : Rl) : Prop := r.1.length ≤ 4611686018427387903 ∧ r.2.length ≤ 4611686018427387903 ∧ ∀ l ∈ r.2, l.length ≤ 4611686018427387903
def fitM (m : Msg) : Prop := m.labels.length ≤ 4611686018427387903 ∧ m.verdicts.length ≤ 4611686018427387903 ∧ m.rels.length ≤ 4611686018427387903 ∧ ∀ r ∈ m.rels, fitRs r
/-! ### Rows of cells -/
section
variable {α : Type}
def cF (f : α → List DV) (l : List α) : List SV := ((l.map f).flatten).map SV.d
theorem flat_lenF {f : α → List DV} {wd : Nat} (hf : ∀ x, (f x).length = wd) (l : List α) : (l.map f).flatten.length = l.length * wd := by
  induction l with
  | nil => simp
  | cons r l ih => rw [List.map_cons, List.flatten_cons, List.length_append, ih, hf, List.length_cons, Nat.add_mul]; omega
theorem cF_length {f : α → List DV} {wd : Nat} (hf : ∀ x, (f x).length = wd) (l : List α) : (cF f l).length = l.length * wd := by rw [cF, List.length_map, flat_lenF hf]
theorem cF_append (f : α → List DV) (a b : List α) : cF f (a ++ b) = cF f a ++ cF f b := by simp [cF]
theorem cF_cons (f : α → List DV) (r : α) (l : List α) : cF f (r :: l) = (f r).map .d ++ cF f l := by simp [cF]
@[simp] theorem cF_nil (f : α → List DV) : cF f [] = [] := rfl
@[simp] theorem cF_allD (f : α → List DV) (l : List α) : allD (cF f l) = some (l.map f).flatten := allD_mapD _
@[simp] theorem cF_renL (ρ : Nat → Nat) (f : α → List DV) (l : List α) : renL ρ (cF f l) = cF f l := renL_mapD ρ _
theorem cF_flat (f : α → List DV) (l : List α) : (l.map (List.map SV.d ∘ f)).flatten = cF f l := by rw [cF, List.map_flatten, List.map_map]
theorem cF_at {f : α → List DV} {wd : Nat} (hf : ∀ x, (f x).length = wd) (p : List α) (x : α) (t : List α) {j : Nat} (h : p.length = j) : ((cF f (p ++ x :: t)).drop (j * wd)).take wd = (f x).map .d := by
  rw [cF_append, List.drop_left' (by rw [cF_length hf, h]), cF_cons, List.take_left' (by simp [hf])]
theorem cF_get {f : α → List DV} {wd : Nat} (hf : ∀ x, (f x).length = wd) {l : List α} {i : Nat} (h : i < l.length) : List.take wd (List.drop (i * wd) (cF f l)) = (f l[i]).map .d := by
  have e : l = l.take i ++ l[i] :: l.drop (i + 1) := by rw [← List.drop_eq_getElem_cons h, List.take_append_drop]
  have := cF_at hf (l.take i) l[i] (l.drop (i + 1)) (j := i) (by simp; omega)
  rw [← e] at this; exact this
theorem spl_def {β : Type} (cells : List β) (off : Nat) (p : List β) (h : p.length ≠ 1) : spl cells off p = cells.take off ++ p ++ cells.drop (off + p.length) := by
  unfold spl
  split
  · simp at h
  · rfl
theorem cF_put {f : α → List DV} {wd : Nat} (hf : ∀ x, (f x).length = wd) (hw : wd ≠ 1) (p : List α) (x y : α) (t : List α) {j : Nat} (h : p.length = j) : spl (cF f (p ++ x :: t)) (j * wd) ((f y).map .d) = cF f (p ++ y :: t) := by
  rw [spl_def _ _ _ (by simp [hf, hw]), cF_append, List.take_left' (by rw [cF_length hf, h]), cF_append, cF_cons f y, cF_cons f x]
  simp only [List.append_assoc]
  congr 2
  rw [List.length_map, hf, show j * wd + wd = (cF f p).length + wd by rw [cF_length hf, h], ← List.drop_drop, List.drop_left, List.drop_left' (by simp [hf])]
theorem cF_spl {f : α → List DV} {wd : Nat} (hf : ∀ x, (f x).length = wd) (hw : 1 < wd) (w t z : List α) (h : t.length = z.length) : spl (cF f (w ++ t)) (w.length * wd) (cF f z) = cF f (w ++ z) := by
  rw [spl_def _ _ _ (by rw [cF_length hf]; intro e; have h1 : z.length * wd = 1 := e; have h2 : wd ∣ 1 := ⟨z.length, by rw [Nat.mul_comm]; exact h1.symm⟩; have := Nat.le_of_dvd (by omega) h2; omega), cF_append, cF_append, List.take_left' (by rw [cF_length hf]), cF_length hf, List.drop_of_length_le (by simp [cF_length hf, h, Nat.add_mul]), List.append_nil]
theorem chunk_flatF {f : α → List DV} {wd : Nat} (hf : ∀ x, (f x).length = wd) (l : List α) : chunk wd l.length (l.map f).flatten = l.map f := by
  induction l with
  | nil => rfl
  | cons r l ih => rw [List.length_cons, List.map_cons, List.flatten_cons, chunk, List.take_left' (hf r), List.drop_left' (hf r), ih]
theorem zrows_F {f : α → List DV} (z : α) (n : Nat) : zrows (f z) n = cF f (List.replicate n z) := by simp [zrows, cF, List.map_replicate]
end
theorem u8_map (l : List UInt8) : (l.map cB).mapM u8Of = some (l.map fun c => (c.toNat : Int)) := by
  induction l with
  | nil => rfl
  | cons c l ih => rw [List.map_cons, List.mapM_cons, ih]; rfl
theorem u8_map' (l : List UInt8) : l.mapM (u8Of ∘ cB) = some (l.map fun c => (c.toNat : Int)) := by
  rw [← u8_map]; induction l with
  | nil => rfl
  | cons c l ih => rw [List.mapM_cons, ih, List.map_cons, List.mapM_cons]; rfl
theorem toNat_inj (a b : List UInt8) : ((a.map fun c => (c.toNat : Int)) = b.map fun c => (c.toNat : Int)) ↔ a = b := by
  constructor
  · intro h
    have : ∀ (a b : List UInt8), ((a.map fun c => (c.toNat : Int)) = b.map fun c => (c.toNat : Int)) → a = b := by
      intro a
      induction a with
      | nil => intro b h; cases b <;> simp at h; rfl
      | cons x a ih =>
        intro b h
        cases b with
        | nil => simp at h
        | cons y b =>
          simp only [List.map_cons, List.cons.injEq] at h
          rw [UInt8.toNat_inj.1 (by omega : x.toNat = y.toNat), ih b h.2]
    exact this a b h
  · rintro rfl; rfl
theorem take_step {α : Type} [DecidableEq α] {a b : List α} {i : Nat} (h1 : i < a.length) (h2 : i < b.length) (h : a.take i = b.take i) (he : a[i] = b[i]) : a.take (i + 1) = b.take (i + 1) := by
  rw [List.take_succ_eq_append_getElem h1, List.take_succ_eq_append_getElem h2, h, he]
end Go.Bf
