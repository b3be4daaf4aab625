/-
  append and copy, as they run. Nothing is claimed here.
-/
import Derived.Test.YtmejdolknkjjdaaBfM
namespace Go.Bf
open Go Go.RowKit
variable {P : Program}

/-- What is appended: so many elements, these cells, in whatever world with this heap. -/
structure Source (P : Program) (w : World) (size : Nat) (v : Value) (n : Nat) (news : List Value) : Prop where
  len : ∀ w' : World, w'.heap = w.heap → (Builtin.lenOf v).run P w' = .ok n w'
  upto : ∀ w' : World, w'.heap = w.heap → ∀ m, m ≤ n → (Builtin.firstCells size m v).run P w' = .ok (news.take (m * size)).toArray w'
  length : news.length = n * size

theorem Source.cells {w : World} {size : Nat} {v : Value} {n : Nat} {news : List Value} (h : Source P w size v n news) (w' : World) (hw : w'.heap = w.heap) : (Builtin.firstCells size n v).run P w' = .ok news.toArray w' := by
  have := h.upto w' hw n (Nat.le_refl _)
  rwa [← h.length, List.take_length] at this

theorem noInt : ∀ (d : TypeDesc), (∀ k, d ≠ .int k) → (match d with | TypeDesc.int _ => true | _ => false) = false := by
  intro d h
  cases d <;> first | rfl | exact absurd rfl (h _)

theorem run_append_room2 {w : World} {t t' ty e : TypeId} {d : TypeDesc} {size : Nat} (hu : P.underlying t = some (.slice e)) (hsz : (sizeOf e).run P w = .ok size w) (hd : P.underlying t' = some d) (hni : ∀ k, d ≠ .int k)
    {xv : Value} {n : Nat} {news : List Value} (hx : Source P w size xv n news) {g o sLen sCap : Nat} {cur : Array Value} {T : TypeId} (hg : w.heap[g]? = some (.cells cur T (0, 0)))
    (h1 : ∀ v ∈ news, v.oneCell' = true) (hroom : sLen + n ≤ sCap) (hfit : o + sLen * size + news.length ≤ cur.size) :
    (Builtin.append_ #[t, t'] ty #[.slice (some ⟨g, o, none⟩) sLen sCap, xv]).run P w =
      .ok (.slice (some ⟨g, o, none⟩) (sLen + n) sCap) (w.setRow g (cur.toList.take (o + sLen * size) ++ news ++ cur.toList.drop (o + sLen * size + news.length)).toArray) := by
  have hst := run_storeCells_at (P := P) g (o + sLen * size) T news 0 cur w hg (by omega) h1
  have hz : (underlying t').run P w = .ok d w := run_underlying' hd w
  unfold Builtin.append_
  simp only [List.getElem?_toArray, List.getElem?_cons_zero, List.getElem?_cons_succ, Sem.run_bind, run_underlying' hu, Result.andThen_ok, hsz, hz, Sem.run_pure]
  have hb' := noInt d hni
  simp only [hb', Bool.false_eq_true, if_false, hx.len w rfl, Result.andThen_ok, Bool.not_false, if_true, hroom, hx.cells w rfl, addr_add, Sem.run_bind]
  simp only [Nat.add_zero] at hst
  simp [hst]

theorem run_append_grow2 {w : World} {t t' ty e : TypeId} {d : TypeDesc} {i : TypeInfo} {z : Value} (hu : P.underlying t = some (.slice e)) (hi : P.info? e = some i) (hiz : i.zero = some z) (hd : P.underlying t' = some d) (hni : ∀ k, d ≠ .int k)
    {xv : Value} {n : Nat} {news : List Value} (hx : Source P w i.size xv n news) {base : Option Addr} {sLen sCap : Nat} {olds : List Value}
    (hold : ∀ w' : World, w'.heap = w.heap → (Builtin.firstCells i.size sLen (.slice base sLen sCap)).run P w' = .ok olds.toArray w')
    (hgrow : sCap < sLen + n) (hmax : sLen + n ≤ maxLen) (hbytes : (sLen + n) * i.bytes ≤ 140737488355328) :
    (Builtin.append_ #[t, t'] ty #[.slice base sLen sCap, xv]).run P w =
      .ok (.slice (some ⟨w.heap.size, 0, none⟩) (sLen + n) (grownCap w (sLen + n) sCap e))
        (w.drew.alloc (.cells (olds.toArray ++ news.toArray ++ Builtin.zeroCells z.cells (grownCap w (sLen + n) sCap e - (sLen + n))) e)) := by
  have hz : (underlying t').run P w = .ok d w := run_underlying' hd w
  have hb' := noInt d hni
  have hfit := growslice_fits (old := sCap) (bytes := i.bytes) hgrow hbytes
  have n0 : ¬ (sLen + n ≤ sCap) := by omega
  have n1 : ¬ (((sLen + n : Nat) : Int) > IntKind.i64.max ∧ (False ∨ i.bytes = 0)) := by
    rintro ⟨h1, _⟩
    simp only [IntKind.max, IntKind.signed, IntKind.bits, maxLen] at h1 hmax
    simp at h1; omega
  have n2 : ¬ (Builtin.nextslicecap (sLen + n) sCap * i.bytes > 2 ^ 48) := by omega
  have hti : ∀ w' : World, (typeInfo e).run P w' = .ok i w' := fun w' => by simp [typeInfo, hi]
  have hsz : (sizeOf e).run P w = .ok i.size w := run_sizeOf' hi w
  have hzv : ∀ w' : World, (zeroValue e).run P w' = .ok z w' := fun w' => by simp [zeroValue, typeInfo, hi, hiz]
  have hdr : ({ w with drawn := w.drawn + 1 } : World).heap = w.heap := rfl
  unfold Builtin.append_
  simp only [List.getElem?_toArray, List.getElem?_cons_zero, List.getElem?_cons_succ, Sem.run_bind, run_underlying' hu, Result.andThen_ok, hsz, hz, Sem.run_pure]
  simp only [hb', Bool.false_eq_true, if_false, hx.len w rfl, Result.andThen_ok, Bool.not_false, if_true, n0, hti, n1, n2, Sem.run_bind, run_choose, Question.forced, run_askRoom, Sem.run_pure]
  simp only [hold w.drew rfl, hx.cells w.drew rfl, Result.andThen_ok, hzv, newRow, Sem.run_bind, run_newObj, Sem.run_pure, World.alloc_eq, World.drew_eq, World.size_drew]
  rfl

end Go.Bf
