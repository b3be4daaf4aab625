/-
  How walks over the model are reckoned on data: our own rules, proved sound over any program. Nothing is claimed here.
-/
import Derived.Sort.LoopGhostIn
import Derived.Test.YtlnjeijklnoogaaFwA
/-
  append and copy, as they run. Nothing is claimed here.
-/
namespace Go.Bf
open Go Go.RowKit
variable {P : Program}

/-- What is appended: so many elements, these cells, in whatever world with this heap. -/
structure Source (P : Program) (w : World) (size : Nat) (v : Value) (n : Nat) (news : List Value) : Prop where
  len : ∀ w' : World, w'.heap = w.heap → (Builtin.lenOf v).run P w' = .ok n w'
  upto : ∀ w' : World, w'.heap = w.heap → ∀ m, m ≤ n → (Builtin.firstCells size m v).run P w' = .ok (news.take (m * size)).toArray w'
  length : news.length = n * size

theorem Source.cells {w : World} {size : Nat} {v : Value} {n : Nat} {news : List Value} (h : Source P w size v n news) (w' : World) (hw : w'.heap = w.heap) : (Builtin.firstCells size n v).run P w' = .ok news.toArray w' := by
  have := h.upto w' hw n (Nat.le_refl _)
  rwa [← h.length, List.take_length] at this

theorem noInt : ∀ (d : TypeDesc), (∀ k, d ≠ .int k) → (match d with | TypeDesc.int _ => true | _ => false) = false := by
  intro d h
  cases d <;> first | rfl | exact absurd rfl (h _)

theorem run_append_room2 {w : World} {t t' ty e : TypeId} {d : TypeDesc} {size : Nat} (hu : P.underlying t = some (.slice e)) (hsz : (sizeOf e).run P w = .ok size w) (hd : P.underlying t' = some d) (hni : ∀ k, d ≠ .int k)
    {xv : Value} {n : Nat} {news : List Value} (hx : Source P w size xv n news) {g o sLen sCap : Nat} {cur : Array Value} {T : TypeId} (hg : w.heap[g]? = some (.cells cur T (0, 0)))
    (h1 : ∀ v ∈ news, v.oneCell' = true) (hroom : sLen + n ≤ sCap) (hfit : o + sLen * size + news.length ≤ cur.size) :
    (Builtin.append_ #[t, t'] ty #[.slice (some ⟨g, o, none⟩) sLen sCap, xv]).run P w =
      .ok (.slice (some ⟨g, o, none⟩) (sLen + n) sCap) (w.setRow g (cur.toList.take (o + sLen * size) ++ news ++ cur.toList.drop (o + sLen * size + news.length)).toArray) := by
  have hst := run_storeCells_at (P := P) g (o + sLen * size) T news 0 cur w hg (by omega) h1
  have hz : (underlying t').run P w = .ok d w := run_underlying' hd w
  unfold Builtin.append_
  simp only [List.getElem?_toArray, List.getElem?_cons_zero, List.getElem?_cons_succ, Sem.run_bind, run_underlying' hu, Result.andThen_ok, hsz, hz, Sem.run_pure]
  have hb' := noInt d hni
  simp only [Bool.false_eq_true, if_false, hx.len w rfl, Result.andThen_ok, Bool.not_false, if_true, hroom, hx.cells w rfl, addr_add, Sem.run_bind]
  simp only [Nat.add_zero] at hst
  simp [hst]

theorem run_append_grow2 {w : World} {t t' ty e : TypeId} {d : TypeDesc} {i : TypeInfo} {z : Value} (hu : P.underlying t = some (.slice e)) (hi : P.info? e = some i) (hiz : i.zero = some z) (hd : P.underlying t' = some d) (hni : ∀ k, d ≠ .int k)
    {xv : Value} {n : Nat} {news : List Value} (hx : Source P w i.size xv n news) {base : Option Addr} {sLen sCap : Nat} {olds : List Value}
    (hold : ∀ w' : World, w'.heap = w.heap → (Builtin.firstCells i.size sLen (.slice base sLen sCap)).run P w' = .ok olds.toArray w')
    (hgrow : sCap < sLen + n) (hmax : sLen + n ≤ maxLen) (hbytes : (sLen + n) * i.bytes ≤ 140737488355328) :
    (Builtin.append_ #[t, t'] ty #[.slice base sLen sCap, xv]).run P w =
      .ok (.slice (some ⟨w.heap.size, 0, none⟩) (sLen + n) (grownCap w (sLen + n) sCap e))
        (w.drew.alloc (.cells (olds.toArray ++ news.toArray ++ Builtin.zeroCells z.cells (grownCap w (sLen + n) sCap e - (sLen + n))) e)) := by
  have hz : (underlying t').run P w = .ok d w := run_underlying' hd w
  have hb' := noInt d hni
  have hfit := growslice_fits (old := sCap) (bytes := i.bytes) hgrow hbytes
  have n0 : ¬ (sLen + n ≤ sCap) := by omega
  have n1 : ¬ (((sLen + n : Nat) : Int) > IntKind.i64.max ∧ (False ∨ i.bytes = 0)) := by
    rintro ⟨h1, _⟩
    simp only [IntKind.max, IntKind.signed, IntKind.bits, maxLen] at h1 hmax
    simp at h1; omega
  have n2 : ¬ (Builtin.nextslicecap (sLen + n) sCap * i.bytes > 2 ^ 48) := by omega
  have hti : ∀ w' : World, (typeInfo e).run P w' = .ok i w' := fun w' => by simp [typeInfo, hi]
  have hsz : (sizeOf e).run P w = .ok i.size w := run_sizeOf' hi w
  have hzv : ∀ w' : World, (zeroValue e).run P w' = .ok z w' := fun w' => by simp [zeroValue, typeInfo, hi, hiz]
  have hdr : ({ w with drawn := w.drawn + 1 } : World).heap = w.heap := rfl
  unfold Builtin.append_
  simp only [List.getElem?_toArray, List.getElem?_cons_zero, List.getElem?_cons_succ, Sem.run_bind, run_underlying' hu, Result.andThen_ok, hsz, hz, Sem.run_pure]
  simp only [Bool.false_eq_true, if_false, hx.len w rfl, Result.andThen_ok, Bool.not_false, if_true, n0, hti, n1, n2, Sem.run_bind, run_choose, Question.forced, run_askRoom, Sem.run_pure]
  simp only [hold w.drew rfl, hx.cells w.drew rfl, Result.andThen_ok, hzv, newRow, Sem.run_bind, run_newObj, Sem.run_pure, World.alloc_eq, World.drew_eq, World.size_drew]
  rfl

end Go.Bf

/-
  append and copy on what is known. Nothing is claimed here.
-/
namespace Go.Bf
open Go Go.RowKit
variable {P : Program}

/-- The cells of rows. -/
def hd1 : List DV → SV
  | [d] => .d d
  | _ => .d .nilp
def rowsCells (sz : Nat) (xs : List (List DV)) : List SV := if sz = 1 then xs.map hd1 else xs.flatten.map .d

theorem rowsCells_eq {sz : Nat} {xs : List (List DV)} (h : Wide sz xs) : rowsCells sz xs = xs.flatten.map .d := by
  unfold rowsCells
  split
  · rename_i e
    subst e
    induction xs with
    | nil => rfl
    | cons r xs ih =>
      have hr := h r (by simp)
      rw [List.map_cons, ih fun q hq => h q (by simp [hq])]
      match r, hr with
      | [d], _ => rfl
  · rfl

theorem flatten_length {sz : Nat} : ∀ {xs : List (List DV)}, Wide sz xs → xs.flatten.length = xs.length * sz := by
  intro xs
  induction xs with
  | nil => intro _; simp
  | cons r xs ih =>
    intro h
    have := ih fun q hq => h q (by simp [hq])
    rw [List.flatten_cons, List.length_append, this, h r (by simp), List.length_cons, Nat.add_mul, Nat.one_mul]; omega

theorem flatten_get {sz : Nat} : ∀ {xs : List (List DV)}, Wide sz xs → ∀ (k : Nat) d, xs.flatten[k]? = some d → ∃ r, xs[k / sz]? = some r ∧ r[k % sz]? = some d ∧ k / sz < xs.length ∧ k % sz < sz := by
  intro xs
  induction xs with
  | nil => intro _ k d h; simp at h
  | cons r xs ih =>
    intro h k d hk
    have hr := h r (by simp)
    rw [List.flatten_cons, List.getElem?_append] at hk
    split at hk
    · rename_i hlt
      have hlt' : k < sz := by omega
      refine ⟨r, ?_, ?_, ?_, ?_⟩
      · rw [Nat.div_eq_of_lt hlt']; rfl
      · rw [Nat.mod_eq_of_lt hlt']; exact hk
      · rw [Nat.div_eq_of_lt hlt']; simp
      · rw [Nat.mod_eq_of_lt hlt']; exact hlt'
    · rename_i hge
      obtain ⟨q, h1, h2, h3, h4⟩ := ih (fun q hq => h q (by simp [hq])) _ d hk
      have hsz : 0 < sz := by omega
      have e1 : k / sz = (k - r.length) / sz + 1 := by
        rw [hr]; exact Nat.div_eq_sub_div hsz (by omega)
      have e2 : k % sz = (k - r.length) % sz := by
        rw [hr]; exact Nat.mod_eq_sub_mod (by omega)
      refine ⟨q, by rw [e1, List.getElem?_cons_succ]; exact h1, by rw [e2]; exact h2, by rw [e1, List.length_cons]; omega, by rw [e2]; exact h4⟩

/-- What is appended or copied, as it is known. -/
def srcF (mem : Mem) (k : EK) : SV → Option (Prop × Nat × List SV)
  | .d (.list ys) => some (Wide k.sz ys, ys.length, rowsCells k.sz ys)
  | .clip ys => some (Wide k.sz ys, ys.length, rowsCells k.sz ys)
  | .own b wd off len _ => match mem b with
    | .live _ cells => some (wd = k.sz ∧ off + len * wd ≤ cells.length, len, (cells.drop off).take (len * wd))
    | _ => none
  | .d (.str l) => if k.u8 then some (k.sz = 1, l.length, l.map fun c => .d (cB c)) else none
  | _ => none

theorem heap_cell {w w' : World} (h : w'.heap = w.heap) (a : Addr) : w'.cell? a = w.cell? a := World.cell?_of_block (by rw [h])

theorem run_loadCells_of {w : World} {b off n : Nat} {vs : List Value} (hn : vs.length = n) (h : ∀ (j : Nat) v, vs[j]? = some v → w.cell? ⟨b, off + j, none⟩ = some v) :
    (loadCells ⟨b, off, none⟩ n).run P w = .ok vs.toArray w := by
  have := run_loadCells_list (P := P) w ⟨b, off, none⟩ vs (fun j v hv => by rw [addr_add]; exact h j v hv)
  rw [hn] at this; exact this

theorem rep_list_cell {J : Imm} {b off len cap sz : Nat} {xs : List (List DV)} (h : Rep J (.slice (some ⟨b, off, none⟩) len cap) (.list xs)) (hw : Wide sz xs) {i j : Nat} {r : List DV} {d : DV} (hi : xs[i]? = some r) (hj : r[j]? = some d) :
    ∃ u, J b (2 * (off + i * sz + j)) = some u ∧ Rep J u d := by
  cases h with
  | empty => simp at hi
  | @slice _ _ _ wd _ vs hcap hmax hwd hc hr =>
    have : wd = sz := by rw [← hwd r (List.mem_of_getElem? hi), hw r (List.mem_of_getElem? hi)]
    subst this
    exact ⟨_, hc i j (List.getElem?_eq_some_iff.1 hi).1 (by rw [← hwd r (List.mem_of_getElem? hi)]; exact (List.getElem?_eq_some_iff.1 hj).1), hr i j r d hi hj⟩

theorem source_list {x : Ctx} {K : Know} {a : Act} {w : World} (hm : Models x K a w) {v : Value} {ys : List (List DV)} (hv : Rep x.J v (.list ys)) {sz : Nat} (_ : sz ≠ 0) (hw : Wide sz ys) :
    ∃ news, Source P w sz v ys.length news ∧ ArrR x.J x.β news.toArray (rowsCells sz ys) ∧ (∀ u ∈ news, u.oneCell' = true) := by
  obtain ⟨ad, cap, rfl⟩ := rep_list_inv hv
  rw [rowsCells_eq hw]
  have hfl := flatten_length hw
  by_cases h0 : ys.length = 0
  · have : ys = [] := List.eq_nil_of_length_eq_zero h0
    subst this
    refine ⟨[], ⟨fun w' _ => rfl, fun w' _ m hm0 => ?_, by simp⟩, ⟨rfl, fun i v s hv => by simp at hv⟩, fun u hu => by simp at hu⟩
    have : m = 0 := by simpa using hm0
    subst this
    cases ad with
    | none => simp [Builtin.firstCells]
    | some ad => simp [Builtin.firstCells, loadCells, loadCellsFrom]
  · obtain ⟨b, off, rfl⟩ := (rep_list_some hv).2.2.2 (by omega)
    have hcells : ∀ (k : Nat) d, ys.flatten[k]? = some d → ∃ u, x.J b (2 * (off + k)) = some u ∧ Rep x.J u d := fun k d hk => by
      obtain ⟨r, h1, h2, h3, h4⟩ := flatten_get hw k d hk
      obtain ⟨u, e, r'⟩ := rep_list_cell hv hw h1 h2
      rw [Nat.add_assoc, Nat.div_add_mod'] at e
      exact ⟨u, e, r'⟩
    let news : List Value := (List.range ys.flatten.length).map fun k => (x.J b (2 * (off + k))).getD undef
    have hget : ∀ (k : Nat) u, news[k]? = some u → ∃ d, ys.flatten[k]? = some d ∧ x.J b (2 * (off + k)) = some u ∧ Rep x.J u d := fun k u hk => by
      simp only [news, List.getElem?_map, Option.map_eq_some_iff] at hk
      obtain ⟨k', hk', rfl⟩ := hk
      have hlt : k < ys.flatten.length := by
        rcases Nat.lt_or_ge k ys.flatten.length with h | h
        · exact h
        · rw [List.getElem?_eq_none (by simpa using h)] at hk'; cases hk'
      rw [List.getElem?_range hlt] at hk'
      cases hk'
      obtain ⟨u', e, r⟩ := hcells k _ (List.getElem?_eq_getElem hlt)
      exact ⟨_, List.getElem?_eq_getElem hlt, by rw [e]; rfl, by rw [e]; exact r⟩
    have hnl : news.length = ys.length * sz := by simp only [news, List.length_map, List.length_range, hfl]
    refine ⟨news, ⟨fun w' _ => rfl, fun w' hw' m hmn => ?_, hnl⟩, ⟨by rw [List.size_toArray, hnl, List.length_map, hfl], fun i u s hu hs => ?_⟩, fun u hu => ?_⟩
    · simp only [Builtin.firstCells]
      have hmul := Nat.mul_le_mul_right sz hmn
      exact run_loadCells_of (by rw [List.length_take, hnl]; omega) fun j u hu => by
        rw [List.getElem?_take] at hu
        split at hu
        · obtain ⟨d, h1, h2, h3⟩ := hget j u hu
          rw [heap_cell hw']; exact hm.cellJ h2
        · cases hu
    · obtain ⟨d, h1, h2, h3⟩ := hget i u (by simpa using hu)
      rw [List.getElem?_map, h1] at hs
      cases hs
      exact .d h3
    · obtain ⟨j, hj, rfl⟩ := List.mem_iff_getElem.1 hu
      obtain ⟨d, h1, h2, h3⟩ := hget j _ (List.getElem?_eq_getElem hj)
      exact hm.one _ _ _ h2

theorem srcF_sound {x : Ctx} {K : Know} {a : Act} {w : World} (hm : Models x K a w) {k : EK} (hk0 : k.sz ≠ 0) {v : Value} {s : SV} (hs : SRep x.J x.β v s) {vc : Prop} {n : Nat} {cs : List SV} (h : srcF K.mem k s = some (vc, n, cs)) (hvc : vc) :
    ∃ news, Source P w k.sz v n news ∧ ArrR x.J x.β news.toArray cs ∧ (∀ u ∈ news, u.oneCell' = true) := by
  unfold srcF at h
  split at h
  · simp only [Option.some.injEq, Prod.mk.injEq] at h
    obtain ⟨rfl, rfl, rfl⟩ := h
    exact source_list hm (d_inv hs) hk0 hvc
  · simp only [Option.some.injEq, Prod.mk.injEq] at h
    obtain ⟨rfl, rfl, rfl⟩ := h
    obtain ⟨_, _, hv⟩ := clip_inv hs
    exact source_list hm hv hk0 hvc
  · rename_i b wd off len c
    split at h
    · rename_i t cells hb
      simp only [Option.some.injEq, Prod.mk.injEq] at h
      obtain ⟨rfl, rfl, rfl⟩ := h
      obtain ⟨rfl, hfit⟩ := hvc
      obtain ⟨B, vals, fr, h1, ⟨T, h2⟩, h3, h4, h5, h6, h7, h8⟩ := (hm.live b t cells hb).out
      obtain ⟨cap, rfl, g1, g2, g3, _⟩ := own_inv hs h1
      have hlen : ((vals.toList.drop off).take (len * k.sz)).length = len * k.sz := by simp; omega
      refine ⟨(vals.toList.drop off).take (len * k.sz), ⟨fun w' _ => rfl, fun w' hw' m hmn => ?_, hlen⟩, ⟨by simp; omega, fun i u s hu hs' => ?_⟩, fun u hu => ?_⟩
      · simp only [Builtin.firstCells]
        have hmul := Nat.mul_le_mul_right k.sz hmn
        exact run_loadCells_of (by rw [List.length_take, hlen]; omega) fun j u hu => by
          rw [List.getElem?_take] at hu
          split at hu
          · rw [List.getElem?_take] at hu
            split at hu
            · rw [List.getElem?_drop] at hu
              rw [heap_cell hw']
              simp only [World.cell?, h2, Option.isSome_none, Bool.false_eq_true, if_false]
              simpa using hu
            · cases hu
          · cases hu
      · simp only [List.getElem?_toArray] at hu
        rw [List.getElem?_take] at hu hs'
        split at hu
        · rename_i hlt
          rw [if_pos hlt, List.getElem?_drop] at hs'
          rw [List.getElem?_drop] at hu
          obtain ⟨u', e, r⟩ := h5 _ s hs'
          have : vals[off + i]? = some u := by simpa using hu
          rw [this] at e; cases e; exact r
        · cases hu
      · exact h8 u (by simpa using List.mem_of_mem_drop (List.mem_of_mem_take hu))
    · cases h
  · rename_i l
    split at h
    · simp only [Option.some.injEq, Prod.mk.injEq] at h
      obtain ⟨rfl, rfl, rfl⟩ := h
      have hv := d_inv hs
      cases hv with
      | str hl =>
        have hsz : (⟨l.toArray⟩ : ByteArray).size = l.length := by simp [ByteArray.size]
        refine ⟨l.map fun c => .int .u8 c.toNat, ⟨fun w' _ => ?_, fun w' _ m hmn => ?_, by simp [hvc]⟩, ⟨by simp, fun i u s hu hs' => ?_⟩, fun u hu => ?_⟩
        · simp only [Builtin.lenOf, hsz]; rfl
        · have : (⟨l.toArray⟩ : ByteArray).extract 0 m = ⟨(l.take m).toArray⟩ := by
            apply ByteArray.ext
            simp [ByteArray.data_extract]
          simp only [Builtin.firstCells, this, Sem.run_pure, hvc, Nat.mul_one]
          simp [List.map_take]
        · simp only [List.getElem?_toArray, List.getElem?_map, Option.map_eq_some_iff] at hu hs'
          obtain ⟨c, hc, rfl⟩ := hu
          rw [hc] at hs'
          obtain ⟨c', hc', rfl⟩ := hs'
          cases hc'
          refine .d (.int ?_)
          have := c.toNat_lt
          simp only [InK, IntKind.min, IntKind.max, IntKind.signed, IntKind.bits, Bool.false_eq_true, if_false]
          omega
        · obtain ⟨c, _, rfl⟩ := List.mem_map.1 hu
          rfl
    · cases h
  · cases h

def TK.conc' : TK → Bool
  | .slice _ | .str => true
  | _ => false

/-- 'append(s, x...)'. -/
def opA (P : Program) (K : Know) (rd : Operand → Option SV) (op : Op) (k : SV → Know → Prop) : Prop :=
  match op with
  | .call { callee := .builtin .append, args := args, argTypes := ts } =>
    match args.toList, ts.toList with
    | [u, v], [t, t'] =>
      match tk P t, rd u, rd v with
      | .slice ek, some s, some r =>
        match srcF K.mem ek r, (tk P t').conc' && ek.zero.isSome with
        | some (vc, n, news), true =>
          match s with
          | .own b wd 0 len _ => match K.mem b with
            | .live bt cells => (vc ∧ wd = ek.sz ∧ cells.length = len * wd ∧ len + n ≤ maxLen ∧ (len + n) * ek.bytes ≤ 140737488355328) ∧
                k (.own K.nx wd 0 (len + n) none) ((K.setB b .dead).newB bt (cells ++ news))
            | _ => False
          | .clip xs => vc ∧ Wide ek.sz xs ∧ xs.length + n ≤ maxLen ∧ (xs.length + n) * ek.bytes ≤ 140737488355328 ∧ (n = 0 → k (.clip xs) K) ∧
              (0 < n → k (.own K.nx ek.sz 0 (xs.length + n) none) (K.newB t (rowsCells ek.sz xs ++ news)))
          | _ => False
        | _, _ => False
      | _, _, _ => False
    | _, _ => False
  | _ => False

/-- 'copy(d, s)': nothing is yielded that is used. -/
def opC (P : Program) (K : Know) (rd : Operand → Option SV) (op : Op) (k : SV → Know → Prop) : Prop :=
  match op with
  | .call { callee := .builtin .copy, args := args, argTypes := ts } =>
    match args.toList, ts.toList with
    | [u, v], [t, t'] =>
      match tk P t, rd u, rd v with
      | .slice ek, some (.own b wd off len _), some r =>
        match srcF K.mem ek r, K.mem b, (tk P t').conc' with
        | some (vc, n, news), .live bt cells, true => (vc ∧ wd = ek.sz ∧ off + min n len * wd ≤ cells.length) ∧
            k (.d (.int .i64 (min n len : Nat))) (K.setB b (.live bt (spl cells off (news.take (min n len * wd)))))
        | _, _, _ => False
      | _, _, _ => False
    | _, _ => False
  | _ => False

/-- Zero cells in a row. -/
def zrows (zs : List DV) (n : Nat) : List SV := (List.replicate n zs).flatten.map .d
/-- 'clear(s)': nothing is yielded that is used. -/
def opZ (P : Program) (K : Know) (rd : Operand → Option SV) (op : Op) (k : SV → Know → Prop) : Prop :=
  match op with
  | .call { callee := .builtin .clear, args := args, argTypes := ts } =>
    match args.toList, ts.toList with
    | [u], [t] => match tk P t, rd u with
      | .slice ek, some (.own b wd off len _) => match ek.zero, K.mem b with
        | some zs, .live bt cells => (wd = ek.sz ∧ off + len * wd ≤ cells.length) ∧ k (.d (.tup [])) (K.setB b (.live bt (spl cells off (zrows zs len))))
        | _, _ => False
      | _, _ => False
    | _, _ => False
  | _ => False

theorem Models.kill {x : Ctx} {K : Know} {a : Act} {w : World} (hm : Models x K a w) {b : Nat} {t : TypeId} {cells : List SV} (hmem : K.mem b = .live t cells) :
    ∃ x', x.le x' ∧ x'.J = x.J ∧ x'.β = Bf.put x.β b .dead ∧ Models x' (K.setB b .dead) a w := by
  obtain ⟨B, sz, t', h1, h2, h3⟩ := hm.cell hmem
  let β' : Nat → Nam := Bf.put x.β b .dead
  have hβ : ∀ c, (x.β c).le (β' c) := fun c => by
    simp only [β', Bf.put]
    split
    · rename_i e; rw [e, h1]; exact .inr rfl
    · exact Nam.le_refl _
  refine ⟨{ x with β := β' }, ⟨fun _ _ _ h => h, hβ, rfl, rfl, rfl⟩, rfl, rfl, hm.fro, hm.size, hm.defers, hm.below, hm.holds, hm.old, ?_, ?_, ?_, ?_, ?_, hm.one, ?_, ?_⟩
  · intro i s hs
    obtain ⟨v, e, r⟩ := hm.slots i s hs
    exact ⟨v, e, r.mono (fun _ _ _ h => h) hβ⟩
  · intro c hc
    by_cases e : c = b
    · subst e; simp [Know.setB, Bf.put] at hc
    · simp only [Know.setB, Bf.put, if_neg e] at hc
      show β' c = _
      simp only [β', Bf.put, if_neg e]; exact hm.unborn c hc
  · intro c hc
    by_cases e : c = b
    · subst e; simp [β', Bf.put]
    · simp only [Know.setB, Bf.put, if_neg e] at hc
      show β' c = _
      simp only [β', Bf.put, if_neg e]; exact hm.dead c hc
  · intro c t2 cells2 hc
    by_cases e : c = b
    · subst e; simp [Know.setB, Bf.put] at hc
    · simp only [Know.setB, Bf.put, if_neg e] at hc
      obtain ⟨B2, vals, fr, g1, g2, g3, g4, g5, g6, g7, g8⟩ := (hm.live c t2 cells2 hc).out
      exact ⟨B2, vals, fr, by simp only [β', Bf.put, if_neg e]; exact g1, g2, g3, g4, fun o s hs => let ⟨v, e, r⟩ := g5 o s hs; ⟨v, e, r.mono (fun _ _ _ h => h) hβ⟩, g6, g7, g8⟩
  · intro c c' B2 s2 t2 s2' t2' hc hc'
    have h1 : β' c = _ := hc
    have h2 : β' c' = _ := hc'
    simp only [β', Bf.put] at h1 h2
    split at h1
    · cases h1
    · split at h2
      · cases h2
      · exact hm.inj c c' B2 s2 t2 s2' t2' h1 h2
  · intro c hc
    have : c ≠ b := fun e => by
      subst e; rw [hm.fresh c hc] at hmem; cases hmem
    simp only [Know.setB, Bf.put, if_neg this]
    exact hm.fresh c hc
  · intro c es hc
    by_cases e : c = b
    · subst e; simp [Know.setB, Bf.put] at hc
    · simp only [Know.setB, Bf.put, if_neg e] at hc
      obtain ⟨B2, ob, g1, g2, g4, g5, g6⟩ := (hm.maps c es hc).out
      exact ⟨B2, ob, by simp only [β', Bf.put, if_neg e]; exact g1, g2, g4.mono (fun _ _ _ h => h) (fun _ _ r => r.mono (fun _ _ _ h => h) hβ), g5, g6⟩

end Go.Bf

/-
  append and copy on what is known: soundness. Nothing is claimed here.
-/
namespace Go.Bf
open Go Go.RowKit
variable {P : Program}

theorem conc'_inv {t : TypeId} (h : (tk P t).conc' = true) : ∃ d, P.underlying t = some d ∧ ∀ k, d ≠ .int k := by
  cases hk : tk P t with
  | slice k => obtain ⟨e, hu, _⟩ := tk_slice hk; exact ⟨_, hu, by simp⟩
  | str => exact ⟨_, tk_str hk, by simp⟩
  | _ => simp [hk, TK.conc'] at h

theorem front_append {J : Imm} {β : Nat → Nam} {vals : Array Value} {ns rest : List Value} {cells news : List SV} (h1 : Front J β vals cells) (h2 : ArrR J β ns.toArray news) :
    Front J β ((vals.toList.take cells.length ++ ns ++ rest).toArray) (cells ++ news) := by
  have hn : ns.length = news.length := by simpa using h2.1
  have hle := h1.le
  refine ⟨by simp; omega, fun o s hs => ?_⟩
  simp only [List.getElem?_toArray]
  rw [List.getElem?_append] at hs
  rw [List.append_assoc, List.getElem?_append]
  have hlt : (vals.toList.take cells.length).length = cells.length := by simp; omega
  rw [hlt]
  split at hs
  · rename_i ho
    rw [if_pos ho, List.getElem?_take, if_pos ho]
    obtain ⟨v, e, r⟩ := h1.get o s hs
    exact ⟨v, by simpa using e, r⟩
  · rename_i ho
    rw [if_neg ho]
    have hlo : o - cells.length < ns.length := by rw [hn]; exact (List.getElem?_eq_some_iff.1 hs).1
    rw [List.getElem?_append_left hlo]
    exact ⟨ns[o - cells.length], List.getElem?_eq_getElem hlo, h2.2 _ _ s (by simp [hlo]) hs⟩

theorem Front.mono {J J' : Imm} {β β' : Nat → Nam} {vs : Array Value} {ss : List SV} (h : Front J β vs ss) (hJ : ∀ b o v, J b o = some v → J' b o = some v) (hβ : ∀ b, (β b).le (β' b)) : Front J' β' vs ss :=
  ⟨h.le, fun o s hs => let ⟨v, e, r⟩ := h.get o s hs; ⟨v, e, r.mono hJ hβ⟩⟩
theorem ArrR.mono {J J' : Imm} {β β' : Nat → Nam} {vs : Array Value} {ss : List SV} (h : ArrR J β vs ss) (hJ : ∀ b o v, J b o = some v → J' b o = some v) (hβ : ∀ b, (β b).le (β' b)) : ArrR J' β' vs ss :=
  ⟨h.1, fun i v s hv hs => (h.2 i v s hv hs).mono hJ hβ⟩

/-- A local block takes a new name. -/
theorem Models.rename {x : Ctx} {K : Know} {a : Act} {w : World} (hm : Models x K a w) {b B sz : Nat} {t0 bt : TypeId} {cells : List SV} (hmem : K.mem b = .live bt cells) (hβb : x.β b = .live B sz t0) :
    ∃ x', x.le x' ∧ x'.J = x.J ∧ x'.β K.nx = .live B sz bt ∧ Models x' ((K.setB b .dead).newB bt cells) a w := by
  obtain ⟨B2, vals, fr, g1, g2, g3, g4, g5, g6, g7, g8⟩ := (hm.live b bt cells hmem).out
  rw [hβb] at g1
  cases g1
  have hun : x.β K.nx = .unborn := hm.unborn _ (hm.fresh _ (Nat.le_refl _))
  have hnb : K.nx ≠ b := fun e => by rw [e, hβb] at hun; cases hun
  let β' : Nat → Nam := fun c => if c = K.nx then .live B vals.size t0 else if c = b then .dead else x.β c
  have hβ : ∀ c, (x.β c).le (β' c) := fun c => by
    simp only [β']
    split
    · rename_i e; rw [e, hun]; trivial
    · split
      · rename_i e; rw [e, hβb]; exact .inr rfl
      · exact Nam.le_refl _
  have hβn : β' K.nx = .live B vals.size t0 := by simp [β']
  have hβo : ∀ c, c ≠ K.nx → c ≠ b → β' c = x.β c := fun c h1 h2 => by simp [β', h1, h2]
  have mem0 : ((K.setB b .dead).newB t0 cells).mem K.nx = .live t0 cells := by simp [Know.newB, Know.setB, Bf.put]
  have memb : ((K.setB b .dead).newB t0 cells).mem b = .dead := by simp [Know.newB, Know.setB, Bf.put, Ne.symm hnb]
  have memo : ∀ c, c ≠ K.nx → c ≠ b → ((K.setB b .dead).newB t0 cells).mem c = K.mem c := fun c h1 h2 => by simp [Know.newB, Know.setB, Bf.put, h1, h2]
  refine ⟨{ x with β := β' }, ⟨fun _ _ _ h => h, hβ, rfl, rfl, rfl⟩, rfl, hβn, hm.fro, hm.size, hm.defers, hm.below, hm.holds, hm.old, ?_, ?_, ?_, ?_, ?_, hm.one, ?_, ?_⟩
  · intro i s hs
    obtain ⟨v, e, r⟩ := hm.slots i s hs
    exact ⟨v, e, r.mono (fun _ _ _ h => h) hβ⟩
  · intro c hc
    by_cases e1 : c = K.nx
    · subst e1; rw [mem0] at hc; cases hc
    · by_cases e2 : c = b
      · subst e2; rw [memb] at hc; cases hc
      · rw [memo c e1 e2] at hc; exact (hβo c e1 e2).trans (hm.unborn c hc)
  · intro c hc
    by_cases e1 : c = K.nx
    · subst e1; rw [mem0] at hc; cases hc
    · by_cases e2 : c = b
      · subst e2; show β' c = _; simp [β', e1]
      · rw [memo c e1 e2] at hc; exact (hβo c e1 e2).trans (hm.dead c hc)
  · intro c t2 cells2 hc
    by_cases e1 : c = K.nx
    · subst e1; rw [mem0] at hc; cases hc
      exact ⟨B, vals, fr, hβn, g2, g3, g4, fun o s hs => let ⟨v, e, r⟩ := g5 o s hs; ⟨v, e, r.mono (fun _ _ _ h => h) hβ⟩, g6, g7, g8⟩
    · by_cases e2 : c = b
      · subst e2; rw [memb] at hc; cases hc
      · rw [memo c e1 e2] at hc
        obtain ⟨B3, vals3, fr3, k1, k2, k3, k4, k5, k6, k7, k8⟩ := (hm.live c t2 cells2 hc).out
        exact ⟨B3, vals3, fr3, (hβo c e1 e2).trans k1, k2, k3, k4, fun o s hs => let ⟨v, e, r⟩ := k5 o s hs; ⟨v, e, r.mono (fun _ _ _ h => h) hβ⟩, k6, k7, k8⟩
  · have back : ∀ c B3 s3 t3, β' c = .live B3 s3 t3 → ∃ c0 t0', x.β c0 = .live B3 s3 t0' ∧ (c = K.nx ∧ c0 = b ∨ c ≠ K.nx ∧ c = c0 ∧ c ≠ b) := fun c B3 s3 t3 h => by
      by_cases e1 : c = K.nx
      · subst e1; rw [hβn] at h; cases h; exact ⟨b, _, hβb, .inl ⟨rfl, rfl⟩⟩
      · by_cases e2 : c = b
        · subst e2; simp [β', e1] at h
        · rw [hβo c e1 e2] at h; exact ⟨c, _, h, .inr ⟨e1, rfl, e2⟩⟩
    intro c c' B3 s3 t3 s3' t3' h h'
    obtain ⟨c0, t0', k1, k2⟩ := back c _ _ _ h
    obtain ⟨c0', t0'', k1', k2'⟩ := back c' _ _ _ h'
    have := hm.inj c0 c0' B3 s3 t0' s3' t0'' k1 k1'
    rcases k2 with ⟨rfl, rfl⟩ | ⟨k3, rfl, k4⟩ <;> rcases k2' with ⟨rfl, rfl⟩ | ⟨k3', rfl, k4'⟩
    · rfl
    · exact absurd this.symm k4'
    · exact absurd this k4
    · exact this
  · intro c hc
    have h1 : K.nx + 1 ≤ c := hc
    have h2 : c ≠ K.nx := by omega
    have h3 : c ≠ b := fun e => by
      subst e; rw [hm.fresh c (by omega)] at hmem; cases hmem
    rw [memo c h2 h3]
    exact hm.fresh c (by omega)
  · intro c es hc
    by_cases e1 : c = K.nx
    · subst e1; rw [mem0] at hc; cases hc
    · by_cases e2 : c = b
      · subst e2; rw [memb] at hc; cases hc
      · rw [memo c e1 e2] at hc
        obtain ⟨B2, ob, g1, g2, g4, g5, g6⟩ := (hm.maps c es hc).out
        exact ⟨B2, ob, (hβo c e1 e2).trans g1, g2, g4.mono (fun _ _ _ h => h) (fun _ _ r => r.mono (fun _ _ _ h => h) hβ), g5, g6⟩

/-- The new row of an append that grows. -/
theorem grown_front {J : Imm} {β : Nat → Nam} {olds ns : List Value} {z : Array Value} {cells news : List SV} (h1 : ArrR J β olds.toArray cells) (h2 : ArrR J β ns.toArray news) :
    Front J β (olds.toArray ++ ns.toArray ++ z) (cells ++ news) := by
  have e1 : olds.length = cells.length := by simpa using h1.1
  have e2 : ns.length = news.length := by simpa using h2.1
  refine ⟨by simp; omega, fun o s hs => ?_⟩
  have hlt : o < olds.length + ns.length := by
    have := (List.getElem?_eq_some_iff.1 hs).1
    simp at this; omega
  rw [Array.getElem?_append_left (by simpa using hlt)]
  rw [List.getElem?_append] at hs
  split at hs
  · rename_i ho
    rw [Array.getElem?_append_left (by simp; omega)]
    have : o < olds.length := by omega
    exact ⟨olds[o], by simp [this], h1.2 _ _ s (by simp [this]) hs⟩
  · rename_i ho
    rw [Array.getElem?_append_right (by simp; omega)]
    have : o - cells.length < ns.length := by omega
    refine ⟨ns[o - cells.length], ?_, h2.2 _ _ s (by simp [this]) hs⟩
    simp [e1, this]

theorem grown_one {olds ns : List Value} {z : Value} {n : Nat} (h1 : ∀ u ∈ olds, u.oneCell' = true) (h2 : ∀ u ∈ ns, u.oneCell' = true) (h3 : ∀ u ∈ z.cells, u.oneCell' = true) (hz : z.cells.size ≠ 0) :
    ∀ u ∈ olds.toArray ++ ns.toArray ++ Builtin.zeroCells z.cells n, u.oneCell' = true := by
  intro u hu
  simp only [Array.mem_append, List.mem_toArray] at hu
  rcases hu with (hu | hu) | hu
  · exact h1 u hu
  · exact h2 u hu
  · obtain ⟨j, hj, rfl⟩ := Array.mem_iff_getElem.1 hu
    have hj' : j < n * z.cells.size := by simpa [Builtin.zeroCells] using hj
    have e1 := madeCells_get z.cells _ j hj' hz
    have e2 : (Builtin.zeroCells z.cells n)[j]? = z.cells[j % z.cells.size]? := e1
    rw [Array.getElem?_eq_getElem hj] at e2
    exact h3 _ (Array.mem_of_getElem? e2.symm)

theorem below_drew_alloc (w : World) (o : Obj) : Below w.heap.size w (w.drew.alloc o) := (Below.refl _ w).drew.alloc (Nat.le_refl _) o

theorem opA_sound {x : Ctx} {K : Know} {a : Act} {w : World} (hm : Models x K a w) {o : Oper} {rd : Operand → Option SV} (hrd : ∀ u ∈ o.op.operands, ∀ s, rd u = some s → SRep x.J x.β (a.eval u) s)
    {k : SV → Know → Prop} (h : opA P K rd o.op k) : MemRun P x a o w k := by
  obtain ⟨dst, op, type, pos, after, guard⟩ := o
  simp only at h hrd
  unfold opA at h
  split at h
  · rename_i args ts
    split at h
    · rename_i u v t t' hu hv
      obtain rfl : args = #[u, v] := by cases args; simp_all
      obtain rfl : ts = #[t, t'] := by cases ts; simp_all
      have run : ∀ z w', (Builtin.append_ #[t, t'] type #[a.eval u, a.eval v]).run P w = .ok z w' →
          (execOp a.eval { dst, op := .call { callee := .builtin .append, args := #[u, v], argTypes := #[t, t'] }, type, pos, after, guard }).run P w = .ok (.value z) w' := fun z w' hz => by
        simp [execOp, resolve, invoke, builtin, hz, Result.andThen]
      split at h
      · rename_i ek s r hk hs hr
        obtain ⟨e, hut, he⟩ := tk_slice hk
        obtain ⟨i, k1, k2, k3, k4, k5, k6, k7⟩ := ek_info he
        have hsv := hrd u (by simp [Op.operands, Call.operands]) s hs
        have hrv := hrd v (by simp [Op.operands, Call.operands]) r hr
        split at h
        · rename_i vc n news hsrc hc'
          rw [Bool.and_eq_true] at hc'
          obtain ⟨d, hd, hni⟩ := conc'_inv hc'.1
          cases hzz : ek.zero with
          | none => rw [hzz] at hc'; simp at hc'
          | some zs =>
          have htz : tzero P e = some zs := by simp [tzero, he, hzz]
          obtain ⟨z, i', z1, z2, z3, z4, z5, z6, z7, z8⟩ := tzero_sound htz w x.J
          replace z6 := fun j u d h1 h2 => (z6 j u d h1 h2).1
          rw [k1] at z2; cases z2
          split at h
          · rename_i b wd len c
            split at h
            · rename_i bt cells hmem
              obtain ⟨⟨hvc, rfl, hlen, hmax, hbytes⟩, hk'⟩ := h
              obtain ⟨ns, hx, harr, hone⟩ := srcF_sound (P := P) hm k4 hrv hsrc hvc
              obtain ⟨B, vals, fr, g1, ⟨T, g2⟩, g3, g4, g5, g6, g7, g8⟩ := (hm.live b bt cells hmem).out
              subst g3
              obtain ⟨cap, hev, f1, f2, f3, _⟩ := own_inv hsv g1
              have hfront : Front x.J x.β vals cells := ⟨g4, g5⟩
              have hns : ns.length = n * ek.sz := hx.length
              by_cases hroom : len + n ≤ cap
              · -- there is room: the cells are written behind those that are known
                have hmul := Nat.mul_le_mul_right ek.sz hroom
                rw [Nat.add_mul] at hmul
                have hfit : 0 + len * ek.sz + ns.length ≤ vals.size := by omega
                have hrun := run_append_room2 (P := P) (w := w) (t := t) (t' := t') (ty := type) hut (ek_size he w) hd hni hx g2 hone hroom hfit
                rw [← hev] at hrun
                have hm1 := hm.setLive (w1 := w.setRow B _) hmem g1 (vals' := (vals.toList.take (0 + len * ek.sz) ++ ns ++ vals.toList.drop (0 + len * ek.sz + ns.length)).toArray) (cells' := cells ++ news) (by simp; omega) rfl
                  (fun q hq => by
                    simp only [List.mem_toArray, List.mem_append] at hq
                    rcases hq with (hq | hq) | hq
                    · exact g8 q (by simpa using List.mem_of_mem_take hq)
                    · exact hone q hq
                    · exact g8 q (by simpa using List.mem_of_mem_drop hq))
                  (by
                    have := front_append (rest := vals.toList.drop (0 + len * ek.sz + ns.length)) hfront harr
                    rw [Nat.zero_add, ← hlen]; rw [Nat.zero_add, ← hlen] at this; exact this)
                -- the block takes a new name
                obtain ⟨x', hle, hJ, hβ, hm2⟩ := hm1.rename (b := b) (bt := bt) (cells := cells ++ news) (by simp [Know.setB, Bf.put]) g1
                refine ⟨x', _, _, _, .inl ⟨_, run _ _ hrun, ?_⟩, hle, ?_, hk'⟩
                · exact .own hβ (by omega) hroom f3 (fun q hq => by cases hq)
                · have e : ((K.setB b (.live bt (cells ++ news))).setB b .dead).newB bt (cells ++ news) = (K.setB b .dead).newB bt (cells ++ news) := by
                    simp only [Know.setB, Know.newB, Know.mk.injEq, true_and, and_true]
                    funext q; simp only [Bf.put]; by_cases h1 : q = K.nx <;> by_cases h2 : q = b <;> simp [h1, h2]
                  rw [← e]; exact hm2
              · -- it grows
                have holen : (vals.toList.take (len * ek.sz)).length = len * ek.sz := by simp; omega
                have hrun := run_append_grow2 (P := P) (w := w) (t := t) (t' := t') (ty := type) (i := i) (z := z) hut k1 z3 hd hni (by rw [k2]; exact hx) (base := some ⟨B, 0, none⟩) (sLen := len) (sCap := cap) (olds := vals.toList.take (len * ek.sz))
                  (fun w' hw' => by
                    simp only [Builtin.firstCells, k2]
                    exact run_loadCells_of holen fun j q hq => by
                      rw [List.getElem?_take] at hq
                      split at hq
                      · rw [heap_cell hw', Nat.zero_add]
                        simp only [World.cell?, g2, Option.isSome_none, Bool.false_eq_true, if_false]
                        simpa using hq
                      · cases hq) (by omega) hmax (by rw [k3]; exact hbytes)
                rw [← hev] at hrun
                obtain ⟨xk, hlek, hJk, hβk, hmk⟩ := hm.kill hmem
                have holds : ArrR x.J x.β (vals.toList.take (len * ek.sz)).toArray cells := ⟨by simp; omega, fun j q s hq hs => by
                  obtain ⟨q', e', r'⟩ := g5 j s hs
                  simp only [List.getElem?_toArray] at hq
                  rw [List.getElem?_take] at hq
                  split at hq
                  · have : vals[j]? = some q := by simpa using hq
                    rw [this] at e'; cases e'; exact r'
                  · cases hq⟩
                obtain ⟨x', hle, hJ, hβ, hm2⟩ := hmk.newLive (t := bt) (cells := cells ++ news) (below_drew_alloc w _) (Nat.le_refl _) (by have := World.alloc_heap_new w.drew (.cells ((vals.toList.take (len * ek.sz)).toArray ++ ns.toArray ++ Builtin.zeroCells z.cells (grownCap w (len + n) cap e - (len + n))) e); exact this)
                  (grown_one (fun q hq => g8 q (by simpa using List.mem_of_mem_take hq)) hone z7 (by omega))
                  (grown_front (holds.mono hlek.J hlek.β) (harr.mono hlek.J hlek.β))
                refine ⟨x', _, _, _, .inl ⟨_, run _ _ hrun, ?_⟩, Ctx.le_trans hlek hle, hm2, hk'⟩
                have hcg := grownCap_ge w (len + n) cap e
                refine .own hβ ?_ hcg (grownCap_le_maxLen w _ _ e hmax) (fun q hq => by cases hq)
                simp only [Array.size_append, List.size_toArray, holen, hns, size_zeroCells, z5, ← z4, k2]
                rw [← Nat.add_mul, ← Nat.add_mul]
                exact Nat.le_of_eq (by rw [Nat.zero_add]; congr 1; omega)
            · exact h.elim
          · rename_i xs
            obtain ⟨hvc, hw, hmax, hbytes, h0, h1⟩ := h
            obtain ⟨ns, hx, harr, hone⟩ := srcF_sound (P := P) hm k4 hrv hsrc hvc
            obtain ⟨ad, hev, hv⟩ := clip_inv hsv
            obtain ⟨olds, hxo, harro, honeo⟩ := source_list (P := P) hm hv k4 hw
            by_cases hn : n = 0
            · -- nothing is appended: the slice itself
              subst hn
              have hns : ns = [] := List.eq_nil_of_length_eq_zero (by rw [hx.length]; simp)
              subst hns
              refine ⟨x, w, _, _, .inl ⟨a.eval u, run _ _ ?_, hsv⟩, Ctx.le_refl _, hm, h0 rfl⟩
              rw [hev]
              have hz : (underlying t').run P w = .ok d w := run_underlying' hd w
              have hb' := noInt d hni
              have hsz := ek_size he w
              unfold Builtin.append_
              simp only [List.getElem?_toArray, List.getElem?_cons_zero, List.getElem?_cons_succ, Sem.run_bind, run_underlying' hut, Result.andThen_ok, hsz, hz, Sem.run_pure]
              have hc := hx.cells w rfl
              simp only [Bool.false_eq_true, if_false, hx.len w rfl, Result.andThen_ok, Bool.not_false, if_true, Nat.add_zero, Nat.le_refl, hc, Sem.run_bind]
              cases ad <;> simp [storeCells]
            · have hpos : 0 < n := by omega
              rw [hev] at hxo
              have hrun := run_append_grow2 (P := P) (w := w) (t := t) (t' := t') (ty := type) (i := i) (z := z) hut k1 z3 hd hni (by rw [k2]; exact hx) (base := ad) (sLen := xs.length) (sCap := xs.length) (olds := olds)
                (fun w' hw' => by rw [k2]; exact hxo.cells w' hw') (by omega) hmax (by rw [k3]; exact hbytes)
              rw [← hev] at hrun
              obtain ⟨x', hle, hJ, hβ, hm2⟩ := hm.newLive (t := t) (cells := rowsCells ek.sz xs ++ news) (below_drew_alloc w _) (Nat.le_refl _) (by have := World.alloc_heap_new w.drew (.cells (olds.toArray ++ ns.toArray ++ Builtin.zeroCells z.cells (grownCap w (xs.length + n) xs.length e - (xs.length + n))) e); exact this)
                (grown_one honeo hone z7 (by omega)) (grown_front harro harr)
              refine ⟨x', _, _, _, .inl ⟨_, run _ _ hrun, ?_⟩, hle, hm2, h1 hpos⟩
              have hcg := grownCap_ge w (xs.length + n) xs.length e
              refine .own hβ ?_ hcg (grownCap_le_maxLen w _ _ e hmax) (fun q hq => by cases hq)
              simp only [Array.size_append, List.size_toArray, hxo.length, hx.length, size_zeroCells, z5, ← z4, k2]
              rw [← Nat.add_mul, ← Nat.add_mul]
              exact Nat.le_of_eq (by rw [Nat.zero_add]; congr 1; omega)
          · exact h.elim
        · exact h.elim
      · exact h.elim
    · exact h.elim
  · exact h.elim

end Go.Bf

/-
  copy; and an operation under its guard: what is known then. Nothing is claimed here.
-/
namespace Go.Bf
open Go Go.RowKit
variable {P : Program}

theorem opC_sound {x : Ctx} {K : Know} {a : Act} {w : World} (hm : Models x K a w) {o : Oper} {rd : Operand → Option SV} (hrd : ∀ u ∈ o.op.operands, ∀ s, rd u = some s → SRep x.J x.β (a.eval u) s)
    {k : SV → Know → Prop} (h : opC P K rd o.op k) : MemRun P x a o w k := by
  obtain ⟨dst, op, type, pos, after, guard⟩ := o
  simp only at h hrd
  unfold opC at h
  split at h
  · rename_i args ts
    split at h
    · rename_i u v t t' hu hv
      obtain rfl : args = #[u, v] := by cases args; simp_all
      obtain rfl : ts = #[t, t'] := by cases ts; simp_all
      have run : ∀ z w', (Builtin.copy_ #[t, t'] type #[a.eval u, a.eval v]).run P w = .ok z w' →
          (execOp a.eval { dst, op := .call { callee := .builtin .copy, args := #[u, v], argTypes := #[t, t'] }, type, pos, after, guard }).run P w = .ok (.value z) w' := fun z w' hz => by
        simp [execOp, resolve, invoke, builtin, hz, Result.andThen]
      split at h
      · rename_i ek b wd off len c r hk hs hr
        obtain ⟨e, hut, he⟩ := tk_slice hk
        obtain ⟨i, k1, k2, k3, k4, k5, k6, k7⟩ := ek_info he
        have hsv := hrd u (by simp [Op.operands, Call.operands]) _ hs
        have hrv := hrd v (by simp [Op.operands, Call.operands]) r hr
        split at h
        · rename_i vc n news bt cells hsrc hmem hc'
          obtain ⟨⟨hvc, rfl, hfit⟩, hk'⟩ := h
          obtain ⟨ns, hx, harr, hone⟩ := srcF_sound (P := P) hm k4 hrv hsrc hvc
          obtain ⟨B, sz, t'', h1, h2, h3⟩ := hm.cell hmem
          obtain ⟨cap, hev, f1, f2, f3, _⟩ := own_inv hsv h1
          have hns : ns.length = n * ek.sz := hx.length
          have hnews : news.length = n * ek.sz := by rw [← hns]; simpa using harr.1.symm
          have hmul := Nat.mul_le_mul_right ek.sz (Nat.min_le_left n len)
          have harr' : ArrR x.J x.β (ns.take (min n len * ek.sz)).toArray (news.take (min n len * ek.sz)) := ⟨by simp; omega, fun j q s hq hs => by
            simp only [List.getElem?_toArray] at hq
            rw [List.getElem?_take] at hq hs
            split at hq
            · rename_i hlt
              rw [if_pos hlt] at hs
              exact harr.2 j q s (by simpa using hq) hs
            · cases hq⟩
          have hlen' : (news.take (min n len * ek.sz)).length = min n len * ek.sz := by rw [List.length_take]; omega
          obtain ⟨w', hst, hm'⟩ := hm.storeRow (P := P) (off := off) hmem h1 harr' (fun q hq => hone q (List.mem_of_mem_take hq)) (by rw [hlen']; exact hfit)
          refine ⟨x, w', _, _, .inl ⟨.int .i64 (min n len : Nat), run _ _ ?_, .d (.int (inK_len (by omega)))⟩, Ctx.le_refl _, hm', hk'⟩
          rw [hev]
          have hsz := ek_size he w
          have hmin : Nat.min n len = min n len := rfl
          unfold Builtin.copy_
          simp only [List.getElem?_toArray, List.getElem?_cons_zero, List.getElem?_cons_succ, Sem.run_bind, run_underlying' hut, Result.andThen_ok, hsz, hx.len w rfl, hmin, hx.upto w rfl _ (Nat.min_le_left n len)]
          simp only [hst, Result.andThen_ok]
          rfl
        · exact h.elim
      · exact h.elim
    · exact h.elim
  · exact h.elim

theorem zrows_get {zs : List DV} {n j : Nat} {s : SV} (h : (zrows zs n)[j]? = some s) : ∃ d, s = .d d ∧ zs[j % zs.length]? = some d := by
  rw [zrows, List.getElem?_map, Option.map_eq_some_iff] at h
  obtain ⟨d, hd, rfl⟩ := h
  refine ⟨d, rfl, ?_⟩
  induction n generalizing j with
  | zero => simp at hd
  | succ n ih =>
    rw [List.replicate_succ, List.flatten_cons, List.getElem?_append] at hd
    split at hd
    · rename_i hlt; rw [Nat.mod_eq_of_lt hlt]; exact hd
    · rename_i hge
      have := ih hd
      rw [← this, ← Nat.mod_eq_sub_mod (by omega)]
theorem zrows_length (zs : List DV) (n : Nat) : (zrows zs n).length = n * zs.length := by
  simp [zrows, List.length_flatten, List.map_replicate, List.sum_replicate_nat]
theorem opZ_sound {x : Ctx} {K : Know} {a : Act} {w : World} (hm : Models x K a w) {o : Oper} {rd : Operand → Option SV} (hrd : ∀ u ∈ o.op.operands, ∀ s, rd u = some s → SRep x.J x.β (a.eval u) s)
    {k : SV → Know → Prop} (h : opZ P K rd o.op k) : MemRun P x a o w k := by
  obtain ⟨dst, op, type, pos, after, guard⟩ := o
  simp only at h hrd
  unfold opZ at h
  split at h
  · rename_i args ts
    split at h
    · rename_i u t hu ht
      obtain rfl : args = #[u] := by cases args; simp_all
      obtain rfl : ts = #[t] := by cases ts; simp_all
      have run : ∀ z w', (Builtin.clear_ #[t] type #[a.eval u]).run P w = .ok z w' →
          (execOp a.eval { dst, op := .call { callee := .builtin .clear, args := #[u], argTypes := #[t] }, type, pos, after, guard }).run P w = .ok (.value z) w' := fun z w' hz => by
        simp [execOp, resolve, invoke, builtin, hz, Result.andThen]
      split at h
      · rename_i ek b wd off len c hk hs
        obtain ⟨e, hut, he⟩ := tk_slice hk
        have hsv := hrd u (by simp [Op.operands, Call.operands]) _ hs
        split at h
        · rename_i zs bt cells hzz hmem
          obtain ⟨⟨rfl, hfit⟩, hk'⟩ := h
          have htz : tzero P e = some zs := by simp [tzero, he, hzz]
          obtain ⟨z, i, z1, z2, z3, z4, z5, z6, z7, z8⟩ := tzero_sound htz w x.J
          obtain ⟨i', k1, k2, _⟩ := ek_info he
          rw [k1] at z2; cases z2
          obtain ⟨B, sz, t'', h1, h2, h3⟩ := hm.cell hmem
          obtain ⟨cap, hev, f1, f2, f3, _⟩ := own_inv hsv h1
          have hzl : (Builtin.zeroCells z.cells len).size = len * zs.length := by rw [size_zeroCells, z5]
          have hget : ∀ j, j < len * zs.length → (Builtin.zeroCells z.cells len)[j]? = z.cells[j % z.cells.size]? := fun j hj => by
            have e1 := madeCells_get z.cells (len * z.cells.size) j (by rw [z5]; exact hj) (by omega)
            exact e1
          have harr : ArrR x.J x.β (Builtin.zeroCells z.cells len).toList.toArray (zrows zs len) := ⟨by rw [zrows_length]; simpa using hzl, fun j q s hq hs' => by
            simp only [Array.toArray_toList] at hq
            have hj : j < len * zs.length := by rw [← hzl]; exact (Array.getElem?_eq_some_iff.1 hq).1
            rw [hget j hj] at hq
            obtain ⟨d, rfl, hd⟩ := zrows_get hs'
            rw [z5] at hq
            exact .d (z6 _ q d hq hd).1⟩
          have hone : ∀ q ∈ (Builtin.zeroCells z.cells len).toList, q.oneCell' = true := fun q hq => by
            obtain ⟨j, hj⟩ := List.mem_iff_getElem?.1 hq
            rw [Array.getElem?_toList] at hj
            have hj' : j < len * zs.length := by rw [← hzl]; exact (Array.getElem?_eq_some_iff.1 hj).1
            rw [hget j hj'] at hj
            exact z7 q (Array.mem_of_getElem? hj)
          obtain ⟨w', hst, hm'⟩ := hm.storeRow (P := P) (off := off) hmem h1 harr hone (by rw [zrows_length, ← z4, k2]; exact hfit)
          refine ⟨x, w', _, _, .inl ⟨.tuple #[], run _ _ ?_, .d (.tup rfl fun i v d h => by simp at h)⟩, Ctx.le_refl _, hm', hk'⟩
          rw [hev]
          by_cases hz0 : len = 0
          · subst hz0
            have : (Builtin.zeroCells z.cells 0).toList = [] := by simp [Builtin.zeroCells]
            rw [this] at hst
            simp only [storeCells, Sem.run_pure, Result.ok.injEq, true_and] at hst
            subst hst
            simp [Builtin.clear_, underlying, hut, Result.andThen]
          · unfold Builtin.clear_
            simp only [List.getElem?_toArray, List.getElem?_cons_zero, Sem.run_bind, run_underlying' hut, Result.andThen_ok]
            simp only [z1, Result.andThen_ok, hst, Sem.run_pure]
        · exact h.elim
      · exact h.elim
    · exact h.elim
  · exact h.elim

/-! ### Guards -/
def guardG (K : Know) (ops : Array Oper) (o : Oper) : Option Bool :=
  match o.guard with
  | none => some true
  | some (j, want) =>
    match (ops[j]?).bind (·.dst) with
    | none => none
    | some t => match K.slots t with
      | some (.d (.bool b)) => some (b == want)
      | some (.cnd g (.d (.bool b))) => some (g && (b == want))
      | _ => none

theorem guardG_sound {x : Ctx} {K : Know} {a : Act} {w : World} (hm : Models x K a w) {ops : Array Oper} {o : Oper} {G : Bool} (h : guardG K ops o = some G) : Region.wanted o (yielded ops a.tmps) = G := by
  unfold guardG at h
  unfold Region.wanted
  split at h
  · rename_i hg; rw [hg]; cases h; rfl
  · rename_i j want hg
    rw [hg]
    split at h
    · cases h
    · rename_i t ht
      simp only [yielded, ht, Option.bind_some]
      split at h
      · rename_i b hs
        cases h
        obtain ⟨v, e, r⟩ := hm.slots t _ hs
        have := d_inv r
        cases this
        rw [e]
        cases b <;> cases want <;> rfl
      · rename_i g b hs
        cases h
        obtain ⟨v, e, r⟩ := hm.slots t _ hs
        rw [e]
        cases r with
        | cndT hg' r =>
          have := d_inv r
          cases this
          rw [hg']
          cases b <;> cases want <;> rfl
        | cndF hg' =>
          rw [hg']
          cases want <;> rfl
      · cases h

end Go.Bf

/-
  Lists of operations on what is known; calls by contract. Nothing is claimed here.
-/
namespace Go.Bf
open Go Go.RowKit
variable {P : Program}

/-- Every function may be entered; the rounds of loop r are walked where there is one. -/
def FW (r : Option Nat) : Fence := { Fence.wide with round := r }

/-- How code is left. -/
inductive XE where
  | normal
  | exit (id : Nat)
  | ret
  | pan (d : DV)

def ExitR (J : Imm) : Exit → XE → Prop
  | .normal, .normal => True
  | .exit a, .exit b => a = b
  | .ret, .ret => True
  | .panic ch, .pan d => ∃ v, ch = [{ v, recovered := false }] ∧ Rep J v d
  | _, _ => False

structure Ctx.ext (x y : Ctx) : Prop where
  J : ∀ b o v, x.J b o = some v → y.J b o = some v
  w0 : y.w0 = x.w0
  J0 : y.J0 = x.J0

theorem Ctx.ext_refl (x : Ctx) : x.ext x := ⟨fun _ _ _ h => h, rfl, rfl⟩
theorem Ctx.ext_trans {x y z : Ctx} (h : x.ext y) (k : y.ext z) : x.ext z := ⟨fun b o v e => k.J b o v (h.J b o v e), k.w0.trans h.w0, k.J0.trans h.J0⟩
theorem Ctx.le.ext {x y : Ctx} (h : x.le y) : x.ext y := ⟨h.J, h.w0, h.J0⟩

def Post (x : Ctx) (Q : XE → Know → Prop) (e : Exit) (a : Act) (w : World) : Prop := ∃ y K xe, x.ext y ∧ ExitR y.J e xe ∧ Models y K a w ∧ Q xe K

theorem Post.ext {x y : Ctx} {Q : XE → Know → Prop} {e : Exit} {a : Act} {w : World} (hx : x.ext y) (h : Post y Q e a w) : Post x Q e a w := by
  obtain ⟨z, K, xe, h1, h2, h3, h4⟩ := h
  exact ⟨z, K, xe, Ctx.ext_trans hx h1, h2, h3, h4⟩
theorem Post.mono {x : Ctx} {Q Q' : XE → Know → Prop} (hq : ∀ e K, Q e K → Q' e K) {e : Exit} {a : Act} {w : World} (h : Post x Q e a w) : Post x Q' e a w := by
  obtain ⟨z, K, xe, h1, h2, h3, h4⟩ := h
  exact ⟨z, K, xe, h1, h2, h3, hq _ _ h4⟩

/-- Some operations one after the other, as the machine carries them out. -/
def opsL (P : Program) (r : Option Nat) (ops : Array Oper) (Q : Exit → Act → World → Prop) : List Oper → Act → World → Prop
  | [], a, w => Q .normal a w
  | o :: rest, a, w => if Region.wanted o (yielded ops a.tmps) then o.wpIn (FW r) 0 P a w (opsL P r ops Q rest) Q else opsL P r ops Q rest (a.put o.dst undef) w

theorem about_wide {r : Option Nat} {f : FuncId} : (FW r).fn f := trivial

theorem opsL_sound {r : Option Nat} {ops : Array Oper} {Q : Exit → Act → World → Prop} : ∀ (l : List Oper) (k : Nat) (a : Act) (w : World), (∀ j : Nat, l[j]? = ops[k + j]?) → opsL P r ops Q l a w →
    wpOpsIn (FW r) 0 P ops Q ((List.range l.length).map (k + ·)) a w := by
  intro l
  induction l with
  | nil => intro k a w _ h; exact h
  | cons o l ih =>
    intro k a w hl h
    have h0 : ops[k]? = some o := by simpa using (hl 0).symm
    have hl' : ∀ j : Nat, l[j]? = ops[k + 1 + j]? := fun j => by have := hl (j + 1); simpa [Nat.add_assoc, Nat.add_comm 1 j] using this
    have e : (List.range (o :: l).length).map (k + ·) = k :: (List.range l.length).map (k + 1 + ·) := by
      rw [List.length_cons, List.range_succ_eq_map, List.map_cons, List.map_map]
      simp only [Nat.add_zero, List.cons.injEq, true_and]
      apply List.map_congr_left
      intro j _; simp only [Function.comp]; omega
    rw [e]
    simp only [wpOpsIn, h0]
    simp only [opsL] at h
    split at h
    · rename_i hw
      rw [if_pos hw]
      exact Oper.wpIn_mono (fun a' w' h' => ih (k + 1) a' w' hl' h') h
    · rename_i hw
      rw [if_neg hw]
      exact ⟨fun _ _ => about_wide, ih (k + 1) _ _ hl' h⟩

theorem opsL_mono {r : Option Nat} {ops : Array Oper} {x : Ctx} {Q Q' : XE → Know → Prop} (hq : ∀ e K, Q e K → Q' e K) : ∀ (l : List Oper) (a : Act) (w : World), opsL P r ops (Post x Q) l a w → opsL P r ops (Post x Q') l a w := by
  intro l
  induction l with
  | nil => intro a w h; exact Post.mono hq h
  | cons o l ih =>
    intro a w h
    simp only [opsL] at h ⊢
    split
    · rename_i hw
      rw [if_pos hw] at h
      unfold Oper.wpIn at h ⊢
      refine ⟨h.1, ?_⟩
      have h2 := h.2
      generalize (o.semAt (FW r).round a.eval).run P w = res at h2 ⊢
      cases res with
      | ok nx w' =>
        cases nx <;> simp only [Oper.uponIn] at h2 ⊢ <;> first
          | exact ih _ _ h2
          | exact h2
          | exact ⟨h2.1, CallsIn.mono h2.2 (fun e w'' he => by
              cases e with
              | returned v => exact ih _ _ he
              | panicked ch => exact Post.mono hq he
              | outgrown => obtain ⟨a0, w0, hp⟩ := he; exact ⟨a0, w0, Post.mono hq hp⟩)⟩
          | exact ⟨h2.1, RowsIn.mono h2.2 (fun _ _ he => ih _ _ he)⟩
          | exact ⟨h2.1, RoundIn.mono h2.2 (fun e w'' he => by
              cases e with
              | returned v => exact ih _ _ he
              | panicked ch => exact Post.mono hq he
              | outgrown => obtain ⟨a0, w0, hp⟩ := he; exact ⟨a0, w0, Post.mono hq hp⟩)⟩
      | halt hh w' => cases hh <;> simp only [Oper.uponIn] at h2 ⊢ <;> first | exact Post.mono hq h2 | exact h2
    · rename_i hw
      rw [if_neg hw] at h
      exact ih _ _ h

theorem opsL_ext {r : Option Nat} {ops : Array Oper} {x y : Ctx} (hx : x.ext y) {Q : XE → Know → Prop} : ∀ (l : List Oper) (a : Act) (w : World), opsL P r ops (Post y Q) l a w → opsL P r ops (Post x Q) l a w := by
  intro l
  induction l with
  | nil => intro a w h; exact Post.ext hx h
  | cons o l ih =>
    intro a w h
    simp only [opsL] at h ⊢
    split
    · rename_i hw
      rw [if_pos hw] at h
      unfold Oper.wpIn at h ⊢
      refine ⟨h.1, ?_⟩
      have h2 := h.2
      generalize (o.semAt (FW r).round a.eval).run P w = res at h2 ⊢
      cases res with
      | ok nx w' =>
        cases nx <;> simp only [Oper.uponIn] at h2 ⊢ <;> first
          | exact ih _ _ h2
          | exact h2
          | exact ⟨h2.1, CallsIn.mono h2.2 (fun e w'' he => by
              cases e with
              | returned v => exact ih _ _ he
              | panicked ch => exact Post.ext hx he
              | outgrown => obtain ⟨a0, w0, hp⟩ := he; exact ⟨a0, w0, Post.ext hx hp⟩)⟩
          | exact ⟨h2.1, RowsIn.mono h2.2 (fun _ _ he => ih _ _ he)⟩
          | exact ⟨h2.1, RoundIn.mono h2.2 (fun e w'' he => by
              cases e with
              | returned v => exact ih _ _ he
              | panicked ch => exact Post.ext hx he
              | outgrown => obtain ⟨a0, w0, hp⟩ := he; exact ⟨a0, w0, Post.ext hx hp⟩)⟩
      | halt hh w' => cases hh <;> simp only [Oper.uponIn] at h2 ⊢ <;> first | exact Post.ext hx h2 | exact h2
    · rename_i hw
      rw [if_neg hw] at h
      exact ih _ _ h

/-! ### Contracts -/
inductive Out where
  | ret (d : DV)
  | clip (xs : List (List DV))
  | fresh (s : SV) (ml : List (TypeId × List SV))
  | pan (d : DV)

/-- w: the world at the call; w': the one behind it. 'fresh': a value over new blocks that nothing else knows. -/
def EndR (w w' : World) (J : Imm) : Ending → Out → Prop
  | .returned v, .ret d => Rep J v d
  | .returned v, .clip xs => Rep J v (.list xs) ∧ ∃ a n, v = .slice a n n
  | .returned v, .fresh s ml => ∃ β : Nat → Nam, SRep J β v s ∧ (∀ j t cs, ml[j]? = some (t, cs) → Block ⟨J, β, Base.plain w, J, fun _ => False⟩ w' j t cs) ∧ (∀ b b' B sz t sz' t', β b = .live B sz t → β b' = .live B sz' t' → b = b') ∧ (∀ j, ml.length ≤ j → β j = .unborn)
  | .panicked ch, .pan d => ∃ v, ch = [{ v, recovered := false }] ∧ Rep J v d
  | _, _ => False

structure Holds (J : Imm) (w : World) : Prop where
  cell : ∀ b o v, J b o = some v → vc w b o = some v
  one : ∀ b o v, J b (2 * o) = some v → v.oneCell' = true

def RepL (J : Imm) (vs : Array Value) (ds : List DV) : Prop := vs.size = ds.length ∧ ∀ (i : Nat) v d, vs[i]? = some v → ds[i]? = some d → Rep J v d

/-- **The contract of a function that turns nothing that was there**: called with these data, it ends in a way that Q takes. -/
def FnWp (P : Program) (f : FuncId) (ds : List DV) (Q : Out → Prop) : Prop :=
  ∀ (w : World) (J : Imm) (vs : Array Value), Holds J w → RepL J vs ds → Calls P f vs w fun e w' => ∃ o J', Below w.heap.size w w' ∧ (∀ b o v, J b o = some v → J' b o = some v) ∧
    (∀ b o, b < w.heap.size → J' b o = J b o) ∧ Holds J' w' ∧ EndR w w' J' e o ∧ Q o

theorem FnWp.mono {f : FuncId} {ds : List DV} {Q Q' : Out → Prop} (h : FnWp P f ds Q) (hq : ∀ o, Q o → Q' o) : FnWp P f ds Q' := fun w J vs hJ hv =>
  (h w J vs hJ hv).mono fun _ _ ⟨o, J', h1, h2, h3, h4, h5, h6⟩ => ⟨o, J', h1, h2, h3, h4, h5, hq o h6⟩

inductive OutS where
  | ret (s : SV)
  | pan (d : DV)

def EndS (y : Ctx) : Ending → OutS → Prop
  | .returned v, .ret s => SRep y.J y.β v s
  | .panicked ch, .pan d => ∃ v, ch = [{ v, recovered := false }] ∧ Rep y.J v d
  | _, _ => False

/-- A call, on what is known. -/
def CallS (P : Program) (f : FuncId) (ss : List SV) (K : Know) (k : OutS → Know → Prop) : Prop :=
  ∀ x a w vs, Models x K a w → ArrR x.J x.β vs ss → Calls P f vs w fun e w' => ∃ y K' o, x.ext y ∧ Models y K' a w' ∧ EndS y e o ∧ k o K'

mutual
def SV.ren (ρ : Nat → Nat) : SV → SV
  | .d x => .d x
  | .loc b off => .loc (ρ b) off
  | .own b wd off len c => .own (ρ b) wd off len c
  | .clip xs => .clip xs
  | .agg cs => .agg (renL ρ cs)
  | .clo f cs => .clo f (renL ρ cs)
  | .cnd g s => .cnd g (s.ren ρ)
  | .mp b => .mp (ρ b)
def renL (ρ : Nat → Nat) : List SV → List SV
  | [] => []
  | c :: cs => c.ren ρ :: renL ρ cs
end

theorem renL_eq (ρ : Nat → Nat) : ∀ cs : List SV, renL ρ cs = cs.map (SV.ren ρ)
  | [] => by simp [renL]
  | c :: cs => by simp [renL, renL_eq ρ cs]

mutual
theorem SRep.renF {J : Imm} {β β' : Nat → Nam} {ρ : Nat → Nat} (hβ : ∀ b, β' (ρ b) = β b) : ∀ (s : SV) {v : Value}, SRep J β v s → SRep J β' v (s.ren ρ)
  | .d x, v, h => by rw [SV.ren]; cases h with | d h => exact .d h
  | .loc b off, v, h => by
    rw [SV.ren]
    cases h with
    | loc h => exact .loc ((hβ b).trans h)
    | locDead h => exact .locDead ((hβ b).trans h)
  | .own b wd off len c, v, h => by
    rw [SV.ren]
    cases h with
    | own h h1 h2 h3 h4 => exact .own ((hβ b).trans h) h1 h2 h3 h4
    | ownDead h => exact .ownDead ((hβ b).trans h)
  | .clip xs, v, h => by rw [SV.ren]; cases h with | clip h => exact .clip h
  | .agg cs, v, h => by
    rw [SV.ren]
    cases h with
    | agg hl hh =>
      refine .agg (by rw [hl, renL_eq, List.length_map]) fun i v d hv hd => ?_
      rw [renL_eq, List.getElem?_map, Option.map_eq_some_iff] at hd
      obtain ⟨d0, h0, rfl⟩ := hd
      exact renL_repF hβ cs i v d0 h0 (hh i v d0 hv h0)
  | .clo f cs, v, h => by
    rw [SV.ren]
    cases h with
    | clo hl hh =>
      refine .clo (by rw [hl, renL_eq, List.length_map]) fun i v d hv hd => ?_
      rw [renL_eq, List.getElem?_map, Option.map_eq_some_iff] at hd
      obtain ⟨d0, h0, rfl⟩ := hd
      exact renL_repF hβ cs i v d0 h0 (hh i v d0 hv h0)
  | .cnd g s, v, h => by
    rw [SV.ren]
    cases h with
    | cndT hg h => exact .cndT hg (SRep.renF hβ s h)
    | cndF hg => exact .cndF hg
  | .mp b, v, h => by
    rw [SV.ren]
    cases h with
    | mp h => exact .mp ((hβ b).trans h)
    | mpDead h => exact .mpDead ((hβ b).trans h)
theorem renL_repF {J : Imm} {β β' : Nat → Nam} {ρ : Nat → Nat} (hβ : ∀ b, β' (ρ b) = β b) : ∀ (cs : List SV) (i : Nat) (v : Value) (d : SV), cs[i]? = some d → SRep J β v d → SRep J β' v (d.ren ρ)
  | [], i, v, d, h, _ => by simp at h
  | c :: cs, 0, v, d, h, hr => by simp at h; subst h; exact SRep.renF hβ c hr
  | c :: cs, i + 1, v, d, h, hr => renL_repF hβ cs i v d (by simpa using h) hr
end

/-- New blocks, handed over by a function that was called. -/
def Know.more (K : Know) (ml : List (TypeId × List SV)) : Know :=
  { slots := K.slots, mem := fun b => if K.nx ≤ b then (match ml[b - K.nx]? with | some (t, cs) => .live t (renL (fun j => K.nx + j) cs) | none => .unborn) else K.mem b, n := K.n, nx := K.nx + ml.length, gh := K.gh, fro := K.fro, b0 := K.b0 }

/-- Data, where it is no way into local memory. -/
def toD : SV → Option DV
  | .d x => some x
  | .clip xs => some (.list xs)
  | _ => none

def toDs : List SV → Option (List DV)
  | [] => some []
  | .agg cs :: r => match cs.mapM toD, toDs r with
    | some ds, some rs => some (.agg ds :: rs)
    | _, _ => none
  | s :: r => match toD s, toDs r with
    | some d, some rs => some (d :: rs)
    | _, _ => none

theorem toD_rep {J : Imm} {β : Nat → Nam} {v : Value} {s : SV} {d : DV} (h : SRep J β v s) (hd : toD s = some d) : Rep J v d := by
  cases s with
  | d x => cases hd; exact d_inv h
  | clip xs => cases hd; obtain ⟨_, _, hv⟩ := clip_inv h; exact hv
  | _ => cases hd

theorem toDs_rep {J : Imm} {β : Nat → Nam} : ∀ {ss : List SV} {ds : List DV} {vs : List Value}, toDs ss = some ds → ArrR J β vs.toArray ss → RepL J vs.toArray ds := by
  intro ss
  induction ss with
  | nil =>
    intro ds vs h hr
    simp only [toDs, Option.some.injEq] at h
    subst h
    exact ⟨by simpa using hr.1, fun i v d hv hd => by simp at hd⟩
  | cons s ss ih =>
    intro ds vs h hr
    cases vs with
    | nil => obtain ⟨t1, _⟩ := hr; simp at t1
    | cons v vs =>
      have htail : ArrR J β vs.toArray ss := ⟨by obtain ⟨t1, _⟩ := hr; simpa using t1, fun i u q hu hq => hr.2 (i + 1) u q (by simpa using hu) (by simpa using hq)⟩
      have hhead : SRep J β v s := hr.2 0 v s (by simp) (by simp)
      have fin : ∀ (d : DV) (rs : List DV), Rep J v d → toDs ss = some rs → RepL J (v :: vs).toArray (d :: rs) := fun d rs h1 h2 => by
        obtain ⟨t1, t2⟩ := ih h2 htail
        refine ⟨by simpa using t1, fun i u q hu hq => ?_⟩
        cases i with
        | zero => simp at hu hq; subst hu; subst hq; exact h1
        | succ i => exact t2 i u q (by simpa using hu) (by simpa using hq)
      cases s with
      | agg cs =>
        simp only [toDs] at h
        split at h
        · rename_i ds' rs h1 h2
          cases h
          refine fin _ _ ?_ h2
          obtain ⟨g1, g2⟩ := mapM_get h1
          cases hhead with
          | agg hl hh =>
            refine .agg (by omega) fun i u d hu hd => ?_
            have hlt : i < cs.length := by rw [← g1]; exact (List.getElem?_eq_some_iff.1 hd).1
            exact toD_rep (hh i u _ hu (List.getElem?_eq_getElem hlt)) (g2 i _ d (List.getElem?_eq_getElem hlt) hd)
        · cases h
      | _ =>
        simp only [toDs] at h
        split at h
        · rename_i d rs h1 h2
          cases h
          exact fin d rs (toD_rep hhead h1) h2
        · cases h

/-- **A contract serves at a call whose arguments are data.** -/
theorem CallS.pure {f : FuncId} {ss : List SV} {ds : List DV} {K : Know} {Q : Out → Prop} {k : OutS → Know → Prop} (hd : toDs ss = some ds) (h : FnWp P f ds Q) (hk : ∀ o, Q o → match o with | .ret d => k (.ret (.d d)) K | .clip xs => k (.ret (.clip xs)) K | .fresh s ml => k (.ret (s.ren fun j => K.nx + j)) (K.more ml) | .pan d => k (.pan d) K) :
    CallS P f ss K k := by
  intro x a w vs hm hr
  obtain ⟨vs⟩ := vs
  refine (h w x.J vs.toArray ⟨hm.holds, hm.one⟩ (toDs_rep hd hr)).mono ?_
  rintro e w' ⟨o, J', hb, hJ, hold, hH, he, hq⟩
  have hm1 := hm.grow hb
  obtain ⟨hle, hm2⟩ := hm1.moreJ J' hJ hH.cell (fun b o hlt => hold b o (hlt.elim (fun h => Nat.lt_of_lt_of_le h hm.w0le) (fun h => hm.othlt b h))) (fun b t cells hmem B sz t' hβ o => by
    obtain ⟨B2, vals2, fr2, g1, ⟨T, g2⟩, g3, g4, g5, g6, g7, g8⟩ := (hm.live b t cells hmem).out
    rw [hβ] at g1; cases g1
    rw [hold B o (Array.getElem?_eq_some_iff.1 g2).1]; exact g6 o) hH.one (fun b es hmem B sz t' hβ o => by
    obtain ⟨B2, ob, g1, g2, g4, g5, g6⟩ := (hm.maps b es hmem).out
    rw [hβ] at g1; cases g1
    rw [hold B o (Array.getElem?_eq_some_iff.1 g2).1]; exact g5 o)
  have := hk o hq
  cases e with
  | returned v =>
    cases o with
    | ret d => exact ⟨_, K, .ret (.d d), hle.ext, hm2, .d he, this⟩
    | clip xs => obtain ⟨h1, a, n, rfl⟩ := he; exact ⟨_, K, .ret (.clip xs), hle.ext, hm2, .clip h1, this⟩
    | fresh s ml =>
      obtain ⟨β, h1, h2, h3, h4⟩ := he
      let y : Ctx := { x with J := J', β := fun b => if K.nx ≤ b then β (b - K.nx) else x.β b }
      have hρ : ∀ j, y.β (K.nx + j) = β j := fun j => by simp only [y]; rw [if_pos (by omega)]; congr 1; omega
      have hold' : ∀ b, b < K.nx → y.β b = x.β b := fun b hb => by simp only [y]; rw [if_neg (by omega)]
      have hbig : ∀ b, K.nx ≤ b → x.β b = .unborn := fun b hb => hm.unborn b (hm.fresh b hb)
      have hle' : ∀ b, (x.β b).le (y.β b) := fun b => by
        by_cases hb : K.nx ≤ b
        · rw [hbig b hb]; trivial
        · rw [hold' b (by omega)]; exact Nam.le_refl _
      have hbase : ∀ b, b < K.nx → ∀ B sz t, x.β b = .live B sz t → K.mem b ≠ .dead := fun b _ B sz t hb hd => by rw [hm.dead b hd] at hb; cases hb
      refine ⟨y, K.more ml, .ret (s.ren fun j => K.nx + j), ⟨hJ, rfl, rfl⟩, ⟨hm2.fro, hm2.size, hm2.defers, hm2.below, hm2.holds, hm2.old, ?_, ?_, ?_, ?_, ?_, hm2.one, ?_, ?_⟩, SRep.renF hρ s h1, this⟩
      · intro i q hq
        obtain ⟨u, e1, e2⟩ := hm2.slots i q hq
        exact ⟨u, e1, e2.mono (fun _ _ _ h => h) hle'⟩
      · intro b hb
        simp only [Know.more] at hb
        split at hb
        · rename_i hn
          split at hb
          · cases hb
          · rename_i hnone
            simp only [y]; rw [if_pos hn]; exact h4 _ (List.getElem?_eq_none_iff.1 hnone)
        · rename_i hn
          rw [hold' b (by omega)]; exact hm.unborn b hb
      · intro b hb
        simp only [Know.more] at hb
        split at hb
        · split at hb <;> cases hb
        · rename_i hn
          rw [hold' b (by omega)]; exact hm.dead b hb
      · intro b t cells hb
        simp only [Know.more] at hb
        split at hb
        · rename_i hn
          split at hb
          · rename_i t0 cs hg
            cases hb
            obtain ⟨B, vals, fr, g1, g2, g3, g4, g5, g6, g7, g8⟩ := (h2 _ _ _ hg).out
            refine ⟨B, vals, fr, by simp only [y]; rw [if_pos hn]; exact g1, g2, g3, by rw [renL_eq, List.length_map]; exact g4, fun o q hq => ?_, g6, ⟨Nat.le_trans hm.w0le g7.1, fun ho => by have := hm.othlt B ho; have := g7.1; simp only [Base.plain] at this; omega⟩, g8⟩
            rw [renL_eq, List.getElem?_map, Option.map_eq_some_iff] at hq
            obtain ⟨q0, hq0, rfl⟩ := hq
            obtain ⟨u, e1, e2⟩ := g5 o q0 hq0
            exact ⟨u, e1, SRep.renF hρ q0 e2⟩
          · cases hb
        · rename_i hn
          obtain ⟨B, vals, fr, g1, g2, g3, g4, g5, g6, g7, g8⟩ := (hm2.live b t cells hb).out
          refine ⟨B, vals, fr, by rw [hold' b (by omega)]; exact g1, g2, g3, g4, fun o q hq => ?_, g6, g7, g8⟩
          obtain ⟨u, e1, e2⟩ := g5 o q hq
          exact ⟨u, e1, e2.mono (fun _ _ _ h => h) hle'⟩
      · intro b b' B sz t sz' t' e1 e2
        simp only [y] at e1 e2
        have low : ∀ c C csz ct, x.β c = .live C csz ct → c < K.nx → C < w.heap.size := fun c C csz ct hc hlt => by
          cases hmc : K.mem c with
          | unborn => rw [hm.unborn c hmc] at hc; cases hc
          | dead => rw [hm.dead c hmc] at hc; cases hc
          | live t0 cs0 =>
            obtain ⟨B0, vals0, fr0, g1, ⟨T, g2⟩, _⟩ := (hm.live c t0 cs0 hmc).out
            rw [hc] at g1; cases g1
            exact (Array.getElem?_eq_some_iff.1 g2).1
          | mp es0 =>
            obtain ⟨B0, ob, g1, g2, _⟩ := (hm.maps c es0 hmc).out
            rw [hc] at g1; cases g1
            exact (Array.getElem?_eq_some_iff.1 g2).1
        have high : ∀ c C csz ct, β c = .live C csz ct → w.heap.size ≤ C := fun c C csz ct hc => by
          rcases Nat.lt_or_ge c ml.length with hlt | hge
          · obtain ⟨⟨t0, cs0⟩, hg⟩ : ∃ q, ml[c]? = some q := ⟨_, List.getElem?_eq_getElem hlt⟩
            obtain ⟨B0, vals0, fr0, g1, _, _, _, _, _, g7, _⟩ := (h2 c t0 cs0 hg).out
            simp only at g1; rw [hc] at g1; cases g1
            exact g7.1
          · rw [h4 c hge] at hc; cases hc
        split at e1 <;> split at e2
        · have := h3 _ _ _ _ _ _ _ e1 e2; omega
        · rename_i q1 q2
          have a1 := high _ _ _ _ e1; have a2 := low _ _ _ _ e2 (by omega); omega
        · rename_i q1 q2
          have a1 := high _ _ _ _ e2; have a2 := low _ _ _ _ e1 (by omega); omega
        · exact hm.inj _ _ _ _ _ _ _ e1 e2
      · intro b hb
        simp only [Know.more] at hb ⊢
        rw [if_pos (by omega), List.getElem?_eq_none (by omega)]
      · intro b es hb
        simp only [Know.more] at hb
        split at hb
        · split at hb <;> cases hb
        · rename_i hn
          obtain ⟨B2, ob, g1, g2, g4, g5, g6⟩ := (hm2.maps b es hb).out
          exact ⟨B2, ob, by rw [hold' b (by omega)]; exact g1, g2, g4.mono (fun _ _ _ h => h) (fun _ _ r => r.mono (fun _ _ _ h => h) hle'), g5, g6⟩
    | pan d => exact he.elim
  | panicked ch =>
    cases o with
    | ret d => exact he.elim
    | clip xs => exact he.elim
    | fresh s ml => exact he.elim
    | pan d => exact ⟨_, K, .pan d, hle.ext, hm2, he, this⟩
  | outgrown => cases o <;> exact he.elim

/-! ### Operations on what is known -/
def OpsWp (P : Program) (r : Option Nat) (ops : Array Oper) (Q : XE → Know → Prop) (l : List Oper) (K : Know) : Prop :=
  ∀ x a w, Models x K a w → opsL P r ops (Post x Q) l a w

def rdS (K : Know) (G : Bool) (u : Operand) : Option SV := (rdK K G u).map (·.2)
def rdC (K : Know) (G : Bool) (u : Operand) : Prop := match rdK K G u with | some (p, _) => p | none => False
def conds (K : Know) (G : Bool) : List Operand → Prop
  | [] => True
  | u :: us => rdC K G u ∧ conds K G us

theorem rdS_rep {x : Ctx} {K : Know} {a : Act} {w : World} (hm : Models x K a w) {us : List Operand} (hc : conds K true us) : ∀ u ∈ us, ∀ s, rdS K true u = some s → SRep x.J x.β (a.eval u) s := by
  induction us with
  | nil => intro u hu; simp at hu
  | cons u us ih =>
    intro q hq s hs
    simp only [conds] at hc
    rcases List.mem_cons.1 hq with rfl | hq
    · simp only [rdS, Option.map_eq_some_iff] at hs
      obtain ⟨⟨p, s'⟩, h1, rfl⟩ := hs
      have := hc.1
      simp only [rdC, h1] at this
      exact rdK_rep hm h1 this rfl
    · exact ih hc.2 q hq s hs

end Go.Bf

/-
  The verification conditions of a list of operations, and the rules for code. Nothing is claimed here.
-/
namespace Go.Bf
open Go Go.RowKit
variable {P : Program}

def pickV (a b : Operand) (c x y : Bool) : Bool :=
  match a, b with
  | .const (.bool true), _ => c || y
  | _, .const (.bool false) => c && x
  | _, _ => bif c then x else y

def pickF (K : Know) (G : Bool) (c a b : Operand) : R :=
  match rdK K G c with
  | some (pc, .d (.bool cb)) =>
    match rdK K (G && cb) a, rdK K (G && !cb) b with
    | some (pa, .d (.bool x)), some (pb, .d (.bool y)) => some (pc ∧ (cb = true → pa) ∧ (cb = false → pb), .d (.bool (pickV a b cb x y)))
    | _, _ => none
  | _ => none

def quietF (P : Program) (im : Bool) (K : Know) (G : Bool) (op : Op) : R :=
  match op with
  | .pick c a b => pickF K G c a b
  | op => match opQ P im K.mem (rdS K G) op with
    | some (vc, s) => some (conds K G op.operands.toList ∧ vc, s)
    | none => none

inductive Cls where
  | quiet
  | mem
  | call

def opClass (im : Bool) : Op → Cls
  | .call { callee := .builtin .len, .. } => .quiet
  | .call { callee := .builtin .max, .. } => .quiet
  | .call { callee := .builtin .min, .. } => .quiet
  | .call { callee := .builtin .append, .. } => .mem
  | .call { callee := .builtin .copy, .. } => .mem
  | .call { callee := .builtin .clear, .. } => .mem
  | .call _ => .call
  | .alloc _ => .mem
  | .box _ _ => .mem
  | .store _ _ _ => .mem
  | .makeMap _ _ => .mem
  | .mapUpdate _ _ _ _ => .mem
  | .makeSlice _ _ _ => if im then .quiet else .mem
  | .buildSlice _ _ _ => if im then .quiet else .mem
  | .panic _ => .call
  | .binOp .eql _ _ (.const (.slice none 0 0)) _ => .call
  | .binOp .neq _ _ (.const (.slice none 0 0)) _ => .call
  | .defer _ => .call
  | _ => .quiet

def opX (P : Program) (K : Know) (rd : Operand → Option SV) (op : Op) (k : SV → Know → Prop) : Prop :=
  match op with
  | .call { callee := .builtin .append, args, argTypes } => opA P K rd (.call { callee := .builtin .append, args, argTypes }) k
  | .call { callee := .builtin .copy, args, argTypes } => opC P K rd (.call { callee := .builtin .copy, args, argTypes }) k
  | .call { callee := .builtin .clear, args, argTypes } => opZ P K rd (.call { callee := .builtin .clear, args, argTypes }) k
  | op => opM P K rd op k

def dstOk (K : Know) : Option Nat → Prop
  | none => True
  | some d => d < K.n ∧ d ∉ K.fro

def mkc (g : Option (Nat × Bool)) (G : Bool) (s : SV) : SV :=
  match g with
  | none => s
  | some _ => .cnd G s

/-- The machine enters the function. -/
def Enters (P : Program) (f : FuncId) : Prop := ∀ args w, (callFunc f args).run P w = .ok (.enter f args) w

theorem enters_of {f : FuncId} {fn : Func} (hf : P.funcs[f]? = some fn) (hn : (fn.name == "runtime.NumGoroutine") = false) (hb : fn.body.isNone = false) : Enters P f := fun args w => by
  simp only [callFunc, Sem.run_bind, run_program, Result.andThen_ok, hf, hn, hb, Bool.false_eq_true, if_false, Sem.run_pure]

/-- A call: the function, and the arguments (what the function has captured behind them). -/
def rdL (rd : Operand → Option SV) : List Operand → Option (List SV)
  | [] => some []
  | u :: us => match rd u, rdL rd us with
    | some s, some ss => some (s :: ss)
    | _, _ => none

def callF (rd : Operand → Option SV) : Op → Option (FuncId × List SV)
  | .call { callee := .value g, args, .. } =>
    match rd g, rdL rd args.toList with
    | some (.d (.fn f [])), some ss => some (f, ss)
    | some (.d (.fn f caps)), some ss => some (f, ss ++ caps.map .d)
    | some (.clo f caps), some ss => some (f, ss ++ caps)
    | _, _ => none
  | _ => none

/-- What is asked at a call that no guard hangs on. -/
def CallAt (P : Program) (r : Option Nat) (ops : Array Oper) (Q : XE → Know → Prop) (f : FuncId) (ss : List SV) (dst : Option Nat) (rest : List Oper) (K : Know) : Prop :=
  Enters P f ∧ CallS P f ss K fun o K' => match o with
    | .ret s => (dstOk K dst → dstOk K' dst) ∧ OpsWp P r ops Q rest (K'.put dst s)
    | .pan d => Q (.pan d) K'

/-- What is asked at a call under a guard: data in, data out. -/
def CallAtG (P : Program) (r : Option Nat) (ops : Array Oper) (Q : XE → Know → Prop) (f : FuncId) (ss : List SV) (G : Bool) (dst : Option Nat) (rest : List Oper) (K : Know) : Prop :=
  Enters P f ∧ ∃ ds d, toDs ss = some ds ∧ (G = true → FnWp P f ds (· = .ret d)) ∧ OpsWp P r ops Q rest (K.put dst (.cnd G (.d d)))

def VCops (P : Program) (r : Option Nat) (im : Bool) (ops : Array Oper) (Q : XE → Know → Prop) : List Oper → Know → Prop
  | [], K => Q .normal K
  | o :: rest, K =>
    match guardG K ops o with
    | none => False
    | some G =>
      match opClass im o.op with
      | .call => match callF (rdS K G) o.op with
        | some (f, ss) => dstOk K o.dst ∧ (G = true → conds K G o.op.operands.toList) ∧ (match o.guard with
          | none => CallAt P r ops Q f ss o.dst rest K
          | some _ => CallAtG P r ops Q f ss G o.dst rest K)
        | none => OpsWp P r ops Q (o :: rest) K
      | .mem => G = true ∧ dstOk K o.dst ∧ conds K true o.op.operands.toList ∧ opX P K (rdS K true) o.op fun s K' => VCops P r im ops Q rest (K'.put o.dst s)
      | .quiet => match quietF P im K G o.op with
        | some (vc, s) => dstOk K o.dst ∧ (G = true → vc) ∧ VCops P r im ops Q rest (K.put o.dst (mkc o.guard G s))
        | none => False

theorem dstOk_spec {K : Know} {dst : Option Nat} (h : dstOk K dst) : ∀ i, dst = some i → i < K.n ∧ i ∉ K.fro := fun i hi => by subst hi; exact h

/-- More local blocks are known. -/
structure MemLe (m m' : Mem) : Prop where
  live : ∀ b t cs, m b = .live t cs → m' b = .live t cs
  mp : ∀ b es, m b = .mp es → m' b = .mp es
instance {m m' : Mem} : CoeFun (MemLe m m') (fun _ => ∀ b t cs, m b = .live t cs → m' b = .live t cs) := ⟨MemLe.live⟩

def Fr (K : Know) : Prop := ∀ b, K.nx ≤ b → K.mem b = .unborn

def allocOnly : Op → Bool
  | .alloc _ | .box _ _ | .makeMap _ _ => true
  | _ => false

/-- What an operation on memory leaves be. -/
structure Kept (op : Op) (K K' : Know) : Prop where
  slots : K'.slots = K.slots
  n : K'.n = K.n
  fr : Fr K → Fr K'
  le : allocOnly op = true → Fr K → MemLe K.mem K'.mem
  gh : K'.gh = K.gh
  fro : K'.fro = K.fro

theorem kept_new {op : Op} {K : Know} {t : TypeId} {cs : List SV} : Kept op K (K.newB t cs) := ⟨rfl, rfl, fun h b hb => by
  simp only [Know.newB, Bf.put] at hb ⊢
  rw [if_neg (by omega)]; exact h b (by omega), fun _ h => ⟨fun b t cs hb => by
  simp only [Know.newB, Bf.put]
  split
  · rename_i e; subst e; rw [h _ (Nat.le_refl _)] at hb; cases hb
  · exact hb, fun b es hb => by
  simp only [Know.newB, Bf.put]
  split
  · rename_i e; subst e; rw [h _ (Nat.le_refl _)] at hb; cases hb
  · exact hb⟩, rfl, rfl⟩

theorem fr_set {K : Know} {b : Nat} {m : MB} {t : TypeId} {cs : List SV} (hb : K.mem b = .live t cs) (h : Fr K) : Fr (K.setB b m) := fun b' hb' => by
  simp only [Know.setB, Bf.put] at hb' ⊢
  split
  · rename_i e; subst e; rw [h _ hb'] at hb; cases hb
  · exact h b' hb'

theorem kept_set {op : Op} {K : Know} {b : Nat} {m : MB} {t : TypeId} {cs : List SV} (ho : allocOnly op = false) (hb : K.mem b = .live t cs) : Kept op K (K.setB b m) :=
  ⟨rfl, rfl, fr_set hb, fun h => (by rw [ho] at h; cases h), rfl, rfl⟩

theorem kept_newO {op : Op} {K : Know} {o : MO} : Kept op K (K.newO o) := ⟨rfl, rfl, fun h b hb => by
  simp only [Know.newO, Bf.put] at hb ⊢
  rw [if_neg (by omega)]; exact h b (by omega), fun _ h => ⟨fun b t cs hb => by
  simp only [Know.newO, Bf.put]
  split
  · rename_i e; subst e; rw [h _ (Nat.le_refl _)] at hb; cases hb
  · exact hb, fun b es hb => by
  simp only [Know.newO, Bf.put]
  split
  · rename_i e; subst e; rw [h _ (Nat.le_refl _)] at hb; cases hb
  · exact hb⟩, rfl, rfl⟩
theorem kept_setO {op : Op} {K : Know} {b : Nat} {m : MB} {o : MO} (ho : allocOnly op = false) (hb : K.mem b = .mp o) : Kept op K (K.setB b m) :=
  ⟨rfl, rfl, fun h b' hb' => by
    simp only [Know.setB, Bf.put] at hb' ⊢
    split
    · rename_i e; subst e; rw [h _ hb'] at hb; cases hb
    · exact h b' hb', fun h => (by rw [ho] at h; cases h), rfl, rfl⟩

theorem opX_kept {K : Know} {rd : Operand → Option SV} {op : Op} {k k' : SV → Know → Prop} (h : opX P K rd op k) (hk : ∀ s K', Kept op K K' → k s K' → k' s K') : opX P K rd op k' := by
  cases op with
  | alloc t =>
    simp only [opX, opM] at h ⊢
    split at h
    · exact hk _ _ kept_new h
    · exact h.elim
  | box t u =>
    simp only [opX, opM] at h ⊢
    split at h
    · split at h
      · rename_i hc; rw [if_pos hc]; exact hk _ _ kept_new h
      · exact h.elim
    · exact h.elim
  | store t u v =>
    simp only [opX, opM] at h ⊢
    split at h
    · rename_i b off s h1 h2
      cases hb : K.mem b with
      | live bt cells =>
        simp only [hb] at h ⊢
        split at h
        · rename_i hc; rw [if_pos hc]; exact ⟨h.1, hk _ _ (kept_set rfl hb) h.2⟩
        · exact h.elim
      | _ => simp only [hb] at h
    · exact h.elim
  | makeSlice t l c =>
    simp only [opX, opM] at h ⊢
    split at h
    · split at h
      · split at h
        · exact ⟨h.1, hk _ _ kept_new h.2⟩
        · exact h.elim
      · exact h.elim
    · exact h.elim
  | buildSlice t n parts =>
    simp only [opX, opM] at h ⊢
    split at h
    · split at h
      · exact hk _ _ kept_new h
      · exact h.elim
    · exact h.elim
  | makeMap t r =>
    cases r with
    | none =>
      simp only [opX, opM] at h ⊢
      split at h
      · exact hk _ _ kept_newO h
      · exact h.elim
    | some u =>
      simp only [opX, opM] at h ⊢
      split at h
      · exact hk _ _ kept_newO h
      · exact h.elim
  | mapUpdate t m i v =>
    simp only [opX, opM] at h ⊢
    split at h
    · rename_i b key s kt z h1 h2 h3 h4
      cases hb : K.mem b with
      | mp o =>
        cases o with
        | map es =>
          simp only [hb] at h ⊢
          exact ⟨h.1, hk _ _ (kept_setO rfl hb) h.2⟩
        | _ => simp only [hb] at h
      | _ => simp only [hb] at h
    · exact h.elim
  | call c =>
    obtain ⟨callee, args, ts⟩ := c
    cases callee with
    | builtin bi =>
      cases bi with
      | append =>
        simp only [opX, opA] at h ⊢
        split at h
        · split at h
          · split at h
            · rename_i ek s q _ _ _ _ _ vc n news _ _
              cases s with
              | own b wd off len c =>
                cases off with
                | zero =>
                  simp only at h ⊢
                  cases hb : K.mem b with
                  | live bt cells =>
                    simp only [hb] at h ⊢
                    refine ⟨h.1, hk _ _ ⟨rfl, rfl, fun hf => ?_, fun h => (by cases h), rfl, rfl⟩ h.2⟩
                    exact (kept_new (op := .alloc 0)).fr (fr_set hb hf)
                  | _ => simp only [hb] at h
                | succ o => exact h.elim
              | clip xs =>
                exact ⟨h.1, h.2.1, h.2.2.1, h.2.2.2.1, fun hn => hk _ _ ⟨rfl, rfl, id, fun h => (by cases h), rfl, rfl⟩ (h.2.2.2.2.1 hn), fun hn => hk _ _ kept_new (h.2.2.2.2.2 hn)⟩
              | _ => exact h.elim
            · exact h.elim
          · exact h.elim
        · exact h.elim
      | copy =>
        simp only [opX, opC] at h ⊢
        split at h
        · split at h
          · split at h
            · rename_i hb _
              exact ⟨h.1, hk _ _ (kept_set rfl hb) h.2⟩
            · exact h.elim
          · exact h.elim
        · exact h.elim
      | clear =>
        simp only [opX, opZ] at h ⊢
        split at h
        · split at h
          · split at h
            · rename_i hb
              exact ⟨h.1, hk _ _ (kept_set rfl hb) h.2⟩
            · exact h.elim
          · exact h.elim
        · exact h.elim
      | _ => exact h.elim
    | _ => exact h.elim
  | _ => exact h.elim

theorem Kept.dst {op : Op} {K K' : Know} (h : Kept op K K') {dst : Option Nat} (hd : dstOk K dst) : ∀ i, dst = some i → i < K'.n ∧ i ∉ K'.fro := fun i hi => by
  subst hi
  rw [h.n, h.fro]; exact hd

theorem opX_sound {x : Ctx} {K : Know} {a : Act} {w : World} (hm : Models x K a w) {o : Oper} {rd : Operand → Option SV} (hrd : ∀ u ∈ o.op.operands, ∀ s, rd u = some s → SRep x.J x.β (a.eval u) s)
    {k : SV → Know → Prop} (h : opX P K rd o.op k) : MemRun P x a o w k := by
  unfold opX at h
  split at h
  · rename_i args ts ho
    exact opA_sound hm hrd (by rw [ho]; exact h)
  · rename_i args ts ho
    exact opC_sound hm hrd (by rw [ho]; exact h)
  · rename_i args ts ho
    exact opZ_sound hm hrd (by rw [ho]; exact h)
  · exact opM_sound hm hrd h

theorem not_defer {im : Bool} {o : Oper} (h : opClass im o.op ≠ .call) : ∀ c, o.op ≠ .defer c := fun c e => by rw [e] at h; exact h rfl

theorem step_value {r : Option Nat} {o : Oper} {a : Act} {w w' : World} {v : Value} {next : Act → World → Prop} {Q : Exit → Act → World → Prop} (hd : ∀ c, o.op ≠ .defer c)
    (hrun : (execOp a.eval o).run P w = .ok (.value v) w') (h : next (a.put o.dst v) w') : o.wpIn (FW r) 0 P a w next Q := by
  refine ⟨fun _ _ => about_wide, ?_⟩
  rw [Oper.semAt_eq _ _ _ hd, hrun]
  exact h
theorem step_skip {r : Option Nat} {o : Oper} {a : Act} {w w' : World} {next : Act → World → Prop} {Q : Exit → Act → World → Prop} (hd : ∀ c, o.op ≠ .defer c)
    (hrun : (execOp a.eval o).run P w = .ok .skip w') (h : next (a.put o.dst undef) w') : o.wpIn (FW r) 0 P a w next Q := by
  refine ⟨fun _ _ => about_wide, ?_⟩
  rw [Oper.semAt_eq _ _ _ hd, hrun]
  exact h

theorem mkc_true {J : Imm} {β : Nat → Nam} {v : Value} {s : SV} {g : Option (Nat × Bool)} {G : Bool} (hG : G = true) (h : SRep J β v s) : SRep J β v (mkc g G s) := by
  unfold mkc; split
  · exact h
  · exact .cndT hG h

theorem pickF_sound {x : Ctx} {K : Know} {a : Act} {w : World} (hm : Models x K a w) {o : Oper} {c u v : Operand} (ho : o.op = .pick c u v) {vc : Prop} {s : SV} (h : pickF K true c u v = some (vc, s)) (hvc : vc) :
    ∃ z, (execOp a.eval o).run P w = .ok (.value z) w ∧ SRep x.J x.β z s := by
  unfold pickF at h
  split at h
  · rename_i pc cb hc
    split at h
    · rename_i pa xx pb yy ha hb
      simp only [Option.some.injEq, Prod.mk.injEq] at h
      obtain ⟨rfl, rfl⟩ := h
      obtain ⟨h1, h2, h3⟩ := hvc
      have e1 := d_inv (rdK_rep hm hc h1 rfl)
      have hrun : (execOp a.eval o).run P w = .ok (.value (if cb then a.eval u else a.eval v)) w := by
        generalize hev : a.eval c = z at e1
        cases e1
        obtain ⟨dst, op, type, pos, after, guard⟩ := o
        simp only at ho
        subst ho
        simp [execOp, hev, asBool]
      refine ⟨_, hrun, ?_⟩
      cases cb with
      | true =>
        have e2 := d_inv (rdK_rep hm ha (h2 rfl) rfl)
        have : pickV u v true xx yy = xx := by
          unfold pickV; split
          · simp only [rdK, cval, Option.some.injEq, Prod.mk.injEq, SV.d.injEq, DV.bool.injEq] at ha
            simp [← ha.2]
          · simp
          · rfl
        rw [this]
        exact .d e2
      | false =>
        have e2 := d_inv (rdK_rep hm hb (h3 rfl) rfl)
        have : pickV u v false xx yy = yy := by
          unfold pickV; split
          · simp
          · simp only [rdK, cval, Option.some.injEq, Prod.mk.injEq, SV.d.injEq, DV.bool.injEq] at hb
            simp [← hb.2]
          · rfl
        rw [this]
        exact .d e2
    · cases h
  · cases h

theorem quietF_sound {x : Ctx} {K : Know} {a : Act} {w : World} (hm : Models x K a w) {im : Bool} {o : Oper} {vc : Prop} {s : SV} (h : quietF P im K true o.op = some (vc, s)) (hvc : vc) :
    ∃ x' w' v, (execOp a.eval o).run P w = .ok (.value v) w' ∧ x.le x' ∧ Models x' K a w' ∧ SRep x'.J x'.β v s := by
  unfold quietF at h
  split at h
  · rename_i c u v ho
    obtain ⟨z, e, r⟩ := pickF_sound (P := P) hm ho h hvc
    exact ⟨x, w, z, e, Ctx.le_refl _, hm, r⟩
  · split at h
    · rename_i vc' s' hq
      simp only [Option.some.injEq, Prod.mk.injEq] at h
      obtain ⟨rfl, rfl⟩ := h
      have hr := rdS_rep hm hvc.1
      obtain ⟨x', w', v, e, hle, _, hm', r, _⟩ := opQ_sound hm (fun u hu s hs => hr u (by simpa using hu) s hs) hq hvc.2
      exact ⟨x', w', v, e, hle, hm', r⟩
    · cases h

theorem rdL_spec {rd : Operand → Option SV} : ∀ {us : List Operand} {ss : List SV}, rdL rd us = some ss → ss.length = us.length ∧ ∀ (i : Nat) u s, us[i]? = some u → ss[i]? = some s → rd u = some s := by
  intro us
  induction us with
  | nil => intro ss h; simp only [rdL, Option.some.injEq] at h; subst h; exact ⟨rfl, fun i u s h => by simp at h⟩
  | cons u us ih =>
    intro ss h
    simp only [rdL] at h
    split at h
    · rename_i s ss' h1 h2
      cases h
      obtain ⟨g1, g2⟩ := ih h2
      refine ⟨by simp [g1], fun i u' s' hu hs => ?_⟩
      cases i with
      | zero => simp at hu hs; subst hu; subst hs; exact h1
      | succ i => exact g2 i u' s' (by simpa using hu) (by simpa using hs)
    · cases h

theorem callF_run {x : Ctx} {K : Know} {a : Act} {w : World} (_ : Models x K a w) {o : Oper} {rd : Operand → Option SV} (hrd : ∀ u ∈ o.op.operands, ∀ s, rd u = some s → SRep x.J x.β (a.eval u) s) {f : FuncId} {ss : List SV}
    (h : callF rd o.op = some (f, ss)) (he : Enters P f) : ∃ vs, (execOp a.eval o).run P w = .ok (.enter f vs) w ∧ ArrR x.J x.β vs ss := by
  obtain ⟨dst, op, type, pos, after, guard⟩ := o
  simp only at h hrd
  unfold callF at h
  split at h
  · rename_i g args ts
    have harr : ∀ ss, rdL rd args.toList = some ss → ArrR x.J x.β (args.map a.eval) ss := fun ss hss => by
      obtain ⟨g1, g2⟩ := rdL_spec hss
      refine ⟨by simp [g1], fun i v s hv hs => ?_⟩
      rw [Array.getElem?_map, Option.map_eq_some_iff] at hv
      obtain ⟨u, hu, rfl⟩ := hv
      refine hrd u ?_ s (g2 i u s (by simpa using hu) hs)
      simp only [Op.operands, Call.operands, Array.mem_append]
      exact .inr (Array.mem_of_getElem? hu)
    have hgm : g ∈ (Op.call { callee := .value g, args := args, argTypes := ts }).operands := by simp [Op.operands, Call.operands]
    have run : ∀ cs : Array Value, a.eval g = .func (.func f) #[] cs → (execOp a.eval { dst, op := .call { callee := .value g, args := args, argTypes := ts }, type, pos, after, guard }).run P w = .ok (.enter f (args.map a.eval ++ cs)) w := fun cs hcs => by
      have := he (args.map a.eval ++ cs) w
      simp [execOp, resolve, Deferred.ofValue, hcs, invoke, this]
    have cat : ∀ (cs : Array Value) (ss ts : List SV), ArrR x.J x.β (args.map a.eval) ss → ArrR x.J x.β cs ts → ArrR x.J x.β (args.map a.eval ++ cs) (ss ++ ts) := fun cs ss ts h1 h2 => by
      refine ⟨by rw [Array.size_append, h1.1, h2.1]; simp, fun i v s hv hs => ?_⟩
      rw [List.getElem?_append] at hs
      split at hs
      · rename_i hlt
        rw [Array.getElem?_append_left (by rw [h1.1]; exact hlt)] at hv
        exact h1.2 i v s hv hs
      · rename_i hlt
        rw [Array.getElem?_append_right (by rw [h1.1]; omega), h1.1] at hv
        exact h2.2 _ v s hv hs
    split at h
    · rename_i f' ss' hg hss
      cases h
      have := d_inv (hrd g hgm _ hg)
      generalize hev : a.eval g = z at this
      cases this with
      | @fn _ cs _ hl hh =>
        have hc0 : cs = #[] := Array.eq_empty_of_size_eq_zero (by simpa using hl)
        subst hc0
        refine ⟨_, run #[] hev, ?_⟩
        simpa using harr _ hss
    · rename_i f' caps ss' hne hg hss
      cases h
      have := d_inv (hrd g hgm _ hg)
      generalize hev : a.eval g = z at this
      cases this with
      | @fn _ cs _ hl hh =>
        refine ⟨_, run cs hev, cat cs _ _ (harr _ hss) ⟨by simp [hl], fun i v s hv hs => ?_⟩⟩
        rw [List.getElem?_map, Option.map_eq_some_iff] at hs
        obtain ⟨d, hd, rfl⟩ := hs
        exact .d (hh i v d hv hd)
    · rename_i f' caps ss' hg hss
      cases h
      have hr := hrd g hgm _ hg
      generalize hev : a.eval g = z at hr
      cases hr with
      | @clo _ cs _ hl hh => exact ⟨_, run cs hev, cat cs _ _ (harr _ hss) ⟨hl, hh⟩⟩
    · cases h
  · cases h

theorem step_enter {r : Option Nat} {o : Oper} {a : Act} {w : World} {f : FuncId} {vs : Array Value} {next : Act → World → Prop} {Q : Exit → Act → World → Prop} (hd : ∀ c, o.op ≠ .defer c)
    (hrun : (execOp a.eval o).run P w = .ok (.enter f vs) w) (h : Calls P f vs w fun | .returned v, w'' => next (a.put o.dst v) w'' | .panicked chain, w'' => Q (.panic chain) a w'' | .outgrown, _ => LetsOut Q) :
    o.wpIn (FW r) 0 P a w next Q := by
  refine ⟨fun _ _ => about_wide, ?_⟩
  rw [Oper.semAt_eq _ _ _ hd, hrun]
  exact ⟨fun h => by simp [FW, Fence.wide] at h, callsIn_wide.2 h⟩

theorem VCcall_sound {r : Option Nat} {ops : Array Oper} {Q : XE → Know → Prop} {o : Oper} {l : List Oper} {K : Know} {G : Bool} (hG : guardG K ops o = some G)
    (h : match callF (rdS K G) o.op with
        | some (f, ss) => dstOk K o.dst ∧ (G = true → conds K G o.op.operands.toList) ∧ (match o.guard with
          | none => CallAt P r ops Q f ss o.dst l K
          | some _ => CallAtG P r ops Q f ss G o.dst l K)
        | none => OpsWp P r ops Q (o :: l) K) : OpsWp P r ops Q (o :: l) K := by
  split at h
  · rename_i f ss hcall
    obtain ⟨hdst, hcond, h⟩ := h
    intro x a w hm
    have hw := guardG_sound hm hG
    have hnd : ∀ c, o.op ≠ .defer c := fun c e => by rw [e] at hcall; simp [callF] at hcall
    simp only [opsL]
    cases G with
    | false =>
      rw [if_neg (by rw [hw]; simp)]
      split at h
      · rename_i hg; unfold guardG at hG; rw [hg] at hG; cases hG
      · obtain ⟨_, ds, d, h1, h2, h3⟩ := h
        exact h3 x _ _ (hm.put (dstOk_spec hdst) (.cndF rfl))
    | true =>
      rw [if_pos hw]
      have hr := rdS_rep hm (hcond rfl)
      split at h
      · obtain ⟨he, hc⟩ := h
        obtain ⟨vs, hrun, harr⟩ := callF_run hm (fun u hu s hs => hr u (by simpa using hu) s hs) hcall he
        refine step_enter hnd hrun ((hc x a w vs hm harr).mono ?_)
        rintro e w' ⟨y, K', out, hxy, hm', hes, hk⟩
        cases e with
        | returned v =>
          cases out with
          | ret s =>
            exact opsL_ext hxy _ _ _ (hk.2 y _ _ (hm'.put (dstOk_spec (hk.1 hdst)) hes))
          | pan d => exact hes.elim
        | panicked ch =>
          cases out with
          | ret s => exact hes.elim
          | pan d => exact ⟨y, K', .pan d, hxy, hes, hm', hk⟩
        | outgrown => cases out <;> exact hes.elim
      · obtain ⟨he, ds, d, h1, h2, h3⟩ := h
        obtain ⟨vs, hrun, harr⟩ := callF_run hm (fun u hu s hs => hr u (by simpa using hu) s hs) hcall he
        have hc : CallS P f ss K fun out K' => out = .ret (.d d) ∧ K' = K := CallS.pure h1 (h2 rfl) (fun o ho => by subst ho; exact ⟨rfl, rfl⟩)
        refine step_enter hnd hrun ((hc x a w vs hm harr).mono ?_)
        rintro e w' ⟨y, K', out, hxy, hm', hes, rfl, rfl⟩
        cases e with
        | returned v => exact opsL_ext hxy _ _ _ (h3 y _ _ (hm'.put (dstOk_spec hdst) (.cndT rfl hes)))
        | panicked ch => exact hes.elim
        | outgrown => exact hes.elim
  · exact h

/-- **The verification condition of a list of operations is enough.** -/
theorem VCops_sound {r : Option Nat} {im : Bool} {ops : Array Oper} {Q : XE → Know → Prop} : ∀ (l : List Oper) (K : Know), VCops P r im ops Q l K → OpsWp P r ops Q l K := by
  intro l
  induction l with
  | nil => intro K h x a w hm; exact ⟨x, K, .normal, Ctx.ext_refl _, trivial, hm, h⟩
  | cons o l ih =>
    intro K h x a w hm
    simp only [VCops] at h
    split at h
    · exact h.elim
    · rename_i G hG
      have hw := guardG_sound hm hG
      split at h
      · exact VCcall_sound hG h x a w hm
      · rename_i hc
        obtain ⟨hGt, hdst, hcond, hx⟩ := h
        have hr := rdS_rep hm hcond
        obtain ⟨x', w', K', s, hrun, hle, hm', hkept, hk⟩ := opX_sound hm (fun u hu s hs => hr u (by simpa using hu) s hs) (opX_kept (k' := fun s K' => Kept o.op K K' ∧ VCops P r im ops Q l (K'.put o.dst s)) hx fun s K' h1 h2 => ⟨h1, h2⟩)
        have hnd := not_defer (im := im) (o := o) (by rw [hc]; simp)
        have hdst' := fun i hi => (hkept.dst hdst) i hi
        simp only [opsL]
        rw [if_pos (by rw [hw, hGt])]
        rcases hrun with ⟨v, e, rv⟩ | ⟨e, rv⟩
        · exact step_value hnd e (opsL_ext hle.ext _ _ _ (ih _ hk x' _ _ (hm'.put hdst' rv)))
        · exact step_skip hnd e (opsL_ext hle.ext _ _ _ (ih _ hk x' _ _ (hm'.put hdst' rv)))
      · rename_i hc
        have hnd := not_defer (im := im) (o := o) (by rw [hc]; simp)
        split at h
        · rename_i vc s hq
          obtain ⟨hdst, hvc, hk⟩ := h
          simp only [opsL]
          cases G with
          | true =>
            rw [if_pos hw]
            obtain ⟨x', w', v, e, hle, hm', rv⟩ := quietF_sound hm hq (hvc rfl)
            exact step_value hnd e (opsL_ext hle.ext _ _ _ (ih _ hk x' _ _ (hm'.put (dstOk_spec hdst) (mkc_true rfl rv))))
          | false =>
            rw [if_neg (by rw [hw]; simp)]
            refine ih _ hk x _ _ (hm.put (dstOk_spec hdst) ?_)
            unfold mkc
            split
            · rename_i hg; unfold guardG at hG; rw [hg] at hG; cases hG
            · exact .cndF rfl
        · exact h.elim

theorem OpsWp.mono {r : Option Nat} {ops : Array Oper} {Q Q' : XE → Know → Prop} {l : List Oper} {K : Know} (h : OpsWp P r ops Q l K) (hq : ∀ e K, Q e K → Q' e K) : OpsWp P r ops Q' l K :=
  fun x a w hm => opsL_mono hq l a w (h x a w hm)

end Go.Bf

/-
  The rules for code, and a function's contract out of its body. Nothing is claimed here.
-/
namespace Go.Bf
open Go Go.RowKit
variable {P : Program} {r : Option Nat}

def DWp (P : Program) (r : Option Nat) (c : Code) (Q : XE → Know → Prop) (K : Know) : Prop := ∀ x a w, Models x K a w → c.wpIn (FW r) 0 P (Post x Q) a w

def thenX (k : Know → Prop) (Q : XE → Know → Prop) : XE → Know → Prop
  | .normal, K => k K
  | e, K => Q e K
def blockX (id : Nat) (Q : XE → Know → Prop) : XE → Know → Prop
  | .exit i, K => if i = id then Q .normal K else Q (.exit i) K
  | e, K => Q e K

theorem DWp.mono {c : Code} {Q Q' : XE → Know → Prop} {K : Know} (h : DWp P r c Q K) (hq : ∀ e K, Q e K → Q' e K) : DWp P r c Q' K :=
  fun x a w hm => wpIn_mono (h x a w hm) fun _ _ _ => Post.mono hq

theorem DWp.region {id : Nat} {ops : Array Oper} {Q : XE → Know → Prop} {K : Know} (h : OpsWp P r ops Q ops.toList K) : DWp P r (.region id ops false) Q K := fun x a w hm => by
  refine wpIn_region ?_
  have := opsL_sound (P := P) (r := r) (ops := ops) ops.toList 0 a w (fun j => by simp) (h x a w hm)
  simpa using this

theorem DWp.seq {c d : Code} {Q : XE → Know → Prop} {K : Know} (h : DWp P r c (thenX (DWp P r d Q) Q) K) : DWp P r (.seq c d) Q K := fun x a w hm => by
  refine wpIn_seq (wpIn_mono (h x a w hm) ?_)
  rintro e a' w' ⟨y, K', xe, h1, h2, h3, h4⟩
  cases e with
  | normal =>
    cases xe <;> first | exact h2.elim | skip
    exact wpIn_mono (h4 y a' w' h3) fun _ _ _ => Post.ext h1
  | exit id => cases xe <;> first | exact h2.elim | exact ⟨y, K', _, h1, h2, h3, h4⟩
  | goto l => cases xe <;> exact h2.elim
  | ret => cases xe <;> first | exact h2.elim | exact ⟨y, K', _, h1, h2, h3, h4⟩
  | panic ch => cases xe <;> first | exact h2.elim | exact ⟨y, K', _, h1, h2, h3, h4⟩
  | outgrown => cases xe <;> exact h2.elim

theorem DWp.block {id : Nat} {c : Code} {Q : XE → Know → Prop} {K : Know} (h : DWp P r c (blockX id Q) K) : DWp P r (.block id c) Q K := fun x a w hm => by
  refine wpIn_block (wpIn_mono (h x a w hm) ?_)
  rintro e a' w' ⟨y, K', xe, h1, h2, h3, h4⟩
  cases e with
  | normal => cases xe <;> first | exact h2.elim | exact ⟨y, K', _, h1, h2, h3, h4⟩
  | exit i =>
    cases xe <;> first | exact h2.elim | skip
    rename_i i'
    have hi : i = i' := h2
    subst hi
    simp only [Exit.inBlock]
    simp only [blockX] at h4
    split
    · rename_i e; rw [if_pos e] at h4; exact ⟨y, K', .normal, h1, trivial, h3, h4⟩
    · rename_i e; rw [if_neg e] at h4; exact ⟨y, K', .exit i, h1, rfl, h3, h4⟩
  | goto l => cases xe <;> exact h2.elim
  | ret => cases xe <;> first | exact h2.elim | exact ⟨y, K', _, h1, h2, h3, h4⟩
  | panic ch => cases xe <;> first | exact h2.elim | exact ⟨y, K', _, h1, h2, h3, h4⟩
  | outgrown => cases xe <;> exact h2.elim

theorem DWp.skip {Q : XE → Know → Prop} {K : Know} (h : Q .normal K) : DWp P r .skip Q K := fun x _ _ hm => wpIn_skip ⟨x, K, .normal, Ctx.ext_refl _, trivial, hm, h⟩
theorem DWp.ret {Q : XE → Know → Prop} {K : Know} (h : Q .ret K) : DWp P r .ret Q K := fun x _ _ hm => wpIn_ret ⟨x, K, .ret, Ctx.ext_refl _, trivial, hm, h⟩
theorem DWp.exit {id : Nat} {Q : XE → Know → Prop} {K : Know} (h : Q (.exit id) K) : DWp P r (.exit id) Q K := fun x _ _ hm => wpIn_exit ⟨x, K, .exit id, Ctx.ext_refl _, rfl, hm, h⟩

/-- A test: both ways. -/
def CondVC (P : Program) (r : Option Nat) (c : Operand) (t e : Code) (Q : XE → Know → Prop) (K : Know) : Prop :=
  match rdK K true c with
  | some (p, .d (.bool b)) => p ∧ (b = true → DWp P r t Q K) ∧ (b = false → DWp P r e Q K)
  | _ => False

theorem DWp.cond {c : Operand} {t e : Code} {Q : XE → Know → Prop} {K : Know} (h : CondVC P r c t e Q K) : DWp P r (.cond c t e) Q K := fun x a w hm => by
  unfold CondVC at h
  split at h
  · rename_i p b hc
    obtain ⟨hp, ht, he⟩ := h
    have := d_inv (rdK_rep hm hc hp rfl)
    generalize hev : a.eval c = z at this
    cases this
    exact wpIn_cond_split hev (fun hb => ht hb x a w hm) (fun hb => he hb x a w hm)
  · exact h.elim

/-! ### What a function hands back -/
def snapD (mem : Mem) : Nat → SV → Option DV
  | _, .d x => some x
  | _, .clip xs => some (.list xs)
  | 0, _ => none
  | n + 1, .agg cs => match allD cs with
    | some ds => some (.agg ds)
    | none => (cs.mapM (snapD mem n)).map .agg
  | n + 1, .own b wd off len _ => match mem b with
    | .live _ cells =>
      match allD ((cells.drop off).take (len * wd)) with
      | some ds => if ds.length = len * wd then some (.list (if wd = 1 then ds.map fun d => [d] else chunk wd len ds)) else none
      | none => match ((cells.drop off).take (len * wd)).mapM (snapD mem n) with
        | some ds => if ds.length = len * wd then some (.list (if wd = 1 then ds.map fun d => [d] else chunk wd len ds)) else none
        | none => none
    | _ => none
  | n + 1, .loc b off => match mem b with
    | .live _ cells => match allD (cells.drop off) with
      | some ds => some (.ptr ds)
      | none => ((cells.drop off).mapM (snapD mem n)).map .ptr
    | _ => none
  | n + 1, .clo f cs => match allD cs with
    | some ds => some (.fn f ds)
    | none => (cs.mapM (snapD mem n)).map (.fn f)
  | _, .cnd _ _ => none
  | n + 1, .mp b => match mem b with
    | .mp (.map es) => match allD (es.map (·.2)) with
      | some ds => some (.mapd ((es.map (·.1)).zip ds))
      | none => ((es.map (·.2)).mapM (snapD mem n)).map fun ds => .mapd ((es.map (·.1)).zip ds)
    | _ => none

/-- All cells of the local blocks are held immutable. -/
structure SnapJ (x : Ctx) (K : Know) (w : World) (J : Imm) : Prop where
  le : ∀ b o v, x.J b o = some v → J b o = some v
  loc : ∀ (b : Nat) t cells, K.mem b = .live t cells → ∀ B sz t', x.β b = .live B sz t' → ∀ o v, w.cell? ⟨B, o, none⟩ = some v → J B (2 * o) = some v
  obj : ∀ (b : Nat) m, K.mem b = .mp m → ∀ B sz t', x.β b = .live B sz t' → ∀ o v, vc w B (2 * o + 1) = some v → J B (2 * o + 1) = some v

theorem snapD_rep {x : Ctx} {K : Know} {a : Act} {w : World} (hm : Models x K a w) {J : Imm} (hJ : SnapJ x K w J) : ∀ (n : Nat) (s : SV) (v : Value) (d : DV), SRep x.J x.β v s → snapD K.mem n s = some d → Rep J v d := by
  intro n
  induction n with
  | zero =>
    intro s v d hs h
    cases s with
    | d y => simp only [snapD, Option.some.injEq] at h; subst h; exact (d_inv hs).mono hJ.le
    | clip xs => simp only [snapD, Option.some.injEq] at h; subst h; obtain ⟨_, _, hv⟩ := clip_inv hs; exact hv.mono hJ.le
    | _ => simp [snapD] at h
  | succ n ih =>
    intro s v d hs h
    have all : ∀ {cs : List SV} {ds : List DV}, (allD cs = some ds ∨ cs.mapM (snapD K.mem n) = some ds) → ds.length = cs.length ∧ ∀ (i : Nat) (u : Value) (q : SV) (e : DV), cs[i]? = some q → ds[i]? = some e → SRep x.J x.β u q → Rep J u e := fun {cs ds} hc => by
      rcases hc with hc | hc
      · obtain ⟨g1, g2⟩ := allD_get hc
        refine ⟨g1, fun i u q e hq he hr => ?_⟩
        rw [g2 i e he] at hq
        cases hq
        exact (d_inv hr).mono hJ.le
      · obtain ⟨g1, g2⟩ := mapM_get hc
        exact ⟨g1, fun i u q e hq he hr => ih q u e hr (g2 i q e hq he)⟩
    cases s with
    | d y => simp only [snapD, Option.some.injEq] at h; subst h; exact (d_inv hs).mono hJ.le
    | clip xs => simp only [snapD, Option.some.injEq] at h; subst h; obtain ⟨_, _, hv⟩ := clip_inv hs; exact hv.mono hJ.le
    | mp b =>
      simp only [snapD] at h
      split at h
      · rename_i es hb
        obtain ⟨B, obj, h1, h2, ⟨ms, c, rfl, k2, k3, k4⟩, _⟩ := (hm.maps b _ hb).out
        have hv : v = .map (some B) := by
          cases hs with
          | mp h' => rw [h1] at h'; cases h'; rfl
          | mpDead h' => rw [h1] at h'; cases h'
        subst hv
        have fin : ∀ ds, (allD (es.map (·.2)) = some ds ∨ (es.map (·.2)).mapM (snapD K.mem n) = some ds) → Rep J (.map (some B)) (.mapd ((es.map (·.1)).zip ds)) := fun ds hc => by
          obtain ⟨g1, g2⟩ := all hc
          have hlen : ((es.map (·.1)).zip ds).length = ms.size := by simp at g1; simp [g1, k2]
          have hget : ∀ (i : Nat) q, ((es.map (·.1)).zip ds)[i]? = some q → ∃ m e, ms[i]? = some m ∧ es[i]? = some e ∧ Rep J m.key q.1 ∧ Rep J m.val q.2 := fun i q hq => by
            rw [List.getElem?_zip_eq_some] at hq
            obtain ⟨q1, q2⟩ := hq
            rw [List.getElem?_map, Option.map_eq_some_iff] at q1
            obtain ⟨e, he, he1⟩ := q1
            have hlt : i < ms.size := by rw [k2]; exact (List.getElem?_eq_some_iff.1 he).1
            obtain ⟨r1, r2⟩ := k3 i ms[i] e (Array.getElem?_eq_getElem hlt) he
            exact ⟨ms[i], e, Array.getElem?_eq_getElem hlt, he, by rw [← he1]; exact r1.mono hJ.le, g2 i _ e.2 q.2 (by rw [List.getElem?_map, he]; rfl) q2 r2⟩
          have hmj : MapJ J B ms.size c _ _ _ := MapJ.of (fun i v hv => hJ.obj b _ hb B _ _ h1 i v (by rw [vc_map h2]; exact hv)) k4
          rw [← hlen] at hmj
          refine .mapd _ _ _ hmj (fun i q hq => ?_) (fun i q hq => ?_)
          · obtain ⟨m, e, e1, e2, e3, e4⟩ := hget i q hq
            simp only [e1, Option.map_some, Option.getD_some]; exact e3
          · obtain ⟨m, e, e1, e2, e3, e4⟩ := hget i q hq
            simp only [e1, Option.map_some, Option.getD_some]; exact e4
        split at h
        · rename_i ds hds; cases h; exact fin ds (.inl hds)
        · rw [Option.map_eq_some_iff] at h; obtain ⟨ds, hds, rfl⟩ := h; exact fin ds (.inr hds)
      · cases h
    | agg cs =>
      have fin : ∀ ds, (allD cs = some ds ∨ cs.mapM (snapD K.mem n) = some ds) → Rep J v (.agg ds) := fun ds hc => by
        obtain ⟨g1, g2⟩ := all hc
        cases hs with
        | agg hl hh =>
          refine .agg (by omega) fun i u e hu he => ?_
          have hlt : i < cs.length := by rw [← g1]; exact (List.getElem?_eq_some_iff.1 he).1
          exact g2 i u _ e (List.getElem?_eq_getElem hlt) he (hh i u _ hu (List.getElem?_eq_getElem hlt))
      simp only [snapD] at h
      split at h
      · rename_i ds hds; cases h; exact fin ds (.inl hds)
      · rw [Option.map_eq_some_iff] at h; obtain ⟨ds, hds, rfl⟩ := h; exact fin ds (.inr hds)
    | clo f cs =>
      have fin : ∀ ds, (allD cs = some ds ∨ cs.mapM (snapD K.mem n) = some ds) → Rep J v (.fn f ds) := fun ds hc => by
        obtain ⟨g1, g2⟩ := all hc
        cases hs with
        | clo hl hh =>
          refine .fn (by omega) fun i u e hu he => ?_
          have hlt : i < cs.length := by rw [← g1]; exact (List.getElem?_eq_some_iff.1 he).1
          exact g2 i u _ e (List.getElem?_eq_getElem hlt) he (hh i u _ hu (List.getElem?_eq_getElem hlt))
      simp only [snapD] at h
      split at h
      · rename_i ds hds; cases h; exact fin ds (.inl hds)
      · rw [Option.map_eq_some_iff] at h; obtain ⟨ds, hds, rfl⟩ := h; exact fin ds (.inr hds)
    | loc b off =>
      simp only [snapD] at h
      split at h
      · rename_i t cells hb
        obtain ⟨B, sz, t', h1, h2, h3⟩ := hm.cell hb
        obtain rfl := loc_inv hs h1
        have fin : ∀ ds, (allD (cells.drop off) = some ds ∨ (cells.drop off).mapM (snapD K.mem n) = some ds) → Rep J (.pointer (some ⟨B, off, none⟩)) (.ptr ds) := fun ds hc => by
          obtain ⟨g1, g2⟩ := all hc
          have key : ∀ j, j < ds.length → ∃ u q, w.cell? ⟨B, off + j, none⟩ = some u ∧ (cells.drop off)[j]? = some q ∧ SRep x.J x.β u q := fun j hj => by
            have hlt : j < (cells.drop off).length := by omega
            have hq : (cells.drop off)[j]? = some (cells.drop off)[j] := List.getElem?_eq_getElem hlt
            obtain ⟨u, e, rr⟩ := h3 (off + j) (cells.drop off)[j] (by rw [← hq, List.getElem?_drop])
            exact ⟨u, _, e, hq, rr⟩
          refine .ptr (fun j => (w.cell? ⟨B, off + j, none⟩).getD undef) (fun j hj => ?_) (fun j e he => ?_)
          · obtain ⟨u, q, e1, _, _⟩ := key j hj
            rw [e1]; exact hJ.loc b t cells hb B sz t' h1 _ _ e1
          · obtain ⟨u, q, e1, e2, e3⟩ := key j (List.getElem?_eq_some_iff.1 he).1
            rw [e1]; exact g2 j u q e e2 he e3
        split at h
        · rename_i ds hds; cases h; exact fin ds (.inl hds)
        · rw [Option.map_eq_some_iff] at h; obtain ⟨ds, hds, rfl⟩ := h; exact fin ds (.inr hds)
      · cases h
    | own b wd off len c =>
      simp only [snapD] at h
      split at h
      · rename_i t cells hb
        obtain ⟨B, sz, t', h1, h2, h3⟩ := hm.cell hb
        obtain ⟨cap, rfl, f1, f2, f3, _⟩ := own_inv hs h1
        have fin : ∀ ds, (allD ((cells.drop off).take (len * wd)) = some ds ∨ ((cells.drop off).take (len * wd)).mapM (snapD K.mem n) = some ds) → ds.length = len * wd →
            Rep J (.slice (some ⟨B, off, none⟩) len cap) (.list (if wd = 1 then ds.map fun d => [d] else chunk wd len ds)) := fun ds hc hlen => by
          obtain ⟨g1, g2⟩ := all hc
          have key : ∀ j e, ds[j]? = some e → ∃ u, w.cell? ⟨B, off + j, none⟩ = some u ∧ J B (2 * (off + j)) = some u ∧ Rep J u e := fun j e he => by
            have hlt : j < ((cells.drop off).take (len * wd)).length := by rw [← g1]; exact (List.getElem?_eq_some_iff.1 he).1
            have hq : ((cells.drop off).take (len * wd))[j]? = some ((cells.drop off).take (len * wd))[j] := List.getElem?_eq_getElem hlt
            have hq' := hq
            rw [List.getElem?_take] at hq'
            split at hq'
            · rw [List.getElem?_drop] at hq'
              obtain ⟨u, e1, rr⟩ := h3 (off + j) _ hq'
              exact ⟨u, e1, hJ.loc b t cells hb B sz t' h1 _ _ e1, g2 j u _ e hq he rr⟩
            · cases hq'
          have hch : (if wd = 1 then ds.map fun d => [d] else chunk wd len ds) = chunk wd len ds := by
            split
            · rename_i hw; subst hw; rw [chunk_one len ds (by omega)]
            · rfl
          rw [hch]
          obtain ⟨c1, c2, c3⟩ := chunk_spec len ds hlen
          have := Rep.slice (J := J) (b := B) (off := off) (cap := cap) (wd := wd) (xs := chunk wd len ds) (fun i j => (w.cell? ⟨B, off + i * wd + j, none⟩).getD undef) (by omega) f3 c2
            (fun i j hi hj => by
              have hi' : (chunk wd len ds)[i]? = some (chunk wd len ds)[i] := List.getElem?_eq_getElem hi
              have hj' : j < ((chunk wd len ds)[i]).length := by rw [c2 _ (List.getElem_mem hi)]; exact hj
              obtain ⟨u, e1, e2, e3⟩ := key (i * wd + j) _ (c3 i j _ _ hi' (List.getElem?_eq_getElem hj'))
              rw [← Nat.add_assoc] at e1 e2
              rw [e1]; exact e2)
            (fun i j q e hq he => by
              obtain ⟨u, e1, e2, e3⟩ := key (i * wd + j) e (c3 i j q e hq he)
              rw [← Nat.add_assoc] at e1
              rw [e1]; exact e3)
          rw [c1] at this
          exact this
        split at h
        · rename_i ds hds
          split at h
          · rename_i hl; cases h; exact fin ds (.inl hds) hl
          · cases h
        · split at h
          · rename_i ds hds
            split at h
            · rename_i hl; cases h; exact fin ds (.inr hds) hl
            · cases h
          · cases h
      · cases h
    | cnd g s => simp [snapD] at h

end Go.Bf

/-
  Views of what is known: renaming, forgetting. Nothing is claimed here.
-/
namespace Go.Bf
open Go Go.RowKit
variable {P : Program} {r : Option Nat}

/-- What is known as K may be seen as K'. -/
def Sub (K' K : Know) : Prop := ∀ x a w, Models x K a w → ∃ y, x.ext y ∧ Models y K' a w

theorem Sub.refl (K : Know) : Sub K K := fun x _ _ h => ⟨x, Ctx.ext_refl _, h⟩
theorem Sub.trans {A B C : Know} (h : Sub A B) (k : Sub B C) : Sub A C := fun x a w hm => by
  obtain ⟨y, h1, h2⟩ := k x a w hm
  obtain ⟨z, h3, h4⟩ := h y a w h2
  exact ⟨z, Ctx.ext_trans h1 h3, h4⟩
mutual
theorem SRep.ren {J : Imm} {β : Nat → Nam} {ρ : Nat → Nat} : ∀ (s : SV) {v : Value}, SRep J β v (s.ren ρ) → SRep J (fun b => β (ρ b)) v s
  | .d x, v, h => by rw [SV.ren] at h; cases h with | d h => exact .d h
  | .loc b off, v, h => by
    rw [SV.ren] at h
    cases h with
    | loc h => exact .loc h
    | locDead h => exact .locDead h
  | .own b wd off len c, v, h => by
    rw [SV.ren] at h
    cases h with
    | own h h1 h2 h3 h4 => exact .own h h1 h2 h3 h4
    | ownDead h => exact .ownDead h
  | .clip xs, v, h => by rw [SV.ren] at h; cases h with | clip h => exact .clip h
  | .agg cs, v, h => by
    rw [SV.ren] at h
    cases h with
    | agg hl hh => exact .agg (by rw [hl, renL_eq, List.length_map]) fun i v d hv hd => renL_rep cs i v d hd (hh i v _ hv (by rw [renL_eq, List.getElem?_map, hd]; rfl))
  | .clo f cs, v, h => by
    rw [SV.ren] at h
    cases h with
    | clo hl hh => exact .clo (by rw [hl, renL_eq, List.length_map]) fun i v d hv hd => renL_rep cs i v d hd (hh i v _ hv (by rw [renL_eq, List.getElem?_map, hd]; rfl))
  | .cnd g s, v, h => by
    rw [SV.ren] at h
    cases h with
    | cndT hg h => exact .cndT hg (SRep.ren s h)
    | cndF hg => exact .cndF hg
  | .mp b, v, h => by
    rw [SV.ren] at h
    cases h with
    | mp h => exact .mp h
    | mpDead h => exact .mpDead h
theorem renL_rep {J : Imm} {β : Nat → Nam} {ρ : Nat → Nat} : ∀ (cs : List SV) (i : Nat) (v : Value) (d : SV), cs[i]? = some d → SRep J β v (d.ren ρ) → SRep J (fun b => β (ρ b)) v d
  | [], i, v, d, h, _ => by simp at h
  | c :: cs, 0, v, d, h, hr => by simp at h; subst h; exact SRep.ren c hr
  | c :: cs, i + 1, v, d, h, hr => renL_rep cs i v d (by simpa using h) hr
end

def rho (nx : Nat) (ν : List Nat) (b : Nat) : Nat := match ν[b]? with
  | some c => c
  | none => nx + b

theorem rho_inj {nx : Nat} {ν : List Nat} (hnd : ν.Nodup) (hlt : ∀ b ∈ ν, b < nx) {a b : Nat} (h : rho nx ν a = rho nx ν b) : a = b := by
  unfold rho at h
  cases ha : ν[a]? with
  | none =>
    cases hb : ν[b]? with
    | none => simp only [ha, hb] at h; omega
    | some d => simp only [ha, hb] at h; have := hlt d (List.mem_of_getElem? hb); omega
  | some c =>
    cases hb : ν[b]? with
    | none => simp only [ha, hb] at h; have := hlt c (List.mem_of_getElem? ha); omega
    | some d =>
      simp only [ha, hb] at h
      subst h
      exact (List.getElem?_inj (List.getElem?_eq_some_iff.1 ha).1 hnd).1 (ha.trans hb.symm)

def lk : List (Nat × SV) → Nat → Option SV
  | [], _ => none
  | (j, s) :: r, i => if i = j then some s else lk r i

/-- What is known, written out. -/
def Know.of (n : Nat) (sl : List (Nat × SV)) (ml : List (TypeId × List SV)) (gh : Ghost := fun _ _ _ => True) (fro : List Nat := []) (b0 : Option (Nat × Imm) := none) : Know :=
  { slots := lk sl, mem := fun b => match ml[b]? with | some (t, cs) => .live t cs | none => .unborn, n := n, nx := ml.length, gh := gh, fro := fro, b0 := b0 }

def slotsOk (K : Know) (ρ : Nat → Nat) : List (Nat × SV) → Prop
  | [] => True
  | (i, s) :: l => K.slots i = some (s.ren ρ) ∧ slotsOk K ρ l
def memsOk (K : Know) (ρ : Nat → Nat) : Nat → List (TypeId × List SV) → Prop
  | _, [] => True
  | j, (t, cs) :: l => K.mem (ρ j) = .live t (renL ρ cs) ∧ memsOk K ρ (j + 1) l

theorem slotsOk_spec {K : Know} {ρ : Nat → Nat} : ∀ {l : List (Nat × SV)}, slotsOk K ρ l → ∀ i s, lk l i = some s → K.slots i = some (s.ren ρ)
  | [], _, i, s, h => by simp [lk] at h
  | (j, t) :: l, ⟨h1, h2⟩, i, s, h => by
    simp only [lk] at h
    split at h
    · rename_i e; cases h; rw [e]; exact h1
    · exact slotsOk_spec h2 i s h
theorem memsOk_spec {K : Know} {ρ : Nat → Nat} : ∀ {l : List (TypeId × List SV)} {j : Nat}, memsOk K ρ j l → ∀ i t cs, l[i]? = some (t, cs) → K.mem (ρ (j + i)) = .live t (renL ρ cs)
  | [], j, _, i, t, cs, h => by simp at h
  | (t0, c0) :: l, j, ⟨h1, h2⟩, 0, t, cs, h => by simp at h; obtain ⟨rfl, rfl⟩ := h; exact h1
  | (t0, c0) :: l, j, ⟨h1, h2⟩, i + 1, t, cs, h => by
    have := memsOk_spec h2 i t cs (by simpa using h)
    rw [← this]; congr 2; omega

/-- K may be seen as the knowledge written out: new name ↦ old name by ν. -/
structure ViewOk (K : Know) (n : Nat) (sl : List (Nat × SV)) (ml : List (TypeId × List SV)) (ν : List Nat) : Prop where
  n : n = K.n
  len : ν.length = ml.length
  nd : ν.Nodup
  lt : ∀ b ∈ ν, b < K.nx
  slots : slotsOk K (rho K.nx ν) sl
  mems : memsOk K (rho K.nx ν) 0 ml

theorem Sub.of {K : Know} {n : Nat} {sl : List (Nat × SV)} {ml : List (TypeId × List SV)} (ν : List Nat) (h : ViewOk K n sl ml ν) : Sub (Know.of n sl ml K.gh K.fro K.b0) K := fun x a w hm => by
  have hun : ∀ b, ml.length ≤ b → rho K.nx ν b = K.nx + b := fun b hb => by
    unfold rho
    rw [List.getElem?_eq_none (by rw [h.len]; exact hb)]
  refine ⟨{ x with β := fun b => x.β (rho K.nx ν b) }, ⟨fun _ _ _ h => h, rfl, rfl⟩, ⟨hm.fro, by rw [hm.size, ← h.n]; rfl, hm.defers, hm.below, hm.holds, hm.old, ?_, ?_, ?_, ?_, ?_, hm.one, ?_, ?_⟩⟩
  rotate_right
  · intro b es hb
    simp only [Know.of] at hb
    split at hb <;> cases hb
  · intro i s hs
    obtain ⟨v, e, rr⟩ := hm.slots i _ (slotsOk_spec h.slots i s hs)
    exact ⟨v, e, SRep.ren (β := x.β) (ρ := rho K.nx ν) s rr⟩
  · intro b hb
    simp only [Know.of] at hb
    split at hb
    · cases hb
    · rename_i hn
      have hle : ml.length ≤ b := List.getElem?_eq_none_iff.1 hn
      simp only [hun b hle]
      exact hm.unborn _ (hm.fresh _ (by omega))
  · intro b hb
    simp only [Know.of] at hb
    split at hb <;> cases hb
  · intro b t cells hb
    simp only [Know.of] at hb
    split at hb
    · rename_i t' cs hg
      cases hb
      have hmem := memsOk_spec h.mems b _ _ hg
      rw [Nat.zero_add] at hmem
      obtain ⟨B, vals, fr, h1, h2, h3, h4, h5, h6, h7, h8⟩ := (hm.live _ _ _ hmem).out
      refine ⟨B, vals, fr, h1, h2, h3, by simpa [renL_eq] using h4, fun o s hs => ?_, h6, h7, h8⟩
      obtain ⟨v, e, rr⟩ := h5 o (s.ren (rho K.nx ν)) (by rw [renL_eq, List.getElem?_map, hs]; rfl)
      exact ⟨v, e, SRep.ren (β := x.β) (ρ := rho K.nx ν) s rr⟩
    · cases hb
  · intro b b' B sz t sz' t' h1 h2
    exact rho_inj h.nd h.lt (hm.inj _ _ B sz t sz' t' h1 h2)
  · intro b hb
    simp only [Know.of]
    rw [List.getElem?_eq_none hb]

end Go.Bf

/-
  A function's contract out of its body. Nothing is claimed here.
-/
namespace Go.Bf
open Go Go.RowKit
variable {P : Program}

/-- Blocks of cells are as they were. -/
structure SameC (base : Nat) (oth : Nat → Prop) (w w' : World) : Prop where
  below : Below base w w'
  oth : ∀ k : Nat, oth k → w'.heap[k]? = w.heap[k]?
  cells : ∀ (B : Nat) c t f, w.heap[B]? = some (.cells c t f) → w'.heap[B]? = some (.cells c t f)
  maps : ∀ (B : Nat) ob, isMO ob = true → w.heap[B]? = some ob → w'.heap[B]? = some ob
  size : w'.heap.size = w.heap.size

theorem SameC.refl (base : Nat) (oth : Nat → Prop) (w : World) : SameC base oth w w := ⟨Below.refl _ _, fun _ _ => rfl, fun _ _ _ _ h => h, fun _ _ _ h => h, rfl⟩
theorem SameC.trans {base : Nat} {oth : Nat → Prop} {a b c : World} (h : SameC base oth a b) (k : SameC base oth b c) : SameC base oth a c :=
  ⟨h.below.trans k.below, fun i hi => (k.oth i hi).trans (h.oth i hi), fun B c t f e => k.cells B c t f (h.cells B c t f e), fun B ob hi e => k.maps B ob hi (h.maps B ob hi e), k.size.trans h.size⟩

theorem sameC_put {base : Nat} {oth : Nat → Prop} {w : World} {D : Nat} {ds : Option (List Deferred)} (h : w.heap[D]? = some (.deferred ds)) (hb : base ≤ D ∧ ¬ oth D) (ds' : Option (List Deferred)) : SameC base oth w (w.putObj D (.deferred ds')) := by
  refine ⟨⟨rfl, rfl, rfl, by simp, fun k hk => World.putObj_heap_other (by omega)⟩, fun k hk => World.putObj_heap_other (fun e => hb.2 (e ▸ hk)), fun B c t f e => ?_, fun B ob hi e => ?_, by simp⟩
  · have : B ≠ D := fun e2 => by subst e2; rw [h] at e; cases e
    exact (World.putObj_heap_other this).trans e
  · have : B ≠ D := fun e2 => by subst e2; rw [h] at e; cases e; cases hi
    exact (World.putObj_heap_other this).trans e

theorem SameC.cell {base : Nat} {oth : Nat → Prop} {w w' : World} (h : SameC base oth w w') {a : Addr} {v : Value} (hv : w.cell? a = some v) : w'.cell? a = some v := by
  unfold World.cell? at hv ⊢
  split at hv
  · rename_i c t f e
    rw [h.cells _ c t f e]; exact hv
  · cases hv

theorem SameC.vcell {base : Nat} {oth : Nat → Prop} {w w' : World} (h : SameC base oth w w') {b o : Nat} {v : Value} (hv : vc w b o = some v) : vc w' b o = some v := by
  unfold vc at hv ⊢
  split at hv
  · rename_i e; rw [h.cells _ _ _ _ e]; exact hv
  · rename_i e; rw [h.maps _ _ rfl e]; exact hv
  · cases hv
theorem one_any {J : Imm} (h : ∀ b o v, J b (2 * o) = some v → v.oneCell' = true) (b o : Nat) (v : Value) (hv : J b o = some v) : o % 2 = 1 ∨ v.oneCell' = true := by
  rcases Nat.mod_two_eq_zero_or_one o with h0 | h0
  · exact .inr (h b (o / 2) v (by rw [show 2 * (o / 2) = o by omega]; exact hv))
  · exact .inl h0

theorem Models.sameC {x : Ctx} {K : Know} {a : Act} {w w' : World} (hm : Models x K a w) (h : SameC x.w0.heap.size x.oth w w') : Models x K { a with defers := [] } w' where
  fro := hm.fro
  size := hm.size
  defers := trivial
  below := x.w0.up _ _ _ _ _ hm.below h.below h.oth (fun b o v hv => h.vcell (hm.holds b o v hv))
  holds := fun b o v hv => h.vcell (hm.holds b o v hv)
  old := hm.old
  slots := hm.slots
  unborn := hm.unborn
  dead := hm.dead
  live := fun b t cells hmem => by
    obtain ⟨B, vals, fr, g1, ⟨T, g2⟩, g3⟩ := (hm.live b t cells hmem).out
    exact ⟨B, vals, fr, g1, ⟨T, h.cells B vals T fr g2⟩, g3⟩
  inj := hm.inj
  one := hm.one
  fresh := hm.fresh
  maps := fun b es hmem => by
    obtain ⟨B, ob, g1, g2, g3⟩ := (hm.maps b es hmem).out
    exact ⟨B, ob, g1, h.maps B ob g3.1.is g2, g3⟩

theorem leaves_marks {fn : Func} {tmps : Array Value} {R : Ending → World → Prop} {u : FrameMode} {F : Fence} {n base : Nat} {oth : Nat → Prop} (hu : u ≠ .run) : ∀ (ds : List Deferred) (w : World), Marks w base oth ds →
    (∀ w', SameC base oth w w' → LeavesIn F n P fn tmps R [] u w') → LeavesInM F n P fn tmps R ds u w := by
  intro ds
  induction ds with
  | nil => intro w _ h; exact h w (SameC.refl _ _ _)
  | cons d ds ih =>
    intro w hmk h
    obtain ⟨⟨D, rfl, h2, h3, h4⟩, hrest⟩ := hmk
    refine ⟨hu, .inl ⟨D, w.putObj D (.deferred none), rfl, run_takeDeferred h2, ?_⟩⟩
    have hs := sameC_put h2 h3 none
    have key : ∀ (ds : List Deferred), (∀ d' ∈ ds, d'.target ≠ .collected D) → Marks w base oth ds → Marks (w.putObj D (.deferred none)) base oth ds := by
      intro ds
      induction ds with
      | nil => intro _ _; trivial
      | cons d ds ih' =>
        intro hne hmk
        obtain ⟨⟨D', rfl, k2, k3, k4⟩, hr⟩ := hmk
        have hDD : D' ≠ D := fun e => hne { target := .collected D', args := #[] } (by simp) (by simp [e])
        exact ⟨⟨D', rfl, (World.putObj_heap_other hDD).trans k2, k3, k4⟩, ih' (fun d' hd' => hne d' (by simp [hd'])) hr⟩
    exact ih _ (key ds h4 hrest) fun w' hw' => h w' (hs.trans hw')

def resS (P : Program) (K : Know) : ResultVar → R
  | .tmp t => rdK K true (.tmp t)
  | .cell t ty => match K.slots t with
    | some s => loadF P K.mem ty s
    | none => none

def resL (P : Program) (K : Know) : List ResultVar → Option (Prop × List DV)
  | [] => some (True, [])
  | rv :: rs => match resS P K rv, resL P K rs with
    | some (p, s), some (q, ds) => match snapD K.mem 6 s with
      | some d => some (p ∧ q, d :: ds)
      | none => none
    | _, _ => none

def retOf : List DV → DV
  | [d] => d
  | ds => .tup ds

/-- What is asked where a function's body is left by a return. -/
def RetPost (P : Program) (K : Know) (rv : List ResultVar) (Q : Out → Prop) : Prop :=
  (match resL P K rv with | some (p, ds) => p ∧ Q (.ret (retOf ds)) | none => False) ∨
  (match rv with
    | [r] => match resS P K r with | some (p, .clip xs) => p ∧ Q (.clip xs) | _ => False
    | _ => False) ∨
  (match rv with
    | [.tmp i] => ∃ s ml ν, ViewOk K K.n [(i, s)] ml ν ∧ Q (.fresh s ml)
    | _ => False)

/-- What is asked where a function's body is left. -/
def FnPost (P : Program) (rv : List ResultVar) (Q : Out → Prop) : XE → Know → Prop
  | .normal, K => RetPost P K rv Q
  | .ret, K => RetPost P K rv Q
  | .pan d, _ => Q (.pan d)
  | .exit _, _ => False

def resFn (tmps : Array Value) : ResultVar → Sem Value
  | .tmp t => pure (tmps.getD t undef)
  | .cell b t => do loadVar t (← asAddr (tmps.getD b undef))

theorem results_eq (fn : Func) (tmps : Array Value) : results fn tmps = (do let vs ← fn.results.mapM (resFn tmps); pure (if h : vs.size = 1 then vs[0] else .tuple vs)) := by
  unfold results
  have : (fun rv : ResultVar => (match rv with | .tmp t => pure (tmps.getD t undef) | .cell a t => do loadVar t (← asAddr (tmps.getD a undef)) : Sem Value)) = resFn tmps := by
    funext rv; cases rv <;> rfl
  rw [← this]
  rfl

theorem resS_sound {x : Ctx} {K : Know} {a : Act} {w : World} (hm : Models x K a w) {rv : ResultVar} {p : Prop} {s : SV} (h : resS P K rv = some (p, s)) (hp : p) :
    ∃ v, (resFn a.tmps rv).run P w = .ok v w ∧ SRep x.J x.β v s := by
  cases rv with
  | tmp t =>
    have := rdK_rep hm (o := .tmp t) h hp rfl
    exact ⟨_, rfl, this⟩
  | cell b t =>
    simp only [resS] at h
    split at h
    · rename_i s' hs
      obtain ⟨v, e, r⟩ := hm.slots b s' hs
      obtain ⟨u, e2, r2⟩ := loadF_sound (P := P) hm r h hp
      have hg : a.tmps.getD b undef = v := eval_tmp e
      refine ⟨u, ?_, r2⟩
      simp only [resFn, hg]
      cases v with
      | pointer ad =>
        cases ad with
        | none => simp [Instr.loadAt, Instr.sureAddr] at e2
        | some ad => simpa [Instr.loadAt, Instr.sureAddr, asAddr] using e2
      | _ => simp [Instr.loadAt, Instr.sureAddr] at e2
    · cases h

theorem resL_sound {x : Ctx} {K : Know} {a : Act} {w : World} (hm : Models x K a w) {J : Imm} (hJ : SnapJ x K w J) : ∀ (rvs : List ResultVar) (p : Prop) (ds : List DV), resL P K rvs = some (p, ds) → p →
    ∃ vs : List Value, (rvs.mapM (resFn a.tmps)).run P w = .ok vs w ∧ vs.length = ds.length ∧
      ∀ (i : Nat) v d, vs[i]? = some v → ds[i]? = some d → Rep J v d := by
  intro rvs
  induction rvs with
  | nil =>
    intro p ds h _
    simp only [resL, Option.some.injEq, Prod.mk.injEq] at h
    obtain ⟨rfl, rfl⟩ := h
    exact ⟨[], rfl, rfl, fun i v d h => by simp at h⟩
  | cons rv rvs ih =>
    intro p ds h hp
    simp only [resL] at h
    split at h
    · rename_i p1 s q1 ds1 h1 h2
      split at h
      · rename_i d hd
        simp only [Option.some.injEq, Prod.mk.injEq] at h
        obtain ⟨rfl, rfl⟩ := h
        obtain ⟨v, e1, r1⟩ := resS_sound hm h1 hp.1
        obtain ⟨vs, e2, g1, g2⟩ := ih q1 ds1 h2 hp.2
        refine ⟨v :: vs, ?_, by simp [g1], fun i u q hu hq => ?_⟩
        · simp only [List.mapM_cons, Sem.run_bind, e1, e2, Result.andThen_ok, Sem.run_pure]
        · cases i with
          | zero => simp at hu hq; subst hu; subst hq; exact snapD_rep hm hJ 6 s v d r1 hd
          | succ i => exact g2 i u q (by simpa using hu) (by simpa using hq)
      · cases h
    · cases h

def Know.start (n : Nat) (ds : List DV) : Know := { slots := fun i => (ds[i]?).map .d, mem := fun _ => .unborn, n := n, nx := 0 }

/-- **A function's contract out of its body.** -/
theorem FnWp.intro {f : FuncId} {fn : Func} {c : Code} {ds : List DV} {Q : Out → Prop} (hf : P.funcs[f]? = some fn) (hb : fn.body = some c) (hn : ds.length ≤ fn.ntmps)
    (h : DWp P none c (FnPost P fn.results.toList Q) (Know.start fn.ntmps ds)) : FnWp P f ds Q := by
  intro w J vs hJ hv
  refine callsIn_wide.1 (callsIn_of_wp_marks (F := Fence.wide) (n := 0) hf hb trivial ?_ rfl)
  let x : Ctx := { J := J, β := fun _ => .unborn, w0 := Base.plain w, J0 := J, oth := fun _ => False }
  have hm : Models x (Know.start fn.ntmps ds) { tmps := vs ++ Array.replicate (fn.ntmps - vs.size) undef, defers := [] } w := by
    refine ⟨⟨fun i hi => (by simp [Know.start] at hi), fun n J h => by cases h⟩, ?_, trivial, ⟨Below.refl _ _, fun _ h => h⟩, hJ.cell, fun _ _ _ => rfl, ?_, fun _ _ => rfl, fun b hb => (by simp [Know.start] at hb), fun b t cells hb => (by simp [Know.start] at hb), fun b b' B sz t sz' t' hb => (by cases hb), hJ.one, fun _ _ => rfl, fun b es hb => (by simp [Know.start] at hb)⟩
    · simp [Know.start]; have := hv.1; omega
    · intro i s hs
      simp only [Know.start, Option.map_eq_some_iff] at hs
      obtain ⟨d, hd, rfl⟩ := hs
      have hlt : i < vs.size := by rw [hv.1]; exact (List.getElem?_eq_some_iff.1 hd).1
      refine ⟨vs[i], ?_, .d (hv.2 i _ d (Array.getElem?_eq_getElem hlt) hd)⟩
      rw [Array.getElem?_append_left hlt]; exact Array.getElem?_eq_getElem hlt
  refine wpIn_mono (h x _ w hm) ?_
  rintro e a' w' ⟨y, K, xe, hxy, he, hm', hq⟩
  have hw0 : y.w0 = Base.plain w := hxy.w0
  have hJ0 : y.J0 = J := hxy.J0
  -- the end of the body, all local cells held immutable
  have fin : ∀ (w2 : World), SameC y.w0.heap.size y.oth w' w2 → ∃ J', Below w.heap.size w w2 ∧ (∀ b o v, J b o = some v → J' b o = some v) ∧ (∀ b o, b < w.heap.size → J' b o = J b o) ∧ Holds J' w2 ∧
      Models y K { a' with defers := [] } w2 ∧ SnapJ y K w2 J' := fun w2 hs => by
    have hm2 := hm'.sameC hs
    let J' : Imm := fun b o => if b < w.heap.size then y.J b o else match vc w2 b o with | some v => if o % 2 = 1 ∨ v.oneCell' = true then some v else none | none => none
    have hge : ∀ b o, ¬ b < w.heap.size → ∀ v, J' b o = some v ↔ vc w2 b o = some v ∧ (o % 2 = 1 ∨ v.oneCell' = true) := fun b o hb v => by
      simp only [J', if_neg hb]
      cases vc w2 b o with
      | none => simp
      | some u =>
        by_cases h1 : o % 2 = 1 ∨ u.oneCell' = true
        · show (if _ then _ else _) = _ ↔ _; rw [if_pos h1]; exact ⟨fun e => ⟨e, (Option.some.inj e) ▸ h1⟩, fun e => e.1⟩
        · show (if _ then _ else _) = _ ↔ _; rw [if_neg h1]; exact ⟨fun e => (by cases e), fun e => absurd ((Option.some.inj e.1) ▸ e.2) h1⟩
    have hlt : ∀ b o, b < w.heap.size → J' b o = y.J b o := fun b o hb => by simp only [J', if_pos hb]
    have hle : ∀ b o v, y.J b o = some v → J' b o = some v := fun b o v hv => by
      by_cases hb : b < w.heap.size
      · rw [hlt b o hb]; exact hv
      · exact (hge b o hb v).2 ⟨hm2.holds b o v hv, one_any hm2.one b o v hv⟩
    refine ⟨J', by have := hm2.below; rw [hw0] at this; exact this.1, fun b o v hv => hle b o v (hxy.J b o v hv), fun b o hb => ?_, ⟨fun b o v hv => ?_, fun b o v hv => ?_⟩, hm2, ⟨hle, fun b t cells hmem B sz t' hβ o v hv => ?_, fun b m hmem B sz t' hβ o v hv => ?_⟩⟩
    · rw [hlt b o hb, hm2.old b o (.inl (by rw [hw0]; exact hb)), hJ0]
    · by_cases hb : b < w.heap.size
      · rw [hlt b o hb] at hv; exact hm2.holds b o v hv
      · exact ((hge b o hb v).1 hv).1
    · by_cases hb : b < w.heap.size
      · rw [hlt b (2 * o) hb] at hv; exact hm2.one b o v hv
      · exact ((hge b (2 * o) hb v).1 hv).2.resolve_left (by omega)
    · obtain ⟨B2, vals2, fr2, g1, ⟨T, g2⟩, g3, g4, g5, g6, g7, g8⟩ := (hm2.live b t cells hmem).out
      rw [hβ] at g1; cases g1
      rw [hw0] at g7
      replace g7 : w.heap.size ≤ B := g7.1
      refine (hge B (2 * o) (by omega) v).2 ⟨by rw [vc_cell]; exact hv, .inr (g8 v ?_)⟩
      simp only [World.cell?, g2, Option.isSome_none, Bool.false_eq_true, if_false] at hv
      exact Array.mem_of_getElem? hv
    · obtain ⟨B2, ob, g1, g2, g4, g5, g7⟩ := (hm2.maps b m hmem).out
      rw [hβ] at g1; cases g1
      rw [hw0] at g7
      replace g7 : w.heap.size ≤ B := g7.1
      exact (hge B (2 * o + 1) (by omega) v).2 ⟨hv, .inl (by omega)⟩
  have leave0 : ∀ p dd, resL P K fn.results.toList = some (p, dd) → p → Q (.ret (retOf dd)) → LeavesInM Fence.wide 0 P fn a'.tmps (fun e w' => ∃ o J', Below w.heap.size w w' ∧ (∀ b o v, J b o = some v → J' b o = some v) ∧
      (∀ b o, b < w.heap.size → J' b o = J b o) ∧ Holds J' w' ∧ EndR w w' J' e o ∧ Q o) a'.defers .returning w' := fun p dd hres hp hQ => by
    refine leaves_marks (by simp) _ _ hm'.defers fun w2 hs => ?_
    obtain ⟨J', k1, k2, k3, k4, hm2, k6⟩ := fin w2 hs
    obtain ⟨us, e1, g1, g2⟩ := resL_sound hm2 k6 _ p dd hres hp
    refine ⟨if h : us.length = 1 then us[0] else .tuple us.toArray, ?_, .ret (retOf dd), J', k1, k2, k3, k4, ?_, hQ⟩
    · rw [results_eq, Sem.run_bind, Array.mapM_eq_mapM_toList, Sem.run_map]
      have e1' : (fn.results.toList.mapM (resFn a'.tmps)).run P w2 = .ok us w2 := e1
      rw [e1']
      simp only [Result.andThen_ok, Sem.run_pure, Result.ok.injEq, and_true]
      simp
    · match dd, us, g1, g2 with
      | [], [], _, _ => exact .tup rfl (fun i v d h => by simp at h)
      | [d], [u], _, g2 => exact g2 0 u d (by simp) (by simp)
      | d1 :: d2 :: dd, u1 :: u2 :: us, g1, g2 =>
        simp only [List.length_cons] at g1
        simp only [EndR, retOf, List.length_cons]
        rw [dif_neg (by omega)]
        exact .tup (by simp; omega) (fun i v d hv hd => g2 i v d (by simpa using hv) hd)
  have leave : RetPost P K fn.results.toList Q → LeavesInM Fence.wide 0 P fn a'.tmps (fun e w' => ∃ o J', Below w.heap.size w w' ∧ (∀ b o v, J b o = some v → J' b o = some v) ∧
      (∀ b o, b < w.heap.size → J' b o = J b o) ∧ Holds J' w' ∧ EndR w w' J' e o ∧ Q o) a'.defers .returning w' := fun hr => by
    rcases hr with hr | hr | hr
    · split at hr
      · rename_i p dd hres; exact leave0 p dd hres hr.1 hr.2
      · exact hr.elim
    · split at hr
      · rename_i r hrv
        split at hr
        · rename_i p xs hres
          refine leaves_marks (by simp) _ _ hm'.defers fun w2 hs => ?_
          obtain ⟨J', k1, k2, k3, k4, hm2, k6⟩ := fin w2 hs
          obtain ⟨v, e1, r1⟩ := resS_sound (a := { a' with defers := [] }) hm2 hres hr.1
          obtain ⟨a0, hva, hv⟩ := clip_inv r1
          refine ⟨v, ?_, .clip xs, J', k1, k2, k3, k4, ⟨hv.mono k6.le, _, _, hva⟩, hr.2⟩
          rw [results_eq, Sem.run_bind, Array.mapM_eq_mapM_toList, Sem.run_map, hrv]
          simp only [List.mapM_cons, List.mapM_nil, Sem.run_bind, e1, Result.andThen_ok, Sem.run_pure]
          simp
        · exact hr.elim
      · exact hr.elim
    · split at hr
      · rename_i i hrv
        obtain ⟨s, ml, ν, hview, hQ⟩ := hr
        refine leaves_marks (by simp) _ _ hm'.defers fun w2 hs => ?_
        have hm2 := hm'.sameC hs
        obtain ⟨z, hz, hm3⟩ := Sub.of ν hview y _ w2 hm2
        obtain ⟨v, e1, r1⟩ := hm3.slots i s (by simp [Know.of, lk])
        have hzw : z.w0 = Base.plain w := hz.w0.trans hw0
        refine ⟨v, ?_, .fresh s ml, z.J, by have := hm2.below; rw [hw0] at this; exact this.1, fun b o v hv => hz.J b o v (hxy.J b o v hv), fun b o hb => ?_, ⟨hm3.holds, hm3.one⟩, ⟨z.β, r1, fun j t cs hg => ?_, hm3.inj, fun j hj => hm3.unborn j ?_⟩, hQ⟩
        · rw [results_eq, Sem.run_bind, Array.mapM_eq_mapM_toList, Sem.run_map, hrv]
          have e2 : a'.tmps.getD i undef = v := eval_tmp (a := { a' with defers := [] }) e1
          simp only [List.mapM_cons, List.mapM_nil, Sem.run_bind, resFn, e2, Result.andThen_ok, Sem.run_pure]
          simp
        · rw [hm3.old b o (.inl (by rw [hzw]; exact hb)), hz.J0, hJ0]
        · obtain ⟨B, vals, fr, k1, k2, k3, k4, k5, k6, k7, k8⟩ := (hm3.live j t cs (by simp [Know.of, hg])).out
          exact ⟨B, vals, fr, k1, k2, k3, k4, k5, k6, by rw [hzw] at k7; exact ⟨k7.1, fun h => h⟩, k8⟩
        · simp [Know.of, List.getElem?_eq_none hj]
      · exact hr.elim
  cases e with
  | normal =>
    cases xe <;> first | exact he.elim | skip
    exact leave hq
  | ret =>
    cases xe <;> first | exact he.elim | skip
    exact leave hq
  | panic ch =>
    cases xe <;> first | exact he.elim | skip
    rename_i d
    refine leaves_marks (by simp) _ _ hm'.defers fun w2 hs => ?_
    obtain ⟨J', k1, k2, k3, k4, hm2, k6⟩ := fin w2 hs
    obtain ⟨v, rfl, hr⟩ := he
    exact ⟨.pan d, J', k1, k2, k3, k4, ⟨v, rfl, hr.mono k6.le⟩, hq⟩
  | exit id => cases xe <;> first | exact he.elim | exact hq.elim
  | goto l => cases xe <;> exact he.elim
  | outgrown => cases xe <;> exact he.elim

end Go.Bf

/-
  What the walk reckons by itself. Nothing is claimed here.
-/
namespace Go.Bf
open Go Go.RowKit

attribute [simp] dflt maxF maxL List.mapM_cons VCops guardG opClass quietF pickF pickV opX dstOk mkc rdS rdC conds rdK cval callF rdL
  opQ opP loadF fieldAddrF fieldF indexAddrF indexF intOf' boundF sliceF sliceListF binF arrEqF binInt isShift unF convF TK.conc TK.ok TK.conc' extractF lenF lenS rdO
  buildF rdParts fillS solid SV.cells allD allE uncl mkAgg litCells litF makeF z2s opM undefS lkLen opA opC opZ srcF hd1 rowsCells DV.one SV.one
  conds Op.operands Call.operands Know.put Know.newB Know.setB Bf.put okD lookF nilM mapEqF isNilMap lenM Know.newO toD toDs thenX blockX CondVC resS resL retOf snapD FnPost RetPost Know.start chunk allD_map allD_mapd ownCells

@[simp] theorem isKey_int (k k' : IntKind) (n : Int) : isKey (.int k) (.int k' n) = (k' = k) := rfl
@[simp] theorem isKey_str (s : List UInt8) : isKey .str (.str s) = True := rfl
@[simp] theorem isKey_bool (b : Bool) : isKey .bool (.bool b) = True := rfl
@[simp] theorem spl_one {α : Type} (cells : List α) (off : Nat) (c : α) : spl cells off [c] = cells.set off c := rfl
@[simp] theorem spl_two {α : Type} (cells : List α) (off : Nat) (a b : α) (l : List α) : spl cells off (a :: b :: l) = cells.take off ++ (a :: b :: l) ++ cells.drop (off + (l.length + 2)) := rfl

@[simp] theorem inK_i64 (n : Int) : InK .i64 n ↔ -9223372036854775808 ≤ n ∧ n ≤ 9223372036854775807 := by
  simp [InK, IntKind.min, IntKind.max, IntKind.signed, IntKind.bits]
@[simp] theorem inK_i32 (n : Int) : InK .i32 n ↔ -2147483648 ≤ n ∧ n ≤ 2147483647 := by
  simp [InK, IntKind.min, IntKind.max, IntKind.signed, IntKind.bits]
@[simp] theorem inK_u8 (n : Int) : InK .u8 n ↔ 0 ≤ n ∧ n ≤ 255 := by
  simp [InK, IntKind.min, IntKind.max, IntKind.signed, IntKind.bits]
@[simp] theorem inK_u16 (n : Int) : InK .u16 n ↔ 0 ≤ n ∧ n ≤ 65535 := by
  simp [InK, IntKind.min, IntKind.max, IntKind.signed, IntKind.bits]
@[simp] theorem inK_u32 (n : Int) : InK .u32 n ↔ 0 ≤ n ∧ n ≤ 4294967295 := by
  simp [InK, IntKind.min, IntKind.max, IntKind.signed, IntKind.bits]
@[simp] theorem inK_u64 (n : Int) : InK .u64 n ↔ 0 ≤ n ∧ n ≤ 18446744073709551615 := by
  simp [InK, IntKind.min, IntKind.max, IntKind.signed, IntKind.bits]

theorem DWp.regionV {P : Program} {r : Option Nat} {id : Nat} {ops : Array Oper} {Q : XE → Know → Prop} {K : Know} (im : Bool) (h : VCops P r im ops Q ops.toList K) : DWp P r (.region id ops false) Q K :=
  DWp.region (VCops_sound _ _ h)

end Go.Bf

/-
  Views of what is known: renaming, forgetting, freezing; loops; calls that borrow. Nothing is claimed here.
-/
namespace Go.Bf
open Go Go.RowKit
variable {P : Program} {r : Option Nat}

theorem DWp.sub {c : Code} {Q : XE → Know → Prop} {K K' : Know} (hs : Sub K' K) (h : DWp P r c Q K') : DWp P r c Q K := fun x a w hm => by
  obtain ⟨y, h1, h2⟩ := hs x a w hm
  exact wpIn_mono (h y a w h2) fun _ _ _ => Post.ext h1
theorem OpsWp.sub {ops : Array Oper} {l : List Oper} {Q : XE → Know → Prop} {K K' : Know} (hs : Sub K' K) (h : OpsWp P r ops Q l K') : OpsWp P r ops Q l K := fun x a w hm => by
  obtain ⟨y, h1, h2⟩ := hs x a w hm
  exact opsL_ext h1 _ _ _ (h y a w h2)

/-! ### Names -/
theorem renL_mapd {α : Type} (ρ : Nat → Nat) (f : α → DV) (l : List α) : renL ρ (l.map fun c => .d (f c)) = l.map fun c => .d (f c) := by
  rw [renL_eq, List.map_map]
  exact List.map_congr_left fun c _ => by simp [SV.ren]
theorem renL_append (ρ : Nat → Nat) (a b : List SV) : renL ρ (a ++ b) = renL ρ a ++ renL ρ b := by simp [renL_eq]
theorem renL_replicate (ρ : Nat → Nat) (n : Nat) (s : SV) : renL ρ (List.replicate n s) = List.replicate n (s.ren ρ) := by simp [renL_eq]

/-! ### Freezing -/
mutual
def SV.frz (b : Nat) (ds : List DV) : SV → SV
  | .d x => .d x
  | .loc b' off => if b' = b then .d (.ptr (ds.drop off)) else .loc b' off
  | .own b' wd off len c => if b' = b ∧ off + len * wd ≤ ds.length then .d (.list (if wd = 1 then ((ds.drop off).take len).map fun d => [d] else chunk wd len ((ds.drop off).take (len * wd)))) else .own b' wd off len c
  | .clip xs => .clip xs
  | .agg cs => mkAgg (frzL b ds cs)
  | .clo f cs => match allD (frzL b ds cs) with
    | some es => .d (.fn f es)
    | none => .clo f (frzL b ds cs)
  | .cnd g s => .cnd g (s.frz b ds)
  | .mp b' => .mp b'
def frzL (b : Nat) (ds : List DV) : List SV → List SV
  | [] => []
  | c :: cs => c.frz b ds :: frzL b ds cs
end
theorem frzL_eq (b : Nat) (ds : List DV) : ∀ cs : List SV, frzL b ds cs = cs.map (SV.frz b ds)
  | [] => by simp [frzL]
  | c :: cs => by simp [frzL, frzL_eq b ds cs]
theorem frzL_mapd {α : Type} (b : Nat) (ds : List DV) (f : α → DV) (l : List α) : frzL b ds (l.map fun c => .d (f c)) = l.map fun c => .d (f c) := by
  rw [frzL_eq, List.map_map]
  exact List.map_congr_left fun c _ => by simp [SV.frz]

structure FrzC (x y : Ctx) (b B : Nat) (ds : List DV) : Prop where
  J : ∀ b o v, x.J b o = some v → y.J b o = some v
  live : ∃ sz t, x.β b = .live B sz t
  β : y.β = Bf.put x.β b .dead
  cells : ∀ (o : Nat) d, ds[o]? = some d → ∃ u, y.J B (2 * o) = some u ∧ Rep y.J u d

mutual
theorem SRep.frz {x y : Ctx} {b B : Nat} {ds : List DV} (hf : FrzC x y b B ds) : ∀ (s : SV) {v : Value}, SRep x.J x.β v s → SRep y.J y.β v (s.frz b ds)
  | .d z, v, h => by rw [SV.frz]; exact .d ((d_inv h).mono hf.J)
  | .loc b' off, v, h => by
    rw [SV.frz]
    obtain ⟨sz, t, hl⟩ := hf.live
    split
    · rename_i e
      subst e
      obtain rfl := loc_inv h hl
      refine .d (.ptr (fun j => (y.J B (2 * (off + j))).getD undef) (fun j hj => ?_) (fun j d hd => ?_))
      · obtain ⟨u, e1, _⟩ := hf.cells (off + j) _ (by rw [← List.getElem?_drop]; exact List.getElem?_eq_getElem hj)
        rw [e1]; rfl
      · rw [List.getElem?_drop] at hd
        obtain ⟨u, e1, e2⟩ := hf.cells _ d hd
        rw [e1]; exact e2
    · rename_i e
      have hb : y.β b' = x.β b' := by rw [hf.β, Bf.put, if_neg e]
      cases h with
      | loc h => exact .loc (hb.trans h)
      | locDead h => exact .locDead (hb.trans h)
  | .own b' wd off len c, v, h => by
    rw [SV.frz]
    obtain ⟨sz, t, hl⟩ := hf.live
    split
    · rename_i e
      obtain ⟨rfl, hle⟩ := e
      obtain ⟨cap, rfl, f1, f2, f3, _⟩ := own_inv h hl
      have hch : (if wd = 1 then ((ds.drop off).take len).map fun d => [d] else chunk wd len ((ds.drop off).take (len * wd))) = chunk wd len ((ds.drop off).take (len * wd)) := by
        split
        · rename_i hw; subst hw; rw [Nat.mul_one, chunk_one len _ (by simp; omega)]
        · rfl
      rw [hch]
      have hlen : ((ds.drop off).take (len * wd)).length = len * wd := by simp; omega
      obtain ⟨c1, c2, c3⟩ := chunk_spec len _ hlen
      have key : ∀ j e, ((ds.drop off).take (len * wd))[j]? = some e → ∃ u, y.J B (2 * (off + j)) = some u ∧ Rep y.J u e := fun j e he => by
        rw [List.getElem?_take] at he
        split at he
        · rw [List.getElem?_drop] at he; exact hf.cells _ e he
        · cases he
      have := Rep.slice (J := y.J) (b := B) (off := off) (cap := cap) (wd := wd) (xs := chunk wd len ((ds.drop off).take (len * wd))) (fun i j => (y.J B (2 * (off + i * wd + j))).getD undef) (by omega) f3 c2
        (fun i j hi hj => by
          have hi' : (chunk wd len ((ds.drop off).take (len * wd)))[i]? = some (chunk wd len ((ds.drop off).take (len * wd)))[i] := List.getElem?_eq_getElem hi
          have hj' : j < ((chunk wd len ((ds.drop off).take (len * wd)))[i]).length := by rw [c2 _ (List.getElem_mem hi)]; exact hj
          obtain ⟨u, e1, _⟩ := key (i * wd + j) _ (c3 i j _ _ hi' (List.getElem?_eq_getElem hj'))
          rw [← Nat.add_assoc] at e1
          rw [e1]; rfl)
        (fun i j q e hq he => by
          obtain ⟨u, e1, e2⟩ := key (i * wd + j) e (c3 i j q e hq he)
          rw [← Nat.add_assoc] at e1
          rw [e1]; exact e2)
      rw [c1] at this
      exact .d this
    · rename_i e
      by_cases hbb : b' = b
      · subst hbb
        exact .ownDead (by rw [hf.β, Bf.put, if_pos rfl])
      · have hb : y.β b' = x.β b' := by rw [hf.β, Bf.put, if_neg hbb]
        cases h with
        | own h h1 h2 h3 h4 => exact .own (hb.trans h) h1 h2 h3 h4
        | ownDead h => exact .ownDead (hb.trans h)
  | .clip xs, v, h => by rw [SV.frz]; cases h with | clip h => exact .clip (h.mono hf.J)
  | .agg cs, v, h => by
    rw [SV.frz]
    cases h with
    | agg hl hh =>
      refine SRep.of_mkAgg (by rw [hl, frzL_eq, List.length_map]) fun i v d hv hd => ?_
      rw [frzL_eq, List.getElem?_map, Option.map_eq_some_iff] at hd
      obtain ⟨d0, h0, rfl⟩ := hd
      exact frzL_rep hf cs i v d0 h0 (hh i v d0 hv h0)
  | .clo f cs, v, h => by
    rw [SV.frz]
    cases h with
    | clo hl hh =>
      have all : ∀ (i : Nat) v d, _ → (frzL b ds cs)[i]? = some d → SRep y.J y.β v d := fun i v d (hv : _[i]? = some v) hd => by
        rw [frzL_eq, List.getElem?_map, Option.map_eq_some_iff] at hd
        obtain ⟨d0, h0, rfl⟩ := hd
        exact frzL_rep hf cs i v d0 h0 (hh i v d0 hv h0)
      split
      · rename_i es hes
        obtain ⟨g1, g2⟩ := allD_get hes
        refine .d (.fn (by rw [hl, g1, frzL_eq, List.length_map]) fun i v d hv hd => d_inv (all i v (.d d) hv (g2 i d hd)))
      · exact .clo (by rw [hl, frzL_eq, List.length_map]) all
  | .cnd g s, v, h => by
    rw [SV.frz]
    cases h with
    | cndT hg h => exact .cndT hg (SRep.frz hf s h)
    | cndF hg => exact .cndF hg
  | .mp b', v, h => by
    rw [SV.frz]
    by_cases e : b' = b
    · subst e; exact .mpDead (by rw [hf.β]; simp [Bf.put])
    · cases h with
      | mp h => exact .mp (by rw [hf.β]; simp only [Bf.put, if_neg e]; exact h)
      | mpDead h => exact .mpDead (by rw [hf.β]; simp only [Bf.put, if_neg e]; exact h)
theorem frzL_rep {x y : Ctx} {b B : Nat} {ds : List DV} (hf : FrzC x y b B ds) : ∀ (cs : List SV) (i : Nat) (v : Value) (d : SV), cs[i]? = some d → SRep x.J x.β v d → SRep y.J y.β v (d.frz b ds)
  | [], i, v, d, h, _ => by simp at h
  | c :: cs, 0, v, d, h, hr => by simp at h; subst h; exact SRep.frz hf c hr
  | c :: cs, i + 1, v, d, h, hr => frzL_rep hf cs i v d (by simpa using h) hr
end

def MO.frz (b : Nat) (ds : List DV) : MO → MO
  | .map es => .map (es.map fun q => (q.1, q.2.frz b ds))
  | .iter l => .iter l
attribute [simp] MO.frz
def Know.frz (K : Know) (b : Nat) (ds : List DV) : Know :=
  { slots := fun i => (K.slots i).map (SV.frz b ds), mem := fun b' => if b' = b then .dead else match K.mem b' with | .live t cs => .live t (frzL b ds cs) | .mp o => .mp (o.frz b ds) | m => m, n := K.n, nx := K.nx, gh := K.gh, fro := K.fro, b0 := K.b0 }

theorem Sub.freeze {K : Know} (b : Nat) {t : TypeId} {cells : List SV} {ds : List DV} (hmem : K.mem b = .live t cells) (hds : allD cells = some ds) : Sub (K.frz b ds) K := fun x a w hm => by
  obtain ⟨B, vals, fr, h1, ⟨T, h2⟩, h3, h4, h5, h6, h7, h8⟩ := (hm.live b t cells hmem).out
  let y : Ctx := { x with J := fun b' o => if b' = B then (if o % 2 = 0 then vals[o / 2]? else none) else x.J b' o, β := Bf.put x.β b .dead }
  have hJ : ∀ b o v, x.J b o = some v → y.J b o = some v := fun b' o v hv => by
    have : b' ≠ B := fun e => by subst e; rw [h6] at hv; cases hv
    simp only [y, if_neg this]; exact hv
  obtain ⟨g1, g2⟩ := allD_get hds
  have hf : FrzC x y b B ds := ⟨hJ, ⟨_, _, h1⟩, rfl, fun o d hd => by
    obtain ⟨v, e, rr⟩ := h5 o _ (g2 o d hd)
    exact ⟨v, by simp only [y, if_true, Nat.mul_mod_right, Nat.mul_div_cancel_left o (show 0 < 2 by omega)]; exact e, (d_inv rr).mono hJ⟩⟩
  have hholds : ∀ b o v, y.J b o = some v → vc w b o = some v := by
    intro b' o v hv
    simp only [y] at hv
    split at hv
    · rename_i e; subst e; simp only [vc, h2]; exact hv
    · exact hm.holds b' o v hv
  refine ⟨y, ⟨hJ, rfl, rfl⟩, ⟨hm.fro, hm.size, hm.defers, x.w0.moreJ _ _ _ _ _ hm.below hJ hholds, hholds, ?_, ?_, ?_, ?_, ?_, ?_, ?_, ?_, ?_⟩⟩
  · intro b' o hlt
    have hlt' : b' < x.w0.heap.size ∨ x.oth b' := hlt
    have : b' ≠ B := fun e => by
      subst e
      rcases hlt' with h | h
      · have := h7.1; omega
      · exact h7.2 h
    simp only [y, if_neg this]; exact hm.old b' o hlt'
  · intro i s hs
    simp only [Know.frz, Option.map_eq_some_iff] at hs
    obtain ⟨s0, hs0, rfl⟩ := hs
    obtain ⟨v, e, rr⟩ := hm.slots i s0 hs0
    exact ⟨v, e, SRep.frz hf s0 rr⟩
  · intro b' hb
    simp only [Know.frz] at hb
    split at hb
    · cases hb
    · rename_i e
      simp only [y, Bf.put, if_neg e]
      refine hm.unborn b' ?_
      split at hb <;> simp_all
  · intro b' hb
    simp only [Know.frz] at hb
    split at hb
    · rename_i e; subst e; simp [y, Bf.put]
    · rename_i e
      simp only [y, Bf.put, if_neg e]
      refine hm.dead b' ?_
      split at hb <;> simp_all
  · intro b' t' cells' hb
    simp only [Know.frz] at hb
    split at hb
    · cases hb
    · rename_i e
      split at hb
      · rename_i t0 cs0 hm0
        cases hb
        obtain ⟨B', vals', fr', k1, k2, k3, k4, k5, k6, k7, k8⟩ := (hm.live b' _ cs0 hm0).out
        have hBB : B' ≠ B := fun e2 => by subst e2; exact e (hm.inj b' b _ _ _ _ _ k1 h1)
        refine ⟨B', vals', fr', by simp only [y, Bf.put, if_neg e]; exact k1, k2, k3, by simpa [frzL_eq] using k4, fun o s hs => ?_, fun o => by simp only [y, if_neg hBB]; exact k6 o, k7, k8⟩
        rw [frzL_eq, List.getElem?_map, Option.map_eq_some_iff] at hs
        obtain ⟨s0, hs0, rfl⟩ := hs
        obtain ⟨v, e1, rr⟩ := k5 o s0 hs0
        exact ⟨v, e1, SRep.frz hf s0 rr⟩
      · cases hb
      · rename_i n1 n2; exact absurd hb (n1 _ _)
  · intro b1 b2 B1 sz t1 sz' t2 e1 e2
    simp only [y, Bf.put] at e1 e2
    split at e1 <;> split at e2 <;> first | (cases e1; done) | (cases e2; done) | exact hm.inj _ _ _ _ _ _ _ e1 e2
  · intro b' o v hv
    simp only [y] at hv
    split at hv
    · simp only [Nat.mul_mod_right, if_true] at hv
      exact h8 v (Array.mem_of_getElem? hv)
    · exact hm.one b' o v hv
  · intro b' hb
    have hne : b' ≠ b := fun e => by subst e; have := hm.fresh b' hb; rw [hmem] at this; cases this
    simp only [Know.frz, if_neg hne, hm.fresh b' hb]
  · intro b' es hb
    simp only [Know.frz] at hb
    split at hb
    · cases hb
    · rename_i e
      split at hb
      · cases hb
      · rename_i es0 hm0
        cases hb
        obtain ⟨B', ob, k1, k2, k4, k5, k6⟩ := (hm.maps b' _ hm0).out
        have hBB : B' ≠ B := fun e2 => by subst e2; exact e (hm.inj b' b _ _ _ _ _ k1 h1)
        refine ⟨B', ob, by simp only [y, Bf.put, if_neg e]; exact k1, k2, ?_, fun o => by simp only [y, if_neg hBB]; exact k5 o, k6⟩
        have := k4.mono' hJ (f := SV.frz b ds) (fun _ s h => SRep.frz hf s h)
        cases es0 <;> exact this
      · simp_all

/-- What is handed over may be held immutable. -/
theorem FnWp.frozen {f : FuncId} {ds es : List DV} {s : SV} {t : TypeId} {cells : List SV} {d : DV} (h : FnWp P f ds (· = .fresh s [(t, cells)])) (ha : allD cells = some es) (hd : s.frz 0 es = .d d) : FnWp P f ds (· = .ret d) := fun w J vs hJ hv => by
  refine (h w J vs hJ hv).mono ?_
  rintro e w' ⟨o, J', hb, hJ', hold, hH, he, rfl⟩
  cases e with
  | returned v =>
    obtain ⟨β, h1, h2, h3, h4⟩ := he
    obtain ⟨B, vals, fr, g1, ⟨T, g2⟩, g3, g4, g5, g6, g7, g8⟩ := (h2 0 t cells rfl).out
    simp only at g1 g5 g6 g7
    replace g7 : w.heap.size ≤ B := g7.1
    let x : Ctx := ⟨J', β, Base.plain w, J', fun _ => False⟩
    let y : Ctx := ⟨fun b o => if b = B then (if o % 2 = 0 then vals[o / 2]? else none) else J' b o, Bf.put β 0 .dead, Base.plain w, J', fun _ => False⟩
    have hle : ∀ b o v, J' b o = some v → y.J b o = some v := fun b o v hv => by
      have : b ≠ B := fun e => by subst e; rw [g6] at hv; cases hv
      simp only [y, if_neg this]; exact hv
    obtain ⟨a1, a2⟩ := allD_get ha
    have hf : FrzC x y 0 B es := ⟨hle, ⟨_, _, g1⟩, rfl, fun o d hd => by
      obtain ⟨u, e1, e2⟩ := g5 o _ (a2 o d hd)
      exact ⟨u, by simp only [y, if_true, Nat.mul_mod_right, Nat.mul_div_cancel_left o (show 0 < 2 by omega)]; exact e1, (d_inv e2).mono hle⟩⟩
    have hr := SRep.frz hf s h1
    rw [hd] at hr
    refine ⟨.ret d, y.J, hb, fun b o v hv => hle b o v (hJ' b o v hv), fun b o hlt => ?_, ⟨fun b o v hv => ?_, fun b o v hv => ?_⟩, d_inv hr, rfl⟩
    · have : b ≠ B := by omega
      simp only [y, if_neg this]; exact hold b o hlt
    · simp only [y] at hv
      split at hv
      · rename_i e; subst e; simp only [vc, g2]; exact hv
      · exact hH.cell b o v hv
    · simp only [y] at hv
      split at hv
      · simp only [Nat.mul_mod_right, if_true] at hv
        exact g8 v (Array.mem_of_getElem? hv)
      · exact hH.one b o v hv
  | panicked ch => exact he.elim
  | outgrown => exact he.elim

/-! ### Loops -/
theorem DWp.loop {σ : Type} (S : σ → Know) (Iv : σ → Prop) (μ : σ → Nat) (s0 : σ) {c : Code} {Q : XE → Know → Prop} {K : Know} (hs : Sub (S s0) K) (h0 : Iv s0)
    (hr : ∀ s, Iv s → DWp P r c (thenX (fun K' => ∃ s', Iv s' ∧ μ s' < μ s ∧ Sub (S s') K') Q) (S s)) : DWp P r (.loop c) Q K := fun x a w hm => by
  refine wpIn_loop_ghost (fun n a w => ∃ s y, μ s = n ∧ Iv s ∧ x.ext y ∧ Models y (S s) a w) (μ s0) ?_ ?_
  · obtain ⟨y, h1, h2⟩ := hs x a w hm
    exact ⟨s0, y, rfl, h0, h1, h2⟩
  · rintro n a w ⟨s, y, rfl, hi, hxy, hm⟩
    refine wpIn_mono (hr s hi y a w hm) ?_
    rintro e a' w' ⟨z, K', xe, h1, h2, h3, h4⟩
    cases e with
    | normal =>
      cases xe <;> first | exact h2.elim | skip
      obtain ⟨s', k1, k2, k3⟩ := h4
      obtain ⟨z', k4, k5⟩ := k3 z a' w' h3
      exact ⟨μ s', k2, s', z', rfl, k1, Ctx.ext_trans hxy (Ctx.ext_trans h1 k4), k5⟩
    | exit id => cases xe <;> first | exact h2.elim | exact ⟨z, K', _, Ctx.ext_trans hxy h1, h2, h3, h4⟩
    | goto l => cases xe <;> exact h2.elim
    | ret => cases xe <;> first | exact h2.elim | exact ⟨z, K', _, Ctx.ext_trans hxy h1, h2, h3, h4⟩
    | panic ch => cases xe <;> first | exact h2.elim | exact ⟨z, K', _, Ctx.ext_trans hxy h1, h2, h3, h4⟩
    | outgrown => cases xe <;> exact h2.elim

/-! ### Calls that borrow -/
def DV.flat1 : DV → Bool
  | .int _ _ | .bool _ | .str _ => true
  | _ => false
def DV.flat : DV → Bool
  | .tup ds => ds.all DV.flat1
  | .agg ds => ds.all DV.flat1
  | d => d.flat1

theorem Rep.flat1 {J J' : Imm} {v : Value} {d : DV} (h : Rep J v d) (hf : d.flat1 = true) : Rep J' v d := by
  cases h <;> first | (cases hf; done) | constructor
  all_goals assumption
theorem Rep.flat {J J' : Imm} {v : Value} {d : DV} (h : Rep J v d) (hf : d.flat = true) : Rep J' v d := by
  cases h with
  | tup hl hh =>
    refine .tup hl fun i v d hv hd => (hh i v d hv hd).flat1 ?_
    simp only [DV.flat, List.all_eq_true] at hf
    exact hf d (List.mem_of_getElem? hd)
  | agg hl hh =>
    refine .agg hl fun i v d hv hd => (hh i v d hv hd).flat1 ?_
    simp only [DV.flat, List.all_eq_true] at hf
    exact hf d (List.mem_of_getElem? hd)
  | int h => exact .int h
  | bool => exact .bool
  | str h => exact .str h
  | _ => cases hf

def snapL (mem : Mem) : List SV → Option (List DV)
  | [] => some []
  | s :: ss => match snapD mem 6 s, snapL mem ss with
    | some d, some ds => some (d :: ds)
    | _, _ => none

theorem snapL_rep {x : Ctx} {K : Know} {a : Act} {w : World} (hm : Models x K a w) {J : Imm} (hJ : SnapJ x K w J) : ∀ {ss : List SV} {ds : List DV} {vs : List Value}, snapL K.mem ss = some ds → ArrR x.J x.β vs.toArray ss → RepL J vs.toArray ds := by
  intro ss
  induction ss with
  | nil =>
    intro ds vs h hr
    simp only [snapL, Option.some.injEq] at h
    subst h
    exact ⟨by simpa using hr.1, fun i v d hv hd => by simp at hd⟩
  | cons s ss ih =>
    intro ds vs h hr
    cases vs with
    | nil => obtain ⟨t1, _⟩ := hr; simp at t1
    | cons v vs =>
      simp only [snapL] at h
      split at h
      · rename_i d ds' h1 h2
        cases h
        have htail : ArrR x.J x.β vs.toArray ss := ⟨by obtain ⟨t1, _⟩ := hr; simpa using t1, fun i u q hu hq => hr.2 (i + 1) u q (by simpa using hu) (by simpa using hq)⟩
        obtain ⟨t1, t2⟩ := ih h2 htail
        refine ⟨by simpa using t1, fun i u q hu hq => ?_⟩
        cases i with
        | zero => simp at hu hq; subst hu; subst hq; exact snapD_rep hm hJ 6 s _ _ (hr.2 0 v s (by simp) (by simp)) h1
        | succ i => exact t2 i u q (by simpa using hu) (by simpa using hq)
      · cases h

/-- **A contract serves at a call that lends local memory, where what is handed back holds no memory.** -/
theorem CallS.borrow {f : FuncId} {ss : List SV} {ds : List DV} {K : Know} {Q : Out → Prop} {k : OutS → Know → Prop} (hd : snapL K.mem ss = some ds) (h : FnWp P f ds Q)
    (hk : ∀ o, Q o → match o with | .ret d => d.flat = true ∧ k (.ret (.d d)) K | .clip _ => False | .fresh _ _ => False | .pan d => d.flat = true ∧ k (.pan d) K) : CallS P f ss K k := by
  intro x a w vs hm hr
  obtain ⟨vs⟩ := vs
  let J' : Imm := fun b o => if b < x.w0.heap.size then x.J b o else match vc w b o with | some v => if o % 2 = 1 ∨ v.oneCell' = true then some v else none | none => none
  have hge : ∀ b o, ¬ b < x.w0.heap.size → ∀ v, J' b o = some v ↔ vc w b o = some v ∧ (o % 2 = 1 ∨ v.oneCell' = true) := fun b o hb v => by
    simp only [J', if_neg hb]
    cases vc w b o with
    | none => simp
    | some u =>
      by_cases h1 : o % 2 = 1 ∨ u.oneCell' = true
      · show (if _ then _ else _) = _ ↔ _; rw [if_pos h1]; exact ⟨fun e => ⟨e, (Option.some.inj e) ▸ h1⟩, fun e => e.1⟩
      · show (if _ then _ else _) = _ ↔ _; rw [if_neg h1]; exact ⟨fun e => (by cases e), fun e => absurd ((Option.some.inj e.1) ▸ e.2) h1⟩
  have hlt : ∀ b o, b < x.w0.heap.size → J' b o = x.J b o := fun b o hb => by simp only [J', if_pos hb]
  have hle : ∀ b o v, x.J b o = some v → J' b o = some v := fun b o v hv => by
    by_cases hb : b < x.w0.heap.size
    · rw [hlt b o hb]; exact hv
    · exact (hge b o hb v).2 ⟨hm.holds b o v hv, one_any hm.one b o v hv⟩
  have hH : Holds J' w := ⟨fun b o v hv => by
    by_cases hb : b < x.w0.heap.size
    · rw [hlt b o hb] at hv; exact hm.holds b o v hv
    · exact ((hge b o hb v).1 hv).1, fun b o v hv => by
    by_cases hb : b < x.w0.heap.size
    · rw [hlt b (2 * o) hb] at hv; exact hm.one b o v hv
    · exact ((hge b (2 * o) hb v).1 hv).2.resolve_left (by omega)⟩
  have hS : SnapJ x K w J' := ⟨hle, fun b t cells hmem B sz t' hβ o v hv => by
    obtain ⟨B2, vals2, fr2, g1, ⟨T, g2⟩, g3, g4, g5, g6, g7, g8⟩ := (hm.live b t cells hmem).out
    rw [hβ] at g1; cases g1
    refine (hge B (2 * o) (by omega) v).2 ⟨by rw [vc_cell]; exact hv, .inr (g8 v ?_)⟩
    simp only [World.cell?, g2, Option.isSome_none, Bool.false_eq_true, if_false] at hv
    exact Array.mem_of_getElem? hv, fun b m hmem B sz t' hβ o v hv => by
    obtain ⟨B2, ob, g1, g2, g4, g5, g7⟩ := (hm.maps b m hmem).out
    rw [hβ] at g1; cases g1
    exact (hge B (2 * o + 1) (by omega) v).2 ⟨hv, .inl (by omega)⟩⟩
  refine (h w J' vs.toArray hH (snapL_rep hm hS hd hr)).mono ?_
  rintro e w' ⟨o, J'', hb, hJ, hold, hH', he, hq⟩
  have hm1 := hm.grow hb
  have := hk o hq
  cases e with
  | returned v =>
    cases o with
    | ret d => exact ⟨x, K, .ret (.d d), Ctx.ext_refl _, hm1, .d (Rep.flat (J' := x.J) he this.1), this.2⟩
    | clip xs => exact this.elim
    | fresh s ml => exact this.elim
    | pan d => exact he.elim
  | panicked ch =>
    cases o with
    | ret d => exact he.elim
    | clip xs => exact he.elim
    | fresh s ml => exact he.elim
    | pan d => obtain ⟨v, rfl, hv⟩ := he; exact ⟨x, K, .pan d, Ctx.ext_refl _, hm1, ⟨v, rfl, hv.flat this.1⟩, this.2⟩
  | outgrown => cases o <;> exact he.elim

/-! ### How a call is met -/
theorem CallAt.det {ops : Array Oper} {Q : XE → Know → Prop} {f : FuncId} {ss : List SV} {ds : List DV} {d : DV} {dst : Option Nat} {rest : List Oper} {K : Know} (im : Bool) (he : Enters P f) (hd : toDs ss = some ds)
    (h : FnWp P f ds (· = .ret d)) (hk : VCops P r im ops Q rest (K.put dst (.d d))) : CallAt P r ops Q f ss dst rest K :=
  ⟨he, CallS.pure hd h fun o ho => by subst ho; exact ⟨id, VCops_sound _ _ hk⟩⟩
theorem CallAt.clip {ops : Array Oper} {Q : XE → Know → Prop} {f : FuncId} {ss : List SV} {ds : List DV} {xs : List (List DV)} {dst : Option Nat} {rest : List Oper} {K : Know} (im : Bool) (he : Enters P f) (hd : toDs ss = some ds)
    (h : FnWp P f ds (· = .clip xs)) (hk : VCops P r im ops Q rest (K.put dst (.clip xs))) : CallAt P r ops Q f ss dst rest K :=
  ⟨he, CallS.pure hd h fun o ho => by subst ho; exact ⟨id, VCops_sound _ _ hk⟩⟩
theorem CallAt.lend {ops : Array Oper} {Q : XE → Know → Prop} {f : FuncId} {ss : List SV} {ds : List DV} {d : DV} {dst : Option Nat} {rest : List Oper} {K : Know} (im : Bool) (he : Enters P f) (hd : snapL K.mem ss = some ds)
    (h : FnWp P f ds (· = .ret d)) (hfl : d.flat = true) (hk : VCops P r im ops Q rest (K.put dst (.d d))) : CallAt P r ops Q f ss dst rest K :=
  ⟨he, CallS.borrow hd h fun o ho => by subst ho; exact ⟨hfl, id, VCops_sound _ _ hk⟩⟩
theorem CallAt.own {ops : Array Oper} {Q : XE → Know → Prop} {f : FuncId} {ss : List SV} {ds : List DV} {s : SV} {ml : List (TypeId × List SV)} {dst : Option Nat} {rest : List Oper} {K : Know} (im : Bool) (he : Enters P f) (hd : toDs ss = some ds)
    (h : FnWp P f ds (· = .fresh s ml)) (hk : VCops P r im ops Q rest ((K.more ml).put dst (s.ren fun j => K.nx + j))) : CallAt P r ops Q f ss dst rest K :=
  ⟨he, CallS.pure hd h fun o ho => by subst ho; exact ⟨id, VCops_sound _ _ hk⟩⟩
/-- Any outcome. -/
theorem CallAt.any {ops : Array Oper} {Q : XE → Know → Prop} {f : FuncId} {ss : List SV} {ds : List DV} {R : DV → Prop} {dst : Option Nat} {rest : List Oper} {K : Know} (im : Bool) (he : Enters P f) (hd : toDs ss = some ds)
    (h : FnWp P f ds fun o => ∃ d, o = .ret d ∧ R d) (hk : ∀ d, R d → VCops P r im ops Q rest (K.put dst (.d d))) : CallAt P r ops Q f ss dst rest K :=
  ⟨he, CallS.pure hd h fun o ho => by obtain ⟨d, rfl, hd⟩ := ho; exact ⟨id, VCops_sound _ _ (hk d hd)⟩⟩

@[simp] theorem Know.of_slots (n : Nat) (sl : List (Nat × SV)) (ml : List (TypeId × List SV)) (g : Ghost) (fr : List Nat) (b0 : Option (Nat × Imm)) : (Know.of n sl ml g fr b0).slots = lk sl := rfl
@[simp] theorem Know.of_mem (n : Nat) (sl : List (Nat × SV)) (ml : List (TypeId × List SV)) (g : Ghost) (fr : List Nat) (b0 : Option (Nat × Imm)) (b : Nat) : (Know.of n sl ml g fr b0).mem b = match ml[b]? with | some (t, cs) => .live t cs | none => .unborn := rfl
@[simp] theorem Know.of_n (n : Nat) (sl : List (Nat × SV)) (ml : List (TypeId × List SV)) (g : Ghost) (fr : List Nat) (b0 : Option (Nat × Imm)) : (Know.of n sl ml g fr b0).n = n := rfl
@[simp] theorem Know.of_nx (n : Nat) (sl : List (Nat × SV)) (ml : List (TypeId × List SV)) (g : Ghost) (fr : List Nat) (b0 : Option (Nat × Imm)) : (Know.of n sl ml g fr b0).nx = ml.length := rfl
@[simp] theorem Know.of_gh (n : Nat) (sl : List (Nat × SV)) (ml : List (TypeId × List SV)) (g : Ghost) (fr : List Nat) (b0 : Option (Nat × Imm)) : (Know.of n sl ml g fr b0).gh = g := rfl
@[simp] theorem Know.of_fro (n : Nat) (sl : List (Nat × SV)) (ml : List (TypeId × List SV)) (g : Ghost) (fr : List Nat) (b0 : Option (Nat × Imm)) : (Know.of n sl ml g fr b0).fro = fr := rfl
@[simp] theorem Know.of_b0 (n : Nat) (sl : List (Nat × SV)) (ml : List (TypeId × List SV)) (g : Ghost) (fr : List Nat) (b0 : Option (Nat × Imm)) : (Know.of n sl ml g fr b0).b0 = b0 := rfl
theorem renL_repl (ρ : Nat → Nat) (n : Nat) (x : DV) : renL ρ (repl n (.d x)) = repl n (.d x) := by rw [renL_eq, repl_eq, List.map_replicate, SV.ren]
theorem frzL_repl (b : Nat) (ds : List DV) (n : Nat) (x : DV) : frzL b ds (repl n (.d x)) = repl n (.d x) := by rw [frzL_eq, repl_eq, List.map_replicate, SV.frz]
theorem allD_repl (n : Nat) (x : DV) : allD (repl n (.d x)) = some (repl n x) := by
  have := allD_mapd (List.replicate n x); rw [List.map_replicate] at this; exact this
attribute [simp] renL_repl frzL_repl allD_repl Know.more SV.ren renL rho lk slotsOk memsOk SV.frz frzL Know.frz DV.flat DV.flat1 snapL renL_mapd renL_append renL_replicate frzL_mapd

end Go.Bf
