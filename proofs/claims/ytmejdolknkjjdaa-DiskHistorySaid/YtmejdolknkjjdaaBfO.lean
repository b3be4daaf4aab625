/-
  append and copy on what is known. Nothing is claimed here.
-/
import Derived.Test.YtmejdolknkjjdaaBfN
namespace Go.Bf
open Go Go.RowKit
variable {P : Program}

/-- The cells of rows. -/
def hd1 : List DV → SV
  | [d] => .d d
  | _ => .d .nilp
def rowsCells (sz : Nat) (xs : List (List DV)) : List SV := if sz = 1 then xs.map hd1 else xs.flatten.map .d

theorem rowsCells_eq {sz : Nat} {xs : List (List DV)} (h : Wide sz xs) : rowsCells sz xs = xs.flatten.map .d := by
  unfold rowsCells
  split
  · rename_i e
    subst e
    induction xs with
    | nil => rfl
    | cons r xs ih =>
      have hr := h r (by simp)
      rw [List.map_cons, ih fun q hq => h q (by simp [hq])]
      match r, hr with
      | [d], _ => rfl
  · rfl

theorem flatten_length {sz : Nat} : ∀ {xs : List (List DV)}, Wide sz xs → xs.flatten.length = xs.length * sz := by
  intro xs
  induction xs with
  | nil => intro _; simp
  | cons r xs ih =>
    intro h
    have := ih fun q hq => h q (by simp [hq])
    rw [List.flatten_cons, List.length_append, this, h r (by simp), List.length_cons, Nat.add_mul, Nat.one_mul]; omega

theorem flatten_get {sz : Nat} : ∀ {xs : List (List DV)}, Wide sz xs → ∀ (k : Nat) d, xs.flatten[k]? = some d → ∃ r, xs[k / sz]? = some r ∧ r[k % sz]? = some d ∧ k / sz < xs.length ∧ k % sz < sz := by
  intro xs
  induction xs with
  | nil => intro _ k d h; simp at h
  | cons r xs ih =>
    intro h k d hk
    have hr := h r (by simp)
    rw [List.flatten_cons, List.getElem?_append] at hk
    split at hk
    · rename_i hlt
      have hlt' : k < sz := by omega
      refine ⟨r, ?_, ?_, ?_, ?_⟩
      · rw [Nat.div_eq_of_lt hlt']; rfl
      · rw [Nat.mod_eq_of_lt hlt']; exact hk
      · rw [Nat.div_eq_of_lt hlt']; simp
      · rw [Nat.mod_eq_of_lt hlt']; exact hlt'
    · rename_i hge
      obtain ⟨q, h1, h2, h3, h4⟩ := ih (fun q hq => h q (by simp [hq])) _ d hk
      have hsz : 0 < sz := by omega
      have e1 : k / sz = (k - r.length) / sz + 1 := by
        rw [hr]; exact Nat.div_eq_sub_div hsz (by omega)
      have e2 : k % sz = (k - r.length) % sz := by
        rw [hr]; exact Nat.mod_eq_sub_mod (by omega)
      refine ⟨q, by rw [e1, List.getElem?_cons_succ]; exact h1, by rw [e2]; exact h2, by rw [e1, List.length_cons]; omega, by rw [e2]; exact h4⟩

/-- What is appended or copied, as it is known. -/
def srcF (mem : Mem) (k : EK) : SV → Option (Prop × Nat × List SV)
  | .d (.list ys) => some (Wide k.sz ys, ys.length, rowsCells k.sz ys)
  | .clip ys => some (Wide k.sz ys, ys.length, rowsCells k.sz ys)
  | .own b wd off len _ => match mem b with
    | .live _ cells => some (wd = k.sz ∧ off + len * wd ≤ cells.length, len, (cells.drop off).take (len * wd))
    | _ => none
  | .d (.str l) => if k.u8 then some (k.sz = 1, l.length, l.map fun c => .d (cB c)) else none
  | _ => none

theorem heap_cell {w w' : World} (h : w'.heap = w.heap) (a : Addr) : w'.cell? a = w.cell? a := World.cell?_of_block (by rw [h])

theorem run_loadCells_of {w : World} {b off n : Nat} {vs : List Value} (hn : vs.length = n) (h : ∀ (j : Nat) v, vs[j]? = some v → w.cell? ⟨b, off + j, none⟩ = some v) :
    (loadCells ⟨b, off, none⟩ n).run P w = .ok vs.toArray w := by
  have := run_loadCells_list (P := P) w ⟨b, off, none⟩ vs (fun j v hv => by rw [addr_add]; exact h j v hv)
  rw [hn] at this; exact this

theorem rep_list_cell {J : Imm} {b off len cap sz : Nat} {xs : List (List DV)} (h : Rep J (.slice (some ⟨b, off, none⟩) len cap) (.list xs)) (hw : Wide sz xs) {i j : Nat} {r : List DV} {d : DV} (hi : xs[i]? = some r) (hj : r[j]? = some d) :
    ∃ u, J b (off + i * sz + j) = some u ∧ Rep J u d := by
  cases h with
  | empty => simp at hi
  | @slice _ _ _ wd _ vs hcap hmax hwd hc hr =>
    have : wd = sz := by rw [← hwd r (List.mem_of_getElem? hi), hw r (List.mem_of_getElem? hi)]
    subst this
    exact ⟨_, hc i j (List.getElem?_eq_some_iff.1 hi).1 (by rw [← hwd r (List.mem_of_getElem? hi)]; exact (List.getElem?_eq_some_iff.1 hj).1), hr i j r d hi hj⟩

theorem source_list {x : Ctx} {K : Know} {a : Act} {w : World} (hm : Models x K a w) {v : Value} {ys : List (List DV)} (hv : Rep x.J v (.list ys)) {sz : Nat} (hsz : sz ≠ 0) (hw : Wide sz ys) :
    ∃ news, Source P w sz v ys.length news ∧ ArrR x.J x.β news.toArray (rowsCells sz ys) ∧ (∀ u ∈ news, u.oneCell' = true) := by
  obtain ⟨ad, cap, rfl⟩ := rep_list_inv hv
  rw [rowsCells_eq hw]
  have hfl := flatten_length hw
  by_cases h0 : ys.length = 0
  · have : ys = [] := List.eq_nil_of_length_eq_zero h0
    subst this
    refine ⟨[], ⟨fun w' _ => rfl, fun w' _ m hm0 => ?_, by simp⟩, ⟨rfl, fun i v s hv => by simp at hv⟩, fun u hu => by simp at hu⟩
    have : m = 0 := by simpa using hm0
    subst this
    cases ad with
    | none => simp [Builtin.firstCells]
    | some ad => simp [Builtin.firstCells, loadCells, loadCellsFrom]
  · obtain ⟨b, off, rfl⟩ := (rep_list_some hv).2.2.2 (by omega)
    have hcells : ∀ (k : Nat) d, ys.flatten[k]? = some d → ∃ u, x.J b (off + k) = some u ∧ Rep x.J u d := fun k d hk => by
      obtain ⟨r, h1, h2, h3, h4⟩ := flatten_get hw k d hk
      obtain ⟨u, e, r'⟩ := rep_list_cell hv hw h1 h2
      rw [Nat.add_assoc, Nat.mul_comm, Nat.div_add_mod] at e
      exact ⟨u, e, r'⟩
    let news : List Value := (List.range ys.flatten.length).map fun k => (x.J b (off + k)).getD undef
    have hget : ∀ (k : Nat) u, news[k]? = some u → ∃ d, ys.flatten[k]? = some d ∧ x.J b (off + k) = some u ∧ Rep x.J u d := fun k u hk => by
      simp only [news, List.getElem?_map, List.getElem?_range, Option.map_eq_some_iff] at hk
      obtain ⟨k', hk', rfl⟩ := hk
      have hlt : k < ys.flatten.length := by
        rcases Nat.lt_or_ge k ys.flatten.length with h | h
        · exact h
        · rw [List.getElem?_eq_none (by simpa using h)] at hk'; cases hk'
      rw [List.getElem?_range hlt] at hk'
      cases hk'
      obtain ⟨u', e, r⟩ := hcells k _ (List.getElem?_eq_getElem hlt)
      exact ⟨_, List.getElem?_eq_getElem hlt, by rw [e]; rfl, by rw [e]; exact r⟩
    have hnl : news.length = ys.length * sz := by simp only [news, List.length_map, List.length_range, hfl]
    refine ⟨news, ⟨fun w' _ => rfl, fun w' hw' m hmn => ?_, hnl⟩, ⟨by rw [List.size_toArray, hnl, List.length_map, hfl], fun i u s hu hs => ?_⟩, fun u hu => ?_⟩
    · simp only [Builtin.firstCells]
      have hmul := Nat.mul_le_mul_right sz hmn
      exact run_loadCells_of (by rw [List.length_take, hnl]; omega) fun j u hu => by
        rw [List.getElem?_take] at hu
        split at hu
        · obtain ⟨d, h1, h2, h3⟩ := hget j u hu
          rw [heap_cell hw']; exact hm.holds _ _ _ h2
        · cases hu
    · obtain ⟨d, h1, h2, h3⟩ := hget i u (by simpa using hu)
      rw [List.getElem?_map, h1] at hs
      cases hs
      exact .d h3
    · obtain ⟨j, hj, rfl⟩ := List.mem_iff_getElem.1 hu
      obtain ⟨d, h1, h2, h3⟩ := hget j _ (List.getElem?_eq_getElem hj)
      exact hm.one _ _ _ h2

theorem srcF_sound {x : Ctx} {K : Know} {a : Act} {w : World} (hm : Models x K a w) {k : EK} (hk0 : k.sz ≠ 0) {v : Value} {s : SV} (hs : SRep x.J x.β v s) {vc : Prop} {n : Nat} {cs : List SV} (h : srcF K.mem k s = some (vc, n, cs)) (hvc : vc) :
    ∃ news, Source P w k.sz v n news ∧ ArrR x.J x.β news.toArray cs ∧ (∀ u ∈ news, u.oneCell' = true) := by
  unfold srcF at h
  split at h
  · simp only [Option.some.injEq, Prod.mk.injEq] at h
    obtain ⟨rfl, rfl, rfl⟩ := h
    exact source_list hm (d_inv hs) hk0 hvc
  · simp only [Option.some.injEq, Prod.mk.injEq] at h
    obtain ⟨rfl, rfl, rfl⟩ := h
    obtain ⟨_, _, hv⟩ := clip_inv hs
    exact source_list hm hv hk0 hvc
  · rename_i b wd off len c
    split at h
    · rename_i t cells hb
      simp only [Option.some.injEq, Prod.mk.injEq] at h
      obtain ⟨rfl, rfl, rfl⟩ := h
      obtain ⟨rfl, hfit⟩ := hvc
      obtain ⟨B, vals, fr, h1, ⟨T, h2⟩, h3, h4, h5, h6, h7, h8⟩ := (hm.live b t cells hb).out
      obtain ⟨cap, rfl, g1, g2, g3, _⟩ := own_inv hs h1
      have hlen : ((vals.toList.drop off).take (len * k.sz)).length = len * k.sz := by simp; omega
      refine ⟨(vals.toList.drop off).take (len * k.sz), ⟨fun w' _ => rfl, fun w' hw' m hmn => ?_, hlen⟩, ⟨by simp; omega, fun i u s hu hs' => ?_⟩, fun u hu => ?_⟩
      · simp only [Builtin.firstCells]
        have hmul := Nat.mul_le_mul_right k.sz hmn
        exact run_loadCells_of (by rw [List.length_take, hlen]; omega) fun j u hu => by
          rw [List.getElem?_take] at hu
          split at hu
          · rw [List.getElem?_take] at hu
            split at hu
            · rw [List.getElem?_drop] at hu
              rw [heap_cell hw']
              simp only [World.cell?, h2, Option.isSome_none, Bool.false_eq_true, if_false]
              simpa using hu
            · cases hu
          · cases hu
      · simp only [List.getElem?_toArray] at hu
        rw [List.getElem?_take] at hu hs'
        split at hu
        · rename_i hlt
          rw [if_pos hlt, List.getElem?_drop] at hs'
          rw [List.getElem?_drop] at hu
          obtain ⟨u', e, r⟩ := h5 _ s hs'
          have : vals[off + i]? = some u := by simpa using hu
          rw [this] at e; cases e; exact r
        · cases hu
      · exact h8 u (by simpa using List.mem_of_mem_drop (List.mem_of_mem_take hu))
    · cases h
  · rename_i l
    split at h
    · simp only [Option.some.injEq, Prod.mk.injEq] at h
      obtain ⟨rfl, rfl, rfl⟩ := h
      have hv := d_inv hs
      cases hv with
      | str hl =>
        have hsz : (⟨l.toArray⟩ : ByteArray).size = l.length := by simp [ByteArray.size]
        refine ⟨l.map fun c => .int .u8 c.toNat, ⟨fun w' _ => ?_, fun w' _ m hmn => ?_, by simp [hvc]⟩, ⟨by simp, fun i u s hu hs' => ?_⟩, fun u hu => ?_⟩
        · simp only [Builtin.lenOf, hsz]; rfl
        · have : (⟨l.toArray⟩ : ByteArray).extract 0 m = ⟨(l.take m).toArray⟩ := by
            apply ByteArray.ext
            simp [ByteArray.data_extract]
          simp only [Builtin.firstCells, this, Sem.run_pure, hvc, Nat.mul_one]
          simp [List.map_take]
        · simp only [List.getElem?_toArray, List.getElem?_map, Option.map_eq_some_iff] at hu hs'
          obtain ⟨c, hc, rfl⟩ := hu
          rw [hc] at hs'
          obtain ⟨c', hc', rfl⟩ := hs'
          cases hc'
          refine .d (.int ?_)
          have := c.toNat_lt
          simp only [InK, IntKind.min, IntKind.max, IntKind.signed, IntKind.bits, Bool.false_eq_true, if_false]
          omega
        · obtain ⟨c, _, rfl⟩ := List.mem_map.1 hu
          rfl
    · cases h
  · cases h

def TK.conc' : TK → Bool
  | .slice _ | .str => true
  | _ => false

/-- 'append(s, x...)'. -/
def opA (P : Program) (K : Know) (rd : Operand → Option SV) (op : Op) (k : SV → Know → Prop) : Prop :=
  match op with
  | .call { callee := .builtin .append, args := args, argTypes := ts } =>
    match args.toList, ts.toList with
    | [u, v], [t, t'] =>
      match tk P t, rd u, rd v with
      | .slice ek, some s, some r =>
        match srcF K.mem ek r, (tk P t').conc' && ek.zero.isSome with
        | some (vc, n, news), true =>
          match s with
          | .own b wd 0 len _ => match K.mem b with
            | .live bt cells => (vc ∧ wd = ek.sz ∧ cells.length = len * wd ∧ len + n ≤ maxLen ∧ (len + n) * ek.bytes ≤ 140737488355328) ∧
                k (.own K.nx wd 0 (len + n) none) ((K.setB b .dead).newB bt (cells ++ news))
            | _ => False
          | .clip xs => vc ∧ Wide ek.sz xs ∧ xs.length + n ≤ maxLen ∧ (xs.length + n) * ek.bytes ≤ 140737488355328 ∧ (n = 0 → k (.clip xs) K) ∧
              (0 < n → k (.own K.nx ek.sz 0 (xs.length + n) none) (K.newB t (rowsCells ek.sz xs ++ news)))
          | _ => False
        | _, _ => False
      | _, _, _ => False
    | _, _ => False
  | _ => False

/-- 'copy(d, s)': nothing is yielded that is used. -/
def opC (P : Program) (K : Know) (rd : Operand → Option SV) (op : Op) (k : SV → Know → Prop) : Prop :=
  match op with
  | .call { callee := .builtin .copy, args := args, argTypes := ts } =>
    match args.toList, ts.toList with
    | [u, v], [t, t'] =>
      match tk P t, rd u, rd v with
      | .slice ek, some (.own b wd off len _), some r =>
        match srcF K.mem ek r, K.mem b, (tk P t').conc' with
        | some (vc, n, news), .live bt cells, true => (vc ∧ wd = ek.sz ∧ off + min n len * wd ≤ cells.length) ∧
            k (.d (.int .i64 (min n len : Nat))) (K.setB b (.live bt (spl cells off (news.take (min n len * wd)))))
        | _, _, _ => False
      | _, _, _ => False
    | _, _ => False
  | _ => False

theorem Models.kill {x : Ctx} {K : Know} {a : Act} {w : World} (hm : Models x K a w) {b : Nat} {t : TypeId} {cells : List SV} (hmem : K.mem b = .live t cells) :
    ∃ x', x.le x' ∧ x'.J = x.J ∧ x'.β = Bf.put x.β b .dead ∧ Models x' (K.setB b .dead) a w := by
  obtain ⟨B, sz, t', h1, h2, h3⟩ := hm.cell hmem
  let β' : Nat → Nam := Bf.put x.β b .dead
  have hβ : ∀ c, (x.β c).le (β' c) := fun c => by
    simp only [β', Bf.put]
    split
    · rename_i e; rw [e, h1]; exact .inr rfl
    · exact Nam.le_refl _
  refine ⟨{ x with β := β' }, ⟨fun _ _ _ h => h, hβ, rfl, rfl, rfl⟩, rfl, rfl, hm.fro, hm.size, hm.defers, hm.below, hm.holds, hm.old, ?_, ?_, ?_, ?_, ?_, hm.one, ?_⟩
  · intro i s hs
    obtain ⟨v, e, r⟩ := hm.slots i s hs
    exact ⟨v, e, r.mono (fun _ _ _ h => h) hβ⟩
  · intro c hc
    by_cases e : c = b
    · subst e; simp [Know.setB, Bf.put] at hc
    · simp only [Know.setB, Bf.put, if_neg e] at hc
      show β' c = _
      simp only [β', Bf.put, if_neg e]; exact hm.unborn c hc
  · intro c hc
    by_cases e : c = b
    · subst e; simp [β', Bf.put]
    · simp only [Know.setB, Bf.put, if_neg e] at hc
      show β' c = _
      simp only [β', Bf.put, if_neg e]; exact hm.dead c hc
  · intro c t2 cells2 hc
    by_cases e : c = b
    · subst e; simp [Know.setB, Bf.put] at hc
    · simp only [Know.setB, Bf.put, if_neg e] at hc
      obtain ⟨B2, vals, fr, g1, g2, g3, g4, g5, g6, g7, g8⟩ := (hm.live c t2 cells2 hc).out
      exact ⟨B2, vals, fr, by simp only [β', Bf.put, if_neg e]; exact g1, g2, g3, g4, fun o s hs => let ⟨v, e, r⟩ := g5 o s hs; ⟨v, e, r.mono (fun _ _ _ h => h) hβ⟩, g6, g7, g8⟩
  · intro c c' B2 s2 t2 s2' t2' hc hc'
    have h1 : β' c = _ := hc
    have h2 : β' c' = _ := hc'
    simp only [β', Bf.put] at h1 h2
    split at h1
    · cases h1
    · split at h2
      · cases h2
      · exact hm.inj c c' B2 s2 t2 s2' t2' h1 h2
  · intro c hc
    have : c ≠ b := fun e => by
      subst e; rw [hm.fresh c hc] at hmem; cases hmem
    simp only [Know.setB, Bf.put, if_neg this]
    exact hm.fresh c hc

end Go.Bf
