/-
  How an argument that a claim's form lets in is read as data. Nothing is claimed here.
-/
import Derived.Test.YtmejdolknkjjdaaBfW
import Derived.ProofKit
import Derived.SizedLaws
namespace Go.Bf
open Go Go.RowKit
/-- All cells of a world, held immutable. -/
def Jof (w : World) : Imm := fun b o => match w.cell? ⟨b, o, none⟩ with
  | some v => if v.oneCell' = true then some v else none
  | none => none
theorem Jof_some {w : World} {b o : Nat} {v : Value} (h : Jof w b o = some v) : w.cell? ⟨b, o, none⟩ = some v ∧ v.oneCell' = true := by
  unfold Jof at h
  split at h
  · rename_i u hu
    split at h
    · rename_i h1; cases h; exact ⟨hu, h1⟩
    · cases h
  · cases h
theorem Jof_mk {w : World} {b o : Nat} {v : Value} (h : w.cell? ⟨b, o, none⟩ = some v) (h1 : v.oneCell' = true) : Jof w b o = some v := by simp [Jof, h, h1]
theorem Jof_holds (w : World) : Holds (Jof w) w := ⟨fun _ _ _ h => (Jof_some h).1, fun _ _ _ h => (Jof_some h).2⟩
/-- Fields lie one after the other. -/
def tile (P : Program) : List Field → Nat → Nat → Bool
  | [], s, e => s == e
  | f :: fs, s, e => f.offset == s && tile P fs (s + P.cellsOf f.type) e
def TyF (T : TypeId → List DV → Prop) : List Field → List DV → Prop
  | [], r => r = []
  | f :: fs, r => ∃ a b, T f.type a ∧ TyF T fs b ∧ r = a ++ b
def TyA (T : List DV → Prop) : Nat → List DV → Prop
  | 0, r => r = []
  | n + 1, r => ∃ a b, T a ∧ TyA T n b ∧ r = a ++ b
/-- The row is one of a variable of the type. -/
def Ty (P : Program) : Nat → TypeId → List DV → Prop
  | 0, _, _ => False
  | m + 1, t, r => match P.underlying t with
    | some .bool => ∃ b, r = [.bool b]
    | some (.int k) => ∃ n, InK k n ∧ r = [.int k n]
    | some .string => ∃ s : List UInt8, s.length ≤ reachBytes ∧ r = [.str s]
    | some (.slice e) => ∃ xs : List (List DV), xs.length * P.bytesOf e ≤ reachBytes ∧ (∀ x ∈ xs, Ty P m e x) ∧ r = [.list xs]
    | some (.struct fs) => TyF (Ty P m) fs.toList r
    | some (.array n e) => TyA (Ty P m e) n r
    | _ => False
def supp (P : Program) : Nat → TypeId → Bool
  | 0, _ => false
  | m + 1, t => match P.underlying t with
    | some .bool => true
    | some (.int _) => true
    | some .string => true
    | some (.slice e) => decide (P.cellsOf e ≠ 0) && supp P m e
    | some (.struct fs) => tile P fs.toList 0 (P.cellsOf t) && fs.toList.all (fun f => supp P m f.type)
    | some (.array n e) => decide (n * P.cellsOf e = P.cellsOf t) && supp P m e
    | _ => false
structure RowR (J : Imm) (cs : List Value) (r : List DV) : Prop where
  len : cs.length = r.length
  rep : ∀ (i : Nat) v d, cs[i]? = some v → r[i]? = some d → Rep J v d
  one : ∀ v ∈ cs, v.oneCell' = true
theorem RowR.nil (J : Imm) : RowR J [] [] := ⟨rfl, fun i v d h => by simp at h, fun v h => by simp at h⟩
theorem RowR.single {J : Imm} {v : Value} {d : DV} (h : Rep J v d) (h1 : v.oneCell' = true) : RowR J [v] [d] := ⟨rfl, fun i v' d' h2 h3 => by
  cases i with
  | zero => simp at h2 h3; subst h2; subst h3; exact h
  | succ i => simp at h2, fun v' h2 => by simp at h2; subst h2; exact h1⟩
theorem RowR.append {J : Imm} {a b : List Value} {r s : List DV} (h : RowR J a r) (k : RowR J b s) : RowR J (a ++ b) (r ++ s) := ⟨by simp [h.len, k.len], fun i v d h1 h2 => by
  have hl := h.len
  by_cases hi : i < a.length
  · rw [List.getElem?_append_left hi] at h1
    rw [List.getElem?_append_left (by omega)] at h2
    exact h.rep i v d h1 h2
  · rw [List.getElem?_append_right (by omega)] at h1
    rw [List.getElem?_append_right (by omega), ← hl] at h2
    exact k.rep _ v d h1 h2, fun v hv => by
  rcases List.mem_append.1 hv with h1 | h1
  · exact h.one v h1
  · exact k.one v h1⟩
variable {H : Type} {enc : TypeId × Value → H} {P : Program} {W : World}
theorem cells_get {a : Addr} {n : Nat} {cs : List Value} (h : W.cells? 0 a n = some cs) : cs.length = n ∧ ∀ (i : Nat) v, cs[i]? = some v → W.cell? (a.add i) = some v := by
  unfold World.cells? at h
  rw [if_pos (Nat.zero_le _)] at h
  obtain ⟨h1, h2⟩ := mapM_get h
  simp at h1
  refine ⟨h1, fun i v hv => ?_⟩
  have hi : i < n := by rw [← h1]; exact (List.getElem?_eq_some_iff.1 hv).1
  exact h2 i i v (by simp [hi]) hv
theorem add_spot {a : Addr} (ha : a.spot = none) (n : Nat) : a.add n = ⟨a.block, a.off + n, none⟩ := by
  obtain ⟨b, o, s⟩ := a
  simp only at ha
  subst ha
  exact addr_add b o n
theorem wEach_cons {t : TypeId} {ts : List TypeId} {d : DataW H} {ds : List (DataW H)} {n : Nat} : n ∈ DataW.weightsEach P (t :: ts) (d :: ds) ↔ n ∈ d.weights P t ∨ n ∈ DataW.weightsEach P ts ds := by
  simp [DataW.weightsEach]
theorem wAll_mem {e : TypeId} : ∀ {ds : List (DataW H)} {d : DataW H} {n : Nat}, d ∈ ds → n ∈ d.weights P e → n ∈ DataW.weightsAll P e ds
  | [], _, _, h, _ => by simp at h
  | d0 :: ds, d, n, h, hn => by
    simp only [DataW.weightsAll, List.mem_append]
    rcases List.mem_cons.1 h with rfl | h
    · exact Or.inl hn
    · exact Or.inr (wAll_mem h hn)
theorem one_of_flat (v : Value) (h : ∀ cs, v ≠ .agg cs) (h' : ∀ cs, v ≠ .tuple cs) : v.oneCell' = true := by
  cases v <;> first | rfl | (exact absurd rfl (h _)) | (exact absurd rfl (h' _))
/-- What is read is data of the type. -/
theorem read_row : ∀ (m : Nat) (t : TypeId) (cs : List Value) (fuel : Nat) (x : DataW H × List MemPlace), supp P m t = true → DataW.trod enc P W 0 (fun _ => true) true fuel t cs = some x →
    (∀ n ∈ x.1.weights P t, n ≤ reachBytes) → ∃ r, Ty P m t r ∧ RowR (Jof W) cs r := by
  intro m
  induction m with
  | zero => intro t cs fuel x h; simp [supp] at h
  | succ m ih =>
    intro t cs fuel x hs h hw
    unfold supp at hs
    unfold Ty
    split at hs
    · rename_i hu
      obtain ⟨b, rfl, rfl⟩ := DataW.trod_bool hu h
      exact ⟨_, ⟨b, rfl⟩, RowR.single .bool rfl⟩
    · rename_i k hu
      obtain ⟨n, rfl, rfl, hwf⟩ := DataW.trod_int hu h
      have hk : InK k n := by
        simp only [Lit.wf, Bool.and_eq_true, decide_eq_true_eq] at hwf
        exact hwf
      exact ⟨_, ⟨n, hk, rfl⟩, RowR.single (.int hk) rfl⟩
    · rename_i hu
      obtain ⟨s, rfl, rfl, hsz⟩ := DataW.trod_string hu h
      refine ⟨_, ⟨s.data.toList, hw _ (by simp [DataW.weights]), rfl⟩, RowR.single ?_ rfl⟩
      have := Rep.str (J := Jof W) (s := s.data.toList) (by simpa using hsz)
      simpa using this
    · rename_i e hu
      simp only [Bool.and_eq_true, decide_eq_true_eq] at hs
      obtain ⟨hc, hs⟩ := hs
      rcases DataW.trod_slice hu h with ⟨rfl, rfl⟩ | ⟨a, len, cap, elems, rest, n, rfl, rfl, rfl, _, h2, h3, h4, h5, h6, _⟩
      · exact ⟨_, ⟨[], by simp, (fun x hx => by simp at hx), rfl⟩, RowR.single (.empty (by simp)) rfl⟩
      · obtain ⟨h6, _⟩ := h6 rfl
        have hel : ∀ i, i < len → ∃ row : List DV, ∃ vs : List Value, W.cells? 0 (a.add (i * P.cellsOf e)) (P.cellsOf e) = some vs ∧ Ty P m e row ∧ RowR (Jof W) vs row := fun i hi => by
          have := h5 i hi
          obtain ⟨y, hy⟩ : ∃ y, elems[i]? = some y := ⟨_, List.getElem?_eq_getElem (by omega)⟩
          rw [hy] at this
          obtain ⟨vs, e1, e2⟩ := Option.bind_eq_some_iff.1 this
          obtain ⟨row, r1, r2⟩ := ih e vs n y hs e2 (fun k hk => hw k (by
            simp only [DataW.weights, hu]
            refine List.mem_cons_of_mem _ (List.mem_append_left _ (wAll_mem ?_ hk))
            exact List.mem_map.2 ⟨y, List.mem_of_getElem? hy, rfl⟩))
          exact ⟨row, vs, e1, r1, r2⟩
        let rw' : Nat → List DV := fun i => if hi : i < len then (hel i hi).choose else []
        have hrw : ∀ i (hi : i < len), rw' i = (hel i hi).choose := fun i hi => by simp only [rw', dif_pos hi]
        have hsp : ∀ i, i < len → a.spot = none := fun i hi => by
          obtain ⟨row, vs, e1, _, _⟩ := hel 0 (by omega)
          obtain ⟨g1, g2⟩ := cells_get e1
          have hv : ∃ v, vs[0]? = some v := ⟨_, List.getElem?_eq_getElem (by omega)⟩
          obtain ⟨v, hv⟩ := hv
          have := g2 0 v hv
          simp only [Nat.zero_mul] at this
          rw [show (a.add 0).add 0 = a from rfl] at this
          unfold World.cell? at this
          split at this
          · split at this
            · cases this
            · rename_i hns
              cases hh : a.spot with
              | none => rfl
              | some _ => rw [hh] at hns; simp at hns
          · cases this
        refine ⟨_, ⟨(List.range len).map rw', ?_, ?_, rfl⟩, RowR.single ?_ rfl⟩
        · have := hw ((elems.length + rest.length) * P.bytesOf e) (by simp [DataW.weights, hu])
          simp only [List.length_map, List.length_range]
          refine Nat.le_trans (Nat.mul_le_mul_right _ ?_) this
          omega
        · intro x hx
          obtain ⟨i, hi, rfl⟩ := List.mem_map.1 hx
          have hi := List.mem_range.1 hi
          rw [hrw i hi]
          exact (hel i hi).choose_spec.choose_spec.2.1
        · rcases Nat.eq_zero_or_pos len with h0 | h0
          · subst h0
            exact Rep.empty (by omega)
          · have ha := hsp 0 h0
            obtain ⟨b, o, sp⟩ := a
            simp only at ha
            subst ha
            let vv : Nat → Nat → Value := fun i j => ((W.cells? 0 ((⟨b, o, none⟩ : Addr).add (i * P.cellsOf e)) (P.cellsOf e)).getD []).getD j undef
            have hrow : ∀ i (hi : i < len), ∃ vs : List Value, W.cells? 0 ((⟨b, o, none⟩ : Addr).add (i * P.cellsOf e)) (P.cellsOf e) = some vs ∧ RowR (Jof W) vs (rw' i) := fun i hi => by
              obtain ⟨vs, e1, _, e3⟩ := (hel i hi).choose_spec
              exact ⟨vs, e1, by rw [hrw i hi]; exact e3⟩
            have hlen : ((List.range len).map rw').length = len := by simp
            have := Rep.slice (J := Jof W) (b := b) (off := o) (cap := cap) (wd := P.cellsOf e) (xs := (List.range len).map rw') vv (by simpa using h2) h3 (fun r hr => by
              obtain ⟨i, hi, rfl⟩ := List.mem_map.1 hr
              obtain ⟨vs, e1, e3⟩ := hrow i (List.mem_range.1 hi)
              rw [← e3.len]; exact (cells_get e1).1) (fun i j hi hj => by
              rw [hlen] at hi
              obtain ⟨vs, e1, e3⟩ := hrow i hi
              obtain ⟨g1, g2⟩ := cells_get e1
              have hj' : j < vs.length := by omega
              have hv : vs[j]? = some (vv i j) := by
                simp only [vv, e1, Option.getD_some]
                rw [List.getD_eq_getElem?_getD, List.getElem?_eq_getElem hj']; rfl
              have hcell := g2 j _ hv
              rw [addr_add, addr_add] at hcell
              exact Jof_mk hcell (e3.one _ (List.mem_of_getElem? hv))) (fun i j r d hr hd => by
              obtain ⟨hi, rfl⟩ := List.getElem?_eq_some_iff.1 hr
              rw [hlen] at hi
              simp only [List.getElem_map, List.getElem_range] at hd
              obtain ⟨vs, e1, e3⟩ := hrow i hi
              have hj' : j < vs.length := by rw [e3.len]; exact (List.getElem?_eq_some_iff.1 hd).1
              refine e3.rep j _ d ?_ hd
              simp only [vv, e1, Option.getD_some]
              rw [List.getD_eq_getElem?_getD, List.getElem?_eq_getElem hj']; rfl)
            rw [hlen] at this
            exact this
    · rename_i fs hu
      simp only [Bool.and_eq_true, List.all_eq_true] at hs
      obtain ⟨htile, hs⟩ := hs
      obtain ⟨xs, n, rfl, rfl, hl, hlen, hf⟩ := DataW.trod_struct hu h
      simp only [DataW.weights, hu] at hw
      have key : ∀ (fl : List Field) (ys : List (DataW H × List MemPlace)) (s : Nat), tile P fl s (P.cellsOf t) = true → (∀ f ∈ fl, supp P m f.type = true) → ys.length = fl.length →
          (∀ (i : Nat) (f : Field), fl[i]? = some f → DataW.trod enc P W 0 (fun _ => true) true n f.type ((cs.drop f.offset).take (P.cellsOf f.type)) = ys[i]?) →
          (∀ k ∈ DataW.weightsEach P (fl.map (·.type)) (ys.map (·.1)), k ≤ reachBytes) → ∃ r, TyF (Ty P m) fl r ∧ RowR (Jof W) (cs.drop s) r := by
        intro fl
        induction fl with
        | nil =>
          intro ys s ht _ _ _ _
          simp only [tile, beq_iff_eq] at ht
          refine ⟨[], rfl, ?_⟩
          rw [List.drop_eq_nil_of_le (by omega)]
          exact RowR.nil _
        | cons f fl ihf =>
          intro ys s ht hsup hyl hget hwt
          simp only [tile, Bool.and_eq_true, beq_iff_eq] at ht
          obtain ⟨hoff, ht⟩ := ht
          cases ys with
          | nil => simp at hyl
          | cons y ys =>
            have h0 := hget 0 f rfl
            simp only [List.getElem?_cons_zero] at h0
            obtain ⟨r1, t1, q1⟩ := ih f.type _ n y (hsup f (by simp)) h0 (fun k hk => hwt k (by simp only [List.map_cons]; exact wEach_cons.2 (Or.inl hk)))
            obtain ⟨r2, t2, q2⟩ := ihf ys (s + P.cellsOf f.type) ht (fun g hg => hsup g (by simp [hg])) (by simpa using hyl) (fun i g hg => by simpa using hget (i + 1) g (by simpa using hg))
              (fun k hk => hwt k (by simp only [List.map_cons]; exact wEach_cons.2 (Or.inr hk)))
            refine ⟨r1 ++ r2, ⟨r1, r2, t1, t2, rfl⟩, ?_⟩
            have := q1.append q2
            rw [hoff, ← List.drop_drop, List.take_append_drop] at this
            exact this
      obtain ⟨r, t1, q1⟩ := key fs.toList xs 0 htile (fun f hf => hs f hf) (by simpa using hlen) (fun i f hf' => hf i f (by simpa using hf')) hw
      exact ⟨r, t1, by simpa using q1⟩
    · rename_i n0 e hu
      simp only [Bool.and_eq_true, decide_eq_true_eq] at hs
      obtain ⟨hsz, hs⟩ := hs
      cases fuel with
      | zero => simp [DataW.trod] at h
      | succ fuel =>
        have hx : ∃ ys, (List.range n0).mapM (fun i => DataW.trod enc P W 0 (fun _ => true) true fuel e ((cs.drop (i * P.cellsOf e)).take (P.cellsOf e))) = some ys ∧ x = (.agg (ys.map (·.1)), ys.flatMap (·.2)) ∧ cs.length = P.cellsOf t := by
          unfold DataW.trod at h
          rw [hu] at h
          split at h <;> simp_all
          obtain ⟨h1, ys, h2, h3⟩ := h
          exact ⟨ys, h2, h3.symm⟩
        obtain ⟨ys, hys, rfl, hl⟩ := hx
        simp only [DataW.weights, hu] at hw
        obtain ⟨hyl, hget⟩ := mapM_get hys
        simp at hyl
        have key : ∀ (k s : Nat), s + k = n0 → ∃ r, TyA (Ty P m e) k r ∧ RowR (Jof W) (cs.drop (s * P.cellsOf e)) r := by
          intro k
          induction k with
          | zero =>
            intro s hk
            refine ⟨[], rfl, ?_⟩
            rw [List.drop_eq_nil_of_le (by rw [hl, ← hsz]; exact Nat.mul_le_mul_right _ (by omega))]
            exact RowR.nil _
          | succ k ihk =>
            intro s hk
            obtain ⟨y, hy⟩ : ∃ y, ys[s]? = some y := ⟨_, List.getElem?_eq_getElem (by omega)⟩
            have h0 := hget s s y (by rw [List.getElem?_range (by omega)]) hy
            obtain ⟨r1, t1, q1⟩ := ih e _ fuel y hs h0 (fun n hn => hw n (wAll_mem (List.mem_map.2 ⟨y, List.mem_of_getElem? hy, rfl⟩) hn))
            obtain ⟨r2, t2, q2⟩ := ihk (s + 1) (by omega)
            refine ⟨r1 ++ r2, ⟨r1, r2, t1, t2, rfl⟩, ?_⟩
            have := q1.append q2
            rw [show (s + 1) * P.cellsOf e = s * P.cellsOf e + P.cellsOf e from Nat.succ_mul _ _, ← List.drop_drop, List.take_append_drop] at this
            exact this
        obtain ⟨r, t1, q1⟩ := key n0 0 (by omega)
        exact ⟨r, t1, by simpa using q1⟩
    · cases hs
end Go.Bf
