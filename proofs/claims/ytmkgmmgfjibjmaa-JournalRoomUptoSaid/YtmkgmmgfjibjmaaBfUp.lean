/-
  The bridge from contracts on data to a claim's form, where the bulk of what comes in is bounded. Nothing is claimed here.
-/
import Derived.Test.YtmkgmmgfjibjmaaFwC
import Derived.Deep.CondSized
namespace Go.Bf
open Go Go.RowKit Go.ChangeShapes Go.WideShapes
variable {H : Type} {enc : TypeId × Value → H} {P : Program} {W : World}
mutual
def wt : DV → Nat
  | .list xs => wtLL xs + 1
  | .str s => s.length + 1
  | _ => 1
def wtL : List DV → Nat
  | [] => 0
  | d :: ds => wt d + wtL ds
def wtLL : List (List DV) → Nat
  | [] => 0
  | r :: rs => wtL r + wtLL rs
end
mutual
def szD : DataW H → Nat
  | .lit (.string bytes) => bytes.length + 1
  | .lit _ => 1
  | .slice elems spare => szL elems + szL spare + 1
  | .agg parts => szL parts + 1
  | _ => 1
def szL : List (DataW H) → Nat
  | [] => 0
  | d :: r => szD d + szL r
end
theorem wtL_append : ∀ (a b : List DV), wtL (a ++ b) = wtL a + wtL b
  | [], b => by simp [wtL]
  | d :: a, b => by rw [List.cons_append, wtL, wtL, wtL_append a b]; omega
theorem wt_rows : ∀ (f : Nat → List DV) (l : List (DataW H)), (∀ i d, l[i]? = some d → wtL (f i) ≤ szD d) → wtLL ((List.range l.length).map f) ≤ szL l
  | _, [], _ => by simp [wtLL]
  | f, d :: l, h => by
    rw [List.length_cons, List.range_succ_eq_map, List.map_cons, List.map_map]
    have h0 := h 0 d rfl
    have := wt_rows (f ∘ Nat.succ) l (fun i e he => h (i + 1) e (by simpa using he))
    simp only [wtLL, szL]
    omega
theorem read_rowW : ∀ (m : Nat) (t : TypeId) (cs : List Value) (fuel : Nat) (x : DataW H × List MemPlace), supp P m t = true → DataW.trod enc P W 0 (fun _ => true) true fuel t cs = some x →
    (∀ n ∈ x.1.weights P t, n ≤ reachBytes) → ∃ r, Ty P m t r ∧ RowR (Jof W) cs r ∧ wtL r ≤ szD x.1 := by
  intro m
  induction m with
  | zero => intro t cs fuel x h; simp [supp] at h
  | succ m ih =>
    intro t cs fuel x hs h hw
    unfold supp at hs
    unfold Ty
    split at hs
    · rename_i hu
      obtain ⟨b, rfl, rfl⟩ := DataW.trod_bool hu h
      exact ⟨_, ⟨b, rfl⟩, RowR.single .bool rfl, by simp [wtL, wt, szD]⟩
    · rename_i k hu
      obtain ⟨n, rfl, rfl, hwf⟩ := DataW.trod_int hu h
      have hk : InK k n := by
        simp only [Lit.wf, Bool.and_eq_true, decide_eq_true_eq] at hwf
        exact hwf
      exact ⟨_, ⟨n, hk, rfl⟩, RowR.single (.int hk) rfl, by simp [wtL, wt, szD]⟩
    · rename_i hu
      obtain ⟨s, rfl, rfl, hsz⟩ := DataW.trod_string hu h
      refine ⟨_, ⟨s.data.toList, hw _ (by simp [DataW.weights]), rfl⟩, RowR.single ?_ rfl, by simp [wtL, wt, szD]⟩
      have := Rep.str (J := Jof W) (s := s.data.toList) (by simpa using hsz)
      simpa using this
    · rename_i e hu
      simp only [Bool.and_eq_true, decide_eq_true_eq] at hs
      obtain ⟨hc, hs⟩ := hs
      rcases DataW.trod_slice hu h with ⟨rfl, rfl⟩ | ⟨a, len, cap, elems, rest, n, rfl, rfl, rfl, _, h2, h3, h4, h5, h6, _⟩
      · exact ⟨_, ⟨[], by simp, (fun x hx => by simp at hx), rfl⟩, RowR.single (.empty (by simp)) rfl, by simp [wtL, wt, wtLL, szD]⟩
      · obtain ⟨h6, _⟩ := h6 rfl
        have hel : ∀ i, i < len → ∃ row : List DV, ∃ vs : List Value, W.cells? 0 (a.add (i * P.cellsOf e)) (P.cellsOf e) = some vs ∧ Ty P m e row ∧ RowR (Jof W) vs row ∧ ∀ d, (elems.map (·.1))[i]? = some d → wtL row ≤ szD d := fun i hi => by
          have := h5 i hi
          obtain ⟨y, hy⟩ : ∃ y, elems[i]? = some y := ⟨_, List.getElem?_eq_getElem (by omega)⟩
          rw [hy] at this
          obtain ⟨vs, e1, e2⟩ := Option.bind_eq_some_iff.1 this
          obtain ⟨row, r1, r2, r3⟩ := ih e vs n y hs e2 (fun k hk => hw k (by
            simp only [DataW.weights, hu]
            refine List.mem_cons_of_mem _ (List.mem_append_left _ (wAll_mem ?_ hk))
            exact List.mem_map.2 ⟨y, List.mem_of_getElem? hy, rfl⟩))
          exact ⟨row, vs, e1, r1, r2, fun d hd => by rw [List.getElem?_map, hy] at hd; cases hd; exact r3⟩
        let rw' : Nat → List DV := fun i => if hi : i < len then (hel i hi).choose else []
        have hrw : ∀ i (hi : i < len), rw' i = (hel i hi).choose := fun i hi => by simp only [rw', dif_pos hi]
        have hsp : ∀ i, i < len → a.spot = none := fun i hi => by
          obtain ⟨row, vs, e1, _, _, _⟩ := hel 0 (by omega)
          obtain ⟨g1, g2⟩ := cells_get e1
          have hv : ∃ v, vs[0]? = some v := ⟨_, List.getElem?_eq_getElem (by omega)⟩
          obtain ⟨v, hv⟩ := hv
          have := g2 0 v hv
          simp only [Nat.zero_mul] at this
          rw [show (a.add 0).add 0 = a from rfl] at this
          unfold World.cell? at this
          split at this
          · split at this
            · cases this
            · rename_i hns
              cases hh : a.spot with
              | none => rfl
              | some _ => rw [hh] at hns; simp at hns
          · cases this
        refine ⟨_, ⟨(List.range len).map rw', ?_, ?_, rfl⟩, RowR.single ?_ rfl, ?_⟩
        · have := hw ((elems.length + rest.length) * P.bytesOf e) (by simp [DataW.weights, hu])
          simp only [List.length_map, List.length_range]
          refine Nat.le_trans (Nat.mul_le_mul_right _ ?_) this
          omega
        · intro x hx
          obtain ⟨i, hi, rfl⟩ := List.mem_map.1 hx
          have hi := List.mem_range.1 hi
          rw [hrw i hi]
          exact (hel i hi).choose_spec.choose_spec.2.1
        · rcases Nat.eq_zero_or_pos len with h0 | h0
          · subst h0
            exact Rep.empty (by omega)
          · have ha := hsp 0 h0
            obtain ⟨b, o, sp⟩ := a
            simp only at ha
            subst ha
            let vv : Nat → Nat → Value := fun i j => ((W.cells? 0 ((⟨b, o, none⟩ : Addr).add (i * P.cellsOf e)) (P.cellsOf e)).getD []).getD j undef
            have hrow : ∀ i (hi : i < len), ∃ vs : List Value, W.cells? 0 ((⟨b, o, none⟩ : Addr).add (i * P.cellsOf e)) (P.cellsOf e) = some vs ∧ RowR (Jof W) vs (rw' i) := fun i hi => by
              obtain ⟨vs, e1, _, e3, _⟩ := (hel i hi).choose_spec
              exact ⟨vs, e1, by rw [hrw i hi]; exact e3⟩
            have hlen : ((List.range len).map rw').length = len := by simp
            have := Rep.slice (J := Jof W) (b := b) (off := o) (cap := cap) (wd := P.cellsOf e) (xs := (List.range len).map rw') vv (by simpa using h2) h3 (fun r hr => by
              obtain ⟨i, hi, rfl⟩ := List.mem_map.1 hr
              obtain ⟨vs, e1, e3⟩ := hrow i (List.mem_range.1 hi)
              rw [← e3.len]; exact (cells_get e1).1) (fun i j hi hj => by
              rw [hlen] at hi
              obtain ⟨vs, e1, e3⟩ := hrow i hi
              obtain ⟨g1, g2⟩ := cells_get e1
              have hj' : j < vs.length := by omega
              have hv : vs[j]? = some (vv i j) := by
                simp only [vv, e1, Option.getD_some]
                rw [List.getD_eq_getElem?_getD, List.getElem?_eq_getElem hj']; rfl
              have hcell := g2 j _ hv
              rw [addr_add, addr_add] at hcell
              exact Jof_mk hcell (e3.one _ (List.mem_of_getElem? hv))) (fun i j r d hr hd => by
              obtain ⟨hi, rfl⟩ := List.getElem?_eq_some_iff.1 hr
              rw [hlen] at hi
              simp only [List.getElem_map, List.getElem_range] at hd
              obtain ⟨vs, e1, e3⟩ := hrow i hi
              have hj' : j < vs.length := by rw [e3.len]; exact (List.getElem?_eq_some_iff.1 hd).1
              refine e3.rep j _ d ?_ hd
              simp only [vv, e1, Option.getD_some]
              rw [List.getD_eq_getElem?_getD, List.getElem?_eq_getElem hj']; rfl)
            rw [hlen] at this
            exact this
        · have hle := wt_rows rw' (elems.map (·.1)) (fun i d hd => by
            have hi : i < len := by have := (List.getElem?_eq_some_iff.1 hd).1; simp at this; omega
            rw [hrw i hi]
            exact (hel i hi).choose_spec.choose_spec.2.2.2 d hd)
          rw [List.length_map, h4] at hle
          simp only [wtL, wt, szD]
          omega
    · rename_i fs hu
      simp only [Bool.and_eq_true, List.all_eq_true] at hs
      obtain ⟨htile, hs⟩ := hs
      obtain ⟨xs, n, rfl, rfl, hl, hlen, hf⟩ := DataW.trod_struct hu h
      simp only [DataW.weights, hu] at hw
      have key : ∀ (fl : List Field) (ys : List (DataW H × List MemPlace)) (s : Nat), tile P fl s (P.cellsOf t) = true → (∀ f ∈ fl, supp P m f.type = true) → ys.length = fl.length →
          (∀ (i : Nat) (f : Field), fl[i]? = some f → DataW.trod enc P W 0 (fun _ => true) true n f.type ((cs.drop f.offset).take (P.cellsOf f.type)) = ys[i]?) →
          (∀ k ∈ DataW.weightsEach P (fl.map (·.type)) (ys.map (·.1)), k ≤ reachBytes) → ∃ r, TyF (Ty P m) fl r ∧ RowR (Jof W) (cs.drop s) r ∧ wtL r ≤ szL (ys.map (·.1)) := by
        intro fl
        induction fl with
        | nil =>
          intro ys s ht _ _ _ _
          simp only [tile, beq_iff_eq] at ht
          refine ⟨[], rfl, ?_, by simp [wtL]⟩
          rw [List.drop_eq_nil_of_le (by omega)]
          exact RowR.nil _
        | cons f fl ihf =>
          intro ys s ht hsup hyl hget hwt
          simp only [tile, Bool.and_eq_true, beq_iff_eq] at ht
          obtain ⟨hoff, ht⟩ := ht
          cases ys with
          | nil => simp at hyl
          | cons y ys =>
            have h0 := hget 0 f rfl
            simp only [List.getElem?_cons_zero] at h0
            obtain ⟨r1, t1, q1, u1⟩ := ih f.type _ n y (hsup f (by simp)) h0 (fun k hk => hwt k (by simp only [List.map_cons]; exact wEach_cons.2 (Or.inl hk)))
            obtain ⟨r2, t2, q2, u2⟩ := ihf ys (s + P.cellsOf f.type) ht (fun g hg => hsup g (by simp [hg])) (by simpa using hyl) (fun i g hg => by simpa using hget (i + 1) g (by simpa using hg))
              (fun k hk => hwt k (by simp only [List.map_cons]; exact wEach_cons.2 (Or.inr hk)))
            refine ⟨r1 ++ r2, ⟨r1, r2, t1, t2, rfl⟩, ?_, by rw [wtL_append, List.map_cons]; simp only [szL]; omega⟩
            have := q1.append q2
            rw [hoff, ← List.drop_drop, List.take_append_drop] at this
            exact this
      obtain ⟨r, t1, q1, u1⟩ := key fs.toList xs 0 htile (fun f hf => hs f hf) (by simpa using hlen) (fun i f hf' => hf i f (by simpa using hf')) hw
      exact ⟨r, t1, by simpa using q1, by simp only [szD]; omega⟩
    · rename_i n0 e hu
      simp only [Bool.and_eq_true, decide_eq_true_eq] at hs
      obtain ⟨hsz, hs⟩ := hs
      cases fuel with
      | zero => simp [DataW.trod] at h
      | succ fuel =>
        have hx : ∃ ys, (List.range n0).mapM (fun i => DataW.trod enc P W 0 (fun _ => true) true fuel e ((cs.drop (i * P.cellsOf e)).take (P.cellsOf e))) = some ys ∧ x = (.agg (ys.map (·.1)), ys.flatMap (·.2)) ∧ cs.length = P.cellsOf t := by
          unfold DataW.trod at h
          rw [hu] at h
          split at h <;> simp_all
          obtain ⟨h1, ys, h2, h3⟩ := h
          exact ⟨ys, h2, h3.symm⟩
        obtain ⟨ys, hys, rfl, hl⟩ := hx
        simp only [DataW.weights, hu] at hw
        obtain ⟨hyl, hget⟩ := mapM_get hys
        simp at hyl
        have key : ∀ (k s : Nat), s + k = n0 → ∃ r, TyA (Ty P m e) k r ∧ RowR (Jof W) (cs.drop (s * P.cellsOf e)) r ∧ wtL r ≤ szL ((ys.map (·.1)).drop s) := by
          intro k
          induction k with
          | zero =>
            intro s hk
            refine ⟨[], rfl, ?_, by simp [wtL]⟩
            rw [List.drop_eq_nil_of_le (by rw [hl, ← hsz]; exact Nat.mul_le_mul_right _ (by omega))]
            exact RowR.nil _
          | succ k ihk =>
            intro s hk
            obtain ⟨y, hy⟩ : ∃ y, ys[s]? = some y := ⟨_, List.getElem?_eq_getElem (by omega)⟩
            have h0 := hget s s y (by rw [List.getElem?_range (by omega)]) hy
            obtain ⟨r1, t1, q1, u1⟩ := ih e _ fuel y hs h0 (fun n hn => hw n (wAll_mem (List.mem_map.2 ⟨y, List.mem_of_getElem? hy, rfl⟩) hn))
            obtain ⟨r2, t2, q2, u2⟩ := ihk (s + 1) (by omega)
            have hdr : (ys.map (·.1)).drop s = y.1 :: (ys.map (·.1)).drop (s + 1) := by
              have hlt : s < ys.length := by omega
              rw [List.drop_eq_getElem_cons (by simpa using hlt), List.getElem_map]
              rw [List.getElem?_eq_getElem hlt, Option.some.injEq] at hy
              rw [hy]
            refine ⟨r1 ++ r2, ⟨r1, r2, t1, t2, rfl⟩, ?_, by rw [wtL_append, hdr]; simp only [szL]; omega⟩
            have := q1.append q2
            rw [show (s + 1) * P.cellsOf e = s * P.cellsOf e + P.cellsOf e from Nat.succ_mul _ _, ← List.drop_drop, List.take_append_drop] at this
            exact this
        obtain ⟨r, t1, q1, u1⟩ := key n0 0 (by omega)
        exact ⟨r, t1, by simpa using q1, by simp only [szD]; rw [List.drop_zero] at u1; omega⟩
    · cases hs
theorem read_argW {m : Nat} {t : TypeId} {v : Value} {d : DataW H} {ps : List MemPlace} {W0 : World} {base : Nat} (hs : supp P m t = true) (hok : Value.okWide P W0 .any base t v) (h : DataW.Trod enc P W 0 (fun _ => true) true t v d ps)
    (hw : ∀ n ∈ d.weights P t, n ≤ reachBytes) : ∃ r, Ty P m t r ∧ Rep (Jof W) v (argOf P t r) ∧ wtL r ≤ szD d := by
  obtain ⟨fuel, h⟩ := h
  obtain ⟨r, h1, h2, h2w⟩ := read_rowW m t _ fuel (d, ps) hs h hw
  refine ⟨r, h1, ?_, h2w⟩
  have hagg : (∃ cs, v = .agg cs) → Rep (Jof W) v (.agg r) := fun ⟨cs, e⟩ => by
    subst e
    refine .agg (by simpa [Value.cells] using h2.len) (fun i v d hv hd => h2.rep i v d (by simpa [Value.cells] using hv) hd)
  have hone : (∀ cs, v ≠ .agg cs) → ∃ d, r = [d] ∧ Rep (Jof W) v d := fun hn => by
    rw [cells_plain hn] at h2
    exact row_one h2
  have hpl : ∀ T : TypeDesc, P.underlying t = some T → (∀ fs, T ≠ .struct fs) → (∀ n e, T ≠ .array n e) → Rep (Jof W) v (argOf P t r) := fun T hT h3 h4 => by
    have hn : ∀ cs, v ≠ .agg cs := fun cs e => by
      subst e
      unfold Value.okWide at hok
      rw [hT] at hok
      cases T <;> first | (exact absurd rfl (h3 _)) | (exact absurd rfl (h4 _ _)) | (simp [Cell.okWide, Cell.ok, hT] at hok)
    obtain ⟨d, rfl, hr⟩ := hone hn
    unfold argOf
    rw [hT]
    cases T <;> first | exact hr | (exact absurd rfl (h3 _)) | (exact absurd rfl (h4 _ _))
  cases m with
  | zero => simp [supp] at hs
  | succ m =>
    unfold supp at hs
    split at hs
    · rename_i hu; exact hpl _ hu (by simp) (by simp)
    · rename_i hu; exact hpl _ hu (by simp) (by simp)
    · rename_i hu; exact hpl _ hu (by simp) (by simp)
    · rename_i hu; exact hpl _ hu (by simp) (by simp)
    · rename_i fs hu
      unfold Value.okWide at hok
      rw [hu] at hok
      obtain ⟨cs, e, _⟩ := hok
      unfold argOf
      rw [hu]
      exact hagg ⟨cs, e⟩
    · rename_i n e hu
      unfold Value.okWide at hok
      rw [hu] at hok
      obtain ⟨cs, e, _⟩ := hok
      unfold argOf
      rw [hu]
      exact hagg ⟨cs, e⟩
    · cases hs
theorem read_argsW {m : Nat} {W0 : World} {base : Nat} : ∀ {ts : List TypeId} {vs : List Value} {ds : List (DataW H)} {ps : List MemPlace}, (∀ t ∈ ts, supp P m t = true) → (∀ (j : Nat) t v, ts[j]? = some t → vs[j]? = some v → Value.okWide P W0 .any base t v) →
    DataW.TrodAll enc P W 0 (fun _ => true) true ts vs ds ps → (∀ n ∈ DataW.weightsEach P ts ds, n ≤ reachBytes) →
    ∃ rs, TyL P m ts rs ∧ vs.length = (argsOf P ts rs).length ∧ (∀ (i : Nat) v d, vs[i]? = some v → (argsOf P ts rs)[i]? = some d → Rep (Jof W) v d) ∧ wtLL rs ≤ szL ds
  | [], vs, ds, ps, _, _, h, _ => by
    obtain ⟨rfl, rfl, rfl⟩ := trodAll_nil h
    exact ⟨[], trivial, rfl, fun i v d h => by simp at h, by simp [wtLL]⟩
  | t :: ts, vs, ds, ps, hs, hok, h, hw => by
    obtain ⟨v, vs1, d, ds1, a, b, rfl, rfl, rfl, h1, h2⟩ := trodAll_cons h
    obtain ⟨r, g1, g2, g3⟩ := read_argW (hs t (by simp)) (hok 0 t v rfl rfl) h1 (fun n hn => hw n (wEach_cons.2 (Or.inl hn)))
    obtain ⟨rs, k1, k2, k3, k4⟩ := read_argsW (m := m) (W0 := W0) (base := base) (fun u hu => hs u (by simp [hu])) (fun j u w hu hw' => hok (j + 1) u w (by simpa using hu) (by simpa using hw')) h2 (fun n hn => hw n (wEach_cons.2 (Or.inr hn)))
    refine ⟨r :: rs, ⟨g1, k1⟩, by simp [argsOf, k2], fun i u e hu he => ?_, by simp only [wtLL, szL]; omega⟩
    cases i with
    | zero => simp [argsOf] at hu he; subst hu; subst he; exact g2
    | succ i => simp [argsOf] at hu he; exact k3 i u e hu he
/-- **A law's contract meets the form.** -/
theorem law_postW {f : FuncId} {fn : Func} {s : ChangeSpec} {apart fresh handsOn again : Bool} {m : Nat} {tb : TypeId} {ds : List (DataW H)} (hl : laidOutB P = true) (hread : ∀ t ∈ fn.params.toList, P.readableRec t = true ∧ t < P.types.size)
    (hs : ∀ t ∈ fn.params.toList, supp P m t = true) (hvars : s.vars = []) (hres : fn.resultTypes = #[tb]) (hub : P.underlying tb = some .bool)
    (hspec : ∀ (ds : List (DataW H)), ds.length = fn.params.toList.length → s.fn H ds = { results := [.lit (.bool true)], args := ds })
    (law : ∀ rs, TyL P m fn.params.toList rs → wtLL rs ≤ szL ds → FnWp P f (argsOf P fn.params.toList rs) (· = .ret (.bool true)))
    {base : Nat} {args : Array Value} {gs : List (DataW H)} {before : List MemPlace}
    (hval : ∀ (j : Nat) t v, fn.params[j]? = some t → args[j]? = some v → Value.okWide P W .any base t v)
    (hW : DataW.Whole enc P fn.params.toList s.vars apart W args.toList ds gs before)
    (hsz : (DataW.weightsEach P (fn.params.toList ++ s.plain.varTypes P) (ds ++ gs)).all (· ≤ reachBytes) = true) :
    Calls P f args W fun e W' => ∃ v, e = .returned v ∧ s.post enc P fn apart fresh handsOn again W args v W' := by
  have hW0 := hW
  obtain ⟨p, q, hA, hV, rfl, hfz, hnd⟩ := hW
  rw [hvars] at hV
  have hgs : gs = [] ∧ q = [] := by
    cases gs with
    | nil => exact ⟨rfl, hV⟩
    | cons g gs => exact hV.elim
  obtain ⟨rfl, rfl⟩ := hgs
  have hvt : s.plain.varTypes P = [] := by
    unfold DataSpec.varTypes
    rw [show s.plain.vars = [] from hvars]; rfl
  rw [hvt, List.append_nil, List.append_nil] at hsz
  obtain ⟨rs, h1, h2, h3, h4⟩ := read_argsW (m := m) (W0 := W) (base := base) hs (fun j t v hj hv => hval j t v (by simpa using hj) (by simpa using hv)) hA (fun n hn => by simpa using List.all_eq_true.1 hsz n hn)
  have hlt : ∀ x ∈ p, x.block < W.heap.size := fun x hx => hW0.lt x (by simpa using hx)
  have hdl := trodAll_len hA
  refine (law rs h1 h4 W (Jof W) args (Jof_holds W) ⟨by simpa using h2, fun i v d hv hd => h3 i v d (by simpa using hv) hd⟩).mono ?_
  rintro e W' ⟨o, J', hb, _, _, _, he, rfl⟩
  cases e with
  | returned v =>
    have hv : Rep J' v (.bool true) := he
    cases hv
    refine ⟨_, rfl, ds, [], p ++ [], [], p, [], hW0, ?_, ?_, ?_, hb.frame _, fun _ => ⟨?_, .lit (.bool true) :: ds, [], p ++ [], ⟨p, [], ?_, ?_, rfl, ?_, ?_⟩, ?_⟩⟩
    · rw [hres, List.append_nil, hspec ds hdl]
      exact trodAll_mk1 (shut_bool hub true)
    · rw [List.append_nil, hspec ds hdl]
      exact trodAll_stays hl hb hread hA (fun x hx => ⟨hlt x hx, by simpa using hlt x hx⟩)
    · rw [hvars, List.append_nil, hspec ds hdl]; rfl
    · exact ok_one hres rfl (okWide_bool_mk hub true)
    · rw [hres]
      exact ⟨[], p, shut_bool hub true, trodAll_stays hl hb hread hA (fun x hx => ⟨hlt x hx, rfl⟩), by simp⟩
    · rw [hvars]; rfl
    · intro b o hx
      have := hlt _ (by simpa using hx)
      rw [hb.frozen this]
      exact hfz b o (by simpa using hx)
    · exact hnd
    · intro x hx _
      exact hx
  | panicked ch => exact he.elim
  | outgrown => exact he.elim
end Go.Bf
