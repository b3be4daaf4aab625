/-
  From a contract on data to a claim's form. Nothing is claimed here.
-/
import Derived.Test.YtmejdolknkjjdaaBfBr
namespace Go.Bf
open Go Go.RowKit Go.ChangeShapes Go.WideShapes
/-- The argument that a row is. -/
def argOf (P : Program) (t : TypeId) (r : List DV) : DV :=
  match P.underlying t with
  | some (.struct _) => .agg r
  | some (.array _ _) => .agg r
  | _ => match r with | [d] => d | _ => .agg r
def TyL (P : Program) (m : Nat) : List TypeId → List (List DV) → Prop
  | [], [] => True
  | t :: ts, r :: rs => Ty P m t r ∧ TyL P m ts rs
  | _, _ => False
def argsOf (P : Program) : List TypeId → List (List DV) → List DV
  | t :: ts, r :: rs => argOf P t r :: argsOf P ts rs
  | _, _ => []
variable {H : Type} {enc : TypeId × Value → H} {P : Program} {W : World}
theorem cells_plain {v : Value} (h : ∀ cs, v ≠ .agg cs) : v.cells.toList = [v] := by
  cases v <;> first | rfl | (exact absurd rfl (h _))
theorem row_one {J : Imm} {v : Value} {r : List DV} (h : RowR J [v] r) : ∃ d, r = [d] ∧ Rep J v d := by
  have hl := h.len
  match r, hl with
  | [d], _ => exact ⟨d, rfl, h.rep 0 v d rfl rfl⟩
theorem read_arg {m : Nat} {t : TypeId} {v : Value} {d : DataW H} {ps : List MemPlace} {W0 : World} {base : Nat} (hs : supp P m t = true) (hok : Value.okWide P W0 .any base t v) (h : DataW.Trod enc P W 0 (fun _ => true) true t v d ps)
    (hw : ∀ n ∈ d.weights P t, n ≤ reachBytes) : ∃ r, Ty P m t r ∧ Rep (Jof W) v (argOf P t r) := by
  obtain ⟨fuel, h⟩ := h
  obtain ⟨r, h1, h2⟩ := read_row m t _ fuel (d, ps) hs h hw
  refine ⟨r, h1, ?_⟩
  have hagg : (∃ cs, v = .agg cs) → Rep (Jof W) v (.agg r) := fun ⟨cs, e⟩ => by
    subst e
    refine .agg (by simpa [Value.cells] using h2.len) (fun i v d hv hd => h2.rep i v d (by simpa [Value.cells] using hv) hd)
  have hone : (∀ cs, v ≠ .agg cs) → ∃ d, r = [d] ∧ Rep (Jof W) v d := fun hn => by
    rw [cells_plain hn] at h2
    exact row_one h2
  have hpl : ∀ T : TypeDesc, P.underlying t = some T → (∀ fs, T ≠ .struct fs) → (∀ n e, T ≠ .array n e) → Rep (Jof W) v (argOf P t r) := fun T hT h3 h4 => by
    have hn : ∀ cs, v ≠ .agg cs := fun cs e => by
      subst e
      unfold Value.okWide at hok
      rw [hT] at hok
      cases T <;> first | (exact absurd rfl (h3 _)) | (exact absurd rfl (h4 _ _)) | (simp [Cell.okWide, Cell.ok, hT] at hok)
    obtain ⟨d, rfl, hr⟩ := hone hn
    unfold argOf
    rw [hT]
    cases T <;> first | exact hr | (exact absurd rfl (h3 _)) | (exact absurd rfl (h4 _ _))
  cases m with
  | zero => simp [supp] at hs
  | succ m =>
    unfold supp at hs
    split at hs
    · rename_i hu; exact hpl _ hu (by simp) (by simp)
    · rename_i hu; exact hpl _ hu (by simp) (by simp)
    · rename_i hu; exact hpl _ hu (by simp) (by simp)
    · rename_i hu; exact hpl _ hu (by simp) (by simp)
    · rename_i fs hu
      unfold Value.okWide at hok
      rw [hu] at hok
      obtain ⟨cs, e, _⟩ := hok
      unfold argOf
      rw [hu]
      exact hagg ⟨cs, e⟩
    · rename_i n e hu
      unfold Value.okWide at hok
      rw [hu] at hok
      obtain ⟨cs, e, _⟩ := hok
      unfold argOf
      rw [hu]
      exact hagg ⟨cs, e⟩
    · cases hs
theorem read_args {m : Nat} {W0 : World} {base : Nat} : ∀ {ts : List TypeId} {vs : List Value} {ds : List (DataW H)} {ps : List MemPlace}, (∀ t ∈ ts, supp P m t = true) → (∀ (j : Nat) t v, ts[j]? = some t → vs[j]? = some v → Value.okWide P W0 .any base t v) →
    DataW.TrodAll enc P W 0 (fun _ => true) true ts vs ds ps → (∀ n ∈ DataW.weightsEach P ts ds, n ≤ reachBytes) →
    ∃ rs, TyL P m ts rs ∧ vs.length = (argsOf P ts rs).length ∧ ∀ (i : Nat) v d, vs[i]? = some v → (argsOf P ts rs)[i]? = some d → Rep (Jof W) v d
  | [], vs, ds, ps, _, _, h, _ => by
    obtain ⟨rfl, rfl, rfl⟩ := trodAll_nil h
    exact ⟨[], trivial, rfl, fun i v d h => by simp at h⟩
  | t :: ts, vs, ds, ps, hs, hok, h, hw => by
    obtain ⟨v, vs1, d, ds1, a, b, rfl, rfl, rfl, h1, h2⟩ := trodAll_cons h
    obtain ⟨r, g1, g2⟩ := read_arg (hs t (by simp)) (hok 0 t v rfl rfl) h1 (fun n hn => hw n (wEach_cons.2 (Or.inl hn)))
    obtain ⟨rs, k1, k2, k3⟩ := read_args (m := m) (W0 := W0) (base := base) (fun u hu => hs u (by simp [hu])) (fun j u w hu hw' => hok (j + 1) u w (by simpa using hu) (by simpa using hw')) h2 (fun n hn => hw n (wEach_cons.2 (Or.inr hn)))
    refine ⟨r :: rs, ⟨g1, k1⟩, by simp [argsOf, k2], fun i u e hu he => ?_⟩
    cases i with
    | zero => simp [argsOf] at hu he; subst hu; subst he; exact g2
    | succ i => simp [argsOf] at hu he; exact k3 i u e hu he
theorem trodAll_len {W' : World} {b : Nat} {sp : Nat → Bool} {hd : Bool} : ∀ {ts : List TypeId} {vs : List Value} {ds : List (DataW H)} {ps : List MemPlace}, DataW.TrodAll enc P W' b sp hd ts vs ds ps → ds.length = ts.length
  | [], _, _, _, h => by obtain ⟨_, rfl, _⟩ := trodAll_nil h; rfl
  | t :: ts, _, _, _, h => by
    obtain ⟨v, vs1, d, ds1, a, b, rfl, rfl, rfl, h1, h2⟩ := trodAll_cons h
    simp [trodAll_len h2]
theorem trodAll_stays {W' : World} {sp : Nat → Bool} (hl : laidOutB P = true) (hb : Below W.heap.size W W') : ∀ {ts : List TypeId} {vs : List Value} {ds : List (DataW H)} {ps : List MemPlace}, (∀ t ∈ ts, P.readableRec t = true ∧ t < P.types.size) →
    DataW.TrodAll enc P W 0 (fun _ => true) true ts vs ds ps → (∀ p ∈ ps, p.block < W.heap.size ∧ sp p.block = true) → DataW.TrodAll enc P W' 0 sp true ts vs ds ps
  | [], _, _, _, _, h, _ => by obtain ⟨rfl, rfl, rfl⟩ := trodAll_nil h; rfl
  | t :: ts, _, _, _, hr, h, hp => by
    obtain ⟨v, vs1, d, ds1, a, b, rfl, rfl, rfl, h1, h2⟩ := trodAll_cons h
    exact ⟨a, b, WideElems.Trod_stays hl (hr t (by simp)).1 (hr t (by simp)).2 h1 (fun p hp' => hb.same (hp p (by simp [hp'])).1) (fun p hp' => (hp p (by simp [hp'])).2),
      trodAll_stays hl hb (fun u hu => hr u (by simp [hu])) h2 (fun p hp' => hp p (by simp [hp'])), rfl⟩
/-- **A law's contract meets the form.** -/
theorem law_post {f : FuncId} {fn : Func} {s : ChangeSpec} {apart fresh handsOn again : Bool} {m : Nat} {tb : TypeId} (hl : laidOutB P = true) (hread : ∀ t ∈ fn.params.toList, P.readableRec t = true ∧ t < P.types.size)
    (hs : ∀ t ∈ fn.params.toList, supp P m t = true) (hvars : s.vars = []) (hres : fn.resultTypes = #[tb]) (hub : P.underlying tb = some .bool)
    (hspec : ∀ (ds : List (DataW H)), ds.length = fn.params.toList.length → s.fn H ds = { results := [.lit (.bool true)], args := ds })
    (law : ∀ rs, TyL P m fn.params.toList rs → FnWp P f (argsOf P fn.params.toList rs) (· = .ret (.bool true)))
    {base : Nat} {args : Array Value} {ds gs : List (DataW H)} {before : List MemPlace}
    (hval : ∀ (j : Nat) t v, fn.params[j]? = some t → args[j]? = some v → Value.okWide P W .any base t v)
    (hW : DataW.Whole enc P fn.params.toList s.vars apart W args.toList ds gs before)
    (hsz : (DataW.weightsEach P (fn.params.toList ++ s.plain.varTypes P) (ds ++ gs)).all (· ≤ reachBytes) = true) :
    Calls P f args W fun e W' => ∃ v, e = .returned v ∧ s.post enc P fn apart fresh handsOn again W args v W' := by
  have hW0 := hW
  obtain ⟨p, q, hA, hV, rfl, hfz, hnd⟩ := hW
  rw [hvars] at hV
  have hgs : gs = [] ∧ q = [] := by
    cases gs with
    | nil => exact ⟨rfl, hV⟩
    | cons g gs => exact hV.elim
  obtain ⟨rfl, rfl⟩ := hgs
  have hvt : s.plain.varTypes P = [] := by
    unfold DataSpec.varTypes
    rw [show s.plain.vars = [] from hvars]; rfl
  rw [hvt, List.append_nil, List.append_nil] at hsz
  obtain ⟨rs, h1, h2, h3⟩ := read_args (m := m) (W0 := W) (base := base) hs (fun j t v hj hv => hval j t v (by simpa using hj) (by simpa using hv)) hA (fun n hn => by simpa using List.all_eq_true.1 hsz n hn)
  have hlt : ∀ x ∈ p, x.block < W.heap.size := fun x hx => hW0.lt x (by simpa using hx)
  have hdl := trodAll_len hA
  refine (law rs h1 W (Jof W) args (Jof_holds W) ⟨by simpa using h2, fun i v d hv hd => h3 i v d (by simpa using hv) hd⟩).mono ?_
  rintro e W' ⟨o, J', hb, _, _, _, he, rfl⟩
  cases e with
  | returned v =>
    have hv : Rep J' v (.bool true) := he
    cases hv
    refine ⟨_, rfl, ds, [], p ++ [], [], p, [], hW0, ?_, ?_, ?_, hb.frame _, fun _ => ⟨?_, .lit (.bool true) :: ds, [], p ++ [], ⟨p, [], ?_, ?_, rfl, ?_, ?_⟩, ?_⟩⟩
    · rw [hres, List.append_nil, hspec ds hdl]
      exact trodAll_mk1 (shut_bool hub true)
    · rw [List.append_nil, hspec ds hdl]
      exact trodAll_stays hl hb hread hA (fun x hx => ⟨hlt x hx, by simpa using hlt x hx⟩)
    · rw [hvars, List.append_nil, hspec ds hdl]; rfl
    · exact ok_one hres rfl (okWide_bool_mk hub true)
    · rw [hres]
      exact ⟨[], p, shut_bool hub true, trodAll_stays hl hb hread hA (fun x hx => ⟨hlt x hx, rfl⟩), by simp⟩
    · rw [hvars]; rfl
    · intro b o hx
      have := hlt _ (by simpa using hx)
      rw [hb.frozen this]
      exact hfz b o (by simpa using hx)
    · exact hnd
    · intro x hx _
      exact hx
  | panicked ch => exact he.elim
  | outgrown => exact he.elim
end Go.Bf
