/-
  The operations that only read, all together. Nothing is claimed here.
-/
import Derived.Test.YtmejdolknkjjdaaBfG
import Derived.Laws.BytesArg
import Derived.Lib.ConvBytes
namespace Go.Bf
open Go Go.RowKit
variable {P : Program}

theorem isU8_eq {t : TypeId} (h : isU8 P t = true) : P.underlying t = some (.int .u8) := by
  unfold isU8 at h; split at h
  · assumption
  · cases h

theorem bytesOf_eq {xs : List (List DV)} : ∀ (_ : IsBytes xs) (i : Nat), i < xs.length → ∃ n, xs[i]? = some [.int .u8 n] ∧ (bytesOf xs)[i]? = some (UInt8.ofNat n.toNat) := by
  induction xs with
  | nil => intro _ i hi; simp at hi
  | cons r xs ih =>
    intro h i hi
    obtain ⟨n, rfl⟩ := h r (by simp)
    cases i with
    | zero => exact ⟨n, rfl, rfl⟩
    | succ i => exact ih (fun q hq => h q (by simp [hq])) i (by simpa using hi)
theorem bytesOf_len : ∀ (xs : List (List DV)), (bytesOf xs).length = xs.length := by
  intro xs
  induction xs with
  | nil => rfl
  | cons r xs ih => unfold bytesOf; split <;> simp_all

/-- The numbers that rows of one cell each are. -/
def numsOf : List (List DV) → List Int
  | [.int .u8 n] :: r => n :: numsOf r
  | _ :: r => 0 :: numsOf r
  | [] => []
theorem numsOf_len : ∀ (xs : List (List DV)), (numsOf xs).length = xs.length := by
  intro xs
  induction xs with
  | nil => rfl
  | cons r xs ih => unfold numsOf; split <;> simp_all
theorem bytesOf_nums {xs : List (List DV)} (h : IsBytes xs) : bytesOf xs = (numsOf xs).map fun n => UInt8.ofNat n.toNat := by
  induction xs with
  | nil => rfl
  | cons r xs ih =>
    obtain ⟨n, rfl⟩ := h r (by simp)
    simp [bytesOf, numsOf, ih fun q hq => h q (by simp [hq])]
theorem numsOf_get {xs : List (List DV)} (h : IsBytes xs) {i : Nat} (hi : i < xs.length) : xs[i]? = some [.int .u8 ((numsOf xs).getD i 0)] := by
  induction xs generalizing i with
  | nil => simp at hi
  | cons r xs ih =>
    obtain ⟨n, rfl⟩ := h r (by simp)
    cases i with
    | zero => simp [numsOf]
    | succ i => simpa [numsOf] using ih (fun q hq => h q (by simp [hq])) (by simpa using hi)

theorem run_conv_bytes {x : Ctx} {K : Know} {a : Act} {w : World} (hm : Models x K a w) {src dst e : TypeId} (hs : P.underlying src = some (.slice e)) (he : P.underlying e = some (.int .u8)) (hd : P.underlying dst = some .string)
    {v : Value} {xs : List (List DV)} (hv : Rep x.J v (.list xs)) (hb : IsBytes xs) : ∃ z, (convert src dst v).run P w = .ok z w ∧ SRep x.J x.β z (.d (.str (bytesOf xs))) := by
  have hlen : xs.length ≤ maxLen := by
    obtain ⟨ad, cap, rfl⟩ := rep_list_inv hv
    have := rep_list_some hv; omega
  have hrep : SRep x.J x.β (.string (strOfNums (numsOf xs))) (.d (.str (bytesOf xs))) := by
    rw [bytesOf_nums hb]
    exact .d (.str (by rw [List.length_map, numsOf_len]; exact hlen))
  cases hv with
  | @empty ad cap hc =>
    cases ad with
    | none => exact ⟨_, run_convert_bytes_nil w src e hs he _ _ dst hd, .d (.str (by simp [bytesOf]))⟩
    | some ad =>
      refine ⟨_, ?_, .d (.str (by simp [bytesOf]))⟩
      rw [run_convert_bytes_string w src dst e _ _ _ hs he hd, run_bytesToString w ad 0 cap [] (by simp [loadCells, loadCellsFrom])]
      rfl
  | @slice b off cap wd _ vs hcap hmx hw hc hr =>
    refine ⟨_, run_convert_bytes_arg w src e hs he b off _ cap (numsOf xs) (numsOf_len xs) (fun i hi => ?_) dst hd, hrep⟩
    have hx := numsOf_get hb hi
    have hwd : wd = 1 := by rw [← hw _ (List.mem_of_getElem? hx)]; rfl
    subst hwd
    have h1 := hm.holds _ _ _ (hc i 0 hi (by omega))
    have h2 := hr i 0 _ _ hx rfl
    rw [Nat.mul_one, Nat.add_zero] at h1
    rw [h1]
    generalize vs i 0 = u at h2
    cases h2 with | int _ => rfl

theorem ownCells_get {mem : Mem} {b wd off len : Nat} {cells : List SV} (h : ownCells mem b wd off len = some cells) : ∃ t all, mem b = .live t all ∧ cells = (all.drop off).take (len * wd) := by
  unfold ownCells at h
  split at h
  · rename_i t all hb; cases h; exact ⟨t, all, hb, rfl⟩
  · cases h

theorem tk_ok {t : TypeId} (h : (tk P t).ok = true) : ∃ d, P.underlying t = some d := by
  cases hu : P.underlying t with
  | none => simp [tk, hu, TK.ok] at h
  | some d => exact ⟨d, rfl⟩

theorem tk_conc {t : TypeId} (h : (tk P t).conc = true) : ∃ d, P.underlying t = some d ∧ ∀ ms, d ≠ .interface ms := by
  cases hu : P.underlying t with
  | none => simp [tk, hu, TK.conc] at h
  | some d =>
    refine ⟨d, rfl, fun ms e => ?_⟩
    subst e
    simp [tk, hu, TK.conc] at h

theorem convF_sound {x : Ctx} {K : Know} {a : Act} {w : World} (hm : Models x K a w) {src dst : TypeId} {u : Value} {s s' : SV} {vc : Prop} (hs : SRep x.J x.β u s)
    (h : convF P K.mem src dst s = some (vc, s')) (hvc : vc) : ∃ z, (convert src dst u).run P w = .ok z w ∧ SRep x.J x.β z s' := by
  unfold convF at h
  have hsrc : ∀ {k : EK}, tk P src = .slice k → k.u8 = true → ∃ e, P.underlying src = some (.slice e) ∧ P.underlying e = some (.int .u8) := fun hk h8 => by
    obtain ⟨e, hu, he⟩ := tk_slice hk
    obtain ⟨i, h1, h2, h3, h4, h5, h6, h7⟩ := ek_info he
    exact ⟨e, hu, isU8_eq (h5.trans h8)⟩
  split at h
  · rename_i k k' n hk
    have hu := tk_int hk
    split at h
    · rename_i hok
      obtain ⟨d, hd⟩ := tk_ok hok
      simp only [Option.some.injEq, Prod.mk.injEq] at h
      obtain ⟨rfl, rfl⟩ := h
      have h1 := d_inv hs
      cases h1
      refine ⟨_, ?_, .d (.int (inK_wrap _ _))⟩
      simp only [convert, Sem.run_bind, run_underlying' hd, run_underlying' hu, Result.andThen_ok]
      rfl
    · cases h
  · rename_i l hk
    have hu := tk_str hk
    split at h
    · rename_i hok
      obtain ⟨d, hd⟩ := tk_ok hok
      simp only [Option.some.injEq, Prod.mk.injEq] at h
      obtain ⟨rfl, rfl⟩ := h
      have h1 := d_inv hs
      cases h1 with
      | str hl =>
        refine ⟨_, ?_, .d (.str hl)⟩
        simp only [convert, Sem.run_bind, run_underlying' hd, run_underlying' hu, Result.andThen_ok]
        rfl
    · cases h
  · rename_i xs hk
    split at h
    · rename_i k hk'
      split at h
      · rename_i h8
        simp only [Option.some.injEq, Prod.mk.injEq] at h
        obtain ⟨rfl, rfl⟩ := h
        obtain ⟨e, e1, e2⟩ := hsrc hk' h8
        exact run_conv_bytes hm e1 e2 (tk_str hk) (d_inv hs) hvc
      · cases h
    · cases h
  · rename_i xs hk
    split at h
    · rename_i k hk'
      split at h
      · rename_i h8
        simp only [Option.some.injEq, Prod.mk.injEq] at h
        obtain ⟨rfl, rfl⟩ := h
        obtain ⟨e, e1, e2⟩ := hsrc hk' h8
        obtain ⟨_, _, hv⟩ := clip_inv hs
        exact run_conv_bytes hm e1 e2 (tk_str hk) hv hvc
      · cases h
    · cases h
  · rename_i b wd off len c hk
    split at h
    · rename_i k hk'
      split at h
      · rename_i h8
        obtain ⟨e, e1, e2⟩ := hsrc hk' h8
        split at h
        · rename_i cells hc
          split at h
          · rename_i ds hds
            simp only [Option.some.injEq, Prod.mk.injEq] at h
            obtain ⟨rfl, rfl⟩ := h
            obtain ⟨t, all, hb, rfl⟩ := ownCells_get hc
            obtain ⟨g1, rfl, g3⟩ := hvc
            obtain ⟨B, sz, t'', h1, h2, h3⟩ := hm.cell hb
            obtain ⟨cap, rfl, g4, g5, g6, _⟩ := own_inv hs h1
            have hall := allD_eq hds
            refine ⟨_, run_convert_bytes_arg w src e e1 e2 B off len cap (numsOf (ds.map fun d => [d])) (by rw [numsOf_len, List.length_map, g3]) (fun i hi => ?_) dst (tk_str hk), ?_⟩
            · have hx := numsOf_get g1 (i := i) (by rw [List.length_map]; omega)
              have hcell : all[off + i]? = some (.d (.int .u8 ((numsOf (ds.map fun d => [d])).getD i 0))) := by
                have : ((all.drop off).take (len * 1))[i]? = (ds.map SV.d)[i]? := by rw [hall]
                rw [List.getElem?_take, if_pos (by omega), List.getElem?_drop] at this
                rw [this]
                rw [List.getElem?_map, Option.map_eq_some_iff] at hx ⊢
                obtain ⟨d, hd, he⟩ := hx
                simp only [List.cons.injEq, and_true] at he
                exact ⟨d, hd, by rw [he]⟩
              obtain ⟨v, e3, r⟩ := h3 _ _ hcell
              rw [e3]
              have := d_inv r
              generalize (numsOf (ds.map fun d => [d])).getD i 0 = q at this
              cases this with | int _ => rfl
            · rw [bytesOf_nums g1]
              exact .d (.str (by rw [List.length_map, numsOf_len, List.length_map]; omega))
          · cases h
        · cases h
      · cases h
    · cases h
  · cases h

theorem extractF_sound {x : Ctx} {w : World} {i : Nat} {u : Value} {s s' : SV} {vc : Prop} (hs : SRep x.J x.β u s) (h : extractF i s = some (vc, s')) : ∃ z, (Instr.extract u i).run P w = .ok z w ∧ SRep x.J x.β z s' := by
  unfold extractF at h
  split at h
  · rename_i ds
    simp only [Option.map_eq_some_iff, Prod.mk.injEq] at h
    obtain ⟨d, hd, rfl, rfl⟩ := h
    have h1 := d_inv hs
    cases h1 with
    | @tup cs _ hl hh =>
      have hlt : i < cs.size := by rw [hl]; exact (List.getElem?_eq_some_iff.1 hd).1
      exact ⟨cs[i], by simp [Instr.extract, hlt], .d (hh i _ _ (Array.getElem?_eq_getElem hlt) hd)⟩
  · cases h

theorem lenF_sound {x : Ctx} {K : Know} {a : Act} {w : World} (hm : Models x K a w) {u : Value} {s : SV} {n : Nat} (hs : SRep x.J x.β u s) (h : lenF K.mem s = some n) :
    ∃ ad cap, u = .slice ad n cap ∧ n ≤ maxLen := by
  unfold lenF at h
  split at h
  · rename_i xs
    cases h
    obtain ⟨ad, cap, rfl⟩ := rep_list_inv (d_inv hs)
    have := rep_list_some (d_inv hs)
    exact ⟨ad, cap, rfl, by omega⟩
  · cases h
    obtain ⟨ad, rfl, hv⟩ := clip_inv hs
    have := rep_list_some hv
    exact ⟨ad, _, rfl, by omega⟩
  · split at h
    · rename_i t cells hb
      cases h
      obtain ⟨B, sz, t'', h1, h2, h3⟩ := hm.cell hb
      obtain ⟨cap, rfl, g4, g5, g6, _⟩ := own_inv hs h1
      exact ⟨_, cap, rfl, by omega⟩
    · cases h
  · cases h

theorem lenS_sound {x : Ctx} {u : Value} {s : SV} {n : Nat} (hs : SRep x.J x.β u s) (h : lenS s = some n) :
    ∃ l : List UInt8, u = .string ⟨l.toArray⟩ ∧ n = l.length ∧ n ≤ maxLen := by
  unfold lenS at h
  split at h
  · cases h
    have h1 := d_inv hs
    cases h1 with | str hl => exact ⟨_, rfl, rfl, hl⟩
  · cases h

theorem rdO_sound {x : Ctx} {a : Act} {rd : Operand → Option SV} {q : Option Operand} {s : Option SV} (hrd : ∀ u, q = some u → ∀ s, rd u = some s → SRep x.J x.β (a.eval u) s) (h : rdO rd q = some s) : OptR x (q.map a.eval) s := by
  cases q with
  | none => simp only [rdO, Option.some.injEq] at h; subst h; trivial
  | some u =>
    simp only [rdO, Option.map_eq_some_iff] at h
    obtain ⟨s', h1, rfl⟩ := h
    exact hrd u rfl s' h1

theorem mapM_get {α β : Type} {f : α → Option β} : ∀ {l : List α} {r : List β}, l.mapM f = some r → r.length = l.length ∧ ∀ (i : Nat) a b, l[i]? = some a → r[i]? = some b → f a = some b := by
  intro l
  induction l with
  | nil => intro r h; simp at h; subst h; exact ⟨rfl, fun i a b h => by simp at h⟩
  | cons x l ih =>
    intro r h
    simp only [List.mapM_cons, Option.bind_eq_bind, Option.bind_eq_some_iff, Option.pure_def, Option.some.injEq] at h
    obtain ⟨y, hy, r', hr, rfl⟩ := h
    obtain ⟨h1, h2⟩ := ih hr
    refine ⟨by simp [h1], fun i a b ha hb => ?_⟩
    cases i with
    | zero => simp at ha hb; subst ha hb; exact hy
    | succ i => exact h2 i a b (by simpa using ha) (by simpa using hb)

/-- **An operation that only reads yields what is reckoned.** -/
theorem opP_sound {x : Ctx} {K : Know} {a : Act} {w : World} (hm : Models x K a w) {o : Oper} {rd : Operand → Option SV} (hrd : ∀ u ∈ o.op.operands, ∀ s, rd u = some s → SRep x.J x.β (a.eval u) s)
    {vc : Prop} {s : SV} (h : opP P K.mem rd o.op = some (vc, s)) (hvc : vc) : ∃ v, (execOp a.eval o).run P w = .ok (.value v) w ∧ SRep x.J x.β v s := by
  obtain ⟨dst, op, type, pos, after, guard⟩ := o
  simp only at h
  have lift : ∀ (m : Sem Value) z, m.run P w = .ok z w → (do pure (Next.value (← m)) : Sem Next).run P w = .ok (.value z) w := fun m z hz => by simp [hz, Result.andThen]
  cases op with
  | move u =>
    simp only [opP, Option.map_eq_some_iff, Prod.mk.injEq] at h
    obtain ⟨s', h1, rfl, rfl⟩ := h
    exact ⟨_, rfl, hrd u (by simp [Op.operands]) _ h1⟩
  | assign u =>
    simp only [opP, Option.map_eq_some_iff, Prod.mk.injEq] at h
    obtain ⟨s', h1, rfl, rfl⟩ := h
    exact ⟨_, rfl, hrd u (by simp [Op.operands]) _ h1⟩
  | load t u =>
    simp only [opP, Option.bind_eq_some_iff] at h
    obtain ⟨s', h1, h2⟩ := h
    obtain ⟨z, e, r⟩ := loadF_sound (P := P) hm (hrd u (by simp [Op.operands]) _ h1) h2 hvc
    exact ⟨z, lift _ _ e, r⟩
  | fieldAddr t u f =>
    simp only [opP, Option.bind_eq_some_iff] at h
    obtain ⟨s', h1, h2⟩ := h
    obtain ⟨z, e, r⟩ := fieldAddrF_sound (P := P) hm (hrd u (by simp [Op.operands]) _ h1) h2 hvc
    exact ⟨z, lift _ _ e, r⟩
  | field t u f =>
    simp only [opP, Option.bind_eq_some_iff] at h
    obtain ⟨s', h1, h2⟩ := h
    obtain ⟨z, e, r⟩ := fieldF_sound (P := P) (w := w) (hrd u (by simp [Op.operands]) _ h1) h2 hvc
    exact ⟨z, lift _ _ e, r⟩
  | indexAddr t u i =>
    simp only [opP, Option.bind_eq_some_iff] at h
    obtain ⟨s', h1, j, h2, h3⟩ := h
    obtain ⟨z, e, r⟩ := indexAddrF_sound (P := P) hm (hrd u (by simp [Op.operands]) _ h1) (hrd i (by simp [Op.operands]) _ h2) h3 hvc
    exact ⟨z, lift _ _ e, r⟩
  | index t u i =>
    simp only [opP, Option.bind_eq_some_iff] at h
    obtain ⟨s', h1, j, h2, h3⟩ := h
    obtain ⟨z, e, r⟩ := indexF_sound (P := P) (w := w) (hrd u (by simp [Op.operands]) _ h1) (hrd i (by simp [Op.operands]) _ h2) h3 hvc
    exact ⟨z, lift _ _ e, r⟩
  | slice t u lo hi mx =>
    simp only [opP, Option.bind_eq_some_iff] at h
    obtain ⟨s', h1, l, h2, r, h3, m, h4, h5⟩ := h
    obtain ⟨z, e, r⟩ := sliceF_sound (P := P) hm (hrd u (by simp [Op.operands]) _ h1) (rdO_sound (fun q hq => hrd q (by simp [Op.operands, hq])) h2) (rdO_sound (fun q hq => hrd q (by simp [Op.operands, hq])) h3) (rdO_sound (fun q hq => hrd q (by simp [Op.operands, hq])) h4) h5 hvc
    exact ⟨z, lift _ _ e, r⟩
  | binOp op t u v t' =>
    simp only [opP, Option.bind_eq_some_iff] at h
    obtain ⟨s', h1, j, h2, h3⟩ := h
    obtain ⟨z, e, r⟩ := binF_sound (P := P) (w := w) (p := u) (q := v) (hrd u (by simp [Op.operands]) _ h1) (hrd v (by simp [Op.operands]) _ h2) h3 hvc
    exact ⟨z, lift _ _ e, r⟩
  | unOp op t u =>
    simp only [opP, Option.bind_eq_some_iff] at h
    obtain ⟨s', h1, h2⟩ := h
    obtain ⟨z, e, r⟩ := unF_sound (P := P) (w := w) (hrd u (by simp [Op.operands]) _ h1) h2
    exact ⟨z, lift _ _ e, r⟩
  | convert t t' u =>
    simp only [opP, Option.bind_eq_some_iff] at h
    obtain ⟨s', h1, h2⟩ := h
    obtain ⟨z, e, r⟩ := convF_sound (P := P) hm (hrd u (by simp [Op.operands]) _ h1) h2 hvc
    exact ⟨z, lift _ _ e, r⟩
  | extract u i =>
    simp only [opP, Option.bind_eq_some_iff] at h
    obtain ⟨s', h1, h2⟩ := h
    obtain ⟨z, e, r⟩ := extractF_sound (P := P) (w := w) (hrd u (by simp [Op.operands]) _ h1) h2
    exact ⟨z, lift _ _ e, r⟩
  | makeInterface t u =>
    simp only [opP] at h
    split at h
    · rename_i d hd
      split at h
      · rename_i hc
        simp only [Option.some.injEq, Prod.mk.injEq] at h
        obtain ⟨rfl, rfl⟩ := h
        obtain ⟨de, hu, hde⟩ := tk_conc hc
        refine ⟨.iface t (a.eval u), lift _ _ ?_, .d (.iface (d_inv (hrd u (by simp [Op.operands]) _ hd)))⟩
        simp only [Instr.makeInterface, Sem.run_bind, run_underlying' hu, Result.andThen_ok]
        cases de <;> first | rfl | exact absurd rfl (hde _)
      · cases h
    · cases h
  | makeFunc fn first captured =>
    cases fn with
    | func f =>
      simp only [opP] at h
      split at h
      · rename_i hf
        subst hf
        split at h
        · rename_i cs hcs
          simp only [Option.some.injEq, Prod.mk.injEq] at h
          obtain ⟨rfl, rfl⟩ := h
          obtain ⟨g1, g2⟩ := mapM_get hcs
          refine ⟨.func (.func f) #[] (captured.map a.eval), by simp [execOp, Instr.makeFunc], ?_⟩
          have hsz : (captured.map a.eval).size = cs.length := by simp [g1]
          have hall : ∀ (i : Nat) v d, (captured.map a.eval)[i]? = some v → cs[i]? = some d → SRep x.J x.β v d := fun i v d hv hd => by
            rw [Array.getElem?_map, Option.map_eq_some_iff] at hv
            obtain ⟨q, hq, rfl⟩ := hv
            exact hrd q (by simp [Op.operands]; exact Array.mem_of_getElem? hq) d (g2 i q d (by simpa using hq) hd)
          split
          · rename_i ds hds
            have := allD_eq hds
            subst this
            exact .d (.fn (by simpa using hsz) fun i v d hv hd => d_inv (hall i v (.d d) hv (by rw [List.getElem?_map, hd]; rfl)))
          · exact .clo hsz hall
        · cases h
      · cases h
    | _ => simp [opP] at h
  | call c =>
    obtain ⟨callee, args, ts⟩ := c
    cases callee with
    | builtin b =>
      cases b with
      | len =>
        simp only [opP] at h
        split at h
        · rename_i u t hu ht
          obtain rfl : args = #[u] := by cases args; simp_all
          obtain rfl : ts = #[t] := by cases ts; simp_all
          have run : ∀ z, (Builtin.len_ #[t] type #[a.eval u]).run P w = .ok z w → (execOp a.eval { dst, op := .call { callee := .builtin .len, args := #[u], argTypes := #[t] }, type, pos, after, guard }).run P w = .ok (.value z) w := fun z hz => by
            simp [execOp, resolve, invoke, builtin, hz, Result.andThen]
          split at h
          · rename_i n k sz hk
            obtain ⟨e, i, hu', _⟩ := tk_arr hk
            simp only [Option.some.injEq, Prod.mk.injEq] at h
            obtain ⟨rfl, rfl⟩ := h
            refine ⟨.int .i64 n, run _ ?_, .d (.int (inK_len hvc))⟩
            simp [Builtin.len_, underlying, hu', goInt, Result.andThen]
          · rename_i k hk
            obtain ⟨e, hu', _⟩ := tk_slice hk
            simp only [Option.map_eq_some_iff, Prod.mk.injEq, Option.bind_eq_some_iff] at h
            obtain ⟨n, ⟨s', h1, h2⟩, rfl, rfl⟩ := h
            have hr := hrd u (by simp [Op.operands, Call.operands]) _ h1
            obtain ⟨ad, cap, e1, e3⟩ := lenF_sound hm hr h2
            refine ⟨.int .i64 n, run _ ?_, .d (.int (inK_len e3))⟩
            rw [e1]
            simp [Builtin.len_, underlying, hu', goInt, Result.andThen]
          · rename_i hk
            have hu' := tk_str hk
            simp only [Option.map_eq_some_iff, Prod.mk.injEq, Option.bind_eq_some_iff] at h
            obtain ⟨n, ⟨s', h1, h2⟩, rfl, rfl⟩ := h
            have hr := hrd u (by simp [Op.operands, Call.operands]) _ h1
            obtain ⟨l, e1, rfl, e3⟩ := lenS_sound hr h2
            refine ⟨.int .i64 l.length, run _ ?_, .d (.int (inK_len e3))⟩
            rw [e1]
            simp only [Builtin.len_, List.getElem?_toArray, List.getElem?_cons_zero, Sem.run_bind, run_underlying' hu', Result.andThen_ok]
            simp [goInt, ByteArray.size]
          · cases h
        · cases h
      | _ => simp [opP] at h
    | _ => simp [opP] at h
  | _ => simp [opP] at h

end Go.Bf
