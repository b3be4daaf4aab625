/-
  Views: like relations side by side are struck. Printed by program (v5.py). Nothing is claimed here.
-/
import Derived.Test.YtlnjeijklnoogaaBfV4
set_option maxRecDepth 100000
set_option maxHeartbeats 8000000
namespace Go.Bf
open Go Go.RowKit Go.Proofs Go.IntWalk
attribute [local simp] maxLen
def ddF {α : Type} (e : α → α → Bool) (p : α) : List α → List α
  | [] => []
  | y :: t => if e y p then ddF e y t else y :: ddF e y t
def dd {α : Type} (e : α → α → Bool) : List α → List α
  | [] => []
  | x :: t => x :: ddF e x t
def eqC (r s : Rl) : Bool := decide (cmpC r s = 0)
theorem dd_split {α : Type} {e : α → α → Bool} {l : List α} : ∀ {i : Nat} (hi : i < l.length), 0 < i → (∀ j (h : j < i), 0 < j → e l[j] l[j - 1] = false) → dd e l = l.take i ++ ddF e (l[i - 1]'(by omega)) (l.drop i) := by
  cases l with
  | nil => intro i hi; simp at hi
  | cons x t =>
    intro i hi h0 hall
    have key : ∀ (t : List α) (x : α) (i : Nat) (hi : i < t.length + 1), (∀ j (h : j < i + 1), 0 < j → e ((x :: t)[j]'(by simp; omega)) ((x :: t)[j - 1]'(by simp; omega)) = false) → ddF e x t = t.take i ++ ddF e ((x :: t)[i]'(by simp; omega)) (t.drop i) := by
      intro t
      induction t with
      | nil => intro x i hi h; obtain rfl : i = 0 := by simp at hi; omega
               rfl
      | cons y t ih =>
        intro x i hi h
        cases i with
        | zero => rfl
        | succ i =>
          have h1 := h 1 (by omega) (by omega)
          simp only [List.getElem_cons_succ, List.getElem_cons_zero, Nat.sub_self] at h1
          rw [ddF, h1, if_neg (by simp), ih y i (by simp at hi; omega) (fun j hj hj0 => ?_)]
          · simp
          · have := h (j + 1) (by omega) (by omega)
            simp only [List.getElem_cons_succ, Nat.add_sub_cancel] at this
            rw [← this]
            congr 1
            cases j with
            | zero => omega
            | succ j => simp
    obtain ⟨k, rfl⟩ : ∃ k, i = k + 1 := ⟨i - 1, by omega⟩
    rw [dd, key t x k (by simp at hi; omega) (fun j hj hj0 => by by_cases e1 : j < k + 1; exact hall j e1 hj0; omega)]
    simp
theorem dd_all {α : Type} {e : α → α → Bool} {l : List α} (h : ∀ j (h : j < l.length), 0 < j → e l[j] l[j - 1] = false) : dd e l = l := by
  cases l with
  | nil => rfl
  | cons x t =>
    have key : ∀ (t : List α) (x : α), (∀ j (h : j < t.length + 1), 0 < j → e ((x :: t)[j]'(by simp; omega)) ((x :: t)[j - 1]'(by simp; omega)) = false) → ddF e x t = t := by
      intro t
      induction t with
      | nil => intro x _; rfl
      | cons y t ih =>
        intro x h
        have h1 := h 1 (by simp) (by omega)
        simp only [List.getElem_cons_succ, List.getElem_cons_zero, Nat.sub_self] at h1
        rw [ddF, h1, if_neg (by simp), ih y (fun j hj hj0 => ?_)]
        have := h (j + 1) (by simp; omega) (by omega)
        simp only [List.getElem_cons_succ, Nat.add_sub_cancel] at this
        rw [← this]
        congr 1
        cases j with
        | zero => omega
        | succ j => simp
    rw [dd, key t x (fun j hj hj0 => h j (by simpa using hj) hj0)]
theorem zrows_R (n : Nat) : zrows [.list [], .list []] n = cR (List.replicate n ([], [])) := by
  simp [zrows, cR, List.map_replicate, rowRel, encI, encII]
theorem ent47 : Enters Try.prog 47 := enters_of Try.func47 rfl rfl
theorem compact_c (l : List Rl) (cap : Nat) (hcap : l.length ≤ cap) (hl : l.length ≤ 12) (hf : ∀ r ∈ l, fitR r) : FnM1 Try.prog 47 [.own 0 2 0 l.length (some cap), .d (.fn 48 [])] 75 (l.map rowRel).flatten (fun s ds' => (∃ c, s = .own 0 2 0 (dd eqC l).length c) ∧ ∃ z : List Rl, ds' = ((dd eqC l ++ z).map rowRel).flatten) := by
  refine FnM1.intro' 0 Try.func47 rfl (by simp [Try.ntmps47]) (.inr ⟨_, _, _, _, rfl⟩) fun E hE => ?_
  refine DWp.reg false fun kk hk => ?_
  simp
  refine hk _ ?_
  refine DWp.seqK fun k1 hk1 => ?_
  refine DWp.reg false fun kk hk => ?_
  simp
  refine hk _ ?_
  refine DWp.condB ?_
  simp
  refine ⟨fun hT0 => ?_, fun hF0 => ?_⟩
  · simp [Tt] at hT0
    have hdd : dd eqC l = l := dd_all (fun j hj hj0 => by omega)
    refine DWp.reg false fun kk hk => ?_
    simp
    refine hk _ ?_
    refine (DWp.ret (hE _ ⟨by simp, 0, _, ((l).map rowRel).flatten, .inr ⟨2, 0, l.length, some cap, by simp, by simp⟩, by first | rfl | (simp; rfl), by first | exact allD_mapD _ | (rw [cR_flat]; exact cR_allD _) | exact cR_allD _ | simp, .inr ?_⟩).2)
    simp [hdd]
    exact ⟨[], by simp⟩
  · simp [Ff] at hF0
    refine DWp.skip ?_
    refine hk1 _ ?_
    refine DWp.seqK fun k2 hk2 => ?_
    refine DWp.reg false fun kk hk => ?_
    simp
    refine hk _ ?_
    refine DWp.block ?_
    refine DWp.loopK (fun i : Nat => Know.of 66 [(0, .own 0 2 0 l.length (some cap)), (1, .d (.fn 48 [])), (5, .d (.int .i64 i))] [(75, cR l)] (fun _ _ _ => True) [0])
      (fun i => 1 ≤ i ∧ i ≤ l.length ∧ ∀ j (h : j < i) (h' : i ≤ l.length), 0 < j → eqC l[j] l[j - 1] = false) (fun i => l.length - i) 1 (Sub.of [0] ⟨rfl, rfl, by simp, by simp, by simp, by simp [cR_flat]⟩) ⟨by omega, by omega, fun j h _ h0 => by omega⟩ ?_
    rintro i ⟨hi1, hi, hall⟩ kl3 hkl3
    refine DWp.seqK fun k4 hk4 => ?_
    refine DWp.reg false fun kk hk => ?_
    simp
    refine hk _ ?_
    refine DWp.condB ?_
    simp
    refine ⟨fun hT1 => ?_, fun hF1 => ?_⟩
    · simp [Tt] at hT1
      have hlt : i < l.length := by omega
      have hA : List.take 2 (List.drop (i * 2) (cR l)) = [.d (encI l[i].1), .d (encII l[i].2)] := cR_get hlt
      have hB : List.take 2 (List.drop ((i - 1) * 2) (cR l)) = [.d (encI (l[i - 1]'(by omega)).1), .d (encII (l[i - 1]'(by omega)).2)] := cR_get (by omega)
      have wi : IntKind.i64.wrap ((i : Int) - 1) = ((i - 1 : Nat) : Int) := by rw [i64_in _ (by omega)]; omega
      refine DWp.skip ?_
      refine hk4 _ ?_
      refine DWp.seqK fun k5 hk5 => ?_
      refine DWp.block ?_
      refine DWp.drawPR false [] (.take 0 (.take 1 (.take 2 (.take 3 (.take 4 (.take 5 (.take 6 (.take 7 (.take 8 (.take 9 (.take 10 .done))))))))))) mixed (by kernel_rfl) fun kk hk => ?_
      simp [wi, hA, hB]
      refine ⟨by omega, by omega, by omega, by omega, ?_⟩
      refine DetCall.intro (d := .bool (eqC l[i] (l[i - 1]'(by omega)))) ent48 rfl (fun _ => sameC_c _ _ (hf _ (List.getElem_mem hlt))) ?_
      simp [wi, hA, hB]
      refine hk _ ?_
      refine DWp.condB ?_
      simp
      refine ⟨fun hT2 => ?_, fun hF2 => ?_⟩
      · simp [Tt] at hT2
        have hdd0 : l.take i ++ ddF eqC l[i] (l.drop (i + 1)) = dd eqC l := by rw [dd_split hlt (by omega) (fun j h h0 => hall j h hi h0), List.drop_eq_getElem_cons hlt, ddF, hT2, if_pos rfl]
        have hAl : l.take i ++ l[i] :: l.drop (i + 1) = l := by rw [← List.drop_eq_getElem_cons hlt, List.take_append_drop]
        have htk : (l.take i).length = i := by simp; omega
        refine DWp.reg false fun kk hk => ?_
        simp
        refine ⟨⟨by omega, by omega⟩, ?_⟩
        refine hk _ ?_
        refine DWp.seqK fun k6 hk6 => ?_
        refine DWp.reg false fun kk hk => ?_
        simp
        refine hk _ ?_
        refine DWp.block ?_
        refine DWp.loopK (fun q : Nat × List Rl × List Rl × Rl => Know.of 66 [(0, .own 0 2 0 l.length (some cap)), (1, .d (.fn 48 [])), (5, .d (.int .i64 q.2.1.length)), (6, .own 0 2 (i * 2) (l.length - i) none), (7, .d (.int .i64 q.1))] [(75, cR (q.2.1 ++ (q.2.2.1 ++ q.2.2.2 :: l.drop (i + q.1))))] (fun _ _ _ => True) [0])
          (fun q => q.2.1 ++ ddF eqC q.2.2.2 (l.drop (i + q.1)) = dd eqC l ∧ q.2.1.length + q.2.2.1.length + 1 = i + q.1 ∧ i + q.1 ≤ l.length ∧ fitR q.2.2.2 ∧ 1 ≤ q.1) (fun q => l.length - q.1) (1, l.take i, [], l[i]) (Sub.of [0] ⟨rfl, rfl, by simp, by simp, by simp [Nat.min_eq_left hi], by simp [hAl]⟩) ⟨hdd0, by simp; omega, by omega, hf _ (List.getElem_mem hlt), Nat.le_refl _⟩ ?_
        rintro ⟨k, w, g, p⟩ ⟨hdd, hwg, hik, hpf, hk1'⟩ kl7 hkl7
        simp only at hdd hwg hik hpf hk1' ⊢
        have wk : IntKind.i64.wrap ((k : Int) - 1) = ((k - 1 : Nat) : Int) := by rw [i64_in _ (by omega)]; omega
        refine DWp.seqK fun k8 hk8 => ?_
        refine DWp.reg false fun kk hk => ?_
        simp
        refine hk _ ?_
        refine DWp.condB ?_
        simp
        refine ⟨fun hT3 => ?_, fun hF3 => ?_⟩
        · simp [Tt] at hT3
          have hlt3 : i + k < l.length := by omega
          obtain ⟨x, hx⟩ : ∃ x, l[i + k] = x := ⟨_, rfl⟩
          obtain ⟨rest, hrest⟩ : ∃ r, l.drop (i + k + 1) = r := ⟨_, rfl⟩
          have hdr : l.drop (i + k) = x :: rest := by rw [List.drop_eq_getElem_cons hlt3, hx, hrest]
          rw [hdr] at hdd ⊢
          have hxf : fitR x := by rw [← hx]; exact hf _ (List.getElem_mem hlt3)
          obtain ⟨A, hAA⟩ : ∃ A, w ++ (g ++ p :: x :: rest) = A := ⟨_, rfl⟩
          have hAlen : A.length = l.length := by have := congrArg List.length hdr; simp at this; rw [← hAA]; simp; omega
          have hA2 : List.take 2 (List.drop (i * 2 + k * 2) (cR A)) = [.d (encI x.1), .d (encII x.2)] := by have := cR_at (w ++ g ++ [p]) x rest (j := i + k) (by simp; omega); rw [show (i + k) * 2 = i * 2 + k * 2 by omega] at this; rw [← hAA]; simpa using this
          have hB2 : List.take 2 (List.drop (i * 2 + (k - 1) * 2) (cR A)) = [.d (encI p.1), .d (encII p.2)] := by have := cR_at (w ++ g) p (x :: rest) (j := i + k - 1) (by simp; omega); rw [show (i + k - 1) * 2 = i * 2 + (k - 1) * 2 by omega] at this; rw [← hAA]; simpa using this
          rw [hAA]
          refine DWp.skip ?_
          refine hk8 _ ?_
          refine DWp.seqK fun k9 hk9 => ?_
          refine DWp.block ?_
          refine DWp.drawPR false [] (.take 0 (.take 1 (.take 2 (.take 3 (.take 4 (.take 5 (.take 6 (.take 7 (.take 8 (.take 9 (.take 10 (.take 11 .done)))))))))))) mixed (by kernel_rfl) fun kk hk => ?_
          simp [wk, hA2, hB2]
          refine ⟨by omega, by omega, by omega, by omega, ?_⟩
          refine DetCall.intro (d := .bool (eqC x p)) ent48 rfl (fun _ => sameC_c x p hxf) ?_
          simp [wk, hA2, hB2]
          refine hk _ ?_
          refine DWp.condB ?_
          simp
          refine ⟨fun hT4 => ?_, fun hF4 => ?_⟩
          · simp [Tt] at hT4
            obtain ⟨h0, g', hg, hgl⟩ : ∃ h g', g ++ [p] = h :: g' ∧ g'.length = g.length := by cases g with | nil => exact ⟨p, [], rfl, rfl⟩ | cons y g => exact ⟨y, g ++ [p], rfl, by simp⟩
            have hAh : A = w ++ h0 :: (g' ++ x :: rest) := by rw [← hAA, show g ++ p :: x :: rest = (g ++ [p]) ++ x :: rest by simp, hg]; rfl
            have hP := cR_put w h0 x (g' ++ x :: rest) (j := w.length) rfl
            rw [← hAh] at hP
            have w1 : IntKind.i64.wrap ((w.length : Int) + 1) = ((w.length + 1 : Nat) : Int) := by rw [i64_in _ (by omega)]; omega
            refine DWp.reg false fun kk hk => ?_
            simp [-DV.one, hA2, hP]
            refine ⟨by omega, by omega, by omega, by omega, ?_⟩
            refine hk _ ?_
            refine DWp.regionV false ?_
            simp
            refine hk9 _ ?_
            refine DWp.regionV false ?_
            simp
            have k1 : IntKind.i64.wrap ((k : Int) + 1) = ((k + 1 : Nat) : Int) := by rw [i64_in _ (by omega)]; omega
            refine hkl7 _ (k + 1, w ++ [x], g', x) ⟨?_, by simp; omega, by simp only; omega, hxf, by simp only; omega⟩ (by simp only; omega) (Sub.of [0] ⟨rfl, rfl, by simp, by simp, by simp [k1, w1], by simp [← Nat.add_assoc, hrest]⟩)
            simp only
            rw [← hdd, ← Nat.add_assoc, hrest, ddF, hT4, if_neg (by simp)]
            simp
          · simp [Ff] at hF4
            refine DWp.skip ?_
            refine hk9 _ ?_
            refine DWp.regionV false ?_
            simp
            have k1 : IntKind.i64.wrap ((k : Int) + 1) = ((k + 1 : Nat) : Int) := by rw [i64_in _ (by omega)]; omega
            refine hkl7 _ (k + 1, w, g ++ [p], x) ⟨?_, by simp; omega, by simp only; omega, hxf, by simp only; omega⟩ (by simp only; omega) (Sub.of [0] ⟨rfl, rfl, by simp, by simp, by simp [k1], by simp [← Nat.add_assoc, hrest, ← hAA]⟩)
            simp only
            rw [← hdd, ← Nat.add_assoc, hrest, ddF, hF4, if_pos rfl]
        · simp [Ff] at hF3
          have hke : i + k = l.length := by omega
          rw [hke, List.drop_length] at hdd ⊢
          simp only [ddF, List.append_nil] at hdd
          subst hdd
          refine DWp.exit ?_
          simp
          refine hk6 _ ?_
          refine DWp.reg false fun kk hk => ?_
          simp [zrows_R]
          refine ⟨⟨by omega, .inr (by omega)⟩, by omega, ?_⟩
          refine hk _ ?_
          have hsp := cR_spl (dd eqC l) (g ++ [p]) (List.replicate (l.length - (dd eqC l).length) ([], [])) (by simp; omega)
          refine DWp.sub (Sub.of (n := 66) (sl := [(0, .own 0 2 0 l.length (some cap)), (5, .d (.int .i64 (dd eqC l).length))]) (ml := [(75, cR (dd eqC l ++ List.replicate (l.length - (dd eqC l).length) ([], [])))]) [0] ⟨rfl, rfl, by simp, by simp, by simp, by simp [hsp]⟩) ?_
          refine DWp.reg false fun kk hk => ?_
          simp
          refine ⟨by omega, ?_⟩
          refine hk _ ?_
          refine (DWp.ret (hE _ ⟨by simp, 0, _, ((dd eqC l ++ List.replicate (l.length - (dd eqC l).length) ([], [])).map rowRel).flatten, .inr ⟨2, 0, l.length, some cap, by simp, by simp⟩, by first | rfl | (simp; rfl), by first | exact allD_mapD _ | (rw [cR_flat]; exact cR_allD _) | exact cR_allD _ | simp, .inr ?_⟩).2)
          simp
          exact ⟨List.replicate (l.length - (dd eqC l).length) ([], []), by simp⟩
      · simp [Ff] at hF2
        refine DWp.skip ?_
        refine hk5 _ ?_
        refine DWp.regionV false ?_
        simp
        have i1 : IntKind.i64.wrap ((i : Int) + 1) = ((i + 1 : Nat) : Int) := by rw [i64_in _ (by omega)]; omega
        refine hkl3 _ (i + 1) ⟨by omega, by omega, fun j h h' h0 => ?_⟩ (by omega) (Sub.of [0] ⟨rfl, rfl, by simp, by simp, by simp [i1], by simp⟩)
        by_cases e : j = i
        · subst e; exact hF2
        · exact hall j (by omega) hi h0
    · simp [Ff] at hF1
      obtain rfl : i = l.length := by omega
      refine DWp.exit ?_
      simp
      refine hk2 _ ?_
      refine DWp.reg false fun kk hk => ?_
      simp
      refine hk _ ?_
      have hdd : dd eqC l = l := dd_all (fun j hj hj0 => hall j hj hi hj0)
      refine (DWp.ret (hE _ ⟨by simp, 0, _, ((l).map rowRel).flatten, .inr ⟨2, 0, l.length, some cap, by simp, by simp⟩, by first | rfl | (simp; rfl), by first | exact allD_mapD _ | (rw [cR_flat]; exact cR_allD _) | exact cR_allD _ | simp, .inr ?_⟩).2)
      simp [hdd]
      exact ⟨[], by simp⟩
end Go.Bf
