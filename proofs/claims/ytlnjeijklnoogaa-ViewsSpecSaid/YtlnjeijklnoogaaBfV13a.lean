/-
  Views: what is public, in the program and in the reference. Nothing is claimed here.
-/
import Derived.Test.YtlnjeijklnoogaaBfV11a
namespace Go.Bf
open Go
/-- A number put into an increasing list. -/
def putD : List Int → Int → List Int
  | [], n => [n]
  | x :: t, n => if x < n then x :: putD t n else if x = n then x :: t else n :: x :: t
def listRN (out : List Int) (ins : List (List Int)) (a : Int) : Nat → List Int
  | 0 => []
  | i + 1 => if out.getD i 0 = a then (ins.getD i []).foldl putD (listRN out ins a i) else listRN out ins a i
def listR (r : Rl) (a : Int) : List Int := listRN r.1 r.2 a (min r.1.length r.2.length)
def aboutR (r : Rl) (ls : List Int) : Rl := (ls, ls.map (listR r))
def canonR (r : Rl) : Rl := aboutR r (r.1.foldl putD [])
def cmpPre : List (List Int) → List (List Int) → Int
  | a :: x, b :: y => if cmpL a b ≠ 0 then cmpL a b else cmpPre x y
  | _, _ => 0
def orderR (r s : Rl) : Int := if cmpL r.1 s.1 ≠ 0 then cmpL r.1 s.1 else cmpPre r.2 s.2
def insC {α : Type} (c : α → α → Int) : List α → α → List α
  | [], r => [r]
  | y :: t, r => if c y r < 0 then y :: insC c t r else if c y r = 0 then y :: t else r :: y :: t
def refPub (l : List Rl) : List Rl := (l.map canonR).foldl (insC orderR) []
def learnR (l : List Rl) (ls : List Int) : List Rl × Int := if learnOK ls then (refPub (l.map fun r => aboutR r ls), 0) else ([], 510)
/-! ### Lists in order -/
theorem ext_lt {α : Type} {lt : α → α → Prop} (irr : ∀ a, ¬ lt a a) (tr : ∀ a b c, lt a b → lt b c → lt a c) : ∀ {a b : List α}, a.Pairwise lt → b.Pairwise lt → (∀ x, x ∈ a ↔ x ∈ b) → a = b
  | [], [], _, _, _ => rfl
  | [], y :: b, _, _, h => absurd ((h y).2 List.mem_cons_self) (by simp)
  | x :: a, [], _, _, h => absurd ((h x).1 List.mem_cons_self) (by simp)
  | x :: a, y :: b, h1, h2, h => by
    rw [List.pairwise_cons] at h1 h2
    have hxy : x = y := by
      rcases List.mem_cons.1 ((h x).1 List.mem_cons_self) with e | hx
      · exact e
      · rcases List.mem_cons.1 ((h y).2 List.mem_cons_self) with e | hy
        · exact e.symm
        · exact absurd (tr _ _ _ (h1.1 y hy) (h2.1 x hx)) (irr x)
    subst hxy
    congr 1
    refine ext_lt irr tr h1.2 h2.2 fun z => ⟨fun hz => ?_, fun hz => ?_⟩
    · rcases List.mem_cons.1 ((h z).1 (List.mem_cons_of_mem _ hz)) with e | hz'
      · subst e; exact absurd (h1.1 z hz) (irr z)
      · exact hz'
    · rcases List.mem_cons.1 ((h z).2 (List.mem_cons_of_mem _ hz)) with e | hz'
      · subst e; exact absurd (h2.1 z hz) (irr z)
      · exact hz'
/-- What compares. -/
structure Cmp {α : Type} (c : α → α → Int) : Prop where
  eq0 : ∀ a b, c a b = 0 ↔ a = b
  neg : ∀ a b, c b a = - c a b
  tr : ∀ a b d, c a b < 0 → c b d < 0 → c a d < 0
theorem Cmp.self {α : Type} {c : α → α → Int} (h : Cmp c) (a : α) : c a a = 0 := (h.eq0 a a).2 rfl
theorem Cmp.le {α : Type} {c : α → α → Int} (h : Cmp c) {a b d : α} (h1 : c a b ≤ 0) (h2 : c b d < 0) : c a d < 0 := by
  by_cases e : c a b = 0
  · rw [(h.eq0 a b).1 e]; exact h2
  · exact h.tr a b d (by omega) h2
theorem Cmp.lt_le {α : Type} {c : α → α → Int} (h : Cmp c) {a b d : α} (h1 : c a b < 0) (h2 : c b d ≤ 0) : c a d < 0 := by
  by_cases e : c b d = 0
  · rw [← (h.eq0 b d).1 e]; exact h1
  · exact h.tr a b d h1 (by omega)
theorem Cmp.le_tr {α : Type} {c : α → α → Int} (h : Cmp c) {a b d : α} (h1 : c a b ≤ 0) (h2 : c b d ≤ 0) : c a d ≤ 0 := by
  by_cases e : c b d = 0
  · rw [← (h.eq0 b d).1 e]; exact h1
  · have := h.le h1 (by omega : c b d < 0); omega
theorem cmpI_cmp : Cmp cmpI where
  eq0 a b := by unfold cmpI; split <;> try split
                all_goals constructor <;> intro h <;> omega
  neg a b := by unfold cmpI; repeat' split
                all_goals omega
  tr a b d := by unfold cmpI; repeat' split
                 all_goals omega
theorem cmpBy_cmp {α : Type} {c : α → α → Int} (h : Cmp c) : Cmp (cmpBy c) where
  eq0 a := by
    induction a with
    | nil => intro b; cases b <;> simp [cmpBy]
    | cons a x ih =>
      intro b
      cases b with
      | nil => simp [cmpBy]
      | cons b y =>
        rw [cmpBy]
        by_cases e : c a b = 0
        · rw [if_neg (by simp [e]), ih, (h.eq0 a b).1 e]; simp
        · rw [if_pos e]
          exact ⟨fun e' => absurd e' e, fun e' => by cases e'; exact absurd (h.self a) e⟩
  neg a := by
    induction a with
    | nil => intro b; cases b <;> simp [cmpBy]
    | cons a x ih =>
      intro b
      cases b with
      | nil => simp [cmpBy]
      | cons b y =>
        rw [cmpBy, cmpBy, h.neg a b, ih]
        by_cases e : c a b = 0
        · simp [e]
        · rw [if_pos (by omega), if_pos e]
  tr a := by
    induction a with
    | nil =>
      intro b d h1 h2
      cases d with
      | nil => cases b <;> simp [cmpBy] at h1 h2
      | cons d z => simp [cmpBy]
    | cons a x ih =>
      intro b d h1 h2
      cases b with
      | nil => simp [cmpBy] at h1
      | cons b y =>
        cases d with
        | nil => simp [cmpBy] at h2
        | cons d z =>
          rw [cmpBy] at h1 h2 ⊢
          by_cases e1 : c a b = 0
          · rw [if_neg (by simp [e1])] at h1
            obtain rfl := (h.eq0 a b).1 e1
            by_cases e2 : c a d = 0
            · rw [if_neg (by simp [e2])] at h2 ⊢
              exact ih _ _ h1 h2
            · rw [if_pos e2] at h2 ⊢; exact h2
          · rw [if_pos e1] at h1
            have h3 : c a d < 0 := by
              by_cases e2 : c b d = 0
              · rw [← (h.eq0 b d).1 e2]; exact h1
              · rw [if_pos e2] at h2; exact h.tr _ _ _ h1 h2
            rw [if_pos (by omega)]; exact h3
theorem cmpL_cmp : Cmp cmpL := cmpBy_cmp cmpI_cmp
theorem cmpC_cmp : Cmp cmpC where
  eq0 a b := by
    rw [cmpC]
    by_cases e : cmpL a.1 b.1 = 0
    · rw [if_neg (by simp [e]), (cmpBy_cmp cmpL_cmp).eq0]
      have := (cmpL_cmp.eq0 _ _).1 e
      exact ⟨fun h => Prod.ext this h, fun h => by rw [h]⟩
    · rw [if_pos e]
      exact ⟨fun h => absurd h e, fun h => by subst h; exact absurd (cmpL_cmp.self _) e⟩
  neg a b := by
    rw [cmpC, cmpC, cmpL_cmp.neg a.1 b.1, (cmpBy_cmp cmpL_cmp).neg a.2 b.2]
    by_cases e : cmpL a.1 b.1 = 0
    · simp [e]
    · rw [if_pos (by omega), if_pos e]
  tr a b d h1 h2 := by
    rw [cmpC] at h1 h2 ⊢
    by_cases e1 : cmpL a.1 b.1 = 0
    · rw [if_neg (by simp [e1])] at h1
      have e1' := (cmpL_cmp.eq0 _ _).1 e1
      rw [← e1'] at h2
      by_cases e2 : cmpL a.1 d.1 = 0
      · rw [if_neg (by simp [e2])] at h2 ⊢
        exact (cmpBy_cmp cmpL_cmp).tr _ _ _ h1 h2
      · rw [if_pos e2] at h2 ⊢; exact h2
    · rw [if_pos e1] at h1
      have h3 : cmpL a.1 d.1 < 0 := by
        by_cases e2 : cmpL b.1 d.1 = 0
        · rw [← (cmpL_cmp.eq0 _ _).1 e2]; exact h1
        · rw [if_pos e2] at h2; exact cmpL_cmp.tr _ _ _ h1 h2
      rw [if_pos (by omega)]; exact h3
theorem Cmp.ext {α : Type} {c : α → α → Int} (h : Cmp c) {a b : List α} (ha : a.Pairwise fun x y => c x y < 0) (hb : b.Pairwise fun x y => c x y < 0) (hm : ∀ x, x ∈ a ↔ x ∈ b) : a = b :=
  ext_lt (fun x hx => by rw [h.self x] at hx; omega) h.tr ha hb hm
/-! ### Putting in -/
theorem insC_mem {α : Type} {c : α → α → Int} (h : Cmp c) (r x : α) : ∀ l : List α, x ∈ insC c l r ↔ x = r ∨ x ∈ l
  | [] => by simp [insC]
  | y :: t => by
    rw [insC]
    split
    · rw [List.mem_cons, insC_mem h r x t, List.mem_cons]
      exact ⟨fun h => by rcases h with h | h | h <;> simp [h], fun h => by rcases h with h | h | h <;> simp [h]⟩
    · split
      · rename_i e
        rw [← (h.eq0 y r).1 e, List.mem_cons]
        exact ⟨fun h => .inr h, fun h => by rcases h with h | h | h <;> simp [h]⟩
      · simp
theorem insC_sorted {α : Type} {c : α → α → Int} (h : Cmp c) (r : α) : ∀ l : List α, (l.Pairwise fun x y => c x y < 0) → (insC c l r).Pairwise fun x y => c x y < 0
  | [], _ => by simp [insC]
  | y :: t, hl => by
    rw [List.pairwise_cons] at hl
    rw [insC]
    split
    · rename_i hlt
      rw [List.pairwise_cons]
      exact ⟨fun z hz => by rcases (insC_mem h r z t).1 hz with rfl | hz; exact hlt; exact hl.1 z hz, insC_sorted h r t hl.2⟩
    · split
      · exact List.pairwise_cons.2 hl
      · rename_i h1 h2
        have h3 : c r y < 0 := by have := h.neg y r; omega
        refine List.pairwise_cons.2 ⟨fun z hz => ?_, List.pairwise_cons.2 hl⟩
        rcases List.mem_cons.1 hz with rfl | hz
        · exact h3
        · exact h.tr _ _ _ h3 (hl.1 z hz)
theorem foldC_mem {α : Type} {c : α → α → Int} (h : Cmp c) (x : α) : ∀ (ns l : List α), x ∈ ns.foldl (insC c) l ↔ x ∈ l ∨ x ∈ ns
  | [], l => by simp
  | n :: ns, l => by
    rw [List.foldl_cons, foldC_mem h x ns, insC_mem h, List.mem_cons]
    exact ⟨fun h => by rcases h with (h | h) | h <;> simp [h], fun h => by rcases h with h | h | h <;> simp [h]⟩
theorem foldC_sorted {α : Type} {c : α → α → Int} (h : Cmp c) : ∀ (ns l : List α), (l.Pairwise fun x y => c x y < 0) → (ns.foldl (insC c) l).Pairwise fun x y => c x y < 0
  | [], _, hl => hl
  | n :: ns, _, hl => foldC_sorted h ns _ (insC_sorted h n _ hl)
theorem cmpI_lt (a b : Int) : cmpI a b < 0 ↔ a < b := by
  unfold cmpI
  split
  · omega
  · split <;> omega
theorem putD_eq : ∀ (l : List Int) (n : Int), putD l n = insC cmpI l n
  | [], n => rfl
  | x :: t, n => by
    rw [putD, insC, putD_eq t n]
    by_cases h1 : x < n
    · rw [if_pos h1, if_pos ((cmpI_lt x n).2 h1)]
    · rw [if_neg h1, if_neg (fun h => h1 ((cmpI_lt x n).1 h))]
      by_cases h2 : x = n
      · rw [if_pos h2, if_pos ((cmpI_cmp.eq0 x n).2 h2)]
      · rw [if_neg h2, if_neg (fun h => h2 ((cmpI_cmp.eq0 x n).1 h))]
theorem foldP_eq (ns l : List Int) : ns.foldl putD l = ns.foldl (insC cmpI) l := by
  have : putD = insC cmpI := by funext l n; exact putD_eq l n
  rw [this]
/-! ### Sorting and striking -/
theorem insL_sorted {α : Type} {c : α → α → Int} (h : Cmp c) (x : α) : ∀ l : List α, (l.Pairwise fun a b => 0 ≤ c a b) → (insL c x l).Pairwise fun a b => 0 ≤ c a b
  | [], _ => by simp [insL]
  | y :: t, hl => by
    rw [List.pairwise_cons] at hl
    rw [insL]
    split
    · rename_i hlt
      rw [List.pairwise_cons]
      exact ⟨fun z hz => by rcases List.mem_cons.1 ((insL_perm c x t).mem_iff.1 hz) with rfl | hz; have := h.neg z y; omega; exact hl.1 z hz, insL_sorted h x t hl.2⟩
    · rename_i hlt
      refine List.pairwise_cons.2 ⟨fun z hz => ?_, List.pairwise_cons.2 hl⟩
      rcases List.mem_cons.1 hz with rfl | hz
      · omega
      · have h1 := hl.1 z hz
        have h2 := h.neg x y
        have h3 := h.neg y z
        have h4 := h.le_tr (a := z) (b := y) (d := x) (by omega) (by omega)
        have h5 := h.neg z x
        omega
theorem sortR_sorted {α : Type} {c : α → α → Int} (h : Cmp c) (l : List α) : (sortR c l).Pairwise fun a b => c a b ≤ 0 := by
  have key : ∀ (l acc : List α), (acc.Pairwise fun a b => c a b ≤ 0) → (l.foldl (insR c) acc).Pairwise fun a b => c a b ≤ 0 := by
    intro l
    induction l with
    | nil => intro acc ha; exact ha
    | cons x l ih =>
      intro acc ha
      refine ih _ ?_
      rw [insR, List.pairwise_reverse]
      have h1 : acc.reverse.Pairwise fun a b => 0 ≤ c a b := by
        rw [List.pairwise_reverse]
        exact ha.imp fun {a b} hab => by have := h.neg a b; omega
      exact (insL_sorted h x _ h1).imp fun {a b} hab => by have := h.neg a b; omega
  exact key l [] List.Pairwise.nil
theorem ddF_spec {α : Type} {c : α → α → Int} (h : Cmp c) {e : α → α → Bool} (he : ∀ a b, e a b = decide (c a b = 0)) : ∀ (t : List α) (p : α), ((p :: t).Pairwise fun a b => c a b ≤ 0) → ((p :: ddF e p t).Pairwise fun a b => c a b < 0) ∧ ∀ x, x ∈ p :: ddF e p t ↔ x ∈ p :: t
  | [], p, _ => by simp [ddF]
  | y :: t, p, hl => by
    rw [List.pairwise_cons, List.pairwise_cons] at hl
    obtain ⟨h1, h2, h3⟩ := hl
    rw [ddF, he]
    by_cases e0 : c y p = 0
    · obtain rfl := (h.eq0 y p).1 e0
      rw [if_pos (by simpa using e0)]
      obtain ⟨g1, g2⟩ := ddF_spec h he t y (List.pairwise_cons.2 ⟨h2, h3⟩)
      exact ⟨g1, fun x => by rw [g2]; simp⟩
    · rw [if_neg (by simpa using e0)]
      obtain ⟨g1, g2⟩ := ddF_spec h he t y (List.pairwise_cons.2 ⟨h2, h3⟩)
      have hpy : c p y < 0 := by have := h1 y List.mem_cons_self; have := h.neg y p; omega
      refine ⟨List.pairwise_cons.2 ⟨fun z hz => ?_, g1⟩, fun x => by rw [List.mem_cons, g2, List.mem_cons (b := p) (l := y :: t)]⟩
      rcases List.mem_cons.1 ((g2 z).1 hz) with rfl | hz
      · exact hpy
      · exact h.lt_le hpy (h2 z hz)
theorem dd_spec {α : Type} {c : α → α → Int} (h : Cmp c) {e : α → α → Bool} (he : ∀ a b, e a b = decide (c a b = 0)) (l : List α) (hl : l.Pairwise fun a b => c a b ≤ 0) : ((dd e l).Pairwise fun a b => c a b < 0) ∧ ∀ x, x ∈ dd e l ↔ x ∈ l := by
  cases l with
  | nil => simp [dd]
  | cons p t => exact ddF_spec h he t p hl
theorem pub_fold (M : List Rl) : dd eqC (sortR cmpC M) = M.foldl (insC cmpC) [] := by
  obtain ⟨g1, g2⟩ := dd_spec cmpC_cmp (e := eqC) (fun a b => rfl) _ (sortR_sorted cmpC_cmp M)
  refine cmpC_cmp.ext g1 (foldC_sorted cmpC_cmp M [] List.Pairwise.nil) fun x => ?_
  rw [g2, (sortR_perm cmpC M).mem_iff, foldC_mem cmpC_cmp]
  simp
/-! ### The lists of a relation -/
def stepR (a : Int) (ns : List Int) : List (Int × List Int) → List (Int × List Int)
  | [] => [(a, ns.foldl addK [])]
  | p :: L => if p.1 = a then (a, ns.foldl addK p.2) :: L else p :: stepR a ns L
theorem stepL_eq (a : Int) (ns : List Int) : ∀ L : List (Int × List Int), stepL L a ns = stepR a ns L
  | [] => rfl
  | p :: L => by
    have ih := stepL_eq a ns L
    rw [stepL] at ih ⊢
    rw [List.findIdx?_cons, stepR]
    by_cases e : p.1 = a
    · simp [e]
    · have e' : (p.1 == a) = false := by simpa using e
      rw [e', if_neg e, ← ih]
      cases L.findIdx? (fun p => p.1 == a) with
      | none => simp
      | some j => simp
theorem addK_mem (x n : Int) (l : List Int) : x ∈ addK l n ↔ x = n ∨ x ∈ l := by
  unfold addK
  split
  · rename_i h
    exact ⟨fun h => .inr h, fun h' => by rcases h' with rfl | h'; exact h; exact h'⟩
  · simp [or_comm]
theorem addK_nodup (n : Int) (l : List Int) (h : l.Nodup) : (addK l n).Nodup := by
  unfold addK
  split
  · exact h
  · rename_i hn
    rw [List.nodup_append]
    exact ⟨h, by simp, fun a ha b hb => by simp at hb; subst hb; exact fun e => hn (e ▸ ha)⟩
theorem foldK_mem (x : Int) : ∀ (ns l : List Int), x ∈ ns.foldl addK l ↔ x ∈ l ∨ x ∈ ns
  | [], l => by simp
  | n :: ns, l => by
    rw [List.foldl_cons, foldK_mem x ns, addK_mem, List.mem_cons]
    exact ⟨fun h => by rcases h with (h | h) | h <;> simp [h], fun h => by rcases h with h | h | h <;> simp [h]⟩
theorem foldK_nodup : ∀ (ns l : List Int), l.Nodup → (ns.foldl addK l).Nodup
  | [], _, h => h
  | n :: ns, l, h => foldK_nodup ns _ (addK_nodup n l h)
theorem getL_cons (p : Int × List Int) (L : List (Int × List Int)) (b : Int) : getL (p :: L) b = if p.1 = b then some p.2 else getL L b := by
  rw [getL, List.find?_cons]
  by_cases e : p.1 = b
  · simp [e]
  · have e' : (p.1 == b) = false := by simpa using e
    rw [e', if_neg e]; rfl
theorem getL_step (a : Int) (ns : List Int) (b : Int) : ∀ L : List (Int × List Int), getL (stepR a ns L) b = if b = a then some (ns.foldl addK ((getL L a).getD [])) else getL L b
  | [] => by
    rw [stepR, getL_cons]
    by_cases e : a = b
    · subst e; simp [getL]
    · rw [if_neg e, if_neg (fun h => e h.symm)]
  | p :: L => by
    rw [stepR]
    by_cases e : p.1 = a
    · rw [if_pos e, getL_cons, getL_cons, getL_cons]
      by_cases e2 : b = a
      · subst e2; simp [e]
      · simp only
        rw [if_neg (fun h => e2 h.symm), if_neg e2, if_neg (fun h => e2 (by rw [← h, e]))]
    · rw [if_neg e, getL_cons, getL_step a ns b L, getL_cons, getL_cons, if_neg e]
      by_cases e2 : p.1 = b
      · rw [if_pos e2, if_pos e2, if_neg (fun h => e (by rw [e2, h]))]
      · rw [if_neg e2, if_neg e2]
theorem keys_step (a : Int) (ns : List Int) (b : Int) : ∀ L : List (Int × List Int), b ∈ (stepR a ns L).map (·.1) ↔ b = a ∨ b ∈ L.map (·.1)
  | [] => by simp [stepR]
  | p :: L => by
    rw [stepR]
    by_cases e : p.1 = a
    · rw [if_pos e, List.map_cons, List.map_cons, List.mem_cons, List.mem_cons, ← e]
      exact ⟨fun h => .inr h, fun h => by rcases h with h | h | h <;> simp [h]⟩
    · rw [if_neg e, List.map_cons, List.map_cons, List.mem_cons, List.mem_cons, keys_step a ns b L]
      exact ⟨fun h => by rcases h with h | h | h <;> simp [h], fun h => by rcases h with h | h | h <;> simp [h]⟩
theorem nodup_step (a : Int) (ns : List Int) : ∀ L : List (Int × List Int), (L.map (·.1)).Nodup → ((stepR a ns L).map (·.1)).Nodup
  | [], _ => by simp [stepR]
  | p :: L, h => by
    rw [List.map_cons, List.nodup_cons] at h
    rw [stepR]
    by_cases e : p.1 = a
    · rw [if_pos e, List.map_cons, List.nodup_cons, ← e]; exact h
    · rw [if_neg e, List.map_cons, List.nodup_cons]
      exact ⟨fun hm => by rcases (keys_step a ns p.1 L).1 hm with h1 | h1; exact e h1; exact h.1 h1, nodup_step a ns L h.2⟩
theorem lists_keys (out : List Int) (ins : List (List Int)) (b : Int) : ∀ i, b ∈ (listsN out ins i).map (·.1) ↔ ∃ j, j < i ∧ out.getD j 0 = b
  | 0 => by simp [listsN]
  | i + 1 => by
    rw [listsN, stepL_eq, keys_step, lists_keys out ins b i]
    constructor
    · rintro (rfl | ⟨j, h1, h2⟩)
      · exact ⟨i, by omega, rfl⟩
      · exact ⟨j, by omega, h2⟩
    · rintro ⟨j, h1, h2⟩
      by_cases e : j = i
      · subst e; exact .inl h2.symm
      · exact .inr ⟨j, by omega, h2⟩
theorem lists_nodup (out : List Int) (ins : List (List Int)) : ∀ i, ((listsN out ins i).map (·.1)).Nodup
  | 0 => by simp [listsN]
  | i + 1 => by rw [listsN, stepL_eq]; exact nodup_step _ _ _ (lists_nodup out ins i)
theorem lists_mem (out : List Int) (ins : List (List Int)) (a x : Int) : ∀ i, x ∈ (getL (listsN out ins i) a).getD [] ↔ ∃ j, j < i ∧ out.getD j 0 = a ∧ x ∈ ins.getD j []
  | 0 => by simp [listsN, getL]
  | i + 1 => by
    rw [listsN, stepL_eq, getL_step]
    have ih := lists_mem out ins a x i
    by_cases e : a = out.getD i 0
    · rw [if_pos e, Option.getD_some, foldK_mem, ← e, ih]
      constructor
      · rintro (⟨j, h1, h2⟩ | h)
        · exact ⟨j, by omega, h2⟩
        · exact ⟨i, by omega, e.symm, h⟩
      · rintro ⟨j, h1, h2, h3⟩
        by_cases ej : j = i
        · subst ej; exact .inr h3
        · exact .inl ⟨j, by omega, h2, h3⟩
    · rw [if_neg e, ih]
      constructor
      · rintro ⟨j, h1, h2⟩; exact ⟨j, by omega, h2⟩
      · rintro ⟨j, h1, h2, h3⟩
        by_cases ej : j = i
        · subst ej; exact absurd h2.symm e
        · exact ⟨j, by omega, h2, h3⟩
theorem lists_in_nodup (out : List Int) (ins : List (List Int)) (a : Int) : ∀ i, ((getL (listsN out ins i) a).getD []).Nodup
  | 0 => by simp [listsN, getL]
  | i + 1 => by
    rw [listsN, stepL_eq, getL_step]
    by_cases e : a = out.getD i 0
    · rw [if_pos e, Option.getD_some, ← e]; exact foldK_nodup _ _ (lists_in_nodup out ins a i)
    · rw [if_neg e]; exact lists_in_nodup out ins a i
theorem listR_mem (out : List Int) (ins : List (List Int)) (a x : Int) : ∀ i, x ∈ listRN out ins a i ↔ ∃ j, j < i ∧ out.getD j 0 = a ∧ x ∈ ins.getD j []
  | 0 => by simp [listRN]
  | i + 1 => by
    rw [listRN]
    have ih := listR_mem out ins a x i
    by_cases e : out.getD i 0 = a
    · rw [if_pos e, foldP_eq, foldC_mem cmpI_cmp, ih]
      constructor
      · rintro (⟨j, h1, h2⟩ | h)
        · exact ⟨j, by omega, h2⟩
        · exact ⟨i, by omega, e, h⟩
      · rintro ⟨j, h1, h2, h3⟩
        by_cases ej : j = i
        · subst ej; exact .inr h3
        · exact .inl ⟨j, by omega, h2, h3⟩
    · rw [if_neg e, ih]
      constructor
      · rintro ⟨j, h1, h2⟩; exact ⟨j, by omega, h2⟩
      · rintro ⟨j, h1, h2, h3⟩
        by_cases ej : j = i
        · subst ej; exact absurd h2 e
        · exact ⟨j, by omega, h2, h3⟩
theorem listR_sorted (out : List Int) (ins : List (List Int)) (a : Int) : ∀ i, (listRN out ins a i).Pairwise fun x y => cmpI x y < 0
  | 0 => by simp [listRN]
  | i + 1 => by
    rw [listRN]
    split
    · rw [foldP_eq]; exact foldC_sorted cmpI_cmp _ _ (listR_sorted out ins a i)
    · exact listR_sorted out ins a i
theorem isort_lt (l : List Int) (h : l.Nodup) : (isort l).Pairwise fun x y => cmpI x y < 0 := by
  have h1 := isort_sorted l
  have h2 : (isort l).Nodup := (isort_perm l).nodup_iff.2 h
  refine (List.Pairwise.and h1 h2).imp fun {a b} hab => (cmpI_lt a b).2 ?_
  have := hab.1
  have := hab.2
  omega
theorem list_same (r : Rl) (a : Int) : isort ((getL (listsN r.1 r.2 r.1.length) a).getD []) = listR r a := by
  refine cmpI_cmp.ext (isort_lt _ (lists_in_nodup _ _ _ _)) (listR_sorted _ _ _ _) fun x => ?_
  rw [(isort_perm _).mem_iff, lists_mem, listR, listR_mem]
  constructor
  · rintro ⟨j, h1, h2, h3⟩
    refine ⟨j, ?_, h2, h3⟩
    by_cases e : j < r.2.length
    · omega
    · rw [List.getD_eq_getElem?_getD, List.getElem?_eq_none (by omega)] at h3; simp at h3
  · rintro ⟨j, h1, h2⟩; exact ⟨j, by omega, h2⟩
theorem keys_same (r : Rl) : pubOfE (listsN r.1 r.2 r.1.length) = r.1.foldl putD [] := by
  rw [foldP_eq, pubOfE]
  refine cmpI_cmp.ext (isort_lt _ (lists_nodup _ _ _)) (foldC_sorted cmpI_cmp _ _ List.Pairwise.nil) fun x => ?_
  rw [(isort_perm _).mem_iff, lists_keys, foldC_mem cmpI_cmp]
  constructor
  · rintro ⟨j, h1, h2⟩
    rw [List.getD_eq_getElem?_getD, List.getElem?_eq_getElem h1] at h2
    simp only [Option.getD_some] at h2
    exact .inr (h2 ▸ List.getElem_mem h1)
  · rintro (h | h)
    · cases h
    · obtain ⟨j, hj, rfl⟩ := List.mem_iff_getElem.1 h
      exact ⟨j, hj, by rw [List.getD_eq_getElem?_getD, List.getElem?_eq_getElem hj]; rfl⟩
theorem canonE_pub (r : Rl) : canonE pubOfE r = canonR r := by
  rw [canonE, canonR, aboutR, keys_same]
  congr 1
  exact List.map_congr_left fun a _ => list_same r a
theorem canonE_about (ls : List Int) (r : Rl) : canonE (fun _ => ls) r = aboutR r ls := by
  rw [canonE, aboutR]
  congr 1
  exact List.map_congr_left fun a _ => list_same r a
/-! ### Comparing canonical relations -/
def wfR (r : Rl) : Prop := r.2.length = r.1.length
theorem pre_eq : ∀ (a b : List (List Int)), a.length = b.length → cmpPre a b = cmpBy cmpL a b
  | [], [], _ => rfl
  | [], b :: y, h => by simp at h
  | a :: x, [], h => by simp at h
  | a :: x, b :: y, h => by rw [cmpPre, cmpBy, pre_eq x y (by simpa using h)]
theorem order_eq {r s : Rl} (hr : wfR r) (hs : wfR s) : orderR r s = cmpC r s := by
  rw [orderR, cmpC]
  by_cases e : cmpL r.1 s.1 = 0
  · rw [if_neg (by simp [e]), if_neg (by simp [e]), pre_eq]
    rw [hr, hs, (cmpL_cmp.eq0 _ _).1 e]
  · rw [if_pos e, if_pos e]
theorem insC_congr {x : List Rl} {r : Rl} (hr : wfR r) (hx : ∀ y ∈ x, wfR y) : insC orderR x r = insC cmpC x r := by
  induction x with
  | nil => rfl
  | cons y t ih => rw [insC, insC, ih fun z hz => hx z (List.mem_cons_of_mem _ hz), order_eq (hx y List.mem_cons_self) hr]
theorem fold_congr : ∀ (M x : List Rl), (∀ r ∈ M, wfR r) → (∀ r ∈ x, wfR r) → M.foldl (insC orderR) x = M.foldl (insC cmpC) x
  | [], _, _, _ => rfl
  | r :: M, x, hM, hx => by
    rw [List.foldl_cons, List.foldl_cons, insC_congr (hM r List.mem_cons_self) hx]
    refine fold_congr M _ (fun s hs => hM s (List.mem_cons_of_mem _ hs)) fun s hs => ?_
    rcases (insC_mem cmpC_cmp r s x).1 hs with rfl | h
    · exact hM s List.mem_cons_self
    · exact hx s h
theorem about_wf (r : Rl) (ls : List Int) : wfR (aboutR r ls) := by simp [wfR, aboutR]
theorem canon_wf (r : Rl) : wfR (canonR r) := about_wf _ _
theorem refPub_eq (l : List Rl) : refPub l = (l.map canonR).foldl (insC cmpC) [] :=
  fold_congr _ _ (fun r hr => by obtain ⟨s, _, rfl⟩ := List.mem_map.1 hr; exact canon_wf s) (by simp)
theorem public_ref (l : List Rl) : publicE pubOfE l = refPub l := by
  rw [publicE, pub_fold, refPub_eq, show canonE pubOfE = canonR from funext canonE_pub]
theorem foldP_self {ls : List Int} (h : ls.Pairwise fun x y => cmpI x y < 0) : ls.foldl putD [] = ls := by
  rw [foldP_eq]
  refine cmpI_cmp.ext (foldC_sorted cmpI_cmp _ _ List.Pairwise.nil) h fun x => ?_
  rw [foldC_mem cmpI_cmp]; simp
theorem pair_inj {ls : List Int} (h : ls.Pairwise fun x y => cmpI x y < 0) {i j : Nat} (hi : i < ls.length) (hj : j < ls.length) (e : ls[i] = ls[j]) : i = j := by
  rw [List.pairwise_iff_getElem] at h
  rcases Nat.lt_trichotomy i j with hlt | rfl | hlt
  · have := h i j hi hj hlt; rw [e, cmpI_cmp.self] at this; omega
  · rfl
  · have := h j i hj hi hlt; rw [e, cmpI_cmp.self] at this; omega
theorem canon_about {ls : List Int} (h : ls.Pairwise fun x y => cmpI x y < 0) (r : Rl) : canonR (aboutR r ls) = aboutR r ls := by
  rw [canonR]
  have h1 : (aboutR r ls).1.foldl putD [] = ls := foldP_self h
  rw [h1, aboutR]
  rw [show aboutR r ls = (ls, ls.map (listR r)) from rfl]
  congr 1
  refine List.map_congr_left fun a ha => ?_
  refine cmpI_cmp.ext (listR_sorted _ _ _ _) (listR_sorted _ _ _ _) fun x => ?_
  have hx : x ∈ listR (ls, ls.map (listR r)) a ↔ x ∈ listR r a := by
    rw [listR, listR_mem]
    simp only [List.length_map, Nat.min_self]
    obtain ⟨i, hi, rfl⟩ := List.mem_iff_getElem.1 ha
    constructor
    · rintro ⟨j, h1, h2, h3⟩
      rw [List.getD_eq_getElem?_getD, List.getElem?_eq_getElem h1, Option.getD_some] at h2
      rw [List.getD_eq_getElem?_getD, List.getElem?_map, List.getElem?_eq_getElem h1] at h3
      simp only [Option.map_some, Option.getD_some, h2] at h3
      exact h3
    · intro hx
      exact ⟨i, hi, by rw [List.getD_eq_getElem?_getD, List.getElem?_eq_getElem hi]; rfl, by rw [List.getD_eq_getElem?_getD, List.getElem?_map, List.getElem?_eq_getElem hi]; exact hx⟩
  exact hx
theorem learn_incr {ls : List Int} (h : learnOK ls = true) : ls.Pairwise fun x y => cmpI x y < 0 := by
  rw [learnOK, Bool.and_eq_true, List.all_eq_true] at h
  have hs : ∀ i, i + 1 < ls.length → ls.getD i 0 < ls.getD (i + 1) 0 := fun i hi => by
    have := h.1 (i + 1) (List.mem_range.2 hi)
    rw [badAt, Nat.add_sub_cancel] at this
    generalize ls.getD i 0 = x at this ⊢
    generalize ls.getD (i + 1) 0 = y at this ⊢
    simp at this
    omega
  rw [List.pairwise_iff_getElem]
  intro i j hi hj hij
  rw [cmpI_lt]
  have key : ∀ d (hd : i + d + 1 < ls.length), ls.getD i 0 < ls.getD (i + d + 1) 0 := by
    intro d
    induction d with
    | zero => intro hd; exact hs i hd
    | succ d ih => intro hd; have h1 := ih (by omega); have h2 := hs (i + d + 1) (by omega); rw [show i + (d + 1) + 1 = i + d + 1 + 1 by omega]; omega
  have := key (j - i - 1) (by omega)
  rw [show i + (j - i - 1) + 1 = j by omega, List.getD_eq_getElem?_getD, List.getD_eq_getElem?_getD, List.getElem?_eq_getElem hi, List.getElem?_eq_getElem hj] at this
  exact this
theorem learn_ref (l : List Rl) (ls : List Int) : learnE l ls = learnR l ls := by
  rw [learnE, learnR]
  by_cases h : learnOK ls = true
  · rw [if_pos h, if_pos h, publicE, pub_fold, refPub_eq, List.map_map]
    congr 2
    refine List.map_congr_left fun r _ => ?_
    rw [canonE_about, Function.comp, canon_about (learn_incr h)]
  · rw [if_neg h, if_neg h]
theorem publicD_ref (l : List Rl) : publicD pubOf l = refPub l := by rw [publicD_eq, pubOf_eq, public_ref]
theorem learnD_ref (l : List Rl) (ls : List Int) : learnD l ls = learnR l ls := by rw [learnD_eq, learn_ref]
end Go.Bf
