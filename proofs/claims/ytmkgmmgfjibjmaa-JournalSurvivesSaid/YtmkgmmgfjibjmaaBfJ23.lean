/-
  The journal in plain words: rounds of writing during which the disk may stop. No program in sight. Nothing is claimed here.
-/
import Derived.Test.YtmkgmmgfjibjmaaBfJ16
namespace Go.Bf
open Go Go.RowKit
/-- A disk before a round. -/
structure Live (n i : Nat) (d : Dk) : Prop where
  ok : okD d = true
  st : d.st = false
  ps : d.ps = []
  left : d.left = -1
  len : d.ss.length = n
  gens : gensD d.ss ≤ i + 1
def backD (y : Dk) : Dk := ⟨y.ss, [], -1, false⟩
theorem okD_back {ss : List (List UInt8)} (h1 : 1 ≤ ss.length) (h2 : ss.length ≤ 4096) (h3 : ∀ s ∈ ss, s.length = 128) : okD ⟨ss, [], -1, false⟩ = true := by
  rw [okD_iff]
  exact ⟨⟨h1, h2, by simp, by simp, by simp⟩, by simp, h3⟩
theorem zero_good (k : Nat) : goodD zeroS k = false := by
  have : formD zeroS = false := by decide +kernel
  rw [goodD, this]; rfl
theorem live_new (n : Nat) (h1 : 1 ≤ n) (h2 : n ≤ 30) : ∃ d, newD (n : Int) = (d, 0) ∧ Live n 0 d ∧ recsL d.ss = [] := by
  refine ⟨⟨List.replicate n zeroS, [], -1, false⟩, ?_, ⟨okD_back (by simp; omega) (by simp; omega) (fun s hs => by rw [(List.mem_replicate.1 hs).2]; rfl), rfl, rfl, rfl, by simp, ?_⟩, ?_⟩
  · unfold newD
    rw [if_neg (by omega)]; rfl
  · rw [gensD_le]
    exact ⟨by omega, fun s hs => by rw [(List.mem_replicate.1 hs).2]; exact ⟨by decide +kernel, by decide +kernel⟩⟩
  · have h0 : oneD (List.replicate n zeroS) 0 0 ((List.replicate n zeroS).length - 0) 0 [] = none := by
      refine oneD_bad (x := 0) ?_ (Nat.le_refl _) (fun i h1 h2 => by omega)
      rw [show (List.replicate n zeroS).getD 0 [] = zeroS by obtain ⟨m, rfl⟩ : ∃ m, n = m + 1 := ⟨n - 1, by omega⟩; rfl]
      exact zero_good 0
    rw [recsL, recsD, recsF_none h0]; rfl
/-- The journal that is opened of a disk. -/
def jO (n : Nat) (d : Dk) : Jn := ⟨n, (recsL d.ss).length, recsL d.ss⟩
theorem Live.open {n i : Nat} {d : Dk} (h : Live n i d) : openD d = (jO n d, 0) := by
  unfold openD
  rw [if_pos h.ok, h.st, h.ps]
  simp [jO, h.len]
theorem Live.fits {n i : Nat} {d : Dk} (h : Live n i d) : d.fits := by
  have := okD_ps h.ok
  exact ⟨by omega, by omega⟩
theorem lay_le {l : List (List UInt8)} {p last : Nat} {bs : List (List UInt8)} {e g : Nat} (h : Lay l p last bs e g) : ∀ b ∈ bs, b.length ≤ 112 * l.length := by
  induction h with
  | nil => simp
  | cons h1 h2 _ ih =>
    intro c hc
    rcases List.mem_cons.1 hc with rfl | hc
    · have h3 := oneD_len h1
      have h4 := oneD_le h1
      simp at h3
      omega
    · exact ih c hc
theorem Live.sm {n i : Nat} {d : Dk} (h : Live n i d) : Sm (jO n d) := by
  obtain ⟨g, hg, hlay, _⟩ := lay_start (ss := d.ss)
  have he := hlay.end
  have hp := okD_ps h.ok
  have hle := he.2.1 (by omega)
  refine Sm.of ⟨by simp only [jO]; have := h.len; omega, by simp only [jO]; have := h.len; omega⟩ ⟨by simp only [jO]; omega, by simp only [jO]; omega⟩ (by simp only [jO]; have := h.len; omega) (fun b hb => ?_)
  have := lay_le hlay b hb
  omega
theorem Live.asked {n i : Nat} {d dl : Dk} (h : Live n i d) (hi : i ≤ 8) (hdl : dl = d ∨ ∃ t : Nat, t < 40 ∧ dl = { d with left := (t : Int) }) {l : List (List UInt8)} (hl : ∀ b ∈ l, b.length ≤ 140737488355328) :
    Asked (addJ (jO n d) l) dl ∧ Sm (addJ (jO n d) l) ∧ dl.ss = d.ss ∧ dl.fits := by
  obtain ⟨h1, h2, h3, t, h4⟩ := addJ_sm l h.sm hl
  have hss : dl.ss = d.ss := by rcases hdl with rfl | ⟨t, _, rfl⟩ <;> rfl
  have hok : okD dl = true := by
    rcases hdl with rfl | ⟨t, ht, rfl⟩
    · exact h.ok
    · have := (okD_iff d).1 h.ok
      rw [okD_iff]
      exact ⟨⟨this.1.1, this.1.2.1, this.1.2.2.1, by simp only; omega, by simp only; omega⟩, this.2⟩
  have hst : dl.st = false := by rcases hdl with rfl | ⟨t, _, rfl⟩ <;> exact h.st
  have hps : dl.ps = [] := by rcases hdl with rfl | ⟨t, _, rfl⟩ <;> exact h.ps
  have hu := h1.used
  have hsy := h1.syn
  have hp := okD_ps hok
  refine ⟨⟨h1.ok, by omega, hok, hst, hps, by rw [h2, hss, h.len]; rfl, ?_, by rw [hss]; have := h.gens; omega⟩, h1, hss, ⟨by omega, by omega⟩⟩
  rw [h3, h4, hss]
  simp [jO]
/-- One round. -/
theorem Live.round {n i : Nat} {d dl : Dk} (h : Live n i d) (hi : i ≤ 8) {l : List (List UInt8)} (hl : ∀ b ∈ l, b.length ≤ 140737488355328) (hdl : dl = d ∨ ∃ t : Nat, t < 40 ∧ dl = { d with left := (t : Int) }) :
    (∃ x y, jsyncD (addJ (jO n d) l) dl = (x, y, 0) ∧ x.synced = (addJ (jO n d) l).recs.length ∧ x.recs = (addJ (jO n d) l).recs ∧ Live n (i + 1) (backD y) ∧ recsL y.ss = (addJ (jO n d) l).recs) ∨
    (dl ≠ d ∧ ∃ y, jsyncD (addJ (jO n d) l) dl = (zeroJ, y, 440) ∧ Live n (i + 1) (backD y) ∧ (recsL d.ss).length ≤ (recsL y.ss).length ∧ (recsL y.ss).length ≤ (addJ (jO n d) l).recs.length ∧
      recsL y.ss = (addJ (jO n d) l).recs.take (recsL y.ss).length) := by
  obtain ⟨ha, hs, hss, _⟩ := h.asked hi hdl hl
  obtain ⟨h1, h2, h3, t, h4⟩ := addJ_sm l h.sm hl
  have hg := h.gens
  have hp := okD_ps h.ok
  by_cases hc : 0 ≤ dl.left ∧ dl.left < usedN ((addJ (jO n d) l).recs.drop (addJ (jO n d) l).synced.toNat)
  · right
    refine ⟨fun e => ?_, ?_⟩
    · rw [e, h.left] at hc; omega
    · obtain ⟨y, g1, g2⟩ := torn_of ha hc
      obtain ⟨k, hk⟩ := g2.opened
      have hlen := g2.len
      have hgen := g2.gens
      rw [hss] at hlen hk hgen
      have hd4 : (addJ (jO n d) l).recs.drop (addJ (jO n d) l).synced.toNat = t := by rw [h3, h4]; simp [jO]
      rw [hd4] at hk
      have hrec : (addJ (jO n d) l).recs = recsL d.ss ++ t := h4
      have hle : (recsL y.ss).length ≤ (addJ (jO n d) l).recs.length := by rw [hk, hrec]; simp; omega
      refine ⟨y, g1, ⟨okD_back (by omega) (by omega) g2.sect, rfl, rfl, rfl, by simp only [backD]; rw [hlen, h.len], by simp only [backD]; omega⟩, by rw [hk]; simp, hle, ?_⟩
      rw [hk, hrec, List.length_append, List.take_length_add_append, List.length_take]
      congr 1
      rw [List.take_eq_take_iff]
      omega
  · left
    obtain ⟨x, y, g1, g2, _⟩ := synced_of ha hc
    have hlen := g2.len
    have hgen := g2.gens
    rw [hss] at hlen hgen
    have hy := (okD_iff y).1 g2.ok
    exact ⟨x, y, g1, g2.all, g2.recs, ⟨okD_back (by omega) (by omega) hy.2.2, rfl, rfl, rfl, by simp only [backD]; rw [hlen, h.len], by simp only [backD]; omega⟩, g2.opened⟩
end Go.Bf
