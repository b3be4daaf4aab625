/-
  The law on damage. Printed by program (j15.py). Nothing is claimed here.
-/
import Derived.Test.YtmkgmmgfjibjmaaBfJ16
import Derived.Test.YtmkgmmgfjibjmaaBfJ17
set_option maxRecDepth 100000
set_option maxHeartbeats 8000000
namespace Go.Bf
open Go Go.RowKit Go.Proofs Go.IntWalk
attribute [local simp] encB rowL rowW encSs encPs encD maxLen isBytes_map bytesOf_map encJ
/-- The journal of the fresh disk with these records. -/
def jR (R : List (List UInt8)) : Jn := ⟨40, 0, R⟩
/-- Where the records end. -/
def endsC (l : List (List UInt8)) (i : Nat) : List SV := (List.range i).map fun t => .d (.int .i64 (usedN (l.take (t + 1)) : Nat))
theorem endsC_succ (l : List (List UInt8)) (i : Nat) : endsC l (i + 1) = endsC l i ++ [.d (.int .i64 (usedN (l.take (i + 1)) : Nat))] := by
  simp [endsC, List.range_succ]
@[simp] theorem endsC_length (l : List (List UInt8)) (i : Nat) : (endsC l i).length = i := by simp [endsC]
theorem endsC_get (l : List (List UInt8)) (i t : Nat) (h : t < i) : (endsC l i)[t]? = some (.d (.int .i64 (usedN (l.take (t + 1)) : Nat))) := by simp [endsC, h]
theorem endsC_ren (ρ : Nat → Nat) (l : List (List UInt8)) (i : Nat) : renL ρ (endsC l i) = endsC l i := by
  rw [renL_eq, endsC, List.map_map]; rfl
theorem usedN_succ (l : List (List UInt8)) (i : Nat) (h : i < l.length) : usedN (l.take (i + 1)) = usedN (l.take i) + secD l[i].length := by
  rw [List.take_succ_eq_append_getElem h, usedN_snoc]
theorem sec_int2 (n : Nat) (h : n ≤ 140737488355328) : (if 1 < Int.tdiv ((n : Int) + 111) 112 then Int.tdiv ((n : Int) + 111) 112 else 1) = (secD n : Int) := by
  have : Int.tdiv ((n : Int) + 111) 112 = (((n + 111) / 112 : Nat) : Int) := by
    rw [Int.tdiv_eq_ediv_of_nonneg (by omega)]; omega
  rw [this, secD]
  split <;> omega
theorem cnt_char : ∀ (R : List (List UInt8)) (k w : Nat), w ≤ R.length → (∀ t, t < w → usedN (R.take (t + 1)) ≤ k) → (w = R.length ∨ k < usedN (R.take (w + 1))) → cntD k R = w
  | [], k, w, h, _, _ => by simp at h; subst h; rfl
  | b :: R, k, w, h, h1, h2 => by
    rw [cntD]
    by_cases hc : secD b.length ≤ k
    · rw [if_pos hc]
      cases w with
      | zero =>
        rcases h2 with h2 | h2
        · simp at h2
        · simp [usedN] at h2; omega
      | succ w =>
        rw [cnt_char R (k - secD b.length) w (by simpa using h) (fun t ht => by
          have := h1 (t + 1) (by omega)
          rw [List.take_succ_cons, usedN_cons] at this; omega) (by
          rcases h2 with h2 | h2
          · left; simpa using h2
          · right; rw [List.take_succ_cons, usedN_cons] at h2; omega)]
    · rw [if_neg hc]
      cases w with
      | zero => rfl
      | succ w =>
        have := h1 0 (by omega)
        simp [usedN] at this
        omega
/-- What the sync of some records on the fresh disk leaves. -/
def dC (R : List (List UInt8)) : Dk := ⟨performL sD40.ss (secsL (gensD sD40.ss) 0 R), [], -1, false⟩
theorem damage_sync {R : List (List UInt8)} (hs : Sm (jR R)) (hR : R ≠ []) : jsyncD (jR R) sD40 = ({ jR R with synced := R.length }, dC R, 0) ∧ okD (dC R) = true ∧ (dC R).ss.length = 40 := by
  obtain ⟨e1, e2, e3, e4, e5, e6, e7⟩ := e_d40
  have ha : Asked (jR R) sD40 := ⟨hs.ok, by have := hs.used; have := hs.syn; omega, e1, e2, e3, by rw [e5]; rfl, by rw [e6]; rfl, by rw [e7]; decide⟩
  have hrun := asked_run ha
  have hne : ¬ (jR R).synced = (jR R).recs.length := fun e => hR (List.eq_nil_of_length_eq_zero (by simp only [jR] at e; omega))
  have hok := okD_secs ha
  rw [if_neg hne] at hrun
  have hsy : syncD { sD40 with ps := secsL (gensD sD40.ss) (usedN (recsL sD40.ss)) ((jR R).recs.drop (jR R).synced.toNat) } = (dC R, 0) := by
    rcases syncD_cases _ hok e2 with ⟨h1, _⟩ | ⟨_, h2⟩
    · exfalso; simp only [e4] at h1; omega
    · rw [h2]; simp only [e4, e6, dC, jR]; rfl
  rw [hsy] at hrun
  have hoks := okD_sync hok e2 (by rw [hsy])
  rw [hsy] at hoks
  exact ⟨by rw [hrun]; simp only [if_true]; rfl, hoks.1, by simp [dC, e5]⟩
theorem xor8 (x y : UInt8) : bitF .xor .u8 (x.toNat : Int) (y.toNat : Int) = ((x ^^^ y).toNat : Int) := by
  unfold bitF
  show IntKind.u8.wrap ((BitVec.ofInt 8 (x.toNat : Int) ^^^ BitVec.ofInt 8 (y.toNat : Int)).toNat : Int) = _
  rw [BitVec.ofInt_natCast, BitVec.ofInt_natCast, BitVec.toNat_xor, BitVec.toNat_ofNat, BitVec.toNat_ofNat, Nat.mod_eq_of_lt (by have := x.toNat_lt; omega), Nat.mod_eq_of_lt (by have := y.toNat_lt; omega), UInt8.toNat_xor]
  have : x.toNat ^^^ y.toNat < 2 ^ 8 := Nat.xor_lt_two_pow (by have := x.toNat_lt; omega) (by have := y.toNat_lt; omega)
  generalize x.toNat ^^^ y.toNat = m at *
  simp [IntKind.wrap, IntKind.signed, IntKind.bits]
  omega
theorem xor_ne (x y : UInt8) (h : y ≠ 0) : x ^^^ y ≠ x := fun e => h (by
  have := congrArg (x ^^^ ·) e
  simpa [← UInt8.xor_assoc] using this)
/-- All that the law on damage asks behind the sync. -/
theorem damage_all {R : List (List UInt8)} (hs : Sm (jR R)) (hR : R ≠ []) {k p : Nat} (hk : k < usedN R) (hp : p < 128) {c : UInt8} (hc : c ≠ 0) :
    ∃ s : List UInt8, s.length = 128 ∧ (dC R).ss[k]? = some s ∧ ∃ v, s[p]? = some v ∧
      writeD (dC R) k (s.set p (v ^^^ c)) = (⟨(dC R).ss, [((k : Int), s.set p (v ^^^ c))], -1, false⟩, 0) ∧ syncD ⟨(dC R).ss, [((k : Int), s.set p (v ^^^ c))], -1, false⟩ = (⟨(dC R).ss.set k (s.set p (v ^^^ c)), [], -1, false⟩, 0) ∧
      (openD ⟨(dC R).ss.set k (s.set p (v ^^^ c)), [], -1, false⟩).2 = 0 ∧ (openD ⟨(dC R).ss.set k (s.set p (v ^^^ c)), [], -1, false⟩).1.recs = R.take (cntD k R) := by
  obtain ⟨e1, e2, e3, e4, e5, e6, e7⟩ := e_d40
  obtain ⟨_, hok, hlen⟩ := damage_sync hs hR
  have hu := hs.used
  have hk40 : k < (dC R).ss.length := by rw [hlen]; simp only [jR] at hu; omega
  have hd := (okD_iff _).1 hok
  have hsl : (dC R).ss[k].length = 128 := hd.2.2 _ (List.getElem_mem hk40)
  have hgd : (dC R).ss.getD k [] = (dC R).ss[k] := by simp [hk40]
  have hokw : okD ⟨(dC R).ss, [((k : Int), (dC R).ss[k].set p ((dC R).ss[k][p] ^^^ c))], -1, false⟩ = true := by
    have := okD_write (d := dC R) (a := k) (p := (dC R).ss[k].set p ((dC R).ss[k][p] ^^^ c)) hok (by omega) (by omega) (by simp [hsl]) (by simp [dC])
    simpa [dC] using this
  have hsy : syncD ⟨(dC R).ss, [((k : Int), (dC R).ss[k].set p ((dC R).ss[k][p] ^^^ c))], -1, false⟩ = (⟨(dC R).ss.set k ((dC R).ss[k].set p ((dC R).ss[k][p] ^^^ c)), [], -1, false⟩, 0) := by
    rcases syncD_cases _ hokw rfl with ⟨h1, _⟩ | ⟨_, h2⟩
    · exfalso; simp only at h1; omega
    · rw [h2]; simp [performL, setAt]
  have hoks := (okD_sync hokw rfl (by rw [hsy])).1
  rw [hsy] at hoks
  refine ⟨(dC R).ss[k], hsl, List.getElem?_eq_getElem hk40, (dC R).ss[k][p], List.getElem?_eq_getElem (by omega), ?_, hsy, ?_, ?_⟩
  · unfold writeD
    rw [hok, if_pos (by simp [dC]; have := hlen; simp [dC] at this; omega), if_neg (by simp [hsl]), if_neg (by simp [dC])]
    simp [dC, padB]
    simp [dC] at hsl
    omega
  · unfold openD; rw [if_pos hoks]; simp
  · unfold openD; rw [if_pos hoks]
    simp only [Bool.false_eq_true, if_false, ne_eq, not_true]
    have hp' : p < ((dC R).ss.getD k []).length := by rw [hgd, hsl]; exact hp
    have hv : (dC R).ss[k][p] ^^^ c ≠ ((dC R).ss.getD k [])[p] := by
      have e : ((dC R).ss.getD k [])[p] = (dC R).ss[k][p] := by simp only [hgd]
      rw [e]; exact xor_ne _ _ hc
    have key := damaged (P := (dC R).ss) (ss := sD40.ss) (rest := R) rfl e6 (by rw [e7]; decide) (by simp only [jR] at hu; omega) (by omega) hk hp' hv
    rw [hgd] at key
    exact key
end Go.Bf
