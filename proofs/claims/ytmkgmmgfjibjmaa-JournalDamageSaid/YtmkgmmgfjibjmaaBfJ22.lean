/-
  The law on damage. Printed by program (j15b.py). Nothing is claimed here.
-/
import Derived.Test.YtmkgmmgfjibjmaaBfJ21
set_option maxRecDepth 100000
set_option maxHeartbeats 8000000
namespace Go.Bf
open Go Go.RowKit Go.Proofs Go.IntWalk
attribute [local simp] encB rowL rowW encSs encPs encD maxLen isBytes_map bytesOf_map encJ endsC_ren cB
theorem sec_int3 (n : Nat) (h : n ≤ 140737488355328) : (if 1 < IntKind.i64.wrap (Int.tdiv ((n : Int) + 111) 112) then IntKind.i64.wrap (Int.tdiv ((n : Int) + 111) 112) else 1) = (secD n : Int) := by
  rw [i64_in (Int.tdiv ((n : Int) + 111) 112) (by rw [Int.tdiv_eq_ediv_of_nonneg (by omega)]; omega)]
  exact sec_int2 n h
theorem kmod (x : Int) (U : Nat) (h0 : 0 < U) (h1 : U ≤ 128) : ∃ k : Nat, Int.tmod (IntKind.u64.wrap x) (U : Int) = k ∧ k < U := by
  have hw := inK_wrap .u64 x
  simp only [InK, IntKind.min, IntKind.max, IntKind.signed, IntKind.bits, Bool.false_eq_true, if_false] at hw
  refine ⟨(Int.tmod (IntKind.u64.wrap x) (U : Int)).toNat, ?_, ?_⟩
  · rw [Int.tmod_eq_emod_of_nonneg hw.1, Int.toNat_of_nonneg (Int.emod_nonneg _ (by omega))]
  · rw [Int.tmod_eq_emod_of_nonneg hw.1]
    have := Int.emod_lt_of_pos (IntKind.u64.wrap x) (show (0 : Int) < U by omega)
    have := Int.emod_nonneg (IntKind.u64.wrap x) (show (U : Int) ≠ 0 by omega)
    omega
theorem sync_none (hs : Sm (jR [])) : jsyncD (jR []) sD40 = (jR [], sD40, 0) := by
  obtain ⟨e1, e2, e3, e4, e5, e6, e7⟩ := e_d40
  have ha : Asked (jR []) sD40 := ⟨hs.ok, by have := hs.used; have := hs.syn; omega, e1, e2, e3, by rw [e5]; rfl, by rw [e6]; rfl, by rw [e7]; decide⟩
  rw [asked_run ha, if_pos (show (jR []).synced = ((jR []).recs.length : Int) from rfl)]
theorem endsC_frz (b : Nat) (ds : List DV) (l : List (List UInt8)) (i : Nat) : frzL b ds (endsC l i) = endsC l i := by
  rw [frzL_eq, endsC, List.map_map]; rfl
attribute [local simp] endsC_frz
theorem law_JournalDamage (l : List (List UInt8)) (hl : FitL l) (sector at' : Int) (c : UInt8) : FnWp Try.prog 6 [encSs l, .int .i64 sector, .int .i64 at', cB c] (· = .ret (.bool true)) := by
  refine FnWp.intro' Try.func6 rfl (by simp [Try.ntmps6]) fun E hE => ?_
  refine DWp.reg false fun kk hk => ?_
  simp
  refine hk _ ?_
  refine DWp.seqK fun k1 hk1 => ?_
  refine DWp.reg false fun kk hk => ?_
  simp
  refine CallAt.det false ent9 rfl (jsane_c) ?_
  simp
  refine hk _ ?_
  refine DWp.condB ?_
  simp
  refine DWp.skip ?_
  refine hk1 _ ?_
  refine DWp.reg false fun kk hk => ?_
  simp
  refine CallAt.det false ent21 rfl (new_c 40) ?_
  rw [e_new40]
  simp
  refine hk _ ?_
  refine DWp.seqK fun k2 hk2 => ?_
  refine DWp.reg false fun kk hk => ?_
  simp
  refine CallAtG.det false ent10 rfl (fun _ => few_c sD40 l (by have := hl.1; omega) hl.2) ?_
  try simp
  refine hk _ ?_
  refine DWp.condB ?_
  simp
  refine ⟨fun hT1 => ?_, fun hF1 => ?_⟩
  · simp [Tt] at hT1
    refine DWp.reg false fun kk hk => ?_
    simp
    refine hk _ ?_
    refine DWp.ret (hE _ ?_).2
    simp
  · simp [Ff] at hF1
    have hc0 : c ≠ 0 := fun e => by subst e; simp at hF1
    refine DWp.skip ?_
    refine hk2 _ ?_
    refine DWp.reg false fun kk hk => ?_
    simp
    refine CallAt.det false ent11 rfl (open_c sD40 e_fd40) ?_
    rw [e_open40]
    simp
    refine hk _ ?_
    refine DWp.seqK fun k3 hk3 => ?_
    refine DWp.reg false fun kk hk => ?_
    simp
    refine hk _ ?_
    refine DWp.condB ?_
    simp
    refine DWp.skip ?_
    refine hk3 _ ?_
    refine DWp.reg false fun kk hk => ?_
    simp
    refine hk _ ?_
    refine DWp.seqK fun k4 hk4 => ?_
    obtain ⟨m1, m2, m3⟩ := e_lm
    have hs0 : Sm (jR []) := by have := sL40_sm; rwa [show sL40 = jR [] from jn_eq m1 m2 m3] at this
    have hJ4 : ∀ (K' : Know) (i : Nat) (hi : i ≤ l.length) (hx : Sm (jR (l.take i))) (v : SV) (ml : List (TypeId × List SV)) (hv : ((v = .clip [] ∧ ml = [] ∧ i = 0) ∨ (v = .own 2 1 0 i none ∧ ml = [(43, endsC l i)] ∧ 0 < i))), Sub (Know.of 211 [(0, .d (encSs l)), (1, .d (.int .i64 sector)), (2, .d (.int .i64 at')), (3, .d (cB c)), (9, .loc 0 0), (11, .loc 1 0), (13, v)] ((25, [.d (encSs sD40.ss), .d (encPs sD40.ps), .d (.int .i64 sD40.left), .d (.bool sD40.st)]) :: (29, [.d (.int .i64 40), .d (.int .i64 0), .d (encSs (l.take i))]) :: ml)) K' → k4 K' := by
      intro K' i hi hx v ml hv hs
      refine hk4 _ (DWp.sub hs ?_)
      obtain ⟨R, hR⟩ : ∃ R, l.take i = R := ⟨_, rfl⟩
      rw [hR] at hx
      have hRl : R.length = i := by rw [← hR]; simp; omega
      have hxu : usedN (jR R).recs < 4611686018427387904 := by have := hx.used; have := hx.syn; omega
      rcases hv with ⟨rfl, rfl, hi0⟩ | ⟨rfl, rfl, hi0⟩
      · obtain rfl : R = [] := List.eq_nil_of_length_eq_zero (by omega)
        refine DWp.reg false fun kk hk => ?_
        simp [hR]
        refine CallAt.det false ent22 rfl (jsync_c (jR []) hx.fit sD40 e_fd40 hxu) ?_
        rw [sync_none hx]
        simp
        refine hk _ ?_
        refine DWp.seqK fun k5 hk5 => ?_
        refine DWp.reg false fun kk hk => ?_
        simp
        refine hk _ ?_
        refine DWp.condB ?_
        simp
        refine DWp.reg false fun kk hk => ?_
        simp
        refine hk _ ?_
        refine DWp.ret (hE _ ?_).2
        simp
      · have hRn : R ≠ [] := fun e => by rw [e] at hRl; simp at hRl; omega
        obtain ⟨hsy, hokc, hlen⟩ := damage_sync hx hRn
        refine DWp.reg false fun kk hk => ?_
        simp [hR]
        refine CallAt.det false ent22 rfl (jsync_c (jR R) hx.fit sD40 e_fd40 hxu) ?_
        rw [hsy]
        simp
        refine hk _ ?_
        refine DWp.seqK fun k6 hk6 => ?_
        refine DWp.reg false fun kk hk => ?_
        simp
        refine hk _ ?_
        refine DWp.condB ?_
        simp
        refine ⟨fun hT6 => ?_, fun hF6 => ?_⟩
        · simp [Tt] at hT6
          exfalso
          omega
        · simp [Ff] at hF6
          refine DWp.skip ?_
          refine hk6 _ ?_
          have hi1 : IntKind.i64.wrap ((i : Int) - 1) = ((i - 1 : Nat) : Int) := by rw [i64_in _ (by have := hl.1; omega)]; omega
          have hcell : (endsC l i)[i - 1]? = some (.d (.int .i64 (usedN R : Nat))) := by have := endsC_get l i (i - 1) (by omega); rwa [show i - 1 + 1 = i by omega, hR] at this
          have hxs := hx.used
          simp only [jR] at hxs
          have hul := usedN_len R
          obtain ⟨U, hU⟩ : ∃ U, usedN R = U := ⟨_, rfl⟩
          rw [hU] at hcell hxs hul
          obtain ⟨kz, hkz, hkU⟩ := kmod sector U (by omega) (by omega)
          obtain ⟨pz, hpz, hp8⟩ := kmod at' 128 (by omega) (by omega)
          obtain ⟨s, s1, s2, v, s3, w1, w2, w3, w4⟩ := damage_all hx hRn (k := kz) (p := pz) (by omega) hp8 hc0
          have hUw : IntKind.u64.wrap (U : Int) = U := wrap64 _ (by omega)
          have hkw : IntKind.i64.wrap (kz : Int) = kz := i64_in _ (by omega)
          refine DWp.reg false fun kk hk => ?_
          simp [hi1, hcell, hUw, hkz, hkw]
          refine ⟨by omega, by omega, ?_⟩
          refine hk _ ?_
          refine DWp.seqK fun k7 hk7 => ?_
          refine DWp.reg false fun kk hk => ?_
          simp [hlen, s2, rowL, s1, jR, hRl]
          refine ⟨by intros; omega, ?_⟩
          refine hk _ ?_
          refine DWp.condB ?_
          simp
          refine ⟨fun hT7 => ?_, fun hF7 => ?_⟩
          · simp [Tt] at hT7
            exfalso
            omega
          · simp [Ff] at hF7
            refine DWp.skip ?_
            refine hk7 _ ?_
            refine DWp.reg false fun kk hk => ?_
            simp [s2, rowL]
            refine ⟨by omega, ⟨by omega, by omega⟩, ?_⟩
            refine hk _ ?_
            have hpz' : Int.tmod (IntKind.u64.wrap at') 128 = pz := hpz
            refine DWp.sub (Sub.of (n := 211) (sl := [(2, .d (.int .i64 at')), (3, .d (cB c)), (11, .loc 0 0), (13, .own 1 1 0 i none), (20, .loc 2 0), (22, .d (.int .i64 kz)), (23, .own 3 1 0 128 none)]) (ml := [(29, [.d (.int .i64 40), .d (.int .i64 0), .d (encSs (R))]), (43, endsC l i), (25, [.d (encSs (dC R).ss), .d (encPs (dC R).ps), .d (.int .i64 (dC R).left), .d (.bool (dC R).st)]), (35, s.map (SV.d ∘ cB))]) [1, 2, 4, 6] ⟨rfl, rfl, by simp, by simp, by simp [s1], by simp⟩) ?_
            refine DWp.reg false fun kk hk => ?_
            simp [hpz', s3]
            refine ⟨by omega, by omega, ?_⟩
            refine hk _ ?_
            obtain ⟨s', hs'⟩ : ∃ s', s.set pz (v ^^^ c) = s' := ⟨_, rfl⟩
            rw [hs'] at w1 w2 w3 w4
            obtain ⟨d3, hd3⟩ : ∃ d : Dk, (⟨(dC R).ss.set kz s', [], -1, false⟩ : Dk) = d := ⟨_, rfl⟩
            rw [hd3] at w2 w3 w4
            obtain ⟨z, hz⟩ : ∃ z, (openD d3).1 = z := ⟨_, rfl⟩
            rw [hz] at w4
            have hf0 : (dC R).fits := by have := okD_ps hokc; exact ⟨by omega, by omega⟩
            have hf1 : (⟨(dC R).ss, [((kz : Int), s')], -1, false⟩ : Dk).fits := ⟨hf0.1, by simp⟩
            have hf2 : d3.fits := by rw [← hd3]; exact ⟨by simp; omega, by simp⟩
            have hop : openD d3 = (z, 0) := Prod.ext hz w3
            refine DWp.sub (Sub.of (n := 211) (sl := [(11, .loc 0 0), (13, .own 1 1 0 i none), (20, .loc 2 0), (22, .d (.int .i64 kz)), (23, .own 3 1 0 128 none)]) (ml := [(29, [.d (.int .i64 40), .d (.int .i64 0), .d (encSs (R))]), (43, endsC l i), (25, [.d (encSs (dC R).ss), .d (encPs (dC R).ps), .d (.int .i64 (dC R).left), .d (.bool (dC R).st)]), (35, s'.map (SV.d ∘ cB))]) [0, 1, 2, 3] ⟨rfl, rfl, by simp, by simp, by simp, by simp [← hs', xor8, List.map_set]⟩) ?_
            refine DWp.sub (Sub.freeze 3 rfl (allD_mapc cB s')) ?_
            have hsl' : s'.length = 128 := by rw [← hs']; simp [s1]
            have htk : List.take 128 (s'.map cB) = s'.map cB := List.take_of_length_le (by simp; omega)
            refine DWp.sub (Sub.of (n := 211) (sl := [(11, .loc 0 0), (13, .own 1 1 0 i none), (20, .loc 2 0), (22, .d (.int .i64 kz)), (23, .d (encB s'))]) (ml := [(29, [.d (.int .i64 40), .d (.int .i64 0), .d (encSs (R))]), (43, endsC l i), (25, [.d (encSs (dC R).ss), .d (encPs (dC R).ps), .d (.int .i64 (dC R).left), .d (.bool (dC R).st)])]) [0, 1, 2] ⟨rfl, rfl, by simp, by simp, by simp [htk, hsl']; intro a _; rfl, by simp⟩) ?_
            refine DWp.reg false fun kk hk => ?_
            simp
            refine CallAt.det false ent23 rfl (write_c (dC R) hf0 kz s') ?_
            rw [w1]
            simp
            refine hk _ ?_
            refine DWp.reg false fun kk hk => ?_
            simp
            refine CallAt.det false ent24 rfl (sync_c ⟨(dC R).ss, [((kz : Int), s')], -1, false⟩ hf1) ?_
            rw [w2]
            simp
            refine hk _ ?_
            refine DWp.reg false fun kk hk => ?_
            simp
            refine CallAt.det false ent11 rfl (open_c d3 hf2) ?_
            rw [hop]
            simp
            refine hk _ ?_
            refine DWp.reg false fun kk hk => ?_
            simp
            refine hk _ ?_
            refine DWp.seqK fun k8 hk8 => ?_
            have hRt : ∀ t, t ≤ i → R.take t = l.take t := fun t ht => by rw [← hR, List.take_take, Nat.min_eq_left ht]
            have hJ8 : ∀ (K' : Know) (w : Nat) (hw : w ≤ i) (hcnt : cntD kz R = w), Sub (Know.of 211 [(11, .loc 0 0), (21, .d (.int .i64 0)), (24, .d (.int .i64 0)), (25, .loc 1 0), (26, .d (.int .i64 0)), (27, .d (.int .i64 w))] [(29, [.d (.int .i64 40), .d (.int .i64 0), .d (encSs (R))]), (29, [.d (.int .i64 z.many), .d (.int .i64 z.synced), .d (encSs (R.take w))])]) K' → k8 K' := by
              intro K' w hw hcnt hs
              refine hk8 _ (DWp.sub hs ?_)
              refine DWp.drawPR false [] (.take 0 (.take 1 (.take 2 (.take 3 (.take 4 (.take 5 (.take 6 (.take 7 (.take 8 (.take 9 (.take 10 (.take 11 (.take 12 (.take 13 (.take 14 (.take 15 (.take 16 (.take 17 (.take 18 (.take 19 .done)))))))))))))))))))) mixed (by kernel_rfl) fun kk hk => ?_
              simp
              refine ⟨by intros; omega, ?_⟩
              rw [← List.map_take]
              refine DetCall.intro ent20 rfl (fun _ => sameR_c (R.take w) (R.take w) (by simp; have := hl.1; omega)) ?_
              simp
              refine hk _ ?_
              refine DWp.ret (hE _ ?_).2
              simp
            refine DWp.block ?_
            refine DWp.loopK (fun w : Nat => Know.of 211 [(11, .loc 0 0), (13, .own 1 1 0 i none), (21, .d (.int .i64 0)), (22, .d (.int .i64 kz)), (24, .d (.int .i64 0)), (25, .loc 2 0), (26, .d (.int .i64 0)), (27, .d (.int .i64 w))] [(29, [.d (.int .i64 40), .d (.int .i64 0), .d (encSs (R))]), (43, endsC l i), (29, [.d (.int .i64 z.many), .d (.int .i64 z.synced), .d (encSs (R.take (cntD kz R)))])])
              (fun w => w ≤ i ∧ ∀ t, t < w → usedN (l.take (t + 1)) ≤ kz) (fun w => i - w) 0 (Sub.of [0, 1, 3] ⟨rfl, rfl, by simp, by simp, by simp, by simp [w4]⟩) ⟨by omega, fun t h => by omega⟩ ?_
            rintro w ⟨hwi, hwk⟩ kl9 hkl9
            refine DWp.seqK fun k10 hk10 => ?_
            by_cases hwl : w < i
            · have hcw := endsC_get l i w hwl
              refine DWp.reg false fun kk hk => ?_
              simp [hcw]
              refine hk _ ?_
              refine DWp.condB ?_
              simp
              refine ⟨fun hT8 => ?_, fun hF8 => ?_⟩
              · simp [Tt] at hT8
                refine DWp.skip ?_
                refine hk10 _ ?_
                refine DWp.block ?_
                refine DWp.regionV false ?_
                simp
                have i1 : IntKind.i64.wrap ((w : Int) + 1) = ((w + 1 : Nat) : Int) := by rw [i64_in _ (by have := hl.1; omega)]; omega
                refine hkl9 _ (w + 1) ⟨by omega, fun t ht => ?_⟩ (by omega) (Sub.of [0, 1, 2] ⟨rfl, rfl, by simp, by simp, by simp [i1], by simp⟩)
                by_cases e : t = w
                · subst e; omega
                · exact hwk t (by omega)
              · simp [Ff] at hF8
                refine DWp.exit ?_
                simp
                have hcnt : cntD kz R = w := cnt_char R kz w (by omega) (fun t ht => by rw [hRt (t + 1) (by omega)]; exact hwk t ht) (.inr (by rw [hRt (w + 1) (by omega)]; exact hF8 hwl))
                exact hJ8 _ w hwi hcnt (Sub.of [0, 2] ⟨rfl, rfl, by simp, by simp, by simp, by simp [hcnt]⟩)
            · have hcw : (endsC l i)[w]? = none := List.getElem?_eq_none (by simp; omega)
              refine DWp.reg false fun kk hk => ?_
              simp [hcw]
              refine ⟨by omega, ?_⟩
              refine hk _ ?_
              refine DWp.condB ?_
              simp
              refine ⟨fun hT8 => ?_, fun hF8 => ?_⟩
              · simp [Tt] at hT8
                exfalso
                omega
              · simp [Ff] at hF8
                refine DWp.exit ?_
                simp
                have hcnt : cntD kz R = w := cnt_char R kz w (by omega) (fun t ht => by rw [hRt (t + 1) (by omega)]; exact hwk t ht) (.inl (by omega))
                exact hJ8 _ w hwi hcnt (Sub.of [0, 2] ⟨rfl, rfl, by simp, by simp, by simp, by simp [hcnt]⟩)
    refine DWp.reg false fun kk hk => ?_
    simp
    refine hk _ ?_
    refine DWp.block ?_
    refine DWp.loopK (fun q : Nat × SV × List (TypeId × List SV) => Know.of 211 [(0, .d (encSs l)), (1, .d (.int .i64 sector)), (2, .d (.int .i64 at')), (3, .d (cB c)), (9, .loc 0 0), (11, .loc 1 0), (13, q.2.1), (60, .d (encSs l)), (61, .d (.int .i64 l.length)), (62, .d (.int .i64 q.1))] ((25, [.d (encSs sD40.ss), .d (encPs sD40.ps), .d (.int .i64 sD40.left), .d (.bool sD40.st)]) :: (29, [.d (.int .i64 40), .d (.int .i64 0), .d (encSs (l.take q.1))]) :: q.2.2))
      (fun q => q.1 ≤ l.length ∧ Sm (jR (l.take q.1)) ∧ ((q.2.1 = .clip [] ∧ q.2.2 = [] ∧ q.1 = 0) ∨ (q.2.1 = .own 2 1 0 q.1 none ∧ q.2.2 = [(43, endsC l q.1)] ∧ 0 < q.1))) (fun q => l.length - q.1) (0, .clip [], []) (Sub.of [0, 1] ⟨rfl, rfl, by simp, by simp, by simp, by simp [m1, m2, m3]⟩) ⟨by simp, by simpa using hs0, .inl ⟨rfl, rfl, rfl⟩⟩ ?_
    rintro ⟨i, v, ml⟩ ⟨hi, hx, hv⟩ kl11 hkl11
    simp only at hi hx hv ⊢
    obtain ⟨R, hR⟩ : ∃ R, l.take i = R := ⟨_, rfl⟩
    simp only [hR] at hx ⊢
    refine DWp.reg false fun kk hk => ?_
    simp
    refine hk _ ?_
    refine DWp.seqK fun k12 hk12 => ?_
    refine DWp.condB ?_
    simp
    refine ⟨fun hT3 => ?_, fun hF3 => ?_⟩
    · simp [Tt] at hT3
      have hlt : i < l.length := by omega
      have hbl : l[i].length ≤ 140737488355328 := hl.2 _ (List.getElem_mem hlt)
      obtain ⟨y, hy⟩ : ∃ y, appendJ (jR R) l[i] = y := ⟨_, rfl⟩
      refine DWp.skip ?_
      refine hk12 _ ?_
      refine DWp.seqK fun k13 hk13 => ?_
      refine DWp.block ?_
      rcases hv with ⟨rfl, rfl, hi0⟩ | ⟨rfl, rfl, hi0⟩
      · refine DWp.reg false fun kk hk => ?_
        simp [hlt]
        refine hk _ ?_
        refine DWp.reg false fun kk hk => ?_
        simp
        refine CallAt.det false ent14 rfl (jappend_c (jR R) hx.fit l[i] hbl) ?_
        rw [hy]
        simp
        refine hk _ ?_
        refine DWp.seqK fun k14 hk14 => ?_
        refine DWp.reg false fun kk hk => ?_
        simp
        refine hk _ ?_
        refine DWp.condB ?_
        simp
        refine ⟨fun hT4 => ?_, fun hF4 => ?_⟩
        · simp [Tt] at hT4
          refine DWp.exit ?_
          simp
          exact hJ4 _ i hi (by rw [hR]; exact hx) (.clip []) [] (.inl ⟨rfl, rfl, hi0⟩) (Sub.of [0, 1] ⟨rfl, rfl, by simp, by simp, by simp, by simp [← hR]⟩)
        · simp [Ff] at hF4
          have hap := append_sm hx hbl (by rw [hy]; exact hF4)
          rw [hy] at hap
          have hy1 : y.1 = jR (l.take (i + 1)) := by rw [hap.1, List.take_succ_eq_append_getElem hlt, hR]; rfl
          have hx' : Sm (jR (l.take (i + 1))) := by rw [← hy1]; exact hap.2
          have hus := hx'.used
          simp only [jR] at hus
          have hsu := usedN_succ l i hlt
          refine DWp.skip ?_
          refine hk14 _ ?_
          refine DWp.reg false fun kk hk => ?_
          simp
          refine hk _ ?_
          refine DWp.reg false fun kk hk => ?_
          simp [i64_in ((l[i].length : Int) + 111) (by omega), sec_int3 _ hbl]
          refine hk _ ?_
          refine DWp.seqK fun k15 hk15 => ?_
          refine DWp.reg false fun kk hk => ?_
          simp
          refine hk _ ?_
          refine DWp.condB ?_
          simp
          refine DWp.skip ?_
          refine hk15 _ ?_
          refine DWp.regionV false ?_
          simp
          refine ⟨by simp [Wide], ?_⟩
          refine hk13 _ ?_
          refine DWp.regionV false ?_
          simp
          have i1 : IntKind.i64.wrap ((i : Int) + 1) = ((i + 1 : Nat) : Int) := by rw [i64_in _ (by have := hl.1; omega)]; omega
          have hu0 : usedN (l.take (i + 1)) = secD l[i].length := by rw [hsu, show usedN (l.take i) = 0 by rw [show l.take i = [] by simp [hi0]]; rfl, Nat.zero_add]
          refine hkl11 _ (i + 1, .own 2 1 0 (i + 1) none, [(43, endsC l (i + 1))]) ⟨by simp only; omega, hx', .inr ⟨rfl, rfl, by simp only; omega⟩⟩ (by simp only; omega) (Sub.of [0, 1, 4] ⟨rfl, rfl, by simp, by simp, by simp [hi0, show IntKind.i64.wrap 1 = 1 from rfl], by simp [hy1, jR, endsC_succ, hu0]; simp [hi0, endsC]⟩)
      · refine DWp.reg false fun kk hk => ?_
        simp [hlt]
        refine hk _ ?_
        refine DWp.reg false fun kk hk => ?_
        simp
        refine CallAt.det false ent14 rfl (jappend_c (jR R) hx.fit l[i] hbl) ?_
        rw [hy]
        simp
        refine hk _ ?_
        refine DWp.seqK fun k16 hk16 => ?_
        refine DWp.reg false fun kk hk => ?_
        simp
        refine hk _ ?_
        refine DWp.condB ?_
        simp
        refine ⟨fun hT4 => ?_, fun hF4 => ?_⟩
        · simp [Tt] at hT4
          refine DWp.exit ?_
          simp
          exact hJ4 _ i hi (by rw [hR]; exact hx) _ _ (.inr ⟨rfl, rfl, hi0⟩) (Sub.of [0, 1, 2] ⟨rfl, rfl, by simp, by simp, by simp, by simp [← hR]⟩)
        · simp [Ff] at hF4
          have hap := append_sm hx hbl (by rw [hy]; exact hF4)
          rw [hy] at hap
          have hy1 : y.1 = jR (l.take (i + 1)) := by rw [hap.1, List.take_succ_eq_append_getElem hlt, hR]; rfl
          have hx' : Sm (jR (l.take (i + 1))) := by rw [← hy1]; exact hap.2
          have hus := hx'.used
          simp only [jR] at hus
          have hsu := usedN_succ l i hlt
          refine DWp.skip ?_
          refine hk16 _ ?_
          refine DWp.reg false fun kk hk => ?_
          simp
          refine hk _ ?_
          refine DWp.reg false fun kk hk => ?_
          simp [i64_in ((l[i].length : Int) + 111) (by omega), sec_int3 _ hbl]
          refine hk _ ?_
          refine DWp.seqK fun k17 hk17 => ?_
          refine DWp.reg false fun kk hk => ?_
          simp
          refine hk _ ?_
          refine DWp.condB ?_
          simp
          refine ⟨fun hT5 => ?_, fun hF5 => ?_⟩
          · simp [Tt] at hT5
            have hi1 : IntKind.i64.wrap ((i : Int) - 1) = ((i - 1 : Nat) : Int) := by rw [i64_in _ (by have := hl.1; omega)]; omega
            have hcell : (endsC l i)[i - 1]? = some (.d (.int .i64 (usedN (l.take i) : Nat))) := by have := endsC_get l i (i - 1) (by omega); rwa [show i - 1 + 1 = i by omega] at this
            have hadd : IntKind.i64.wrap ((secD l[i].length : Int) + (usedN (l.take i) : Int)) = (usedN (l.take (i + 1)) : Int) := by rw [i64_in _ (by omega)]; omega
            refine DWp.regionV false ?_
            simp [hi1, hcell]
            refine ⟨by omega, ?_⟩
            refine hk17 _ ?_
            refine DWp.regionV false ?_
            simp
            refine ⟨by have := hl.1; exact ⟨by omega, by omega⟩, ?_⟩
            refine hk13 _ ?_
            refine DWp.regionV false ?_
            simp
            have i1 : IntKind.i64.wrap ((i : Int) + 1) = ((i + 1 : Nat) : Int) := by rw [i64_in _ (by have := hl.1; omega)]; omega
            refine hkl11 _ (i + 1, .own 2 1 0 (i + 1) none, [(43, endsC l (i + 1))]) ⟨by simp only; omega, hx', .inr ⟨rfl, rfl, by simp only; omega⟩⟩ (by simp only; omega) (Sub.of [0, 1, 5] ⟨rfl, rfl, by simp, by simp, by simp [i1], by simp [hy1, jR, endsC_succ, hadd]⟩)
          · simp [Ff] at hF5
            exfalso
            omega
    · simp [Ff] at hF3
      refine DWp.exit ?_
      simp
      rw [← hR]
      exact hJ4 _ i hi (by rw [hR]; exact hx) v ml hv (Sub.slots [(0, .d (encSs l)), (1, .d (.int .i64 sector)), (2, .d (.int .i64 at')), (3, .d (cB c)), (9, .loc 0 0), (11, .loc 1 0), (13, v)] (by simp))
end Go.Bf
