/-
  The journal: syncing. Printed by program (j8.py). Nothing is claimed here.
-/
import Derived.Test.YtmkgmmgfjibjmaaBfJ7
import Derived.Test.YtmkgmmgfjibjmaaBfP1
set_option maxRecDepth 100000
set_option maxHeartbeats 8000000
namespace Go.Bf
open Go Go.RowKit Go.Proofs Go.IntWalk
attribute [local simp] encB rowL rowW encSs encPs encD maxLen isBytes_map bytesOf_map encJ
def tailD (s : List UInt8) : Nat := getN (s.drop 124)
/-- The generation that is written next. -/
def gensD (l : List (List UInt8)) : Nat := l.foldl (fun g s => max (max g (genD s + 1)) (tailD s + 1)) 1
/-- How many sectors records occupy, without wrapping. -/
def usedN (l : List (List UInt8)) : Nat := (l.map fun b => secD b.length).sum
/-- The sectors of a record, from the n-th last on. -/
def pieceL (g : Nat) : Nat → Nat → UInt8 → List UInt8 → List (Int × List UInt8)
  | 0, _, _, _ => []
  | n + 1, p, kind, b => ((p : Int), encS g p (if n = 0 then kind ||| 2 else kind) (b.take 112)) :: pieceL g n (p + 1) 0 (b.drop 112)
def secsL (g : Nat) : Nat → List (List UInt8) → List (Int × List UInt8)
  | _, [] => []
  | p, b :: bs => pieceL g (secD b.length) p 1 b ++ secsL g (p + secD b.length) bs
def jsyncD (j : Jn) (d : Dk) : Jn × Dk × Int :=
  if okJ j then if okD d then
    if j.many ≠ d.ss.length ∧ d.st = false then (zeroJ, zeroD, 1)
    else if (openD d).2 ≠ 0 then (zeroJ, zeroD, (openD d).2)
    else if (openD d).1.recs ≠ j.recs.take j.synced.toNat ∨ 4294967296 ≤ gensD d.ss then (zeroJ, zeroD, 450)
    else if j.synced = j.recs.length then (j, d, 0)
    else
      let r := syncD { d with ps := secsL (gensD d.ss) (usedN (j.recs.take j.synced.toNat)) (j.recs.drop j.synced.toNat) }
      if r.2 = 0 then ({ j with synced := j.recs.length }, r.1, 0) else (zeroJ, r.1, r.2)
  else (zeroJ, zeroD, 440) else (zeroJ, zeroD, 1)
theorem tailD_lt (s : List UInt8) (h : s.length = 128) : tailD s < 4294967296 := by
  have := getN_lt 4 (s.drop 124) (by simp; omega)
  exact this
theorem max3 (a b c : Nat) : (if (if (a : Int) < (b : Int) + 1 then (b : Int) + 1 else a) < (c : Int) + 1 then (c : Int) + 1 else if (a : Int) < (b : Int) + 1 then (b : Int) + 1 else a) = ((max (max a (b + 1)) (c + 1) : Nat) : Int) := by
  split <;> split <;> omega
theorem okJ_syn {j : Jn} (h : okJ j = true) : 0 ≤ j.synced ∧ j.synced ≤ j.recs.length ∧ 1 ≤ j.many ∧ j.many ≤ 4096 ∧ usedW j.recs ≤ j.many := by
  simp only [okJ, Bool.not_eq_true', Bool.or_eq_false_iff, decide_eq_false_iff_not] at h; omega
theorem shr_zero (n : Nat) : Int.fdiv (n : Int) (2 ^ min 32 IntKind.u64.bits) = 0 ↔ n < 4294967296 := by
  rw [show min 32 IntKind.u64.bits = 32 from rfl, Int.fdiv_eq_ediv_of_nonneg _ (by decide)]
  omega
theorem fitL_take {l : List (List UInt8)} (h : FitL l) (n : Nat) : FitL (l.take n) := ⟨by have := h.1; simp; omega, fun b hb => h.2 b (List.mem_of_mem_take hb)⟩
theorem usedN_split (l : List (List UInt8)) (n : Nat) : usedN (l.take n) + usedN (l.drop n) = usedN l := by
  have h := congrArg usedN (List.take_append_drop n l)
  unfold usedN at h ⊢
  rw [List.map_append, List.sum_append] at h
  omega
theorem usedN_nil : usedN [] = 0 := rfl
theorem pieceL_len (g : Nat) : ∀ n p kind b, (pieceL g n p kind b).length = n
  | 0, _, _, _ => rfl
  | n + 1, p, kind, b => by rw [pieceL, List.length_cons, pieceL_len g n]
theorem secsL_len (g : Nat) : ∀ bs p, (secsL g p bs).length = usedN bs
  | [], _ => rfl
  | b :: bs, p => by rw [secsL, List.length_append, pieceL_len, secsL_len g bs]; simp [usedN]
theorem usedN_snoc (l : List (List UInt8)) (b : List UInt8) : usedN (l ++ [b]) = usedN l + secD b.length := by simp [usedN]
theorem usedN_take (l : List (List UInt8)) (n : Nat) : usedN (l.take n) ≤ usedN l := by
  have h := congrArg usedN (List.take_append_drop n l)
  unfold usedN at h ⊢
  rw [List.map_append, List.sum_append] at h
  omega
theorem usedW_eq (l : List (List UInt8)) (h : usedN l < 4611686018427387904) : usedW l = usedN l := by
  suffices H : ∀ i, i ≤ l.length → usedW (l.take i) = usedN (l.take i) by
    have := H l.length (Nat.le_refl _)
    rwa [List.take_length] at this
  intro i
  induction i with
  | zero => intro _; simp [usedW, usedN]
  | succ i ih =>
    intro hi
    have h1 := usedN_take l (i + 1)
    rw [usedW_succ l i (by omega), ih (by omega)]
    rw [List.take_succ_eq_append_getElem (by omega), usedN_snoc] at h1 ⊢
    rw [i64_in _ (by omega)]
    simp
theorem secsL_snoc (g : Nat) (bs : List (List UInt8)) (b : List UInt8) (p : Nat) : secsL g p (bs ++ [b]) = secsL g p bs ++ pieceL g (secD b.length) (p + usedN bs) 1 b := by
  induction bs generalizing p with
  | nil => simp [secsL, usedN]
  | cons a bs ih =>
    rw [List.cons_append, secsL, ih, secsL, List.append_assoc]
    congr 2
    simp only [usedN, List.map_cons, List.sum_cons]
    congr 1
    omega
theorem or2_int (x : UInt8) : bitF .or .u8 (x.toNat : Int) 2 = ((x ||| 2).toNat : Int) := by
  unfold bitF
  show IntKind.u8.wrap ((BitVec.ofInt 8 (x.toNat : Int) ||| BitVec.ofInt 8 2).toNat : Int) = _
  rw [BitVec.ofInt_natCast, BitVec.toNat_or, BitVec.toNat_ofNat, Nat.mod_eq_of_lt (by have := x.toNat_lt; omega)]
  rw [UInt8.toNat_or, show (2 : UInt8).toNat = 2 from rfl, show (BitVec.ofInt 8 2).toNat = 2 from rfl]
  have : x.toNat ||| 2 < 2 ^ 8 := Nat.or_lt_two_pow (by have := x.toNat_lt; omega) (by decide)
  generalize x.toNat ||| 2 = m at *
  simp [IntKind.wrap, IntKind.signed, IntKind.bits]
  omega
theorem open_ok {d : Dk} (h : okD d = true) (h0 : (openD d).2 = 0) : d.st = false ∧ d.ps = [] ∧ (openD d).1.recs = recsL d.ss := by
  unfold openD at h0 ⊢
  rw [if_pos h] at h0 ⊢
  cases hs : d.st with
  | true => rw [hs] at h0; simp at h0
  | false =>
    rw [hs] at h0
    simp only [Bool.false_eq_true, if_false] at h0 ⊢
    by_cases hp : d.ps ≠ []
    · rw [if_pos hp] at h0; simp at h0
    · rw [if_neg hp]; exact ⟨trivial, by simpa using hp, rfl⟩
theorem take_min (c : List UInt8) : List.take (min c.length 112) (c.map rowB) = (c.take 112).map rowB := by
  rw [← List.map_take]; congr 1
  rcases Nat.le_total c.length 112 with h | h
  · rw [Nat.min_eq_left h, List.take_of_length_le (Nat.le_refl _), List.take_of_length_le h]
  · rw [Nat.min_eq_right h]
theorem drop_min (c : List UInt8) : List.drop (min c.length 112) (c.map rowB) = (c.drop 112).map rowB := by
  rw [← List.map_drop]; congr 1
  rcases Nat.le_total c.length 112 with h | h
  · rw [Nat.min_eq_left h, List.drop_eq_nil_of_le (Nat.le_refl _), List.drop_eq_nil_of_le h]
  · rw [Nat.min_eq_right h]
theorem gensD_succ (l : List (List UInt8)) (i : Nat) (h : i < l.length) : gensD (l.take (i + 1)) = max (max (gensD (l.take i)) (genD l[i] + 1)) (tailD l[i] + 1) := by
  rw [List.take_succ_eq_append_getElem h]; simp only [gensD, List.foldl_append, List.foldl_cons, List.foldl_nil]
theorem ent22 : Enters Try.prog 22 := enters_of Try.func22 rfl rfl
theorem jsync_c (j : Jn) (hj : FitL j.recs) (d : Dk) (hd : d.fits) (hu : usedN j.recs < 4611686018427387904) : FnWp Try.prog 22 [encJ j, encD d] (· = .ret (.tup [encJ (jsyncD j d).1, encD (jsyncD j d).2.1, .int .i64 (jsyncD j d).2.2])) := by
  refine FnWp.intro' Try.func22 rfl (by simp [Try.ntmps22]) fun E hE => ?_
  refine DWp.reg false fun kk hk => ?_
  simp
  refine hk _ ?_
  refine DWp.seqK fun k1 hk1 => ?_
  refine DWp.reg false fun kk hk => ?_
  simp
  refine CallAt.det false ent16 rfl (jcheck_c j hj) ?_
  simp
  refine hk _ ?_
  refine DWp.reg false fun kk hk => ?_
  simp
  refine hk _ ?_
  refine DWp.condB ?_
  simp
  refine ⟨fun hT0 => ?_, fun hF0 => ?_⟩
  · simp [Tt] at hT0
    refine DWp.reg false fun kk hk => ?_
    simp
    refine hk _ ?_
    refine DWp.ret (hE _ ?_).2
    rw [show jsyncD j d = (zeroJ, zeroD, 1) by simp [jsyncD, hT0]]
    simp [zeroJ, zeroD, hT0]
  · simp [Ff] at hF0
    refine DWp.skip ?_
    refine hk1 _ ?_
    refine DWp.seqK fun k2 hk2 => ?_
    refine DWp.reg false fun kk hk => ?_
    simp
    refine CallAt.det false ent29 rfl (check_c d hd) ?_
    simp
    refine hk _ ?_
    refine DWp.reg false fun kk hk => ?_
    simp
    refine hk _ ?_
    refine DWp.condB ?_
    simp
    refine ⟨fun hT1 => ?_, fun hF1 => ?_⟩
    · simp [Tt] at hT1
      refine DWp.reg false fun kk hk => ?_
      simp
      refine hk _ ?_
      refine DWp.ret (hE _ ?_).2
      rw [show jsyncD j d = (zeroJ, zeroD, 440) by simp [jsyncD, hF0, hT1]]
      simp [zeroJ, zeroD, hT1]
    · simp [Ff] at hF1
      refine DWp.skip ?_
      refine hk2 _ ?_
      refine DWp.seqK fun k3 hk3 => ?_
      refine DWp.reg false fun kk hk => ?_
      simp
      refine hk _ ?_
      refine DWp.condB ?_
      simp
      refine ⟨fun hT2 => ?_, fun hF2 => ?_⟩
      · simp [Tt] at hT2
        refine DWp.reg false fun kk hk => ?_
        simp
        refine hk _ ?_
        refine DWp.ret (hE _ ?_).2
        rw [show jsyncD j d = (zeroJ, zeroD, 1) by simp only [jsyncD, hF0, hF1, if_true]; rw [if_pos ⟨hT2.1, hT2.2⟩]]
        simp [zeroJ, zeroD]
      · simp [Ff] at hF2
        refine DWp.skip ?_
        refine hk3 _ ?_
        refine DWp.sub (Sub.of (n := 167) (sl := [(2, .loc 0 0), (3, .loc 1 0), (4, .loc 2 0), (5, .loc 3 0)]) (ml := [(29, [.d (.int .i64 j.many), .d (.int .i64 j.synced), .d (encSs j.recs)]), (25, [.d (encSs d.ss), .d (encPs d.ps), .d (.int .i64 d.left), .d (.bool d.st)]), (29, [.d (.int .i64 0), .d (.int .i64 0), .clip []]), (25, [.clip [], .clip [], .d (.int .i64 0), .d (.bool false)])]) [0, 1, 2, 3] ⟨rfl, rfl, by simp, by simp, by simp, by simp⟩) ?_
        refine DWp.reg false fun kk hk => ?_
        simp
        refine CallAt.det false ent11 rfl (open_c d hd) ?_
        simp
        refine hk _ ?_
        refine DWp.seqK fun k4 hk4 => ?_
        refine DWp.reg false fun kk hk => ?_
        simp
        refine hk _ ?_
        refine DWp.condB ?_
        simp
        refine ⟨fun hT3 => ?_, fun hF3 => ?_⟩
        · simp [Tt] at hT3
          refine DWp.reg false fun kk hk => ?_
          simp
          refine hk _ ?_
          refine DWp.ret (hE _ ?_).2
          rw [show jsyncD j d = (zeroJ, zeroD, (openD d).2) by simp only [jsyncD, hF0, hF1, if_true]; rw [if_neg (by intro h; have := hF2 h.1; simp [h.2] at this), if_pos hT3]]
          simp [zeroJ, zeroD]
        · simp [Ff] at hF3
          have hop := open_ok hF1 hF3
          obtain ⟨hst, hps, hrec⟩ := hop
          have hlen := okD_ps hF1
          have hls := okD_s hF1
          refine DWp.skip ?_
          refine hk4 _ ?_
          refine DWp.sub (Sub.freeze 4 rfl rfl) ?_
          refine DWp.sub (Sub.of (n := 167) (sl := [(2, .loc 0 0), (3, .loc 1 0), (4, .loc 2 0), (5, .loc 3 0), (9, .d (.ptr [.int .i64 (openD d).1.many, .int .i64 (openD d).1.synced, encSs (recsL d.ss)]))]) (ml := [(29, [.d (.int .i64 j.many), .d (.int .i64 j.synced), .d (encSs j.recs)]), (25, [.d (encSs d.ss), .d (encPs d.ps), .d (.int .i64 d.left), .d (.bool d.st)]), (29, [.d (.int .i64 0), .d (.int .i64 0), .clip []]), (25, [.clip [], .clip [], .d (.int .i64 0), .d (.bool false)])]) [0, 1, 2, 3] ⟨rfl, rfl, by simp, by simp, by simp [hrec], by simp⟩) ?_
          refine DWp.reg false fun kk hk => ?_
          simp
          refine hk _ ?_
          refine DWp.seqK fun k5 hk5 => ?_
          refine DWp.reg false fun kk hk => ?_
          simp
          refine hk _ ?_
          refine DWp.block ?_
          refine DWp.loopK (fun i : Nat => Know.of 167 [(2, .loc 0 0), (3, .loc 1 0), (4, .loc 2 0), (5, .loc 3 0), (9, .d (.ptr [.int .i64 (openD d).1.many, .int .i64 (openD d).1.synced, encSs (recsL d.ss)])), (10, .d (.int .u64 (gensD (d.ss.take i)))), (57, .d (encSs d.ss)), (58, .d (.int .i64 d.ss.length)), (59, .d (.int .i64 i))] [(29, [.d (.int .i64 j.many), .d (.int .i64 j.synced), .d (encSs j.recs)]), (25, [.d (encSs d.ss), .d (encPs d.ps), .d (.int .i64 d.left), .d (.bool d.st)]), (29, [.d (.int .i64 0), .d (.int .i64 0), .clip []]), (25, [.clip [], .clip [], .d (.int .i64 0), .d (.bool false)])])
            (fun i => i ≤ d.ss.length) (fun i => d.ss.length - i) 0 (Sub.of [0, 1, 2, 3] ⟨rfl, rfl, by simp, by simp, by simp [gensD], by simp⟩) (by simp) ?_
          rintro i hi kl6 hkl6
          refine DWp.reg false fun kk hk => ?_
          simp
          refine hk _ ?_
          refine DWp.seqK fun k7 hk7 => ?_
          refine DWp.condB ?_
          simp
          refine ⟨fun hT4 => ?_, fun hF4 => ?_⟩
          · simp [Tt] at hT4
            have hlt : i < d.ss.length := by omega
            have hs : d.ss[i].length = 128 := hls _ (List.getElem_mem hlt)
            refine DWp.skip ?_
            refine hk7 _ ?_
            refine DWp.seqK fun k8 hk8 => ?_
            refine DWp.block ?_
            refine DWp.reg false fun kk hk => ?_
            simp [hlt]
            refine hk _ ?_
            refine DWp.drawP false [] (.take 0 (.take 1 (.take 2 (.take 3 (.take 4 (.take 5 (.take 6 (.take 7 (.take 8 (.take 9 (.take 10 .done))))))))))) mixed (by kernel_rfl) ?_
            simp [hs]
            have ha : FnWp Try.prog 40 [DV.list (List.take 4 (List.map rowB d.ss[i]))] (· = .ret (.int .u64 (genD d.ss[i]))) := by rw [← List.map_take]; exact get_c (d.ss[i].take 4) (by simp; omega)
            have hb : FnWp Try.prog 40 [DV.list (List.drop 124 (List.map rowB d.ss[i]))] (· = .ret (.int .u64 (tailD d.ss[i]))) := by rw [← List.map_drop]; exact get_c (d.ss[i].drop 124) (by simp; omega)
            have g1 := genD_lt d.ss[i]
            have g2 := tailD_lt d.ss[i] hs
            have w1 : IntKind.u64.wrap ((genD d.ss[i] : Int) + 1) = (genD d.ss[i] : Int) + 1 := u64_in _ ⟨by omega, by omega⟩
            have w2 : IntKind.u64.wrap ((tailD d.ss[i] : Int) + 1) = (tailD d.ss[i] : Int) + 1 := u64_in _ ⟨by omega, by omega⟩
            refine DetCall.intro (d := .int .u64 (genD d.ss[i])) ent40 rfl (fun _ => ha) ?_
            have htk128 : List.take 128 (List.map rowB d.ss[i]) = List.map rowB d.ss[i] := List.take_of_length_le (by simp; omega)
            simp [hs, w1]
            refine DetCall.intro (d := .int .u64 (tailD d.ss[i])) ent40 rfl (fun _ => hb) ?_
            simp [w2]
            refine hk8 _ ?_
            refine DWp.regionV false ?_
            simp
            rw [i64_in _ (by omega)]
            refine hkl6 _ (i + 1) (by omega) (by omega) (Sub.of [0, 1, 2, 3] ⟨rfl, rfl, by simp, by simp, by simp; rw [gensD_succ d.ss i hlt]; exact max3 _ _ _, by simp⟩)
          · simp [Ff] at hF4
            obtain rfl : i = d.ss.length := by omega
            refine DWp.exit ?_
            simp
            refine hk5 _ ?_
            refine DWp.seqK fun k9 hk9 => ?_
            refine DWp.drawPR false [] (.take 0 (.take 1 (.take 2 (.take 3 (.take 4 (.take 5 (.take 6 (.take 7 (.take 8 (.take 9 (.take 10 (.take 11 (.take 12 (.take 13 .done)))))))))))))) mixed (by kernel_rfl) fun kk hk => ?_
            simp
            have hsy := okJ_syn hF0
            have hrl := recsL_len d.ss
            have hcall : FnWp Try.prog 41 [DV.list (List.map rowL (recsL d.ss)), DV.list (List.take j.synced.toNat (List.map rowL j.recs)), DV.fn 42 []] (· = .ret (.bool (decide (recsL d.ss = j.recs.take j.synced.toNat)))) := by rw [← List.map_take]; exact eqF_c (recsL d.ss) (j.recs.take j.synced.toNat) (by omega)
            refine ⟨by omega, ?_⟩
            refine DetCall.intro (d := .bool (decide (recsL d.ss = j.recs.take j.synced.toNat))) ent41 rfl (fun _ => hcall) ?_
            simp
            refine hk _ ?_
            refine DWp.condB ?_
            simp
            refine ⟨fun hT5 => ?_, fun hF5 => ?_⟩
            · simp [Tt] at hT5
              have hyes : (openD d).1.recs ≠ j.recs.take j.synced.toNat ∨ 4294967296 ≤ gensD d.ss := by
                rw [hrec]
                rcases hT5 with h | h
                · exact .inl h
                · exact .inr (by have := mt (shr_zero _).2 h; omega)
              refine DWp.reg false fun kk hk => ?_
              simp
              refine hk _ ?_
              refine DWp.ret (hE _ ?_).2
              rw [show jsyncD j d = (zeroJ, zeroD, 450) by simp only [jsyncD, hF0, hF1, if_true]; rw [if_neg (by intro h; have := hF2 h.1; simp [h.2] at this), if_neg (by simpa using hF3), if_pos hyes]]
              simp [zeroJ, zeroD]
            · simp [Ff] at hF5
              have hgen := (shr_zero _).1 hF5.2
              have hsy0 := okJ_syn hF0
              have hno : ¬ ((openD d).1.recs ≠ j.recs.take j.synced.toNat ∨ 4294967296 ≤ gensD d.ss) := by
                rw [hrec]
                rintro (h | h)
                · exact h hF5.1
                · omega
              refine DWp.skip ?_
              refine hk9 _ ?_
              refine DWp.seqK fun k10 hk10 => ?_
              refine DWp.reg false fun kk hk => ?_
              simp
              refine hk _ ?_
              refine DWp.condB ?_
              simp
              refine ⟨fun hT6 => ?_, fun hF6 => ?_⟩
              · simp [Tt] at hT6
                refine DWp.drawPR false [] (.take 0 (.two 1 2 (.take 2 (.take 3 (.take 4 .done))) (.take 1 (.take 3 (.take 4 .done))))) mixed (by kernel_rfl) fun kk hk => ?_
                simp
                refine hk _ ?_
                refine DWp.ret (hE _ ?_).2
                rw [show jsyncD j d = (j, d, 0) by simp only [jsyncD, hF0, hF1, if_true]; rw [if_neg (by intro h; have := hF2 h.1; simp [h.2] at this), if_neg (by simpa using hF3), if_neg hno, if_pos hT6]]
                simp
              · simp [Ff] at hF6
                refine DWp.skip ?_
                refine hk10 _ ?_
                refine DWp.sub (Sub.of (n := 167) (sl := [(2, .loc 0 0), (3, .loc 1 0), (4, .loc 2 0), (5, .loc 3 0), (10, .d (.int .u64 (gensD d.ss)))]) (ml := [(29, [.d (.int .i64 j.many), .d (.int .i64 j.synced), .d (encSs j.recs)]), (25, [.d (encSs d.ss), .d (encPs d.ps), .d (.int .i64 d.left), .d (.bool d.st)]), (29, [.d (.int .i64 0), .d (.int .i64 0), .clip []]), (25, [.clip [], .clip [], .d (.int .i64 0), .d (.bool false)])]) [0, 1, 2, 3] ⟨rfl, rfl, by simp, by simp, by simp, by simp⟩) ?_
                refine DWp.reg false fun kk hk => ?_
                simp
                refine ⟨by omega, ?_⟩
                rw [← List.map_take]
                refine CallAt.det false ent34 rfl (used_c (j.recs.take j.synced.toNat) (fitL_take hj _)) ?_
                rw [usedW_eq _ (by have := usedN_take j.recs j.synced.toNat; omega)]
                simp
                refine hk _ ?_
                refine DWp.seqK fun k11 hk11 => ?_
                obtain ⟨rest, hrest⟩ : ∃ r, j.recs.drop j.synced.toNat = r := ⟨_, rfl⟩
                obtain ⟨at0, hat0⟩ : ∃ r, usedN (j.recs.take j.synced.toNat) = r := ⟨_, rfl⟩
                obtain ⟨G, hG⟩ : ∃ r, gensD d.ss = r := ⟨_, rfl⟩
                have hdrop : List.drop j.synced.toNat (j.recs.map rowL) = rest.map rowL := by rw [← hrest, List.map_drop]
                have hrl2 : rest.length ≤ 5864062014634 := by rw [← hrest]; have := hj.1; simp; omega
                have hrb : ∀ b ∈ rest, b.length ≤ 140737488355328 := fun b hb => hj.2 b (by rw [← hrest] at hb; exact List.mem_of_mem_drop hb)
                have hsum : at0 + usedN rest = usedN j.recs := by rw [← hat0, ← hrest]; exact usedN_split _ _
                have hmm : j.many = d.ss.length := Classical.byContradiction fun hm => by have := hF2 hm; simp [hst] at this
                have hmany : (usedN j.recs : Int) ≤ d.ss.length := by have h1 := hsy0.2.2.2.2; rw [usedW_eq _ hu] at h1; omega
                have hzf : (⟨d.ss, secsL G at0 rest, d.left, d.st⟩ : Dk).fits := ⟨hd.1, by simp only [secsL_len]; omega⟩
                obtain ⟨z, hz⟩ : ∃ r, syncD ⟨d.ss, secsL G at0 rest, d.left, d.st⟩ = r := ⟨_, rfl⟩
                have hmain : jsyncD j d = if z.2 = 0 then ({ j with synced := j.recs.length }, z.1, 0) else (zeroJ, z.1, z.2) := by
                  simp only [jsyncD, hF0, hF1, if_true]
                  rw [if_neg (by intro h; have := hF2 h.1; simp [h.2] at this), if_neg (by simpa using hF3), if_neg hno, if_neg hF6, hrest, hat0, hG, hz]
                have hJ11 : ∀ (K' : Know) , Sub (Know.of 167 [(2, .loc 0 0), (3, .loc 1 0), (4, .loc 2 0), (5, .loc 3 0), (10, .d (.int .u64 G))] [(29, [.d (.int .i64 j.many), .d (.int .i64 j.synced), .d (encSs j.recs)]), (25, [.d (encSs d.ss), .d (encPs (secsL G at0 rest)), .d (.int .i64 d.left), .d (.bool d.st)]), (29, [.d (.int .i64 0), .d (.int .i64 0), .clip []]), (25, [.clip [], .clip [], .d (.int .i64 0), .d (.bool false)])]) K' → k11 K' := by
                  intro K'  hs
                  refine hk11 _ (DWp.sub hs ?_)
                  refine DWp.seqK fun k12 hk12 => ?_
                  refine DWp.reg false fun kk hk => ?_
                  simp
                  refine CallAt.det false ent24 rfl (sync_c ⟨d.ss, secsL G at0 rest, d.left, d.st⟩ hzf) ?_
                  rw [hz]
                  simp
                  refine hk _ ?_
                  refine DWp.reg false fun kk hk => ?_
                  simp
                  refine hk _ ?_
                  refine DWp.condB ?_
                  simp
                  refine ⟨fun hT11 => ?_, fun hF11 => ?_⟩
                  · simp [Tt] at hT11
                    refine DWp.drawPR false [] (.take 0 (.take 2 (.two 1 3 (.take 3 (.take 4 (.take 5 .done))) (.take 1 (.take 4 (.take 5 .done)))))) mixed (by kernel_rfl) fun kk hk => ?_
                    simp
                    refine hk _ ?_
                    refine DWp.ret (hE _ ?_).2
                    rw [hmain, if_neg hT11]
                    simp [zeroJ]
                  · simp [Ff] at hF11
                    refine DWp.skip ?_
                    refine hk12 _ ?_
                    refine DWp.reg false fun kk hk => ?_
                    simp
                    refine hk _ ?_
                    refine DWp.drawPR false [] (.take 0 (.two 1 2 (.take 2 (.take 3 (.take 4 .done))) (.take 1 (.take 3 (.take 4 .done))))) mixed (by kernel_rfl) fun kk hk => ?_
                    simp
                    refine hk _ ?_
                    refine DWp.ret (hE _ ?_).2
                    rw [hmain, if_pos hF11]
                    simp
                refine DWp.reg false fun kk hk => ?_
                simp [hdrop]
                refine ⟨by omega, ?_⟩
                refine hk _ ?_
                refine DWp.block ?_
                refine DWp.loopK (fun i' : Nat => Know.of 167 [(2, .loc 0 0), (3, .loc 1 0), (4, .loc 2 0), (5, .loc 3 0), (10, .d (.int .u64 G)), (13, .d (.int .i64 (at0 + usedN (rest.take i') : Nat))), (108, .d (encSs rest)), (109, .d (.int .i64 rest.length)), (110, .d (.int .i64 i'))] [(29, [.d (.int .i64 j.many), .d (.int .i64 j.synced), .d (encSs j.recs)]), (25, [.d (encSs d.ss), .d (encPs (secsL G at0 (rest.take i'))), .d (.int .i64 d.left), .d (.bool d.st)]), (29, [.d (.int .i64 0), .d (.int .i64 0), .clip []]), (25, [.clip [], .clip [], .d (.int .i64 0), .d (.bool false)])])
                  (fun i' => i' ≤ rest.length ∧ okD ⟨d.ss, secsL G at0 (rest.take i'), d.left, d.st⟩ = true) (fun i' => rest.length - i') 0 (Sub.of [0, 1, 2, 3] ⟨rfl, rfl, by simp, by simp, by simp [hG, hat0, usedN_nil], by simp [secsL, hps]⟩) ⟨by simp, by simp only [List.take_zero, secsL]; rw [← hps]; exact hF1⟩ ?_
                rintro i' ⟨hi', hok'⟩ kl13 hkl13
                refine DWp.reg false fun kk hk => ?_
                simp
                refine hk _ ?_
                refine DWp.seqK fun k14 hk14 => ?_
                refine DWp.condB ?_
                simp
                refine ⟨fun hT7 => ?_, fun hF7 => ?_⟩
                · simp [Tt] at hT7
                  have hlt9 : i' < rest.length := by omega
                  refine DWp.skip ?_
                  refine hk14 _ ?_
                  refine DWp.seqK fun k15 hk15 => ?_
                  refine DWp.block ?_
                  refine DWp.reg false fun kk hk => ?_
                  simp [hlt9]
                  refine hk _ ?_
                  refine DWp.reg false fun kk hk => ?_
                  simp
                  refine hk _ ?_
                  refine DWp.reg false fun kk hk => ?_
                  simp
                  refine CallAt.det false ent33 rfl (sectors_c rest[i'] (hrb _ (List.getElem_mem hlt9))) ?_
                  simp
                  refine hk _ ?_
                  refine DWp.block ?_
                  refine DWp.loopK (fun q : Nat × Nat × UInt8 × List UInt8 × List (Int × List UInt8) => Know.of 167 [(2, .loc 0 0), (3, .loc 1 0), (4, .loc 2 0), (5, .loc 3 0), (10, .d (.int .u64 G)), (13, .d (.int .i64 q.2.1)), (15, .d (encB q.2.2.2.1)), (16, .d (cB q.2.2.1)), (17, .d (.int .i64 q.1)), (108, .d (encSs rest)), (109, .d (.int .i64 rest.length)), (110, .d (.int .i64 i'))] [(29, [.d (.int .i64 j.many), .d (.int .i64 j.synced), .d (encSs j.recs)]), (25, [.d (encSs d.ss), .d (encPs q.2.2.2.2), .d (.int .i64 d.left), .d (.bool d.st)]), (29, [.d (.int .i64 0), .d (.int .i64 0), .clip []]), (25, [.clip [], .clip [], .d (.int .i64 0), .d (.bool false)])])
                    (fun q => okD ⟨d.ss, q.2.2.2.2, d.left, d.st⟩ = true ∧ at0 ≤ q.2.1 ∧ q.2.2.2.2.length + at0 = q.2.1 ∧ q.2.1 + q.1 = at0 + usedN (rest.take (i' + 1)) ∧ q.2.2.2.2 ++ pieceL G q.1 q.2.1 q.2.2.1 q.2.2.2.1 = secsL G at0 (rest.take (i' + 1))) (fun q => q.1) (secD rest[i'].length, at0 + usedN (rest.take i'), 1, rest[i'], secsL G at0 (rest.take i')) (Sub.of [0, 1, 2, 3] ⟨rfl, rfl, by simp, by simp, by simp [cB], by simp⟩) ⟨hok', by simp only; omega, by simp only [secsL_len]; omega, by simp only; rw [List.take_succ_eq_append_getElem hlt9, usedN_snoc]; omega, by simp only; rw [List.take_succ_eq_append_getElem hlt9, secsL_snoc]⟩ ?_
                  rintro ⟨n, m, kind, c, ps⟩ ⟨hokp, hm0, hpl, hmn, hpe⟩ kl16 hkl16
                  simp only at hokp hm0 hpl hmn hpe ⊢
                  refine DWp.seqK fun k17 hk17 => ?_
                  refine DWp.reg false fun kk hk => ?_
                  simp
                  refine hk _ ?_
                  refine DWp.condB ?_
                  simp
                  refine ⟨fun hT8 => ?_, fun hF8 => ?_⟩
                  · simp [Tt] at hT8
                    have hut := usedN_take rest (i' + 1)
                    have hn0 : 0 < n := by omega
                    have hmd : m < d.ss.length := by omega
                    refine DWp.skip ?_
                    refine hk17 _ ?_
                    refine DWp.seqK fun k18 hk18 => ?_
                    refine DWp.block ?_
                    refine DWp.seqK fun k19 hk19 => ?_
                    obtain ⟨knd, hkk0⟩ : ∃ k, (if n = 1 then kind ||| 2 else kind) = k := ⟨_, rfl⟩
                    obtain ⟨S, hS⟩ : ∃ S, encS G m knd (c.take 112) = S := ⟨_, rfl⟩
                    have hSl : S.length = 128 := by rw [← hS]; exact encS_length _ _ _ _ (by simp; omega)
                    have hpf : (⟨d.ss, ps, d.left, d.st⟩ : Dk).fits := ⟨hd.1, by simp only; omega⟩
                    have hwr : writeD ⟨d.ss, ps, d.left, d.st⟩ m S = (⟨d.ss, ps ++ [((m : Int), S)], d.left, d.st⟩, 0) := by
                      unfold writeD
                      rw [hokp]
                      simp only [hst]
                      rw [if_pos (by simp; omega), if_neg (by omega), if_neg (by omega)]
                      simp [padB, hSl]
                    have hokw : okD ⟨d.ss, ps ++ [((m : Int), S)], d.left, d.st⟩ = true := okD_write (d := ⟨d.ss, ps, d.left, d.st⟩) (a := m) (p := S) hokp (by omega) (by simp only; omega) hSl (by simp only; omega)
                    have hJ19 : ∀ (K' : Know) , Sub (Know.of 167 [(2, .loc 0 0), (3, .loc 1 0), (4, .loc 2 0), (5, .loc 3 0), (10, .d (.int .u64 G)), (13, .d (.int .i64 m)), (15, .d (encB c)), (16, .d (cB knd)), (17, .d (.int .i64 n)), (108, .d (encSs rest)), (109, .d (.int .i64 rest.length)), (110, .d (.int .i64 i'))] [(29, [.d (.int .i64 j.many), .d (.int .i64 j.synced), .d (encSs j.recs)]), (25, [.d (encSs d.ss), .d (encPs ps), .d (.int .i64 d.left), .d (.bool d.st)]), (29, [.d (.int .i64 0), .d (.int .i64 0), .clip []]), (25, [.clip [], .clip [], .d (.int .i64 0), .d (.bool false)])]) K' → k19 K' := by
                      intro K'  hs
                      refine hk19 _ (DWp.sub hs ?_)
                      refine DWp.reg false fun kk hk => ?_
                      simp
                      refine hk _ ?_
                      refine DWp.seqK fun k20 hk20 => ?_
                      have htk := take_min c
                      have hdp := drop_min c
                      refine DWp.sub (Sub.of (n := 167) (sl := [(2, .loc 0 0), (3, .loc 1 0), (4, .loc 2 0), (5, .loc 3 0), (10, .d (.int .u64 G)), (13, .d (.int .i64 m)), (15, .d (encB c)), (16, .d (cB knd)), (17, .d (.int .i64 n)), (18, .d (.int .i64 (min c.length 112 : Nat))), (108, .d (encSs rest)), (109, .d (.int .i64 rest.length)), (110, .d (.int .i64 i'))]) (ml := [(29, [.d (.int .i64 j.many), .d (.int .i64 j.synced), .d (encSs j.recs)]), (25, [.d (encSs d.ss), .d (encPs ps), .d (.int .i64 d.left), .d (.bool d.st)]), (29, [.d (.int .i64 0), .d (.int .i64 0), .clip []]), (25, [.clip [], .clip [], .d (.int .i64 0), .d (.bool false)])]) [0, 1, 2, 3] ⟨rfl, rfl, by simp, by simp, by simp; split <;> omega, by simp⟩) ?_
                      refine DWp.drawPR false [] (.take 0 (.take 1 (.take 2 (.take 3 (.take 4 (.take 5 (.take 6 (.take 7 (.take 8 (.take 9 (.take 10 (.take 11 (.take 12 (.take 13 (.take 14 .done))))))))))))))) mixed (by kernel_rfl) fun kk hk => ?_
                      simp [htk]
                      refine ⟨by omega, ?_⟩
                      refine DetCall.intro (d := encB S) ent43 rfl (fun _ => by rw [← hS, ← List.map_take]; exact encode_c G m knd (c.take 112) (by simp; omega) (by omega)) ?_
                      simp
                      refine DetCall.intro (d := .tup [encD ⟨d.ss, ps ++ [((m : Int), S)], d.left, d.st⟩, .int .i64 0]) ent23 rfl (fun _ => by have := write_c ⟨d.ss, ps, d.left, d.st⟩ hpf m S; rw [hwr] at this; exact this) ?_
                      simp
                      refine hk _ ?_
                      refine DWp.reg false fun kk hk => ?_
                      simp
                      refine hk _ ?_
                      refine DWp.condB ?_
                      simp
                      refine DWp.skip ?_
                      refine hk20 _ ?_
                      refine DWp.reg false fun kk hk => ?_
                      simp [hdp]
                      refine ⟨by omega, ?_⟩
                      refine hk _ ?_
                      refine DWp.regionV false ?_
                      simp
                      refine hk18 _ ?_
                      refine DWp.regionV false ?_
                      simp
                      have i1 : IntKind.i64.wrap ((m : Int) + 1) = ((m + 1 : Nat) : Int) := by rw [i64_in _ (by omega)]; omega
                      have i2 : IntKind.i64.wrap ((n : Int) - 1) = ((n - 1 : Nat) : Int) := by rw [i64_in _ (by omega)]; omega
                      refine hkl16 _ (n - 1, m + 1, 0, c.drop 112, ps ++ [((m : Int), S)]) ⟨hokw, by simp only; omega, by simp only [List.length_append, List.length_cons, List.length_nil]; omega, by simp only; omega, ?_⟩ (by simp only; omega) (Sub.of [0, 1, 2, 3] ⟨rfl, rfl, by simp, by simp, by simp [i1, i2, cB], by simp⟩)
                      simp only
                      rw [← hpe]
                      obtain ⟨n', rfl⟩ : ∃ q, n = q + 1 := ⟨n - 1, by omega⟩
                      rw [pieceL, Nat.add_sub_cancel, ← hS, ← hkk0, List.append_assoc]
                      simp only [Nat.add_eq_right, List.singleton_append]
                    refine DWp.reg false fun kk hk => ?_
                    simp
                    refine hk _ ?_
                    refine DWp.condB ?_
                    simp
                    refine ⟨fun hT9 => ?_, fun hF9 => ?_⟩
                    · simp [Tt] at hT9
                      have hkk : knd = kind ||| 2 := by rw [← hkk0, if_pos (by omega)]
                      refine DWp.regionV false ?_
                      simp [cB]
                      exact hJ19 _ (Sub.of [0, 1, 2, 3] ⟨rfl, rfl, by simp, by simp, by simp [cB, or2_int, hkk], by simp⟩)
                    · simp [Ff] at hF9
                      have hkk : knd = kind := by rw [← hkk0, if_neg (by omega)]
                      refine DWp.skip ?_
                      exact hJ19 _ (Sub.of [0, 1, 2, 3] ⟨rfl, rfl, by simp, by simp, by simp [cB, hkk], by simp⟩)
                  · simp [Ff] at hF8
                    refine DWp.exit ?_
                    simp
                    refine hk15 _ ?_
                    refine DWp.regionV false ?_
                    simp
                    obtain rfl : n = 0 := by omega
                    simp only [pieceL, List.append_nil] at hpe
                    have i1 : IntKind.i64.wrap ((i' : Int) + 1) = ((i' + 1 : Nat) : Int) := by rw [i64_in _ (by omega)]; omega
                    refine hkl13 _ (i' + 1) ⟨by omega, by rw [← hpe]; exact hokp⟩ (by omega) (Sub.of [0, 1, 2, 3] ⟨rfl, rfl, by simp, by simp, by simp [i1]; omega, by simp [hpe]⟩)
                · simp [Ff] at hF7
                  refine DWp.exit ?_
                  simp
                  obtain rfl : i' = rest.length := by omega
                  exact hJ11 _ (Sub.of [0, 1, 2, 3] ⟨rfl, rfl, by simp, by simp, by simp, by simp⟩)
end Go.Bf
