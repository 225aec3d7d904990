/- NegMore. -/
import Derived.Test.YtlojmciaoecfjaaF
set_option linter.all false
set_option linter.unusedSimpArgs false
set_option maxRecDepth 100000
namespace Go.Proofs.Ytlojmciaoecfjaa
open Go Go.Snb
/-- A word of sixteen bits. -/
def W16 (w : Int) : Prop := 0 ≤ w ∧ w < 2 ^ IntKind.bits .u16
theorem w16_of_wf {w : Int} (h : (Lit.int .u16 w).wf = true) : W16 w := by
  simp only [Lit.wf, Bool.and_eq_true, decide_eq_true_eq] at h
  have h1 : IntKind.min .u16 = 0 := by decide
  have h2 : IntKind.max .u16 = 65535 := by decide
  have h3 : (2 : Int) ^ IntKind.bits .u16 = 65536 := by decide
  unfold W16
  rw [h1, h2] at h
  rw [h3]
  omega
theorem w16_bits (op : BinOp) (x y : Int) : W16 (bits op .u16 x y) := bits_lt (by rfl) x y
theorem w16_lit (x : Int) (h : 0 ≤ x ∧ x < 65536) : W16 x := by
  have h3 : (2 : Int) ^ IntKind.bits .u16 = 65536 := by decide
  unfold W16
  rw [h3]
  exact h
theorem bitU_tb {w : Int} (h : W16 w) (k : Nat) (hk : k ≤ 16) : bitU w k = tb w k := by
  unfold bitU
  have hs : shrI .u16 w k = w / 2 ^ k := by
    unfold shrI
    rw [Int.toNat_natCast, Nat.min_eq_left (show k ≤ IntKind.bits .u16 from hk)]
  have hp : (0 : Int) < 2 ^ k := Int.pow_pos (by decide)
  have h2 : W16 (w / 2 ^ k) := ⟨Int.ediv_nonneg h.1 (by omega), Int.lt_of_le_of_lt (Int.ediv_le_self _ h.1) h.2⟩
  have h3 := w16_bits .and (w / 2 ^ k) 1
  have h5 := w16_lit 1 (by omega)
  rw [hs]
  have h4 : ∀ i, tb (bits .and .u16 (w / 2 ^ k) 1) i = (tb w (k + i) && tb 1 i) := fun i => by
    rw [tb_and (k := .u16) (by rfl) h2.1 h2.2 h5.1 h5.2, tb_div _ h.1]
  have h6 : bits .and .u16 (w / 2 ^ k) 1 = if tb w k then 1 else 0 := by
    refine tb_ext h3.1 (by split <;> omega) fun i => ?_
    rw [h4]
    cases i with
    | zero => cases hw : tb w k <;> simp [hw, tb]
    | succ n => cases hw : tb w k <;> simp [hw, tb, Nat.testBit_succ]
  rw [h6]
  cases tb w k <;> rfl
theorem tb_more {a x m : Int} (ha : W16 a) (hx : W16 x) (hm : W16 m) (k : Nat) : tb (bits .or .u16 a (bits .and .u16 x m)) k = (tb a k || (tb x k && tb m k)) := by
  have h := w16_bits .and x m
  rw [tb_or (k := .u16) (by rfl) ha.1 ha.2 h.1 h.2, tb_and (k := .u16) (by rfl) hx.1 hx.2 hm.1 hm.2]
theorem tb_less {a x m : Int} (ha : W16 a) (hx : W16 x) (hm : W16 m) (k : Nat) : tb (bits .xor .u16 a (bits .andNot .u16 x m)) k = (tb a k ^^ (tb x k && !tb m k)) := by
  have h := w16_bits .andNot x m
  rw [tb_xor (k := .u16) (by rfl) ha.1 ha.2 h.1 h.2, tb_andNot (k := .u16) (by rfl) hx.1 hx.2 hm.1 hm.2]
theorem hasB_more {a ag x xg s k : Int} {f : Bool} (ha : W16 a) (hg : W16 ag) (hx : W16 x) (hxg : W16 xg) (hm : (s, f, k) ∈ modesL) (h : hasB s k a ag = true) :
    hasB s k (bits .or .u16 a (bits .and .u16 x 480)) (bits .or .u16 ag (bits .and .u16 xg 768)) = true := by
  have key : ∀ (w y m : Int) (n : Nat), W16 w → W16 y → W16 m → n ≤ 16 → bitU w n = true → bitU (bits .or .u16 w (bits .and .u16 y m)) n = true := by
    intro w y m n hw hy hm hn hb
    rw [bitU_tb (w16_bits ..) n hn, tb_more hw hy hm, ← bitU_tb hw n hn, hb]; rfl
  unfold hasB at *
  simp only [modesL, List.mem_cons, List.not_mem_nil, or_false, Prod.mk.injEq] at hm
  rcases hm with ⟨rfl, rfl, rfl⟩ | ⟨rfl, rfl, rfl⟩ | ⟨rfl, rfl, rfl⟩ | ⟨rfl, rfl, rfl⟩ | ⟨rfl, rfl, rfl⟩ | ⟨rfl, rfl, rfl⟩
  · exact key ag xg 768 9 hg hxg (w16_lit _ (by omega)) (by omega) h
  · exact key ag xg 768 8 hg hxg (w16_lit _ (by omega)) (by omega) h
  · exact key a x 480 8 ha hx (w16_lit _ (by omega)) (by omega) h
  · exact key a x 480 7 ha hx (w16_lit _ (by omega)) (by omega) h
  · exact key a x 480 6 ha hx (w16_lit _ (by omega)) (by omega) h
  · exact key a x 480 5 ha hx (w16_lit _ (by omega)) (by omega) h
theorem bitU_less {w y : Int} (m : Int) (n : Nat) (hw : W16 w) (hy : W16 y) (hm : W16 m) (hn : n ≤ 16) (hb : tb m n = true) : bitU (bits .xor .u16 w (bits .andNot .u16 y m)) n = bitU w n := by
  rw [bitU_tb (w16_bits ..) n hn, tb_less hw hy hm, ← bitU_tb hw n hn, hb]; simp
theorem hasB_less {a ag x xg s k : Int} {f : Bool} (ha : W16 a) (hg : W16 ag) (hx : W16 x) (hxg : W16 xg) (hm : (s, f, k) ∈ modesL) :
    hasB s k (bits .xor .u16 a (bits .andNot .u16 x 3552)) (bits .xor .u16 ag (bits .andNot .u16 xg 768)) = hasB s k a ag := by
  unfold hasB
  simp only [modesL, List.mem_cons, List.not_mem_nil, or_false, Prod.mk.injEq] at hm
  rcases hm with ⟨rfl, rfl, rfl⟩ | ⟨rfl, rfl, rfl⟩ | ⟨rfl, rfl, rfl⟩ | ⟨rfl, rfl, rfl⟩ | ⟨rfl, rfl, rfl⟩ | ⟨rfl, rfl, rfl⟩
  · exact bitU_less 768 9 hg hxg (w16_lit _ (by omega)) (by omega) (by decide)
  · exact bitU_less 768 8 hg hxg (w16_lit _ (by omega)) (by omega) (by decide)
  · exact bitU_less 3552 8 ha hx (w16_lit _ (by omega)) (by omega) (by decide)
  · exact bitU_less 3552 7 ha hx (w16_lit _ (by omega)) (by omega) (by decide)
  · exact bitU_less 3552 6 ha hx (w16_lit _ (by omega)) (by omega) (by decide)
  · exact bitU_less 3552 5 ha hx (w16_lit _ (by omega)) (by omega) (by decide)
theorem resL_mem (a ag b bg : Int) : ∀ l, (resL a ag b bg l).2 = 0 → ∃ k, ((resL a ag b bg l).1.speed, (resL a ag b bg l).1.full, k) ∈ l
  | [], h => by simp [resL] at h
  | (s, f, k) :: r, h => by
    unfold resL at *
    split
    · exact ⟨k, List.mem_cons_self ..⟩
    · rename_i hc
      rw [if_neg hc] at h
      obtain ⟨k2, h2⟩ := resL_mem a ag b bg r h
      exact ⟨k2, List.mem_cons_of_mem _ h2⟩
theorem resL_more {a ag a2 ag2 : Int} (b bg : Int) (hh : ∀ s f k, (s, f, k) ∈ modesL → hasB s k a ag = true → hasB s k a2 ag2 = true) : ∀ l, (∀ t ∈ l, t ∈ modesL) → l.Pairwise (fun x y => y.1 < x.1 ∨ y.1 = x.1 ∧ (y.2.1 = true → x.2.1 = true)) → (resL a ag b bg l).2 = 0 →
    (resL a2 ag2 b bg l).2 = 0 ∧ ((resL a ag b bg l).1.speed < (resL a2 ag2 b bg l).1.speed ∨ (resL a ag b bg l).1.speed = (resL a2 ag2 b bg l).1.speed ∧ ((resL a ag b bg l).1.full = true → (resL a2 ag2 b bg l).1.full = true))
  | [], _, _, h => by simp [resL] at h
  | (s, f, k) :: r, hm, hp, h => by
    rw [List.pairwise_cons] at hp
    by_cases hc : (hasB s k a ag && hasB s k b bg) = true
    · have hc2 : (hasB s k a2 ag2 && hasB s k b bg) = true := by
        rw [Bool.and_eq_true] at *
        exact ⟨hh s f k (hm _ (List.mem_cons_self ..)) hc.1, hc.2⟩
      unfold resL
      rw [if_pos hc, if_pos hc2]
      exact ⟨rfl, .inr ⟨rfl, id⟩⟩
    · have e1 : resL a ag b bg ((s, f, k) :: r) = resL a ag b bg r := by rw [resL, if_neg hc]
      rw [e1] at h ⊢
      by_cases hc2 : (hasB s k a2 ag2 && hasB s k b bg) = true
      · have e2 : resL a2 ag2 b bg ((s, f, k) :: r) = (⟨s, f, f && pTx a2 b, f && pRx a2 b⟩, 0) := by rw [resL, if_pos hc2]
        rw [e2]
        obtain ⟨k2, h2⟩ := resL_mem a ag b bg r h
        exact ⟨rfl, hp.1 _ h2⟩
      · have e2 : resL a2 ag2 b bg ((s, f, k) :: r) = resL a2 ag2 b bg r := by rw [resL, if_neg hc2]
        rw [e2]
        exact resL_more b bg hh r (fun t ht => hm t (List.mem_cons_of_mem _ ht)) hp.2 h
theorem resL_same {a ag a2 ag2 : Int} (b bg : Int) (hh : ∀ s f k, (s, f, k) ∈ modesL → hasB s k a2 ag2 = hasB s k a ag) (ht : pTx a2 b = pTx a b) (hr : pRx a2 b = pRx a b) : ∀ l, (∀ t ∈ l, t ∈ modesL) → resL a2 ag2 b bg l = resL a ag b bg l
  | [], _ => rfl
  | (s, f, k) :: r, hm => by
    rw [resL, resL, hh s f k (hm _ (List.mem_cons_self ..)), ht, hr, resL_same b bg hh ht hr r fun t h => hm t (List.mem_cons_of_mem _ h)]
theorem res_more {a ag x xg : Int} (b bg : Int) (ha : W16 a) (hg : W16 ag) (hx : W16 x) (hxg : W16 xg) (h : (res a ag b bg).2 = 0) :
    (res (bits .or .u16 a (bits .and .u16 x 480)) (bits .or .u16 ag (bits .and .u16 xg 768)) b bg).2 = 0 ∧ ((res a ag b bg).1.speed < (res (bits .or .u16 a (bits .and .u16 x 480)) (bits .or .u16 ag (bits .and .u16 xg 768)) b bg).1.speed ∨
      (res a ag b bg).1.speed = (res (bits .or .u16 a (bits .and .u16 x 480)) (bits .or .u16 ag (bits .and .u16 xg 768)) b bg).1.speed ∧ ((res a ag b bg).1.full = true → (res (bits .or .u16 a (bits .and .u16 x 480)) (bits .or .u16 ag (bits .and .u16 xg 768)) b bg).1.full = true)) :=
  resL_more b bg (fun s f k hm => hasB_more ha hg hx hxg hm) modesL (fun _ h => h) (by decide) h
theorem res_same {a ag x xg : Int} {b : Int} (bg : Int) (ha : W16 a) (hg : W16 ag) (hx : W16 x) (hxg : W16 xg) (hb : W16 b) :
    res (bits .xor .u16 a (bits .andNot .u16 x 3552)) (bits .xor .u16 ag (bits .andNot .u16 xg 768)) b bg = res a ag b bg := by
  have h10 := bitU_less 3552 10 ha hx (w16_lit _ (by omega)) (by omega) (by decide)
  have h11 : bitU (bits .and .u16 (bits .xor .u16 a (bits .andNot .u16 x 3552)) b) (11 : Nat) = bitU (bits .and .u16 a b) (11 : Nat) := by
    have h := w16_bits .xor a (bits .andNot .u16 x 3552)
    have h1 := bitU_less 3552 11 ha hx (w16_lit _ (by omega)) (by omega) (by decide)
    rw [bitU_tb h 11 (by omega), bitU_tb ha 11 (by omega)] at h1
    rw [bitU_tb (w16_bits ..) 11 (by omega), bitU_tb (w16_bits ..) 11 (by omega), tb_and (k := .u16) (by rfl) h.1 h.2 hb.1 hb.2, tb_and (k := .u16) (by rfl) ha.1 ha.2 hb.1 hb.2, h1]
  have h10' : bitU (bits .xor .u16 a (bits .andNot .u16 x 3552)) 10 = bitU a 10 := h10
  have h11' : bitU (bits .and .u16 (bits .xor .u16 a (bits .andNot .u16 x 3552)) b) 11 = bitU (bits .and .u16 a b) 11 := h11
  exact resL_same b bg (fun s f k hm => hasB_less ha hg hx hxg hm) (by unfold pTx; rw [h10', h11']) (by unfold pRx; rw [h10', h11']) modesL fun _ h => h

set_option maxHeartbeats 2000000 in
theorem negMore_c (a ag b bg x xg : Int) (ha : W16 a) (hg : W16 ag) (hb : W16 b) (hx : W16 x) (hxg : W16 xg) (M : Mem) : acalls Try.prog 5 [.int .u16 a, .int .u16 ag, .int .u16 b, .int .u16 bg, .int .u16 x, .int .u16 xg] M [] [] fun _ v _ => v = .bool true := by
  refine sacalls_code T2_ok mixed [0, 1, 2, 3, 4, 5, 12, 13, 14, 15, 16, 17, 18, 19, 71] 0 Try.func5 rfl Try.ntmps5 (by simp) (rs := [.tmp 12]) rfl ?_
  simp (maxSteps := 2000000) -dsimp -implicitDefEqProofs only [push_cast, ↓tyR, ↓tyQ, ↓fbR, ↓sCode_skip, ↓sCode_label, ↓sCode_ret, ↓sCode_exit, ↓sCode_regT, ↓sCode_regF, ↓sCode_seq, ↓sCode_cond, ↓sCode_block, ↓sCode_scope, ↓sCode_loop0, ↓sCode_loop, ↓sLoop_zero, ↓sLoop_succ, ↓sOps_nil, ↓sOps_cons, ↓sOpsQ_nil, ↓sOpsQ_cons, ↓fOp, ↓fQ, ↓op1, ↓opL, ↓fK, ↓getK, ↓hK, ↓gK, ↓fLoad, ↓fStore, ↓fBin, ↓fInt, ↓fRet, ↓fResults, ↓fOpQ, ↓fPart, ↓fIndex, ↓fIdx, ↓fSlice, ↓fSliceOf, ↓fCut, ↓fBound, ↓fBuild, ↓fParts, ↓fPartsE, ↓fMkI, ↓fAssert, ↓fZero, ↓fZ, ↓fMkS, ↓fAppend, ↓fAppXs, ↓fAppTo, ↓fCopy, ↓fCopyIn, ↓fRead, ↓fConv, ↓fConvI, ↓fEq, ↓fEqU, ↓fFold2, ↓fBuiltin, ↓evUn, ↓fputK, ↓undK, ↓zerK, ↓fldK, ↓kddK, ↓pfK_some, ↓pfK_none, ↓arrK_mk, ↓rowK_none, ↓rowK_0, ↓rowK_1, ↓rowK_2, ↓roK_some, ↓subK_nil, ↓subK_cons, ↓setK_cons, ↓appK_nil, ↓appK_cons, ↓getK_ints, ↓subK_ints, ↓setK_ints, ↓setKs_ints, ↓appK_ints, ↓appK_ints0, ↓appK_ints1, ↓appK_ints2, ↓appK_ints4, ↓AsBytes_ints, ↓AsBytes_nil, ↓getK_bools, ↓getK_sls, ↓appK_sls1, ↓reduceIte, reduceCtorEq, Nat.reduceAdd, Nat.reduceSub, Nat.reduceMul, Nat.reduceLT, Nat.reduceLeDiff, Nat.reduceEqDiff, Nat.reduceMod, Int.reduceToNat, Int.reduceLT, Int.reduceLE, Int.reduceAdd, Int.reduceSub, Int.reduceEq, Int.reduceNe, Int.reduceNeg, Int.reduceBNe, Int.reduceBEq, Nat.reduceBNe, Nat.reduceBEq, Bool.true_bne, Bool.false_bne, Bool.true_beq, Bool.false_beq, beq_true, beq_false, Int.toNat_natCast, Int.natCast_nonneg, Int.ofNat_lt, Int.ofNat_le, Nat.zero_le, table_r]
  refine Call1.pure (shown_c M) rfl rfl ?_
  simp (maxSteps := 2000000) -dsimp -implicitDefEqProofs only [push_cast, ↓tyR, ↓tyQ, ↓fbR, ↓sCode_skip, ↓sCode_label, ↓sCode_ret, ↓sCode_exit, ↓sCode_regT, ↓sCode_regF, ↓sCode_seq, ↓sCode_cond, ↓sCode_block, ↓sCode_scope, ↓sCode_loop0, ↓sCode_loop, ↓sLoop_zero, ↓sLoop_succ, ↓sOps_nil, ↓sOps_cons, ↓sOpsQ_nil, ↓sOpsQ_cons, ↓fOp, ↓fQ, ↓op1, ↓opL, ↓fK, ↓getK, ↓hK, ↓gK, ↓fLoad, ↓fStore, ↓fBin, ↓fInt, ↓fRet, ↓fResults, ↓fOpQ, ↓fPart, ↓fIndex, ↓fIdx, ↓fSlice, ↓fSliceOf, ↓fCut, ↓fBound, ↓fBuild, ↓fParts, ↓fPartsE, ↓fMkI, ↓fAssert, ↓fZero, ↓fZ, ↓fMkS, ↓fAppend, ↓fAppXs, ↓fAppTo, ↓fCopy, ↓fCopyIn, ↓fRead, ↓fConv, ↓fConvI, ↓fEq, ↓fEqU, ↓fFold2, ↓fBuiltin, ↓evUn, ↓fputK, ↓undK, ↓zerK, ↓fldK, ↓kddK, ↓pfK_some, ↓pfK_none, ↓arrK_mk, ↓rowK_none, ↓rowK_0, ↓rowK_1, ↓rowK_2, ↓roK_some, ↓subK_nil, ↓subK_cons, ↓setK_cons, ↓appK_nil, ↓appK_cons, ↓getK_ints, ↓subK_ints, ↓setK_ints, ↓setKs_ints, ↓appK_ints, ↓appK_ints0, ↓appK_ints1, ↓appK_ints2, ↓appK_ints4, ↓AsBytes_ints, ↓AsBytes_nil, ↓getK_bools, ↓getK_sls, ↓appK_sls1, ↓reduceIte, reduceCtorEq, Nat.reduceAdd, Nat.reduceSub, Nat.reduceMul, Nat.reduceLT, Nat.reduceLeDiff, Nat.reduceEqDiff, Nat.reduceMod, Int.reduceToNat, Int.reduceLT, Int.reduceLE, Int.reduceAdd, Int.reduceSub, Int.reduceEq, Int.reduceNe, Int.reduceNeg, Int.reduceBNe, Int.reduceBEq, Nat.reduceBNe, Nat.reduceBEq, Bool.true_bne, Bool.false_bne, Bool.true_beq, Bool.false_beq, beq_true, beq_false, Int.toNat_natCast, Int.natCast_nonneg, Int.ofNat_lt, Int.ofNat_le, Nat.zero_le, table_r]
  refine Call1.pure (resolve_c a ag b bg M) rfl rfl ?_
  have h1 := res_more b bg ha hg hx hxg
  have h2 := res_same bg ha hg hx hxg hb
  generalize res a ag b bg = r at *
  obtain ⟨⟨s, f, t, y⟩, e⟩ := r
  simp only [resV]
  simp (maxSteps := 2000000) -dsimp -implicitDefEqProofs only [push_cast, ↓tyR, ↓tyQ, ↓fbR, ↓sCode_skip, ↓sCode_label, ↓sCode_ret, ↓sCode_exit, ↓sCode_regT, ↓sCode_regF, ↓sCode_seq, ↓sCode_cond, ↓sCode_block, ↓sCode_scope, ↓sCode_loop0, ↓sCode_loop, ↓sLoop_zero, ↓sLoop_succ, ↓sOps_nil, ↓sOps_cons, ↓sOpsQ_nil, ↓sOpsQ_cons, ↓fOp, ↓fQ, ↓op1, ↓opL, ↓fK, ↓getK, ↓hK, ↓gK, ↓fLoad, ↓fStore, ↓fBin, ↓fInt, ↓fRet, ↓fResults, ↓fOpQ, ↓fPart, ↓fIndex, ↓fIdx, ↓fSlice, ↓fSliceOf, ↓fCut, ↓fBound, ↓fBuild, ↓fParts, ↓fPartsE, ↓fMkI, ↓fAssert, ↓fZero, ↓fZ, ↓fMkS, ↓fAppend, ↓fAppXs, ↓fAppTo, ↓fCopy, ↓fCopyIn, ↓fRead, ↓fConv, ↓fConvI, ↓fEq, ↓fEqU, ↓fFold2, ↓fBuiltin, ↓evUn, ↓fputK, ↓undK, ↓zerK, ↓fldK, ↓kddK, ↓pfK_some, ↓pfK_none, ↓arrK_mk, ↓rowK_none, ↓rowK_0, ↓rowK_1, ↓rowK_2, ↓roK_some, ↓subK_nil, ↓subK_cons, ↓setK_cons, ↓appK_nil, ↓appK_cons, ↓getK_ints, ↓subK_ints, ↓setK_ints, ↓setKs_ints, ↓appK_ints, ↓appK_ints0, ↓appK_ints1, ↓appK_ints2, ↓appK_ints4, ↓AsBytes_ints, ↓AsBytes_nil, ↓getK_bools, ↓getK_sls, ↓appK_sls1, ↓reduceIte, reduceCtorEq, Nat.reduceAdd, Nat.reduceSub, Nat.reduceMul, Nat.reduceLT, Nat.reduceLeDiff, Nat.reduceEqDiff, Nat.reduceMod, Int.reduceToNat, Int.reduceLT, Int.reduceLE, Int.reduceAdd, Int.reduceSub, Int.reduceEq, Int.reduceNe, Int.reduceNeg, Int.reduceBNe, Int.reduceBEq, Nat.reduceBNe, Nat.reduceBEq, Bool.true_bne, Bool.false_bne, Bool.true_beq, Bool.false_beq, beq_true, beq_false, Int.toNat_natCast, Int.natCast_nonneg, Int.ofNat_lt, Int.ofNat_le, Nat.zero_le, table_r]
  refine Call1.pure (resolve_c _ _ b bg M) rfl rfl ?_
  generalize res (bits .or .u16 a (bits .and .u16 x 480)) (bits .or .u16 ag (bits .and .u16 xg 768)) b bg = r at *
  obtain ⟨⟨s2, f2, t2, y2⟩, e2⟩ := r
  simp only [resV]
  simp only at h1
  by_cases he : e = 0
  · subst he
    obtain ⟨h3, h4⟩ := h1 rfl
    subst h3
    have n1 : decide (s2 < s) = false := by simp; omega
    by_cases hs : s2 = s
    · subst hs
      have h5 : f = true → f2 = true := by
        rcases h4 with h4 | h4
        · omega
        · exact h4.2
      cases f
      all_goals
        try (have h6 : f2 = true := h5 rfl; subst h6)
        simp (maxSteps := 2000000) -dsimp -implicitDefEqProofs only [push_cast, ↓tyR, ↓tyQ, ↓fbR, ↓sCode_skip, ↓sCode_label, ↓sCode_ret, ↓sCode_exit, ↓sCode_regT, ↓sCode_regF, ↓sCode_seq, ↓sCode_cond, ↓sCode_block, ↓sCode_scope, ↓sCode_loop0, ↓sCode_loop, ↓sLoop_zero, ↓sLoop_succ, ↓sOps_nil, ↓sOps_cons, ↓sOpsQ_nil, ↓sOpsQ_cons, ↓fOp, ↓fQ, ↓op1, ↓opL, ↓fK, ↓getK, ↓hK, ↓gK, ↓fLoad, ↓fStore, ↓fBin, ↓fInt, ↓fRet, ↓fResults, ↓fOpQ, ↓fPart, ↓fIndex, ↓fIdx, ↓fSlice, ↓fSliceOf, ↓fCut, ↓fBound, ↓fBuild, ↓fParts, ↓fPartsE, ↓fMkI, ↓fAssert, ↓fZero, ↓fZ, ↓fMkS, ↓fAppend, ↓fAppXs, ↓fAppTo, ↓fCopy, ↓fCopyIn, ↓fRead, ↓fConv, ↓fConvI, ↓fEq, ↓fEqU, ↓fFold2, ↓fBuiltin, ↓evUn, ↓fputK, ↓undK, ↓zerK, ↓fldK, ↓kddK, ↓pfK_some, ↓pfK_none, ↓arrK_mk, ↓rowK_none, ↓rowK_0, ↓rowK_1, ↓rowK_2, ↓roK_some, ↓subK_nil, ↓subK_cons, ↓setK_cons, ↓appK_nil, ↓appK_cons, ↓getK_ints, ↓subK_ints, ↓setK_ints, ↓setKs_ints, ↓appK_ints, ↓appK_ints0, ↓appK_ints1, ↓appK_ints2, ↓appK_ints4, ↓AsBytes_ints, ↓AsBytes_nil, ↓getK_bools, ↓getK_sls, ↓appK_sls1, ↓reduceIte, reduceCtorEq, Nat.reduceAdd, Nat.reduceSub, Nat.reduceMul, Nat.reduceLT, Nat.reduceLeDiff, Nat.reduceEqDiff, Nat.reduceMod, Int.reduceToNat, Int.reduceLT, Int.reduceLE, Int.reduceAdd, Int.reduceSub, Int.reduceEq, Int.reduceNe, Int.reduceNeg, Int.reduceBNe, Int.reduceBEq, Nat.reduceBNe, Nat.reduceBEq, Bool.true_bne, Bool.false_bne, Bool.true_beq, Bool.false_beq, beq_true, beq_false, Int.toNat_natCast, Int.natCast_nonneg, Int.ofNat_lt, Int.ofNat_le, Nat.zero_le, table_r, n1, beq_self_eq_true]
        refine Call1.pure (resolve_c _ _ b bg M) rfl rfl ?_
        rw [h2]
        simp only [resV]
        simp (maxSteps := 2000000) -dsimp -implicitDefEqProofs only [push_cast, ↓tyR, ↓tyQ, ↓fbR, ↓sCode_skip, ↓sCode_label, ↓sCode_ret, ↓sCode_exit, ↓sCode_regT, ↓sCode_regF, ↓sCode_seq, ↓sCode_cond, ↓sCode_block, ↓sCode_scope, ↓sCode_loop0, ↓sCode_loop, ↓sLoop_zero, ↓sLoop_succ, ↓sOps_nil, ↓sOps_cons, ↓sOpsQ_nil, ↓sOpsQ_cons, ↓fOp, ↓fQ, ↓op1, ↓opL, ↓fK, ↓getK, ↓hK, ↓gK, ↓fLoad, ↓fStore, ↓fBin, ↓fInt, ↓fRet, ↓fResults, ↓fOpQ, ↓fPart, ↓fIndex, ↓fIdx, ↓fSlice, ↓fSliceOf, ↓fCut, ↓fBound, ↓fBuild, ↓fParts, ↓fPartsE, ↓fMkI, ↓fAssert, ↓fZero, ↓fZ, ↓fMkS, ↓fAppend, ↓fAppXs, ↓fAppTo, ↓fCopy, ↓fCopyIn, ↓fRead, ↓fConv, ↓fConvI, ↓fEq, ↓fEqU, ↓fFold2, ↓fBuiltin, ↓evUn, ↓fputK, ↓undK, ↓zerK, ↓fldK, ↓kddK, ↓pfK_some, ↓pfK_none, ↓arrK_mk, ↓rowK_none, ↓rowK_0, ↓rowK_1, ↓rowK_2, ↓roK_some, ↓subK_nil, ↓subK_cons, ↓setK_cons, ↓appK_nil, ↓appK_cons, ↓getK_ints, ↓subK_ints, ↓setK_ints, ↓setKs_ints, ↓appK_ints, ↓appK_ints0, ↓appK_ints1, ↓appK_ints2, ↓appK_ints4, ↓AsBytes_ints, ↓AsBytes_nil, ↓getK_bools, ↓getK_sls, ↓appK_sls1, ↓reduceIte, reduceCtorEq, Nat.reduceAdd, Nat.reduceSub, Nat.reduceMul, Nat.reduceLT, Nat.reduceLeDiff, Nat.reduceEqDiff, Nat.reduceMod, Int.reduceToNat, Int.reduceLT, Int.reduceLE, Int.reduceAdd, Int.reduceSub, Int.reduceEq, Int.reduceNe, Int.reduceNeg, Int.reduceBNe, Int.reduceBEq, Nat.reduceBNe, Nat.reduceBEq, Bool.true_bne, Bool.false_bne, Bool.true_beq, Bool.false_beq, beq_true, beq_false, Int.toNat_natCast, Int.natCast_nonneg, Int.ofNat_lt, Int.ofNat_le, Nat.zero_le, table_r, beq_self_eq_true]
    · have n2 : (s2 == s) = false := by simp; exact hs
      simp (maxSteps := 2000000) -dsimp -implicitDefEqProofs only [push_cast, ↓tyR, ↓tyQ, ↓fbR, ↓sCode_skip, ↓sCode_label, ↓sCode_ret, ↓sCode_exit, ↓sCode_regT, ↓sCode_regF, ↓sCode_seq, ↓sCode_cond, ↓sCode_block, ↓sCode_scope, ↓sCode_loop0, ↓sCode_loop, ↓sLoop_zero, ↓sLoop_succ, ↓sOps_nil, ↓sOps_cons, ↓sOpsQ_nil, ↓sOpsQ_cons, ↓fOp, ↓fQ, ↓op1, ↓opL, ↓fK, ↓getK, ↓hK, ↓gK, ↓fLoad, ↓fStore, ↓fBin, ↓fInt, ↓fRet, ↓fResults, ↓fOpQ, ↓fPart, ↓fIndex, ↓fIdx, ↓fSlice, ↓fSliceOf, ↓fCut, ↓fBound, ↓fBuild, ↓fParts, ↓fPartsE, ↓fMkI, ↓fAssert, ↓fZero, ↓fZ, ↓fMkS, ↓fAppend, ↓fAppXs, ↓fAppTo, ↓fCopy, ↓fCopyIn, ↓fRead, ↓fConv, ↓fConvI, ↓fEq, ↓fEqU, ↓fFold2, ↓fBuiltin, ↓evUn, ↓fputK, ↓undK, ↓zerK, ↓fldK, ↓kddK, ↓pfK_some, ↓pfK_none, ↓arrK_mk, ↓rowK_none, ↓rowK_0, ↓rowK_1, ↓rowK_2, ↓roK_some, ↓subK_nil, ↓subK_cons, ↓setK_cons, ↓appK_nil, ↓appK_cons, ↓getK_ints, ↓subK_ints, ↓setK_ints, ↓setKs_ints, ↓appK_ints, ↓appK_ints0, ↓appK_ints1, ↓appK_ints2, ↓appK_ints4, ↓AsBytes_ints, ↓AsBytes_nil, ↓getK_bools, ↓getK_sls, ↓appK_sls1, ↓reduceIte, reduceCtorEq, Nat.reduceAdd, Nat.reduceSub, Nat.reduceMul, Nat.reduceLT, Nat.reduceLeDiff, Nat.reduceEqDiff, Nat.reduceMod, Int.reduceToNat, Int.reduceLT, Int.reduceLE, Int.reduceAdd, Int.reduceSub, Int.reduceEq, Int.reduceNe, Int.reduceNeg, Int.reduceBNe, Int.reduceBEq, Nat.reduceBNe, Nat.reduceBEq, Bool.true_bne, Bool.false_bne, Bool.true_beq, Bool.false_beq, beq_true, beq_false, Int.toNat_natCast, Int.natCast_nonneg, Int.ofNat_lt, Int.ofNat_le, Nat.zero_le, table_r, n1, n2]
      refine Call1.pure (resolve_c _ _ b bg M) rfl rfl ?_
      rw [h2]
      simp only [resV]
      simp (maxSteps := 2000000) -dsimp -implicitDefEqProofs only [push_cast, ↓tyR, ↓tyQ, ↓fbR, ↓sCode_skip, ↓sCode_label, ↓sCode_ret, ↓sCode_exit, ↓sCode_regT, ↓sCode_regF, ↓sCode_seq, ↓sCode_cond, ↓sCode_block, ↓sCode_scope, ↓sCode_loop0, ↓sCode_loop, ↓sLoop_zero, ↓sLoop_succ, ↓sOps_nil, ↓sOps_cons, ↓sOpsQ_nil, ↓sOpsQ_cons, ↓fOp, ↓fQ, ↓op1, ↓opL, ↓fK, ↓getK, ↓hK, ↓gK, ↓fLoad, ↓fStore, ↓fBin, ↓fInt, ↓fRet, ↓fResults, ↓fOpQ, ↓fPart, ↓fIndex, ↓fIdx, ↓fSlice, ↓fSliceOf, ↓fCut, ↓fBound, ↓fBuild, ↓fParts, ↓fPartsE, ↓fMkI, ↓fAssert, ↓fZero, ↓fZ, ↓fMkS, ↓fAppend, ↓fAppXs, ↓fAppTo, ↓fCopy, ↓fCopyIn, ↓fRead, ↓fConv, ↓fConvI, ↓fEq, ↓fEqU, ↓fFold2, ↓fBuiltin, ↓evUn, ↓fputK, ↓undK, ↓zerK, ↓fldK, ↓kddK, ↓pfK_some, ↓pfK_none, ↓arrK_mk, ↓rowK_none, ↓rowK_0, ↓rowK_1, ↓rowK_2, ↓roK_some, ↓subK_nil, ↓subK_cons, ↓setK_cons, ↓appK_nil, ↓appK_cons, ↓getK_ints, ↓subK_ints, ↓setK_ints, ↓setKs_ints, ↓appK_ints, ↓appK_ints0, ↓appK_ints1, ↓appK_ints2, ↓appK_ints4, ↓AsBytes_ints, ↓AsBytes_nil, ↓getK_bools, ↓getK_sls, ↓appK_sls1, ↓reduceIte, reduceCtorEq, Nat.reduceAdd, Nat.reduceSub, Nat.reduceMul, Nat.reduceLT, Nat.reduceLeDiff, Nat.reduceEqDiff, Nat.reduceMod, Int.reduceToNat, Int.reduceLT, Int.reduceLE, Int.reduceAdd, Int.reduceSub, Int.reduceEq, Int.reduceNe, Int.reduceNeg, Int.reduceBNe, Int.reduceBEq, Nat.reduceBNe, Nat.reduceBEq, Bool.true_bne, Bool.false_bne, Bool.true_beq, Bool.false_beq, beq_true, beq_false, Int.toNat_natCast, Int.natCast_nonneg, Int.ofNat_lt, Int.ofNat_le, Nat.zero_le, table_r, beq_self_eq_true]
  · have n3 : (e == 0) = false := by simp; exact he
    simp (maxSteps := 2000000) -dsimp -implicitDefEqProofs only [push_cast, ↓tyR, ↓tyQ, ↓fbR, ↓sCode_skip, ↓sCode_label, ↓sCode_ret, ↓sCode_exit, ↓sCode_regT, ↓sCode_regF, ↓sCode_seq, ↓sCode_cond, ↓sCode_block, ↓sCode_scope, ↓sCode_loop0, ↓sCode_loop, ↓sLoop_zero, ↓sLoop_succ, ↓sOps_nil, ↓sOps_cons, ↓sOpsQ_nil, ↓sOpsQ_cons, ↓fOp, ↓fQ, ↓op1, ↓opL, ↓fK, ↓getK, ↓hK, ↓gK, ↓fLoad, ↓fStore, ↓fBin, ↓fInt, ↓fRet, ↓fResults, ↓fOpQ, ↓fPart, ↓fIndex, ↓fIdx, ↓fSlice, ↓fSliceOf, ↓fCut, ↓fBound, ↓fBuild, ↓fParts, ↓fPartsE, ↓fMkI, ↓fAssert, ↓fZero, ↓fZ, ↓fMkS, ↓fAppend, ↓fAppXs, ↓fAppTo, ↓fCopy, ↓fCopyIn, ↓fRead, ↓fConv, ↓fConvI, ↓fEq, ↓fEqU, ↓fFold2, ↓fBuiltin, ↓evUn, ↓fputK, ↓undK, ↓zerK, ↓fldK, ↓kddK, ↓pfK_some, ↓pfK_none, ↓arrK_mk, ↓rowK_none, ↓rowK_0, ↓rowK_1, ↓rowK_2, ↓roK_some, ↓subK_nil, ↓subK_cons, ↓setK_cons, ↓appK_nil, ↓appK_cons, ↓getK_ints, ↓subK_ints, ↓setK_ints, ↓setKs_ints, ↓appK_ints, ↓appK_ints0, ↓appK_ints1, ↓appK_ints2, ↓appK_ints4, ↓AsBytes_ints, ↓AsBytes_nil, ↓getK_bools, ↓getK_sls, ↓appK_sls1, ↓reduceIte, reduceCtorEq, Nat.reduceAdd, Nat.reduceSub, Nat.reduceMul, Nat.reduceLT, Nat.reduceLeDiff, Nat.reduceEqDiff, Nat.reduceMod, Int.reduceToNat, Int.reduceLT, Int.reduceLE, Int.reduceAdd, Int.reduceSub, Int.reduceEq, Int.reduceNe, Int.reduceNeg, Int.reduceBNe, Int.reduceBEq, Nat.reduceBNe, Nat.reduceBEq, Bool.true_bne, Bool.false_bne, Bool.true_beq, Bool.false_beq, beq_true, beq_false, Int.toNat_natCast, Int.natCast_nonneg, Int.ofNat_lt, Int.ofNat_le, Nat.zero_le, table_r, n3]
    refine Call1.pure (resolve_c _ _ b bg M) rfl rfl ?_
    rw [h2]
    simp only [resV]
    simp (maxSteps := 2000000) -dsimp -implicitDefEqProofs only [push_cast, ↓tyR, ↓tyQ, ↓fbR, ↓sCode_skip, ↓sCode_label, ↓sCode_ret, ↓sCode_exit, ↓sCode_regT, ↓sCode_regF, ↓sCode_seq, ↓sCode_cond, ↓sCode_block, ↓sCode_scope, ↓sCode_loop0, ↓sCode_loop, ↓sLoop_zero, ↓sLoop_succ, ↓sOps_nil, ↓sOps_cons, ↓sOpsQ_nil, ↓sOpsQ_cons, ↓fOp, ↓fQ, ↓op1, ↓opL, ↓fK, ↓getK, ↓hK, ↓gK, ↓fLoad, ↓fStore, ↓fBin, ↓fInt, ↓fRet, ↓fResults, ↓fOpQ, ↓fPart, ↓fIndex, ↓fIdx, ↓fSlice, ↓fSliceOf, ↓fCut, ↓fBound, ↓fBuild, ↓fParts, ↓fPartsE, ↓fMkI, ↓fAssert, ↓fZero, ↓fZ, ↓fMkS, ↓fAppend, ↓fAppXs, ↓fAppTo, ↓fCopy, ↓fCopyIn, ↓fRead, ↓fConv, ↓fConvI, ↓fEq, ↓fEqU, ↓fFold2, ↓fBuiltin, ↓evUn, ↓fputK, ↓undK, ↓zerK, ↓fldK, ↓kddK, ↓pfK_some, ↓pfK_none, ↓arrK_mk, ↓rowK_none, ↓rowK_0, ↓rowK_1, ↓rowK_2, ↓roK_some, ↓subK_nil, ↓subK_cons, ↓setK_cons, ↓appK_nil, ↓appK_cons, ↓getK_ints, ↓subK_ints, ↓setK_ints, ↓setKs_ints, ↓appK_ints, ↓appK_ints0, ↓appK_ints1, ↓appK_ints2, ↓appK_ints4, ↓AsBytes_ints, ↓AsBytes_nil, ↓getK_bools, ↓getK_sls, ↓appK_sls1, ↓reduceIte, reduceCtorEq, Nat.reduceAdd, Nat.reduceSub, Nat.reduceMul, Nat.reduceLT, Nat.reduceLeDiff, Nat.reduceEqDiff, Nat.reduceMod, Int.reduceToNat, Int.reduceLT, Int.reduceLE, Int.reduceAdd, Int.reduceSub, Int.reduceEq, Int.reduceNe, Int.reduceNeg, Int.reduceBNe, Int.reduceBEq, Nat.reduceBNe, Nat.reduceBEq, Bool.true_bne, Bool.false_bne, Bool.true_beq, Bool.false_beq, beq_true, beq_false, Int.toNat_natCast, Int.natCast_nonneg, Int.ofNat_lt, Int.ofNat_le, Nat.zero_le, table_r, beq_self_eq_true]
theorem negMore_w (a ag b bg x xg : Int) (h0 : (Lit.int .u16 a).wf = true) (h1 : (Lit.int .u16 ag).wf = true) (h2 : (Lit.int .u16 b).wf = true) (_h3 : (Lit.int .u16 bg).wf = true) (h4 : (Lit.int .u16 x).wf = true) (h5 : (Lit.int .u16 xg).wf = true) (M : Mem) :
    acalls Try.prog 5 [.int .u16 a, .int .u16 ag, .int .u16 b, .int .u16 bg, .int .u16 x, .int .u16 xg] M [] [] fun _ v _ => v = .bool true :=
  negMore_c a ag b bg x xg (w16_of_wf h0) (w16_of_wf h1) (w16_of_wf h2) (w16_of_wf h4) (w16_of_wf h5) M
end Go.Proofs.Ytlojmciaoecfjaa
