/- NegBoth. -/
import Derived.Test.YtlojmciaoecfjaaE
set_option linter.all false
set_option linter.unusedSimpArgs false
set_option maxRecDepth 100000
namespace Go.Proofs.Ytlojmciaoecfjaa
open Go Go.Snb
theorem and_comm' (a b : Int) : bits .and .u16 a b = bits .and .u16 b a := by
  unfold bits; simp only [BitVec.and_comm (BitVec.ofInt _ a)]
theorem pTx_sym (a b : Int) : pTx b a = pRx a b := by
  unfold pTx pRx; rw [and_comm' b a, Bool.and_comm]
theorem pRx_sym (a b : Int) : pRx b a = pTx a b := by
  unfold pTx pRx; rw [and_comm' b a, Bool.and_comm]
def swp (r : Md × Int) : Md × Int := (⟨r.1.speed, r.1.full, r.1.rx, r.1.tx⟩, r.2)
theorem resL_sym (a ag b bg : Int) : ∀ l, resL b bg a ag l = swp (resL a ag b bg l)
  | [] => rfl
  | (s, f, k) :: r => by
    unfold resL
    rw [Bool.and_comm, pTx_sym a b, pRx_sym a b, resL_sym a ag b bg r]
    split <;> rfl
theorem resL_half (a ag b bg : Int) : ∀ l, (resL a ag b bg l).1.full = false → (resL a ag b bg l).1.tx = false ∧ (resL a ag b bg l).1.rx = false
  | [] => fun _ => ⟨rfl, rfl⟩
  | (s, f, k) :: r => by
    unfold resL
    split
    · rintro h; simp only at h; subst h; exact ⟨rfl, rfl⟩
    · exact resL_half a ag b bg r

set_option maxHeartbeats 1000000 in
theorem negBoth_c (a ag b bg : Int) (M : Mem) : acalls Try.prog 4 [.int .u16 a, .int .u16 ag, .int .u16 b, .int .u16 bg] M [] [] fun _ v _ => v = .bool true := by
  refine sacalls_code T2_ok mixed [0, 1, 2, 3, 8, 9, 10, 11, 12, 13] 0 Try.func4 rfl Try.ntmps4 (by simp) (rs := [.tmp 8]) rfl ?_
  simp (maxSteps := 2000000) -dsimp -implicitDefEqProofs only [push_cast, ↓tyR, ↓tyQ, ↓fbR, ↓sCode_skip, ↓sCode_label, ↓sCode_ret, ↓sCode_exit, ↓sCode_regT, ↓sCode_regF, ↓sCode_seq, ↓sCode_cond, ↓sCode_block, ↓sCode_scope, ↓sCode_loop0, ↓sCode_loop, ↓sLoop_zero, ↓sLoop_succ, ↓sOps_nil, ↓sOps_cons, ↓sOpsQ_nil, ↓sOpsQ_cons, ↓fOp, ↓fQ, ↓op1, ↓opL, ↓fK, ↓getK, ↓hK, ↓gK, ↓fLoad, ↓fStore, ↓fBin, ↓fInt, ↓fRet, ↓fResults, ↓fOpQ, ↓fPart, ↓fIndex, ↓fIdx, ↓fSlice, ↓fSliceOf, ↓fCut, ↓fBound, ↓fBuild, ↓fParts, ↓fPartsE, ↓fMkI, ↓fAssert, ↓fZero, ↓fZ, ↓fMkS, ↓fAppend, ↓fAppXs, ↓fAppTo, ↓fCopy, ↓fCopyIn, ↓fRead, ↓fConv, ↓fConvI, ↓fEq, ↓fEqU, ↓fFold2, ↓fBuiltin, ↓evUn, ↓fputK, ↓undK, ↓zerK, ↓fldK, ↓kddK, ↓pfK_some, ↓pfK_none, ↓arrK_mk, ↓rowK_none, ↓rowK_0, ↓rowK_1, ↓rowK_2, ↓roK_some, ↓subK_nil, ↓subK_cons, ↓setK_cons, ↓appK_nil, ↓appK_cons, ↓getK_ints, ↓subK_ints, ↓setK_ints, ↓setKs_ints, ↓appK_ints, ↓appK_ints0, ↓appK_ints1, ↓appK_ints2, ↓appK_ints4, ↓AsBytes_ints, ↓AsBytes_nil, ↓getK_bools, ↓getK_sls, ↓appK_sls1, ↓reduceIte, reduceCtorEq, Nat.reduceAdd, Nat.reduceSub, Nat.reduceMul, Nat.reduceLT, Nat.reduceLeDiff, Nat.reduceEqDiff, Nat.reduceMod, Int.reduceToNat, Int.reduceLT, Int.reduceLE, Int.reduceAdd, Int.reduceSub, Int.reduceEq, Int.reduceNe, Int.reduceNeg, Int.reduceBNe, Int.reduceBEq, Nat.reduceBNe, Nat.reduceBEq, Bool.true_bne, Bool.false_bne, Bool.true_beq, Bool.false_beq, beq_true, beq_false, Int.toNat_natCast, Int.natCast_nonneg, Int.ofNat_lt, Int.ofNat_le, Nat.zero_le, table_r]
  refine Call1.pure (shown_c M) rfl rfl ?_
  simp (maxSteps := 2000000) -dsimp -implicitDefEqProofs only [push_cast, ↓tyR, ↓tyQ, ↓fbR, ↓sCode_skip, ↓sCode_label, ↓sCode_ret, ↓sCode_exit, ↓sCode_regT, ↓sCode_regF, ↓sCode_seq, ↓sCode_cond, ↓sCode_block, ↓sCode_scope, ↓sCode_loop0, ↓sCode_loop, ↓sLoop_zero, ↓sLoop_succ, ↓sOps_nil, ↓sOps_cons, ↓sOpsQ_nil, ↓sOpsQ_cons, ↓fOp, ↓fQ, ↓op1, ↓opL, ↓fK, ↓getK, ↓hK, ↓gK, ↓fLoad, ↓fStore, ↓fBin, ↓fInt, ↓fRet, ↓fResults, ↓fOpQ, ↓fPart, ↓fIndex, ↓fIdx, ↓fSlice, ↓fSliceOf, ↓fCut, ↓fBound, ↓fBuild, ↓fParts, ↓fPartsE, ↓fMkI, ↓fAssert, ↓fZero, ↓fZ, ↓fMkS, ↓fAppend, ↓fAppXs, ↓fAppTo, ↓fCopy, ↓fCopyIn, ↓fRead, ↓fConv, ↓fConvI, ↓fEq, ↓fEqU, ↓fFold2, ↓fBuiltin, ↓evUn, ↓fputK, ↓undK, ↓zerK, ↓fldK, ↓kddK, ↓pfK_some, ↓pfK_none, ↓arrK_mk, ↓rowK_none, ↓rowK_0, ↓rowK_1, ↓rowK_2, ↓roK_some, ↓subK_nil, ↓subK_cons, ↓setK_cons, ↓appK_nil, ↓appK_cons, ↓getK_ints, ↓subK_ints, ↓setK_ints, ↓setKs_ints, ↓appK_ints, ↓appK_ints0, ↓appK_ints1, ↓appK_ints2, ↓appK_ints4, ↓AsBytes_ints, ↓AsBytes_nil, ↓getK_bools, ↓getK_sls, ↓appK_sls1, ↓reduceIte, reduceCtorEq, Nat.reduceAdd, Nat.reduceSub, Nat.reduceMul, Nat.reduceLT, Nat.reduceLeDiff, Nat.reduceEqDiff, Nat.reduceMod, Int.reduceToNat, Int.reduceLT, Int.reduceLE, Int.reduceAdd, Int.reduceSub, Int.reduceEq, Int.reduceNe, Int.reduceNeg, Int.reduceBNe, Int.reduceBEq, Nat.reduceBNe, Nat.reduceBEq, Bool.true_bne, Bool.false_bne, Bool.true_beq, Bool.false_beq, beq_true, beq_false, Int.toNat_natCast, Int.natCast_nonneg, Int.ofNat_lt, Int.ofNat_le, Nat.zero_le, table_r]
  refine Call1.pure (resolve_c a ag b bg M) rfl rfl ?_
  have h1 := resL_half a ag b bg modesL
  have h2 := resL_sym a ag b bg modesL
  change (res a ag b bg).1.full = false → (res a ag b bg).1.tx = false ∧ (res a ag b bg).1.rx = false at h1
  change res b bg a ag = swp (res a ag b bg) at h2
  generalize hr : res a ag b bg = r at *
  obtain ⟨⟨s, f, t, x⟩, e⟩ := r
  simp only [resV]
  simp (maxSteps := 2000000) -dsimp -implicitDefEqProofs only [push_cast, ↓tyR, ↓tyQ, ↓fbR, ↓sCode_skip, ↓sCode_label, ↓sCode_ret, ↓sCode_exit, ↓sCode_regT, ↓sCode_regF, ↓sCode_seq, ↓sCode_cond, ↓sCode_block, ↓sCode_scope, ↓sCode_loop0, ↓sCode_loop, ↓sLoop_zero, ↓sLoop_succ, ↓sOps_nil, ↓sOps_cons, ↓sOpsQ_nil, ↓sOpsQ_cons, ↓fOp, ↓fQ, ↓op1, ↓opL, ↓fK, ↓getK, ↓hK, ↓gK, ↓fLoad, ↓fStore, ↓fBin, ↓fInt, ↓fRet, ↓fResults, ↓fOpQ, ↓fPart, ↓fIndex, ↓fIdx, ↓fSlice, ↓fSliceOf, ↓fCut, ↓fBound, ↓fBuild, ↓fParts, ↓fPartsE, ↓fMkI, ↓fAssert, ↓fZero, ↓fZ, ↓fMkS, ↓fAppend, ↓fAppXs, ↓fAppTo, ↓fCopy, ↓fCopyIn, ↓fRead, ↓fConv, ↓fConvI, ↓fEq, ↓fEqU, ↓fFold2, ↓fBuiltin, ↓evUn, ↓fputK, ↓undK, ↓zerK, ↓fldK, ↓kddK, ↓pfK_some, ↓pfK_none, ↓arrK_mk, ↓rowK_none, ↓rowK_0, ↓rowK_1, ↓rowK_2, ↓roK_some, ↓subK_nil, ↓subK_cons, ↓setK_cons, ↓appK_nil, ↓appK_cons, ↓getK_ints, ↓subK_ints, ↓setK_ints, ↓setKs_ints, ↓appK_ints, ↓appK_ints0, ↓appK_ints1, ↓appK_ints2, ↓appK_ints4, ↓AsBytes_ints, ↓AsBytes_nil, ↓getK_bools, ↓getK_sls, ↓appK_sls1, ↓reduceIte, reduceCtorEq, Nat.reduceAdd, Nat.reduceSub, Nat.reduceMul, Nat.reduceLT, Nat.reduceLeDiff, Nat.reduceEqDiff, Nat.reduceMod, Int.reduceToNat, Int.reduceLT, Int.reduceLE, Int.reduceAdd, Int.reduceSub, Int.reduceEq, Int.reduceNe, Int.reduceNeg, Int.reduceBNe, Int.reduceBEq, Nat.reduceBNe, Nat.reduceBEq, Bool.true_bne, Bool.false_bne, Bool.true_beq, Bool.false_beq, beq_true, beq_false, Int.toNat_natCast, Int.natCast_nonneg, Int.ofNat_lt, Int.ofNat_le, Nat.zero_le, table_r]
  refine Call1.pure (resolve_c b bg a ag M) rfl rfl ?_
  rw [h2]
  simp only [resV, swp]
  cases f
  · have h3 : t = false := (h1 rfl).1
    have h4 : x = false := (h1 rfl).2
    subst h3 h4
    simp (maxSteps := 2000000) -dsimp -implicitDefEqProofs only [push_cast, ↓tyR, ↓tyQ, ↓fbR, ↓sCode_skip, ↓sCode_label, ↓sCode_ret, ↓sCode_exit, ↓sCode_regT, ↓sCode_regF, ↓sCode_seq, ↓sCode_cond, ↓sCode_block, ↓sCode_scope, ↓sCode_loop0, ↓sCode_loop, ↓sLoop_zero, ↓sLoop_succ, ↓sOps_nil, ↓sOps_cons, ↓sOpsQ_nil, ↓sOpsQ_cons, ↓fOp, ↓fQ, ↓op1, ↓opL, ↓fK, ↓getK, ↓hK, ↓gK, ↓fLoad, ↓fStore, ↓fBin, ↓fInt, ↓fRet, ↓fResults, ↓fOpQ, ↓fPart, ↓fIndex, ↓fIdx, ↓fSlice, ↓fSliceOf, ↓fCut, ↓fBound, ↓fBuild, ↓fParts, ↓fPartsE, ↓fMkI, ↓fAssert, ↓fZero, ↓fZ, ↓fMkS, ↓fAppend, ↓fAppXs, ↓fAppTo, ↓fCopy, ↓fCopyIn, ↓fRead, ↓fConv, ↓fConvI, ↓fEq, ↓fEqU, ↓fFold2, ↓fBuiltin, ↓evUn, ↓fputK, ↓undK, ↓zerK, ↓fldK, ↓kddK, ↓pfK_some, ↓pfK_none, ↓arrK_mk, ↓rowK_none, ↓rowK_0, ↓rowK_1, ↓rowK_2, ↓roK_some, ↓subK_nil, ↓subK_cons, ↓setK_cons, ↓appK_nil, ↓appK_cons, ↓getK_ints, ↓subK_ints, ↓setK_ints, ↓setKs_ints, ↓appK_ints, ↓appK_ints0, ↓appK_ints1, ↓appK_ints2, ↓appK_ints4, ↓AsBytes_ints, ↓AsBytes_nil, ↓getK_bools, ↓getK_sls, ↓appK_sls1, ↓reduceIte, reduceCtorEq, Nat.reduceAdd, Nat.reduceSub, Nat.reduceMul, Nat.reduceLT, Nat.reduceLeDiff, Nat.reduceEqDiff, Nat.reduceMod, Int.reduceToNat, Int.reduceLT, Int.reduceLE, Int.reduceAdd, Int.reduceSub, Int.reduceEq, Int.reduceNe, Int.reduceNeg, Int.reduceBNe, Int.reduceBEq, Nat.reduceBNe, Nat.reduceBEq, Bool.true_bne, Bool.false_bne, Bool.true_beq, Bool.false_beq, beq_true, beq_false, Int.toNat_natCast, Int.natCast_nonneg, Int.ofNat_lt, Int.ofNat_le, Nat.zero_le, table_r, beq_self_eq_true]
  · simp (maxSteps := 2000000) -dsimp -implicitDefEqProofs only [push_cast, ↓tyR, ↓tyQ, ↓fbR, ↓sCode_skip, ↓sCode_label, ↓sCode_ret, ↓sCode_exit, ↓sCode_regT, ↓sCode_regF, ↓sCode_seq, ↓sCode_cond, ↓sCode_block, ↓sCode_scope, ↓sCode_loop0, ↓sCode_loop, ↓sLoop_zero, ↓sLoop_succ, ↓sOps_nil, ↓sOps_cons, ↓sOpsQ_nil, ↓sOpsQ_cons, ↓fOp, ↓fQ, ↓op1, ↓opL, ↓fK, ↓getK, ↓hK, ↓gK, ↓fLoad, ↓fStore, ↓fBin, ↓fInt, ↓fRet, ↓fResults, ↓fOpQ, ↓fPart, ↓fIndex, ↓fIdx, ↓fSlice, ↓fSliceOf, ↓fCut, ↓fBound, ↓fBuild, ↓fParts, ↓fPartsE, ↓fMkI, ↓fAssert, ↓fZero, ↓fZ, ↓fMkS, ↓fAppend, ↓fAppXs, ↓fAppTo, ↓fCopy, ↓fCopyIn, ↓fRead, ↓fConv, ↓fConvI, ↓fEq, ↓fEqU, ↓fFold2, ↓fBuiltin, ↓evUn, ↓fputK, ↓undK, ↓zerK, ↓fldK, ↓kddK, ↓pfK_some, ↓pfK_none, ↓arrK_mk, ↓rowK_none, ↓rowK_0, ↓rowK_1, ↓rowK_2, ↓roK_some, ↓subK_nil, ↓subK_cons, ↓setK_cons, ↓appK_nil, ↓appK_cons, ↓getK_ints, ↓subK_ints, ↓setK_ints, ↓setKs_ints, ↓appK_ints, ↓appK_ints0, ↓appK_ints1, ↓appK_ints2, ↓appK_ints4, ↓AsBytes_ints, ↓AsBytes_nil, ↓getK_bools, ↓getK_sls, ↓appK_sls1, ↓reduceIte, reduceCtorEq, Nat.reduceAdd, Nat.reduceSub, Nat.reduceMul, Nat.reduceLT, Nat.reduceLeDiff, Nat.reduceEqDiff, Nat.reduceMod, Int.reduceToNat, Int.reduceLT, Int.reduceLE, Int.reduceAdd, Int.reduceSub, Int.reduceEq, Int.reduceNe, Int.reduceNeg, Int.reduceBNe, Int.reduceBEq, Nat.reduceBNe, Nat.reduceBEq, Bool.true_bne, Bool.false_bne, Bool.true_beq, Bool.false_beq, beq_true, beq_false, Int.toNat_natCast, Int.natCast_nonneg, Int.ofNat_lt, Int.ofNat_le, Nat.zero_le, table_r, beq_self_eq_true]
end Go.Proofs.Ytlojmciaoecfjaa
