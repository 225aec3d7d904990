/- Resolve. -/
import Derived.Test.YtlojmciaoecfjaaA
set_option linter.all false
set_option linter.unusedSimpArgs false
set_option maxRecDepth 100000
namespace Go.Proofs.Ytlojmciaoecfjaa
open Go Go.Snb

def modesL : List (Int × Bool × Int) := [(1000, true, 9), (1000, false, 8), (100, true, 8), (100, false, 7), (10, true, 6), (10, false, 5)]
/-- A mode. -/
structure Md where
  speed : Int
  full : Bool
  tx : Bool
  rx : Bool
instance : Inhabited Md := ⟨⟨0, false, false, false⟩⟩
def mdR (m : Md) : List Value := [.int .i64 m.speed, .bool m.full, .bool m.tx, .bool m.rx]
def resL (a ag b bg : Int) : List (Int × Bool × Int) → Md × Int
  | [] => (⟨0, false, false, false⟩, 6)
  | (s, f, k) :: r => if hasB s k a ag && hasB s k b bg then (⟨s, f, f && pTx a b, f && pRx a b⟩, 0) else resL a ag b bg r
def res (a ag b bg : Int) : Md × Int := resL a ag b bg modesL
def resV (r : Md × Int) : Value := .tuple #[.agg #[.int .i64 r.1.speed, .bool r.1.full, .bool r.1.tx, .bool r.1.rx], .int .i64 r.2]
theorem resolve_c (a ag b bg : Int) (M : Mem) :
    acalls Try.prog 10 [.int .u16 a, .int .u16 ag, .int .u16 b, .int .u16 bg] M [] [] fun _ v _ => v = resV (res a ag b bg) := by
  refine sacalls_code T2_ok mixed [0, 1, 2, 3, 8, 9, 11, 12, 13, 14, 15, 28, 35] 0 Try.func10 rfl Try.ntmps10 (by simp) (rs := [.cell 8 25, .tmp 9]) rfl ?_
  simp (maxSteps := 2000000) -dsimp -implicitDefEqProofs only [push_cast, ↓tyR, ↓tyQ, ↓fbR, ↓sCode_skip, ↓sCode_label, ↓sCode_ret, ↓sCode_exit, ↓sCode_regT, ↓sCode_regF, ↓sCode_seq, ↓sCode_cond, ↓sCode_block, ↓sCode_scope, ↓sCode_loop0, ↓sCode_loop, ↓sLoop_zero, ↓sLoop_succ, ↓sOps_nil, ↓sOps_cons, ↓sOpsQ_nil, ↓sOpsQ_cons, ↓fOp, ↓fQ, ↓op1, ↓opL, ↓fK, ↓getK, ↓hK, ↓gK, ↓fLoad, ↓fStore, ↓fBin, ↓fInt, ↓fRet, ↓fResults, ↓fOpQ, ↓fPart, ↓fIndex, ↓fIdx, ↓fSlice, ↓fSliceOf, ↓fCut, ↓fBound, ↓fBuild, ↓fParts, ↓fPartsE, ↓fMkI, ↓fAssert, ↓fZero, ↓fZ, ↓fMkS, ↓fAppend, ↓fAppXs, ↓fAppTo, ↓fCopy, ↓fCopyIn, ↓fRead, ↓fConv, ↓fConvI, ↓fEq, ↓fEqU, ↓fFold2, ↓fBuiltin, ↓evUn, ↓fputK, ↓undK, ↓zerK, ↓fldK, ↓kddK, ↓pfK_some, ↓pfK_none, ↓arrK_mk, ↓rowK_none, ↓rowK_0, ↓rowK_1, ↓rowK_2, ↓roK_some, ↓subK_nil, ↓subK_cons, ↓setK_cons, ↓appK_nil, ↓appK_cons, ↓getK_ints, ↓subK_ints, ↓setK_ints, ↓setKs_ints, ↓appK_ints, ↓appK_ints0, ↓appK_ints1, ↓appK_ints2, ↓appK_ints4, ↓AsBytes_ints, ↓AsBytes_nil, ↓getK_bools, ↓getK_sls, ↓appK_sls1, ↓reduceIte, reduceCtorEq, Nat.reduceAdd, Nat.reduceSub, Nat.reduceMul, Nat.reduceLT, Nat.reduceLeDiff, Nat.reduceEqDiff, Nat.reduceMod, Int.reduceToNat, Int.reduceLT, Int.reduceLE, Int.reduceAdd, Int.reduceSub, Int.reduceEq, Int.reduceNe, Int.reduceNeg, Int.reduceBNe, Int.reduceBEq, Nat.reduceBNe, Nat.reduceBEq, Bool.true_bne, Bool.false_bne, Bool.true_beq, Bool.false_beq, beq_true, beq_false, Int.toNat_natCast, Int.natCast_nonneg, Int.ofNat_lt, Int.ofNat_le, Nat.zero_le, word_r, has_r, table_r, pauses_r]
  refine Awp1.loop T2_ok mixed [0, 1, 2, 3, 8, 9, 11, 12, 13, 14, 15, 28, 35] 0 [0, 1, 2, 3, 8, 9, 13, 14] (fun i : Nat => [.int .u16 a, .int .u16 ag, .int .u16 b, .int .u16 bg, .pointer (some ⟨0, 0, none⟩), .int .i64 0, tableV, .int .i64 i])
    (fun _ => [some (Blk.cells [.int .i64 0, .bool false, .bool false, .bool false] 0)]) (fun i _ => i ≤ 6 ∧ res a ag b bg = resL a ag b bg (modesL.drop i)) (fun i => 7 - i) 0 rfl .refl ⟨by omega, rfl⟩ ?_
  rintro i M ⟨hi, hr⟩
  obtain ⟨j, hj⟩ : ∃ j : Nat, j = i + 1 := ⟨_, rfl⟩
  obtain rfl | rfl | rfl | rfl | rfl | rfl | rfl : i = 0 ∨ i = 1 ∨ i = 2 ∨ i = 3 ∨ i = 4 ∨ i = 5 ∨ i = 6 := by omega
  case inr.inr.inr.inr.inr.inr =>
    unfold tableV
    simp (maxSteps := 2000000) -dsimp -implicitDefEqProofs only [push_cast, ↓tyR, ↓tyQ, ↓fbR, ↓sCode_skip, ↓sCode_label, ↓sCode_ret, ↓sCode_exit, ↓sCode_regT, ↓sCode_regF, ↓sCode_seq, ↓sCode_cond, ↓sCode_block, ↓sCode_scope, ↓sCode_loop0, ↓sCode_loop, ↓sLoop_zero, ↓sLoop_succ, ↓sOps_nil, ↓sOps_cons, ↓sOpsQ_nil, ↓sOpsQ_cons, ↓fOp, ↓fQ, ↓op1, ↓opL, ↓fK, ↓getK, ↓hK, ↓gK, ↓fLoad, ↓fStore, ↓fBin, ↓fInt, ↓fRet, ↓fResults, ↓fOpQ, ↓fPart, ↓fIndex, ↓fIdx, ↓fSlice, ↓fSliceOf, ↓fCut, ↓fBound, ↓fBuild, ↓fParts, ↓fPartsE, ↓fMkI, ↓fAssert, ↓fZero, ↓fZ, ↓fMkS, ↓fAppend, ↓fAppXs, ↓fAppTo, ↓fCopy, ↓fCopyIn, ↓fRead, ↓fConv, ↓fConvI, ↓fEq, ↓fEqU, ↓fFold2, ↓fBuiltin, ↓evUn, ↓fputK, ↓undK, ↓zerK, ↓fldK, ↓kddK, ↓pfK_some, ↓pfK_none, ↓arrK_mk, ↓rowK_none, ↓rowK_0, ↓rowK_1, ↓rowK_2, ↓roK_some, ↓subK_nil, ↓subK_cons, ↓setK_cons, ↓appK_nil, ↓appK_cons, ↓getK_ints, ↓subK_ints, ↓setK_ints, ↓setKs_ints, ↓appK_ints, ↓appK_ints0, ↓appK_ints1, ↓appK_ints2, ↓appK_ints4, ↓AsBytes_ints, ↓AsBytes_nil, ↓getK_bools, ↓getK_sls, ↓appK_sls1, ↓reduceIte, reduceCtorEq, Nat.reduceAdd, Nat.reduceSub, Nat.reduceMul, Nat.reduceLT, Nat.reduceLeDiff, Nat.reduceEqDiff, Nat.reduceMod, Int.reduceToNat, Int.reduceLT, Int.reduceLE, Int.reduceAdd, Int.reduceSub, Int.reduceEq, Int.reduceNe, Int.reduceNeg, Int.reduceBNe, Int.reduceBEq, Nat.reduceBNe, Nat.reduceBEq, Bool.true_bne, Bool.false_bne, Bool.true_beq, Bool.false_beq, beq_true, beq_false, Int.toNat_natCast, Int.natCast_nonneg, Int.ofNat_lt, Int.ofNat_le, Nat.zero_le, word_r, has_r, table_r, pauses_r]
    rw [hr]; rfl
  all_goals
    unfold tableV
    simp (maxSteps := 2000000) -dsimp -implicitDefEqProofs only [push_cast, ↓tyR, ↓tyQ, ↓fbR, ↓sCode_skip, ↓sCode_label, ↓sCode_ret, ↓sCode_exit, ↓sCode_regT, ↓sCode_regF, ↓sCode_seq, ↓sCode_cond, ↓sCode_block, ↓sCode_scope, ↓sCode_loop0, ↓sCode_loop, ↓sLoop_zero, ↓sLoop_succ, ↓sOps_nil, ↓sOps_cons, ↓sOpsQ_nil, ↓sOpsQ_cons, ↓fOp, ↓fQ, ↓op1, ↓opL, ↓fK, ↓getK, ↓hK, ↓gK, ↓fLoad, ↓fStore, ↓fBin, ↓fInt, ↓fRet, ↓fResults, ↓fOpQ, ↓fPart, ↓fIndex, ↓fIdx, ↓fSlice, ↓fSliceOf, ↓fCut, ↓fBound, ↓fBuild, ↓fParts, ↓fPartsE, ↓fMkI, ↓fAssert, ↓fZero, ↓fZ, ↓fMkS, ↓fAppend, ↓fAppXs, ↓fAppTo, ↓fCopy, ↓fCopyIn, ↓fRead, ↓fConv, ↓fConvI, ↓fEq, ↓fEqU, ↓fFold2, ↓fBuiltin, ↓evUn, ↓fputK, ↓undK, ↓zerK, ↓fldK, ↓kddK, ↓pfK_some, ↓pfK_none, ↓arrK_mk, ↓rowK_none, ↓rowK_0, ↓rowK_1, ↓rowK_2, ↓roK_some, ↓subK_nil, ↓subK_cons, ↓setK_cons, ↓appK_nil, ↓appK_cons, ↓getK_ints, ↓subK_ints, ↓setK_ints, ↓setKs_ints, ↓appK_ints, ↓appK_ints0, ↓appK_ints1, ↓appK_ints2, ↓appK_ints4, ↓AsBytes_ints, ↓AsBytes_nil, ↓getK_bools, ↓getK_sls, ↓appK_sls1, ↓reduceIte, reduceCtorEq, Nat.reduceAdd, Nat.reduceSub, Nat.reduceMul, Nat.reduceLT, Nat.reduceLeDiff, Nat.reduceEqDiff, Nat.reduceMod, Int.reduceToNat, Int.reduceLT, Int.reduceLE, Int.reduceAdd, Int.reduceSub, Int.reduceEq, Int.reduceNe, Int.reduceNeg, Int.reduceBNe, Int.reduceBEq, Nat.reduceBNe, Nat.reduceBEq, Bool.true_bne, Bool.false_bne, Bool.true_beq, Bool.false_beq, beq_true, beq_false, Int.toNat_natCast, Int.natCast_nonneg, Int.ofNat_lt, Int.ofNat_le, Nat.zero_le, word_r, has_r, table_r, pauses_r]
    refine Br.mk (fun h1 => ?_) (fun h1 => Br.mk (fun h2 => ?_) (fun h2 => ?_))
    · refine Again.to j rfl (Turn.ren [.lab 0] (by simp [stay]) (by first | decide | simp [Src.lbl]) (by simp [rowsIn, ownRow]) (by simp [renOk, Blk.okT, Blk.tr, okL, okT, okV, trL, tr, trV, okL_ints, trL_ints, okL_sls, trL_sls, ownRow, hj]) (by simp [renOk, Blk.okT, Blk.tr, okL, okT, okV, trL, tr, trV, okL_ints, trL_ints, okL_sls, trL_sls, ownRow, hj]) (by simp [renOk, Blk.okT, Blk.tr, okL, okT, okV, trL, tr, trV, okL_ints, trL_ints, okL_sls, trL_sls, ownRow, hj])) ⟨by omega, ?_⟩ (by omega)
      rw [hr, hj]; simp at h1; simp [modesL, resL, h1]
    · refine Again.to j rfl (Turn.ren [.lab 0] (by simp [stay]) (by first | decide | simp [Src.lbl]) (by simp [rowsIn, ownRow]) (by simp [renOk, Blk.okT, Blk.tr, okL, okT, okV, trL, tr, trV, okL_ints, trL_ints, okL_sls, trL_sls, ownRow, hj]) (by simp [renOk, Blk.okT, Blk.tr, okL, okT, okV, trL, tr, trV, okL_ints, trL_ints, okL_sls, trL_sls, ownRow, hj]) (by simp [renOk, Blk.okT, Blk.tr, okL, okT, okV, trL, tr, trV, okL_ints, trL_ints, okL_sls, trL_sls, ownRow, hj])) ⟨by omega, ?_⟩ (by omega)
      rw [hr, hj]; simp at h1 h2; simp [modesL, resL, h1, h2]
    · simp at h1 h2
      rw [hr]
      simp [modesL, resL, resV, h1, h2]
end Go.Proofs.Ytlojmciaoecfjaa
