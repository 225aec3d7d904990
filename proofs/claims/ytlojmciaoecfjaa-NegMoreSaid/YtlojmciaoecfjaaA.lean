/- Contracts of package neg. -/
import Derived.Test.YtlojmciaoecfjaaTab
import Derived.Test.YtlojmciaoecfjaaSnbO
set_option linter.all false
set_option linter.unusedSimpArgs false
set_option maxRecDepth 100000
namespace Go.Proofs.Ytlojmciaoecfjaa
open Go Go.Snb

/-- A word's bit. -/
def bitU (w i : Int) : Bool := bits .and .u16 (shrI .u16 w i) 1 == 1
def hasB (s bit base gig : Int) : Bool := bitU (if s = 1000 then gig else base) bit

theorem word_c (speed bit base gig : Int) (f : Bool) (M : Mem) :
    acalls Try.prog 22 [.agg #[.int .i64 speed, .bool f, .int .i64 bit], .int .u16 base, .int .u16 gig] M [] [] fun _ v _ =>
      v = .int .u16 (if speed = 1000 then gig else base) := by
  refine sacalls_code T_ok mixed [0, 1, 2, 3, 6, 9] 0 Try.func22 rfl Try.ntmps22 (by simp) (rs := [.tmp 6]) rfl ?_
  simp (maxSteps := 2000000) -dsimp -implicitDefEqProofs only [push_cast, ↓tyR, ↓tyQ, ↓fbR, ↓sCode_skip, ↓sCode_label, ↓sCode_ret, ↓sCode_exit, ↓sCode_regT, ↓sCode_regF, ↓sCode_seq, ↓sCode_cond, ↓sCode_block, ↓sCode_scope, ↓sCode_loop0, ↓sCode_loop, ↓sLoop_zero, ↓sLoop_succ, ↓sOps_nil, ↓sOps_cons, ↓sOpsQ_nil, ↓sOpsQ_cons, ↓fOp, ↓fQ, ↓op1, ↓opL, ↓fK, ↓getK, ↓hK, ↓gK, ↓fLoad, ↓fStore, ↓fBin, ↓fInt, ↓fRet, ↓fResults, ↓fOpQ, ↓fPart, ↓fIndex, ↓fIdx, ↓fSlice, ↓fSliceOf, ↓fCut, ↓fBound, ↓fBuild, ↓fParts, ↓fPartsE, ↓fMkI, ↓fAssert, ↓fZero, ↓fZ, ↓fMkS, ↓fAppend, ↓fAppXs, ↓fAppTo, ↓fCopy, ↓fCopyIn, ↓fRead, ↓fConv, ↓fConvI, ↓fEq, ↓fEqU, ↓fFold2, ↓fBuiltin, ↓evUn, ↓fputK, ↓undK, ↓zerK, ↓fldK, ↓kddK, ↓pfK_some, ↓pfK_none, ↓arrK_mk, ↓rowK_none, ↓rowK_0, ↓rowK_1, ↓rowK_2, ↓roK_some, ↓subK_nil, ↓subK_cons, ↓setK_cons, ↓appK_nil, ↓appK_cons, ↓getK_ints, ↓subK_ints, ↓setK_ints, ↓setKs_ints, ↓appK_ints, ↓appK_ints0, ↓appK_ints1, ↓appK_ints2, ↓appK_ints4, ↓AsBytes_ints, ↓AsBytes_nil, ↓getK_bools, ↓getK_sls, ↓appK_sls1, ↓reduceIte, reduceCtorEq, Nat.reduceAdd, Nat.reduceSub, Nat.reduceMul, Nat.reduceLT, Nat.reduceLeDiff, Nat.reduceEqDiff, Nat.reduceMod, Int.reduceToNat, Int.reduceLT, Int.reduceLE, Int.reduceAdd, Int.reduceSub, Int.reduceEq, Int.reduceNe, Int.reduceNeg, Int.reduceBNe, Int.reduceBEq, Nat.reduceBNe, Nat.reduceBEq, Bool.true_bne, Bool.false_bne, Bool.true_beq, Bool.false_beq, beq_true, beq_false, Int.toNat_natCast, Int.natCast_nonneg, Int.ofNat_lt, Int.ofNat_le, Nat.zero_le]
  exact ⟨fun h => by simp at h; simp [h], fun h => by simp at h; simp [h]⟩
def word_q : Known
  | [.agg ⟨[.int .i64 speed, .bool _, .int .i64 _]⟩, .int .u16 base, .int .u16 gig] => some (True, .int .u16 (if speed = 1000 then gig else base))
  | _ => none
theorem word_r (speed bit base gig : Int) (f : Bool) : word_q [.agg #[.int .i64 speed, .bool f, .int .i64 bit], .int .u16 base, .int .u16 gig] = some (True, .int .u16 (if speed = 1000 then gig else base)) := rfl
theorem word_k : KnOk Try.prog 22 word_q := by
  intro args c v h hc
  unfold word_q at h
  split at h
  · cases h; exact ⟨rfl, rfl, word_c _ _ _ _ _⟩
  · cases h
theorem T1_ok : TbOk Try.prog ⟨tyF, fbF, pfAdd 22 word_q pf0⟩ := T_ok.add word_k

theorem has_c (speed bit base gig : Int) (f : Bool) (hb : 0 ≤ bit ∧ bit < 16) (M : Mem) :
    acalls Try.prog 18 [.agg #[.int .i64 speed, .bool f, .int .i64 bit], .int .u16 base, .int .u16 gig] M [] [] fun _ v _ =>
      v = .bool (hasB speed bit base gig) := by
  refine sacalls_code T1_ok mixed [0, 1, 2, 3, 6] 0 Try.func18 rfl Try.ntmps18 (by simp) (rs := [.tmp 6]) rfl ?_
  simp (maxSteps := 2000000) -dsimp -implicitDefEqProofs only [push_cast, ↓tyR, ↓tyQ, ↓fbR, ↓sCode_skip, ↓sCode_label, ↓sCode_ret, ↓sCode_exit, ↓sCode_regT, ↓sCode_regF, ↓sCode_seq, ↓sCode_cond, ↓sCode_block, ↓sCode_scope, ↓sCode_loop0, ↓sCode_loop, ↓sLoop_zero, ↓sLoop_succ, ↓sOps_nil, ↓sOps_cons, ↓sOpsQ_nil, ↓sOpsQ_cons, ↓fOp, ↓fQ, ↓op1, ↓opL, ↓fK, ↓getK, ↓hK, ↓gK, ↓fLoad, ↓fStore, ↓fBin, ↓fInt, ↓fRet, ↓fResults, ↓fOpQ, ↓fPart, ↓fIndex, ↓fIdx, ↓fSlice, ↓fSliceOf, ↓fCut, ↓fBound, ↓fBuild, ↓fParts, ↓fPartsE, ↓fMkI, ↓fAssert, ↓fZero, ↓fZ, ↓fMkS, ↓fAppend, ↓fAppXs, ↓fAppTo, ↓fCopy, ↓fCopyIn, ↓fRead, ↓fConv, ↓fConvI, ↓fEq, ↓fEqU, ↓fFold2, ↓fBuiltin, ↓evUn, ↓fputK, ↓undK, ↓zerK, ↓fldK, ↓kddK, ↓pfK_some, ↓pfK_none, ↓arrK_mk, ↓rowK_none, ↓rowK_0, ↓rowK_1, ↓rowK_2, ↓roK_some, ↓subK_nil, ↓subK_cons, ↓setK_cons, ↓appK_nil, ↓appK_cons, ↓getK_ints, ↓subK_ints, ↓setK_ints, ↓setKs_ints, ↓appK_ints, ↓appK_ints0, ↓appK_ints1, ↓appK_ints2, ↓appK_ints4, ↓AsBytes_ints, ↓AsBytes_nil, ↓getK_bools, ↓getK_sls, ↓appK_sls1, ↓reduceIte, reduceCtorEq, Nat.reduceAdd, Nat.reduceSub, Nat.reduceMul, Nat.reduceLT, Nat.reduceLeDiff, Nat.reduceEqDiff, Nat.reduceMod, Int.reduceToNat, Int.reduceLT, Int.reduceLE, Int.reduceAdd, Int.reduceSub, Int.reduceEq, Int.reduceNe, Int.reduceNeg, Int.reduceBNe, Int.reduceBEq, Nat.reduceBNe, Nat.reduceBEq, Bool.true_bne, Bool.false_bne, Bool.true_beq, Bool.false_beq, beq_true, beq_false, Int.toNat_natCast, Int.natCast_nonneg, Int.ofNat_lt, Int.ofNat_le, Nat.zero_le, word_r]
  have hw : IntKind.u64.wrap bit = bit := by simp [IntKind.wrap, IntKind.bits, IntKind.signed]; omega
  exact ⟨⟨by decide +kernel⟩, by omega, by rw [hw]; rfl⟩
def has_q : Known
  | [.agg ⟨[.int .i64 speed, .bool _, .int .i64 bit]⟩, .int .u16 base, .int .u16 gig] => some (0 ≤ bit ∧ bit < 16, .bool (hasB speed bit base gig))
  | _ => none
theorem has_r (speed bit base gig : Int) (f : Bool) : has_q [.agg #[.int .i64 speed, .bool f, .int .i64 bit], .int .u16 base, .int .u16 gig] = some (0 ≤ bit ∧ bit < 16, .bool (hasB speed bit base gig)) := rfl
theorem has_k : KnOk Try.prog 18 has_q := by
  intro args c v h hc
  unfold has_q at h
  split at h
  · cases h; exact ⟨rfl, rfl, has_c _ _ _ _ _ hc⟩
  · cases h

def tableV : Value := .agg #[.int .i64 1000, .bool true, .int .i64 9, .int .i64 1000, .bool false, .int .i64 8, .int .i64 100, .bool true, .int .i64 8, .int .i64 100, .bool false, .int .i64 7, .int .i64 10, .bool true, .int .i64 6, .int .i64 10, .bool false, .int .i64 5]
theorem table_c (M : Mem) :
    acalls Try.prog 17 [] M [] [] fun _ v _ => v = tableV := by
  unfold tableV
  refine sacalls_code T1_ok mixed [0] 0 Try.func17 rfl Try.ntmps17 (by simp) (rs := [.cell 0 44]) rfl ?_
  simp (maxSteps := 2000000) -dsimp -implicitDefEqProofs only [push_cast, ↓tyR, ↓tyQ, ↓fbR, ↓sCode_skip, ↓sCode_label, ↓sCode_ret, ↓sCode_exit, ↓sCode_regT, ↓sCode_regF, ↓sCode_seq, ↓sCode_cond, ↓sCode_block, ↓sCode_scope, ↓sCode_loop0, ↓sCode_loop, ↓sLoop_zero, ↓sLoop_succ, ↓sOps_nil, ↓sOps_cons, ↓sOpsQ_nil, ↓sOpsQ_cons, ↓fOp, ↓fQ, ↓op1, ↓opL, ↓fK, ↓getK, ↓hK, ↓gK, ↓fLoad, ↓fStore, ↓fBin, ↓fInt, ↓fRet, ↓fResults, ↓fOpQ, ↓fPart, ↓fIndex, ↓fIdx, ↓fSlice, ↓fSliceOf, ↓fCut, ↓fBound, ↓fBuild, ↓fParts, ↓fPartsE, ↓fMkI, ↓fAssert, ↓fZero, ↓fZ, ↓fMkS, ↓fAppend, ↓fAppXs, ↓fAppTo, ↓fCopy, ↓fCopyIn, ↓fRead, ↓fConv, ↓fConvI, ↓fEq, ↓fEqU, ↓fFold2, ↓fBuiltin, ↓evUn, ↓fputK, ↓undK, ↓zerK, ↓fldK, ↓kddK, ↓pfK_some, ↓pfK_none, ↓arrK_mk, ↓rowK_none, ↓rowK_0, ↓rowK_1, ↓rowK_2, ↓roK_some, ↓subK_nil, ↓subK_cons, ↓setK_cons, ↓appK_nil, ↓appK_cons, ↓getK_ints, ↓subK_ints, ↓setK_ints, ↓setKs_ints, ↓appK_ints, ↓appK_ints0, ↓appK_ints1, ↓appK_ints2, ↓appK_ints4, ↓AsBytes_ints, ↓AsBytes_nil, ↓getK_bools, ↓getK_sls, ↓appK_sls1, ↓reduceIte, reduceCtorEq, Nat.reduceAdd, Nat.reduceSub, Nat.reduceMul, Nat.reduceLT, Nat.reduceLeDiff, Nat.reduceEqDiff, Nat.reduceMod, Int.reduceToNat, Int.reduceLT, Int.reduceLE, Int.reduceAdd, Int.reduceSub, Int.reduceEq, Int.reduceNe, Int.reduceNeg, Int.reduceBNe, Int.reduceBEq, Nat.reduceBNe, Nat.reduceBEq, Bool.true_bne, Bool.false_bne, Bool.true_beq, Bool.false_beq, beq_true, beq_false, Int.toNat_natCast, Int.natCast_nonneg, Int.ofNat_lt, Int.ofNat_le, Nat.zero_le, word_r]
def table_q : Known
  | [] => some (True, tableV)
  | _ => none
theorem table_r : table_q [] = some (True, .agg #[.int .i64 1000, .bool true, .int .i64 9, .int .i64 1000, .bool false, .int .i64 8, .int .i64 100, .bool true, .int .i64 8, .int .i64 100, .bool false, .int .i64 7, .int .i64 10, .bool true, .int .i64 6, .int .i64 10, .bool false, .int .i64 5]) := rfl
theorem table_k : KnOk Try.prog 17 table_q := by
  intro args c v h hc
  unfold table_q at h
  split at h
  · cases h; exact ⟨rfl, rfl, table_c⟩
  · cases h

def pTx (a b : Int) : Bool := if bitU a 10 && bitU b 10 then true else if bitU (bits .and .u16 a b) 11 then bitU b 10 else false
def pRx (a b : Int) : Bool := if bitU a 10 && bitU b 10 then true else if bitU (bits .and .u16 a b) 11 then bitU a 10 else false
theorem pauses_c (a b : Int) (M : Mem) :
    acalls Try.prog 19 [.int .u16 a, .int .u16 b] M [] [] fun _ v _ => v = .tuple #[.bool (pTx a b), .bool (pRx a b)] := by
  refine sacalls_code T1_ok mixed [0, 1, 4, 5, 6, 7, 8, 23, 28] 0 Try.func19 rfl Try.ntmps19 (by simp) (rs := [.tmp 4, .tmp 5]) rfl ?_
  simp (maxSteps := 2000000) -dsimp -implicitDefEqProofs only [push_cast, ↓tyR, ↓tyQ, ↓fbR, ↓sCode_skip, ↓sCode_label, ↓sCode_ret, ↓sCode_exit, ↓sCode_regT, ↓sCode_regF, ↓sCode_seq, ↓sCode_cond, ↓sCode_block, ↓sCode_scope, ↓sCode_loop0, ↓sCode_loop, ↓sLoop_zero, ↓sLoop_succ, ↓sOps_nil, ↓sOps_cons, ↓sOpsQ_nil, ↓sOpsQ_cons, ↓fOp, ↓fQ, ↓op1, ↓opL, ↓fK, ↓getK, ↓hK, ↓gK, ↓fLoad, ↓fStore, ↓fBin, ↓fInt, ↓fRet, ↓fResults, ↓fOpQ, ↓fPart, ↓fIndex, ↓fIdx, ↓fSlice, ↓fSliceOf, ↓fCut, ↓fBound, ↓fBuild, ↓fParts, ↓fPartsE, ↓fMkI, ↓fAssert, ↓fZero, ↓fZ, ↓fMkS, ↓fAppend, ↓fAppXs, ↓fAppTo, ↓fCopy, ↓fCopyIn, ↓fRead, ↓fConv, ↓fConvI, ↓fEq, ↓fEqU, ↓fFold2, ↓fBuiltin, ↓evUn, ↓fputK, ↓undK, ↓zerK, ↓fldK, ↓kddK, ↓pfK_some, ↓pfK_none, ↓arrK_mk, ↓rowK_none, ↓rowK_0, ↓rowK_1, ↓rowK_2, ↓roK_some, ↓subK_nil, ↓subK_cons, ↓setK_cons, ↓appK_nil, ↓appK_cons, ↓getK_ints, ↓subK_ints, ↓setK_ints, ↓setKs_ints, ↓appK_ints, ↓appK_ints0, ↓appK_ints1, ↓appK_ints2, ↓appK_ints4, ↓AsBytes_ints, ↓AsBytes_nil, ↓getK_bools, ↓getK_sls, ↓appK_sls1, ↓reduceIte, reduceCtorEq, Nat.reduceAdd, Nat.reduceSub, Nat.reduceMul, Nat.reduceLT, Nat.reduceLeDiff, Nat.reduceEqDiff, Nat.reduceMod, Int.reduceToNat, Int.reduceLT, Int.reduceLE, Int.reduceAdd, Int.reduceSub, Int.reduceEq, Int.reduceNe, Int.reduceNeg, Int.reduceBNe, Int.reduceBEq, Nat.reduceBNe, Nat.reduceBEq, Bool.true_bne, Bool.false_bne, Bool.true_beq, Bool.false_beq, beq_true, beq_false, Int.toNat_natCast, Int.natCast_nonneg, Int.ofNat_lt, Int.ofNat_le, Nat.zero_le, word_r]
  change Br (bitU a 10) (Br (bitU b 10) _ (Br (bitU (bits .and .u16 a b) 11) (Value.tuple #[.bool (bitU b 10), .bool (bitU a 10)] = _) _)) (Br (bitU (bits .and .u16 a b) 11) (Value.tuple #[.bool (bitU b 10), .bool (bitU a 10)] = _) _)
  unfold pTx pRx
  cases bitU a 10 <;> cases bitU b 10 <;> cases bitU (bits .and .u16 a b) 11 <;> simp [Br_true, Br_false]
def pauses_q : Known
  | [.int .u16 a, .int .u16 b] => some (True, .tuple #[.bool (pTx a b), .bool (pRx a b)])
  | _ => none
theorem pauses_r (a b : Int) : pauses_q [.int .u16 a, .int .u16 b] = some (True, .tuple #[.bool (pTx a b), .bool (pRx a b)]) := rfl
theorem pauses_k : KnOk Try.prog 19 pauses_q := by
  intro args c v h hc
  unfold pauses_q at h
  split at h
  · cases h; exact ⟨rfl, rfl, pauses_c _ _⟩
  · cases h
theorem T2_ok : TbOk Try.prog ⟨tyF, fbF, pfAdd 19 pauses_q (pfAdd 17 table_q (pfAdd 18 has_q (pfAdd 22 word_q pf0)))⟩ := ((T1_ok.add has_k).add table_k).add pauses_k
end Go.Proofs.Ytlojmciaoecfjaa
