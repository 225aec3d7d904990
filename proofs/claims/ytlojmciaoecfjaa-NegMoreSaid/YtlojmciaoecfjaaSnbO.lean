/- The reckoning's rules under one name. -/
import Derived.Test.YtlojmciaoecfjaaSnbQ
set_option linter.all false
namespace Go.Snb
open Go
theorem okI_nil' (n : Nat) (I : List Nat) : okI n I [] = True := eq_true (okI_nil n I)
theorem clipIf_true (s : Option Nat) : clipIf true s = clipS s := rfl
theorem clipIf_false (s : Option Nat) : clipIf false s = s := rfl
theorem okI_cons (n : Nat) (I : List Nat) (i : Nat) (J : List Nat) : okI n I (i :: J) = ((n ≤ i ∨ i ∈ I) ∧ okI n I J) := by
  apply propext
  constructor
  · intro h; exact ⟨h i (by simp), fun j hj => h j (by simp [hj])⟩
  · rintro ⟨h1, h2⟩ j hj
    rcases List.mem_cons.1 hj with rfl | hj
    · exact h1
    · exact h2 j hj
attribute [push_cast] pfK_some pfK_none pfAdd pf0 noKn enum dstOk fput keep_nil keep_cons kIns_some kIns_none fget goodB aadd pspot clipS openS clipIf_true clipIf_false cellsL flat simple simple0 one quietB Und.known Und.agg packR nf_eq mrk_eq markP_eq Side_true Br_true Br_false fillL setL undef_eq wrap_i64 wrap_u64 wrap_u32 wrap_u16 wrap_u8
attribute [push_cast] kdK fits eqc beq_self_eq_true Bool.and_self bne_self_eq_false Bool.bne_false Bool.bne_true
attribute [push_cast] okI_nil' okI_cons dropI_nil dropI_cons keepI noI noIA noIL noA noIL_ints noIL_sls ints_length bools_length sls_length ints_one zl_ints zl_two zl_zero zl_length
attribute [push_cast] List.replicate decide_true decide_false decide_eq_true_eq Bool.false_eq_true Bool.not_true Bool.not_false Bool.and_true Bool.true_and Bool.and_false Bool.false_and Option.isSome_none Option.isSome_some List.all_cons List.all_nil List.length_cons List.length_nil List.nil_append List.cons_append List.append_nil List.set_cons_zero List.set_cons_succ List.take_succ_cons List.take_zero List.take_nil List.drop_succ_cons List.drop_zero List.drop_nil List.map_cons List.map_nil List.zip_cons_cons List.zip_nil_left List.zip_nil_right Nat.add_zero Nat.zero_add Nat.mul_one Nat.zero_mul and_true true_and and_self or_true true_or or_false false_or not_true not_false_eq_true ne_eq
end Go.Snb
