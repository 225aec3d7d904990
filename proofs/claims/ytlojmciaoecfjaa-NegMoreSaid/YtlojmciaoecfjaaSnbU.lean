/- Bits of numbers without a sign. -/
import Derived.Test.YtlojmciaoecfjaaSnbO
import Derived.Laws.Entries
set_option linter.all false
namespace Go.Snb
open Go
/-- A bit of a number. -/
def tb (x : Int) (i : Nat) : Bool := x.toNat.testBit i
theorem wrap_un {k : IntKind} (hk : k.signed = false) {n : Int} (h0 : 0 ≤ n) (h1 : n < 2 ^ k.bits) : k.wrap n = n := by
  simp only [IntKind.wrap, hk, Bool.false_and, Bool.false_eq_true, if_false]
  exact Int.emod_eq_of_lt h0 h1
theorem bv_nat {W : Nat} {x : Int} (h0 : 0 ≤ x) (h1 : x < 2 ^ W) : (BitVec.ofInt W x).toNat = x.toNat := by
  obtain ⟨n, rfl⟩ := Int.eq_ofNat_of_zero_le h0
  rw [BitVec.ofInt_natCast, BitVec.toNat_ofNat, Int.toNat_natCast]
  exact Nat.mod_eq_of_lt (by have : (n : Int) < ((2 ^ W : Nat) : Int) := by push_cast; exact h1
                             omega)
theorem bits_lt {op : BinOp} {k : IntKind} (hk : k.signed = false) (x y : Int) : 0 ≤ bits op k x y ∧ bits op k x y < 2 ^ k.bits := by
  unfold bits
  simp only [IntKind.wrap, hk, Bool.false_and, Bool.false_eq_true, if_false]
  have hp : (0 : Int) < 2 ^ k.bits := Int.pow_pos (by decide)
  exact ⟨Int.emod_nonneg _ (by omega), Int.emod_lt_of_pos _ hp⟩
theorem bits_toNat {op : BinOp} {k : IntKind} (hk : k.signed = false) {x y : Int} (hx : 0 ≤ x) (hx2 : x < 2 ^ k.bits) (hy : 0 ≤ y) (hy2 : y < 2 ^ k.bits) :
    (bits op k x y).toNat = match op with
      | .and => x.toNat &&& y.toNat
      | .or => x.toNat ||| y.toNat
      | .xor => x.toNat ^^^ y.toNat
      | _ => x.toNat &&& (2 ^ k.bits - 1 - y.toNat) := by
  have ex := bv_nat (W := k.bits) hx hx2
  have ey := bv_nat (W := k.bits) hy hy2
  have key : ∀ v : BitVec k.bits, (k.wrap (v.toNat : Int)).toNat = v.toNat := by
    intro v
    rw [wrap_un hk (by omega) (by have := v.isLt; have h2 : ((v.toNat : Nat) : Int) < ((2 ^ k.bits : Nat) : Int) := by omega
                                  push_cast at h2; exact h2)]
    simp
  unfold bits
  cases op <;> simp only [key] <;> simp only [BitVec.toNat_and, BitVec.toNat_or, BitVec.toNat_xor, BitVec.toNat_not, ex, ey]
theorem tb_and {k : IntKind} (hk : k.signed = false) {x y : Int} (hx : 0 ≤ x) (hx2 : x < 2 ^ k.bits) (hy : 0 ≤ y) (hy2 : y < 2 ^ k.bits) (i : Nat) : tb (bits .and k x y) i = (tb x i && tb y i) := by
  unfold tb; rw [bits_toNat hk hx hx2 hy hy2]; simp
theorem tb_or {k : IntKind} (hk : k.signed = false) {x y : Int} (hx : 0 ≤ x) (hx2 : x < 2 ^ k.bits) (hy : 0 ≤ y) (hy2 : y < 2 ^ k.bits) (i : Nat) : tb (bits .or k x y) i = (tb x i || tb y i) := by
  unfold tb; rw [bits_toNat hk hx hx2 hy hy2]; simp
theorem tb_xor {k : IntKind} (hk : k.signed = false) {x y : Int} (hx : 0 ≤ x) (hx2 : x < 2 ^ k.bits) (hy : 0 ≤ y) (hy2 : y < 2 ^ k.bits) (i : Nat) : tb (bits .xor k x y) i = (tb x i ^^ tb y i) := by
  unfold tb; rw [bits_toNat hk hx hx2 hy hy2]; simp
theorem tb_andNot {k : IntKind} (hk : k.signed = false) {x y : Int} (hx : 0 ≤ x) (hx2 : x < 2 ^ k.bits) (hy : 0 ≤ y) (hy2 : y < 2 ^ k.bits) (i : Nat) : tb (bits .andNot k x y) i = (tb x i && !tb y i) := by
  unfold tb; rw [bits_toNat hk hx hx2 hy hy2]
  have hyn : y.toNat < 2 ^ k.bits := by
    have : ((y.toNat : Nat) : Int) < ((2 ^ k.bits : Nat) : Int) := by push_cast; omega
    omega
  simp only
  rw [Nat.testBit_and]
  by_cases hi : i < k.bits
  · rw [Nat.sub_right_comm, Nat.sub_sub, Nat.testBit_two_pow_sub_succ hyn]
    simp [hi]
  · have hxn : x.toNat < 2 ^ k.bits := by
      have : ((x.toNat : Nat) : Int) < ((2 ^ k.bits : Nat) : Int) := by push_cast; omega
      omega
    rw [Nat.testBit_lt_two_pow (Nat.lt_of_lt_of_le hxn (Nat.pow_le_pow_right (by decide) (by omega)))]
    simp
/-- Numbers with the same bits. -/
theorem tb_ext {x y : Int} (hx : 0 ≤ x) (hy : 0 ≤ y) (h : ∀ i, tb x i = tb y i) : x = y := by
  have := Nat.eq_of_testBit_eq (x := x.toNat) (y := y.toNat) h
  omega
theorem tb_div (x : Int) (h : 0 ≤ x) (j i : Nat) : tb (x / 2 ^ j) i = tb x (j + i) := by
  obtain ⟨n, rfl⟩ := Int.eq_ofNat_of_zero_le h
  have : ((n : Int) / 2 ^ j) = ((n / 2 ^ j : Nat) : Int) := by push_cast; rfl
  unfold tb
  rw [this, Int.toNat_natCast, Int.toNat_natCast, Nat.testBit_div_two_pow, Nat.add_comm]
theorem tb_zero (x : Int) (h : 0 ≤ x) : (x % 2 = 1) ↔ tb x 0 = true := by
  unfold tb
  rw [Nat.testBit_zero]
  simp
  omega
theorem div_mod2 (x : Int) (h : 0 ≤ x) (i : Nat) : x / 2 ^ i % 2 = if tb x i = true then 1 else 0 := by
  have h1 : 0 ≤ x / 2 ^ i := Int.ediv_nonneg h (Int.pow_nonneg (by decide))
  have h2 := tb_zero (x / 2 ^ i) h1
  rw [tb_div x h, Nat.add_zero] at h2
  split
  · rename_i ht; exact h2.2 ht
  · rename_i ht
    have : ¬ (x / 2 ^ i % 2 = 1) := fun hh => ht (h2.1 hh)
    omega
end Go.Snb
