/- Rows of one kind, and how the reckoning reads and writes them. -/
import Derived.Test.YtlojmciaoecfjaaSnbM
set_option linter.all false
namespace Go.Snb
open Go

/-! ### Literal rows -/
theorem subK_nil (o n : Nat) (k : List Value → Prop) : subK [] o n k = Side (markP (o + n ≤ 0)) (k (([] : List Value).drop o |>.take n)) := rfl
theorem subK_cons (v : Value) (r : List Value) (o n : Nat) (k : List Value → Prop) : subK (v :: r) o n k = Side (markP (o + n ≤ (v :: r).length)) (k (((v :: r).drop o).take n)) := rfl
theorem setK_cons (v : Value) (r : List Value) (o : Nat) (vs : List Value) (k : List Value → Prop) : setK (v :: r) o vs k = Side (markP (o + vs.length ≤ (v :: r).length)) (k (setL (v :: r) o vs)) := rfl
theorem appK_nil (o n : Nat) (xs : List Value) (k : List Value → Prop) : appK [] o n xs k = k xs := by simp [appK]
theorem appK_cons (v : Value) (r : List Value) (o n : Nat) (xs : List Value) (k : List Value → Prop) : appK (v :: r) o n xs k = k (((v :: r).drop o).take n ++ xs) := rfl
theorem getK_opt {α : Type} : ∀ (l : List α) (n : Nat) (k : α → Prop), getK l n k ↔ ∃ x, l[n]? = some x ∧ k x := fun l n k => ⟨getK_spec, fun ⟨_, h1, h2⟩ => getK_of h1 h2⟩

theorem Side_iff {A B : Prop} : Side A B ↔ A ∧ B := ⟨fun h => ⟨h.ask, h.go⟩, fun h => ⟨h.1, h.2⟩⟩

/-! ### Numbers -/
def ints (k : IntKind) (xs : List Int) : List Value := xs.map (.int k)
@[simp] theorem ints_length (k : IntKind) (xs : List Int) : (ints k xs).length = xs.length := by simp [ints]
theorem ints_one (k : IntKind) (xs : List Int) : (ints k xs).all one = true := by simp [ints, one]
theorem ints_simple (k : IntKind) (xs : List Int) : (ints k xs).all simple = true := by simp [ints, simple, simple0]
theorem ints_nil (k : IntKind) : ints k [] = [] := rfl
theorem ints_app (k : IntKind) (xs ys : List Int) : ints k xs ++ ints k ys = ints k (xs ++ ys) := by simp [ints]
theorem ints_get (k : IntKind) (xs : List Int) (n : Nat) : (ints k xs)[n]? = (xs[n]?).map (.int k) := by simp [ints]
theorem getK_ints (k : IntKind) (xs : List Int) (n : Nat) (K : Value → Prop) : getK (ints k xs) n K = Side (markP (n < xs.length)) (K (.int k (xs.getD n 0))) := by
  apply propext
  rw [getK_opt, Side_iff, ints_get]
  constructor
  · rintro ⟨x, h1, h2⟩
    cases hx : xs[n]? with
    | none => rw [hx] at h1; cases h1
    | some y =>
      rw [hx] at h1; cases h1
      refine ⟨(List.getElem?_eq_some_iff.1 hx).1, ?_⟩
      rwa [List.getD_eq_getElem?_getD, hx]
  · rintro ⟨h1, h2⟩
    have h1 : n < xs.length := h1
    exact ⟨_, by rw [List.getElem?_eq_getElem h1]; rfl, by rwa [List.getD_eq_getElem?_getD, List.getElem?_eq_getElem h1] at h2⟩
theorem subK_ints (k : IntKind) (xs : List Int) (o n : Nat) (K : List Value → Prop) : subK (ints k xs) o n K = Side (markP (o + n ≤ xs.length)) (K (ints k ((xs.drop o).take n))) := by
  simp only [subK, ints_length]; congr 2; simp [ints]
theorem setL_ints (k : IntKind) (xs : List Int) (o : Nat) (v : Int) : setL (ints k xs) o [.int k v] = ints k (xs.set o v) := by simp [setL, ints, List.map_set]
theorem setK_ints (k : IntKind) (xs : List Int) (o : Nat) (v : Int) (K : List Value → Prop) : setK (ints k xs) o [.int k v] K = Side (markP (o + 1 ≤ xs.length)) (K (ints k (xs.set o v))) := by
  simp only [setK, ints_length, List.length_cons, List.length_nil, setL_ints]
theorem setLs_ints (k : IntKind) : ∀ (ys xs : List Int) (o : Nat), o + ys.length ≤ xs.length → setL (ints k xs) o (ints k ys) = ints k (xs.take o ++ ys ++ xs.drop (o + ys.length))
  | [], xs, o, _ => by simp [setL, ints_nil]
  | y :: r, xs, o, h => by
    simp only [List.length_cons] at h
    have e1 : setL (ints k xs) o (ints k (y :: r)) = setL (ints k (xs.set o y)) (o + 1) (ints k r) := by simp only [ints, List.map_cons, setL, List.map_set]
    rw [e1, setLs_ints k r _ _ (by simp; omega)]
    congr 1
    have e2 : (xs.set o y).take (o + 1) = xs.take o ++ [y] := by
      rw [List.take_succ_eq_append_getElem (by simp; omega)]
      simp [List.take_set_of_le]
    rw [e2, List.drop_set_of_lt (by omega)]
    simp [Nat.add_assoc, Nat.add_comm 1]
theorem setKs_ints (k : IntKind) (xs ys : List Int) (o : Nat) (K : List Value → Prop) : setK (ints k xs) o (ints k ys) K = Side (markP (o + ys.length ≤ xs.length)) (K (ints k (xs.take o ++ ys ++ xs.drop (o + ys.length)))) := by
  apply propext
  simp only [setK, ints_length, Side_iff, markP]
  constructor
  · rintro ⟨h1, h2⟩; exact ⟨h1, by rwa [setLs_ints k ys xs o h1] at h2⟩
  · rintro ⟨h1, h2⟩; exact ⟨h1, by rwa [setLs_ints k ys xs o h1]⟩
theorem appK_ints (k : IntKind) (xs ys : List Int) (o n : Nat) (K : List Value → Prop) : appK (ints k xs) o n (ints k ys) K = K (ints k ((xs.drop o).take n ++ ys)) := by simp [appK, ints]
theorem appK_ints0 (k : IntKind) (xs : List Int) (o n : Nat) (K : List Value → Prop) : appK (ints k xs) o n [] K = K (ints k ((xs.drop o).take n)) := by simp [appK, ints]
theorem appK_ints1 (k : IntKind) (xs : List Int) (o n : Nat) (v : Int) (K : List Value → Prop) : appK (ints k xs) o n [.int k v] K = K (ints k ((xs.drop o).take n ++ [v])) := by simp [appK, ints]
theorem appK_ints2 (k : IntKind) (xs : List Int) (o n : Nat) (v u : Int) (K : List Value → Prop) : appK (ints k xs) o n [.int k v, .int k u] K = K (ints k ((xs.drop o).take n ++ [v, u])) := by simp [appK, ints]
theorem appK_ints4 (k : IntKind) (xs : List Int) (o n : Nat) (a b c d : Int) (K : List Value → Prop) : appK (ints k xs) o n [.int k a, .int k b, .int k c, .int k d] K = K (ints k ((xs.drop o).take n ++ [a, b, c, d])) := by simp [appK, ints]
theorem zl_two (a b : Value) (r : List Value) (n : Nat) : zl (a :: b :: r) (n + 1) = (a :: b :: r) ++ zl (a :: b :: r) n := by unfold zl; rw [List.replicate_succ, List.flatten_cons]
theorem zl_zero (z : List Value) : zl z 0 = [] := rfl
theorem zl_ints (k : IntKind) (v : Int) (n : Nat) : zl [.int k v] n = ints k (List.replicate n v) := by rw [zl_one]; simp [ints]
theorem rvL_ints (τ : Nat → Nat) (k : IntKind) (xs : List Int) : rvL τ (ints k xs) = ints k xs := rvL_simple τ (ints_simple k xs)
theorem noIL_ints (I : List Nat) (k : IntKind) : ∀ xs : List Int, noIL I (ints k xs) = true
  | [] => rfl
  | x :: r => by have := noIL_ints I k r; simp only [ints, List.map_cons, noIL, noI, Bool.true_and] at *; exact this
theorem okL_ints (S : List Src) (k : IntKind) : ∀ xs : List Int, okL S (ints k xs) = true
  | [] => rfl
  | x :: r => by have := okL_ints S k r; simp only [ints, List.map_cons, okL, okT, Bool.true_and] at *; exact this
theorem trL_ints (S : List Src) (k : IntKind) : ∀ xs : List Int, trL S (ints k xs) = ints k xs
  | [] => rfl
  | x :: r => by have := trL_ints S k r; simp only [ints, List.map_cons, trL, tr] at *; rw [this]
theorem sc_ints (n m : Nat) (k : IntKind) (xs : List Int) : ∀ v ∈ ints k xs, Sc n m v := by
  intro v hv
  obtain ⟨x, _, rfl⟩ := List.mem_map.1 hv
  exact Sc.flat rfl _ _
/-- Numbers as bytes. -/
def toB (xs : List Int) : List UInt8 := xs.map fun n => UInt8.ofNat n.toNat
theorem bytesOf_ints : ∀ xs : List Int, bytesOf? (ints .u8 xs) = some (toB xs)
  | [] => rfl
  | x :: r => by
    have := bytesOf_ints r
    simp only [ints, List.map_cons, bytesOf?, byteOf?, toB] at *
    rw [this]
theorem AsBytes_ints (xs : List Int) (k : List UInt8 → Prop) (t : Tok k) : AsBytes (ints .u8 xs) k t = k (toB xs) := by
  apply propext
  constructor
  · rintro ⟨l, h1, h2⟩; rw [bytesOf_ints] at h1; cases h1; exact h2
  · intro h; exact ⟨_, bytesOf_ints xs, h⟩
theorem AsBytes_nil (k : List UInt8 → Prop) (t : Tok k) : AsBytes [] k t = k [] := AsBytes_ints [] k t

/-! ### Rows of some cells each -/
def rows {α : Type} (f : α → List Value) (xs : List α) : List Value := xs.flatMap f
section
variable {α : Type} {f : α → List Value} {z : Nat}
theorem rows_nil : rows f [] = [] := rfl
theorem rows_cons (x : α) (r : List α) : rows f (x :: r) = f x ++ rows f r := rfl
theorem rows_app (xs ys : List α) : rows f xs ++ rows f ys = rows f (xs ++ ys) := by simp [rows]
theorem rows_length (hf : ∀ x, (f x).length = z) : ∀ xs : List α, (rows f xs).length = xs.length * z
  | [] => by simp [rows]
  | x :: r => by rw [rows_cons, List.length_append, hf, rows_length hf r, List.length_cons, Nat.succ_mul, Nat.add_comm]
theorem rows_drop (hf : ∀ x, (f x).length = z) : ∀ (xs : List α) (i : Nat), (rows f xs).drop (i * z) = rows f (xs.drop i)
  | xs, 0 => by simp
  | [], i + 1 => by simp [rows]
  | x :: r, i + 1 => by
    rw [rows_cons, Nat.succ_mul, Nat.add_comm, ← List.drop_drop]
    have h1 : (f x ++ rows f r).drop z = rows f r := by
      rw [List.drop_append_of_le_length (by rw [hf]; omega), List.drop_of_length_le (by rw [hf]; omega), List.nil_append]
    rw [h1, rows_drop hf r i]; rfl
theorem rows_take (hf : ∀ x, (f x).length = z) : ∀ (xs : List α) (i : Nat), (rows f xs).take (i * z) = rows f (xs.take i)
  | xs, 0 => by simp [rows]
  | [], i + 1 => by simp [rows]
  | x :: r, i + 1 => by
    rw [rows_cons, Nat.succ_mul, Nat.add_comm, List.take_append, List.take_of_length_le (by rw [hf]; omega), hf, Nat.add_sub_cancel_left, rows_take hf r i]; rfl
theorem rows_at (hf : ∀ x, (f x).length = z) [Inhabited α] {xs : List α} {i j : Nat} (hi : i < xs.length) (hj : j < z) : (rows f xs)[i * z + j]? = (f (xs.getD i default))[j]? := by
  rw [← List.getElem?_drop, rows_drop hf]
  rw [List.drop_eq_getElem_cons hi, rows_cons, List.getElem?_append_left (by rw [hf]; exact hj)]
  simp [List.getD_eq_getElem?_getD, hi]
theorem getK_rows (hf : ∀ x, (f x).length = z) [Inhabited α] (xs : List α) (i j : Nat) (hj : j < z) (K : Value → Prop) : getK (rows f xs) (i * z + j) K = Side (markP (i < xs.length)) (getK (f (xs.getD i default)) j K) := by
  apply propext
  rw [getK_opt, Side_iff, getK_opt]
  constructor
  · rintro ⟨x, h1, h2⟩
    have hlt := (List.getElem?_eq_some_iff.1 h1).1
    rw [rows_length hf] at hlt
    have hi : i < xs.length := Nat.lt_of_not_le fun hc => by have := Nat.mul_le_mul_right z hc; omega
    rw [rows_at hf hi hj] at h1
    exact ⟨hi, x, h1, h2⟩
  · rintro ⟨hi, x, h1, h2⟩
    have hi : i < xs.length := hi
    exact ⟨x, by rw [rows_at hf hi hj]; exact h1, h2⟩
theorem getK_rows0 (hf : ∀ x, (f x).length = z) [Inhabited α] (xs : List α) (i : Nat) (hj : 0 < z) (K : Value → Prop) : getK (rows f xs) (i * z) K = Side (markP (i < xs.length)) (getK (f (xs.getD i default)) 0 K) := getK_rows hf xs i 0 hj K
theorem subK_rows (hf : ∀ x, (f x).length = z) [Inhabited α] (hz : 0 < z) (xs : List α) (i : Nat) (K : List Value → Prop) : subK (rows f xs) (i * z) z K = Side (markP (i < xs.length)) (K (f (xs.getD i default))) := by
  apply propext
  simp only [subK, Side_iff, markP, rows_length hf]
  have key : ∀ hi : i < xs.length, List.take z (List.drop (i * z) (rows f xs)) = f (xs.getD i default) := by
    intro hi
    rw [rows_drop hf, List.drop_eq_getElem_cons hi, rows_cons, List.take_append_of_le_length (by rw [hf]; exact Nat.le_refl _), List.take_of_length_le (by rw [hf]; exact Nat.le_refl _)]
    simp [List.getD_eq_getElem?_getD, hi]
  constructor
  · rintro ⟨h1, h2⟩
    have hi : i < xs.length := Nat.lt_of_not_le fun hc => by have := Nat.mul_le_mul_right z hc; omega
    exact ⟨hi, by rwa [key hi] at h2⟩
  · rintro ⟨h1, h2⟩
    refine ⟨?_, by rwa [key h1]⟩
    have := Nat.mul_le_mul_right z (show i + 1 ≤ xs.length from h1)
    rw [Nat.succ_mul] at this; exact this
theorem subKn_rows (hf : ∀ x, (f x).length = z) (hz : 0 < z) (xs : List α) (i n : Nat) (K : List Value → Prop) : subK (rows f xs) (i * z) (n * z) K = Side (markP (i + n ≤ xs.length)) (K (rows f ((xs.drop i).take n))) := by
  apply propext
  simp only [subK, Side_iff, markP, rows_length hf, rows_drop hf, rows_take hf]
  rw [← Nat.add_mul]
  exact and_congr_left fun _ => ⟨fun h => Nat.le_of_mul_le_mul_right h hz, fun h => Nat.mul_le_mul_right z h⟩
theorem setL_rows (hf : ∀ x, (f x).length = z) : ∀ (xs : List α) (i : Nat) (x : α), i < xs.length → setL (rows f xs) (i * z) (f x) = rows f (xs.set i x) := by
  intro xs i x hi
  apply List.ext_getElem?
  intro j
  have hz : i * z + (f x).length ≤ (rows f xs).length := by rw [hf, rows_length hf, ← Nat.succ_mul]; exact Nat.mul_le_mul_right z hi
  rw [setL_get _ _ _ _ hz, hf]
  have e : rows f (xs.set i x) = rows f (xs.take i) ++ (f x ++ rows f (xs.drop (i + 1))) := by
    rw [List.set_eq_take_append_cons_drop, if_pos hi, ← rows_app, rows_cons]
  have e2 : rows f xs = rows f (xs.take i) ++ (f xs[i] ++ rows f (xs.drop (i + 1))) := by
    rw [← rows_cons, rows_app, List.getElem_cons_drop, List.take_append_drop]
  have hl : (rows f (xs.take i)).length = i * z := by rw [rows_length hf]; simp; congr 1; omega
  by_cases h1 : j < i * z
  · rw [if_neg (by omega), e, e2, List.getElem?_append_left (by omega), List.getElem?_append_left (by omega)]
  · by_cases h2 : j < i * z + z
    · rw [if_pos ⟨by omega, h2⟩, e, List.getElem?_append_right (by omega), hl, List.getElem?_append_left (by rw [hf]; omega)]
    · rw [if_neg (by omega), e, e2, List.getElem?_append_right (l₁ := rows f (xs.take i)) (by omega), List.getElem?_append_right (l₁ := rows f (xs.take i)) (by omega), hl, List.getElem?_append_right (l₁ := f x) (by rw [hf]; omega), List.getElem?_append_right (l₁ := f xs[i]) (by rw [hf]; omega), hf, hf]
theorem appK_rows (hf : ∀ x, (f x).length = z) (xs : List α) (i n : Nat) (x : α) (K : List Value → Prop) : appK (rows f xs) (i * z) (n * z) (f x) K = K (rows f ((xs.drop i).take n ++ [x])) := by
  simp only [appK, rows_drop hf, rows_take hf]
  rw [← rows_app]; simp [rows]
theorem appK_rows0 (hf : ∀ x, (f x).length = z) (xs : List α) (n : Nat) (x : α) (K : List Value → Prop) : appK (rows f xs) 0 (n * z) (f x) K = K (rows f (xs.take n ++ [x])) := by
  have := appK_rows hf xs 0 n x K
  simpa using this
theorem rows_all {p : Value → Bool} (h : ∀ x, (f x).all p = true) : ∀ xs : List α, (rows f xs).all p = true
  | [] => rfl
  | x :: r => by rw [rows_cons, List.all_append, h x, rows_all h r]; rfl
theorem rvL_rows (τ : Nat → Nat) (h : ∀ x, rvL τ (f x) = f x) : ∀ xs : List α, rvL τ (rows f xs) = rows f xs := by
  intro xs
  induction xs with
  | nil => rfl
  | cons x r ih => rw [rows_cons, rvL_map, List.map_append, ← rvL_map, ← rvL_map, h, ih]
theorem okL_app (S : List Src) : ∀ a b : List Value, okL S (a ++ b) = (okL S a && okL S b)
  | [], b => by simp [okL]
  | v :: r, b => by simp only [List.cons_append, okL, okL_app S r b, Bool.and_assoc]
theorem trL_app (S : List Src) : ∀ a b : List Value, trL S (a ++ b) = trL S a ++ trL S b
  | [], b => by simp [trL]
  | v :: r, b => by simp only [List.cons_append, trL, trL_app S r b]
theorem noIL_app (I : List Nat) : ∀ a b : List Value, noIL I (a ++ b) = (noIL I a && noIL I b)
  | [], b => by simp [noIL]
  | v :: r, b => by simp only [List.cons_append, noIL, noIL_app I r b, Bool.and_assoc]
theorem rvL_app (τ : Nat → Nat) (a b : List Value) : rvL τ (a ++ b) = rvL τ a ++ rvL τ b := by simp [rvL_map]
theorem okL_rows (S : List Src) (h : ∀ x, okL S (f x) = true) : ∀ xs : List α, okL S (rows f xs) = true
  | [] => rfl
  | x :: r => by rw [rows_cons, okL_app, h, okL_rows S h r]; rfl
theorem trL_rows (S : List Src) (h : ∀ x, trL S (f x) = f x) : ∀ xs : List α, trL S (rows f xs) = rows f xs
  | [] => rfl
  | x :: r => by rw [rows_cons, trL_app, h, trL_rows S h r]
theorem noIL_rows (I : List Nat) (h : ∀ x, noIL I (f x) = true) : ∀ xs : List α, noIL I (rows f xs) = true
  | [] => rfl
  | x :: r => by rw [rows_cons, noIL_app, h, noIL_rows I h r]; rfl
end

/-! ### Truths -/
def bools (xs : List Bool) : List Value := xs.map .bool
@[simp] theorem bools_length (xs : List Bool) : (bools xs).length = xs.length := by simp [bools]
theorem getK_bools (xs : List Bool) (n : Nat) (K : Value → Prop) : getK (bools xs) n K = Side (markP (n < xs.length)) (K (.bool (xs.getD n false))) := by
  apply propext
  rw [getK_opt, Side_iff]
  constructor
  · rintro ⟨x, h1, h2⟩
    simp only [bools, List.getElem?_map] at h1
    cases hx : xs[n]? with
    | none => rw [hx] at h1; cases h1
    | some y =>
      rw [hx] at h1; cases h1
      refine ⟨(List.getElem?_eq_some_iff.1 hx).1, ?_⟩
      rwa [List.getD_eq_getElem?_getD, hx]
  · rintro ⟨h1, h2⟩
    have h1 : n < xs.length := h1
    exact ⟨_, by simp only [bools, List.getElem?_map]; rw [List.getElem?_eq_getElem h1]; rfl, by rwa [List.getD_eq_getElem?_getD, List.getElem?_eq_getElem h1] at h2⟩

/-! ### Frozen slices -/
/-- A frozen slice: its row, and how many. -/
def fsv (p : Nat × Nat) : Value := .slice (some ⟨p.1, 0, some 0⟩) p.2 p.2
def sls (ps : List (Nat × Nat)) : List Value := ps.map fsv
@[simp] theorem sls_length (ps : List (Nat × Nat)) : (sls ps).length = ps.length := by simp [sls]
theorem getK_sls (ps : List (Nat × Nat)) (n : Nat) (K : Value → Prop) : getK (sls ps) n K = Side (markP (n < ps.length)) (K (.slice (some ⟨(ps.getD n (0, 0)).1, 0, some 0⟩) (ps.getD n (0, 0)).2 (ps.getD n (0, 0)).2)) := by
  apply propext
  rw [getK_opt, Side_iff]
  constructor
  · rintro ⟨x, h1, h2⟩
    simp only [sls, List.getElem?_map] at h1
    cases hx : ps[n]? with
    | none => rw [hx] at h1; cases h1
    | some y =>
      rw [hx] at h1; cases h1
      refine ⟨(List.getElem?_eq_some_iff.1 hx).1, ?_⟩
      rw [List.getD_eq_getElem?_getD, hx]; exact h2
  · rintro ⟨h1, h2⟩
    have h1 : n < ps.length := h1
    refine ⟨_, by simp only [sls, List.getElem?_map]; rw [List.getElem?_eq_getElem h1]; rfl, ?_⟩
    rw [List.getD_eq_getElem?_getD, List.getElem?_eq_getElem h1] at h2; exact h2
theorem appK_sls1 (ps : List (Nat × Nat)) (o n : Nat) (p : Nat × Nat) (K : List Value → Prop) : appK (sls ps) o n [fsv p] K = K (sls ((ps.drop o).take n ++ [p])) := by simp [appK, sls]
theorem okL_sls (S : List Src) : ∀ ps, okL S (sls ps) = true
  | [] => rfl
  | x :: r => by have := okL_sls S r; simp only [sls, List.map_cons, okL, okT, fsv, Bool.true_and] at *; exact this
theorem trL_sls (S : List Src) : ∀ ps, trL S (sls ps) = sls ps
  | [] => rfl
  | x :: r => by have := trL_sls S r; simp only [sls, List.map_cons, trL, tr, fsv] at *; rw [this]
theorem noIL_sls (I : List Nat) : ∀ ps, noIL I (sls ps) = true
  | [] => rfl
  | x :: r => by have := noIL_sls I r; simp only [sls, List.map_cons, noIL, noI, noA, fsv, Bool.true_and] at *; exact this
theorem rvL_sls (τ : Nat → Nat) : ∀ ps, rvL τ (sls ps) = sls ps
  | [] => rfl
  | x :: r => by have := rvL_sls τ r; simp only [sls, List.map_cons, rvL, rv, rvA, fsv] at *; rw [this]
end Go.Snb
