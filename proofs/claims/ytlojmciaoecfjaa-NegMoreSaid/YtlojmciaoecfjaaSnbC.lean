/- Quiet operations: one value, whatever world bears the labels; the world stays. -/
import Derived.Test.YtlojmciaoecfjaaSnbB
set_option linter.all false
namespace Go.Snb
open Go
section
variable {P : Program}

/-! ### Arithmetic -/
def evInt (op : BinOp) (k : IntKind) (a : Int) (k' : IntKind) (b : Int) (K : Value → Prop) : Prop :=
  match op with
  | .shl => 0 ≤ b ∧ K (.int k (k.wrap (a * 2 ^ min b.toNat k.bits)))
  | .shr => 0 ≤ b ∧ K (.int k (a / 2 ^ min b.toNat k.bits))
  | .add => k = k' ∧ K (.int k (k.wrap (a + b)))
  | .sub => k = k' ∧ K (.int k (k.wrap (a - b)))
  | .mul => k = k' ∧ K (.int k (k.wrap (a * b)))
  | .quo => k = k' ∧ b ≠ 0 ∧ K (.int k (k.wrap (a.tdiv b)))
  | .rem => k = k' ∧ b ≠ 0 ∧ K (.int k (a.tmod b))
  | .and => k = k' ∧ K (.int k (bits .and k a b))
  | .or => k = k' ∧ K (.int k (bits .or k a b))
  | .xor => k = k' ∧ K (.int k (bits .xor k a b))
  | .andNot => k = k' ∧ K (.int k (bits .andNot k a b))
  | .eql => k = k' ∧ K (.bool (a == b))
  | .neq => k = k' ∧ K (.bool (a != b))
  | .lss => k = k' ∧ K (.bool (decide (a < b)))
  | .leq => k = k' ∧ K (.bool (decide (a ≤ b)))
  | .gtr => k = k' ∧ K (.bool (decide (a > b)))
  | .geq => k = k' ∧ K (.bool (decide (a ≥ b)))

theorem evInt_run {op : BinOp} {k k' : IntKind} {a b : Int} {K : Value → Prop} {t : TypeId} (h : evInt op k a k' b K) :
    ∃ u, (∀ w, (binOp op t (.int k a) (.int k' b)).run P w = .ok u w) ∧ flat u = true ∧ K u := by
  cases op <;> simp only [evInt] at h
  case shl => exact ⟨_, fun w => by simp only [binOp, Op.shift]; rw [if_neg (by omega)]; simp, by rfl, h.2⟩
  case shr =>
    refine ⟨_, fun w => ?_, by rfl, h.2⟩
    have hp : (0 : Int) ≤ 2 ^ min b.toNat k.bits := Int.pow_nonneg (by decide)
    simp only [binOp, Op.shift]
    rw [if_neg (by omega), Int.fdiv_eq_ediv_of_nonneg _ hp]
    simp
  case quo => obtain ⟨rfl, hb, h⟩ := h; exact ⟨_, fun w => by simp [binOp, Op.intDiv, hb], by rfl, h⟩
  case rem => obtain ⟨rfl, hb, h⟩ := h; exact ⟨_, fun w => by simp [binOp, Op.intDiv, hb], by rfl, h⟩
  all_goals (obtain ⟨rfl, h⟩ := h; exact ⟨_, fun w => by simp [binOp, Op.intArith, Op.intCmp, intBits_and, intBits_or, intBits_xor, intBits_andNot], by rfl, h⟩)

/-- Comparisons of what is no number. -/
def evEq (P : Program) (neg : Bool) (t : TypeId) (x y : Value) (M : Mem) (H : Hp) (K : Value → Prop) : Prop :=
  match x, y with
  | .string a, .string b => K (.bool ((a.toList == b.toList) != neg))
  | .bool a, .bool b => P.underlying t = some .bool ∧ K (.bool ((a == b) != neg))
  | .pointer (some _), .pointer none => (∃ el, P.underlying t = some (.pointer el)) ∧ K (.bool neg)
  | .pointer none, .pointer (some _) => (∃ el, P.underlying t = some (.pointer el)) ∧ K (.bool neg)
  | .pointer none, .pointer none => (∃ el, P.underlying t = some (.pointer el)) ∧ K (.bool (!neg))
  | .slice (some a) _ _, .slice none _ _ => (∃ el, P.underlying t = some (.slice el)) ∧ (∃ cs, rowOf M H a = some cs ∧ cs ≠ []) ∧ K (.bool neg)
  | .slice none _ _, .slice none _ _ => (∃ el, P.underlying t = some (.slice el)) ∧ K (.bool (!neg))
  | .func _ _ _, .nilFunc => (∃ a b c, P.underlying t = some (.func a b c)) ∧ K (.bool neg)
  | .nilFunc, .nilFunc => (∃ a b c, P.underlying t = some (.func a b c)) ∧ K (.bool (!neg))
  | .agg xs, .agg ys => ∃ r, (∀ w, (eqGuard .eql t (.tmp 0) (.tmp 0) (.agg xs) (.agg ys)).run P w = .ok () w ∧ (Op.equal t (.agg xs) (.agg ys)).run P w = .ok r w) ∧ flat (.agg xs) = true ∧ flat (.agg ys) = true ∧ K (.bool (r != neg))
  | _, _ => False

theorem eqGuard_of {x y : Operand} {t : TypeId} {a b : Value} {op : BinOp} (w : World) (h1 : ∀ xs ys, a = .agg xs → b ≠ .agg ys) (h2 : a = .nilIface → b ≠ .nilIface) : (eqGuard op t x y a b).run P w = .ok () w := by
  have key : ∀ (A B C : Sem Unit), (C.run P w = .ok () w) → (match a, b with | .nilIface, .nilIface => A | .agg _, .agg _ => B | _, _ => C).run P w = .ok () w := by
    intro A B C hC
    split
    · exact absurd rfl (h2 rfl)
    · exact absurd rfl (h1 _ _ rfl)
    · exact hC
  cases op
  case eql => exact key _ _ (pure ()) rfl
  case neq => exact key _ _ (pure ()) rfl
  all_goals rfl

theorem run_equal {t : TypeId} {x y : Value} {b : Bool} {w : World} (h : ∀ d, (Op.equalIn (d + 1) t x y).run P w = .ok b w) : (Op.equal t x y).run P w = .ok b w := h 9999
theorem binOp_eq {neg : Bool} {t : TypeId} {x y : Value} {b : Bool} {w : World} (hx : binOp (if neg then .neq else .eql) t x y = (if neg then (do pure (.bool (!(← Op.equal t x y)))) else (do pure (.bool (← Op.equal t x y)))))
    (h : ∀ d, (Op.equalIn (d + 1) t x y).run P w = .ok b w) : (binOp (if neg then .neq else .eql) t x y).run P w = .ok (.bool (b != neg)) w := by
  rw [hx]
  cases neg <;> simp [run_equal h]

theorem eqGuard_op {x y x' y' : Operand} {t : TypeId} {xs ys : Array Value} (w : World) (neg : Bool) (h : (eqGuard .eql t x y (.agg xs) (.agg ys)).run P w = .ok () w) :
    (eqGuard (if neg then .neq else .eql) t x' y' (.agg xs) (.agg ys)).run P w = .ok () w := by
  cases neg <;> simpa [eqGuard] using h

theorem rowOf_nonnil {M : Mem} {X : Fx} {e : Env} {H : Hp} {w : World} (h : Emb M X e H w) {a : Addr} {cs : List Value} (hr : rowOf M H a = some cs) (hc : cs ≠ []) : (locOf e a).nil = false := by
  obtain ⟨v, r, rfl⟩ : ∃ v r, cs = v :: r := by cases cs <;> simp_all
  have := (row_cell h (a := ⟨a.block, 0, a.spot⟩) (cs := v :: r) (j := 0) (v := v) (by simpa [rowOf] using hr) (by simp)).1
  simpa [locOf] using this

theorem evEq_run {neg : Bool} {t : TypeId} {x y : Value} {M : Mem} {H : Hp} {K : Value → Prop} (h : evEq P neg t x y M H K) (ox oy : Operand) :
    ∃ u, (∀ (X : Fx) (e : Env) w, Emb M X e H w → (do eqGuard (if neg then .neq else .eql) t ox oy (cv e x) (cv e y); binOp (if neg then .neq else .eql) t (cv e x) (cv e y) : Sem Value).run P w = .ok u w) ∧ flat u = true ∧ K u := by
  unfold evEq at h
  split at h
  · refine ⟨_, fun X e w he => ?_, by rfl, h⟩
    simp only [cv_string]
    rw [Sem.run_bind, eqGuard_of w (by simp) (by simp)]
    cases neg <;> simp [binOp, Op.stringOp]
  · obtain ⟨ht, h⟩ := h
    refine ⟨_, fun X e w he => ?_, by rfl, h⟩
    simp only [cv_bool]
    rw [Sem.run_bind, eqGuard_of w (by simp) (by simp)]
    exact binOp_eq (by cases neg <;> rfl) fun d => by simp only [Op.equalIn, Sem.run_bind, run_underlying' ht, Result.andThen_ok, Sem.run_pure]
  · obtain ⟨⟨el, ht⟩, h⟩ := h
    refine ⟨_, fun X e w he => ?_, by rfl, h⟩
    simp only [cv_ptr, cv_nilptr]
    rw [Sem.run_bind, eqGuard_of w (by simp) (by simp)]
    rw [Result.andThen_ok, show Value.bool neg = .bool (false != neg) by simp]
    exact binOp_eq (by cases neg <;> rfl) fun d => by simp only [Op.equalIn, Sem.run_bind, run_underlying' ht, Result.andThen_ok, Sem.run_pure]
  · obtain ⟨⟨el, ht⟩, h⟩ := h
    refine ⟨_, fun X e w he => ?_, by rfl, h⟩
    simp only [cv_ptr, cv_nilptr]
    rw [Sem.run_bind, eqGuard_of w (by simp) (by simp)]
    rw [Result.andThen_ok, show Value.bool neg = .bool (false != neg) by simp]
    exact binOp_eq (by cases neg <;> rfl) fun d => by simp only [Op.equalIn, Sem.run_bind, run_underlying' ht, Result.andThen_ok, Sem.run_pure, Option.isNone_some]
  · obtain ⟨⟨el, ht⟩, h⟩ := h
    refine ⟨_, fun X e w he => ?_, by rfl, h⟩
    simp only [cv_nilptr]
    rw [Sem.run_bind, eqGuard_of w (by simp) (by simp)]
    rw [Result.andThen_ok, show Value.bool (!neg) = .bool (true != neg) by simp]
    exact binOp_eq (by cases neg <;> rfl) fun d => by simp only [Op.equalIn, Sem.run_bind, run_underlying' ht, Result.andThen_ok, Sem.run_pure, Option.isNone_none]
  · obtain ⟨⟨el, ht⟩, ⟨cs, hr, hc⟩, h⟩ := h
    refine ⟨_, fun X e w he => ?_, by rfl, h⟩
    simp only [cv_slice, cv_nilslice, slV, rowOf_nonnil he hr hc, Bool.false_eq_true, if_false]
    rw [Sem.run_bind, eqGuard_of w (by simp) (by simp)]
    rw [Result.andThen_ok, show Value.bool neg = .bool (false != neg) by simp]
    exact binOp_eq (by cases neg <;> rfl) fun d => by simp only [Op.equalIn, Sem.run_bind, run_underlying' ht, Result.andThen_ok, Sem.run_pure]
  · obtain ⟨⟨el, ht⟩, h⟩ := h
    refine ⟨_, fun X e w he => ?_, by rfl, h⟩
    simp only [cv_nilslice]
    rw [Sem.run_bind, eqGuard_of w (by simp) (by simp)]
    rw [Result.andThen_ok, show Value.bool (!neg) = .bool (true != neg) by simp]
    exact binOp_eq (by cases neg <;> rfl) fun d => by simp only [Op.equalIn, Sem.run_bind, run_underlying' ht, Result.andThen_ok, Sem.run_pure, Option.isNone_none]
  · obtain ⟨⟨a, b, c, ht⟩, h⟩ := h
    refine ⟨_, fun X e w he => ?_, by rfl, h⟩
    simp only [cv_func, cv_nilFunc]
    rw [Sem.run_bind, eqGuard_of w (by simp) (by simp)]
    rw [Result.andThen_ok, show Value.bool neg = .bool (false != neg) by simp]
    exact binOp_eq (by cases neg <;> rfl) fun d => by simp only [Op.equalIn, Sem.run_bind, run_underlying' ht, Result.andThen_ok, Sem.run_pure]
  · obtain ⟨⟨a, b, c, ht⟩, h⟩ := h
    refine ⟨_, fun X e w he => ?_, by rfl, h⟩
    simp only [cv_nilFunc]
    rw [Sem.run_bind, eqGuard_of w (by simp) (by simp)]
    rw [Result.andThen_ok, show Value.bool (!neg) = .bool (true != neg) by simp]
    exact binOp_eq (by cases neg <;> rfl) fun d => by simp only [Op.equalIn, Sem.run_bind, run_underlying' ht, Result.andThen_ok, Sem.run_pure]
  · rename_i xs ys
    obtain ⟨r, hr, hx, hy, h⟩ := h
    refine ⟨_, fun X e w he => ?_, by rfl, h⟩
    rw [flat_cv e hx, flat_cv e hy, Sem.run_bind, eqGuard_op w neg (hr w).1]
    have h2 := (hr w).2
    have hx : ∀ b : Bool, binOp (if b then .neq else .eql) t (.agg xs) (.agg ys) = (if b then (do pure (.bool (!(← Op.equal t (.agg xs) (.agg ys))))) else (do pure (.bool (← Op.equal t (.agg xs) (.agg ys))))) := by intro b; cases b <;> rfl
    rw [Result.andThen_ok, hx]
    cases neg <;> simp [h2]
  · exact h.elim

def evBin (P : Program) (op : BinOp) (t : TypeId) (x y : Value) (M : Mem) (H : Hp) (K : Value → Prop) : Prop :=
  match x, y with
  | .int k a, .int k' b => evInt op k a k' b K
  | x, y => match op with
    | .eql => evEq P false t x y M H K
    | .neq => evEq P true t x y M H K
    | _ => False

theorem evBin_run {op : BinOp} {t : TypeId} {x y : Value} {M : Mem} {H : Hp} {K : Value → Prop} (h : evBin P op t x y M H K) (ox oy : Operand) :
    ∃ u, (∀ (X : Fx) (e : Env) w, Emb M X e H w → (do eqGuard op t ox oy (cv e x) (cv e y); binOp op t (cv e x) (cv e y) : Sem Value).run P w = .ok u w) ∧ flat u = true ∧ K u := by
  unfold evBin at h
  split at h
  · obtain ⟨u, h1, h2, h3⟩ := evInt_run (P := P) (t := t) h
    refine ⟨u, fun X e w he => ?_, h2, h3⟩
    rw [cv_int, cv_int, Sem.run_bind, eqGuard_of w (by simp) (by simp)]
    simp [h1]
  · split at h
    · obtain ⟨u, h1, h2, h3⟩ := evEq_run h ox oy
      exact ⟨u, fun X e w he => by simpa using h1 X e w he, h2, h3⟩
    · obtain ⟨u, h1, h2, h3⟩ := evEq_run h ox oy
      exact ⟨u, fun X e w he => by simpa using h1 X e w he, h2, h3⟩
    · exact h.elim

def evUn (op : UnOp) (x : Value) (K : Value → Prop) : Prop :=
  match op, x with
  | .not, .bool b => K (.bool !b)
  | .neg, .int k n => K (.int k (k.wrap (0 - n)))
  | .xor, .int k n => K (.int k (bits .xor k (if k.signed then -1 else k.max) n))
  | _, _ => False
theorem evUn_run {op : UnOp} {x : Value} {K : Value → Prop} (h : evUn op x K) :
    ∃ u, (∀ (e : Env) w, (Op.unary op (cv e x)).run P w = .ok u w) ∧ flat u = true ∧ K u := by
  unfold evUn at h
  split at h
  · exact ⟨_, fun e w => by simp [Op.unary], by rfl, h⟩
  · exact ⟨_, fun e w => by simp [Op.unary, Op.intArith], by rfl, h⟩
  · exact ⟨_, fun e w => by simp [Op.unary, intBits_xor], by rfl, h⟩
  · exact h.elim

/-! ### Reading rows -/
def evRead (M : Mem) (H : Hp) (sz : Nat) (b : Option Addr) (k : Nat) (K : List Value → Prop) : Prop :=
  match b with
  | none => K []
  | some a => ∃ cs, rowOf M H a = some cs ∧ a.off + k * sz ≤ cs.length ∧ K ((cs.drop a.off).take (k * sz))

theorem run_loadCells_read {w : World} {e : Env} {us : List Value} {a : Addr} (h : ∀ j u, us[j]? = some u → w.cell? (a.add j) = some (cv e u)) :
    (loadCells a us.length).run P w = .ok (us.map (cv e)).toArray w := by
  have := run_loadCells_list (P := P) w a (us.map (cv e)) (fun j v hj => by
    rw [List.getElem?_map] at hj
    cases hj' : us[j]? with
    | none => simp [hj'] at hj
    | some u => simp [hj'] at hj; subst hj; exact h j u hj')
  rwa [List.length_map] at this

theorem rowOf_nil {M : Mem} {X : Fx} {e : Env} {H : Hp} {w : World} (h : Emb M X e H w) {a : Addr} {cs : List Value} (hr : rowOf M H a = some cs) (hn : (locOf e a).nil = true) : cs = [] := by
  cases hc : cs with
  | nil => rfl
  | cons v r =>
    have := rowOf_nonnil h hr (by rw [hc]; simp)
    rw [this] at hn; cases hn

/-- What the machine's own reading of a row's first cells comes to. -/
theorem evRead_run {M : Mem} {H : Hp} {sz : Nat} {b : Option Addr} {k : Nat} {K : List Value → Prop} (h : evRead M H sz b k K) :
    ∃ us, (∀ X e w, Emb M X e H w → ∀ n c, (Builtin.firstCells sz k (cv e (.slice b n c))).run P w = .ok (us.map (cv e)).toArray w) ∧
      (ScH M H → ∀ u ∈ us, Sc H.length M.next u) ∧ us.length = (if b.isSome then k * sz else 0) ∧ K us := by
  unfold evRead at h
  split at h
  · exact ⟨[], fun X e w he n c => by simp [Builtin.firstCells], by simp, by simp, h⟩
  · rename_i a
    obtain ⟨cs, hl, hlen, hk⟩ := h
    have hlen' : ((cs.drop a.off).take (k * sz)).length = k * sz := by simp; omega
    refine ⟨_, ?_, ?_, by simpa using by omega, hk⟩
    · intro X e w he n c
      simp only [cv_slice, slV]
      cases hn : (locOf e a).nil with
      | true =>
        have := rowOf_nil he hl hn
        subst this
        simp [Builtin.firstCells]
      | false =>
        simp only [Bool.false_eq_true, if_false, Builtin.firstCells]
        have := run_loadCells_read (P := P) (e := e) (w := w) (us := (cs.drop a.off).take (k * sz)) (a := adr e a) (fun j u hj => by
          rw [List.getElem?_take] at hj
          split at hj
          · rw [List.getElem?_drop] at hj; exact (row_cell he hl hj).2
          · cases hj)
        rwa [hlen'] at this
    · intro hH u hu
      exact hH.row hl u (List.mem_of_mem_drop (List.mem_of_mem_take hu))

/-- Bytes out of cells. -/
def byteOf? : Value → Option UInt8
  | .int .u8 n => some (UInt8.ofNat n.toNat)
  | _ => none
def bytesOf? : List Value → Option (List UInt8)
  | [] => some []
  | v :: r => match byteOf? v, bytesOf? r with
    | some b, some l => some (b :: l)
    | _, _ => none

theorem bytes_flat (e : Env) : ∀ (us : List Value) (l : List UInt8), bytesOf? us = some l → us.map (cv e) = us
  | [], _, _ => rfl
  | v :: r, l, h => by
    simp only [bytesOf?] at h
    split at h
    · rename_i b l' hb hl
      cases v with
      | int k n => simp [bytes_flat e r l' hl]
      | _ => simp [byteOf?] at hb
    · cases h

theorem bytes_loop : ∀ (us : List Value) (l : List UInt8) (s : ByteArray) (w : World), bytesOf? us = some l →
    (forIn us s (fun c s => match c with
      | Value.int IntKind.u8 n => pure (ForInStep.yield (s.push (UInt8.ofNat n.toNat)))
      | _ => do
        stuck (α := PUnit) "bytesToString: byte expected"
        pure (ForInStep.yield s) : Value → ByteArray → Sem (ForInStep ByteArray))).run P w = .ok (s ++ ⟨l.toArray⟩) w
  | [], l, s, w, h => by
    simp only [bytesOf?] at h; cases h
    simp only [List.forIn_nil, Sem.run_pure]
    congr 1
    apply ByteArray.ext; simp
  | v :: r, l, s, w, h => by
    simp only [bytesOf?] at h
    split at h
    · rename_i b l' hb hl
      cases h
      cases v with
      | int k n =>
        cases k <;> simp [byteOf?] at hb
        subst hb
        rw [List.forIn_cons]
        simp only [Sem.run_bind, Sem.run_pure, Result.andThen_ok]
        rw [bytes_loop r l' _ w hl]
        congr 1
        apply ByteArray.ext
        apply Array.ext'
        simp
      | _ => simp [byteOf?] at hb
    · cases h

def evConv (P : Program) (src dst : TypeId) (x : Value) (M : Mem) (H : Hp) (K : Value → Prop) : Prop :=
  match x with
  | .int _ n => (∃ d, P.underlying src = some d) ∧ ∃ k, P.underlying dst = some (.int k) ∧ K (.int k (k.wrap n))
  | .slice a n c => ∃ el, P.underlying src = some (.slice el) ∧ P.underlying dst = some .string ∧ P.underlying el = some (.int .u8) ∧
      evRead M H 1 a n fun us => ∃ l, bytesOf? us = some l ∧ K (.string ⟨l.toArray⟩)
  | _ => False

theorem evConv_run {src dst : TypeId} {x : Value} {M : Mem} {H : Hp} {K : Value → Prop} (h : evConv P src dst x M H K) :
    ∃ u, (∀ X e w, Emb M X e H w → (convert src dst (cv e x)).run P w = .ok u w) ∧ flat u = true ∧ K u := by
  unfold evConv at h
  split at h
  · obtain ⟨⟨d, hd⟩, k, hk, h⟩ := h
    refine ⟨_, fun X e w _ => ?_, by rfl, h⟩
    simp only [cv_int, convert, Sem.run_bind, run_underlying' hd, run_underlying' hk, Result.andThen_ok]
    cases d <;> simp [Conv.intToInt]
  · rename_i a n c
    obtain ⟨el, hs, hd, hel, hr⟩ := h
    obtain ⟨us, h1, _, h3, l, hl, hk⟩ := evRead_run (P := P) hr
    refine ⟨_, fun X e w he => ?_, by rfl, hk⟩
    have h2 := h1 X e w he n c
    have key : ∀ b c', cv e (.slice a n c) = .slice b n c' → (convert src dst (.slice b n c')).run P w = .ok (.string ⟨l.toArray⟩) w := by
      intro b c' hb
      rw [hb] at h2
      have hb2 := bytes_loop (P := P) us l ByteArray.empty w hl
      cases b with
      | none =>
        simp only [Builtin.firstCells, Sem.run_pure, Result.ok.injEq] at h2
        have hu : us = [] := by have := congrArg Array.size h2.1; simp at this; exact List.length_eq_zero_iff.1 this.symm
        subst hu
        simp [bytesOf?] at hl
        subst hl
        simp only [convert, Sem.run_bind, run_underlying' hs, run_underlying' hd, Result.andThen_ok, run_underlying' hel, Conv.bytesToString]
        rfl
      | some x =>
        simp only [Builtin.firstCells, Nat.mul_one] at h2
        simp only [convert, Sem.run_bind, run_underlying' hs, run_underlying' hd, Result.andThen_ok, run_underlying' hel, Conv.bytesToString, h2, bytes_flat e us l hl]
        simp only [List.forIn_toArray]
        refine Eq.trans (congrArg (fun r : Result ByteArray => r.andThen _) hb2) ?_
        simp
    cases a with
    | none => exact key none c (by simp)
    | some x => exact key _ _ (by simp [slV])
  · exact h.elim
end
end Go.Snb
