/- Structs and arrays of numbers and truths, compared. -/
import Derived.Test.YtlojmciaoecfjaaSnbR
set_option linter.all false
namespace Go.Snb
open Go
section
variable {P : Program}

/-- The kinds of a type's cells, where all are numbers and truths. -/
def kindsF (P : Program) (g : TypeId → Option (List (Option IntKind))) : List Field → Nat → Option (List (Option IntKind))
  | [], _ => some []
  | f :: r, o => if f.name != "_" && f.offset == o then
      match g f.type with
      | some ks => if szOf P f.type == some ks.length then (kindsF P g r (o + ks.length)).map (ks ++ ·) else none
      | none => none
    else none
def kindsOf (P : Program) : Nat → TypeId → Option (List (Option IntKind))
  | 0, _ => none
  | d + 1, t => match P.underlying t with
    | some .bool => some [none]
    | some (.int k) => some [some k]
    | some (.struct fs) => if P.stoodInHeld t = true then none else kindsF P (kindsOf P d) fs.toList 0
    | some (.array n el) => match kindsOf P d el with
      | some ks => if szOf P el == some ks.length then some (List.replicate n ks).flatten else none
      | none => none
    | _ => none
def fits : List (Option IntKind) → List Value → Bool
  | [], [] => true
  | none :: ks, .bool _ :: r => fits ks r
  | some k :: ks, .int k' _ :: r => k == k' && fits ks r
  | _, _ => false
def eqc : List Value → List Value → Bool
  | .bool a :: r, .bool b :: s => a == b && eqc r s
  | .int _ a :: r, .int _ b :: s => a == b && eqc r s
  | _, _ => true
theorem fits_length : ∀ {ks : List (Option IntKind)} {xs : List Value}, fits ks xs = true → xs.length = ks.length
  | [], [], _ => rfl
  | none :: ks, .bool _ :: r, h => by simp only [fits] at h; simp [fits_length h]
  | some k :: ks, .int k' _ :: r, h => by simp only [fits, Bool.and_eq_true] at h; simp [fits_length h.2]
  | [], _ :: _, h => by simp [fits] at h
  | none :: _, [], h => by simp [fits] at h
  | some _ :: _, [], h => by simp [fits] at h
  | none :: _, .int _ _ :: _, h => by simp [fits] at h
  | none :: _, .float _ _ :: _, h => by simp [fits] at h
  | none :: _, .complex _ _ _ :: _, h => by simp [fits] at h
  | none :: _, .string _ :: _, h => by simp [fits] at h
  | none :: _, .pointer _ :: _, h => by simp [fits] at h
  | none :: _, .slice _ _ _ :: _, h => by simp [fits] at h
  | none :: _, .map _ :: _, h => by simp [fits] at h
  | none :: _, .chan _ :: _, h => by simp [fits] at h
  | none :: _, .func _ _ _ :: _, h => by simp [fits] at h
  | none :: _, .nilFunc :: _, h => by simp [fits] at h
  | none :: _, .iface _ _ :: _, h => by simp [fits] at h
  | none :: _, .nilIface :: _, h => by simp [fits] at h
  | none :: _, .agg _ :: _, h => by simp [fits] at h
  | none :: _, .tuple _ :: _, h => by simp [fits] at h
  | some _ :: _, .bool _ :: _, h => by simp [fits] at h
  | some _ :: _, .float _ _ :: _, h => by simp [fits] at h
  | some _ :: _, .complex _ _ _ :: _, h => by simp [fits] at h
  | some _ :: _, .string _ :: _, h => by simp [fits] at h
  | some _ :: _, .pointer _ :: _, h => by simp [fits] at h
  | some _ :: _, .slice _ _ _ :: _, h => by simp [fits] at h
  | some _ :: _, .map _ :: _, h => by simp [fits] at h
  | some _ :: _, .chan _ :: _, h => by simp [fits] at h
  | some _ :: _, .func _ _ _ :: _, h => by simp [fits] at h
  | some _ :: _, .nilFunc :: _, h => by simp [fits] at h
  | some _ :: _, .iface _ _ :: _, h => by simp [fits] at h
  | some _ :: _, .nilIface :: _, h => by simp [fits] at h
  | some _ :: _, .agg _ :: _, h => by simp [fits] at h
  | some _ :: _, .tuple _ :: _, h => by simp [fits] at h
theorem fits_cut : ∀ {ks : List (Option IntKind)} {js : List (Option IntKind)} {xs : List Value}, fits (ks ++ js) xs = true → ∃ a b, xs = a ++ b ∧ fits ks a = true ∧ fits js b = true
  | [], js, xs, h => ⟨[], xs, rfl, rfl, h⟩
  | none :: ks, js, xs, h => by
    cases xs with
    | nil => simp [fits] at h
    | cons x r =>
      cases x <;> simp only [List.cons_append, fits] at h <;> first | cases h | skip
      obtain ⟨a, b, rfl, h1, h2⟩ := fits_cut h
      exact ⟨_ :: a, b, rfl, by simp only [fits]; exact h1, h2⟩
  | some k :: ks, js, xs, h => by
    cases xs with
    | nil => simp [fits] at h
    | cons x r =>
      cases x <;> simp only [List.cons_append, fits] at h <;> first | cases h; done | skip
      simp only [Bool.and_eq_true] at h
      obtain ⟨a, b, rfl, h1, h2⟩ := fits_cut h.2
      exact ⟨_ :: a, b, rfl, by simp only [fits, h.1, h1, Bool.and_self], h2⟩
theorem eqc_app : ∀ {ks : List (Option IntKind)} {a a' b b' : List Value}, fits ks a = true → fits ks a' = true → eqc (a ++ b) (a' ++ b') = (eqc a a' && eqc b b')
  | [], a, a', b, b', h, h' => by
    obtain rfl : a = [] := List.length_eq_zero_iff.1 (fits_length h)
    obtain rfl : a' = [] := List.length_eq_zero_iff.1 (fits_length h')
    simp [eqc]
  | none :: ks, a, a', b, b', h, h' => by
    cases a with
    | nil => simp [fits] at h
    | cons x r =>
      cases a' with
      | nil => simp [fits] at h'
      | cons y s =>
        cases x <;> simp only [fits] at h <;> first | cases h; done | skip
        cases y <;> simp only [fits] at h' <;> first | cases h'; done | skip
        simp only [List.cons_append, eqc, eqc_app h h', Bool.and_assoc]
  | some k :: ks, a, a', b, b', h, h' => by
    cases a with
    | nil => simp [fits] at h
    | cons x r =>
      cases a' with
      | nil => simp [fits] at h'
      | cons y s =>
        cases x <;> simp only [fits] at h <;> first | cases h; done | skip
        cases y <;> simp only [fits] at h' <;> first | cases h'; done | skip
        simp only [Bool.and_eq_true] at h h'
        simp only [List.cons_append, eqc, eqc_app h.2 h'.2, Bool.and_assoc]
/-- A value with these cells. -/
def valOf (P : Program) (t : TypeId) (xs : List Value) (v : Value) : Prop := (aggB P t = some true ∧ v = .agg xs.toArray) ∨ (aggB P t = some false ∧ xs = [v])
theorem run_part {t : TypeId} {ks : List (Option IntKind)} {pre a post : List Value} (hn : szOf P t = some ks.length) (hf : fits ks a = true) {b : Bool} (hg : aggB P t = some b) (h1 : b = false → ks.length = 1) :
    ∃ v, valOf P t a v ∧ ∀ w, (part t (pre ++ a ++ post).toArray pre.length).run P w = .ok v w := by
  have hl := fits_length hf
  cases b with
  | true =>
    refine ⟨.agg a.toArray, .inl ⟨hg, rfl⟩, fun w => ?_⟩
    simp only [part, Sem.run_bind, run_isAgg' hg, Result.andThen_ok, if_true, run_sizeOf' hn, Sem.run_pure]
    congr 2
    apply Array.ext'
    simp only [Array.toList_extract, List.extract_eq_take_drop, Nat.add_sub_cancel_left]
    rw [List.append_assoc, List.drop_left, ← hl, List.take_left]
  | false =>
    obtain ⟨v, rfl⟩ : ∃ v, a = [v] := List.length_eq_one_iff.1 (hl.trans (h1 rfl))
    refine ⟨v, .inr ⟨hg, rfl⟩, fun w => ?_⟩
    have : (pre ++ [v] ++ post).toArray[pre.length]? = some v := by simp
    simp only [part, Sem.run_bind, run_isAgg' hg, Result.andThen_ok, Bool.false_eq_true, if_false, this, Sem.run_pure]

theorem kindsOf_agg {d : Nat} {t : TypeId} {ks : List (Option IntKind)} (h : kindsOf P d t = some ks) : ∃ b, aggB P t = some b ∧ (b = false → ks.length = 1) := by
  cases d with
  | zero => cases h
  | succ d =>
    simp only [kindsOf] at h
    split at h
    · rename_i hu; exact ⟨false, by simp [aggB, hu], fun _ => by cases h; rfl⟩
    · rename_i hu; exact ⟨false, by simp [aggB, hu], fun _ => by cases h; rfl⟩
    · rename_i hu; exact ⟨true, by simp [aggB, hu], fun h => by cases h⟩
    · rename_i hu; exact ⟨true, by simp [aggB, hu], fun h => by cases h⟩
    · cases h

/-- **Compared as their cells are.** -/
theorem run_equal_plain : ∀ (d : Nat) (t : TypeId) (ks : List (Option IntKind)), kindsOf P d t = some ks → ∀ (xs ys : List Value), fits ks xs = true → fits ks ys = true → ∀ v u, valOf P t xs v → valOf P t ys u → ∀ c w, (Op.equalIn (d + c) t v u).run P w = .ok (eqc xs ys) w
  | 0, t, ks, h => by cases h
  | d + 1, t, ks, h => by
    intro xs ys hx hy v u hv hu c w
    have hd : d + 1 + c = (d + c) + 1 := by omega
    rw [hd]
    simp only [kindsOf] at h
    split at h
    · rename_i hun
      cases h
      have hb : aggB P t = some false := by simp [aggB, hun]
      rcases hv with ⟨h1, _⟩ | ⟨_, rfl⟩
      · rw [hb] at h1; cases h1
      rcases hu with ⟨h1, _⟩ | ⟨_, rfl⟩
      · rw [hb] at h1; cases h1
      cases v <;> simp only [fits] at hx <;> first | cases hx; done | skip
      cases u <;> simp only [fits] at hy <;> first | cases hy; done | skip
      simp only [Op.equalIn, Sem.run_bind, run_underlying' hun, Result.andThen_ok, Sem.run_pure, eqc, Bool.and_true]
    · rename_i k hun
      cases h
      have hb : aggB P t = some false := by simp [aggB, hun]
      rcases hv with ⟨h1, _⟩ | ⟨_, rfl⟩
      · rw [hb] at h1; cases h1
      rcases hu with ⟨h1, _⟩ | ⟨_, rfl⟩
      · rw [hb] at h1; cases h1
      cases v <;> simp only [fits] at hx <;> first | cases hx; done | skip
      cases u <;> simp only [fits] at hy <;> first | cases hy; done | skip
      simp only [Bool.and_eq_true, beq_iff_eq, and_true] at hx hy
      subst hx; subst hy
      simp only [Op.equalIn, Sem.run_bind, run_underlying' hun, Result.andThen_ok, if_true, Sem.run_pure, eqc, Bool.and_true]
    · rename_i fs hun
      split at h
      · cases h
      rename_i hst
      have hst : P.stoodInHeld t = false := by simpa using hst
      have hb : aggB P t = some true := by simp [aggB, hun]
      rcases hv with ⟨_, rfl⟩ | ⟨h1, _⟩
      rotate_left
      · rw [hb] at h1; cases h1
      rcases hu with ⟨_, rfl⟩ | ⟨h1, _⟩
      rotate_left
      · rw [hb] at h1; cases h1
      simp only [Op.equalIn, Sem.run_bind, run_underlying' hun, Result.andThen_ok, run_program, hst, Bool.false_eq_true, if_false]
      have key : ∀ (l : List Field) (o : Nat) (js : List (Option IntKind)), kindsF P (kindsOf P d) l o = some js → ∀ (px py a b : List Value), px.length = o → py.length = o → fits js a = true → fits js b = true →
          (forIn l ((none, ()) : Option Bool × Unit) fun (f : Field) (__s : Option Bool × Unit) =>
            if f.name ≠ "_" then do
              let __do_lift ← part f.type (px ++ a).toArray f.offset
              let __do_lift_1 ← part f.type (py ++ b).toArray f.offset
              let __do_lift ← Op.equalIn (d + c) f.type __do_lift __do_lift_1
              if (!__do_lift) = true then pure (ForInStep.done (some false, ())) else pure (ForInStep.yield (none, ()))
            else pure (ForInStep.yield (none, ())) : Sem (Option Bool × Unit)).run P w = .ok (if eqc a b = true then (none, ()) else (some false, ())) w := by
        intro l
        induction l with
        | nil =>
          intro o js hj px py a b _ _ ha hb2
          simp only [kindsF, Option.some.injEq] at hj
          subst hj
          obtain rfl : a = [] := List.length_eq_zero_iff.1 (by simpa using fits_length ha)
          obtain rfl : b = [] := List.length_eq_zero_iff.1 (by simpa using fits_length hb2)
          simp [eqc]
        | cons f r ih =>
          intro o js hj px py a b hpx hpy ha hb2
          simp only [kindsF] at hj
          split at hj
          rotate_left
          · cases hj
          rename_i hname
          simp only [Bool.and_eq_true, bne_iff_ne, ne_eq, beq_iff_eq] at hname
          split at hj
          rotate_left
          · cases hj
          rename_i k1 hk1
          split at hj
          rotate_left
          · cases hj
          rename_i hsz
          simp only [beq_iff_eq] at hsz
          cases hrest : kindsF P (kindsOf P d) r (o + k1.length) with
          | none => rw [hrest] at hj; cases hj
          | some k2 =>
            rw [hrest] at hj
            simp only [Option.map_some, Option.some.injEq] at hj
            subst hj
            obtain ⟨a1, a2, rfl, ha1, ha2⟩ := fits_cut ha
            obtain ⟨b1, b2, rfl, hb1, hb2⟩ := fits_cut hb2
            obtain ⟨bb, hbb, hbb1⟩ := kindsOf_agg hk1
            obtain ⟨va, hva, hra⟩ := run_part (P := P) (pre := px) (post := a2) hsz ha1 hbb hbb1
            obtain ⟨vb, hvb, hrb⟩ := run_part (P := P) (pre := py) (post := b2) hsz hb1 hbb hbb1
            have he := run_equal_plain d f.type k1 hk1 a1 b1 ha1 hb1 va vb hva hvb c w
            rw [List.forIn_cons]
            have e1 : f.offset = px.length := by rw [hname.2, hpx]
            have e2 : f.offset = py.length := by rw [hname.2, hpy]
            rw [if_pos hname.1]
            have hra' := hra w
            have hrb' := hrb w
            rw [← e1, List.append_assoc] at hra'
            rw [← e2, List.append_assoc] at hrb'
            simp only [Sem.run_bind, hra', hrb', Result.andThen_ok, he]
            rw [eqc_app ha1 hb1]
            cases heq : eqc a1 b1 with
            | false => simp
            | true =>
              simp only [Bool.not_true, Bool.false_eq_true, if_false, Sem.run_pure, Result.andThen_ok, Bool.true_and]
              have := ih (o + k1.length) k2 hrest (px ++ a1) (py ++ b1) a2 b2 (by simp [hpx, fits_length ha1]) (by simp [hpy, fits_length hb1]) ha2 hb2
              simp only [List.append_assoc] at this
              exact this
      have hk := key fs.toList 0 ks h [] [] xs ys rfl rfl hx hy
      simp only [List.nil_append] at hk
      rw [← Array.forIn_toList]
      refine Eq.trans (congrArg (fun r : Result (Option Bool × Unit) => r.andThen _) hk) ?_
      cases eqc xs ys <;> simp
    · rename_i n el hun
      split at h
      rotate_left
      · cases h
      rename_i k1 hk1
      split at h
      rotate_left
      · cases h
      rename_i hsz
      simp only [beq_iff_eq] at hsz
      simp only [Option.some.injEq] at h
      subst h
      have hb : aggB P t = some true := by simp [aggB, hun]
      rcases hv with ⟨_, rfl⟩ | ⟨h1, _⟩
      rotate_left
      · rw [hb] at h1; cases h1
      rcases hu with ⟨_, rfl⟩ | ⟨h1, _⟩
      rotate_left
      · rw [hb] at h1; cases h1
      simp only [Op.equalIn, Sem.run_bind, run_underlying' hun, Result.andThen_ok, run_sizeOf' hsz]
      obtain ⟨bb, hbb, hbb1⟩ := kindsOf_agg hk1
      have key : ∀ (m i : Nat) (px py a b : List Value), px.length = i * k1.length → py.length = i * k1.length → fits (List.replicate m k1).flatten a = true → fits (List.replicate m k1).flatten b = true →
          (forIn (List.range' i m) ((none, ()) : Option Bool × Unit) fun (i : Nat) (__s : Option Bool × Unit) => do
              let __do_lift ← part el (px ++ a).toArray (i * k1.length)
              let __do_lift_1 ← part el (py ++ b).toArray (i * k1.length)
              let __do_lift ← Op.equalIn (d + c) el __do_lift __do_lift_1
              if (!__do_lift) = true then pure (ForInStep.done (some false, ())) else pure (ForInStep.yield (none, ())) : Sem (Option Bool × Unit)).run P w = .ok (if eqc a b = true then (none, ()) else (some false, ())) w := by
        intro m
        induction m with
        | zero =>
          intro i px py a b _ _ ha hb2
          obtain rfl : a = [] := List.length_eq_zero_iff.1 (by simpa using fits_length ha)
          obtain rfl : b = [] := List.length_eq_zero_iff.1 (by simpa using fits_length hb2)
          simp [eqc]
        | succ m ih =>
          intro i px py a b hpx hpy ha hb2
          rw [List.replicate_succ, List.flatten_cons] at ha hb2
          obtain ⟨a1, a2, rfl, ha1, ha2⟩ := fits_cut ha
          obtain ⟨b1, b2, rfl, hb1, hb2⟩ := fits_cut hb2
          obtain ⟨va, hva, hra⟩ := run_part (P := P) (pre := px) (post := a2) hsz ha1 hbb hbb1
          obtain ⟨vb, hvb, hrb⟩ := run_part (P := P) (pre := py) (post := b2) hsz hb1 hbb hbb1
          have he := run_equal_plain d el k1 hk1 a1 b1 ha1 hb1 va vb hva hvb c w
          rw [List.range'_succ, List.forIn_cons]
          have hra' := hra w
          have hrb' := hrb w
          rw [hpx, List.append_assoc] at hra'
          rw [hpy, List.append_assoc] at hrb'
          simp only [Sem.run_bind, hra', hrb', Result.andThen_ok, he]
          rw [eqc_app ha1 hb1]
          cases heq : eqc a1 b1 with
          | false => simp
          | true =>
            simp only [Bool.not_true, Bool.false_eq_true, if_false, Sem.run_pure, Result.andThen_ok, Bool.true_and]
            have := ih (i + 1) (px ++ a1) (py ++ b1) a2 b2 (by simp [hpx, fits_length ha1, Nat.succ_mul]) (by simp [hpy, fits_length hb1, Nat.succ_mul]) ha2 hb2
            simp only [List.append_assoc] at this
            exact this
      have hk := key n 0 [] [] xs ys (by simp) (by simp) hx hy
      simp only [List.nil_append] at hk
      have hr : ∀ (g : Nat → Option Bool × Unit → Sem (ForInStep (Option Bool × Unit))), (forIn [:n] ((none, ()) : Option Bool × Unit) g) = forIn (List.range' 0 n) ((none, ()) : Option Bool × Unit) g := by
        intro g
        rw [Std.Legacy.Range.forIn_eq_forIn_range']
        simp [Std.Legacy.Range.size]
      rw [hr]
      refine Eq.trans (congrArg (fun r : Result (Option Bool × Unit) => r.andThen _) hk) ?_
      cases eqc xs ys <;> simp
    · cases h
theorem fits_simple : ∀ {ks : List (Option IntKind)} {xs : List Value}, fits ks xs = true → xs.all simple = true
  | [], xs, h => by
    obtain rfl : xs = [] := List.length_eq_zero_iff.1 (fits_length h)
    rfl
  | none :: ks, xs, h => by
    cases xs with
    | nil => simp [fits] at h
    | cons x r =>
      cases x <;> simp only [fits] at h <;> first | cases h; done | skip
      simp [simple, simple0, fits_simple h]
  | some k :: ks, xs, h => by
    cases xs with
    | nil => simp [fits] at h
    | cons x r =>
      cases x <;> simp only [fits] at h <;> first | cases h; done | skip
      simp only [Bool.and_eq_true] at h
      simp [simple, simple0, fits_simple h.2]
/-- The machine's own word on two aggregates. -/
theorem agg_equal {t : TypeId} {ks : List (Option IntKind)} (hk : kindsOf P 8 t = some ks) (hg : P.eqGuardType P.depth t = false) {xs ys : List Value} (hx : fits ks xs = true) (hy : fits ks ys = true) (ha : aggB P t = some true) :
    ∃ r, (∀ w, (eqGuard .eql t (.tmp 0) (.tmp 0) (.agg xs.toArray) (.agg ys.toArray)).run P w = .ok () w ∧ (Op.equal t (.agg xs.toArray) (.agg ys.toArray)).run P w = .ok r w) ∧ flat (.agg xs.toArray) = true ∧ flat (.agg ys.toArray) = true ∧ r = eqc xs ys := by
  refine ⟨_, fun w => ⟨by simp [eqGuard, hg], run_equal_plain 8 t ks hk xs ys hx hy _ _ (.inl ⟨ha, rfl⟩) (.inl ⟨ha, rfl⟩) 9992 w⟩, ?_, ?_, rfl⟩
  · simpa [flat] using fits_simple hx
  · simpa [flat] using fits_simple hy
end
end Go.Snb
