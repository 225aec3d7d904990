/- The quiet operations' one function, and what it is worth. -/
import Derived.Test.YtlojmciaoecfjaaSnbD
set_option linter.all false
namespace Go.Snb
open Go
section
variable {P : Program}

def evFold2 (f : Int → Int → Int) : Value → List Value → (Value → Prop) → Prop
  | v, [], K => K v
  | .int k x, .int k' y :: r, K => k = k' ∧ evFold2 f (.int k (f x y)) r K
  | _, _, _ => False

def evBuiltin (P : Program) (b : Builtin) (ts : List TypeId) (args : List Value) (K : Value → Prop) : Prop :=
  match b, args with
  | .len, [.slice _ n _] => ∃ t el, ts.head? = some t ∧ P.underlying t = some (.slice el) ∧ K (.int .i64 n)
  | .len, [.string s] => ∃ t, ts.head? = some t ∧ P.underlying t = some .string ∧ K (.int .i64 s.size)
  | .min, v :: r => evFold2 (fun x y => if y < x then y else x) v r K
  | .max, v :: r => evFold2 (fun x y => if y > x then y else x) v r K
  | _, _ => False

/-- A quiet operation: the value that it yields. -/
def evQ (P : Program) (op : Op) (M : Mem) (F : Fr) (H : Hp) (K : Value → Prop) : Prop :=
  match op with
  | .move x => with1 F x K
  | .assign x => with1 F x K
  | .pick c a b => with1 F c fun v => match v with | .bool t => BSel t (with1 F a K) (with1 F b K) | _ => False
  | .load T x => with1 F x fun v => evLoad P T v M H K
  | .nilCheck x => with1 F x fun v => match v with | .pointer (some a) => K (.pointer (some a)) | .func (.func f) y z => K (.func (.func f) y z) | _ => False
  | .binOp op t x y _ => with1 F x fun a => with1 F y fun b => evBin P op t a b M H K
  | .unOp op _ x => with1 F x fun a => evUn op a K
  | .convert s d x => with1 F x fun a => evConv P s d a M H K
  | .makeInterface t x => with1 F x fun v => (∃ b, P.underlying t = some b ∧ (match b with | .interface _ => False | _ => True)) ∧ K (.iface t v)
  | .makeFunc (.func f) first cap => withL F first.toList fun l => withL F cap.toList fun m => K (.func (.func f) l.toArray m.toArray)
  | .fieldAddr s x f => with1 F x fun v => match v with
    | .pointer (some a) => ∃ o t n, fieldOf P s f = some (o, t, n) ∧ n ≠ 0 ∧ goodA a ∧ K (.pointer (some (aadd a o)))
    | _ => False
  | .field s x f => with1 F x fun v => match v with
    | .agg cs => ∃ o t n, fieldOf P s f = some (o, t, n) ∧ evPart P t n cs.toList o K
    | _ => False
  | .indexAddr t x i => with1 F x fun v => with1 F i fun iv => match iv with
    | .int _ j => match v with
      | .slice (some a) n _ => ∃ el sz, P.underlying t = some (.slice el) ∧ szOf P el = some sz ∧ goodA a ∧ (∃ cs, rowOf M H a = some cs ∧ cs ≠ []) ∧ (0 ≤ j ∧ j < n) ∧ K (.pointer (some (aadd a (j.toNat * sz))))
      | .pointer (some a) => ∃ n el sz, P.underlying t = some (.array n el) ∧ szOf P el = some sz ∧ goodA a ∧ (0 ≤ j ∧ j < n) ∧ K (.pointer (some (aadd a (j.toNat * sz))))
      | _ => False
    | _ => False
  | .index t x i => with1 F x fun v => with1 F i fun iv => match iv with
    | .int _ j => match v with
      | .agg cs => ∃ n el sz, P.underlying t = some (.array n el) ∧ szOf P el = some sz ∧ (0 ≤ j ∧ j < n) ∧ evPart P el sz cs.toList (j.toNat * sz) K
      | .string s => P.underlying t = some .string ∧ 0 ≤ j ∧ ∃ b, s[j.toNat]? = some b ∧ K (.int .u8 b.toNat)
      | _ => False
    | _ => False
  | .slice t x lo hi mx => with1 F x fun v => match v with
    | .slice a n c => ∃ el sz, P.underlying t = some (.slice el) ∧ szOf P el = some sz ∧ evBound F mx c fun m => evBound F hi n fun h => evBound F lo 0 fun l => (mx.isSome = true → hi.isSome = true) ∧ evSliceOf a sz c l h m mx.isSome K
    | .pointer (some a) => ∃ len el sz, P.underlying t = some (.array len el) ∧ szOf P el = some sz ∧ mx = none ∧ (∃ cs, rowOf M H a = some cs ∧ cs ≠ []) ∧ evBound F hi len fun h => evBound F lo 0 fun l => evSliceOf (some a) sz len l h len true K
    | _ => False
  | .extract x i => with1 F x fun v => match v with
    | .tuple vs => ∃ u, vs.toList[i]? = some u ∧ K u
    | _ => False
  | .build t parts => ∃ z, zeroOf P t = some z ∧ flat z = true ∧ ∃ d, P.underlying t = some d ∧
      match d with
      | .struct _ => ∃ ps, placesOf P t = some ps ∧ evParts (ps[·]?) F parts.toList (cellsL z).length fun l => K (.agg (fillL (cellsL z) l).toArray)
      | .array _ el => ∃ sz, szOf P el = some sz ∧ evParts (fun i => some (i * sz, sz)) F parts.toList (cellsL z).length fun l => K (.agg (fillL (cellsL z) l).toArray)
      | _ => False
  | .typeAssert x _ asserted ok => with1 F x fun v => (∃ b, P.underlying asserted = some b ∧ (match b with | .interface _ => False | _ => True)) ∧
      match v with
      | .iface t u => if t = asserted then K (if ok then .tuple #[u, .bool true] else u) else ok = true ∧ ∃ z, zeroOf P asserted = some z ∧ flat z = true ∧ K (.tuple #[z, .bool false])
      | .nilIface => ok = true ∧ ∃ z, zeroOf P asserted = some z ∧ flat z = true ∧ K (.tuple #[z, .bool false])
      | _ => False
  | .call c => match c.callee with
    | .builtin b => withL F c.args.toList fun l => evBuiltin P b c.argTypes.toList l K
    | _ => False
  | _ => False

theorem withL_run {F : Fr} : ∀ (xs : List Operand) (k : List Value → Prop), withL F xs k →
    ∃ l, (∀ (e : Env) N a, FrOk e N F a → xs.map a.eval = l.map (cv e)) ∧ (∀ n m, ScF n m F → ∀ v ∈ l, Sc n m v) ∧ k l
  | [], k, h => ⟨[], by simp, by simp, h⟩
  | x :: r, k, h => by
    obtain ⟨v, hv, h⟩ := h
    obtain ⟨l, h1, h2, h3⟩ := withL_run r _ h
    refine ⟨v :: l, fun e N a hf => by simp [opd_eval hf hv, h1 e N a hf], fun n m hn u hu => ?_, h3⟩
    rcases List.mem_cons.1 hu with rfl | hu
    · exact opd_sc hn hv
    · exact h2 n m hn u hu

/-- What a quiet operation is worth. -/
def Yields1 (P : Program) (X : Fx) (e : Env) (op : Op) (M : Mem) (F : Fr) (H : Hp) (u : Value) : Prop :=
  (∀ (o : Oper) N a w, o.op = op → FrOk e N F a → Emb M X e H w → (execOp a.eval o).run P w = .ok (.value (cv e u)) w) ∧
  (ScH M H → ScF H.length M.next F → Sc H.length M.next u)

theorem evBound_run {F : Fr} {x : Option Operand} {d : Nat} {k : Int → Prop} (h : evBound F x d k) :
    ∃ i : Int, (∀ (e : Env) N a, FrOk e N F a → match x with | none => i = d | some x => ∃ kk, a.eval x = .int kk i) ∧ k i := by
  unfold evBound at h
  cases x with
  | none => exact ⟨d, fun _ _ _ _ => rfl, h⟩
  | some x =>
    obtain ⟨v, hv, h⟩ := h
    cases v <;> try exact h.elim
    rename_i kk i
    exact ⟨i, fun e N a hf => ⟨kk, by rw [opd_eval hf hv]; simp⟩, h⟩

theorem run_sliceBound {k : IntKind} {i : Int} {y : Nat} {c : BoundsCode} (w : World) (h0 : 0 ≤ i) (h1 : i ≤ y) : (Instr.sliceBound (.int k i) y c).run P w = .ok i.toNat w := by
  simp [Instr.sliceBound, asIntOf, h0, h1]

theorem run_sliceBounds {isS : Bool} {n c : Nat} {lo hi mx : Option Value} {l h m : Int} (w : World) (hl : 0 ≤ l) (hlh : l ≤ h) (hhm : h ≤ m) (hmc : m ≤ c)
    (hlo : match (lo : Option Value) with | none => l = 0 | some v => ∃ k, v = .int k l) (hhi : match (hi : Option Value) with | none => h = n | some v => ∃ k, v = .int k h)
    (hmx : match (mx : Option Value) with | none => m = c | some v => ∃ k, v = .int k m) (hmh : mx.isSome = true → hi.isSome = true) :
    (Instr.sliceBounds isS n c lo hi mx).run P w = .ok (l.toNat, h.toNat, m.toNat) w := by
  unfold Instr.sliceBounds
  cases mx with
  | none =>
    simp only at hmx
    subst hmx
    cases hi with
    | none =>
      simp only at hhi
      subst hhi
      cases lo with
      | none => simp only at hlo; subst hlo; simp
      | some v => obtain ⟨k, rfl⟩ := hlo; simp [run_sliceBound w hl hlh]
    | some v =>
      obtain ⟨k, rfl⟩ := hhi
      have hh0 : 0 ≤ h := by omega
      cases lo with
      | none => simp only at hlo; subst hlo; simp [run_sliceBound w hh0 hhm]
      | some v =>
        obtain ⟨k', rfl⟩ := hlo
        have e1 : l ≤ (h.toNat : Int) := by omega
        simp [run_sliceBound w hh0 hhm, run_sliceBound w hl e1]
  | some v =>
    obtain ⟨k, rfl⟩ := hmx
    have hm0 : 0 ≤ m := by omega
    cases hi with
    | none => simp at hmh
    | some v =>
      obtain ⟨k', rfl⟩ := hhi
      have hh0 : 0 ≤ h := by omega
      have e2 : h ≤ (m.toNat : Int) := by omega
      cases lo with
      | none => simp only at hlo; subst hlo; simp [run_sliceBound w hm0 hmc, run_sliceBound w hh0 e2]
      | some v =>
        obtain ⟨k'', rfl⟩ := hlo
        have e1 : l ≤ (h.toNat : Int) := by omega
        simp [run_sliceBound w hm0 hmc, run_sliceBound w hh0 e2, run_sliceBound w hl e1]

def realB (e : Env) : Option Addr → Option Addr
  | none => none
  | some a => if (locOf e a).nil = true then none else some (adr e a)
def realC (e : Env) (c : Nat) : Option Addr → Nat
  | none => c
  | some a => c + moreOf e a
theorem cv_sl (e : Env) (a : Option Addr) (n c : Nat) : cv e (.slice a n c) = .slice (realB e a) n (realC e c a) := by cases a <;> simp [realB, realC, slV]
theorem clip_loc (e : Env) {a : Addr} (h : goodA a) (o : Nat) (b : Bool) : locOf e ⟨a.block, o, if b = true then clipS a.spot else a.spot⟩ = locOf e a := by
  obtain ⟨bk, o, s⟩ := a
  rcases goodA_cases h with h | h | h | h <;> (simp only at h; subst h; cases b <;> simp [locOf, clipS])
theorem clip_adr (e : Env) {a : Addr} (h : goodA a) (k : Nat) (b : Bool) : adr e ⟨a.block, a.off + k, if b = true then clipS a.spot else a.spot⟩ = (adr e a).add k := by
  obtain ⟨bk, o, s⟩ := a
  rcases goodA_cases h with h | h | h | h <;> (simp only at h; subst h; cases b <;> simp [adr, clipS, add_adr, Nat.add_assoc])
theorem clip_more (e : Env) {a : Addr} (h : goodA a) (o : Nat) : moreOf e ⟨a.block, o, clipS a.spot⟩ = 0 := by
  obtain ⟨bk, o, s⟩ := a
  rcases goodA_cases h with h | h | h | h <;> (simp only at h; subst h; simp [moreOf, clipS])
theorem more_off (e : Env) (a : Addr) (o : Nat) : moreOf e ⟨a.block, o, a.spot⟩ = moreOf e a := by
  obtain ⟨bk, o, s⟩ := a
  match s with
  | none => rfl
  | some 0 => rfl
  | some (s + 1) => rfl

theorem evSliceOf_run {a : Option Addr} {sz c : Nat} {l h m : Int} {clip : Bool} {K : Value → Prop} (hh : evSliceOf a sz c l h m clip K) (e : Env) {rm : Int} (hrm : rm = if clip = true then m else (realC e c a : Nat)) :
    ∃ u, (Value.slice (if rm.toNat = l.toNat then realB e a else (realB e a).map (·.add (l.toNat * sz))) (h.toNat - l.toNat) (rm.toNat - l.toNat)) = cv e u ∧
      (∀ n k, (∀ b, a = some b → inS n k b) → Sc n k u) ∧ K u := by
  obtain ⟨h0, h1, h2, h3, hc, h4⟩ := hh
  cases a with
  | none =>
    have hm : rm = m := by
      cases clip with
      | true => simpa using hrm
      | false => have := hc rfl; simp [realC] at hrm; omega
    subst hm
    refine ⟨_, ?_, fun n k _ => Sc.flat rfl n k, h4⟩
    simp [realB]
    omega
  | some a =>
    obtain ⟨hg, hz, hnz⟩ := h4
    have hS : ∀ o (b : Bool), ∀ n k, (∀ b, some a = some b → inS n k b) → inS n k ⟨a.block, o, if b = true then clipS a.spot else a.spot⟩ := fun o b n k hb => (hb a rfl).to o b
    have hle : (m : Int) ≤ rm := by
      cases clip with
      | true => simp at hrm; omega
      | false => have := hc rfl; simp [realC] at hrm; omega
    have hmore : ∀ o, (rm : Int) = m + moreOf e ⟨a.block, o, if clip = true then clipS a.spot else a.spot⟩ := by
      intro o
      cases clip with
      | true => simp only [if_true] at hrm ⊢; rw [clip_more e hg]; omega
      | false => have := hc rfl; simp only [Bool.false_eq_true, if_false] at hrm ⊢; rw [more_off]; simp only [realC] at hrm; omega
    by_cases hl : l = 0
    · subst hl
      refine ⟨_, ?_, fun n k hb => Sc_slice.2 (hS a.off clip n k hb), hz rfl⟩
      have hm0 := hmore a.off
      have ha := clip_adr e hg 0 clip
      rw [add_zero', Nat.add_zero] at ha
      have hB : (if rm.toNat = (0 : Int).toNat then realB e (some a) else (realB e (some a)).map (·.add ((0 : Int).toNat * sz))) = realB e (some a) := by
        split
        · rfl
        · cases realB e (some a) <;> simp [add_zero']
      rw [hB]
      simp only [cv_slice, slV, clip_loc e hg, ha, realB]
      congr 1
      omega
    · have hnz := hnz hl
      by_cases hlm : l < m
      · refine ⟨_, ?_, fun n k hb => Sc_slice.2 (hS _ clip n k hb), hnz.1 hlm⟩
        have hm0 := hmore (a.off + l.toNat * sz)
        rw [if_neg (by omega)]
        simp only [cv_slice, slV, clip_loc e hg, clip_adr e hg, realB]
        congr 1
        · cases (locOf e a).nil <;> simp
        · omega
        · omega
      · have hml : m = l := by omega
        obtain ⟨k1, k2⟩ := hnz.2 hml
        by_cases hr : rm.toNat = l.toNat
        · refine ⟨_, ?_, fun n k hb => Sc_slice.2 (by have := hS a.off true n k hb; simpa using this), k2⟩
          have ha := clip_adr e hg 0 true
          have hb := clip_loc e hg a.off true
          rw [add_zero', Nat.add_zero] at ha
          simp only [if_true] at ha hb
          rw [if_pos hr]
          simp only [cv_slice, slV, hb, ha, realB, clip_more e hg]
          congr 1 <;> omega
        · have hcl : clip = false := by
            cases clip with
            | false => rfl
            | true => simp at hrm; omega
          subst hcl
          have hmo := hmore (a.off + l.toNat * sz)
          simp only [Bool.false_eq_true, if_false] at hmo
          have hop : openS a.spot = true := by
            rw [more_off, moreOf_eq] at hmo
            cases ho : openS a.spot with
            | true => rfl
            | false => rw [ho] at hmo; simp at hmo; omega
          refine ⟨_, ?_, fun n k hb => Sc_slice.2 (by have := hS (a.off + l.toNat * sz) false n k hb; simpa using this), k1 rfl hop⟩
          have ha := clip_adr e hg (l.toNat * sz) false
          have hb := clip_loc e hg (a.off + l.toNat * sz) false
          simp only [Bool.false_eq_true, if_false] at ha hb
          rw [if_neg hr]
          simp only [cv_slice, slV, hb, ha, realB]
          congr 1
          · cases (locOf e a).nil <;> simp
          · omega
          · omega

theorem evFold2_run {f : Int → Int → Int} {g : Value → Value → Sem Value} (hg : ∀ k x y, g (.int k x) (.int k y) = pure (.int k (f x y))) : ∀ (r : List Value) (v : Value) (K : Value → Prop), evFold2 f v r K →
    ∃ u, (∀ (e : Env) w, ((r.map (cv e)).foldlM g (cv e v)).run P w = .ok (cv e u) w) ∧ (∀ n m, Sc n m v → Sc n m u) ∧ K u
  | [], v, K, h => ⟨v, fun e w => by simp, fun _ _ h => h, h⟩
  | y :: r, v, K, h => by
    cases v <;> try (cases y <;> exact h.elim)
    rename_i k x
    cases y <;> try exact h.elim
    rename_i k' y
    obtain ⟨rfl, h⟩ := h
    obtain ⟨u, h1, h2, h3⟩ := evFold2_run hg r _ _ h
    refine ⟨u, fun e w => ?_, fun n m _ => h2 n m (Sc.flat (by rfl) n m), h3⟩
    simp only [List.map_cons, List.foldlM_cons, cv_int, hg, Sem.run_bind, Sem.run_pure, Result.andThen_ok]
    have := h1 e w
    rwa [cv_int] at this

theorem evBuiltin_run {b : Builtin} {ts : List TypeId} {args : List Value} {K : Value → Prop} (h : evBuiltin P b ts args K) :
    ∃ u, (∀ (e : Env) ty cs w, (builtin b ts.toArray ty cs (args.map (cv e)).toArray).run P w = .ok (.value (cv e u)) w) ∧ (∀ n m, (∀ v ∈ args, Sc n m v) → Sc n m u) ∧ K u := by
  unfold evBuiltin at h
  split at h
  · rename_i a n c
    obtain ⟨t, el, ht, hu, hk⟩ := h
    refine ⟨_, fun e ty cs w => ?_, fun n m _ => Sc.flat (by rfl) n m, hk⟩
    cases ts with
    | nil => simp at ht
    | cons t' r =>
      simp at ht; subst ht
      cases a <;> simp [builtin, Builtin.len_, run_underlying' hu, goInt, slV]
  · rename_i s
    obtain ⟨t, ht, hu, hk⟩ := h
    refine ⟨_, fun e ty cs w => ?_, fun n m _ => Sc.flat (by rfl) n m, hk⟩
    cases ts with
    | nil => simp at ht
    | cons t' r =>
      simp at ht; subst ht
      simp [builtin, Builtin.len_, run_underlying' hu, goInt]
  · rename_i v r
    obtain ⟨u, h1, h2, h3⟩ := evFold2_run (P := P) (g := Builtin.min2) (fun k x y => by simp [Builtin.min2]) r v K h
    refine ⟨u, fun e ty cs w => ?_, fun n m hn => h2 n m (hn v (by simp)), h3⟩
    simp only [builtin, Builtin.min_, Sem.run_bind, List.map_cons, h1 e w, Result.andThen_ok, Sem.run_pure]
  · rename_i v r
    obtain ⟨u, h1, h2, h3⟩ := evFold2_run (P := P) (g := Builtin.max2) (fun k x y => by simp [Builtin.max2]) r v K h
    refine ⟨u, fun e ty cs w => ?_, fun n m hn => h2 n m (hn v (by simp)), h3⟩
    simp only [builtin, Builtin.max_, Sem.run_bind, List.map_cons, h1 e w, Result.andThen_ok, Sem.run_pure]
  · exact h.elim
end
end Go.Snb
