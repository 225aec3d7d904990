/- The walk of a code as one function; calls; loops; regions that draw their order. -/
import Derived.Test.YtlojmciaoecfjaaSnbH
import Derived.LoopN
set_option linter.all false
namespace Go.Snb
open Go
section
variable {P : Program}

/-! ### Regions that draw, whose operations are quiet -/
def evOpQ (P : Program) (op : Op) (M : Mem) (F : Fr) (H : Hp) (K : Value → Prop) : Prop :=
  match op with
  | .call ⟨.value f, args, _⟩ => with1 F f fun vf => match vf with
    | .func (.func g) first cap => withL F args.toList fun l => (∀ args w, (callFunc g args).run P w = .ok (.enter g args) w) ∧
        ∃ u, acalls P g (first.toList ++ l ++ cap.toList) M H [] (fun _ v H' => v = u ∧ ∃ J, H' = H ++ J) ∧ flat u = true ∧ K u
    | _ => False
  | op => evQ P op M F H K

def evOpsQ (P : Program) (N : Nat) (ops : Array Oper) : List Oper → Mem → Fr → Hp → (Fr → Prop) → Prop
  | [], _, F, _, K => K F
  | o :: r, M, F, H, K =>
    dstOk N o.dst = true ∧
    match o.guard with
    | none => evOpQ P o.op M F H fun v => evOpsQ P N ops r M (fput F o.dst v) H K
    | some (j, want) =>
      match (ops[j]?).bind (·.dst) with
      | none => False
      | some d => ∃ g, fget F d = some g ∧
        match g with
        | .bool t => BSel t
            (if want = true then evOpQ P o.op M ((d, .bool true) :: F) H fun v => evOpsQ P N ops r M (fput ((d, .bool true) :: F) o.dst v) H K else evOpsQ P N ops r M (fput ((d, .bool true) :: F) o.dst undef) H K)
            (if want = true then evOpsQ P N ops r M (fput ((d, .bool false) :: F) o.dst undef) H K else evOpQ P o.op M ((d, .bool false) :: F) H fun v => evOpsQ P N ops r M (fput ((d, .bool false) :: F) o.dst v) H K)
        | .tuple ⟨[]⟩ => evOpsQ P N ops r M (fput F o.dst undef) H K
        | _ => False

theorem Emb.restrict {M M' : Mem} {X : Fx} {e e' : Env} {H J : Hp} {w : World} (h : Emb M' X e' (H ++ J) w) (hm : M.le M') (he : Agr H.length [] M.next e e') (hs : ScH M H) (hr : ∀ i cs, M.ro i = some cs → i < M.next) (hb : M.base ≤ M.next) : Emb M X e H w := by
  have look : ∀ (i : Nat) k, H[i]? = some (some k) → (H ++ J)[i]? = some (some k) ∧ i < H.length := fun i k hi => by
    have := lt_of_some hi
    exact ⟨by rw [List.getElem?_append_left this]; exact hi, this⟩
  have hw0 := hm.w0
  have ho : ∀ i, i < H.length → e.o i = e'.o i := fun i hi => he.o i hi (by simp)
  refine ⟨by rw [h.os, hw0], by rw [h.tape, hw0], by rw [h.output, hw0], by have := h.size; rw [hw0] at this; exact this, h.fx, ?_, fun i cs hi => ⟨hr i cs hi, hs.2 i cs hi⟩, fun i cs hi => by rw [he.f i (hr i cs hi)]; have := h.apartF i cs (hm.ro i cs hi); rwa [hm.base] at this, hb, ?_, ?_, ?_, ?_, hs.1⟩
  · intro i cs hi
    rw [he.f i (hr i cs hi)]
    exact (h.ro i cs (hm.ro i cs hi)).env (hs.2 i cs hi) (he.symm.mono (Nat.zero_le _) (Nat.le_refl _))
  · intro i k hi
    obtain ⟨h1, h2⟩ := look i k hi
    rw [ho i h2]
    exact (h.own i k h1).env (hs.1 i k hi) he.symm
  · intro i k hi
    obtain ⟨h1, h2⟩ := look i k hi
    rw [ho i h2]; exact h.apartX i k h1
  · intro i k hi
    obtain ⟨h1, h2⟩ := look i k hi
    rw [ho i h2]
    intro hn j cs hj
    rw [he.f j (hr j cs hj)]
    exact h.apartR i k h1 hn j cs (hm.ro j cs hj)
  · intro i j ki kj hi hj
    obtain ⟨h1, h2⟩ := look i ki hi
    obtain ⟨h3, h4⟩ := look j kj hj
    rw [ho i h2, ho j h4]
    exact h.inj i j ki kj h1 h3

theorem evOpQ_run {o : Oper} {M : Mem} {F : Fr} {H : Hp} {K : Value → Prop} (h : evOpQ P o.op M F H K) (hH : ScH M H) (hF : ScF H.length M.next F) (X : Fx) (e : Env) :
    ∃ u, (∀ N a, FrOk e N F a → ∀ w, Emb M X e H w → o.quietAt P a (fun w' => Emb M X e H w') w (cv e u)) ∧ Sc H.length M.next u ∧ K u := by
  have hq : ∀ op, o.op = op → evQ P op M F H K → ∃ u, (∀ N a, FrOk e N F a → ∀ w, Emb M X e H w → o.quietAt P a (fun w' => Emb M X e H w') w (cv e u)) ∧ Sc H.length M.next u ∧ K u := by
    intro op ho h
    obtain ⟨u, ⟨h1, h2⟩, h3⟩ := evQ_run (X := X) (e := e) h
    refine ⟨u, fun N a hf w he => ?_, h2 hH hF, h3⟩
    unfold Oper.quietAt
    rw [h1 o N a w ho hf he]
    exact ⟨rfl, rfl⟩
  unfold evOpQ at h
  split at h
  · rename_i f args ts ho
    obtain ⟨vf, hvf, h⟩ := h
    split at h
    · rename_i g first cap
      obtain ⟨l, h1, h2, hb, u, hc, hfl, hk⟩ := withL_run _ _ h
      refine ⟨u, fun N a hf w he => ?_, Sc.flat hfl _ _, hk⟩
      have hsf := Sc_func.1 (opd_sc hF hvf)
      have hcall := hc.out X e w he (by
        intro v hv
        simp only [List.mem_append] at hv
        rcases hv with (hv | hv) | hv
        · exact hsf.1 v hv
        · exact h2 _ _ hF v hv
        · exact hsf.2 v hv)
      have e1 : args.map a.eval = (l.map (cv e)).toArray := by apply Array.ext'; rw [Array.toList_map]; exact h1 e N a hf
      have hrun : (execOp a.eval o).run P w = .ok (.enter g ((first.toList ++ l ++ cap.toList).map (cv e)).toArray) w := by
        simp only [execOp, ho, resolve, e1, opd_eval hf hvf, cv_func, Deferred.ofValue, Sem.run_bind, Sem.run_pure, Result.andThen_ok, invoke, hb]
        congr 2
        apply Array.ext'
        simp
      unfold Oper.quietAt
      rw [hrun]
      refine ⟨rfl, hcall.mono ?_⟩
      rintro x w' ⟨M', e', v, H', g1, g2, g3, g4, g5, g6, rfl, J, rfl⟩
      exact ⟨by rw [g4, flat_cv e' hfl, flat_cv e hfl], g5.restrict g1 g2 hH (fun i cs hi => (he.rosc i cs hi).1) he.bn⟩
    · exact h.elim
  · exact hq _ rfl h

theorem evOpsQ_run {N : Nat} {ops : Array Oper} {M : Mem} {H : Hp} {X : Fx} {e : Env} {K : Fr → Prop} {Q : Act → Prop} (hH : ScH M H) : ∀ (l : List Oper) (F : Fr) (a : Act),
    FrOk e N F a → ScF H.length M.next F → evOpsQ P N ops l M F H K → (∀ F' a', FrOk e N F' a' → ScF H.length M.next F' → K F' → Q a') → wpQuiet P ops (fun w => Emb M X e H w) Q l a
  | [], F, a, hf, hs, h, hq => hq F a hf hs h
  | o :: r, F, a, hf, hs, h, hq => by
    obtain ⟨hd, h⟩ := h
    have hskip : ∀ F1, FrOk e N F1 a → ScF H.length M.next F1 → evOpsQ P N ops r M (fput F1 o.dst undef) H K → wpQuiet P ops (fun w => Emb M X e H w) Q r (a.put o.dst undef) := by
      intro F1 hf1 hs1 h1
      have hf2 := hf1.put hd undef
      rw [cv_undef] at hf2
      exact evOpsQ_run hH r _ _ hf2 (hs1.put o.dst (v := undef) (Sc.flat (by rfl) _ _)) h1 hq
    have hgo : ∀ F1, FrOk e N F1 a → ScF H.length M.next F1 → (evOpQ P o.op M F1 H fun v => evOpsQ P N ops r M (fput F1 o.dst v) H K) → o.quiet P a (fun w => Emb M X e H w) (wpQuiet P ops (fun w => Emb M X e H w) Q r) := by
      intro F1 hf1 hs1 h1
      obtain ⟨u, h2, h3, h4⟩ := evOpQ_run h1 hH hs1 X e
      exact ⟨cv e u, fun w hw => h2 N a hf1 w hw, evOpsQ_run hH r _ _ (hf1.put hd u) (hs1.put o.dst h3) h4 hq⟩
    have hw : ∀ (b : Bool), Region.wanted o (yielded ops a.tmps) = b → (b = true → o.quiet P a (fun w => Emb M X e H w) (wpQuiet P ops (fun w => Emb M X e H w) Q r)) → (b = false → wpQuiet P ops (fun w => Emb M X e H w) Q r (a.put o.dst undef)) →
        wpQuiet P ops (fun w => Emb M X e H w) Q (o :: r) a := by
      intro b hb h1 h2
      unfold wpQuiet
      cases b with
      | true => rw [if_pos hb]; exact h1 rfl
      | false => rw [if_neg (by rw [hb]; simp)]; exact h2 rfl
    have sub : ∀ {d : Nat} {v : Value}, fget F d = some v → FrOk e N ((d, v) :: F) a ∧ ScF H.length M.next ((d, v) :: F) := by
      intro d v hv
      refine ⟨⟨hf.defers, hf.size, fun t u hu => ?_⟩, fun t u hu => ?_⟩ <;> simp only [fget] at hu <;> split at hu
      · rename_i hd; subst hd; cases hu; exact hf.get _ _ hv
      · exact hf.get t u hu
      · rename_i hd; subst hd; cases hu; exact hs _ _ hv
      · exact hs t u hu
    split at h
    · rename_i hg
      exact hw true (by simp [Region.wanted, hg]) (fun _ => hgo F hf hs h) (by simp)
    · rename_i j want hg
      split at h
      · exact h.elim
      · rename_i d hjd
        obtain ⟨g, hgv, h⟩ := h
        have hev := hf.get d g hgv
        split at h
        · rename_i t
          have hdlt : a.tmps[d]? = some (.bool t) := by
            simp only [cv_bool, Array.getD_eq_getD_getElem?] at hev
            cases hx : a.tmps[d]? with
            | none => simp [hx, undef] at hev
            | some y => simp [hx] at hev; rw [hev]
          have hy : yielded ops a.tmps j = some t := by
            unfold yielded
            simp only [hjd, Option.bind_some, hdlt]
          obtain ⟨sf, ss⟩ := sub hgv
          cases t with
          | true =>
            replace h := (BSel_true _ _).1 h
            cases want with
            | true => exact hw true (by simp [Region.wanted, hg, hy]) (fun _ => hgo _ sf ss (by simpa using h)) (by simp)
            | false => exact hw false (by simp [Region.wanted, hg, hy]) (by simp) (fun _ => hskip _ sf ss (by simpa using h))
          | false =>
            replace h := (BSel_false _ _).1 h
            cases want with
            | true => exact hw false (by simp [Region.wanted, hg, hy]) (by simp) (fun _ => hskip _ sf ss (by simpa using h))
            | false => exact hw true (by simp [Region.wanted, hg, hy]) (fun _ => hgo _ sf ss (by simpa using h)) (by simp)
        · have hy : yielded ops a.tmps j = none := by
            unfold yielded
            simp only [hjd, Option.bind_some]
            have hev' : a.tmps.getD d undef = undef := by rw [hev]; simp [undef]
            simp only [Array.getD_eq_getD_getElem?] at hev'
            cases hx : a.tmps[d]? with
            | none => rfl
            | some y => simp [hx] at hev'; subst hev'; rfl
          exact hw false (by simp [Region.wanted, hg, hy]) (by simp) (fun _ => hskip F hf hs h)
        · exact h.elim

theorem awp_region_quiet {N n id : Nat} {I : List Nat} {ops : Array Oper} {M : Mem} {F : Fr} {H : Hp} {Q : Exit → Mem → Fr → Hp → Prop} (L : List Nat) (hm : P.follows .mixedOrders = true) (hB : Region.lexB .any ops = true)
    (h : evOpsQ P N ops ops.toList M F H fun F' => Q .normal M (keep L F') H) : awp P N n I (.region id ops true) M F H Q := by
  refine ⟨fun X e a w hr hn => ?_⟩
  refine wp_region_quiet (C := fun w' => Emb M X e H w') hm hB (hr.emb.drawn _) ?_
  exact evOpsQ_run hr.emb.scH ops.toList F a hr.fr hr.sc h fun F' a' hf hs hk w' hw => ⟨M, e, keep L F', H, .refl M, .refl _ _ _ _, hn, ⟨hw, hf.keep L, hs.keep L⟩, hk⟩

/-! ### Calls -/
def enum : Nat → List Value → Fr
  | _, [] => []
  | i, v :: r => (i, v) :: enum (i + 1) r
theorem fget_enum : ∀ (l : List Value) (i t : Nat) (v : Value), fget (enum i l) t = some v → i ≤ t ∧ l[t - i]? = some v
  | [], _, _, _, h => by simp [enum, fget] at h
  | u :: r, i, t, v, h => by
    simp only [enum, fget] at h
    split at h
    · rename_i hit; subst hit; cases h; simp
    · rename_i hit
      obtain ⟨h1, h2⟩ := fget_enum r (i + 1) t v h
      refine ⟨by omega, ?_⟩
      rw [show t - i = (t - (i + 1)) + 1 by omega]
      simpa using h2

def evResults (P : Program) (M : Mem) (F : Fr) (H : Hp) : List ResultVar → (List Value → Prop) → Prop
  | [], k => k []
  | .tmp t :: r, k => ∃ v, fget F t = some v ∧ evResults P M F H r fun l => k (v :: l)
  | .cell a t :: r, k => ∃ v, fget F a = some v ∧ evLoad P t v M H fun u => evResults P M F H r fun l => k (u :: l)

def packR : List Value → Value
  | [v] => v
  | vs => .tuple vs.toArray

theorem evResults_run {M : Mem} {X : Fx} {F : Fr} {H : Hp} {N : Nat} {e : Env} {a : Act} {w : World} (hr : Rel N M X e F H a w) : ∀ (rs : List ResultVar) (k : List Value → Prop), evResults P M F H rs k →
    ∃ l, (rs.mapM (fun x => (match x with | .tmp t => pure (a.tmps.getD t undef) | .cell b t => do loadVar t (← asAddr (a.tmps.getD b undef)) : Sem Value))).run P w = .ok (l.map (cv e)) w ∧ (∀ v ∈ l, Sc H.length M.next v) ∧ k l
  | [], k, h => ⟨[], by simp, by simp, h⟩
  | .tmp t :: r, k, h => by
    obtain ⟨v, hv, h⟩ := h
    obtain ⟨l, h1, h2, h3⟩ := evResults_run hr r _ h
    refine ⟨v :: l, ?_, fun u hu => ?_, h3⟩
    · rw [List.mapM_cons]
      simp only [Sem.run_bind, Sem.run_pure, Result.andThen_ok, h1, hr.fr.get t v hv, List.map_cons]
    · rcases List.mem_cons.1 hu with rfl | hu
      · exact hr.sc t _ hv
      · exact h2 u hu
  | .cell b t :: r, k, h => by
    obtain ⟨v, hv, h⟩ := h
    obtain ⟨u, g1, g2, g3⟩ := evLoad_run h
    obtain ⟨l, h1, h2, h3⟩ := evResults_run hr r _ g3
    refine ⟨u :: l, ?_, fun x hx => ?_, h3⟩
    · have g := g1 X e w hr.emb
      have hld : (do loadVar t (← asAddr (cv e v)) : Sem Value).run P w = .ok (cv e u) w := by
        unfold evLoad at h
        split at h
        · simpa [Instr.loadAt, Instr.sureAddr, asAddr] using g
        · exact h.elim
      rw [List.mapM_cons]
      simp only [hr.fr.get b v hv, List.map_cons]
      rw [Sem.run_bind, hld]
      simp only [Sem.run_bind, Result.andThen_ok, h1, Sem.run_pure]
    · rcases List.mem_cons.1 hx with rfl | hx
      · exact g2 hr.emb.scH
      · exact h2 x hx

def retQ (P : Program) (rs : List ResultVar) (K : Mem → Value → Hp → Prop) (x : Exit) (M : Mem) (F : Fr) (H : Hp) : Prop :=
  match x with
  | .normal | .ret => evResults P M F H rs fun l => K M (packR l) H
  | _ => False

theorem cv_packR (e : Env) (l : List Value) : cv e (packR l) = packR (l.map (cv e)) := by
  match l with
  | [] => simp [packR]
  | [v] => simp [packR]
  | v :: u :: r => simp [packR]
theorem sc_packR {n m : Nat} {l : List Value} (h : ∀ v ∈ l, Sc n m v) : Sc n m (packR l) := by
  match l with
  | [] => exact Sc.flat (by rfl) n m
  | [v] => exact h v (by simp)
  | v :: u :: r => exact Sc_tuple.2 (by simpa [packR] using h)

/-- **A call is its body's walk.** -/
theorem acalls_enter {f : FuncId} {fn : Func} {c : Code} {args : List Value} {M : Mem} {H : Hp} {I : List Nat} {K : Mem → Value → Hp → Prop} (hf : P.funcs[f]? = some fn) (hb : fn.body = some c) {N : Nat} (hN : fn.ntmps = N) (ha : args.length ≤ N) {rs : List ResultVar} (hrs : fn.results.toList = rs)
    (h : awp P N H.length I c M (enum 0 args) H (retQ P rs K)) : acalls P f args M H I K := by
  refine ⟨fun X e w he hs => calls_of_wp hf hb ?_⟩
  have hr : Rel N M X e (enum 0 args) H { tmps := (args.map (cv e)).toArray ++ Array.replicate (fn.ntmps - (args.map (cv e)).toArray.size) undef, defers := [] } w := by
    refine ⟨he, ⟨rfl, by simp [hN]; omega, fun t v hv => ?_⟩, fun t v hv => ?_⟩
    · obtain ⟨_, h2⟩ := fget_enum args 0 t v hv
      simp only [Nat.sub_zero] at h2
      have ht := (List.getElem?_eq_some_iff.1 h2).1
      rw [Array.getD_eq_getD_getElem?, Array.getElem?_append_left (by simpa using ht)]
      simp [h2]
    · obtain ⟨_, h2⟩ := fget_enum args 0 t v hv
      exact hs v (List.mem_of_getElem? h2)
  refine wp_mono (h.out X e _ w hr (Nat.le_refl _)) ?_
  rintro x a' w' ⟨M', e', F', H', g1, g2, g3, g4, g5⟩
  have key : evResults P M' F' H' rs (fun l => K M' (packR l) H') → a'.defers = [] ∧ ∃ v, (results fn a'.tmps).run P w' = .ok v w' ∧ ∃ M' e' v' H', M.le M' ∧ Agr H.length I M.next e e' ∧ H.length ≤ H'.length ∧ Ending.returned v = .returned (cv e' v') ∧ Emb M' X e' H' w' ∧ Sc H'.length M'.next v' ∧ K M' v' H' := by
    intro hres
    obtain ⟨l, h1, h2, h3⟩ := evResults_run g4 rs _ hres
    refine ⟨g4.fr.defers, cv e' (packR l), ?_, M', e', packR l, H', g1, g2, g3, rfl, g4.emb, sc_packR h2, h3⟩
    unfold results
    rw [← hrs] at h1
    have h1' : (fn.results.mapM fun x => (match x with | .tmp t => pure (a'.tmps.getD t undef) | .cell b t => do loadVar t (← asAddr (a'.tmps.getD b undef)) : Sem Value)).run P w' = .ok (l.map (cv e')).toArray w' := by
      rw [Array.mapM_eq_mapM_toList, Sem.run_map, h1]
      rfl
    rw [Sem.run_bind]
    refine Eq.trans (congrArg (fun r : Result (Array Value) => r.andThen _) h1') ?_
    simp only [Result.andThen_ok, cv_packR]
    match l with
    | [] => rfl
    | [v] => rfl
    | v :: u :: r => simp [packR]
  cases x with
  | normal => exact key g5
  | ret => exact key g5
  | _ => exact g5.elim

/-! ### Loops -/
def arounds (P : Program) (N n : Nat) (I : List Nat) (c : Code) (Q : Exit → Mem → Fr → Hp → Prop) : Nat → Mem → Fr → Hp → Prop
  | 0, _, _, _ => False
  | k + 1, M, F, H => awp P N n I c M F H fun x M' F' H' => match x with | .normal => arounds P N n I c Q k M' F' H' | x => Q x M' F' H'

theorem awp_rounds {N n : Nat} {I : List Nat} {c : Code} {Q : Exit → Mem → Fr → Hp → Prop} (k : Nat) {M : Mem} {F : Fr} {H : Hp} (h : arounds P N n I c Q k M F H) : awp P N n I (.loop c) M F H Q := by
  refine ⟨fun X e a w hr hn => wp_loop_rounds k ?_⟩
  induction k generalizing M F H e a w with
  | zero => exact h.elim
  | succ k ih =>
    refine wp_mono (h.out X e a w hr hn) ?_
    rintro x a' w' ⟨M', e', F', H', g1, g2, g3, g4, g5⟩
    cases x with
    | normal =>
      have := ih g5 e' a' w' g4 g3
      have mono : ∀ k a w, Code.rounds P c (Post N n I M' X e' Q) k a w → Code.rounds P c (Post N n I M X e Q) k a w := by
        intro k
        induction k with
        | zero => intro a w h; exact h
        | succ k ih2 =>
          intro a w h
          refine wp_mono h ?_
          intro x a w hx
          cases x with
          | normal => exact ih2 a w hx
          | _ => exact Post.from hx g1 g2
      exact mono k a' w' this
    | _ => exact ⟨M', e', F', H', g1, g2, g3, g4, g5⟩

/-- What is known may be said otherwise: over other labels beyond the n-th (or those that may turn), with rows frozen, with less. -/
def Weak (N n : Nat) (I : List Nat) (M : Mem) (F : Fr) (H : Hp) (M' : Mem) (F' : Fr) (H' : Hp) : Prop :=
  ∀ X e a w, Rel N M X e F H a w → n ≤ H.length → ∃ e', M.le M' ∧ Agr n I M.next e e' ∧ n ≤ H'.length ∧ Rel N M' X e' F' H' a w

theorem Weak.refl {N n : Nat} {I : List Nat} {M : Mem} {F : Fr} {H : Hp} : Weak N n I M F H M F H := fun _ e _ _ h hn => ⟨e, .refl M, .refl _ _ _ _, hn, h⟩
theorem Weak.trans {N n : Nat} {I : List Nat} {M M' M'' : Mem} {F F' F'' : Fr} {H H' H'' : Hp} (h : Weak N n I M F H M' F' H') (h' : Weak N n I M' F' H' M'' F'' H'') : Weak N n I M F H M'' F'' H'' := by
  intro X e a w hr hn
  obtain ⟨e1, h1, h2, h3, h4⟩ := h X e a w hr hn
  obtain ⟨e2, g1, g2, g3, g4⟩ := h' X e1 a w h4 h3
  exact ⟨e2, h1.trans g1, h2.trans g2 (Nat.le_refl _) h1.next, g3, g4⟩

theorem awp_weak {N n : Nat} {I : List Nat} {c : Code} {M M' : Mem} {F : Fr} {H : Hp} {F' : Fr} {H' : Hp} {Q : Exit → Mem → Fr → Hp → Prop} (hw : Weak N n I M F H M' F' H') (h : awp P N n I c M' F' H' Q) : awp P N n I c M F H Q :=
  ⟨fun X e a w hr hn => by
    obtain ⟨e', h0, h1, h2, h3⟩ := hw X e a w hr hn
    exact wp_mono (h.out X e' a w h3 h2) fun x a' w' hp => hp.from h0 h1⟩

/-- **A loop by what holds at each round's head.** -/
theorem awp_loop {σ : Type} {N n : Nat} {I : List Nat} {c : Code} {M : Mem} {F : Fr} {H : Hp} {Q : Exit → Mem → Fr → Hp → Prop} (J : σ → Mem → Fr → Hp → Prop) (μ : σ → Nat) (s : σ) {M0 : Mem} {F0 : Fr} {H0 : Hp} (hw : Weak N n I M F H M0 F0 H0) (h0 : J s M0 F0 H0)
    (round : ∀ s M F H, J s M F H → awp P N n I c M F H fun x M' F' H' => match x with | .normal => ∃ s' M'' F'' H'', Weak N n I M' F' H' M'' F'' H'' ∧ J s' M'' F'' H'' ∧ μ s' < μ s | x => Q x M' F' H') :
    awp P N n I (.loop c) M F H Q := by
  refine awp_weak hw ?_
  have key : ∀ k s M F H, μ s < k → J s M F H → arounds P N n I c Q k M F H := by
    intro k
    induction k with
    | zero => intro s M F H hk; omega
    | succ k ih =>
      intro s M F H hk hI
      refine (round s M F H hI).mono ?_
      intro x M' F' H' _ hx
      cases x with
      | normal =>
        obtain ⟨s', M'', F'', H'', hw, hI', hlt⟩ := hx
        have h2 := ih s' M'' F'' H'' (by omega) hI'
        cases k with
        | zero => omega
        | succ k => exact awp_weak hw h2
      | _ => exact hx
  exact awp_rounds _ (key _ s M0 F0 H0 (Nat.lt_succ_self _) h0)
end
end Go.Snb
