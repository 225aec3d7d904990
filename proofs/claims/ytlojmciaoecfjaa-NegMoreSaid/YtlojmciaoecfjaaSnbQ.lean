/- The reckoning that stops where ways meet again. -/
import Derived.Test.YtlojmciaoecfjaaSnbP
set_option linter.all false
namespace Go.Snb
open Go
section
variable {P : Program}

def isCond : Code → Bool
  | .cond _ _ _ => true
  | _ => false
def fCodeJ (P : Program) (T : Tb) (N n : Nat) (I : List Nat) (L : List Nat) : Code → Mem → Fr → Hp → (Exit → Mem → Fr → Hp → Prop) → Prop
  | .seq x y, M, F, H, Q => fCodeJ P T N n I L x M F H fun z M' F' H' => match z with | .normal => (if isCond y = true then Awp1 P N n I y M' F' H' Q .tk .tk else fCodeJ P T N n I L y M' F' H' Q) | z => Q z M' F' H'
  | .block id c, M, F, H, Q => fCodeJ P T N n I L c M F H fun z M' F' H' => match z with | .exit id' => if id' = id then Q .normal M' F' H' else Q (.exit id') M' F' H' | z => Q z M' F' H'
  | .scope c, M, F, H, Q => fCodeJ P T N n I L c M F H fun z M' F' H' => match z with | .goto _ => False | z => Q z M' F' H'
  | c, M, F, H, Q => fCode P T N n I L 0 c M F H Q
theorem fCodeJ_awp {T : Tb} (hT : TbOk P T) (hm : P.follows .mixedOrders = true) {N n : Nat} {I L : List Nat} : ∀ (c : Code) {M : Mem} {F : Fr} {H : Hp} {Q : Exit → Mem → Fr → Hp → Prop}, fCodeJ P T N n I L c M F H Q → awp P N n I c M F H Q
  | .seq x y, M, F, H, Q, h => by
    simp only [fCodeJ] at h
    refine awp_seq ((fCodeJ_awp hT hm x h).mono ?_)
    intro z M' F' H' _ hz
    cases z with
    | normal =>
      simp only at hz ⊢
      split at hz
      · exact hz.out
      · exact fCodeJ_awp hT hm y hz
    | _ => exact hz
  | .block id c, M, F, H, Q, h => by simp only [fCodeJ] at h; exact awp_block (fCodeJ_awp hT hm c h)
  | .skip, _, _, _, _, h => fCode_awp hT hm _ h
  | .label _, _, _, _, _, h => fCode_awp hT hm _ h
  | .ret, _, _, _, _, h => fCode_awp hT hm _ h
  | .exit _, _, _, _, _, h => fCode_awp hT hm _ h
  | .region _ _ _, _, _, _, _, h => fCode_awp hT hm _ h
  | .cond _ _ _, _, _, _, _, h => fCode_awp hT hm _ h
  | .loop _, _, _, _, _, h => fCode_awp hT hm _ h
  | .rangeFunc .., _, _, _, _, h => fCode_awp hT hm _ h
  | .scope c, M, F, H, Q, h => by simp only [fCodeJ] at h; exact awp_scope (fCodeJ_awp hT hm c h)
  | .goto _, _, _, _, _, h => fCode_awp hT hm _ h
  | .refuse _, _, _, _, _, h => fCode_awp hT hm _ h

noncomputable def sCodeJ : Program → Tb → Nat → Nat → List Nat → List Nat → Code → Mem → Fr → Hp → (Exit → Mem → Fr → Hp → Prop) → Prop := Classical.choose (ex_of @fCodeJ)
theorem sCodeJ_eq : sCodeJ = @fCodeJ := Classical.choose_spec (ex_of @fCodeJ)
variable {T : Tb} {N n U : Nat} {I L : List Nat} {M : Mem} {F : Fr} {H : Hp} {Q : Exit → Mem → Fr → Hp → Prop}
theorem sCodeJ_seqC {x a b : Code} {c : Operand} : sCodeJ P T N n I L (.seq x (.cond c a b)) M F H Q = sCodeJ P T N n I L x M F H fun z M' F' H' => match z with | .normal => Awp1 P N n I (.cond c a b) M' F' H' Q .tk .tk | z => Q z M' F' H' := by rw [sCodeJ_eq]; rfl
theorem sCodeJ_seq {x y : Code} (h : isCond y = false) : sCodeJ P T N n I L (.seq x y) M F H Q = sCodeJ P T N n I L x M F H fun z M' F' H' => match z with | .normal => sCodeJ P T N n I L y M' F' H' Q | z => Q z M' F' H' := by rw [sCodeJ_eq]; simp [fCodeJ, h]
theorem sCodeJ_seqR {x : Code} {i : Nat} {ops : Array Oper} {d : Bool} : sCodeJ P T N n I L (.seq x (.region i ops d)) M F H Q = sCodeJ P T N n I L x M F H fun z M' F' H' => match z with | .normal => sCode P T N n I L 0 (.region i ops d) M' F' H' Q | z => Q z M' F' H' := by rw [sCodeJ_eq, sCode_eq]; rfl
theorem sCodeJ_seqRet {x : Code} : sCodeJ P T N n I L (.seq x .ret) M F H Q = sCodeJ P T N n I L x M F H fun z M' F' H' => match z with | .normal => Q .ret M' F' H' | z => Q z M' F' H' := by rw [sCodeJ_eq]; rfl
theorem sCodeJ_seqS {x a b : Code} : sCodeJ P T N n I L (.seq x (.seq a b)) M F H Q = sCodeJ P T N n I L x M F H fun z M' F' H' => match z with | .normal => sCodeJ P T N n I L (.seq a b) M' F' H' Q | z => Q z M' F' H' := by rw [sCodeJ_eq]; rfl
theorem sCodeJ_seqB {x a : Code} {i : Nat} : sCodeJ P T N n I L (.seq x (.block i a)) M F H Q = sCodeJ P T N n I L x M F H fun z M' F' H' => match z with | .normal => sCodeJ P T N n I L (.block i a) M' F' H' Q | z => Q z M' F' H' := by rw [sCodeJ_eq]; rfl
theorem sCodeJ_seqL {x a : Code} : sCodeJ P T N n I L (.seq x (.loop a)) M F H Q = sCodeJ P T N n I L x M F H fun z M' F' H' => match z with | .normal => Awp1 P N n I (.loop a) M' F' H' Q .tk .tk | z => Q z M' F' H' := by rw [sCodeJ_eq]; rfl
theorem sCodeJ_block {i : Nat} {c : Code} : sCodeJ P T N n I L (.block i c) M F H Q = sCodeJ P T N n I L c M F H fun z M' F' H' => match z with | .exit id' => if id' = i then Q .normal M' F' H' else Q (.exit id') M' F' H' | z => Q z M' F' H' := by rw [sCodeJ_eq]; rfl
theorem sCodeJ_scope {c : Code} : sCodeJ P T N n I L (.scope c) M F H Q = sCodeJ P T N n I L c M F H fun z M' F' H' => match z with | .goto _ => False | z => Q z M' F' H' := by rw [sCodeJ_eq]; rfl
theorem sCodeJ_label {l : Nat} : sCodeJ P T N n I L (.label l) M F H Q = Q .normal M F H := by rw [sCodeJ_eq]; rfl
theorem sCodeJ_seqLb {x : Code} {l : Nat} : sCodeJ P T N n I L (.seq x (.label l)) M F H Q = sCodeJ P T N n I L x M F H fun z M' F' H' => match z with | .normal => Q .normal M' F' H' | z => Q z M' F' H' := by rw [sCodeJ_eq]; rfl
theorem sCodeJ_region {i : Nat} {ops : Array Oper} {d : Bool} : sCodeJ P T N n I L (.region i ops d) M F H Q = sCode P T N n I L 0 (.region i ops d) M F H Q := by rw [sCodeJ_eq, sCode_eq]; rfl
theorem sCodeJ_cond {a b : Code} {c : Operand} : sCodeJ P T N n I L (.cond c a b) M F H Q = sCode P T N n I L 0 (.cond c a b) M F H Q := by rw [sCodeJ_eq, sCode_eq]; rfl
theorem sCodeJ_loop {a : Code} : sCodeJ P T N n I L (.loop a) M F H Q = Awp1 P N n I (.loop a) M F H Q .tk .tk := by rw [sCodeJ_eq]; rfl
theorem sCodeJ_ret : sCodeJ P T N n I L .ret M F H Q = Q .ret M F H := by rw [sCodeJ_eq]; rfl
theorem sCodeJ_skip : sCodeJ P T N n I L .skip M F H Q = Q .normal M F H := by rw [sCodeJ_eq]; rfl

theorem jacalls_code {T : Tb} (hT : TbOk P T) (hm : P.follows .mixedOrders = true) {f : FuncId} {fn : Func} {c : Code} {args : List Value} {M : Mem} {H : Hp} {I : List Nat} {K : Mem → Value → Hp → Prop} (L : List Nat) (hf : P.funcs[f]? = some fn) (hb : fn.body = some c) {N : Nat} (hN : fn.ntmps = N) (ha : args.length ≤ N) {rs : List ResultVar} (hrs : fn.results.toList = rs)
    (h : nf (mrk H.length) fun n => nf (mrk (enum 0 args)) fun F => sCodeJ P T N n I L c M F H (fRet T rs K)) : acalls P f args M H I K := by
  rw [sCodeJ_eq] at h
  refine acalls_enter hf hb hN ha hrs ((fCodeJ_awp hT hm c h).mono ?_)
  intro x M' F' H' _ hx
  cases x with
  | normal => exact fResults_ev hT.ty hx fun _ h => h
  | ret => exact fResults_ev hT.ty hx fun _ h => h
  | _ => exact hx.elim

/-- What follows may be told anew. -/
def Stable (N n : Nat) (I : List Nat) (Q : Exit → Mem → Fr → Hp → Prop) : Prop := ∀ M F H M2 F2 H2, Weak N n I M F H M2 F2 H2 → Q .normal M2 F2 H2 → Q .normal M F H
theorem Stable.awp1 {c : Code} {Q : Exit → Mem → Fr → Hp → Prop} {R : Exit → Mem → Fr → Hp → Prop} : Stable N n I (fun z M F H => match z with | .normal => Awp1 P N n I c M F H Q .tk .tk | z => R z M F H) :=
  fun _ _ _ _ _ _ hw h => ⟨awp_weak hw h.out⟩
/-- **Ways meet again.** -/
theorem Awp1.join {T : Tb} (hT : TbOk P T) (hm : P.follows .mixedOrders = true) {σ : Type} {c : Code} {Q : Exit → Mem → Fr → Hp → Prop} {t1 : Tok c} {t2 : Tok Q} (L : List Nat) (U : Nat) (hst : Stable N n I Q) (ts : List Nat) (vals : σ → List Value) (hp : σ → Hp) (inv : σ → Mem → Prop)
    (h : sCode P T N n I L U c M F H fun x M' F' H' => match x with | .normal => Again n I M' F' H' ts (fun M2 vs2 H2 => ∃ s', vs2 = vals s' ∧ H2 = hp s' ∧ inv s' M2) .tk | x => Q x M' F' H')
    (rest : ∀ s M, inv s M → nf (mrk (ts.zip (vals s))) fun F => nf (mrk (hp s)) fun H => Q .normal M F H) : Awp1 P N n I c M F H Q t1 t2 := by
  rw [sCode_eq] at h
  refine ⟨(fCode_awp hT hm c h).mono ?_⟩
  intro x M' F' H' _ hx
  cases x with
  | normal =>
    obtain ⟨vs, M2, vs2, H2, h1, h2, s, rfl, rfl, h5⟩ := hx.out
    exact hst _ _ _ _ _ _ (h2.weak ts h1) (rest s M2 h5)
  | _ => exact hx
theorem Again.at {σ : Type} {n : Nat} {I : List Nat} {M M2 : Mem} {F : Fr} {H : Hp} {ts : List Nat} {vals : σ → List Value} {hp : σ → Hp} {inv : σ → Mem → Prop} {t} (s' : σ) {vs : List Value} (hg : getsL F ts = some vs) (ht : Turn n I M vs H M2 (vals s') (hp s')) (hi : inv s' M2) :
    Again n I M F H ts (fun M2 vs2 H2 => ∃ s', vs2 = vals s' ∧ H2 = hp s' ∧ inv s' M2) t := ⟨vs, M2, _, _, hg, ht, s', rfl, rfl, hi⟩

/-! ### Calls that leave our heap alone -/
theorem rvs_flat (τ : Nat → Nat) {l : List Value} (h : l.all flat = true) : l.map (rv τ) = l := by
  have : l.map (rv τ) = l.map id := List.map_congr_left fun v hv => rv_flat τ (List.all_eq_true.1 h v hv)
  simpa using this
/-- A callee that reads frozen rows alone, and tells a flat value. -/
theorem Call1.pure {g : FuncId} {args : List Value} {u : Value} {K : Mem → List Nat → Value → Hp → Prop} {t : Tok K} (h : acalls P g args M [] [] fun _ v _ => v = u) (ha : args.map (rv (tauOf [] H.length)) = args) (hu : flat u = true) (hk : K M [] u H) : Call1 P g args M H K t := by
  have h1 := h.lift (K := fun _ v H' => v = u ∧ ∃ J, H' = H ++ J) (H := H) [] rfl List.nodup_nil (by simp) (by simp) (.inl rfl) (by simp) (by
    rintro M' v0 H0' _ rfl
    exact ⟨rv_flat _ hu, _, rfl⟩)
  rw [ha] at h1
  exact ⟨[], acalls.forget h1 fun M' v H' _ ⟨h2, h3⟩ => ⟨h3, by rw [h2]; exact hu, by rw [h2]; exact hk⟩⟩
theorem QCall.pure {g : FuncId} {args : List Value} {u : Value} {K : Value → Prop} {t : Tok K} (h : acalls P g args M [] [] fun _ v _ => v = u) (ha : args.map (rv (tauOf [] H.length)) = args) (hu : flat u = true) (hk : K u) : QCall P g args M H K t := by
  have h1 := h.lift (K := fun _ v H' => v = u ∧ ∃ J, H' = H ++ J) (H := H) [] rfl List.nodup_nil (by simp) (by simp) (.inl rfl) (by simp) (by
    rintro M' v0 H0' _ rfl
    exact ⟨rv_flat _ hu, _, rfl⟩)
  rw [ha] at h1
  exact ⟨u, h1, hu, hk⟩
/-- A callee that tells frozen rows, and leaves our heap alone. -/
theorem Call1.free {g : FuncId} {args : List Value} {K0 : Mem → Value → Hp → Prop} {K : Mem → List Nat → Value → Hp → Prop} {t : Tok K} (h : acalls P g args M [] [] K0) (ha : args.map (rv (tauOf [] H.length)) = args)
    (hk : ∀ M' v H', M.le M' → K0 M' v H' → H' = [] ∧ rv (tauOf [] H.length) v = v ∧ K M' [] v H) : Call1 P g args M H K t := by
  have h1 := h.lift (K := fun M' v H' => K M' [] v H') (H := H) [] rfl List.nodup_nil (by simp) (by simp) (.inl rfl) (by simp) (by
    intro M' v0 H0' hm h0
    obtain ⟨rfl, h2, h3⟩ := hk M' v0 H0' hm h0
    rw [h2]
    simpa [liftH, updL] using h3)
  rw [ha] at h1
  exact ⟨[], h1⟩
/-- A callee that reads a row of ours that we give away, and tells a flat value. -/
theorem Call1.frz {g : FuncId} {args args2 content : List Value} {b : Option Addr} {k c sz : Nat} {u : Value} {H' : Hp} {K : Mem → List Nat → Value → Hp → Prop} {t : Tok K} (hd : dropB H b = H') (h : ownRow H b k c sz content) (hc : content.all flat = true)
    (hv : RpL (.slice b k c) (.slice (some ⟨M.next, 0, some 0⟩) k k) args args2) (h1 : acalls P g args2 (M.frz content) [] [] fun _ v _ => v = u) (ha : args2.map (rv (tauOf [] H.length)) = args2) (hu : flat u = true) (hk : K (M.frz content) [] u H') : Call1 P g args M H K t := by
  have hl : (dropB H b).length = H.length := by cases b <;> simp [dropB]
  subst hd
  rw [← hl] at ha
  obtain ⟨I, h2⟩ := (Call1.pure (t := t) h1 ha hu hk).out
  exact ⟨I, acalls.before (Turn.frz h (fun v hv => Sc.flat (List.all_eq_true.1 hc v hv) _ _) hv (.refl _)) (by cases b <;> simp [dropB]) h2⟩
end
end Go.Snb
