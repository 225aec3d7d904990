/- The reckoner sealed: the kernel does not run what follows. -/
import Derived.Test.YtlojmciaoecfjaaSnbL
set_option linter.all false
namespace Go.Snb
open Go
theorem ex_of {α : Type} (x : α) : ∃ y : α, y = x := ⟨x, rfl⟩
noncomputable def sOps : Program → Tb → Nat → Nat → List Nat → List Oper → List Oper → Mem → Fr → Hp → (Mem → Fr → Hp → Prop) → Prop := Classical.choose (ex_of @fOps)
noncomputable def sOpsQ : Program → Tb → Nat → List Oper → List Oper → Mem → Fr → Hp → (Fr → Prop) → Prop := Classical.choose (ex_of @fOpsQ)
noncomputable def sCode : Program → Tb → Nat → Nat → List Nat → List Nat → Nat → Code → Mem → Fr → Hp → (Exit → Mem → Fr → Hp → Prop) → Prop := Classical.choose (ex_of @fCode)
theorem sOps_eq : sOps = @fOps := Classical.choose_spec (ex_of @fOps)
theorem sOpsQ_eq : sOpsQ = @fOpsQ := Classical.choose_spec (ex_of @fOpsQ)
theorem sCode_eq : sCode = @fCode := Classical.choose_spec (ex_of @fCode)
noncomputable def sLoop (P : Program) (T : Tb) (N n : Nat) (I L : List Nat) (U : Nat) (c : Code) (Q : Exit → Mem → Fr → Hp → Prop) (k : Nat) (M : Mem) (F : Fr) (H : Hp) : Prop := loopK (fun M F H R => fCode P T N n I L U c M F H R) Q k M F H
variable {P : Program} {T : Tb} {N n U : Nat} {I L : List Nat} {M : Mem} {F : Fr} {H : Hp} {Q : Exit → Mem → Fr → Hp → Prop}

theorem sOps_nil {ops : List Oper} {K : Mem → Fr → Hp → Prop} : sOps P T N n I ops [] M F H K = K M F H := by rw [sOps_eq]; rfl
theorem sOps_cons {ops r : List Oper} {K : Mem → Fr → Hp → Prop} {d : Option Tmp} {op : Op} {ty : TypeId} {pos : String} {af : Array Edge} {g : Option (Nat × Bool)} :
    sOps P T N n I ops (⟨d, op, ty, pos, af, g⟩ :: r) M F H K = if dstOk N d = true then
      gK F ops g (fun F' => fOp P T op M F' H fun M' J v H' => Side (markP (okI n I J)) (nf (mrk v) fun v => nf (mrk H') fun H' => nf (mrk (dropI J F')) fun F' => fputK F' d v fun F' => sOps P T N n I ops r M' F' H' K)) (fun F' => fputK F' d undef fun F' => sOps P T N n I ops r M F' H K)
    else False := by rw [sOps_eq]; rfl
theorem sOpsQ_nil {ops : List Oper} {K : Fr → Prop} : sOpsQ P T N ops [] M F H K = K F := by rw [sOpsQ_eq]; rfl
theorem sOpsQ_cons {ops r : List Oper} {K : Fr → Prop} {d : Option Tmp} {op : Op} {ty : TypeId} {pos : String} {af : Array Edge} {g : Option (Nat × Bool)} :
    sOpsQ P T N ops (⟨d, op, ty, pos, af, g⟩ :: r) M F H K = if dstOk N d = true then
      gK F ops g (fun F' => fOpQ P T op M F' H fun v => nf (mrk v) fun v => fputK F' d v fun F' => sOpsQ P T N ops r M F' H K) (fun F' => fputK F' d undef fun F' => sOpsQ P T N ops r M F' H K)
    else False := by rw [sOpsQ_eq]; rfl
theorem sCode_skip : sCode P T N n I L U .skip M F H Q = Q .normal M F H := by rw [sCode_eq]; rfl
theorem sCode_label {i : Nat} : sCode P T N n I L U (.label i) M F H Q = Q .normal M F H := by rw [sCode_eq]; rfl
theorem sCode_ret : sCode P T N n I L U .ret M F H Q = Q .ret M F H := by rw [sCode_eq]; rfl
theorem sCode_exit {i : Nat} : sCode P T N n I L U (.exit i) M F H Q = Q (.exit i) M F H := by rw [sCode_eq]; rfl
theorem sCode_regT {i : Nat} {ops : Array Oper} : sCode P T N n I L U (.region i ops true) M F H Q = arrK ops fun opl => if (opl.all fun o => quietB o.op) = true then Side (LexB ops) (sOpsQ P T N opl opl M F H fun F' => nf (mrk (keep L F')) fun F' => Q .normal M F' H)
        else Awp1 P N n I (.region i ops true) M F H Q .tk .tk := by rw [sCode_eq, sOpsQ_eq]; rfl
theorem sCode_regF {i : Nat} {ops : Array Oper} : sCode P T N n I L U (.region i ops false) M F H Q = arrK ops fun opl => sOps P T N n I opl opl M F H fun M' F' H' => nf (mrk (keep L F')) fun F' => Q .normal M' F' H' := by rw [sCode_eq, sOps_eq]; rfl
theorem sCode_seq {x y : Code} : sCode P T N n I L U (.seq x y) M F H Q = sCode P T N n I L U x M F H fun z M' F' H' => match z with | .normal => sCode P T N n I L U y M' F' H' Q | z => Q z M' F' H' := by rw [sCode_eq]; rfl
theorem sCode_cond {c : Operand} {x y : Code} : sCode P T N n I L U (.cond c x y) M F H Q = op1 F c fun v => match v with | .bool t => Br (mrk t) (sCode P T N n I L U x M F H Q) (sCode P T N n I L U y M F H Q) | _ => False := by rw [sCode_eq]; rfl
theorem sCode_block {i : Nat} {c : Code} : sCode P T N n I L U (.block i c) M F H Q = sCode P T N n I L U c M F H fun z M' F' H' => match z with | .exit id' => if id' = i then Q .normal M' F' H' else Q (.exit id') M' F' H' | z => Q z M' F' H' := by rw [sCode_eq]; rfl
theorem sCode_scope {c : Code} : sCode P T N n I L U (.scope c) M F H Q = sCode P T N n I L U c M F H fun z M' F' H' => match z with | .goto _ => False | z => Q z M' F' H' := by rw [sCode_eq]; rfl
theorem sCode_loop0 {c : Code} : sCode P T N n I L 0 (.loop c) M F H Q = Awp1 P N n I (.loop c) M F H Q .tk .tk := by rw [sCode_eq]; rfl
theorem sCode_loop {c : Code} : sCode P T N n I L (U + 1) (.loop c) M F H Q = sLoop P T N n I L (U + 1) c Q (U + 1) M F H := by rw [sCode_eq]; rfl
theorem sLoop_zero {c : Code} : sLoop P T N n I L U c Q 0 M F H = False := rfl
theorem sLoop_succ {c : Code} {k : Nat} : sLoop P T N n I L U c Q (k + 1) M F H = sCode P T N n I L U c M F H fun x M' F' H' => match x with | .normal => sLoop P T N n I L U c Q k M' F' H' | x => Q x M' F' H' := by rw [sCode_eq]; rfl

theorem sacalls_code {T : Tb} (hT : TbOk P T) (hm : P.follows .mixedOrders = true) {f : FuncId} {fn : Func} {c : Code} {args : List Value} {M : Mem} {H : Hp} {I : List Nat} {K : Mem → Value → Hp → Prop} (L : List Nat) (U : Nat) (hf : P.funcs[f]? = some fn) (hb : fn.body = some c) {N : Nat} (hN : fn.ntmps = N) (ha : args.length ≤ N) {rs : List ResultVar} (hrs : fn.results.toList = rs)
    (h : nf (mrk H.length) fun n => nf (mrk (enum 0 args)) fun F => sCode P T N n I L U c M F H (fRet T rs K)) : acalls P f args M H I K := by
  rw [sCode_eq] at h
  exact acalls_code hT hm L U hf hb hN ha hrs h
end Go.Snb
