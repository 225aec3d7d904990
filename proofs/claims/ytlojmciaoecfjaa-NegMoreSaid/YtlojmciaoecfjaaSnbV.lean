/- From the abstract memory to a world. -/
import Derived.Test.YtlojmciaoecfjaaSnbU
import Derived.Below
set_option linter.all false
namespace Go.Snb
open Go Go.RowKit
section
variable {P : Program}
/-- What stands in the world ahead. -/
def oldX (W : World) : Fx := fun b => if b < W.heap.size then W.heap[b]? else none
/-- **The outermost call**: over frozen rows of the world ahead. -/
theorem calls_top {f : FuncId} {args : List Value} {K : Mem → Value → Hp → Prop} {W : World} {ro : Nat → Option (List Value)} {next : Nat} {e : Env} (h : acalls P f args ⟨W, ro, next, next⟩ [] [] K)
    (hro : ∀ i cs, ro i = some cs → i < next ∧ rowAt e W (e.f i) cs ∧ ∀ v ∈ cs, Sc 0 next v) (ha : ∀ v ∈ args, Sc 0 next v) {av : Array Value} (hav : av = (args.map (cv e)).toArray) :
    Calls P f av W fun x W' => ∃ M' e' v H', x = .returned (cv e' v) ∧ Below W.heap.size W W' ∧ K M' v H' := by
  subst hav
  have hemb : Emb ⟨W, ro, next, next⟩ (oldX W) e [] W := by
    refine ⟨rfl, rfl, rfl, Nat.le_refl _, ?_, fun i cs hi => (hro i cs hi).2.1, fun i cs hi => ⟨(hro i cs hi).1, (hro i cs hi).2.2⟩, fun i cs hi _ => .inr (hro i cs hi).1, Nat.le_refl _, by simp, by simp, by simp, by simp, by simp⟩
    intro b o hb
    simp only [oldX] at hb
    split at hb
    · exact hb
    · cases hb
  refine (h.out _ e W hemb ha).mono ?_
  rintro x W' ⟨M', e', v, H', g1, g2, g3, g4, g5, g6, g7⟩
  refine ⟨M', e', v, H', g4, ⟨by rw [g5.os, g1.w0], by rw [g5.tape, g1.w0], by rw [g5.output, g1.w0], by have := g5.size; rw [g1.w0] at this; exact this, fun k hk => ?_⟩, g7⟩
  have hkk : W.heap[k]? = some W.heap[k] := Array.getElem?_eq_getElem hk
  rw [hkk]
  refine g5.fx k _ ?_
  simp only [oldX]
  rw [if_pos hk, hkk]
/-- Where there is nothing but numbers. -/
theorem calls_flat {f : FuncId} {args : List Value} {K : Mem → Value → Hp → Prop} {W : World} (h : acalls P f args ⟨W, fun _ => none, 0, 0⟩ [] [] K) (ha : args.all flat = true) :
    Calls P f args.toArray W fun x W' => ∃ M' e' v H', x = .returned (cv e' v) ∧ Below W.heap.size W W' ∧ K M' v H' := by
  let e0 : Env := ⟨fun _ => ⟨0, 0, 0, false⟩, fun _ => ⟨0, 0, 0, false⟩⟩
  refine calls_top (e := e0) h (by intro i cs hi; cases hi) (fun v hv => Sc.flat (List.all_eq_true.1 ha v hv) _ _) ?_
  have : args.map (cv e0) = args.map id := List.map_congr_left fun v hv => flat_cv e0 (List.all_eq_true.1 ha v hv)
  rw [this]; simp
end
end Go.Snb
