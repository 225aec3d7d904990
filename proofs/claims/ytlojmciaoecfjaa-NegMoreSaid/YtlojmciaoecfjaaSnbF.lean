/- What the quiet operations' function is worth, operation by operation. -/
import Derived.Test.YtlojmciaoecfjaaSnbE
set_option linter.all false
namespace Go.Snb
open Go
section
variable {P : Program} {M : Mem} {F : Fr} {H : Hp} {K : Value → Prop} {X : Fx} {e : Env}

theorem evQ_load {T : TypeId} {x : Operand} (h : evQ P (.load T x) M F H K) : ∃ u, Yields1 P X e (.load T x) M F H u ∧ K u := by
  obtain ⟨v, hv, h⟩ := h
  obtain ⟨u, h1, h2, h3⟩ := evLoad_run h
  refine ⟨u, ⟨fun o N a w ho hf he => ?_, fun hs _ => h2 hs⟩, h3⟩
  simp only [execOp, ho, opd_eval hf hv, Sem.run_bind, h1 X e w he, Result.andThen_ok, Sem.run_pure]
theorem evQ_move {x : Operand} (h : evQ P (.move x) M F H K) : ∃ u, Yields1 P X e (.move x) M F H u ∧ K u := by
  obtain ⟨v, hv, h⟩ := h
  exact ⟨v, ⟨fun o N a w ho hf he => by simp only [execOp, ho, opd_eval hf hv, Sem.run_pure], fun _ hs => opd_sc hs hv⟩, h⟩
theorem evQ_assign {x : Operand} (h : evQ P (.assign x) M F H K) : ∃ u, Yields1 P X e (.assign x) M F H u ∧ K u := by
  obtain ⟨v, hv, h⟩ := h
  exact ⟨v, ⟨fun o N a w ho hf he => by simp only [execOp, ho, opd_eval hf hv, Sem.run_pure], fun _ hs => opd_sc hs hv⟩, h⟩
theorem evQ_pick {c x y : Operand} (h : evQ P (.pick c x y) M F H K) : ∃ u, Yields1 P X e (.pick c x y) M F H u ∧ K u := by
  obtain ⟨v, hv, h⟩ := h
  cases v <;> try exact h.elim
  rename_i t
  cases t with
  | true =>
    replace h := (BSel_true _ _).1 h
    obtain ⟨u, hu, h⟩ := h
    exact ⟨u, ⟨fun o N a w ho hf he => by simp [execOp, ho, opd_eval hf hv, opd_eval hf hu, asBool], fun _ hs => opd_sc hs hu⟩, h⟩
  | false =>
    replace h := (BSel_false _ _).1 h
    obtain ⟨u, hu, h⟩ := h
    exact ⟨u, ⟨fun o N a w ho hf he => by simp [execOp, ho, opd_eval hf hv, opd_eval hf hu, asBool], fun _ hs => opd_sc hs hu⟩, h⟩
theorem evQ_nilCheck {x : Operand} (h : evQ P (.nilCheck x) M F H K) : ∃ u, Yields1 P X e (.nilCheck x) M F H u ∧ K u := by
  obtain ⟨v, hv, h⟩ := h
  split at h
  · exact ⟨_, ⟨fun o N a w ho hf he => by simp [execOp, ho, opd_eval hf hv], fun _ hs => opd_sc hs hv⟩, h⟩
  · exact ⟨_, ⟨fun o N a w ho hf he => by simp [execOp, ho, opd_eval hf hv], fun _ hs => opd_sc hs hv⟩, h⟩
  · exact h.elim
theorem evQ_binOp {op : BinOp} {t t' : TypeId} {x y : Operand} (h : evQ P (.binOp op t x y t') M F H K) : ∃ u, Yields1 P X e (.binOp op t x y t') M F H u ∧ K u := by
  obtain ⟨v, hv, v', hv', h⟩ := h
  obtain ⟨u, h1, h2, h3⟩ := evBin_run h x y
  refine ⟨u, ⟨fun o N a w ho hf he => ?_, fun _ _ => Sc.flat h2 _ _⟩, h3⟩
  have := h1 X e w he
  rw [Sem.run_bind] at this
  simp only [execOp, ho, opd_eval hf hv, opd_eval hf hv', Sem.run_bind, this, Result.andThen_ok, Sem.run_pure, flat_cv e h2]
theorem evQ_unOp {op : UnOp} {t : TypeId} {x : Operand} (h : evQ P (.unOp op t x) M F H K) : ∃ u, Yields1 P X e (.unOp op t x) M F H u ∧ K u := by
  obtain ⟨v, hv, h⟩ := h
  obtain ⟨u, h1, h2, h3⟩ := evUn_run (P := P) h
  refine ⟨u, ⟨fun o N a w ho hf he => ?_, fun _ _ => Sc.flat h2 _ _⟩, h3⟩
  simp only [execOp, ho, opd_eval hf hv, Sem.run_bind, h1 e w, Result.andThen_ok, Sem.run_pure, flat_cv e h2]
theorem evQ_convert {s d : TypeId} {x : Operand} (h : evQ P (.convert s d x) M F H K) : ∃ u, Yields1 P X e (.convert s d x) M F H u ∧ K u := by
  obtain ⟨v, hv, h⟩ := h
  obtain ⟨u, h1, h2, h3⟩ := evConv_run (P := P) h
  refine ⟨u, ⟨fun o N a w ho hf he => ?_, fun _ _ => Sc.flat h2 _ _⟩, h3⟩
  simp only [execOp, ho, opd_eval hf hv, Sem.run_bind, h1 X e w he, Result.andThen_ok, Sem.run_pure, flat_cv e h2]
theorem evQ_makeInterface {t : TypeId} {x : Operand} (h : evQ P (.makeInterface t x) M F H K) : ∃ u, Yields1 P X e (.makeInterface t x) M F H u ∧ K u := by
  obtain ⟨v, hv, ⟨b, hb, hb'⟩, h⟩ := h
  refine ⟨_, ⟨fun o N a w ho hf he => ?_, fun _ hs => Sc_iface.2 (opd_sc hs hv)⟩, h⟩
  simp only [execOp, ho, opd_eval hf hv, Sem.run_bind, Instr.makeInterface, run_underlying' hb, Result.andThen_ok]
  cases b <;> first | exact hb'.elim | simp
theorem evQ_makeFunc {f : Fn} {first cap : Array Operand} (h : evQ P (.makeFunc f first cap) M F H K) : ∃ u, Yields1 P X e (.makeFunc f first cap) M F H u ∧ K u := by
  cases f <;> try exact h.elim
  rename_i f
  obtain ⟨l, h1, h2, h⟩ := withL_run _ _ h
  obtain ⟨m, h3, h4, h⟩ := withL_run _ _ h
  refine ⟨_, ⟨fun o N a w ho hf he => ?_, fun _ hs => Sc_func.2 ⟨h2 _ _ hs, h4 _ _ hs⟩⟩, h⟩
  have e1 : first.map a.eval = (l.map (cv e)).toArray := by apply Array.ext'; rw [Array.toList_map]; exact h1 e N a hf
  have e2 : cap.map a.eval = (m.map (cv e)).toArray := by apply Array.ext'; rw [Array.toList_map]; exact h3 e N a hf
  simp only [execOp, ho, e1, e2, Instr.makeFunc, Sem.run_bind, Sem.run_pure, Result.andThen_ok, cv_func, List.map_toArray]
theorem evQ_fieldAddr {s f : Nat} {x : Operand} (h : evQ P (.fieldAddr s x f) M F H K) : ∃ u, Yields1 P X e (.fieldAddr s x f) M F H u ∧ K u := by
  obtain ⟨v, hv, h⟩ := h
  split at h
  · rename_i a
    obtain ⟨o, t, n, hfo, hn, hg, h⟩ := h
    obtain ⟨fs, d, h1, h2, rfl, rfl, h5⟩ := fieldOf_spec hfo
    refine ⟨_, ⟨fun o N a w ho hf he => ?_, fun _ hs => Sc_pin.2 ((Sc_pin.1 (opd_sc hs hv)).aadd _)⟩, h⟩
    simp only [execOp, ho, opd_eval hf hv, cv_ptr, Instr.fieldAt, Sem.run_bind, run_underlying' h1, Result.andThen_ok, h2, Instr.sureAddr, Sem.run_pure, fieldPlace, run_sizeOf' h5, if_neg hn, adr_aadd e hg]
  · exact h.elim
theorem evQ_field {s f : Nat} {x : Operand} (h : evQ P (.field s x f) M F H K) : ∃ u, Yields1 P X e (.field s x f) M F H u ∧ K u := by
  obtain ⟨v, hv, h⟩ := h
  split at h
  · rename_i cs
    obtain ⟨o, t, n, hfo, h⟩ := h
    obtain ⟨fs, d, h1, h2, rfl, rfl, h5⟩ := fieldOf_spec hfo
    obtain ⟨u, h6, h7, h8⟩ := evPart_run h h5
    refine ⟨u, ⟨fun o N a w ho hf he => ?_, fun _ hs => h7 _ _ (Sc_agg.1 (opd_sc hs hv))⟩, h8⟩
    simp only [execOp, ho, opd_eval hf hv, cv_agg, Instr.field, Sem.run_bind, run_underlying' h1, Result.andThen_ok, h2, asAgg, Sem.run_pure, h6 e w]
  · exact h.elim
theorem evQ_indexAddr {t : TypeId} {x i : Operand} (h : evQ P (.indexAddr t x i) M F H K) : ∃ u, Yields1 P X e (.indexAddr t x i) M F H u ∧ K u := by
  obtain ⟨v, hv, iv, hi, h⟩ := h
  split at h
  · rename_i k j
    split at h
    · rename_i a n c
      obtain ⟨el, sz, h1, h2, hg, ⟨cs, hr, hc⟩, ⟨hj0, hj1⟩, h⟩ := h
      refine ⟨_, ⟨fun o N a w ho hf he => ?_, fun _ hs => Sc_pin.2 ((Sc_slice.1 (opd_sc hs hv)).aadd _)⟩, h⟩
      simp only [execOp, ho, opd_eval hf hv, opd_eval hf hi, cv_slice, slV, rowOf_nonnil he hr hc, Bool.false_eq_true, if_false, cv_int, Instr.indexAt, asIntOf, Sem.run_bind, Sem.run_pure, run_underlying' h1, Result.andThen_ok]
      rw [if_pos ⟨hj0, hj1⟩]
      simp only [Sem.run_bind, run_sizeOf' h2, Result.andThen_ok, Sem.run_pure, cv_ptr, adr_aadd e hg]
    · rename_i a
      obtain ⟨n, el, sz, h1, h2, hg, ⟨hj0, hj1⟩, h⟩ := h
      refine ⟨_, ⟨fun o N a w ho hf he => ?_, fun _ hs => Sc_pin.2 ((Sc_pin.1 (opd_sc hs hv)).aadd _)⟩, h⟩
      simp only [execOp, ho, opd_eval hf hv, opd_eval hf hi, cv_ptr, cv_int, Instr.indexAt, asIntOf, Sem.run_bind, Sem.run_pure, run_underlying' h1, Result.andThen_ok, Instr.sureAddr]
      rw [if_pos ⟨hj0, hj1⟩]
      simp only [Sem.run_bind, run_sizeOf' h2, Result.andThen_ok, Sem.run_pure, adr_aadd e hg]
    · exact h.elim
  · exact h.elim
theorem evQ_index {t : TypeId} {x i : Operand} (h : evQ P (.index t x i) M F H K) : ∃ u, Yields1 P X e (.index t x i) M F H u ∧ K u := by
  obtain ⟨v, hv, iv, hi, h⟩ := h
  split at h
  · rename_i k j
    split at h
    · rename_i cs
      obtain ⟨n, el, sz, h1, h2, ⟨hj0, hj1⟩, h⟩ := h
      obtain ⟨u, h6, h7, h8⟩ := evPart_run h h2
      refine ⟨u, ⟨fun o N a w ho hf he => ?_, fun _ hs => h7 _ _ (Sc_agg.1 (opd_sc hs hv))⟩, h8⟩
      simp only [execOp, ho, opd_eval hf hv, opd_eval hf hi, cv_agg, cv_int, Instr.index, asIntOf, Sem.run_bind, Sem.run_pure, run_underlying' h1, Result.andThen_ok]
      rw [if_pos ⟨hj0, hj1⟩]
      simp only [Sem.run_bind, run_sizeOf' h2, Result.andThen_ok, h6 e w]
    · rename_i s
      obtain ⟨h1, hj0, b, hb, h⟩ := h
      refine ⟨_, ⟨fun o N a w ho hf he => ?_, fun _ _ => Sc.flat (by rfl) _ _⟩, h⟩
      simp only [execOp, ho, opd_eval hf hv, opd_eval hf hi, cv_string, cv_int, Instr.index, asIntOf, Sem.run_bind, Sem.run_pure, run_underlying' h1, Result.andThen_ok]
      rw [if_pos hj0, hb]
      simp
    · exact h.elim
  · exact h.elim
theorem evQ_extract {x : Operand} {i : Nat} (h : evQ P (.extract x i) M F H K) : ∃ u, Yields1 P X e (.extract x i) M F H u ∧ K u := by
  obtain ⟨v, hv, h⟩ := h
  split at h
  · rename_i vs
    obtain ⟨u, hu, h⟩ := h
    refine ⟨u, ⟨fun o N a w ho hf he => ?_, fun _ hs => Sc_tuple.1 (opd_sc hs hv) u (List.mem_of_getElem? hu)⟩, h⟩
    have hu' : (vs.map (cv e))[i]? = some (cv e u) := by rw [Array.getElem?_map, ← Array.getElem?_toList, hu]; rfl
    simp only [execOp, ho, opd_eval hf hv, cv_tuple, Instr.extract, hu', Sem.run_bind, Sem.run_pure, Result.andThen_ok]
  · exact h.elim
theorem evQ_slice {t : TypeId} {x : Operand} {lo hi mx : Option Operand} (h : evQ P (.slice t x lo hi mx) M F H K) : ∃ u, Yields1 P X e (.slice t x lo hi mx) M F H u ∧ K u := by
  obtain ⟨v, hv, h⟩ := h
  split at h
  · rename_i sa n c
    obtain ⟨el, sz, h1, h2, h⟩ := h
    obtain ⟨m, hm, h⟩ := evBound_run h
    obtain ⟨hh, hhi, h⟩ := evBound_run h
    obtain ⟨l, hl, hmh, h⟩ := evBound_run h
    have h3 := h
    obtain ⟨b0, b1, b2, b3, bc, _⟩ := h
    have hrc : (c : Int) ≤ realC e c sa := by cases sa <;> simp [realC]; omega
    obtain ⟨u, h6, h7, h8⟩ := evSliceOf_run h3 e rfl
    refine ⟨u, ⟨fun o N a w ho hf he => ?_, fun _ hs => h7 _ _ fun b hb => by subst hb; exact Sc_slice.1 (opd_sc hs hv)⟩, h8⟩
    have hb := run_sliceBounds (P := P) (isS := true) (n := n) (c := realC e c sa) (lo := lo.map a.eval) (hi := hi.map a.eval) (mx := mx.map a.eval) (m := if mx.isSome = true then m else (realC e c sa : Nat)) w b0 b1
      (by cases mx with
        | none => have := bc rfl; simp; omega
        | some y => simpa using b2) (by cases mx <;> simp; omega)
      (by have := hl e N a hf; cases lo <;> simpa using this) (by have := hhi e N a hf; cases hi <;> simpa using this) (by have := hm e N a hf; cases mx <;> simpa using this) (by simpa using hmh)
    simp only [execOp, ho, opd_eval hf hv, cv_sl, Instr.sliceAt, Instr.slice, Sem.run_bind, run_underlying' h1, Result.andThen_ok, hb, run_sizeOf' h2, Sem.run_pure, h6]
  · rename_i sa
    obtain ⟨len, el, sz, h1, h2, hmx, ⟨cs, hr, hc⟩, h⟩ := h
    subst hmx
    obtain ⟨hh, hhi, h⟩ := evBound_run h
    obtain ⟨l, hl, h⟩ := evBound_run h
    have h3 := h
    obtain ⟨b0, b1, b2, b3, _⟩ := h
    obtain ⟨u, h6, h7, h8⟩ := evSliceOf_run h3 e rfl
    refine ⟨u, ⟨fun o N a w ho hf he => ?_, fun _ hs => h7 _ _ fun b hb => by cases hb; exact Sc_pin.1 (opd_sc hs hv)⟩, h8⟩
    have hb := run_sliceBounds (P := P) (isS := false) (n := len) (c := len) (lo := lo.map a.eval) (hi := hi.map a.eval) (mx := none) (m := len) w b0 b1 b2 (by omega)
      (by have := hl e N a hf; cases lo <;> simpa using this) (by have := hhi e N a hf; cases hi <;> simpa using this) rfl (by simp)
    have h9 := h6
    simp only [realB, rowOf_nonnil he hr hc, Bool.false_eq_true, if_false, if_true, Option.map_some] at h9
    simp only [execOp, ho, opd_eval hf hv, cv_ptr, Instr.sliceAt, Instr.sureAddr, Sem.run_bind, run_underlying' h1, Result.andThen_ok, Option.map_none, hb, run_sizeOf' h2, Sem.run_pure]
    rw [← h9]
    split <;> rfl
  · exact h.elim
theorem evQ_typeAssert {x : Operand} {xt t' : TypeId} {ok : Bool} (h : evQ P (.typeAssert x xt t' ok) M F H K) : ∃ u, Yields1 P X e (.typeAssert x xt t' ok) M F H u ∧ K u := by
  obtain ⟨v, hv, ⟨b, hb, hb'⟩, h⟩ := h
  split at h
  · rename_i t u
    split at h
    · rename_i htt
      subst htt
      refine ⟨_, ⟨fun o N a w ho hf he => ?_, fun _ hs => ?_⟩, h⟩
      · simp only [execOp, ho, opd_eval hf hv, cv_iface, Instr.typeAssert, Sem.run_bind, run_underlying' hb, Result.andThen_ok]
        cases b <;> first | exact hb'.elim | (cases ok <;> simp)
      · have := Sc_iface.1 (opd_sc hs hv)
        cases ok
        · simpa using this
        · simp only [if_true]
          refine Sc_tuple.2 fun y hy => ?_
          simp at hy
          rcases hy with rfl | rfl
          · exact this
          · exact Sc.flat (by rfl) _ _
    · rename_i htt
      obtain ⟨rfl, z, hz, hfz, h⟩ := h
      refine ⟨_, ⟨fun o N a w ho hf he => ?_, fun _ hs => ?_⟩, h⟩
      · simp only [execOp, ho, opd_eval hf hv, cv_iface, Instr.typeAssert, Sem.run_bind, run_underlying' hb, Result.andThen_ok]
        cases b <;> first | exact hb'.elim | simp [htt, run_zero' hz, flat_cv e hfz]
      · refine Sc_tuple.2 fun y hy => ?_
        simp at hy
        rcases hy with rfl | rfl
        · exact Sc.flat hfz _ _
        · exact Sc.flat (by rfl) _ _
  · obtain ⟨rfl, z, hz, hfz, h⟩ := h
    refine ⟨_, ⟨fun o N a w ho hf he => ?_, fun _ hs => ?_⟩, h⟩
    · simp only [execOp, ho, opd_eval hf hv, cv_nilIface, Instr.typeAssert, Sem.run_bind, run_underlying' hb, Result.andThen_ok]
      cases b <;> first | exact hb'.elim | simp [run_zero' hz, flat_cv e hfz]
    · refine Sc_tuple.2 fun y hy => ?_
      simp at hy
      rcases hy with rfl | rfl
      · exact Sc.flat hfz _ _
      · exact Sc.flat (by rfl) _ _
  · exact h.elim
theorem evQ_builtin {b : Builtin} {args : Array Operand} {ts : Array TypeId} (h : evQ P (.call ⟨.builtin b, args, ts⟩) M F H K) : ∃ u, Yields1 P X e (.call ⟨.builtin b, args, ts⟩) M F H u ∧ K u := by
  simp only [evQ] at h
  obtain ⟨l, h1, h2, h⟩ := withL_run _ _ h
  obtain ⟨u, h6, h7, h8⟩ := evBuiltin_run h
  refine ⟨u, ⟨fun o N a w ho hf he => ?_, fun _ hs => h7 _ _ (h2 _ _ hs)⟩, h8⟩
  have e1 : args.map a.eval = (l.map (cv e)).toArray := by apply Array.ext'; rw [Array.toList_map]; exact h1 e N a hf
  simp only [execOp, ho, resolve, e1, Sem.run_bind, Sem.run_pure, Result.andThen_ok, invoke]
  exact h6 e o.type _ w

theorem flat_agg_all {z : Value} (h : flat z = true) : ∀ v ∈ cellsL z, ∀ e : Env, cv e v = v := by
  intro v hv e
  have h1 : (cellsL z).map (cv e) = (cellsL z).map id := by rw [← cellsL_cv, flat_cv e h]; simp
  exact (List.map_inj_left.1 h1) v hv

theorem evQ_build {t : TypeId} {parts : Array (Nat × Operand)} (h : evQ P (.build t parts) M F H K) : ∃ u, Yields1 P X e (.build t parts) M F H u ∧ K u := by
  obtain ⟨z, hz, hfz, d, hd, h⟩ := h
  have hzc : ∀ e : Env, z.cells = ((cellsL z).toArray).map (cv e) := by
    intro e
    apply Array.ext'
    rw [cellsL_cells]
    simp only [List.map_toArray]
    rw [← cellsL_cv, flat_cv e hfz]
  split at h
  · rename_i fs
    obtain ⟨ps, hps, h⟩ := h
    obtain ⟨l, h1, h2, h3⟩ := evParts_run _ _ _ h
    refine ⟨_, ⟨fun o N a w ho hf he => ?_, fun _ hs => ?_⟩, h3⟩
    · have hp : fs.toList.mapM (fun f => (szOf P f.type).map fun n => (f.offset, n)) = some ps := by
        unfold placesOf at hps
        rw [hd] at hps
        exact hps
      have hfill := h1 e N a (cellsL z).toArray hf (by simp)
      rw [← hzc e] at hfill
      have hrun := run_places fs.toList ps w hp
      have hpl : (fs.mapM (fun f => (do pure (f.offset, ← sizeOf f.type) : Sem (Nat × Nat)))).run P w = .ok ps.toArray w := by
        rw [Array.mapM_eq_mapM_toList, Sem.run_map, hrun]
        rfl
      simp only [execOp, ho, Instr.build, Sem.run_bind, run_zero' hz, run_underlying' hd, Result.andThen_ok, hpl]
      simp only [List.getElem?_toArray, Array.toList_map]
      rw [hfill]
      simp
    · refine Sc_agg.2 fun v hv => ?_
      exact fillL_all l _ (h2 _ _ hs) (fun y hy e e' _ => by rw [flat_agg_all hfz y hy e, flat_agg_all hfz y hy e']) v (by simpa using hv)
  · rename_i n el
    obtain ⟨sz, hsz, h⟩ := h
    obtain ⟨l, h1, h2, h3⟩ := evParts_run _ _ _ h
    refine ⟨_, ⟨fun o N a w ho hf he => ?_, fun _ hs => ?_⟩, h3⟩
    · have hfill := h1 e N a (cellsL z).toArray hf (by simp)
      rw [← hzc e] at hfill
      simp only [execOp, ho, Instr.build, Sem.run_bind, run_zero' hz, run_underlying' hd, Result.andThen_ok, run_sizeOf' hsz]
      simp only [Array.toList_map]
      rw [hfill]
      simp
    · refine Sc_agg.2 fun v hv => ?_
      exact fillL_all l _ (h2 _ _ hs) (fun y hy e e' _ => by rw [flat_agg_all hfz y hy e, flat_agg_all hfz y hy e']) v (by simpa using hv)
  · exact h.elim

/-- **Every quiet operation.** -/
theorem evQ_run {op : Op} (h : evQ P op M F H K) : ∃ u, Yields1 P X e op M F H u ∧ K u := by
  cases op with
  | move x => exact evQ_move h
  | assign x => exact evQ_assign h
  | pick c a b => exact evQ_pick h
  | load T x => exact evQ_load h
  | nilCheck x => exact evQ_nilCheck h
  | binOp op t x y t' => exact evQ_binOp h
  | unOp op t x => exact evQ_unOp h
  | convert s d x => exact evQ_convert h
  | makeInterface t x => exact evQ_makeInterface h
  | makeFunc f x y => exact evQ_makeFunc h
  | fieldAddr s x f => exact evQ_fieldAddr h
  | field s x f => exact evQ_field h
  | indexAddr t x i => exact evQ_indexAddr h
  | index t x i => exact evQ_index h
  | slice t x lo hi mx => exact evQ_slice h
  | extract x i => exact evQ_extract h
  | build t parts => exact evQ_build h
  | typeAssert x xt t ok => exact evQ_typeAssert h
  | call c =>
    obtain ⟨callee, args, ts⟩ := c
    cases callee with
    | builtin b => exact evQ_builtin h
    | _ => exact h.elim
  | _ => exact h.elim
end
end Go.Snb
