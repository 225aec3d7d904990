/- Operations that make or write memory, and calls. -/
import Derived.Test.YtlojmciaoecfjaaSnbF
import Derived.Laws.Append
set_option linter.all false
namespace Go.Snb
open Go
section
variable {P : Program}

/-- A call, over the abstract memory; I: labels that may lie elsewhere behind it. -/
structure acalls (P : Program) (f : FuncId) (args : List Value) (M : Mem) (H : Hp) (I : List Nat) (K : Mem → Value → Hp → Prop) : Prop where
  out : ∀ X e w, Emb M X e H w → (∀ v ∈ args, Sc H.length M.next v) → Calls P f (args.map (cv e)).toArray w fun x w' => ∃ M' e' v H', M.le M' ∧ Agr H.length I M.next e e' ∧ H.length ≤ H'.length ∧
    x = .returned (cv e' v) ∧ Emb M' X e' H' w' ∧ Sc H'.length M'.next v ∧ K M' v H'

theorem acalls.mono {f : FuncId} {args : List Value} {M : Mem} {H : Hp} {I : List Nat} {K K' : Mem → Value → Hp → Prop} (h : acalls P f args M H I K) (hk : ∀ M' v H', M.le M' → H.length ≤ H'.length → K M' v H' → K' M' v H') : acalls P f args M H I K' :=
  ⟨fun X e w he hs => (h.out X e w he hs).mono fun x w' ⟨M', e', v, H', h1, h2, h3, h4, h5, h6, h7⟩ => ⟨M', e', v, H', h1, h2, h3, h4, h5, h6, hk _ _ _ h1 h3 h7⟩⟩

/-! ### Zeros -/
def zl (z : List Value) (n : Nat) : List Value := (List.replicate n z).flatten
theorem zl_length (z : List Value) (n : Nat) : (zl z n).length = n * z.length := by simp [zl]
theorem zl_one (v : Value) (n : Nat) : zl [v] n = List.replicate n v := by
  induction n with
  | zero => rfl
  | succ n ih => simp only [zl, List.replicate_succ, List.flatten_cons] at *; rw [ih]; rfl
theorem zl_mem {z : List Value} {n : Nat} {v : Value} (h : v ∈ zl z n) : v ∈ z := by
  simp only [zl, List.mem_flatten] at h
  obtain ⟨l, hl, hv⟩ := h
  rw [List.eq_of_mem_replicate hl] at hv
  exact hv
theorem zl_get (z : List Value) : ∀ (n i : Nat), i < n * z.length → (zl z n)[i]? = z[i % z.length]?
  | 0, i, h => by simp at h
  | n + 1, i, h => by
    simp only [zl, List.replicate_succ, List.flatten_cons]
    by_cases hi : i < z.length
    · rw [List.getElem?_append_left hi, Nat.mod_eq_of_lt hi]
    · have hi' : z.length ≤ i := by omega
      rw [List.getElem?_append_right hi']
      have hz : 0 < z.length := by
        rcases Nat.eq_zero_or_pos z.length with h0 | h0
        · rw [h0] at h; simp at h
        · exact h0
      have := zl_get z n (i - z.length) (by rw [Nat.succ_mul] at h; omega)
      simp only [zl] at this
      rw [this, Nat.mod_eq_sub_mod hi']
theorem zeros_eq (z : List Value) (n : Nat) : ((Array.range (n * z.length)).map fun i => z.toArray[i % z.toArray.size]!) = (zl z n).toArray := by
  apply Array.ext_getElem?
  intro i
  have e2 : (zl z n).toArray[i]? = (zl z n)[i]? := by simp
  rw [Array.getElem?_map, e2]
  by_cases hi : i < n * z.length
  · have hz : 0 < z.length := by
      rcases Nat.eq_zero_or_pos z.length with h0 | h0
      · rw [h0] at hi; simp at hi
      · exact h0
    have hm : i % z.length < z.length := Nat.mod_lt _ hz
    rw [zl_get z n i hi, List.getElem?_eq_getElem hm]
    simp [hi, hm]
  · rw [List.getElem?_eq_none (l := zl z n) (by rw [zl_length]; omega)]
    simp; omega
theorem zeroCells_eq {z : Value} (k : Nat) : Builtin.zeroCells z.cells k = (zl (cellsL z) k).toArray := by
  have hzz : z.cells = (cellsL z).toArray := by apply Array.ext'; rw [cellsL_cells]
  unfold Builtin.zeroCells
  rw [hzz]
  have := zeros_eq (cellsL z) k
  simpa using this

theorem alloc_obj (w : World) (o : Obj) : ({ w with heap := w.heap.push o } : World) = w.alloc o := rfl

/-! ### Operations that make blocks -/
def bytesT (P : Program) (t : TypeId) : Option Nat := (P.info? t).map (·.bytes)
theorem run_bytes {t n : Nat} (h : bytesT P t = some n) (w : World) : ∃ i, (typeInfo t).run P w = .ok i w ∧ i.bytes = n ∧ P.info? t = some i := by
  unfold bytesT at h
  cases hi : P.info? t with
  | none => simp [hi] at h
  | some i => simp [hi] at h; exact ⟨i, by simp [typeInfo, hi], h, rfl⟩

/-- What is appended: m elements, these cells. -/
def evApXs (P : Program) (xt : TypeId) (x : Value) (sz : Nat) (z : List Value) (by' : Nat) (M : Mem) (H : Hp) (k : Nat → List Value → Prop) : Prop :=
  match x with
  | .slice b m _ => (∃ el', P.underlying xt = some (.slice el')) ∧ evRead M H sz b m fun xs => xs.length = m * sz ∧ k m xs
  | .int _ l => (∃ ik, P.underlying xt = some (.int ik)) ∧ 0 ≤ l ∧ l * by' ≤ 2 ^ 47 ∧ 0 < by' ∧ k l.toNat (zl z l.toNat)
  | _ => False
/-- Where it is appended. -/
def evAppTo (a : Option Addr) (n m c sz : Nat) (xs : List Value) (M : Mem) (H : Hp) (K : Mem → Value → Hp → Prop) : Prop :=
  match a with
  | none => n = 0 ∧ c = 0 ∧ K M (.slice (some ⟨H.length, 0, none⟩) m m) (H ++ [some (.cells xs sz)])
  | some ⟨l, o, s⟩ => if s = none ∨ s = some 1 then
      ∃ cs z', H[l]? = some (some (.cells cs z')) ∧ (z' = 0 ∨ z' = sz) ∧ n ≤ c ∧ o + c * sz ≤ cs.length ∧ (s = none → z' ≠ 0 → o + c * sz = cs.length) ∧
        K M (.slice (some ⟨H.length, 0, none⟩) (n + m) (n + m)) (H.set l none ++ [some (.cells ((cs.drop o).take (n * sz) ++ xs) sz)])
    else (m = 0 → n ≤ c ∧ K M (.slice (some ⟨l, o, s⟩) n c) H) ∧ (m ≠ 0 → s = some 2 ∧ c < n + m ∧ ∃ cs, rowOf M H ⟨l, o, s⟩ = some cs ∧ o + n * sz ≤ cs.length ∧
        K M (.slice (some ⟨H.length, 0, none⟩) (n + m) (n + m)) (H ++ [some (.cells ((cs.drop o).take (n * sz) ++ xs) sz)]))
/-- An append: the row goes over into a new label. -/
def evAppend (P : Program) (ts : List TypeId) (args : List Value) (M : Mem) (H : Hp) (K : Mem → Value → Hp → Prop) : Prop :=
  match ts, args with
  | [t, xt], [.slice a n c, x] => ∃ el sz z by', P.underlying t = some (.slice el) ∧ szOf P el = some sz ∧ zeroOf P el = some z ∧ flat z = true ∧ (cellsL z).length = sz ∧ bytesT P el = some by' ∧ 0 < sz ∧ 0 < by' ∧
      evApXs P xt x sz (cellsL z) by' M H fun m xs => xs.all one = true ∧ (n + m) * by' ≤ 2 ^ 47 ∧ evAppTo a n m c sz xs M H K
  | _, _ => False

def evCopy (P : Program) (ts : List TypeId) (args : List Value) (M : Mem) (H : Hp) (K : Mem → Value → Hp → Prop) : Prop :=
  match ts, args with
  | t :: _, [.slice a n c, .slice b m d] => ∃ el sz, P.underlying t = some (.slice el) ∧ szOf P el = some sz ∧ evRead M H sz b (min m n) fun xs =>
      match a with
      | none => xs = [] ∧ K M (.int .i64 (min m n : Nat)) H
      | some ⟨l, o, s⟩ => (s = none ∨ s = some 1) ∧ ∃ cs z, H[l]? = some (some (.cells cs z)) ∧ xs.all one = true ∧ o + xs.length ≤ cs.length ∧ K M (.int .i64 (min m n : Nat)) (H.set l (some (.cells (setL cs o xs) z)))
  | _, _ => False

def evOp (P : Program) (op : Op) (M : Mem) (F : Fr) (H : Hp) (K : Mem → List Nat → Value → Hp → Prop) : Prop :=
  match op with
  | .alloc T => ∃ z, zeroOf P T = some z ∧ flat z = true ∧ K M [] (.pointer (some ⟨H.length, 0, none⟩)) (H ++ [some (.cells (cellsL z) 0)])
  | .box _ x => with1 F x fun v => K M [] (.pointer (some ⟨H.length, 0, none⟩)) (H ++ [some (.cells (cellsL v) 0)])
  | .buildSlice t n parts => ∃ el sz z, P.underlying t = some (.slice el) ∧ szOf P el = some sz ∧ zeroOf P el = some z ∧ flat z = true ∧ (cellsL z).length = sz ∧ n * sz ≤ 2 ^ 24 ∧
      evParts (fun i => some (i * sz, sz)) F parts.toList (n * sz) fun l => K M [] (.slice (some ⟨H.length, 0, none⟩) n n) (H ++ [some (.cells (fillL (zl (cellsL z) n) l) 0)])
  | .store T x y => with1 F x fun v => with1 F y fun u => evStore P T v u H fun H' => K M [] undef H'
  | .makeSlice t x y => with1 F x fun v => with1 F y fun u => match v, u with
    | .int _ l, .int _ c => ∃ el sz z by', P.underlying t = some (.slice el) ∧ szOf P el = some sz ∧ zeroOf P el = some z ∧ flat z = true ∧ (cellsL z).length = sz ∧ bytesT P el = some by' ∧
        0 ≤ l ∧ l ≤ c ∧ c ≤ 2 ^ 48 ∧ by' * c ≤ 2 ^ 48 ∧ K M [] (.slice (some ⟨H.length, 0, none⟩) l.toNat c.toNat) (H ++ [some (.cells (zl (cellsL z) c.toNat) 0)])
    | _, _ => False
  | .call ⟨.builtin .append, args, ts⟩ => withL F args.toList fun l => evAppend P ts.toList l M H fun M v H => K M [] v H
  | .call ⟨.builtin .copy, args, ts⟩ => withL F args.toList fun l => evCopy P ts.toList l M H fun M v H => K M [] v H
  | .call ⟨.value f, args, _⟩ => with1 F f fun vf => match vf with
    | .func (.func g) first cap => withL F args.toList fun l => (∀ args w, (callFunc g args).run P w = .ok (.enter g args) w) ∧ ∃ I, acalls P g (first.toList ++ l ++ cap.toList) M H I fun M v H => K M I v H
    | _ => False
  | op => evQ P op M F H fun v => K M [] v H

variable {N : Nat} {M : Mem} {F : Fr} {H : Hp} {K : Mem → List Nat → Value → Hp → Prop} {X : Fx} {e : Env} {a : Act} {w : World} {next : Act → World → Prop} {Q : Exit → Act → World → Prop} {o : Oper}

theorem cellsAt_obj {e : Env} {w : World} {L : Loc} {cs : List Value} {arr : Array Value} {T : TypeId} {fz : Nat × Nat} {room : Nat} (h : w.heap[L.blk]? = some (.cells arr T fz)) (pre post : List Value) (hp : pre.length = L.base) (hq : room ≤ post.length)
    (ha : arr = (pre ++ cs.map (cv e) ++ post).toArray) : cellsAt e w L cs room := by
  refine ⟨arr, T, fz, h, by subst ha; simp; omega, fun j v hj => ?_⟩
  have hlt := (List.getElem?_eq_some_iff.1 hj).1
  subst ha
  simp only [List.getElem?_toArray]
  rw [List.append_assoc, List.getElem?_append_right (by omega), hp, Nat.add_sub_cancel_left, List.getElem?_append_left (by simpa using hlt), List.getElem?_map, hj]
  rfl

/-- A new block of cells. -/
theorem Then.alloc (ht : Then M X e H a o.dst K next) (he : Emb M X e H w) {cs : List Value} {T : TypeId} {z more : Nat} (post : List Value) (hpost : more * z ≤ post.length) (hz : z = 0 → more = 0) (hk : ∀ v ∈ cs, Sc H.length M.next v) {v : Value} (hs : Sc (H.length + 1) M.next v) (h : K M [] v (H ++ [some (.cells cs z)])) :
    next (a.put o.dst (cv (ext e H.length ⟨w.heap.size, 0, more, false⟩) v)) (w.alloc (.cells (cs.map (cv e) ++ post).toArray T (0, 0))) := by
  refine ht M _ [] v _ _ (.refl M) (ext_agr _ _ _ _) (by simp) (he.alloc (.cells cs z) hk _ more ?_) (by simpa using hs) h
  have hg : (w.alloc (.cells (cs.map (cv e) ++ post).toArray T (0, 0))).heap[w.heap.size]? = some (.cells (cs.map (cv e) ++ post).toArray T (0, 0)) := by
    show (w.heap.push _)[w.heap.size]? = _
    simp
  exact .inr ⟨rfl, hz, ⟨_, T, hg⟩, cellsAt_obj (L := ⟨w.heap.size, 0, more, false⟩) hg [] post rfl hpost (by simp)⟩
theorem Then.alloc0 (ht : Then M X e H a o.dst K next) (he : Emb M X e H w) {cs : List Value} {T : TypeId} (hk : ∀ v ∈ cs, Sc H.length M.next v) {v : Value} (hs : Sc (H.length + 1) M.next v) (h : K M [] v (H ++ [some (.cells cs 0)])) :
    next (a.put o.dst (cv (ext e H.length ⟨w.heap.size, 0, 0, false⟩) v)) (w.alloc (.cells (cs.map (cv e)).toArray T (0, 0))) := by
  have := ht.alloc (T := T) he (z := 0) (more := 0) [] (by simp) (fun _ => rfl) hk hs h
  simpa using this

theorem evOp_quiet {op : Op} (h : evQ P op M F H fun v => K M [] v H) (ho : o.op = op) (hr : Rel N M X e F H a w) (ht : Then M X e H a o.dst K next) : o.wp P a w next Q := by
  obtain ⟨u, ⟨h1, h2⟩, h3⟩ := evQ_run (X := X) (e := e) h
  exact wp_value (h1 o N a w ho hr.fr hr.emb) (ht.here hr.emb (h2 hr.emb.scH hr.sc) h3)

theorem cv_newp (e : Env) (n b : Nat) (m : Nat) : cv (ext e n ⟨b, 0, m, false⟩) (.pointer (some ⟨n, 0, none⟩)) = .pointer (some ⟨b, 0, none⟩) := by simp [adr]
theorem cv_news (e : Env) (n b k c : Nat) (m : Nat) : cv (ext e n ⟨b, 0, m, false⟩) (.slice (some ⟨n, 0, none⟩) k c) = .slice (some ⟨b, 0, none⟩) k (c + m) := by simp [adr, slV, locOf, moreOf]

theorem evOp_alloc {T : TypeId} (h : evOp P (.alloc T) M F H K) (ho : o.op = .alloc T) (hr : Rel N M X e F H a w) (ht : Then M X e H a o.dst K next) : o.wp P a w next Q := by
  obtain ⟨z, hz, hf, hk⟩ := h
  have hn := ht.alloc0 (T := T) hr.emb (cs := cellsL z) (fun v hv e e' _ => by rw [flat_agg_all hf v hv e, flat_agg_all hf v hv e']) (Sc_own (by omega)) hk
  refine wp_value ?_ hn
  simp only [execOp, ho, Instr.alloc, Sem.run_bind, run_zero' hz, Result.andThen_ok, newVar, newRow, run_newObj, Sem.run_pure, alloc_obj, cv_newp]
  congr 3
  apply Array.ext'
  rw [cellsL_cells]
  simp only [← cellsL_cv, flat_cv e hf]

theorem evOp_box {T : TypeId} {x : Operand} (h : evOp P (.box T x) M F H K) (ho : o.op = .box T x) (hr : Rel N M X e F H a w) (ht : Then M X e H a o.dst K next) : o.wp P a w next Q := by
  obtain ⟨v, hv, hk⟩ := h
  have hn := ht.alloc0 (T := T) hr.emb (cs := cellsL v) (sc_cells (opd_sc hr.sc hv)) (Sc_own (by omega)) hk
  refine wp_value ?_ hn
  simp only [execOp, ho, Instr.box, Sem.run_bind, Result.andThen_ok, newVar, newRow, run_newObj, Sem.run_pure, alloc_obj, cv_newp, opd_eval hr.fr hv]
  congr 3
  apply Array.ext'
  rw [cellsL_cells]
  simp only [← cellsL_cv]

theorem evOp_store {T : TypeId} {x y : Operand} (h : evOp P (.store T x y) M F H K) (ho : o.op = .store T x y) (hr : Rel N M X e F H a w) (ht : Then M X e H a o.dst K next) : o.wp P a w next Q := by
  obtain ⟨v, hv, u, hu, hk⟩ := h
  obtain ⟨H', w', h1, h2, h3, h4⟩ := evStore_run hk hr.emb (opd_sc hr.sc hu)
  have hn := ht M e [] undef H' w' (.refl M) (.refl _ _ _ _) (by omega) h2 (Sc.flat (by rfl) _ _) h4
  rw [cv_undef] at hn
  refine wp_skipped ?_ hn
  simp only [execOp, ho, Sem.run_bind, opd_eval hr.fr hv, opd_eval hr.fr hu, h1, Result.andThen_ok, Sem.run_pure]

theorem evOp_buildSlice {t n : Nat} {parts : Array (Nat × Operand)} (h : evOp P (.buildSlice t n parts) M F H K) (ho : o.op = .buildSlice t n parts) (hr : Rel N M X e F H a w) (ht : Then M X e H a o.dst K next) : o.wp P a w next Q := by
  obtain ⟨el, sz, z, h1, h2, h3, h4, h5, h6, hp⟩ := h
  obtain ⟨l, h7, h8, hk⟩ := evParts_run _ _ _ hp
  have hzs : ∀ v ∈ zl (cellsL z) n, Sc H.length M.next v := fun v hv e e' _ => by rw [flat_agg_all h4 v (zl_mem hv) e, flat_agg_all h4 v (zl_mem hv) e']
  have hn := ht.alloc0 (T := el) hr.emb (cs := fillL (zl (cellsL z) n) l) (fillL_all l _ (h8 _ _ hr.sc) hzs) (Sc_ownslice (by omega)) hk
  refine wp_value ?_ hn
  have hz : (zl (cellsL z) n).toArray.map (cv e) = (zl (cellsL z) n).toArray := by
    simp only [List.map_toArray]
    congr 1
    rw [List.map_congr_left (g := id) fun v hv => flat_agg_all h4 v (zl_mem hv) e]
    simp
  have hfill := h7 e N a (zl (cellsL z) n).toArray hr.fr (by simp [zl_length, h5])
  rw [hz] at hfill
  have hzz : z.cells = (cellsL z).toArray := by apply Array.ext'; rw [cellsL_cells]
  have hfill2 : Instr.fill (fun i => some (i * sz, sz)) (zl (cellsL z) n).toArray (parts.toList.map fun x => (x.fst, a.eval x.snd)) = some (Array.map (cv e) (fillL (zl (cellsL z) n).toArray.toList l).toArray) := hfill
  by_cases h0 : n * sz = 0
  · have hr0 : (Array.range (n * sz)).map (fun i => (#[] : Array Value)[i % (#[] : Array Value).size]!) = (zl (cellsL z) n).toArray := by
      rw [h0]
      have : zl (cellsL z) n = [] := List.length_eq_zero_iff.1 (by rw [zl_length, h5, h0])
      rw [this]; simp
    simp only [execOp, ho, Instr.buildSlice, Sem.run_bind, run_underlying' h1, Result.andThen_ok, run_sizeOf' h2]
    rw [if_neg (by omega), if_pos h0]
    simp only [Sem.run_bind, Sem.run_pure, Result.andThen_ok, hr0, Array.toList_map]
    rw [hfill2]
    simp only [Sem.run_bind, newRow, run_newObj, Result.andThen_ok, Sem.run_pure, alloc_obj, cv_news, Nat.add_zero, List.map_toArray]
  · have hr0 : (Array.range (n * sz)).map (fun i => z.cells[i % z.cells.size]!) = (zl (cellsL z) n).toArray := by
      rw [hzz, ← h5, zeros_eq]
    simp only [execOp, ho, Instr.buildSlice, Sem.run_bind, run_underlying' h1, Result.andThen_ok, run_sizeOf' h2]
    rw [if_neg (by omega), if_neg h0]
    simp only [Sem.run_bind, run_zero' h3, Sem.run_pure, Result.andThen_ok, hr0, Array.toList_map]
    rw [hfill2]
    simp only [Sem.run_bind, newRow, run_newObj, Result.andThen_ok, Sem.run_pure, alloc_obj, cv_news, Nat.add_zero, List.map_toArray]

theorem evOp_call {f : Operand} {args : Array Operand} {ts : Array TypeId} (h : evOp P (.call ⟨.value f, args, ts⟩) M F H K) (ho : o.op = .call ⟨.value f, args, ts⟩) (hr : Rel N M X e F H a w) (ht : Then M X e H a o.dst K next) : o.wp P a w next Q := by
  obtain ⟨vf, hvf, h⟩ := h
  split at h
  · rename_i g first cap
    obtain ⟨l, h1, h2, hb, I, hc⟩ := withL_run _ _ h
    have hsf := Sc_func.1 (opd_sc hr.sc hvf)
    have hcall := hc.out X e w hr.emb (by
      intro v hv
      simp only [List.mem_append] at hv
      rcases hv with (hv | hv) | hv
      · exact hsf.1 v hv
      · exact h2 _ _ hr.sc v hv
      · exact hsf.2 v hv)
    have e1 : args.map a.eval = (l.map (cv e)).toArray := by apply Array.ext'; rw [Array.toList_map]; exact h1 e N a hr.fr
    unfold Oper.wp
    have hrun : (execOp a.eval o).run P w = .ok (.enter g ((first.toList ++ l ++ cap.toList).map (cv e)).toArray) w := by
      simp only [execOp, ho, resolve, e1, opd_eval hr.fr hvf, cv_func, Deferred.ofValue, Sem.run_bind, Sem.run_pure, Result.andThen_ok, invoke, hb]
      congr 2
      apply Array.ext'
      simp
    rw [hrun]
    refine hcall.mono fun x w' ⟨M', e', v, H', g1, g2, g3, g4, g5, g6, g7⟩ => ?_
    subst g4
    exact ht M' e' I v H' w' g1 g2 g3 g5 g6 g7
  · exact h.elim

theorem evOp_makeSlice {t : TypeId} {x y : Operand} (h : evOp P (.makeSlice t x y) M F H K) (ho : o.op = .makeSlice t x y) (hr : Rel N M X e F H a w) (ht : Then M X e H a o.dst K next) : o.wp P a w next Q := by
  obtain ⟨v, hv, u, hu, h⟩ := h
  split at h
  · rename_i k l k' c
    obtain ⟨el, sz, z, by', u1, u2, u3, u4, u5, u6, c1, c2, c3, c4, hk⟩ := h
    obtain ⟨ti, i1, i2, i3⟩ := run_bytes (P := P) u6 w
    have hwl : IntKind.i64.wrap l = l := by simp [IntKind.wrap, IntKind.bits, IntKind.signed]; omega
    have hwc : IntKind.i64.wrap c = c := by simp [IntKind.wrap, IntKind.bits, IntKind.signed]; omega
    have hzs : ∀ v ∈ zl (cellsL z) c.toNat, Sc H.length M.next v := fun v hv e e' _ => by rw [flat_agg_all u4 v (zl_mem hv) e, flat_agg_all u4 v (zl_mem hv) e']
    have hzc : (zl (cellsL z) c.toNat).map (cv e) = zl (cellsL z) c.toNat := by
      rw [List.map_congr_left (g := id) fun v hv => flat_agg_all u4 v (zl_mem hv) e]
      simp
    have hn := ht.alloc0 (T := el) (w := w) hr.emb (cs := zl (cellsL z) c.toNat) hzs (Sc_ownslice (by omega)) hk
    refine wp_value ?_ hn
    have hzz : z.cells = (cellsL z).toArray := by apply Array.ext'; rw [cellsL_cells]
    have hlarge : (decide (c < 0) || decide ((by' : Int) * c > 2 ^ 48) || decide (l < 0) || decide (l > c)) = false := by
      simp; omega
    simp only [execOp, ho, opd_eval hr.fr hv, opd_eval hr.fr hu, cv_int, Instr.makeSlice, Sem.run_bind, run_underlying' u1, Result.andThen_ok, asInt, asIntOf, Sem.run_pure, i1, i2, hwl, hwc]
    rw [if_neg (by rw [hlarge]; simp)]
    simp only [Sem.run_bind, run_askRoom, Result.andThen_ok, run_sizeOf' u2]
    by_cases h0 : c.toNat * sz = 0
    · rw [if_pos h0]
      have : zl (cellsL z) c.toNat = [] := List.length_eq_zero_iff.1 (by rw [zl_length, u5, h0])
      simp only [Sem.run_bind, Sem.run_pure, Result.andThen_ok, newRow, run_newObj, alloc_obj, cv_news, Nat.add_zero, this, h0]
      have hr0 : Array.range 0 = #[] := by rfl
      simp [hr0]
    · rw [if_neg h0]
      have hz := zeros_eq (cellsL z) c.toNat
      rw [u5] at hz
      simp only [Sem.run_bind, run_zero' u3, Sem.run_pure, Result.andThen_ok, newRow, run_newObj, alloc_obj, cv_news, Nat.add_zero, hzc, hzz, hz]
  · exact h.elim

theorem evOp_copy {args : Array Operand} {ts : Array TypeId} (h : evOp P (.call ⟨.builtin .copy, args, ts⟩) M F H K) (ho : o.op = .call ⟨.builtin .copy, args, ts⟩) (hr : Rel N M X e F H a w) (ht : Then M X e H a o.dst K next) : o.wp P a w next Q := by
  obtain ⟨l, h1, h2, hq⟩ := withL_run _ _ h
  obtain ⟨ts⟩ := ts
  have e1 : args.map a.eval = (l.map (cv e)).toArray := by apply Array.ext'; rw [Array.toList_map]; exact h1 e N a hr.fr
  unfold evCopy at hq
  split at hq
  · rename_i t tr sa n c b m d heq1
    subst heq1
    obtain ⟨el, sz, u1, u2, hx⟩ := hq
    obtain ⟨xs, x1, x2, x3, hin⟩ := evRead_run (P := P) hx
    have hxs := x2 hr.emb.scH
    have hfc := x1 X e w hr.emb m d
    rw [cv_sl] at hfc
    have hfc' : (Builtin.firstCells sz (Nat.min m n) (.slice (realB e b) m (realC e d b))).run P w = .ok (xs.map (cv e)).toArray w := hfc
    have hpre : ∀ w', ((match realB e sa with | some a => (do storeCells a (xs.map (cv e)); pure (goInt (Nat.min m n))) | _ => pure (goInt (Nat.min m n)) : Sem Value).run P w = .ok (goInt (Nat.min m n)) w') →
        (execOp a.eval o).run P w = .ok (.value (.int .i64 (min m n : Nat))) w' := by
      intro w' hv
      simp only [execOp, ho, resolve, e1, Sem.run_bind, Sem.run_pure, Result.andThen_ok, invoke, builtin, Builtin.copy_, List.map_cons, List.map_nil, cv_sl]
      simp only [List.getElem?_toArray, List.getElem?_cons_zero, List.getElem?_cons_succ, Sem.run_bind, run_underlying' u1, Result.andThen_ok, run_sizeOf' u2, Builtin.lenOf, Sem.run_pure, hfc']
      cases hB : realB e sa <;> simp only [hB] at hv ⊢ <;> rw [hv] <;> rfl
    split at hin
    · obtain ⟨rfl, hk⟩ := hin
      refine wp_value (hpre w (by simp [realB])) ?_
      have := ht.here hr.emb (v := .int .i64 (min m n : Nat)) (Sc.flat (by rfl) _ _) hk
      simpa using this
    · rename_i l0 o0 s0
      obtain ⟨hs, cs, z, hl, hone, hlen, hk⟩ := hin
      obtain ⟨w', hrr, hemb⟩ := hr.emb.write (P := P) hl o0 xs hone hlen hxs
      have hn := ht M e [] (.int .i64 (min m n : Nat)) _ w' (.refl M) (.refl _ _ _ _) (by simp) hemb (Sc.flat (by rfl) _ _) hk
      rw [cv_int] at hn
      have hloc : locOf e ⟨l0, o0, s0⟩ = e.o l0 := by rcases hs with rfl | rfl <;> rfl
      have hadr : adr e ⟨l0, o0, s0⟩ = ⟨(e.o l0).blk, (e.o l0).base + o0, none⟩ := by rcases hs with rfl | rfl <;> rfl
      refine wp_value (hpre w' ?_) hn
      simp only [realB, hloc]
      cases hnil : (e.o l0).nil with
      | true =>
        have hcs : cs = [] := rowOf_nil hr.emb (a := ⟨l0, o0, none⟩) (by simp [rowOf, hl]) hnil
        subst hcs
        have hxe : xs = [] := List.length_eq_zero_iff.1 (by simp only [List.length_nil] at hlen; omega)
        subst hxe
        simp only [List.map_nil, storeCells, Sem.run_pure, Result.ok.injEq, true_and] at hrr
        simp [hrr]
      | false => simp only [Bool.false_eq_true, if_false, Sem.run_bind, hadr, hrr, Result.andThen_ok, Sem.run_pure]
  · exact hq.elim
end
end Go.Snb
