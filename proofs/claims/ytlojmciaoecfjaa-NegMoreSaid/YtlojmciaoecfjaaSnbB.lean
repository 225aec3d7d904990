/- Frames and single operations over the abstract memory. -/
import Derived.Test.YtlojmciaoecfjaaSnbA
set_option linter.all false
namespace Go.Snb
open Go

abbrev Fr := List (Nat × Value)
def fget : Fr → Nat → Option Value
  | [], _ => none
  | (i, v) :: r, t => if i = t then some v else fget r t

structure FrOk (e : Env) (N : Nat) (F : Fr) (a : Act) : Prop where
  defers : a.defers = []
  size : a.tmps.size = N
  get : ∀ t v, fget F t = some v → a.tmps.getD t undef = cv e v

def ScF (n m : Nat) (F : Fr) : Prop := ∀ t v, fget F t = some v → Sc n m v

structure Rel (N : Nat) (M : Mem) (X : Fx) (e : Env) (F : Fr) (H : Hp) (a : Act) (w : World) : Prop where
  emb : Emb M X e H w
  fr : FrOk e N F a
  sc : ScF H.length M.next F

def opd (F : Fr) : Operand → Option Value
  | .tmp t => fget F t
  | .const v => if flat v = true then some v else none
  | .global g => some (.pointer (some ⟨g, 0, some 3⟩))
  | .func f => some (.func (.func f) #[] #[])

theorem opd_eval {e : Env} {N : Nat} {F : Fr} {a : Act} (h : FrOk e N F a) {x : Operand} {v : Value} (hx : opd F x = some v) : a.eval x = cv e v := by
  cases x with
  | tmp t => exact h.get t v hx
  | const u =>
    simp only [opd] at hx
    split at hx
    · rename_i hf; cases hx; exact (flat_cv e hf).symm
    · cases hx
  | global g => simp only [opd] at hx; cases hx; simp [Act.eval, adr]
  | func f => simp only [opd] at hx; cases hx; simp [Act.eval]
theorem opd_sc {n m : Nat} {F : Fr} (h : ScF n m F) {x : Operand} {v : Value} (hx : opd F x = some v) : Sc n m v := by
  cases x with
  | tmp t => exact h t v hx
  | const u =>
    simp only [opd] at hx
    split at hx
    · rename_i hf; cases hx; exact Sc.flat hf n m
    · cases hx
  | global g => simp only [opd] at hx; cases hx; intro e e' _; simp [adr]
  | func f => simp only [opd] at hx; cases hx; intro e e' _; simp

/-- Two ways, by a Bool. -/
def BSel (t : Bool) (A B : Prop) : Prop := (t = true → A) ∧ (t = false → B)
@[simp] theorem BSel_true (A B : Prop) : BSel true A B ↔ A := by simp [BSel]
@[simp] theorem BSel_false (A B : Prop) : BSel false A B ↔ B := by simp [BSel]

def with1 (F : Fr) (x : Operand) (k : Value → Prop) : Prop := ∃ v, opd F x = some v ∧ k v
def withL (F : Fr) : List Operand → (List Value → Prop) → Prop
  | [], k => k []
  | x :: r, k => with1 F x fun v => withL F r fun l => k (v :: l)

section
variable {P : Program}

/-- What is asked behind an operation. -/
def Then (M : Mem) (X : Fx) (e : Env) (H : Hp) (a : Act) (dst : Option Tmp) (K : Mem → List Nat → Value → Hp → Prop) (next : Act → World → Prop) : Prop :=
  ∀ M' e' I v H' w', M.le M' → Agr H.length I M.next e e' → H.length ≤ H'.length → Emb M' X e' H' w' → Sc H'.length M'.next v → K M' I v H' → next (a.put dst (cv e' v)) w'

theorem Then.here {M : Mem} {X : Fx} {e : Env} {H : Hp} {a : Act} {dst : Option Tmp} {K : Mem → List Nat → Value → Hp → Prop} {next : Act → World → Prop} (h : Then M X e H a dst K next)
    {w : World} (he : Emb M X e H w) {v : Value} (hs : Sc H.length M.next v) (hk : K M [] v H) : next (a.put dst (cv e v)) w :=
  h M e [] v H w (.refl M) (.refl _ _ _ _) (Nat.le_refl _) he hs hk

theorem wp_value {o : Oper} {a : Act} {w w' : World} {next : Act → World → Prop} {Q : Exit → Act → World → Prop} {u : Value}
    (hr : (execOp a.eval o).run P w = .ok (.value u) w') (h : next (a.put o.dst u) w') : o.wp P a w next Q := by
  unfold Oper.wp; rw [hr]; exact h
theorem wp_skipped {o : Oper} {a : Act} {w w' : World} {next : Act → World → Prop} {Q : Exit → Act → World → Prop}
    (hr : (execOp a.eval o).run P w = .ok .skip w') (h : next (a.put o.dst undef) w') : o.wp P a w next Q := by
  unfold Oper.wp; rw [hr]; exact h

/-! ### Tables -/
def szOf (P : Program) (t : TypeId) : Option Nat := (P.info? t).map (·.size)
def zeroOf (P : Program) (t : TypeId) : Option Value := (P.info? t).bind (·.zero)
def aggB (P : Program) (t : TypeId) : Option Bool := (P.underlying t).map fun | .struct _ => true | .array _ _ => true | _ => false

theorem run_underlying' {t : TypeId} {d : TypeDesc} (h : P.underlying t = some d) (w : World) : (underlying t).run P w = .ok d w := by
  simp [underlying, h]
theorem run_sizeOf' {t : TypeId} {n : Nat} (h : szOf P t = some n) (w : World) : (sizeOf t).run P w = .ok n w := by
  unfold szOf at h
  cases hi : P.info? t with
  | none => simp [hi] at h
  | some i => simp [hi] at h; simp [sizeOf, typeInfo, hi, h]
theorem run_zero' {t : TypeId} {z : Value} (h : zeroOf P t = some z) (w : World) : (zeroValue t).run P w = .ok z w := by
  unfold zeroOf at h
  cases hi : P.info? t with
  | none => simp [hi] at h
  | some i => simp [hi] at h; simp [zeroValue, typeInfo, hi, h]
theorem run_isAgg' {t : TypeId} {b : Bool} (h : aggB P t = some b) (w : World) : (isAgg t).run P w = .ok b w := by
  unfold aggB at h
  cases hi : P.underlying t with
  | none => simp [hi] at h
  | some d =>
    simp [hi] at h
    subst h
    cases d <;> simp [isAgg, run_underlying' hi]

/-! ### Cells -/
theorem add_adr (b o n : Nat) : Addr.add ⟨b, o, none⟩ n = ⟨b, o + n, none⟩ := by
  unfold Addr.add; split
  · rename_i h; subst h; rfl
  · rfl

/-- The row that an address lies in. -/
def rowOf (M : Mem) (H : Hp) (a : Addr) : Option (List Value) :=
  match a.spot with
  | none => match H[a.block]? with | some (some (.cells cs _)) => some cs | _ => none
  | some 0 => M.ro a.block
  | some 1 => match H[a.block]? with | some (some (.cells cs _)) => some cs | _ => none
  | some 2 => M.ro a.block
  | _ => none

theorem cellsAt.cell {e : Env} {w : World} {L : Loc} {cs : List Value} {room : Nat} (h : cellsAt e w L cs room) {i : Nat} {v : Value} (hi : cs[i]? = some v) :
    w.cell? ⟨L.blk, L.base + i, none⟩ = some (cv e v) := by
  obtain ⟨arr, T, f, h1, h2, h3⟩ := h
  simp only [World.cell?, h1]
  simpa using h3 i v hi
theorem own_cells {M : Mem} {X : Fx} {e : Env} {H : Hp} {w : World} (h : Emb M X e H w) {l : Nat} {cs : List Value} {z : Nat} (hl : H[l]? = some (some (.cells cs z))) {i : Nat} {v : Value} (hi : cs[i]? = some v) :
    (e.o l).nil = false ∧ ∃ room, cellsAt e w (e.o l) cs room := by
  rcases h.own l _ hl with ⟨_, h2, _⟩ | ⟨h1, _, _, h4⟩
  · subst h2; simp at hi
  · exact ⟨h1, _, h4⟩
theorem row_cells {e : Env} {w : World} {L : Loc} {cs : List Value} (h : rowAt e w L cs) {i : Nat} {v : Value} (hi : cs[i]? = some v) : L.nil = false ∧ cellsAt e w L cs 0 := by
  rcases h with ⟨_, h2, _⟩ | ⟨h1, h4⟩
  · subst h2; simp at hi
  · exact ⟨h1, h4⟩
/-- A cell of a row. -/
theorem row_cell {M : Mem} {X : Fx} {e : Env} {H : Hp} {w : World} (h : Emb M X e H w) {a : Addr} {cs : List Value} (hr : rowOf M H a = some cs) {j : Nat} {v : Value} (hj : cs[a.off + j]? = some v) :
    (locOf e a).nil = false ∧ w.cell? ((adr e a).add j) = some (cv e v) := by
  obtain ⟨b, o, s⟩ := a
  have own : ∀ {l : Nat}, (match H[l]? with | some (some (.cells cs _)) => some cs | _ => none) = some cs → (e.o l).nil = false ∧ w.cell? (Addr.add ⟨(e.o l).blk, (e.o l).base + o, none⟩ j) = some (cv e v) := by
    intro l hl
    split at hl
    · rename_i cs' z hz
      cases hl
      obtain ⟨h1, room, h2⟩ := own_cells h hz hj
      exact ⟨h1, by rw [add_adr, Nat.add_assoc]; exact h2.cell hj⟩
    · cases hl
  have row : ∀ {l : Nat}, M.ro l = some cs → (e.f l).nil = false ∧ w.cell? (Addr.add ⟨(e.f l).blk, (e.f l).base + o, none⟩ j) = some (cv e v) := by
    intro l hl
    obtain ⟨h1, h2⟩ := row_cells (h.ro l cs hl) hj
    exact ⟨h1, by rw [add_adr, Nat.add_assoc]; exact h2.cell hj⟩
  match s with
  | none => exact own hr
  | some 0 => exact row hr
  | some 1 => exact own hr
  | some 2 => exact row hr
  | some (s + 3) => simp [rowOf] at hr
theorem row_sc {M : Mem} {H : Hp} {X : Fx} {e : Env} {w : World} (h : Emb M X e H w) {a : Addr} {cs : List Value} (hr : rowOf M H a = some cs) : ∀ v ∈ cs, Sc H.length M.next v := by
  have own : ∀ {l : Nat}, (match H[l]? with | some (some (.cells cs _)) => some cs | _ => none) = some cs → ∀ v ∈ cs, Sc H.length M.next v := by
    intro l hl
    split at hl
    · rename_i cs' z hz
      cases hl
      exact h.sc l _ hz
    · cases hl
  have row : ∀ {l : Nat}, M.ro l = some cs → ∀ v ∈ cs, Sc H.length M.next v := fun hl v hv => ((h.rosc _ _ hl).2 v hv).mono (Nat.zero_le _) (Nat.le_refl _)
  obtain ⟨b, o, s⟩ := a
  match s with
  | none => exact own hr
  | some 0 => exact row hr
  | some 1 => exact own hr
  | some 2 => exact row hr
  | some (s + 3) => simp [rowOf] at hr

/-- All scopes at once. -/
def ScH (M : Mem) (H : Hp) : Prop := (∀ (i : Nat) k, H[i]? = some (some k) → k.sc H.length M.next) ∧ ∀ i cs, M.ro i = some cs → ∀ v ∈ cs, Sc 0 M.next v
theorem Emb.scH {M : Mem} {H : Hp} {X : Fx} {e : Env} {w : World} (h : Emb M X e H w) : ScH M H := ⟨h.sc, fun i cs hi => (h.rosc i cs hi).2⟩
theorem ScH.row {M : Mem} {H : Hp} (h : ScH M H) {a : Addr} {cs : List Value} (hr : rowOf M H a = some cs) : ∀ v ∈ cs, Sc H.length M.next v := by
  have own : ∀ {l : Nat}, (match H[l]? with | some (some (.cells cs _)) => some cs | _ => none) = some cs → ∀ v ∈ cs, Sc H.length M.next v := by
    intro l hl
    split at hl
    · rename_i cs' z hz
      cases hl
      exact h.1 l _ hz
    · cases hl
  have row : ∀ {l : Nat}, M.ro l = some cs → ∀ v ∈ cs, Sc H.length M.next v := fun hl v hv => (h.2 _ _ hl v hv).mono (Nat.zero_le _) (Nat.le_refl _)
  obtain ⟨b, o, s⟩ := a
  match s with
  | none => exact own hr
  | some 0 => exact row hr
  | some 1 => exact own hr
  | some 2 => exact row hr
  | some (s + 3) => simp [rowOf] at hr

/-! ### Loads -/
def evLoad (P : Program) (T : TypeId) (v : Value) (M : Mem) (H : Hp) (K : Value → Prop) : Prop :=
  match v with
  | .pointer (some a) => ∃ cs, rowOf M H a = some cs ∧ ∃ g, aggB P T = some g ∧
      BSel g (∃ n, szOf P T = some n ∧ a.off + n ≤ cs.length ∧ K (.agg ((cs.drop a.off).take n).toArray)) (∃ u, cs[a.off]? = some u ∧ K u)
  | _ => False

theorem run_loadVar_agg {w : World} {T : TypeId} {a : Addr} {vs : List Value} (hg : aggB P T = some true) (hn : szOf P T = some vs.length)
    (h : ∀ j v, vs[j]? = some v → w.cell? (a.add j) = some v) : (loadVar T a).run P w = .ok (.agg vs.toArray) w := by
  simp [loadVar, run_isAgg' hg, run_sizeOf' hn, run_loadCells_list w a vs h]
theorem run_loadVar_one {w : World} {T : TypeId} {a : Addr} {v : Value} (hg : aggB P T = some false) (h : w.cell? a = some v) : (loadVar T a).run P w = .ok v w := by
  simp [loadVar, run_isAgg' hg, h]
theorem add_zero' (a : Addr) : a.add 0 = a := by simp [Addr.add]

theorem evLoad_run {T : TypeId} {v : Value} {M : Mem} {H : Hp} {K : Value → Prop} (h : evLoad P T v M H K) :
    ∃ u, (∀ X e w, Emb M X e H w → (Instr.loadAt T (cv e v)).run P w = .ok (cv e u) w) ∧ (ScH M H → Sc H.length M.next u) ∧ K u := by
  unfold evLoad at h
  split at h
  · rename_i a
    obtain ⟨cs, hl, g, hg, hb⟩ := h
    cases g with
    | true =>
      simp only [BSel_true] at hb
      obtain ⟨n, hn, hlen, hk⟩ := hb
      refine ⟨_, ?_, ?_, hk⟩
      · intro X e w he
        have hlen' : ((cs.drop a.off).take n).length = n := by simp; omega
        have := run_loadVar_agg (P := P) (w := w) (T := T) (a := adr e a) (vs := ((cs.drop a.off).take n).map (cv e)) hg (by rw [List.length_map, hlen']; exact hn) ?_
        · simp only [cv_ptr, Instr.loadAt, Instr.sureAddr, Sem.run_bind, Sem.run_pure, Result.andThen_ok, this, cv_agg]
          simp
        · intro j u hj
          rw [List.getElem?_map] at hj
          cases hj' : ((cs.drop a.off).take n)[j]? with
          | none => simp [hj'] at hj
          | some u' =>
            simp [hj'] at hj
            subst hj
            rw [List.getElem?_take] at hj'
            split at hj'
            · rw [List.getElem?_drop] at hj'; exact (row_cell he hl hj').2
            · cases hj'
      · intro hH e1 e2 h12
        have hsc := hH.row hl
        simp only [cv_agg, List.map_toArray]
        rw [Sc.of_all (fun u hu => hsc u (List.mem_of_mem_drop (List.mem_of_mem_take hu))) e1 e2 h12]
    | false =>
      simp only [BSel_false] at hb
      obtain ⟨u, hu, hk⟩ := hb
      refine ⟨u, ?_, fun hH => hH.row hl u (List.mem_of_getElem? hu), hk⟩
      intro X e w he
      have hc := (row_cell he hl (j := 0) hu).2
      rw [add_zero'] at hc
      simp only [cv_ptr, Instr.loadAt, Instr.sureAddr, Sem.run_bind, Sem.run_pure, Result.andThen_ok, run_loadVar_one hg hc]
  · exact h.elim

/-! ### Stores -/
def setL (cs : List Value) (o : Nat) : List Value → List Value
  | [] => cs
  | v :: r => setL (cs.set o v) (o + 1) r
@[simp] theorem setL_length : ∀ (vs cs : List Value) (o : Nat), (setL cs o vs).length = cs.length
  | [], _, _ => rfl
  | v :: r, cs, o => by simp [setL, setL_length r]
theorem setL_map (f : Value → Value) : ∀ (vs cs : List Value) (o : Nat), (setL cs o vs).map f = setL (cs.map f) o (vs.map f)
  | [], _, _ => rfl
  | v :: r, cs, o => by simp [setL, setL_map f r, List.map_set]
theorem setL_all {p : Value → Prop} : ∀ (vs cs : List Value) (o : Nat), (∀ v ∈ vs, p v) → (∀ v ∈ cs, p v) → ∀ v ∈ setL cs o vs, p v
  | [], _, _, _, h => h
  | u :: r, cs, o, h1, h2 => by
    refine setL_all r _ _ (fun v hv => h1 v (by simp [hv])) fun v hv => ?_
    rcases List.mem_or_eq_of_mem_set hv with h | h
    · exact h2 v h
    · subst h; exact h1 _ (by simp)
theorem setL_get : ∀ (vs cs : List Value) (o j : Nat), o + vs.length ≤ cs.length → (setL cs o vs)[j]? = if o ≤ j ∧ j < o + vs.length then vs[j - o]? else cs[j]?
  | [], cs, o, j, _ => by simp [setL]; omega
  | v :: r, cs, o, j, h => by
    simp only [List.length_cons] at h
    simp only [setL]
    rw [setL_get r (cs.set o v) (o + 1) j (by simp; omega)]
    by_cases h1 : o + 1 ≤ j ∧ j < o + 1 + r.length
    · rw [if_pos h1, if_pos (by simp; omega)]
      obtain ⟨k, hk⟩ : ∃ k, j - o = k + 1 := ⟨j - o - 1, by omega⟩
      rw [hk, show j - (o + 1) = k by omega]; simp
    · rw [if_neg h1]
      by_cases h2 : j = o
      · subst h2
        rw [if_pos (by simp), List.getElem?_set_self (by omega)]
        simp
      · rw [List.getElem?_set_ne (by omega), if_neg (by simp; omega)]

theorem storeCells_run {b : Nat} {T : TypeId} : ∀ (vs : List Value) (w : World) (arr : Array Value) (o i : Nat), w.heap[b]? = some (.cells arr T (0, 0)) → (∀ v ∈ vs, one v = true) → o + i + vs.length ≤ arr.size →
    ∃ w' arr', (storeCells ⟨b, o, none⟩ vs i).run P w = .ok () w' ∧ w'.os = w.os ∧ w'.tape = w.tape ∧ w'.output = w.output ∧ w'.drawn = w.drawn ∧ w'.heap.size = w.heap.size ∧ (∀ c, c ≠ b → w'.heap[c]? = w.heap[c]?) ∧
      w'.heap[b]? = some (.cells arr' T (0, 0)) ∧ arr'.size = arr.size ∧ (∀ j, j < o + i ∨ o + i + vs.length ≤ j → arr'[j]? = arr[j]?) ∧ ∀ j v, vs[j]? = some v → arr'[o + i + j]? = some v
  | [], w, arr, o, i, hb, _, _ => ⟨w, arr, by simp [storeCells], rfl, rfl, rfl, rfl, rfl, fun _ _ => rfl, hb, rfl, fun _ _ => rfl, by simp⟩
  | v :: r, w, arr, o, i, hb, h1, hlen => by
    have hv := h1 v (by simp)
    simp only [List.length_cons] at hlen
    have hlt : o + i < arr.size := by omega
    have hc : w.cell? ⟨b, o + i, none⟩ = some (arr[o + i]) := by simp [World.cell?, hb, hlt]
    have hf : w.frozen? ⟨b, o + i, none⟩ = false := by simp [World.frozen?, hb]
    have hst : (store (⟨b, o + i, none⟩ : Addr) v).run P w = .ok () (w.setCell ⟨b, o + i, none⟩ v) := by
      rw [run_store P w _ v .plain (by rw [one_oneCell]; exact hv)]
      simp [hc, hf]
    have hblt := (Array.getElem?_eq_some_iff.1 hb).1
    have hheap : ∀ c, c ≠ b → (w.setCell ⟨b, o + i, none⟩ v).heap[c]? = w.heap[c]? := by
      intro c hcb
      simp only [World.setCell, Array.getElem?_modify]
      rw [if_neg (Ne.symm hcb)]
    have hb' : (w.setCell ⟨b, o + i, none⟩ v).heap[b]? = some (.cells (arr.setIfInBounds (o + i) v) T (0, 0)) := by
      simp only [World.setCell, Array.getElem?_modify, if_pos, hb]
      simp
    obtain ⟨w', arr', hr, ho, ht, hp, hd, hsz, hh, hb2, hs2, h3, h4⟩ := storeCells_run r _ (arr.setIfInBounds (o + i) v) o (i + 1) hb' (fun u hu => h1 u (by simp [hu])) (by simp; omega)
    refine ⟨w', arr', ?_, ho, ht, hp, hd, by rw [hsz]; simp [World.setCell], fun c hc => (hh c hc).trans (hheap c hc), hb2, by rw [hs2]; simp, ?_, ?_⟩
    · simp only [storeCells, Sem.run_bind, add_adr, hst, Result.andThen_ok]
      exact hr
    · intro j hj
      simp only [List.length_cons] at hj
      rw [h3 j (by omega), Array.getElem?_setIfInBounds_ne (by omega)]
    · intro j u hj
      cases j with
      | zero =>
        simp at hj; subst hj
        rw [Nat.add_zero, h3 (o + i) (by omega), Array.getElem?_setIfInBounds_self_of_lt hlt]
      | succ j =>
        have := h4 j u (by simpa using hj)
        rwa [show o + (i + 1) + j = o + i + (j + 1) by omega] at this

/-- Cells are written into a label's block. -/
theorem Emb.write {M : Mem} {X : Fx} {e : Env} {H : Hp} {w : World} (he : Emb M X e H w) {l : Nat} {cs : List Value} {z : Nat} (hl : H[l]? = some (some (.cells cs z))) (o : Nat) (vs : List Value)
    (h1 : vs.all one = true) (hlen : o + vs.length ≤ cs.length) (hs : ∀ v ∈ vs, Sc H.length M.next v) :
    ∃ w', (storeCells ⟨(e.o l).blk, (e.o l).base + o, none⟩ (vs.map (cv e))).run P w = .ok () w' ∧ Emb M X e (H.set l (some (.cells (setL cs o vs) z))) w' := by
  cases hvs : vs with
  | nil =>
    refine ⟨w, by simp [storeCells], ?_⟩
    have : H.set l (some (.cells (setL cs o []) z)) = H := by
      apply List.ext_getElem?
      intro i
      by_cases hi : i = l
      · subst hi; rw [List.getElem?_set_self (lt_of_some hl), hl]; rfl
      · rw [List.getElem?_set_ne (Ne.symm hi)]
    rw [this]; exact he
  | cons v0 r0 =>
    rw [← hvs]
    have hpos : 0 < vs.length := by rw [hvs]; simp
    rcases he.own l _ hl with ⟨_, h2, _⟩ | ⟨hn, hz, ⟨arr, T, ha⟩, arr2, T2, f2, ha2, hsz, hget⟩
    · subst h2; simp only [List.length_nil] at hlen; omega
    rw [ha] at ha2
    obtain ⟨rfl, rfl, rfl⟩ : arr = arr2 ∧ T = T2 ∧ (0, 0) = f2 := by simpa using ha2
    obtain ⟨w', arr', hr, ho, ht, hp, hd, hsz', hh, hb2, hs2, h3, h4⟩ := storeCells_run (P := P) (vs.map (cv e)) w arr ((e.o l).base + o) 0 ha
      (by intro u hu; simp only [List.mem_map] at hu; obtain ⟨u', hu', rfl⟩ := hu; rw [one_cv]; exact List.all_eq_true.1 h1 u' hu') (by simp; omega)
    refine ⟨w', hr, he.set hl (setL_all _ _ _ hs (he.sc l _ hl)) ho ht hp (by omega) (fun b o hb ho => by rw [hh b hb]; exact ho) hn ?_⟩
    refine .inr ⟨hn, hz, ⟨arr', T, hb2⟩, arr', T, (0, 0), hb2, by rw [setL_length, hs2]; exact hsz, ?_⟩
    intro j v hj
    rw [setL_get vs cs o j hlen] at hj
    split at hj
    · rename_i hr
      have := h4 (j - o) (cv e v) (by rw [List.getElem?_map, hj]; rfl)
      rwa [show (e.o l).base + o + 0 + (j - o) = (e.o l).base + j by omega] at this
    · rename_i hr
      rw [h3 _ (by simp; omega)]
      exact hget j v hj

def evStore (P : Program) (T : TypeId) (p v : Value) (H : Hp) (K : Hp → Prop) : Prop :=
  match p with
  | .pointer (some ⟨l, o, none⟩) => ∃ cs z, H[l]? = some (some (.cells cs z)) ∧ szOf P T = some (cellsL v).length ∧ (cellsL v).all one = true ∧ o + (cellsL v).length ≤ cs.length ∧
      K (H.set l (some (.cells (setL cs o (cellsL v)) z)))
  | _ => False

theorem sc_cells {n m : Nat} {v : Value} (h : Sc n m v) : ∀ u ∈ cellsL v, Sc n m u := by
  intro u hu e e' he
  have h1 := h e e' he
  have h2 : (cellsL v).map (cv e) = (cellsL v).map (cv e') := by rw [← cellsL_cv, ← cellsL_cv, h1]
  exact (List.map_inj_left.1 h2) u hu

theorem evStore_run {T : TypeId} {p v : Value} {M : Mem} {X : Fx} {H : Hp} {K : Hp → Prop} {e : Env} {w : World} (h : evStore P T p v H K) (he : Emb M X e H w) (hs : Sc H.length M.next v) :
    ∃ H' w', (Instr.storeAt T (cv e p) (cv e v)).run P w = .ok () w' ∧ Emb M X e H' w' ∧ H'.length = H.length ∧ K H' := by
  unfold evStore at h
  split at h
  · rename_i l o
    obtain ⟨cs, z, hl, hn, hone, hlen, hk⟩ := h
    obtain ⟨w', hr, hemb⟩ := he.write (P := P) hl o (cellsL v) hone hlen (sc_cells hs)
    refine ⟨_, w', ?_, hemb, by simp, hk⟩
    simp only [cv_ptr, adr, Instr.storeAt, Instr.sureAddr, storeVar, Sem.run_bind, Sem.run_pure, Result.andThen_ok, run_sizeOf' hn]
    have hsz : (cv e v).cells.size = (cellsL v).length := by rw [← Array.length_toList, cellsL_cells, cellsL_cv, List.length_map]
    simp only [hsz, ne_eq, not_true_eq_false, if_false]
    rw [cellsL_cells, cellsL_cv]
    exact hr
  · exact h.elim
end
end Go.Snb
