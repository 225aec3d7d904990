/- All quiet operations, by one function. -/
import Derived.Test.YtlojmciaoecfjaaSnbC
set_option linter.all false
namespace Go.Snb
open Go
section
variable {P : Program}

/-! ### Addresses and scopes -/
@[reducible] def pspot : Option Nat → Option Nat
  | some 1 => none
  | some 2 => some 0
  | s => s
def clipS : Option Nat → Option Nat
  | none => some 1
  | some 0 => some 2
  | s => s
def openS : Option Nat → Bool
  | none => true
  | some 0 => true
  | _ => false
/-- An address further on, as a pointer's. -/
@[reducible] def aadd (a : Addr) (n : Nat) : Addr := ⟨a.block, a.off + n, pspot a.spot⟩
def goodB (a : Addr) : Bool :=
  match a.spot with
  | none => true
  | some 0 => true
  | some 1 => true
  | some 2 => true
  | _ => false
def goodA (a : Addr) : Prop := goodB a = true
theorem goodA_cases {a : Addr} (h : goodA a) : a.spot = none ∨ a.spot = some 0 ∨ a.spot = some 1 ∨ a.spot = some 2 := by
  obtain ⟨b, o, s⟩ := a
  match s with
  | none => simp
  | some 0 => simp
  | some 1 => simp
  | some 2 => simp
  | some (s + 3) => simp [goodA, goodB] at h
theorem adr_aadd (e : Env) {a : Addr} (h : goodA a) (n : Nat) : adr e (aadd a n) = (adr e a).add n := by
  obtain ⟨b, o, s⟩ := a
  rcases goodA_cases h with h | h | h | h <;> (simp only at h; subst h; simp [adr, aadd, pspot, add_adr, Nat.add_assoc])
def ScA (n m : Nat) (a : Addr) : Prop := ∀ e e' : Env, Agr n [] m e e' → adr e a = adr e' a
def ScS (n m : Nat) (a : Addr) : Prop := ∀ e e' : Env, Agr n [] m e e' → locOf e a = locOf e' a ∧ adr e a = adr e' a
theorem moreOf_eq (e : Env) (a : Addr) : moreOf e a = if openS a.spot = true then (locOf e a).more else 0 := by
  obtain ⟨b, o, s⟩ := a
  match s with
  | none => rfl
  | some 0 => rfl
  | some 1 => rfl
  | some (s + 2) => simp [moreOf, openS]
theorem Sc_ptr {n m : Nat} {a : Addr} : Sc n m (.pointer (some a)) ↔ ScA n m a := by
  constructor
  · intro h e e' he; have := h e e' he; simpa using this
  · intro h e e' he; simp [h e e' he]
theorem ScS.slice {n m : Nat} {a : Addr} (h : ScS n m a) (l c : Nat) : Sc n m (.slice (some a) l c) := by
  intro e e' he
  obtain ⟨h1, h2⟩ := h e e' he
  simp only [cv_slice, slV, moreOf_eq, h1, h2]
/-- Which label or row an address names. -/
def inS (n m : Nat) (a : Addr) : Prop :=
  match a.spot with
  | none => a.block < n
  | some 0 => a.block < m
  | some 1 => a.block < n
  | some 2 => a.block < m
  | some _ => True
theorem inS.scs {n m : Nat} {a : Addr} (h : inS n m a) : ScS n m a := by
  intro e e' he
  obtain ⟨b, o, s⟩ := a
  match s with
  | none => simp [locOf, adr, he.o b h (by simp)]
  | some 0 => simp [locOf, adr, he.f b h]
  | some 1 => simp [locOf, adr, he.o b h (by simp)]
  | some 2 => simp [locOf, adr, he.f b h]
  | some 3 => simp [locOf, adr]
  | some (s + 4) => simp [locOf, adr]
theorem inS.sca {n m : Nat} {a : Addr} (h : inS n m a) : ScA n m a := fun e e' he => (h.scs e e' he).2
/-- A scope of a slice or a pointer is one of its address. -/
theorem Agr.one {n m : Nat} (e : Env) (L : Loc) (i : Nat) (hi : n ≤ i) : Agr n [] m e ⟨fun j => if j = i then L else e.o j, e.f⟩ := ⟨fun j hj _ => by simp; omega, fun _ _ => rfl⟩
theorem Agr.oneF {n m : Nat} (e : Env) (L : Loc) (i : Nat) (hi : m ≤ i) : Agr n [] m e ⟨e.o, fun j => if j = i then L else e.f j⟩ := ⟨fun _ _ _ => rfl, fun j hj => by simp; omega⟩
theorem inS_of_adr {n m : Nat} {a : Addr} (h : ∀ e e' : Env, Agr n [] m e e' → (locOf e a).nil = false → (locOf e' a).nil = false → adr e a = adr e' a) : inS n m a := by
  obtain ⟨b, o, s⟩ := a
  have own : (∀ e e' : Env, Agr n [] m e e' → (e.o b).nil = false → (e'.o b).nil = false → (e.o b).blk = (e'.o b).blk) → b < n := by
    intro h
    refine Nat.lt_of_not_le fun hb => ?_
    have := h ⟨fun _ => ⟨0, 0, 0, false⟩, fun _ => ⟨0, 0, 0, false⟩⟩ _ (Agr.one _ ⟨1, 0, 0, false⟩ b hb) rfl (by simp)
    simp at this
  have row : (∀ e e' : Env, Agr n [] m e e' → (e.f b).nil = false → (e'.f b).nil = false → (e.f b).blk = (e'.f b).blk) → b < m := by
    intro h
    refine Nat.lt_of_not_le fun hb => ?_
    have := h ⟨fun _ => ⟨0, 0, 0, false⟩, fun _ => ⟨0, 0, 0, false⟩⟩ _ (Agr.oneF _ ⟨1, 0, 0, false⟩ b hb) rfl (by simp)
    simp at this
  match s with
  | none => exact own fun e e' he h1 h2 => by have := h e e' he h1 h2; simp [adr] at this; exact this.1
  | some 0 => exact row fun e e' he h1 h2 => by have := h e e' he h1 h2; simp [adr] at this; exact this.1
  | some 1 => exact own fun e e' he h1 h2 => by have := h e e' he h1 h2; simp [adr] at this; exact this.1
  | some 2 => exact row fun e e' he h1 h2 => by have := h e e' he h1 h2; simp [adr] at this; exact this.1
  | some (s + 3) => exact trivial
theorem Sc_slice {n m : Nat} {a : Addr} {l c : Nat} : Sc n m (.slice (some a) l c) ↔ inS n m a := by
  constructor
  · intro h
    refine inS_of_adr fun e e' he h1 h2 => ?_
    have := h e e' he
    simp [slV, h1, h2] at this
    exact this.1
  · intro h; exact h.scs.slice l c
theorem Sc_pin {n m : Nat} {a : Addr} : Sc n m (.pointer (some a)) ↔ inS n m a := by
  constructor
  · intro h; exact inS_of_adr fun e e' he _ _ => Sc_ptr.1 h e e' he
  · intro h; exact Sc_ptr.2 h.sca
theorem inS.aadd {n m : Nat} {a : Addr} (h : inS n m a) (k : Nat) : inS n m (aadd a k) := by
  obtain ⟨b, o, s⟩ := a
  match s with
  | none => exact h
  | some 0 => exact h
  | some 1 => exact h
  | some 2 => exact h
  | some (s + 3) => exact trivial
theorem inS.to {n m : Nat} {a : Addr} (h : inS n m a) (o : Nat) (b : Bool) : inS n m ⟨a.block, o, if b = true then clipS a.spot else a.spot⟩ := by
  obtain ⟨bk, o, s⟩ := a
  match s with
  | none => cases b <;> exact h
  | some 0 => cases b <;> exact h
  | some 1 => cases b <;> exact h
  | some 2 => cases b <;> exact h
  | some (s + 3) => cases b <;> exact trivial
theorem Sc_agg {n m : Nat} {cs : Array Value} : Sc n m (.agg cs) ↔ ∀ v ∈ cs.toList, Sc n m v := by
  constructor
  · intro h; exact sc_cells h
  · intro h e e' he
    obtain ⟨l⟩ := cs
    simp only [cv_agg, List.map_toArray]
    rw [Sc.of_all h e e' he]
theorem Sc_tuple {n m : Nat} {cs : Array Value} : Sc n m (.tuple cs) ↔ ∀ v ∈ cs.toList, Sc n m v := by
  obtain ⟨l⟩ := cs
  constructor
  · intro h v hv e e' he
    have h1 := h e e' he
    simp only [cv_tuple, List.map_toArray, Value.tuple.injEq] at h1
    have h2 : l.map (cv e) = l.map (cv e') := by simpa using h1
    exact (List.map_inj_left.1 h2) v hv
  · intro h e e' he
    simp only [cv_tuple, List.map_toArray]
    rw [Sc.of_all h e e' he]
theorem Sc_iface {n m : Nat} {t : TypeId} {v : Value} : Sc n m (.iface t v) ↔ Sc n m v := by
  constructor
  · intro h e e' he; have := h e e' he; simpa using this
  · intro h e e' he; simp [h e e' he]
theorem Sc_func {n m : Nat} {f : Fn} {x y : Array Value} : Sc n m (.func f x y) ↔ (∀ v ∈ x.toList, Sc n m v) ∧ ∀ v ∈ y.toList, Sc n m v := by
  obtain ⟨x⟩ := x
  obtain ⟨y⟩ := y
  constructor
  · intro h
    refine ⟨fun v hv e e' he => ?_, fun v hv e e' he => ?_⟩
    all_goals
      have h1 := h e e' he
      simp only [cv_func, List.map_toArray, Value.func.injEq, true_and] at h1
    · have h2 : x.map (cv e) = x.map (cv e') := by simpa using h1.1
      exact (List.map_inj_left.1 h2) v hv
    · have h2 : y.map (cv e) = y.map (cv e') := by simpa using h1.2
      exact (List.map_inj_left.1 h2) v hv
  · intro ⟨h1, h2⟩ e e' he
    simp only [cv_func, List.map_toArray]
    rw [Sc.of_all h1 e e' he, Sc.of_all h2 e e' he]
theorem Sc_own {n m l o : Nat} (h : l < n) : Sc n m (.pointer (some ⟨l, o, none⟩)) := Sc_pin.2 h
theorem Sc_ownslice {n m l o k c : Nat} (h : l < n) : Sc n m (.slice (some ⟨l, o, none⟩) k c) := Sc_slice.2 h
theorem Sc_row {n m l o k c : Nat} (h : l < m) : Sc n m (.slice (some ⟨l, o, some 0⟩) k c) := Sc_slice.2 h
theorem Sc_mapv {n m r : Nat} (h : r < n) : Sc n m (.map (some r)) := by
  intro e e' he; simp [he.o r h (by simp)]

/-! ### Tables of fields -/
def fieldOf (P : Program) (s f : Nat) : Option (Nat × TypeId × Nat) :=
  match P.underlying s with
  | some (.struct fs) => match fs[f]? with
    | some d => (szOf P d.type).map fun n => (d.offset, d.type, n)
    | none => none
  | _ => none
theorem fieldOf_spec {s f o : Nat} {t : TypeId} {n : Nat} (h : fieldOf P s f = some (o, t, n)) : ∃ fs d, P.underlying s = some (.struct fs) ∧ fs[f]? = some d ∧ d.offset = o ∧ d.type = t ∧ szOf P t = some n := by
  unfold fieldOf at h
  split at h
  · rename_i fs hfs
    split at h
    · rename_i d hd
      cases hn : szOf P d.type with
      | none => simp [hn] at h
      | some m => simp [hn] at h; obtain ⟨rfl, rfl, rfl⟩ := h; exact ⟨fs, d, hfs, hd, rfl, rfl, hn⟩
    · cases h
  · cases h

/-- A part of an aggregate's cells. -/
def evPart (P : Program) (t : TypeId) (n : Nat) (cs : List Value) (o : Nat) (K : Value → Prop) : Prop :=
  ∃ g, aggB P t = some g ∧ BSel g (K (.agg ((cs.drop o).take n).toArray)) (∃ u, cs[o]? = some u ∧ K u)
theorem evPart_run {t : TypeId} {n : Nat} {cs : Array Value} {o : Nat} {K : Value → Prop} (h : evPart P t n cs.toList o K) (hn : szOf P t = some n) :
    ∃ u, (∀ (e : Env) w, (part t (cs.map (cv e)) o).run P w = .ok (cv e u) w) ∧ (∀ n m, (∀ v ∈ cs.toList, Sc n m v) → Sc n m u) ∧ K u := by
  obtain ⟨g, hg, hb⟩ := h
  cases g with
  | true =>
    simp only [BSel_true] at hb
    refine ⟨_, fun e w => ?_, fun n m hm => ?_, hb⟩
    · simp only [part, Sem.run_bind, run_isAgg' hg, Result.andThen_ok, if_true, run_sizeOf' hn, Sem.run_pure, cv_agg, List.map_toArray]
      congr 2
      apply Array.ext'
      simp [Array.toList_extract, List.map_take, List.map_drop, List.extract_eq_take_drop]
    · exact Sc_agg.2 fun v hv => hm v (List.mem_of_mem_drop (List.mem_of_mem_take hv))
  | false =>
    simp only [BSel_false] at hb
    obtain ⟨u, hu, hk⟩ := hb
    refine ⟨u, fun e w => ?_, fun n m hm => hm u (List.mem_of_getElem? hu), hk⟩
    have hu' : (cs.map (cv e))[o]? = some (cv e u) := by
      rw [Array.getElem?_map, ← Array.getElem?_toList, hu]; rfl
    simp only [part, Sem.run_bind, run_isAgg' hg, Result.andThen_ok, Bool.false_eq_true, if_false, hu', Sem.run_pure]

/-! ### Slicing -/
def evBound (F : Fr) (x : Option Operand) (d : Nat) (k : Int → Prop) : Prop :=
  match x with
  | none => k d
  | some x => with1 F x fun v => match v with | .int _ i => k i | _ => False

/-- A cut of a row; clip: its capacity was told. -/
def evSliceOf (a : Option Addr) (sz c : Nat) (l h m : Int) (clip : Bool) (K : Value → Prop) : Prop :=
  0 ≤ l ∧ l ≤ h ∧ h ≤ m ∧ m ≤ c ∧ (clip = false → m = c) ∧
    match a with
    | none => K (.slice none (h - l).toNat (m - l).toNat)
    | some a => goodA a ∧ (l = 0 → K (.slice (some ⟨a.block, a.off, if clip = true then clipS a.spot else a.spot⟩) h.toNat m.toNat)) ∧
        (l ≠ 0 → (l < m → K (.slice (some ⟨a.block, a.off + l.toNat * sz, if clip = true then clipS a.spot else a.spot⟩) (h - l).toNat (m - l).toNat)) ∧
          (m = l → (clip = false → openS a.spot = true → K (.slice (some ⟨a.block, a.off + l.toNat * sz, a.spot⟩) 0 0)) ∧ K (.slice (some ⟨a.block, a.off, clipS a.spot⟩) 0 0)))

/-! ### Builds -/
def fillL (cs : List Value) : List (Nat × List Value) → List Value
  | [] => cs
  | (o, vs) :: r => fillL (setL cs o vs) r

theorem zip_setL (f : Value → Value) : ∀ (vs : List Value) (cs : Array Value) (o k : Nat), ((vs.map f).zipIdx k).foldl (fun cs (c, j) => cs.setIfInBounds (o + j) c) (cs.map f) = ((setL cs.toList (o + k) vs).toArray).map f
  | [], cs, o, k => by simp [setL]
  | v :: r, cs, o, k => by
    simp only [List.map_cons, List.zipIdx_cons, List.foldl_cons, setL]
    have h : (cs.map f).setIfInBounds (o + k) (f v) = ((cs.toList.set (o + k) v).toArray).map f := by
      apply Array.ext'; simp
    have := zip_setL f r (cs.toList.set (o + k) v).toArray o (k + 1)
    rw [h, this]
    simp [Nat.add_assoc]

/-- The places of a struct's fields. -/
def placesOf (P : Program) (s : TypeId) : Option (List (Nat × Nat)) :=
  match P.underlying s with
  | some (.struct fs) => fs.toList.mapM fun f => (szOf P f.type).map fun n => (f.offset, n)
  | _ => none

theorem run_places : ∀ (fs : List Field) (ps : List (Nat × Nat)) (w : World), fs.mapM (fun f => (szOf P f.type).map fun n => (f.offset, n)) = some ps →
    (fs.mapM (fun f => (do pure (f.offset, ← sizeOf f.type) : Sem (Nat × Nat)))).run P w = .ok ps w
  | [], ps, w, h => by simp at h; subst h; simp
  | f :: r, ps, w, h => by
    rw [List.mapM_cons] at h
    cases h1 : szOf P f.type with
    | none => simp [h1] at h
    | some n =>
      cases h2 : r.mapM (fun f => (szOf P f.type).map fun n => (f.offset, n)) with
      | none => simp [h1, h2] at h
      | some qs =>
        simp [h1, h2] at h
        subst h
        rw [List.mapM_cons]
        have := run_places r qs w h2
        simp only [Sem.run_bind, run_sizeOf' h1, Result.andThen_ok, Sem.run_pure, this]

def evParts (place : Nat → Option (Nat × Nat)) (F : Fr) : List (Nat × Operand) → Nat → (List (Nat × List Value) → Prop) → Prop
  | [], _, k => k []
  | (i, x) :: r, len, k => ∃ o n, place i = some (o, n) ∧ with1 F x fun v => (cellsL v).length = n ∧ o + n ≤ len ∧ evParts place F r len fun l => k ((o, cellsL v) :: l)

theorem evParts_run {place : Nat → Option (Nat × Nat)} {F : Fr} : ∀ (ps : List (Nat × Operand)) (len : Nat) (k : List (Nat × List Value) → Prop), evParts place F ps len k →
    ∃ l, (∀ (e : Env) N a (cs : Array Value), FrOk e N F a → cs.size = len → Instr.fill place (cs.map (cv e)) (ps.map fun (i, x) => (i, a.eval x)) = some ((fillL cs.toList l).toArray.map (cv e))) ∧
      (∀ n m, ScF n m F → ∀ x ∈ l, ∀ v ∈ x.2, Sc n m v) ∧ k l
  | [], len, k, h => ⟨[], fun e N a cs _ _ => by simp [Instr.fill, fillL], by simp, h⟩
  | (i, x) :: r, len, k, h => by
    obtain ⟨o, n, hp, v, hv, hlen, hle, hr⟩ := h
    obtain ⟨l, h1, h2, h3⟩ := evParts_run r len _ hr
    refine ⟨(o, cellsL v) :: l, ?_, ?_, h3⟩
    · intro e N a cs hf hcs
      simp only [List.map_cons, Instr.fill, hp]
      have he := opd_eval hf hv
      have hsz : (cv e v).cells.toList = (cellsL v).map (cv e) := by rw [cellsL_cells, cellsL_cv]
      have hsz2 : (cv e v).cells.size = n := by rw [← Array.length_toList, hsz, List.length_map, hlen]
      rw [he, if_neg (by simp [hsz2, hcs]; omega)]
      have hz : (cv e v).cells.zipIdx.foldl (fun cs (c, j) => cs.setIfInBounds (o + j) c) (cs.map (cv e)) = ((setL cs.toList o (cellsL v)).toArray).map (cv e) := by
        have hz0 := zip_setL (cv e) (cellsL v) cs o 0
        rw [Nat.add_zero] at hz0
        rw [← hz0, ← hsz, ← Array.foldl_toList]
        simp
      rw [hz]
      have := h1 e N a (setL cs.toList o (cellsL v)).toArray hf (by simp [hcs])
      simpa [fillL] using this
    · intro n m hm y hy u hu
      rcases List.mem_cons.1 hy with rfl | hy
      · exact sc_cells (opd_sc hm hv) u hu
      · exact h2 n m hm y hy u hu

theorem fillL_all {p : Value → Prop} : ∀ (l : List (Nat × List Value)) (cs : List Value), (∀ x ∈ l, ∀ v ∈ x.2, p v) → (∀ v ∈ cs, p v) → ∀ v ∈ fillL cs l, p v
  | [], _, _, h => h
  | (o, vs) :: r, cs, h1, h2 => fillL_all r _ (fun x hx => h1 x (by simp [hx])) (setL_all vs cs o (h1 (o, vs) (by simp)) h2)
end
end Go.Snb
