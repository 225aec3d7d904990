/- An abstract memory for walks: values whose blocks are labels or frozen rows, and what it means that a world bears them. -/
import Derived.WalkKit
import Derived.Deep.Quiet
set_option linter.all false
namespace Go.Snb
open Go

/-- Where a label's cells lie: a block, a place in it, how many elements more its slices may hold; or nowhere (a nil slice). -/
structure Loc where
  blk : Nat
  base : Nat
  more : Nat
  nil : Bool
/-- Where the labels and the frozen rows lie. -/
structure Env where
  o : Nat → Loc
  f : Nat → Loc

/-- An address: no spot or spot 1: a label's; spot 0 or 2: a frozen row's; else old memory, as it is. -/
def adr (e : Env) (a : Addr) : Addr :=
  match a.spot with
  | none => ⟨(e.o a.block).blk, (e.o a.block).base + a.off, none⟩
  | some 0 => ⟨(e.f a.block).blk, (e.f a.block).base + a.off, none⟩
  | some 1 => ⟨(e.o a.block).blk, (e.o a.block).base + a.off, none⟩
  | some 2 => ⟨(e.f a.block).blk, (e.f a.block).base + a.off, none⟩
  | some 3 => ⟨a.block, a.off, none⟩
  | some (s + 4) => ⟨a.block, a.off, some s⟩
def locOf (e : Env) (a : Addr) : Loc :=
  match a.spot with
  | none => e.o a.block
  | some 0 => e.f a.block
  | some 1 => e.o a.block
  | some 2 => e.f a.block
  | some _ => ⟨0, 0, 0, false⟩
/-- A slice whose capacity is known to the end (spot 1, 2), or has more behind it. -/
def moreOf (e : Env) (a : Addr) : Nat :=
  match a.spot with
  | none => (e.o a.block).more
  | some 0 => (e.f a.block).more
  | _ => 0
def slV (e : Env) (a : Addr) (n c : Nat) : Value := .slice (if (locOf e a).nil = true then none else some (adr e a)) n (c + moreOf e a)

mutual
def cv (e : Env) : Value → Value
  | .pointer (some a) => .pointer (some (adr e a))
  | .slice (some a) n c => slV e a n c
  | .map (some r) => .map (some (e.o r).blk)
  | .func f x y => .func f (cvA e x) (cvA e y)
  | .iface t v => .iface t (cv e v)
  | .agg cs => .agg (cvA e cs)
  | .tuple cs => .tuple (cvA e cs)
  | .bool b => .bool b
  | .int k n => .int k n
  | .float k b => .float k b
  | .complex k a b => .complex k a b
  | .string s => .string s
  | .pointer none => .pointer none
  | .slice none n c => .slice none n c
  | .map none => .map none
  | .chan r => .chan r
  | .nilFunc => .nilFunc
  | .nilIface => .nilIface
def cvA (e : Env) : Array Value → Array Value
  | ⟨l⟩ => ⟨cvL e l⟩
def cvL (e : Env) : List Value → List Value
  | [] => []
  | v :: r => cv e v :: cvL e r
end

theorem cvL_map (e : Env) (l : List Value) : cvL e l = l.map (cv e) := by
  induction l with
  | nil => simp [cvL]
  | cons v r ih => simp [cvL, ih]
theorem cvA_map (e : Env) (l : Array Value) : cvA e l = l.map (cv e) := by
  obtain ⟨l⟩ := l
  simp [cvA, cvL_map]
@[simp] theorem cvA_mk (e : Env) (l : List Value) : cvA e l.toArray = (l.map (cv e)).toArray := by simp [cvA, cvL_map]
section
variable (e : Env)
@[simp] theorem cv_bool (b : Bool) : cv e (.bool b) = .bool b := by simp only [cv]
@[simp] theorem cv_int (k : IntKind) (n : Int) : cv e (.int k n) = .int k n := by simp only [cv]
@[simp] theorem cv_string (s : ByteArray) : cv e (.string s) = .string s := by simp only [cv]
@[simp] theorem cv_nilptr : cv e (.pointer none) = .pointer none := by simp only [cv]
@[simp] theorem cv_nilslice (n c : Nat) : cv e (.slice none n c) = .slice none n c := by simp only [cv]
@[simp] theorem cv_nilmap : cv e (.map none) = .map none := by simp only [cv]
@[simp] theorem cv_nilFunc : cv e .nilFunc = .nilFunc := by simp only [cv]
@[simp] theorem cv_nilIface : cv e .nilIface = .nilIface := by simp only [cv]
@[simp] theorem cv_ptr (a : Addr) : cv e (.pointer (some a)) = .pointer (some (adr e a)) := by simp only [cv]
@[simp] theorem cv_slice (a : Addr) (n c : Nat) : cv e (.slice (some a) n c) = slV e a n c := by simp only [cv]
@[simp] theorem cv_map (r : Nat) : cv e (.map (some r)) = .map (some (e.o r).blk) := by simp only [cv]
@[simp] theorem cv_iface (t : TypeId) (v : Value) : cv e (.iface t v) = .iface t (cv e v) := by simp only [cv]
@[simp] theorem cv_agg (l : Array Value) : cv e (.agg l) = .agg (l.map (cv e)) := by simp only [cv, cvA_map]
@[simp] theorem cv_tuple (l : Array Value) : cv e (.tuple l) = .tuple (l.map (cv e)) := by simp only [cv, cvA_map]
@[simp] theorem cv_func (f : Fn) (x y : Array Value) : cv e (.func f x y) = .func f (x.map (cv e)) (y.map (cv e)) := by simp only [cv, cvA_map]
@[simp] theorem cv_undef : cv e undef = undef := by simp [undef]
end

/-- A value of one cell. -/
def one : Value → Bool
  | .agg _ | .tuple _ => false
  | _ => true
theorem one_oneCell {v : Value} : v.oneCell' = one v := by cases v <;> rfl
@[simp] theorem one_cv (e : Env) (v : Value) : one (cv e v) = one v := by
  cases v <;> try rfl
  case pointer a => cases a <;> simp [cv, one]
  case slice a n c => cases a <;> simp [cv, slV, one]
  case map a => cases a <;> simp [cv, one]
  all_goals simp [cv, one]

@[reducible] def cellsL : Value → List Value
  | .agg cs => cs.toList
  | v => [v]
theorem cellsL_cells (v : Value) : v.cells.toList = cellsL v := by cases v <;> rfl
@[simp] theorem cellsL_cv (e : Env) (v : Value) : cellsL (cv e v) = (cellsL v).map (cv e) := by
  cases v <;> try (simp [cellsL]; done)
  case pointer a => cases a <;> simp [cellsL]
  case slice a n c => cases a <;> simp [cellsL, slV]
  case map a => cases a <;> simp [cellsL]
  all_goals simp [cellsL, cv]

def simple0 : Value → Bool
  | .bool _ | .int _ _ | .string _ | .pointer none | .slice none _ _ | .map none | .nilFunc | .nilIface => true
  | _ => false
def simple : Value → Bool
  | .iface _ (.agg cs) => cs.toList.all simple0
  | .iface _ v => simple0 v
  | v => simple0 v
/-- A value that names no block. -/
def flat : Value → Bool
  | .agg cs => cs.toList.all simple
  | .tuple cs => cs.toList.all fun | .agg ds => ds.toList.all simple | v => simple v
  | v => simple v
theorem simple0_cv (e : Env) {v : Value} (h : simple0 v = true) : cv e v = v := by
  unfold simple0 at h
  split at h <;> first | (simp; done) | cases h
theorem simple0_map (e : Env) {l : List Value} (h : l.all simple0 = true) : l.map (cv e) = l := by
  have : l.map (cv e) = l.map id := List.map_congr_left fun v hv => simple0_cv e (List.all_eq_true.1 h v hv)
  simpa using this
theorem simple_cv (e : Env) {v : Value} (h : simple v = true) : cv e v = v := by
  unfold simple at h
  split at h
  · rename_i t cs
    obtain ⟨l⟩ := cs
    rw [cv_iface, cv_agg, List.map_toArray, simple0_map e h]
  · rw [cv_iface, simple0_cv e h]
  · exact simple0_cv e h
theorem simple_map (e : Env) {l : List Value} (h : l.all simple = true) : l.map (cv e) = l := by
  have : l.map (cv e) = l.map id := List.map_congr_left fun v hv => simple_cv e (List.all_eq_true.1 h v hv)
  simpa using this
theorem flat_cv (e : Env) {v : Value} (h : flat v = true) : cv e v = v := by
  unfold flat at h
  split at h
  · rename_i cs
    obtain ⟨l⟩ := cs
    rw [cv_agg, List.map_toArray, simple_map e h]
  · rename_i cs
    obtain ⟨l⟩ := cs
    rw [cv_tuple, List.map_toArray]
    congr 2
    have : l.map (cv e) = l.map id := by
      apply List.map_congr_left
      intro v hv
      have h0 := List.all_eq_true.1 h v hv
      split at h0
      · rename_i ds
        obtain ⟨d⟩ := ds
        rw [cv_agg, List.map_toArray, simple_map e h0]
        rfl
      · exact simple_cv e h0
    simpa using this
  · exact simple_cv e h

/-- A label's block: cells (z: how many cells an element has, of a row that may grow; 0: it may not), or a map. -/
inductive Blk where
  | cells (cs : List Value) (z : Nat)
  | map (es : List MapEntry) (clock : Nat)

abbrev Hp := List (Option Blk)

/-- What is known for good: the world's streams, its size at the start, and frozen rows. -/
structure Mem where
  w0 : World
  ro : Nat → Option (List Value)
  next : Nat
  base : Nat

structure Mem.le (M M' : Mem) : Prop where
  w0 : M'.w0 = M.w0
  next : M.next ≤ M'.next
  ro : ∀ i cs, M.ro i = some cs → M'.ro i = some cs
  base : M'.base = M.base
  old : ∀ i, i < M.next → M'.ro i = M.ro i
theorem Mem.le.refl (M : Mem) : M.le M := ⟨rfl, Nat.le_refl _, fun _ _ h => h, rfl, fun _ _ => rfl⟩
theorem Mem.le.trans {M M' M'' : Mem} (h : M.le M') (h' : M'.le M'') : M.le M'' := ⟨h'.w0.trans h.w0, Nat.le_trans h.next h'.next, fun b o x => h'.ro b o (h.ro b o x), h'.base.trans h.base, fun i hi => (h'.old i (Nat.lt_of_lt_of_le hi h.next)).trans (h.old i hi)⟩

/-- Two environments agree on the first n labels, but for some, and on the first m frozen rows. -/
structure Agr (n : Nat) (I : List Nat) (m : Nat) (e e' : Env) : Prop where
  o : ∀ i, i < n → i ∉ I → e.o i = e'.o i
  f : ∀ i, i < m → e.f i = e'.f i
theorem Agr.refl (n : Nat) (I : List Nat) (m : Nat) (e : Env) : Agr n I m e e := ⟨fun _ _ _ => rfl, fun _ _ => rfl⟩
theorem Agr.symm {n m : Nat} {I : List Nat} {e e' : Env} (h : Agr n I m e e') : Agr n I m e' e := ⟨fun i hi hI => (h.o i hi hI).symm, fun i hi => (h.f i hi).symm⟩
theorem Agr.mono {n m n' m' : Nat} {I : List Nat} {e e' : Env} (h : Agr n I m e e') (hn : n' ≤ n) (hm : m' ≤ m) : Agr n' I m' e e' := ⟨fun i hi hI => h.o i (by omega) hI, fun i hi => h.f i (by omega)⟩
theorem Agr.trans {n m n' m' : Nat} {I : List Nat} {e e' e'' : Env} (h : Agr n I m e e') (h' : Agr n' I m' e' e'') (hn : n ≤ n') (hm : m ≤ m') : Agr n I m e e'' :=
  ⟨fun i hi hI => (h.o i hi hI).trans (h'.o i (by omega) hI), fun i hi => (h.f i hi).trans (h'.f i (by omega))⟩

/-- The first n labels and m frozen rows matter alone. -/
def Sc (n m : Nat) (v : Value) : Prop := ∀ e e' : Env, Agr n [] m e e' → cv e v = cv e' v

theorem Sc.mono {n m n' m' : Nat} {v : Value} (h : Sc n m v) (hn : n ≤ n') (hm : m ≤ m') : Sc n' m' v := fun e e' he => h e e' (he.mono hn hm)
theorem Sc.flat {v : Value} (h : flat v = true) (n m : Nat) : Sc n m v := fun e e' _ => by rw [flat_cv e h, flat_cv e' h]
theorem Sc.of_all {n m : Nat} {l : List Value} (h : ∀ v ∈ l, Sc n m v) : ∀ e e' : Env, Agr n [] m e e' → l.map (cv e) = l.map (cv e') :=
  fun e e' he => List.map_congr_left fun v hv => h v hv e e' he

def Blk.sc (n m : Nat) : Blk → Prop
  | .cells cs _ => ∀ v ∈ cs, Sc n m v
  | .map es _ => ∀ x ∈ es, Sc n m x.key ∧ Sc n m x.val
theorem Blk.sc.mono {n m n' m' : Nat} {b : Blk} (h : b.sc n m) (hn : n ≤ n') (hm : m ≤ m') : b.sc n' m' := by
  cases b with
  | cells cs T => exact fun v hv => (h v hv).mono hn hm
  | map es c => exact fun x hx => ⟨(h x hx).1.mono hn hm, (h x hx).2.mono hn hm⟩

/-- Cells lie in a world at a place. -/
def cellsAt (e : Env) (w : World) (L : Loc) (cs : List Value) (room : Nat) : Prop :=
  ∃ arr T f, w.heap[L.blk]? = some (.cells arr T f) ∧ L.base + cs.length + room ≤ arr.size ∧ ∀ j v, cs[j]? = some v → arr[L.base + j]? = some (cv e v)
def entry (e : Env) (x : MapEntry) : MapEntry := ⟨cv e x.key, cv e x.val, x.born⟩
/-- A label's block lies in a world. -/
def Blk.at (e : Env) (w : World) (L : Loc) : Blk → Prop
  | .cells cs z => (L.nil = true ∧ cs = [] ∧ L.more = 0 ∧ z ≠ 0) ∨ (L.nil = false ∧ (z = 0 → L.more = 0) ∧ (∃ arr T, w.heap[L.blk]? = some (.cells arr T (0, 0))) ∧ cellsAt e w L cs (L.more * z))
  | .map es clock => L.nil = false ∧ w.heap[L.blk]? = some (.map (es.map (entry e)).toArray clock)
/-- A frozen row lies in a world. -/
def rowAt (e : Env) (w : World) (L : Loc) (cs : List Value) : Prop := (L.nil = true ∧ cs = [] ∧ L.more = 0) ∨ (L.nil = false ∧ cellsAt e w L cs 0)

theorem cellsAt.env {e e' : Env} {w : World} {L : Loc} {cs : List Value} {room : Nat} (h : cellsAt e w L cs room) (he : cs.map (cv e) = cs.map (cv e')) : cellsAt e' w L cs room := by
  obtain ⟨arr, T, f, h1, h2, h3⟩ := h
  refine ⟨arr, T, f, h1, h2, fun j v hj => ?_⟩
  rw [h3 j v hj, (List.map_inj_left.1 he) v (List.mem_of_getElem? hj)]
theorem cellsAt.heap {e : Env} {w w' : World} {L : Loc} {cs : List Value} {room : Nat} (h : cellsAt e w L cs room) (hw : ∀ o, w.heap[L.blk]? = some o → w'.heap[L.blk]? = some o) : cellsAt e w' L cs room := by
  obtain ⟨arr, T, f, h1, h2, h3⟩ := h
  exact ⟨arr, T, f, hw _ h1, h2, h3⟩
theorem Blk.at.env {e e' : Env} {w : World} {L : Loc} {b : Blk} (h : b.at e w L) {n m : Nat} (hs : b.sc n m) (he : Agr n [] m e e') : b.at e' w L := by
  cases b with
  | cells cs z =>
    rcases h with h | ⟨h1, h2, h3, h4⟩
    · exact .inl h
    · exact .inr ⟨h1, h2, h3, h4.env (Sc.of_all hs e e' he)⟩
  | map es c =>
    refine ⟨h.1, ?_⟩
    rw [h.2]
    congr 3
    exact List.map_congr_left fun x hx => by simp only [entry]; rw [(hs x hx).1 e e' he, (hs x hx).2 e e' he]
theorem Blk.at.heap {e : Env} {w w' : World} {L : Loc} {b : Blk} (h : b.at e w L) (hw : L.nil = false → ∀ o, w.heap[L.blk]? = some o → w'.heap[L.blk]? = some o) : b.at e w' L := by
  cases b with
  | cells cs z =>
    rcases h with h | ⟨h1, h2, ⟨arr, T, h3⟩, h4⟩
    · exact .inl h
    · exact .inr ⟨h1, h2, ⟨arr, T, hw h1 _ h3⟩, h4.heap (hw h1)⟩
  | map es c => exact ⟨h.1, hw h.1 _ h.2⟩
theorem rowAt.env {e e' : Env} {w : World} {L : Loc} {cs : List Value} (h : rowAt e w L cs) {n m : Nat} (hs : ∀ v ∈ cs, Sc n m v) (he : Agr n [] m e e') : rowAt e' w L cs := by
  rcases h with h | ⟨h1, h4⟩
  · exact .inl h
  · exact .inr ⟨h1, h4.env (Sc.of_all hs e e' he)⟩
theorem rowAt.heap {e : Env} {w w' : World} {L : Loc} {cs : List Value} (h : rowAt e w L cs) (hw : L.nil = false → ∀ o, w.heap[L.blk]? = some o → w'.heap[L.blk]? = some o) : rowAt e w' L cs := by
  rcases h with h | ⟨h1, h4⟩
  · exact .inl h
  · exact .inr ⟨h1, h4.heap (hw h1)⟩
theorem Blk.at.lt {e : Env} {w : World} {L : Loc} {b : Blk} (h : b.at e w L) (hn : L.nil = false) : L.blk < w.heap.size := by
  cases b with
  | cells cs z =>
    rcases h with ⟨h, _⟩ | ⟨_, _, ⟨arr, T, h3⟩, _⟩
    · rw [hn] at h; cases h
    · exact (Array.getElem?_eq_some_iff.1 h3).1
  | map es c => exact (Array.getElem?_eq_some_iff.1 h.2).1
theorem rowAt.lt {e : Env} {w : World} {L : Loc} {cs : List Value} (h : rowAt e w L cs) (hn : L.nil = false) : L.blk < w.heap.size := by
  rcases h with ⟨h, _⟩ | ⟨_, arr, T, f, h3, _⟩
  · rw [hn] at h; cases h
  · exact (Array.getElem?_eq_some_iff.1 h3).1

abbrev Fx := Nat → Option Obj
/-- The world bears the labels' blocks, each in a place of its own, the frozen rows, and what else is kept. -/
structure Emb (M : Mem) (X : Fx) (e : Env) (H : Hp) (w : World) : Prop where
  os : w.os = M.w0.os
  tape : w.tape = M.w0.tape
  output : w.output = M.w0.output
  size : M.w0.heap.size ≤ w.heap.size
  fx : ∀ b o, X b = some o → w.heap[b]? = some o
  ro : ∀ i cs, M.ro i = some cs → rowAt e w (e.f i) cs
  rosc : ∀ i cs, M.ro i = some cs → i < M.next ∧ ∀ v ∈ cs, Sc 0 M.next v
  apartF : ∀ i cs, M.ro i = some cs → (e.f i).nil = false → X (e.f i).blk = none ∨ i < M.base
  bn : M.base ≤ M.next
  own : ∀ (i : Nat) k, H[i]? = some (some k) → k.at e w (e.o i)
  apartX : ∀ (i : Nat) k, H[i]? = some (some k) → (e.o i).nil = false → X (e.o i).blk = none
  apartR : ∀ (i : Nat) k, H[i]? = some (some k) → (e.o i).nil = false → ∀ j cs, M.ro j = some cs → (e.f j).nil = false → (e.f j).blk ≠ (e.o i).blk
  inj : ∀ (i j : Nat) ki kj, H[i]? = some (some ki) → H[j]? = some (some kj) → (e.o i).nil = false → (e.o j).nil = false → (e.o i).blk = (e.o j).blk → i = j
  sc : ∀ (i : Nat) k, H[i]? = some (some k) → k.sc H.length M.next

theorem lt_of_some {H : Hp} {i : Nat} {k : Option Blk} (h : H[i]? = some k) : i < H.length := (List.getElem?_eq_some_iff.1 h).1

/-- An environment with one more label, or with a label elsewhere. -/
def ext (e : Env) (n : Nat) (L : Loc) : Env := ⟨fun i => if i = n then L else e.o i, e.f⟩
theorem ext_ne {e : Env} {n i : Nat} {L : Loc} (h : i ≠ n) : (ext e n L).o i = e.o i := if_neg h
@[simp] theorem ext_eq {e : Env} {n : Nat} {L : Loc} : (ext e n L).o n = L := if_pos rfl
@[simp] theorem ext_f {e : Env} {n : Nat} {L : Loc} : (ext e n L).f = e.f := rfl
theorem ext_agr (e : Env) (n : Nat) (L : Loc) (m : Nat) : Agr n [] m e (ext e n L) := ⟨fun i hi _ => (ext_ne (by omega)).symm, fun _ _ => rfl⟩

theorem look_app {H : Hp} {k : Blk} {i : Nat} {b : Blk} (h : (H ++ [some k])[i]? = some (some b)) : (i < H.length ∧ H[i]? = some (some b)) ∨ (i = H.length ∧ b = k) := by
  rcases Nat.lt_trichotomy i H.length with hi | hi | hi
  · exact .inl ⟨hi, by rwa [List.getElem?_append_left hi] at h⟩
  · subst hi; simp at h; exact .inr ⟨rfl, h.symm⟩
  · rw [List.getElem?_append_right (by omega)] at h
    obtain ⟨j, hj⟩ : ∃ j, i - H.length = j + 1 := ⟨i - H.length - 1, by omega⟩
    rw [hj] at h
    simp at h
theorem look_set {H : Hp} {l : Nat} {k : Option Blk} {i : Nat} {b : Blk} (h : (H.set l k)[i]? = some (some b)) : (i ≠ l ∧ H[i]? = some (some b)) ∨ (i = l ∧ k = some b ∧ l < H.length) := by
  by_cases hi : i = l
  · subst hi
    by_cases hl : i < H.length
    · rw [List.getElem?_set_self hl] at h; simp at h; exact .inr ⟨rfl, h, hl⟩
    · rw [List.getElem?_eq_none (by simpa using hl)] at h; cases h
  · rw [List.getElem?_set_ne (Ne.symm hi)] at h; exact .inl ⟨hi, h⟩

/-- Draws turn nothing. -/
theorem Emb.drawn {M : Mem} {X : Fx} {e : Env} {H : Hp} {w : World} (h : Emb M X e H w) (n : Nat) : Emb M X e H { w with drawn := n } :=
  ⟨h.os, h.tape, h.output, h.size, h.fx, h.ro, h.rosc, h.apartF, h.bn, h.own, h.apartX, h.apartR, h.inj, h.sc⟩

/-- What is known of a block may be let go. -/
theorem Emb.drop {M : Mem} {X : Fx} {e : Env} {H : Hp} {w : World} (h : Emb M X e H w) (l : Nat) : Emb M X e (H.set l none) w := by
  have look : ∀ (i : Nat) b, (H.set l none)[i]? = some (some b) → H[i]? = some (some b) := by
    intro i b hb
    rcases look_set hb with ⟨_, h⟩ | ⟨_, h, _⟩
    · exact h
    · cases h
  exact ⟨h.os, h.tape, h.output, h.size, h.fx, h.ro, h.rosc, h.apartF, h.bn, fun i b hb => h.own i b (look i b hb), fun i b hb => h.apartX i b (look i b hb), fun i b hb => h.apartR i b (look i b hb),
    fun i j bi bj hi hj => h.inj i j bi bj (look i bi hi) (look j bj hj), fun i b hb => by rw [List.length_set]; exact h.sc i b (look i b hb)⟩

/-- The world turned, but for no block of the labels, the rows and what is kept: and a new label. -/
theorem Emb.add {M : Mem} {X : Fx} {e : Env} {H : Hp} {w w' : World} (h : Emb M X e H w) (k : Blk) (L : Loc) (hk : k.sc H.length M.next)
    (hos : w'.os = w.os) (htape : w'.tape = w.tape) (hout : w'.output = w.output) (hsz : w.heap.size ≤ w'.heap.size)
    (hheap : ∀ b o, (L.nil = true ∨ b ≠ L.blk) → w.heap[b]? = some o → w'.heap[b]? = some o) (hat : k.at e w' L)
    (hX : L.nil = false → X L.blk = none) (hR : L.nil = false → ∀ j cs, M.ro j = some cs → (e.f j).nil = false → (e.f j).blk ≠ L.blk)
    (hH : L.nil = false → ∀ (i : Nat) k, H[i]? = some (some k) → (e.o i).nil = false → (e.o i).blk ≠ L.blk) :
    Emb M X (ext e H.length L) (H ++ [some k]) w' := by
  have hag := ext_agr e H.length L M.next
  have hn : ∀ b, (L.nil = false → b ≠ L.blk) → (L.nil = true ∨ b ≠ L.blk) := fun b hb => by cases hl : L.nil <;> simp_all
  refine ⟨hos.trans h.os, htape.trans h.tape, hout.trans h.output, Nat.le_trans h.size hsz, ?_, ?_, h.rosc, h.apartF, h.bn, ?_, ?_, ?_, ?_, ?_⟩
  · intro b o hb
    exact hheap b o (hn b fun hl he => by have := hX hl; rw [← he, hb] at this; cases this) (h.fx b o hb)
  · intro i cs hi
    refine ((h.ro i cs hi).env (h.rosc i cs hi).2 (hag.mono (Nat.zero_le _) (Nat.le_refl _))).heap fun hnil o ho => ?_
    exact hheap _ o (hn _ fun hl => hR hl i cs hi hnil) ho
  · intro i b hb
    rcases look_app hb with ⟨hi, hb'⟩ | ⟨rfl, rfl⟩
    · rw [ext_ne (by omega)]
      refine ((h.own i b hb').env (h.sc i b hb') hag).heap fun hnil o ho => hheap _ o (hn _ fun hl => hH hl i b hb' hnil) ho
    · rw [ext_eq]; exact hat.env hk hag
  · intro i b hb
    rcases look_app hb with ⟨hi, hb'⟩ | ⟨rfl, rfl⟩
    · rw [ext_ne (by omega)]; exact h.apartX i b hb'
    · rw [ext_eq]; exact hX
  · intro i b hb
    rcases look_app hb with ⟨hi, hb'⟩ | ⟨rfl, rfl⟩
    · rw [ext_ne (by omega)]; exact h.apartR i b hb'
    · rw [ext_eq]; exact hR
  · intro i j bi bj hi hj
    rcases look_app hi with ⟨hi', hbi⟩ | ⟨rfl, rfl⟩ <;> rcases look_app hj with ⟨hj', hbj⟩ | ⟨rfl, rfl⟩
    · rw [ext_ne (by omega), ext_ne (by omega)]; exact h.inj i j bi bj hbi hbj
    · rw [ext_ne (by omega), ext_eq]; intro h1 h2 h3; exact absurd h3 (hH h2 i bi hbi h1)
    · rw [ext_eq, ext_ne (i := j) (by omega)]; intro h1 h2 h3; exact absurd h3.symm (hH h1 j bj hbj h2)
    · intros; rfl
  · intro i b hb
    simp only [List.length_append, List.length_cons, List.length_nil]
    rcases look_app hb with ⟨hi, hb'⟩ | ⟨rfl, rfl⟩
    · exact (h.sc i b hb').mono (by omega) (Nat.le_refl _)
    · exact hk.mono (by omega) (Nat.le_refl _)

/-- A new block at the heap's end. -/
theorem Emb.alloc {M : Mem} {X : Fx} {e : Env} {H : Hp} {w : World} (h : Emb M X e H w) (k : Blk) (hk : k.sc H.length M.next) (o : Obj) (more : Nat)
    (hat : k.at e (w.alloc o) ⟨w.heap.size, 0, more, false⟩) :
    Emb M X (ext e H.length ⟨w.heap.size, 0, more, false⟩) (H ++ [some k]) (w.alloc o) := by
  have hs : (w.alloc o).heap = w.heap.push o := rfl
  have hin : ∀ b x, w.heap[b]? = some x → b < w.heap.size := fun b x hx => (Array.getElem?_eq_some_iff.1 hx).1
  refine h.add k _ hk rfl rfl rfl (by simp [hs]) (fun b x _ hx => ?_) hat (fun _ => ?_) (fun _ j cs hj hn he => ?_) (fun _ i b hb hn he => ?_)
  · have := hin b x hx
    rw [hs, Array.getElem?_push, if_neg (by omega)]; exact hx
  · cases hr : X w.heap.size with
    | none => rfl
    | some o => have := hin _ _ (h.fx _ _ hr); simp at this
  · have := (h.ro j cs hj).lt hn; simp only at he; omega
  · have := (h.own i b hb).lt hn; simp only at he; omega

/-- A block of cells turned. -/
theorem Emb.set {M : Mem} {X : Fx} {e : Env} {H : Hp} {w w' : World} (h : Emb M X e H w) {l : Nat} {k k' : Blk} (hl : H[l]? = some (some k)) (hk : k'.sc H.length M.next)
    (hos : w'.os = w.os) (htape : w'.tape = w.tape) (hout : w'.output = w.output) (hsz : w.heap.size ≤ w'.heap.size)
    (hheap : ∀ b o, b ≠ (e.o l).blk → w.heap[b]? = some o → w'.heap[b]? = some o) (hnil : (e.o l).nil = false) (hat : k'.at e w' (e.o l)) :
    Emb M X e (H.set l (some k')) w' := by
  have any : ∀ (i : Nat) b, (H.set l (some k'))[i]? = some (some b) → ∃ b', H[i]? = some (some b') := by
    intro i b hb
    rcases look_set hb with ⟨_, hb'⟩ | ⟨rfl, _⟩
    · exact ⟨b, hb'⟩
    · exact ⟨k, hl⟩
  refine ⟨hos.trans h.os, htape.trans h.tape, hout.trans h.output, Nat.le_trans h.size hsz, ?_, ?_, h.rosc, h.apartF, h.bn, ?_, ?_, ?_, ?_, ?_⟩
  · intro b o hb
    refine hheap b o (fun he => ?_) (h.fx b o hb)
    have := h.apartX l k hl hnil
    rw [← he, hb] at this; cases this
  · intro i cs hi
    exact (h.ro i cs hi).heap fun hn o ho => hheap _ o (h.apartR l k hl hnil i cs hi hn) ho
  · intro i b hb
    rcases look_set hb with ⟨hi, hb'⟩ | ⟨rfl, hb', _⟩
    · exact (h.own i b hb').heap fun hn o ho => hheap _ o (fun he => hi (h.inj i l b k hb' hl hn hnil he)) ho
    · cases hb'; exact hat
  · intro i b hb
    obtain ⟨b', hb'⟩ := any i b hb
    exact h.apartX i b' hb'
  · intro i b hb
    obtain ⟨b', hb'⟩ := any i b hb
    exact h.apartR i b' hb'
  · intro i j bi bj hi hj
    obtain ⟨bi', hi'⟩ := any i bi hi
    obtain ⟨bj', hj'⟩ := any j bj hj
    exact h.inj i j bi' bj' hi' hj'
  · intro i b hb
    rw [List.length_set]
    rcases look_set hb with ⟨_, hb'⟩ | ⟨rfl, hb', _⟩
    · exact h.sc i b hb'
    · cases hb'; exact hk
end Go.Snb
