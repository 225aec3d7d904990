/- A table of types is held against a program by one Bool. -/
import Derived.Test.YtlojmciaoecfjaaSnbS
set_option linter.all false
namespace Go.Snb
open Go
section
variable {P : Program}

def simEq : Value → Value → Bool
  | .bool a, .bool b => a == b
  | .int k a, .int l b => k == l && a == b
  | .string a, .string b => a.data.toList == b.data.toList
  | .pointer none, .pointer none => true
  | .slice none a b, .slice none c d => a == c && b == d
  | .map none, .map none => true
  | .nilFunc, .nilFunc => true
  | .nilIface, .nilIface => true
  | _, _ => false
theorem simEq_ok {a b : Value} (h : simEq a b = true) : a = b := by
  unfold simEq at h
  split at h
  · simpa using h
  · simpa using h
  · rename_i a b
    have : a.data.toList = b.data.toList := by simpa using h
    have h2 : a.data = b.data := Array.ext' this
    cases a; cases b; simp_all
  · rfl
  · simp at h; simp [h]
  · rfl
  · rfl
  · rfl
  · cases h
def simEqL : List Value → List Value → Bool
  | [], [] => true
  | a :: r, b :: s => simEq a b && simEqL r s
  | _, _ => false
theorem simEqL_ok : ∀ {a b : List Value}, simEqL a b = true → a = b
  | [], [], _ => rfl
  | a :: r, b :: s, h => by
    simp only [simEqL, Bool.and_eq_true] at h
    rw [simEq_ok h.1, simEqL_ok h.2]
  | [], _ :: _, h => by cases h
  | _ :: _, [], h => by cases h
def valEq : Value → Value → Bool
  | .agg a, .agg b => simEqL a.toList b.toList
  | a, b => simEq a b
theorem valEq_ok {a b : Value} (h : valEq a b = true) : a = b := by
  unfold valEq at h
  split at h
  · rename_i a b; rw [Array.ext' (simEqL_ok h)]
  · exact simEq_ok h

def undB (P : Program) (t : TypeId) (u : Und) : Bool :=
  match u, P.underlying t with
  | .bool, some .bool => true
  | .int k, some (.int l) => k == l
  | .string, some .string => true
  | .slice a, some (.slice b) => a == b
  | .array n a, some (.array m b) => n == m && a == b
  | .pointer a, some (.pointer b) => a == b
  | .struct, some (.struct _) => true
  | .map a b, some (.map c d) => a == c && b == d
  | .func, some (.func _ _ _) => true
  | .iface, some (.interface _) => true
  | .other, _ => true
  | _, _ => false
theorem undB_ok {t : TypeId} {u : Und} (h : undB P t u = true) : undOk P t u := by
  unfold undB at h
  split at h <;> simp_all [undOk]

def TE.chk (P : Program) (x : TE) : Bool :=
  undB P x.t x.und && szOf P x.t == some x.size && bytesT P x.t == some x.bytes &&
  (match x.zero with | none => true | some z => match zeroOf P x.t with | some y => valEq y z | none => false) &&
  ((List.range x.flds.length).all fun i => fieldOf P x.t i == x.flds[i]?) &&
  (match x.und with | .struct => placesOf P x.t == some (x.flds.map fun f => (f.1, f.2.2)) | _ => true) &&
  (match x.kd with | none => true | some ks => kindsOf P 8 x.t == some ks && !P.eqGuardType P.depth x.t && aggB P x.t == some true)
theorem TE.chk_ok {x : TE} (h : x.chk P = true) : x.ok P := by
  simp only [TE.chk, Bool.and_eq_true] at h
  obtain ⟨⟨⟨⟨⟨⟨h1, h2⟩, h3⟩, h4⟩, h5⟩, h6⟩, h7⟩ := h
  refine ⟨undB_ok h1, by simpa using h2, by simpa using h3, fun z hz => ?_, fun i f hf => ?_, fun hs => ?_, fun ks hks => ?_⟩
  · rw [hz] at h4
    simp only at h4
    split at h4
    · rename_i y hy; rw [hy, valEq_ok h4]
    · cases h4
  · have hi := (List.getElem?_eq_some_iff.1 hf).1
    have := List.all_eq_true.1 h5 i (List.mem_range.2 hi)
    rw [← hf]
    simpa using this
  · rw [hs] at h6
    simpa using h6
  · rw [hks] at h7
    simp only [Bool.and_eq_true, beq_iff_eq, Bool.not_eq_true'] at h7
    exact ⟨h7.1.1, h7.1.2, h7.2⟩

def fbB (P : Program) (g : FuncId) : Bool :=
  match P.funcs[g]? with
  | some fn => !(fn.name == "runtime.NumGoroutine") && fn.body.isSome
  | none => false
theorem fbB_ok {g : FuncId} (h : fbB P g = true) (args : Array Value) (w : World) : (callFunc g args).run P w = .ok (.enter g args) w := by
  unfold fbB at h
  split at h
  · rename_i fn hf
    simp only [Bool.and_eq_true, Bool.not_eq_true'] at h
    have hb : fn.body.isNone = false := by cases hx : fn.body <;> simp_all
    simp only [callFunc, Sem.run_bind, run_program, Result.andThen_ok, hf, h.1, hb, Bool.false_eq_true, if_false, Sem.run_pure]
  · cases h

def Tb.chk (P : Program) (n m : Nat) (T : Tb) : Bool :=
  ((List.range n).all fun t => match T.ty t with | some x => x.t == t && x.chk P | none => true) && (List.range m).all fun g => !T.fb g || fbB P g
theorem Tb.chk_ok {n m : Nat} {T : Tb} (h : T.chk P n m = true) (hn : ∀ t, n ≤ t → T.ty t = none) (hm : ∀ g, m ≤ g → T.fb g = false) (hp : T.pf = pf0) : TbOk P T := by
  simp only [Tb.chk, Bool.and_eq_true] at h
  refine ⟨fun t x hx => ?_, fun g hg => ?_, fun g => by rw [hp]; exact noKn_ok P g⟩
  · have ht : t < n := Nat.lt_of_not_le fun hle => by rw [hn t hle] at hx; cases hx
    have := List.all_eq_true.1 h.1 t (List.mem_range.2 ht)
    rw [hx] at this
    simp only [Bool.and_eq_true, beq_iff_eq] at this
    exact ⟨TE.chk_ok this.2, this.1⟩
  · have ht : g < m := Nat.lt_of_not_le fun hle => by rw [hm g hle] at hg; cases hg
    have := List.all_eq_true.1 h.2 g (List.mem_range.2 ht)
    rw [hg] at this
    exact fbB_ok (by simpa using this)
theorem QCall.of_pure {f : FuncId} {args : List Value} {u : Value} {M : Mem} {H : Hp} {K : Value → Prop} (h : ∀ M, acalls P f args M [] [] fun _ v _ => v = u) (ha : args.all flat = true) (hu : flat u = true) (hk : K u) {t : Tok K} : QCall P f args M H K t :=
  ⟨u, acalls.of_pure h ha hu ⟨rfl, [], by simp⟩, hu, hk⟩
end
end Go.Snb
