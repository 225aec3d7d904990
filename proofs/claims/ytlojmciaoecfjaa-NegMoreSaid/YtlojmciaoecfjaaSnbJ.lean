/- The walk as a function that reckons, over a table of types. -/
import Derived.Test.YtlojmciaoecfjaaSnbW
set_option linter.all false
namespace Go.Snb
open Go

inductive Und where
  | bool | int (k : IntKind) | string | slice (el : TypeId) | array (n : Nat) (el : TypeId) | pointer (el : TypeId) | struct | map (k v : TypeId) | func | iface | other

structure TE where
  t : Nat
  und : Und
  size : Nat
  bytes : Nat
  zero : Option Value
  flds : List (Nat × TypeId × Nat)
  kd : Option (List (Option IntKind))

def undOk (P : Program) (t : TypeId) : Und → Prop
  | .bool => P.underlying t = some .bool
  | .int k => P.underlying t = some (.int k)
  | .string => P.underlying t = some .string
  | .slice el => P.underlying t = some (.slice el)
  | .array n el => P.underlying t = some (.array n el)
  | .pointer el => P.underlying t = some (.pointer el)
  | .struct => ∃ fs, P.underlying t = some (.struct fs)
  | .map k v => P.underlying t = some (.map k v)
  | .func => ∃ a b c, P.underlying t = some (.func a b c)
  | .iface => ∃ ms, P.underlying t = some (.interface ms)
  | .other => True

def Und.agg : Und → Bool
  | .struct | .array _ _ => true
  | _ => false
def Und.known : Und → Bool
  | .other => false
  | _ => true

structure TE.ok (P : Program) (x : TE) : Prop where
  und : undOk P x.t x.und
  size : szOf P x.t = some x.size
  bytes : bytesT P x.t = some x.bytes
  zero : ∀ z, x.zero = some z → zeroOf P x.t = some z
  flds : ∀ i f, x.flds[i]? = some f → fieldOf P x.t i = some f
  plc : x.und = .struct → placesOf P x.t = some (x.flds.map fun f => (f.1, f.2.2))
  kd : ∀ ks, x.kd = some ks → kindsOf P 8 x.t = some ks ∧ P.eqGuardType P.depth x.t = false ∧ aggB P x.t = some true

theorem TE.ok.agg {P : Program} {x : TE} (h : x.ok P) (hk : x.und.known = true) : aggB P x.t = some x.und.agg := by
  have := h.und
  cases hu : x.und <;> simp only [hu, undOk] at this <;> first | (simp [aggB, this, Und.agg]; done) | skip
  · obtain ⟨fs, hf⟩ := this; simp [aggB, hf, Und.agg]
  · obtain ⟨a, b, c, hf⟩ := this; simp [aggB, hf, Und.agg]
  · obtain ⟨ms, hf⟩ := this; simp [aggB, hf, Und.agg]
  · rw [hu] at hk; cases hk
theorem TE.ok.some {P : Program} {x : TE} (h : x.ok P) (hk : x.und.known = true) : ∃ d, P.underlying x.t = some d := by
  have := h.und
  cases hu : x.und <;> simp only [hu, undOk] at this <;> first | exact ⟨_, this⟩ | (obtain ⟨_, h⟩ := this; exact ⟨_, h⟩) | (obtain ⟨_, _, _, h⟩ := this; exact ⟨_, h⟩) | (rw [hu] at hk; cases hk)

def TabOk (P : Program) (T : Nat → Option TE) : Prop := ∀ t x, T t = some x → x.ok P ∧ x.t = t
def tget (T : Nat → Option TE) (t : Nat) : Option TE := T t
theorem tget_spec {P : Program} {T : Nat → Option TE} {t : Nat} {x : TE} (hT : TabOk P T) (h : tget T t = some x) : x.ok P ∧ x.t = t := hT t x h

/-- A value that is brought into its plain form before the walk goes on. -/
def nf {α : Type} (x : α) (k : α → Prop) : Prop := k x
@[congr] theorem nf_congr {α : Type} {x y : α} {k : α → Prop} (h : x = y) : nf x k = nf y k := by rw [h]
theorem nf_eq {α : Type} (x : α) (k : α → Prop) : nf x k = k x := rfl
def mrk {α : Type} (x : α) : α := x
theorem undef_eq : undef = .tuple #[] := Eq.trans (Eq.refl undef) (by unfold undef; rfl)
theorem mrk_eq {α : Type} (x : α) : mrk x = x := Eq.trans (Eq.refl (mrk x)) (by unfold mrk; rfl)
def markP (x : Prop) : Prop := x
theorem markP_eq (x : Prop) : markP x = x := Eq.trans (Eq.refl (markP x)) (by unfold markP; rfl)
/-- A token that hangs on a term: simp does not enter the term. -/
inductive Tok {α : Type} (a : α) where
  | tk
/-- An array's list. -/
def arrK {α : Type} (a : Array α) (k : List α → Prop) : Prop := k a.toList
theorem arrK_mk {α : Type} (l : List α) (k : List α → Prop) : arrK l.toArray k = k l := rfl
/-- A slot more is known. -/
def fputK (F : Fr) (d : Option Tmp) (v : Value) (k : Fr → Prop) : Prop := match d with | some d => k ((d, v) :: F) | none => k F
theorem fputK_def (F : Fr) (d : Option Tmp) (v : Value) (k : Fr → Prop) : fputK F d v k = k (fput F d v) := by cases d <;> rfl
theorem fputK_out {F : Fr} {d : Option Tmp} {v : Value} {k : Fr → Prop} (h : fputK F d v k) : k (fput F d v) := fputK_def F d v k ▸ h
theorem fputK_some (F : Fr) (d : Tmp) (v : Value) (k : Fr → Prop) : fputK F (some d) v k = k ((d, v) :: F) := rfl
theorem fputK_none (F : Fr) (v : Value) (k : Fr → Prop) : fputK F none v k = k F := rfl
/-- What stands at a place, if any. -/
def getK {α : Type} : List α → Nat → (α → Prop) → Prop
  | [], _, _ => False
  | x :: r, n, k => if n = 0 then k x else getK r (n - 1) k
theorem getK_spec {α : Type} : ∀ {l : List α} {n : Nat} {k : α → Prop}, getK l n k → ∃ x, l[n]? = some x ∧ k x
  | [], _, _, h => h.elim
  | x :: r, n, k, h => by
    simp only [getK] at h
    split at h
    · rename_i hn; subst hn; exact ⟨x, rfl, h⟩
    · rename_i hn
      obtain ⟨y, hy, h2⟩ := getK_spec h
      obtain ⟨m, rfl⟩ : ∃ m, n = m + 1 := ⟨n - 1, by omega⟩
      exact ⟨y, by simpa using hy, h2⟩
theorem getK_of {α : Type} : ∀ {l : List α} {n : Nat} {k : α → Prop} {x : α}, l[n]? = some x → k x → getK l n k
  | [], n, _, _, h, _ => by simp at h
  | y :: r, n, k, x, h, hk => by
    simp only [getK]
    split
    · rename_i hn; subst hn; simp at h; rw [h]; exact hk
    · rename_i hn
      obtain ⟨m, rfl⟩ : ∃ m, n = m + 1 := ⟨n - 1, by omega⟩
      exact getK_of (by simpa using h) hk
def fK : Fr → Nat → (Value → Prop) → Prop
  | [], _, _ => False
  | (i, v) :: r, t, k => if i = t then k v else fK r t k
theorem fK_spec : ∀ {F : Fr} {t : Nat} {k : Value → Prop}, fK F t k → ∃ v, fget F t = some v ∧ k v
  | [], _, _, h => h.elim
  | (i, v) :: r, t, k, h => by
    simp only [fK] at h
    simp only [fget]
    split at h
    · rename_i hi; rw [if_pos hi]; exact ⟨v, rfl, h⟩
    · rename_i hi; rw [if_neg hi]; exact fK_spec h
def tyK (T : Nat → Option TE) (t : Nat) (k : TE → Prop) : Prop :=
  match T t with
  | some x => k x
  | none => False
theorem tyK_spec {P : Program} {T : Nat → Option TE} (hT : TabOk P T) {t : Nat} {k : TE → Prop} (h : tyK T t k) : ∃ x, x.ok P ∧ x.t = t ∧ k x := by
  unfold tyK at h
  split at h
  · rename_i x hx; exact ⟨x, (hT t x hx).1, (hT t x hx).2, h⟩
  · exact h.elim
/-- An entry's parts, brought into plain form ahead. -/
def undK (x : TE) (k : Und → Prop) : Prop := nf (mrk x.und) k
def zerK (x : TE) (k : Option Value → Prop) : Prop := nf (mrk x.zero) k
def fldK (x : TE) (k : List (Nat × TypeId × Nat) → Prop) : Prop := nf (mrk x.flds) k
def kddK (x : TE) (k : Option (List (Option IntKind)) → Prop) : Prop := nf (mrk x.kd) k
theorem undK_eq (x : TE) (k : Und → Prop) : undK x k = k x.und := rfl
theorem zerK_eq (x : TE) (k : Option Value → Prop) : zerK x k = k x.zero := rfl
theorem fldK_eq (x : TE) (k : List (Nat × TypeId × Nat) → Prop) : fldK x k = k x.flds := rfl
theorem kddK_eq (x : TE) (k : Option (List (Option IntKind)) → Prop) : kddK x k = k x.kd := rfl
def op1 (F : Fr) (x : Operand) (k : Value → Prop) : Prop :=
  match x with
  | .tmp t => fK F t k
  | .const v => if flat v = true then k v else False
  | .global g => k (.pointer (some ⟨g, 0, some 3⟩))
  | .func f => k (.func (.func f) #[] #[])
theorem op1_with {F : Fr} {x : Operand} {k k' : Value → Prop} (h : op1 F x k) (hk : ∀ v, k v → k' v) : with1 F x k' := by
  cases x with
  | tmp t => obtain ⟨v, h1, h2⟩ := fK_spec h; exact ⟨v, h1, hk _ h2⟩
  | const v =>
    simp only [op1] at h
    split at h
    · rename_i hf; exact ⟨v, by simp [opd, hf], hk _ h⟩
    · exact h.elim
  | global g => exact ⟨_, rfl, hk _ h⟩
  | func f => exact ⟨_, rfl, hk _ h⟩
/-- A block of cells of ours. -/
def hK (H : Hp) (l : Nat) (k : List Value → Nat → Prop) : Prop := getK H l fun b => match b with | some (.cells cs z) => k cs z | _ => False
theorem hK_spec {H : Hp} {l : Nat} {k : List Value → Nat → Prop} (h : hK H l k) : ∃ cs z, H[l]? = some (some (.cells cs z)) ∧ k cs z := by
  obtain ⟨b, hb, h⟩ := getK_spec h
  split at h
  · rename_i cs z; exact ⟨cs, z, hb, h⟩
  · exact h.elim
/-- A frozen row. -/
def roK (o : Option (List Value)) (k : List Value → Prop) : Prop := match o with | some cs => k cs | none => False
@[congr] theorem roK_congr {o o' : Option (List Value)} {k : List Value → Prop} (h : o = o') : roK o k = roK o' k := by rw [h]
theorem roK_some (cs : List Value) (k : List Value → Prop) : roK (some cs) k = k cs := rfl
/-- The row that an address lies in. -/
def rowK (M : Mem) (H : Hp) (a : Addr) (k : List Value → Prop) : Prop :=
  match a.spot with
  | none => hK H a.block fun cs _ => k cs
  | some 0 => roK (mrk (M.ro a.block)) k
  | some 1 => hK H a.block fun cs _ => k cs
  | some 2 => roK (mrk (M.ro a.block)) k
  | _ => False
theorem rowK_none (M : Mem) (H : Hp) (l o : Nat) (k : List Value → Prop) : rowK M H ⟨l, o, none⟩ k = hK H l fun cs _ => k cs := rfl
theorem rowK_0 (M : Mem) (H : Hp) (l o : Nat) (k : List Value → Prop) : rowK M H ⟨l, o, some 0⟩ k = roK (mrk (M.ro l)) k := rfl
theorem rowK_1 (M : Mem) (H : Hp) (l o : Nat) (k : List Value → Prop) : rowK M H ⟨l, o, some 1⟩ k = hK H l fun cs _ => k cs := rfl
theorem rowK_2 (M : Mem) (H : Hp) (l o : Nat) (k : List Value → Prop) : rowK M H ⟨l, o, some 2⟩ k = roK (mrk (M.ro l)) k := rfl
theorem rowK_spec {M : Mem} {H : Hp} {a : Addr} {k : List Value → Prop} (h : rowK M H a k) : ∃ cs, rowOf M H a = some cs ∧ k cs := by
  have ho : ∀ {l : Nat}, (hK H l fun cs _ => k cs) → ∃ cs, (match H[l]? with | some (some (.cells cs _)) => some cs | _ => none) = some cs ∧ k cs := by
    intro l h
    obtain ⟨cs, z, h1, h2⟩ := hK_spec h
    exact ⟨cs, by rw [h1], h2⟩
  have hr : ∀ {l : Nat}, roK (mrk (M.ro l)) k → ∃ cs, M.ro l = some cs ∧ k cs := by
    intro l h
    have h : roK (M.ro l) k := h
    unfold roK at h
    split at h
    · rename_i cs hcs; exact ⟨cs, hcs, h⟩
    · exact h.elim
  obtain ⟨b, o, s⟩ := a
  match s with
  | none => exact ho h
  | some 0 => exact hr h
  | some 1 => exact ho h
  | some 2 => exact hr h
  | some (s + 3) => exact (show False from h).elim
def opL (F : Fr) : List Operand → (List Value → Prop) → Prop
  | [], k => k []
  | x :: r, k => op1 F x fun v => opL F r fun l => k (v :: l)
theorem opL_with {F : Fr} : ∀ {xs : List Operand} {k k' : List Value → Prop}, opL F xs k → (∀ l, k l → k' l) → withL F xs k'
  | [], _, _, h, hk => hk _ h
  | _ :: _, _, _, h, hk => op1_with h fun _ h => opL_with h fun _ h => hk _ h

/-- Two ways, kept apart from what simp knows of '∧'. -/
structure Br (t : Bool) (A B : Prop) : Prop where
  yes : t = true → A
  no : t = false → B
@[simp] theorem Br_true (A B : Prop) : Br true A B ↔ A := ⟨fun h => h.yes rfl, fun h => ⟨fun _ => h, fun h => by cases h⟩⟩
@[simp] theorem Br_false (A B : Prop) : Br false A B ↔ B := ⟨fun h => h.no rfl, fun h => ⟨fun h => (by cases h), fun _ => h⟩⟩
@[congr] theorem Br_congr {t t' : Bool} {A B : Prop} (h : t = t') : Br t A B = Br t' A B := by rw [h]
theorem Br.sel {t : Bool} {A B A' B' : Prop} (h : Br t A B) (ha : A → A') (hb : B → B') : BSel t A' B' := ⟨fun ht => ha (h.yes ht), fun ht => hb (h.no ht)⟩

/-- A side condition, and what follows. -/
structure Side (A B : Prop) : Prop where
  ask : A
  go : B
theorem Side_true (B : Prop) : Side True B = B := propext ⟨fun h => h.go, fun h => ⟨trivial, h⟩⟩
@[congr] theorem Side_congr {A A' B : Prop} (h : A = A') : Side A B = Side A' B := by rw [h]

/-- Two ways, both asked; the first under a condition. -/
structure App2 (c A B : Prop) : Prop where
  one : c → A
  two : B
section
variable {P : Program}

/-- Cells out of a row. -/
def subK (cs : List Value) (o n : Nat) (k : List Value → Prop) : Prop := Side (markP (o + n ≤ cs.length)) (k ((cs.drop o).take n))
/-- Cells written into a row. -/
def setK (cs : List Value) (o : Nat) (vs : List Value) (k : List Value → Prop) : Prop := Side (markP (o + vs.length ≤ cs.length)) (k (setL cs o vs))
def fLoad (T : Nat → Option TE) (t : TypeId) (v : Value) (M : Mem) (H : Hp) (K : Value → Prop) : Prop :=
  match v with
  | .pointer (some a) => rowK M H a fun cs => tyK T t fun x => if x.und.known = true then (if x.und.agg = true then subK cs a.off x.size fun l => K (.agg l.toArray) else getK cs a.off K) else False
  | _ => False

theorem fLoad_ev {T : Nat → Option TE} (hT : TabOk P T) {t : TypeId} {v : Value} {M : Mem} {H : Hp} {K K' : Value → Prop} (h : fLoad T t v M H K) (hk : ∀ v, K v → K' v) : evLoad P t v M H K' := by
  unfold fLoad at h
  unfold evLoad
  split at h
  · obtain ⟨cs, hl, h⟩ := rowK_spec h
    obtain ⟨x, hok, ht0, hq⟩ := tyK_spec hT h
    subst ht0; have h := hq; clear hq
    split at h
    · rename_i hkn
      refine ⟨cs, hl, _, hok.agg hkn, ?_⟩
      split at h
      · rename_i ha
        rw [ha, BSel_true]
        exact ⟨_, hok.size, h.ask, hk _ h.go⟩
      · rename_i ha
        rw [Bool.eq_false_iff.2 ha, BSel_false]
        obtain ⟨u, hu, h⟩ := getK_spec h
        exact ⟨u, hu, hk _ h⟩
    · exact h.elim
  · exact h.elim

def fStore (T : Nat → Option TE) (t : TypeId) (p v : Value) (H : Hp) (K : Hp → Prop) : Prop :=
  match p with
  | .pointer (some ⟨l, o, none⟩) => hK H l fun cs z => tyK T t fun x => nf (mrk (cellsL v)) fun vs => Side (markP (x.size = vs.length ∧ vs.all one = true)) (setK cs o vs fun cs' => K (H.set l (some (.cells cs' z))))
  | _ => False
theorem fStore_ev {T : Nat → Option TE} (hT : TabOk P T) {t : TypeId} {p v : Value} {H : Hp} {K K' : Hp → Prop} (h : fStore T t p v H K) (hk : ∀ v, K v → K' v) : evStore P t p v H K' := by
  unfold fStore at h
  unfold evStore
  split at h
  · obtain ⟨cs, z, hl, h⟩ := hK_spec h
    obtain ⟨x, hok, ht0, hq⟩ := tyK_spec hT h
    subst ht0; have h := hq; clear hq
    simp only [nf, mrk] at h
    obtain ⟨⟨h1, h2⟩, h3, h4⟩ := h
    exact ⟨cs, z, hl, by rw [hok.size, h1], h2, h3, hk _ h4⟩
  · exact h.elim

/-- Shifts, folded. -/
def shlI (k : IntKind) (a b : Int) : Int := k.wrap (a * 2 ^ min b.toNat k.bits)
def shrI (k : IntKind) (a b : Int) : Int := a / 2 ^ min b.toNat k.bits
theorem wrap_i64 {n : Int} (h1 : -9223372036854775808 ≤ n) (h2 : n ≤ 9223372036854775807) : IntKind.i64.wrap n = n := by
  simp [IntKind.wrap, IntKind.bits, IntKind.signed]; omega
theorem wrap_u64 {n : Int} (h1 : 0 ≤ n) (h2 : n ≤ 18446744073709551615) : IntKind.u64.wrap n = n := by
  simp [IntKind.wrap, IntKind.bits, IntKind.signed]; omega
theorem wrap_u32 {n : Int} (h1 : 0 ≤ n) (h2 : n ≤ 4294967295) : IntKind.u32.wrap n = n := by
  simp [IntKind.wrap, IntKind.bits, IntKind.signed]; omega
theorem wrap_u16 {n : Int} (h1 : 0 ≤ n) (h2 : n ≤ 65535) : IntKind.u16.wrap n = n := by
  simp [IntKind.wrap, IntKind.bits, IntKind.signed]; omega
theorem wrap_u8 {n : Int} (h1 : 0 ≤ n) (h2 : n ≤ 255) : IntKind.u8.wrap n = n := by
  simp [IntKind.wrap, IntKind.bits, IntKind.signed]; omega
/-- What an arithmetic operation asks. -/
def fInt (op : BinOp) (k : IntKind) (a : Int) (k' : IntKind) (b : Int) (K : Value → Prop) : Prop :=
  match op with
  | .shl => Side (markP (0 ≤ b)) (K (.int k (shlI k a b)))
  | .shr => Side (markP (0 ≤ b)) (K (.int k (shrI k a b)))
  | .quo => if k = k' then Side (markP (b ≠ 0)) (K (.int k (k.wrap (a.tdiv b)))) else False
  | .rem => if k = k' then Side (markP (b ≠ 0)) (K (.int k (a.tmod b))) else False
  | .add => if k = k' then K (.int k (k.wrap (a + b))) else False
  | .sub => if k = k' then K (.int k (k.wrap (a - b))) else False
  | .mul => if k = k' then K (.int k (k.wrap (a * b))) else False
  | .and => if k = k' then K (.int k (bits .and k a b)) else False
  | .or => if k = k' then K (.int k (bits .or k a b)) else False
  | .xor => if k = k' then K (.int k (bits .xor k a b)) else False
  | .andNot => if k = k' then K (.int k (bits .andNot k a b)) else False
  | .eql => if k = k' then K (.bool (a == b)) else False
  | .neq => if k = k' then K (.bool (a != b)) else False
  | .lss => if k = k' then K (.bool (decide (a < b))) else False
  | .leq => if k = k' then K (.bool (decide (a ≤ b))) else False
  | .gtr => if k = k' then K (.bool (decide (a > b))) else False
  | .geq => if k = k' then K (.bool (decide (a ≥ b))) else False
theorem fInt_ev {op : BinOp} {k k' : IntKind} {a b : Int} {K K' : Value → Prop} (h : fInt op k a k' b K) (hk : ∀ v, K v → K' v) : evInt op k a k' b K' := by
  cases op <;> simp only [fInt] at h <;> simp only [evInt]
  case shl => exact ⟨h.ask, hk _ h.go⟩
  case shr => exact ⟨h.ask, hk _ h.go⟩
  case quo => split at h; exact ⟨by assumption, h.ask, hk _ h.go⟩; exact h.elim
  case rem => split at h; exact ⟨by assumption, h.ask, hk _ h.go⟩; exact h.elim
  all_goals (split at h; exact ⟨by assumption, hk _ h⟩; exact h.elim)

/-- Aggregates compared: the machine's own word on them is asked. -/
structure AggEq (P : Program) (t : TypeId) (xs ys : Array Value) (K : Bool → Prop) (_k : Tok K) : Prop where
  out : ∃ r, (∀ w, (eqGuard .eql t (.tmp 0) (.tmp 0) (.agg xs) (.agg ys)).run P w = .ok () w ∧ (Op.equal t (.agg xs) (.agg ys)).run P w = .ok r w) ∧ flat (.agg xs) = true ∧ flat (.agg ys) = true ∧ K r

def kdK (o : Option (List (Option IntKind))) (k : List (Option IntKind) → Prop) : Prop := match o with | some ks => k ks | none => False
def fEqU (neg : Bool) (u : Und) (x y : Value) (M : Mem) (H : Hp) (K : Value → Prop) : Prop :=
  match x, y with
  | .bool a, .bool b => (match u with | .bool => K (.bool ((a == b) != neg)) | _ => False)
  | .pointer (some _), .pointer none => (match u with | .pointer _ => K (.bool neg) | _ => False)
  | .pointer none, .pointer (some _) => (match u with | .pointer _ => K (.bool neg) | _ => False)
  | .pointer none, .pointer none => (match u with | .pointer _ => K (.bool (!neg)) | _ => False)
  | .slice (some a) _ _, .slice none _ _ => (match u with | .slice _ => rowK M H a fun cs => Side (markP (0 < cs.length)) (K (.bool neg)) | _ => False)
  | .slice none _ _, .slice none _ _ => (match u with | .slice _ => K (.bool (!neg)) | _ => False)
  | .func _ _ _, .nilFunc => (match u with | .func => K (.bool neg) | _ => False)
  | .nilFunc, .nilFunc => (match u with | .func => K (.bool (!neg)) | _ => False)
  | _, _ => False
def fEq (P : Program) (T : Nat → Option TE) (neg : Bool) (t : TypeId) (x y : Value) (M : Mem) (H : Hp) (K : Value → Prop) : Prop :=
  match x, y with
  | .string a, .string b => K (.bool ((a.toList == b.toList) != neg))
  | .agg xs, .agg ys => tyK T t fun e => arrK xs fun xs => arrK ys fun ys => kddK e fun o => kdK o fun ks => Side (markP (fits ks xs = true ∧ fits ks ys = true)) (nf (mrk (eqc xs ys)) fun r => K (.bool (r != neg)))
  | x, y => tyK T t fun e => undK e fun u => fEqU neg u x y M H K
theorem fEq_ev {T : Nat → Option TE} (hT : TabOk P T) {neg : Bool} {t : TypeId} {x y : Value} {M : Mem} {H : Hp} {K K' : Value → Prop} (h : fEq P T neg t x y M H K) (hk : ∀ v, K v → K' v) : evEq P neg t x y M H K' := by
  unfold fEq at h
  unfold evEq
  split at h
  · exact hk _ h
  · obtain ⟨e, hok, ht0, hq⟩ := tyK_spec hT h
    subst ht0; have h := hq; clear hq
    simp only [arrK, kddK, nf, mrk] at h
    unfold kdK at h
    split at h
    · rename_i ks hks
      obtain ⟨k1, k2, k3⟩ := hok.kd ks hks
      obtain ⟨r, h1, h2, h3, rfl⟩ := agg_equal k1 k2 h.ask.1 h.ask.2 k3
      exact ⟨_, by simpa using h1, by simpa using h2, by simpa using h3, hk _ h.go⟩
    · exact h.elim
  · obtain ⟨e, hok, ht0, hq⟩ := tyK_spec hT h
    subst ht0; have h := hq; clear hq
    have hu := hok.und
    rw [undK_eq] at h
    unfold fEqU at h
    split at h
    case h_5 =>
      split at h
      · rename_i el hel
        rw [hel] at hu
        obtain ⟨cs, hr, h⟩ := rowK_spec h
        exact ⟨⟨_, hu⟩, ⟨cs, hr, by intro h0; have := h.ask; rw [h0] at this; simp [markP] at this⟩, hk _ h.go⟩
      · exact h.elim
    all_goals first | exact h.elim | (split at h <;> simp only [*, undOk] at hu <;> first | exact h.elim | exact ⟨hu, hk _ h⟩ | exact ⟨⟨_, hu⟩, hk _ h⟩)

def fBin (P : Program) (T : Nat → Option TE) (op : BinOp) (t : TypeId) (x y : Value) (M : Mem) (H : Hp) (K : Value → Prop) : Prop :=
  match x, y with
  | .int k a, .int k' b => fInt op k a k' b K
  | x, y => match op with
    | .eql => fEq P T false t x y M H K
    | .neq => fEq P T true t x y M H K
    | _ => False
theorem evBin_eql {t : TypeId} {x y : Value} {M : Mem} {H : Hp} {K : Value → Prop} (h : evEq P false t x y M H K) : evBin P .eql t x y M H K := by
  unfold evBin
  split
  · exact h.elim
  · exact h
theorem evBin_neq {t : TypeId} {x y : Value} {M : Mem} {H : Hp} {K : Value → Prop} (h : evEq P true t x y M H K) : evBin P .neq t x y M H K := by
  unfold evBin
  split
  · exact h.elim
  · exact h
theorem fBin_ev {T : Nat → Option TE} (hT : TabOk P T) {op : BinOp} {t : TypeId} {x y : Value} {M : Mem} {H : Hp} {K K' : Value → Prop} (h : fBin P T op t x y M H K) (hk : ∀ v, K v → K' v) : evBin P op t x y M H K' := by
  unfold fBin at h
  split at h
  · exact fInt_ev h hk
  · split at h
    · exact evBin_eql (fEq_ev hT h hk)
    · exact evBin_neq (fEq_ev hT h hk)
    · exact h.elim

theorem evUn_mono {op : UnOp} {x : Value} {K K' : Value → Prop} (h : evUn op x K) (hk : ∀ v, K v → K' v) : evUn op x K' := by
  unfold evUn at *
  split at h <;> first | exact hk _ h | exact h.elim

def fRead (M : Mem) (H : Hp) (sz : Nat) (b : Option Addr) (n : Nat) (K : List Value → Prop) : Prop :=
  match b with
  | none => K []
  | some a => rowK M H a fun cs => nf (mrk (n * sz)) fun k => subK cs a.off k K
theorem fRead_ev {M : Mem} {H : Hp} {sz n : Nat} {b : Option Addr} {K K' : List Value → Prop} (h : fRead M H sz b n K) (hk : ∀ v, K v → K' v) : evRead M H sz b n K' := by
  unfold fRead at h
  unfold evRead
  split at h
  · exact hk _ h
  · obtain ⟨cs, hl, h⟩ := rowK_spec h
    exact ⟨cs, hl, h.ask, hk _ h.go⟩

/-- Cells as bytes. -/
structure AsBytes (us : List Value) (k : List UInt8 → Prop) (_k : Tok k) : Prop where
  out : ∃ l, bytesOf? us = some l ∧ k l
@[congr] theorem AsBytes_congr {us us' : List Value} {k : List UInt8 → Prop} {t : Tok k} (h : us = us') : AsBytes us k t = AsBytes us' k t := by rw [h]

def fConvI (u : Und) (n : Int) (K : Value → Prop) : Prop := match u with | .int k => K (.int k (k.wrap n)) | _ => False
def fConv (T : Nat → Option TE) (s d : TypeId) (x : Value) (M : Mem) (H : Hp) (K : Value → Prop) : Prop :=
  match x with
  | .int _ n => tyK T s fun es => if es.und.known = true then tyK T d fun ed => undK ed fun u => fConvI u n K else False
  | .slice a n c => tyK T s fun es => undK es fun u => match u with
    | .slice el => tyK T d fun ed => undK ed fun u => (match u with
      | .string => tyK T el fun ee => undK ee fun u => (match u with
        | .int .u8 => fRead M H 1 a n fun us => AsBytes us (fun l => K (.string ⟨l.toArray⟩)) .tk
        | _ => False)
      | _ => False)
    | _ => False
  | _ => False
theorem fConv_ev {T : Nat → Option TE} (hT : TabOk P T) {s d : TypeId} {x : Value} {M : Mem} {H : Hp} {K K' : Value → Prop} (h : fConv T s d x M H K) (hk : ∀ v, K v → K' v) : evConv P s d x M H K' := by
  unfold fConv at h
  split at h
  · obtain ⟨es, ok1, ht0, hq⟩ := tyK_spec hT h
    subst ht0; have h := hq; clear hq
    split at h
    · rename_i hkn
      obtain ⟨ed, ok2, ht0, hq⟩ := tyK_spec hT h
      subst ht0; have h := hq; clear hq
      rw [undK_eq] at h
      unfold fConvI at h
      split at h
      · rename_i k hu
        have := ok2.und
        rw [hu] at this
        exact ⟨ok1.some hkn, _, this, hk _ h⟩
      · exact h.elim
    · exact h.elim
  · rename_i a n c
    obtain ⟨es, ok1, ht0, hq⟩ := tyK_spec hT h
    subst ht0; have h := hq; clear hq
    rw [undK_eq] at h
    split at h
    · rename_i el hu1
      obtain ⟨ed, ok2, ht0, hq⟩ := tyK_spec hT h
      subst ht0; have h := hq; clear hq
      rw [undK_eq] at h
      split at h
      · rename_i hu2
        obtain ⟨ee, ok3, ht0, hq⟩ := tyK_spec hT h
        subst ht0; have h := hq; clear hq
        rw [undK_eq] at h
        split at h
        · rename_i hu3
          have i1 := ok1.und
          have i2 := ok2.und
          have i3 := ok3.und
          rw [hu1] at i1
          rw [hu2] at i2
          rw [hu3] at i3
          refine ⟨_, i1, i2, i3, fRead_ev h ?_⟩
          intro us hus
          obtain ⟨l, hl, h⟩ := hus.out
          exact ⟨l, hl, hk _ h⟩
        · exact h.elim
      · exact h.elim
    · exact h.elim
  · exact h.elim

def fPart (T : Nat → Option TE) (t : TypeId) (cs : List Value) (o : Nat) (K : Value → Prop) : Prop :=
  tyK T t fun x => if x.und.known = true then (if x.und.agg = true then K (.agg ((cs.drop o).take x.size).toArray) else getK cs o K) else False
theorem fPart_ev {T : Nat → Option TE} (hT : TabOk P T) {t : TypeId} {cs : List Value} {o : Nat} {K K' : Value → Prop} (h : fPart T t cs o K) (hk : ∀ v, K v → K' v) {n : Nat} (hn : szOf P t = some n) : evPart P t n cs o K' := by
  unfold fPart at h
  obtain ⟨x, hok, ht0, hq⟩ := tyK_spec hT h
  subst ht0; have h := hq; clear hq
  rw [hok.size] at hn
  cases hn
  split at h
  · rename_i hkn
    refine ⟨_, hok.agg hkn, ?_⟩
    split at h
    · rename_i ha; rw [ha, BSel_true]; exact hk _ h
    · rename_i ha
      rw [Bool.eq_false_iff.2 ha, BSel_false]
      obtain ⟨u, hu, h⟩ := getK_spec h
      exact ⟨u, hu, hk _ h⟩
  · exact h.elim

def fBound (F : Fr) (x : Option Operand) (d : Nat) (k : Int → Prop) : Prop :=
  match x with
  | none => k d
  | some x => op1 F x fun v => match v with | .int _ i => k i | _ => False
theorem fBound_ev {F : Fr} {x : Option Operand} {d : Nat} {k k' : Int → Prop} (h : fBound F x d k) (hk : ∀ i, k i → k' i) : evBound F x d k' := by
  unfold fBound at h
  unfold evBound
  split at h
  · exact hk _ h
  · refine op1_with h fun v hv => ?_
    cases v <;> first | exact hv.elim | exact hk _ hv

/-- A cut of a row. -/
def clipIf (b : Bool) (s : Option Nat) : Option Nat := if b = true then clipS s else s
def fCut (a : Addr) (sz : Nat) (l h m : Int) (clip : Bool) (K : Value → Prop) : Prop :=
  Br (mrk (decide (l = 0))) (K (.slice (some ⟨a.block, a.off, clipIf clip a.spot⟩) h.toNat m.toNat))
    (Br (mrk (decide (l < m))) (K (.slice (some ⟨a.block, a.off + l.toNat * sz, clipIf clip a.spot⟩) (h - l).toNat (m - l).toNat))
      (App2 (clip = false ∧ openS a.spot = true) (K (.slice (some ⟨a.block, a.off + l.toNat * sz, a.spot⟩) 0 0)) (K (.slice (some ⟨a.block, a.off, clipS a.spot⟩) 0 0))))
def fSliceOf (a : Option Addr) (sz c : Nat) (l h m : Int) (clip : Bool) (K : Value → Prop) : Prop :=
  Side (markP (0 ≤ l ∧ l ≤ h ∧ h ≤ m ∧ m ≤ c)) (if clip = true ∨ m = c then (match a with
    | some a => if goodB a = true then fCut a sz l h m clip K else False
    | none => K (.slice none (h - l).toNat (m - l).toNat)) else False)
theorem fSliceOf_ev {a : Option Addr} {sz c : Nat} {l h m : Int} {clip : Bool} {K K' : Value → Prop} (hh : fSliceOf a sz c l h m clip K) (hk : ∀ v, K v → K' v) : evSliceOf a sz c l h m clip K' := by
  obtain ⟨⟨h1, h2, h3, h4⟩, h5⟩ := hh
  split at h5
  · rename_i hcl
    refine ⟨h1, h2, h3, h4, fun hc => by rcases hcl with h | h; rw [hc] at h; cases h; exact h, ?_⟩
    cases a with
    | none => exact hk _ h5
    | some a =>
      simp only at h5
      split at h5
      · rename_i hg
        refine ⟨hg, fun hl => hk _ (h5.yes (by simp [mrk, hl])), fun hl => ?_⟩
        have h6 := h5.no (by simp [mrk, hl])
        refine ⟨fun hlm => hk _ (h6.yes (by simp [mrk, hlm])), fun hml => ?_⟩
        have h7 := h6.no (by simp [mrk]; omega)
        exact ⟨fun hc ho => hk _ (h7.one ⟨hc, ho⟩), hk _ h7.two⟩
      · exact h5.elim
  · exact h5.elim

/-- Parts at places of a list. -/
def fParts (ps : List (Nat × TypeId × Nat)) (F : Fr) : List (Nat × Operand) → Nat → (List (Nat × List Value) → Prop) → Prop
  | [], _, k => k []
  | (i, x) :: r, len, k => getK ps i fun p => op1 F x fun v => Side (markP ((cellsL v).length = p.2.2 ∧ p.1 + p.2.2 ≤ len)) (fParts ps F r len fun l => k ((p.1, cellsL v) :: l))
theorem fParts_ev {ps : List (Nat × TypeId × Nat)} {F : Fr} : ∀ {qs : List (Nat × Operand)} {len : Nat} {k k' : List (Nat × List Value) → Prop}, fParts ps F qs len k → (∀ l, k l → k' l) → evParts ((ps.map fun f => (f.1, f.2.2))[·]?) F qs len k'
  | [], _, _, _, h, hk => hk _ h
  | (i, x) :: r, len, k, k', h, hk => by
    simp only [fParts] at h
    obtain ⟨⟨o, t, n⟩, hp, h⟩ := getK_spec h
    exact ⟨o, n, by simp [hp], op1_with h fun v hv => ⟨hv.ask.1, hv.ask.2, fParts_ev hv.go fun l hl => hk _ hl⟩⟩
/-- Parts, each of one size. -/
def fPartsE (sz : Nat) (F : Fr) : List (Nat × Operand) → Nat → (List (Nat × List Value) → Prop) → Prop
  | [], _, k => k []
  | (i, x) :: r, len, k => op1 F x fun v => Side (markP ((cellsL v).length = sz ∧ i * sz + sz ≤ len)) (fPartsE sz F r len fun l => k ((i * sz, cellsL v) :: l))
theorem fPartsE_ev {sz : Nat} {F : Fr} : ∀ {qs : List (Nat × Operand)} {len : Nat} {k k' : List (Nat × List Value) → Prop}, fPartsE sz F qs len k → (∀ l, k l → k' l) → evParts (fun i => some (i * sz, sz)) F qs len k'
  | [], _, _, _, h, hk => hk _ h
  | (i, x) :: r, len, k, k', h, hk => by
    simp only [fPartsE] at h
    exact ⟨_, _, rfl, op1_with h fun v hv => ⟨hv.ask.1, hv.ask.2, fPartsE_ev hv.go fun l hl => hk _ hl⟩⟩

def fFold2 (f : Int → Int → Int) : Value → List Value → (Value → Prop) → Prop
  | v, [], K => K v
  | .int k x, .int k' y :: r, K => if k = k' then fFold2 f (.int k (f x y)) r K else False
  | _, _, _ => False
theorem fFold2_ev {f : Int → Int → Int} : ∀ {r : List Value} {v : Value} {K K' : Value → Prop}, fFold2 f v r K → (∀ v, K v → K' v) → evFold2 f v r K'
  | [], v, K, K', h, hk => by simp only [fFold2] at h; simp only [evFold2]; exact hk _ h
  | y :: r, v, K, K', h, hk => by
    cases v <;> try (cases y <;> exact h.elim)
    cases y <;> try exact h.elim
    simp only [fFold2] at h
    split at h
    · exact ⟨by assumption, fFold2_ev h hk⟩
    · exact h.elim

def fBuiltin (T : Nat → Option TE) (b : Builtin) (ts : List TypeId) (args : List Value) (K : Value → Prop) : Prop :=
  match b, args with
  | .len, [.slice _ n _] => getK ts 0 fun t => tyK T t fun x => undK x fun u => (match u with | .slice _ => K (.int .i64 n) | _ => False)
  | .len, [.string s] => getK ts 0 fun t => tyK T t fun x => undK x fun u => (match u with | .string => K (.int .i64 s.size) | _ => False)
  | .min, v :: r => fFold2 (fun x y => if y < x then y else x) v r K
  | .max, v :: r => fFold2 (fun x y => if y > x then y else x) v r K
  | _, _ => False
theorem fBuiltin_ev {T : Nat → Option TE} (hT : TabOk P T) {b : Builtin} {ts : List TypeId} {args : List Value} {K K' : Value → Prop} (h : fBuiltin T b ts args K) (hk : ∀ v, K v → K' v) : evBuiltin P b ts args K' := by
  have head : ∀ {t : TypeId}, ts[0]? = some t → ts.head? = some t := by intro t ht; cases ts <;> simp_all
  unfold fBuiltin at h
  split at h
  · obtain ⟨t, ht, h⟩ := getK_spec h
    obtain ⟨x, ok, ht0, hq⟩ := tyK_spec hT h
    subst ht0; have h := hq; clear hq
    rw [undK_eq] at h
    split at h
    · rename_i el hu
      have := ok.und
      rw [hu] at this
      exact ⟨_, el, head ht, this, hk _ h⟩
    · exact h.elim
  · obtain ⟨t, ht, h⟩ := getK_spec h
    obtain ⟨x, ok, ht0, hq⟩ := tyK_spec hT h
    subst ht0; have h := hq; clear hq
    rw [undK_eq] at h
    split at h
    · rename_i hu
      have := ok.und
      rw [hu] at this
      exact ⟨_, head ht, this, hk _ h⟩
    · exact h.elim
  · exact fFold2_ev h hk
  · exact fFold2_ev h hk
  · exact h.elim
end
end Go.Snb
