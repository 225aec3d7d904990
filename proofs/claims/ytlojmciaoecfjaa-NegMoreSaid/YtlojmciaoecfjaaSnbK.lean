/- The walk as a function that reckons: operations and codes. -/
import Derived.Test.YtlojmciaoecfjaaSnbJ
set_option linter.all false
namespace Go.Snb
open Go

/-- What is known of calls of numbers alone: by the arguments, a premise and the value. -/
abbrev Known := List Value → Option (Prop × Value)
def KnOk (P : Program) (g : FuncId) (q : Known) : Prop :=
  ∀ args c v, q args = some (c, v) → c → args.all flat = true ∧ flat v = true ∧ ∀ M, acalls P g args M [] [] fun _ u _ => u = v
structure Tb where
  ty : Nat → Option TE
  fb : Nat → Bool
  pf : Nat → Known
structure TbOk (P : Program) (T : Tb) : Prop where
  ty : TabOk P T.ty
  fb : ∀ g, T.fb g = true → ∀ args w, (callFunc g args).run P w = .ok (.enter g args) w
  pf : ∀ g, KnOk P g (T.pf g)
def noKn : Known := fun _ => none
def pf0 : Nat → Known := fun _ => noKn
theorem noKn_ok (P : Program) (g : FuncId) : KnOk P g noKn := fun _ _ _ h => by cases h
def pfAdd (g0 : Nat) (q : Known) (r : Nat → Known) : Nat → Known := fun g as => if g = g0 then q as else r g as
theorem TbOk.add {P : Program} {ty : Nat → Option TE} {fb : Nat → Bool} {r : Nat → Known} (h : TbOk P ⟨ty, fb, r⟩) {g0 : Nat} {q : Known} (hq : KnOk P g0 q) : TbOk P ⟨ty, fb, pfAdd g0 q r⟩ :=
  ⟨h.ty, h.fb, fun g args c v hv hc => by
    simp only [pfAdd] at hv
    split at hv
    · rename_i hg; rw [hg]; exact hq args c v hv hc
    · exact h.pf g args c v hv hc⟩
def pfK (o : Option (Prop × Value)) (k : Value → Prop) (other : Prop) : Prop := match o with | some (c, v) => Side (markP c) (k v) | none => other
@[congr] theorem pfK_congr {o o' : Option (Prop × Value)} {k : Value → Prop} {other : Prop} (h : o = o') : pfK o k other = pfK o' k other := by rw [h]
theorem pfK_some (c : Prop) (v : Value) (k : Value → Prop) (other : Prop) : pfK (some (c, v)) k other = Side (markP c) (k v) := rfl
theorem pfK_none (k : Value → Prop) (other : Prop) : pfK none k other = other := rfl

section
variable {P : Program}

def fMkI (u : Und) (K : Prop) : Prop := match u with | .iface => False | .other => False | _ => K
def fIdx (T : Nat → Option TE) (u : Und) (v : Value) (j : Int) (M : Mem) (H : Hp) (K : Value → Prop) : Prop :=
  match v with
  | .slice (some a) n _ => (match u with
    | .slice el => tyK T el fun ee => if goodB a = true then rowK M H a fun cs => Side (markP (0 ≤ j ∧ j < n ∧ 0 < cs.length)) (nf (mrk (aadd a (j.toNat * ee.size))) fun a' => K (.pointer (some a'))) else False
    | _ => False)
  | .pointer (some a) => (match u with
    | .array n el => tyK T el fun ee => if goodB a = true then Side (markP (0 ≤ j ∧ j < n)) (nf (mrk (aadd a (j.toNat * ee.size))) fun a' => K (.pointer (some a'))) else False
    | _ => False)
  | _ => False
def fIndex (T : Nat → Option TE) (u : Und) (v : Value) (j : Int) (K : Value → Prop) : Prop :=
  match v with
  | .agg cs => (match u with
    | .array n el => tyK T el fun ee => Side (markP (0 ≤ j ∧ j < n)) (arrK cs fun cs => nf (mrk (j.toNat * ee.size)) fun o => fPart T el cs o K)
    | _ => False)
  | .string s => (match u with
    | .string => Side (markP (0 ≤ j ∧ j < s.size)) (∃ b, s[j.toNat]? = some b ∧ K (.int .u8 b.toNat))
    | _ => False)
  | _ => False
def fSlice (T : Nat → Option TE) (u : Und) (v : Value) (F : Fr) (lo hi mx : Option Operand) (M : Mem) (H : Hp) (K : Value → Prop) : Prop :=
  match v with
  | .slice a n c => (match u with
    | .slice el => tyK T el fun ee => if mx.isSome = true ∧ hi.isSome = false then False else fBound F mx c fun m => fBound F hi n fun h => fBound F lo 0 fun l => fSliceOf a ee.size c l h m mx.isSome K
    | _ => False)
  | .pointer (some a) => (match u with
    | .array len el => tyK T el fun ee => if mx.isSome = true then False else rowK M H a fun cs => Side (markP (0 < cs.length)) (fBound F hi len fun h => fBound F lo 0 fun l => fSliceOf (some a) ee.size len l h len true K)
    | _ => False)
  | _ => False
def fBuild (T : Nat → Option TE) (e : TE) (F : Fr) (parts : List (Nat × Operand)) (K : Value → Prop) : Prop :=
  zerK e fun oz => match oz with
  | some z => if flat z = true then undK e fun u => (match u with
    | .struct => fldK e fun fl => fParts fl F parts (cellsL z).length fun l => K (.agg (fillL (cellsL z) l).toArray)
    | .array _ el => tyK T el fun ee => fPartsE ee.size F parts (cellsL z).length fun l => K (.agg (fillL (cellsL z) l).toArray)
    | _ => False) else False
  | none => False
def fZero (z : Option Value) (K : Value → Prop) : Prop := match z with | some z => if flat z = true then K (.tuple #[z, .bool false]) else False | none => False
def fAssert (e : TE) (asserted : TypeId) (ok : Bool) (v : Value) (K : Value → Prop) : Prop :=
  match v with
  | .iface t u => if t = asserted then K (if ok = true then .tuple #[u, .bool true] else u) else (if ok = true then zerK e fun oz => fZero oz K else False)
  | .nilIface => if ok = true then zerK e fun oz => fZero oz K else False
  | _ => False

def fQ (P : Program) (T : Tb) (op : Op) (M : Mem) (F : Fr) (H : Hp) (K : Value → Prop) : Prop :=
  match op with
  | .move x => op1 F x K
  | .assign x => op1 F x K
  | .pick c a b => op1 F c fun v => match v with | .bool t => Br (mrk t) (op1 F a K) (op1 F b K) | _ => False
  | .load t x => op1 F x fun v => fLoad T.ty t v M H K
  | .nilCheck x => op1 F x fun v => match v with | .pointer (some a) => K (.pointer (some a)) | .func (.func f) y z => K (.func (.func f) y z) | _ => False
  | .binOp op t x y _ => op1 F x fun a => op1 F y fun b => fBin P T.ty op t a b M H K
  | .unOp op _ x => op1 F x fun a => evUn op a K
  | .convert s d x => op1 F x fun a => fConv T.ty s d a M H K
  | .makeInterface t x => op1 F x fun v => tyK T.ty t fun e => undK e fun u => fMkI u (K (.iface t v))
  | .makeFunc (.func f) first cap => arrK first fun first => arrK cap fun cap => opL F first fun l => opL F cap fun m => K (.func (.func f) l.toArray m.toArray)
  | .fieldAddr s x f => op1 F x fun v => match v with
    | .pointer (some a) => tyK T.ty s fun e => fldK e fun fl => getK fl f fun d => if d.2.2 = 0 then False else if goodB a = true then K (.pointer (some (aadd a d.1))) else False
    | _ => False
  | .field s x f => op1 F x fun v => match v with
    | .agg cs => tyK T.ty s fun e => fldK e fun fl => getK fl f fun d => arrK cs fun cs => fPart T.ty d.2.1 cs d.1 K
    | _ => False
  | .indexAddr t x i => op1 F x fun v => op1 F i fun iv => match iv with
    | .int _ j => tyK T.ty t fun e => undK e fun u => fIdx T.ty u v j M H K
    | _ => False
  | .index t x i => op1 F x fun v => op1 F i fun iv => match iv with
    | .int _ j => tyK T.ty t fun e => undK e fun u => fIndex T.ty u v j K
    | _ => False
  | .slice t x lo hi mx => op1 F x fun v => tyK T.ty t fun e => undK e fun u => fSlice T.ty u v F lo hi mx M H K
  | .extract x i => op1 F x fun v => match v with
    | .tuple vs => arrK vs fun vs => getK vs i K
    | _ => False
  | .build t parts => tyK T.ty t fun e => arrK parts fun parts => fBuild T.ty e F parts K
  | .typeAssert x _ asserted ok => op1 F x fun v => tyK T.ty asserted fun e => undK e fun u => fMkI u (fAssert e asserted ok v K)
  | .call ⟨.builtin b, args, ts⟩ => arrK args fun args => arrK ts fun ts => opL F args fun l => fBuiltin T.ty b ts l K
  | _ => False

theorem noIface {e : TE} (ok : e.ok P) (h1 : e.und ≠ .iface) (h2 : e.und ≠ .other) : ∃ b, P.underlying e.t = some b ∧ (match b with | .interface _ => False | _ => True) := by
  have hu := ok.und
  cases h : e.und <;> simp only [h, undOk] at hu <;> first | exact absurd h h1 | exact absurd h h2 | exact ⟨_, hu, trivial⟩ | (obtain ⟨_, hu⟩ := hu; exact ⟨_, hu, trivial⟩) | (obtain ⟨_, _, _, hu⟩ := hu; exact ⟨_, hu, trivial⟩)

theorem fQ_ev {T : Tb} (hT : TbOk P T) {op : Op} {M : Mem} {F : Fr} {H : Hp} {K K' : Value → Prop} (h : fQ P T op M F H K) (hk : ∀ v, K v → K' v) : evQ P op M F H K' := by
  cases op with
  | move x => exact op1_with h hk
  | assign x => exact op1_with h hk
  | pick c a b =>
    refine op1_with h fun v hv => ?_
    cases v <;> first | exact hv.elim | exact Br.sel hv (fun h => op1_with h hk) fun h => op1_with h hk
  | load t x => exact op1_with h fun v hv => fLoad_ev hT.ty hv hk
  | nilCheck x =>
    refine op1_with h fun v hv => ?_
    split at hv
    · exact hk _ hv
    · exact hk _ hv
    · exact hv.elim
  | binOp op t x y t' => exact op1_with h fun v hv => op1_with hv fun u hu => fBin_ev hT.ty hu hk
  | unOp op t x => exact op1_with h fun v hv => evUn_mono hv hk
  | convert s d x => exact op1_with h fun v hv => fConv_ev hT.ty hv hk
  | makeInterface t x =>
    refine op1_with h fun v hv => ?_
    obtain ⟨e, ok, ht, hq⟩ := tyK_spec hT.ty hv
    clear hv
    subst ht
    simp only [undK_eq] at hq
    unfold fMkI at hq
    split at hq
    · exact hq.elim
    · exact hq.elim
    · exact ⟨noIface ok (by assumption) (by assumption), hk _ hq⟩
  | makeFunc f x y =>
    cases f <;> first | exact h.elim | exact opL_with h fun l hl => opL_with hl fun m hm => hk _ hm
  | fieldAddr s x f =>
    refine op1_with h fun v hv => ?_
    split at hv
    · obtain ⟨e, ok, ht, hq⟩ := tyK_spec hT.ty hv
      clear hv
      subst ht
      simp only [fldK_eq] at hq
      obtain ⟨⟨o, t, n⟩, hf, hq⟩ := getK_spec hq
      split at hq
      · exact hq.elim
      · split at hq
        · rename_i hn hg; exact ⟨o, t, n, ok.flds _ _ hf, hn, hg, hk _ hq⟩
        · exact hq.elim
    · exact hv.elim
  | field s x f =>
    refine op1_with h fun v hv => ?_
    split at hv
    · obtain ⟨e, ok, ht, hq⟩ := tyK_spec hT.ty hv
      clear hv
      subst ht
      simp only [fldK_eq] at hq
      obtain ⟨⟨o, t, n⟩, hf, hq⟩ := getK_spec hq
      have hfo := ok.flds _ _ hf
      obtain ⟨fs, d, _, _, _, _, hsz⟩ := fieldOf_spec hfo
      exact ⟨o, t, n, hfo, fPart_ev hT.ty hq hk hsz⟩
    · exact hv.elim
  | indexAddr t x i =>
    refine op1_with h fun v hv => op1_with hv fun iv hiv => ?_
    split at hiv
    · rename_i kk j
      obtain ⟨e, ok, ht, hq⟩ := tyK_spec hT.ty hiv
      clear hiv
      subst ht
      have hu := ok.und
      simp only [undK_eq] at hq
      unfold fIdx at hq
      split at hq
      · split at hq
        · rename_i el hel
          rw [hel] at hu
          obtain ⟨ee, ok2, ht, hq2⟩ := tyK_spec hT.ty hq
          clear hq
          subst ht
          split at hq2
          · rename_i hg
            obtain ⟨cs, hr, hq3⟩ := rowK_spec hq2
            obtain ⟨h1, h2, h3⟩ := hq3.ask
            exact ⟨_, _, hu, ok2.size, hg, ⟨cs, hr, by intro h0; rw [h0] at h3; simp at h3⟩, ⟨h1, h2⟩, hk _ hq3.go⟩
          · exact hq2.elim
        · exact hq.elim
      · split at hq
        · rename_i n el hel
          rw [hel] at hu
          obtain ⟨ee, ok2, ht, hq2⟩ := tyK_spec hT.ty hq
          clear hq
          subst ht
          split at hq2
          · rename_i hg; exact ⟨_, _, _, hu, ok2.size, hg, hq2.ask, hk _ hq2.go⟩
          · exact hq2.elim
        · exact hq.elim
      · exact hq.elim
    · exact hiv.elim
  | index t x i =>
    refine op1_with h fun v hv => op1_with hv fun iv hiv => ?_
    split at hiv
    · rename_i kk j
      obtain ⟨e, ok, ht, hq⟩ := tyK_spec hT.ty hiv
      clear hiv
      subst ht
      have hu := ok.und
      simp only [undK_eq] at hq
      unfold fIndex at hq
      split at hq
      · split at hq
        · rename_i n el hel
          rw [hel] at hu
          obtain ⟨ee, ok2, ht, hq2⟩ := tyK_spec hT.ty hq
          clear hq
          subst ht
          exact ⟨_, _, _, hu, ok2.size, hq2.ask, fPart_ev hT.ty hq2.go hk ok2.size⟩
        · exact hq.elim
      · split at hq
        · rename_i hel
          rw [hel] at hu
          obtain ⟨b, hb, hq2⟩ := hq.go
          exact ⟨hu, hq.ask.1, b, hb, hk _ hq2⟩
        · exact hq.elim
      · exact hq.elim
    · exact hiv.elim
  | slice t x lo hi mx =>
    refine op1_with h fun v hv => ?_
    obtain ⟨e, ok, ht, hq⟩ := tyK_spec hT.ty hv
    clear hv
    subst ht
    have hu := ok.und
    simp only [undK_eq] at hq
    unfold fSlice at hq
    split at hq
    · split at hq
      · rename_i el hel
        rw [hel] at hu
        obtain ⟨ee, ok2, ht, hq2⟩ := tyK_spec hT.ty hq
        clear hq
        subst ht
        split at hq2
        · exact hq2.elim
        · rename_i hmh
          refine ⟨_, _, hu, ok2.size, fBound_ev hq2 fun m hm => fBound_ev hm fun hh h1 => fBound_ev h1 fun l h2 => ⟨fun hs => ?_, fSliceOf_ev h2 hk⟩⟩
          cases hi with
          | none => exact absurd ⟨hs, rfl⟩ hmh
          | some y => rfl
      · exact hq.elim
    · split at hq
      · rename_i len el hel
        rw [hel] at hu
        obtain ⟨ee, ok2, ht, hq2⟩ := tyK_spec hT.ty hq
        clear hq
        subst ht
        split at hq2
        · exact hq2.elim
        · rename_i hmx
          obtain ⟨cs, hr, hq3⟩ := rowK_spec hq2
          refine ⟨_, _, _, hu, ok2.size, ?_, ⟨cs, hr, by intro h0; have := hq3.ask; rw [h0] at this; simp [markP] at this⟩, fBound_ev hq3.go fun hh h1 => fBound_ev h1 fun l h2 => fSliceOf_ev h2 hk⟩
          cases mx <;> simp_all
      · exact hq.elim
    · exact hq.elim
  | extract x i =>
    refine op1_with h fun v hv => ?_
    split at hv
    · obtain ⟨u, hu, hq⟩ := getK_spec hv; exact ⟨u, hu, hk _ hq⟩
    · exact hv.elim
  | build t parts =>
    simp only [fQ] at h
    obtain ⟨e, ok, ht, hq⟩ := tyK_spec hT.ty h
    clear h
    subst ht
    unfold fBuild at hq
    simp only [zerK_eq] at hq
    split at hq
    · rename_i z hz
      split at hq
      · rename_i hf
        have hu := ok.und
        simp only [undK_eq] at hq
        split at hq
        · rename_i hs
          simp only [fldK_eq] at hq
          have hp := ok.plc hs
          rw [hs] at hu
          obtain ⟨fs, hfs⟩ := hu
          exact ⟨z, ok.zero z hz, hf, _, hfs, _, hp, fParts_ev hq fun l hl => hk _ hl⟩
        · rename_i n el hs
          rw [hs] at hu
          obtain ⟨ee, ok2, ht, hq2⟩ := tyK_spec hT.ty hq
          clear hq
          subst ht
          exact ⟨z, ok.zero z hz, hf, _, hu, _, ok2.size, fPartsE_ev hq2 fun l hl => hk _ hl⟩
        · exact hq.elim
      · exact hq.elim
    · exact hq.elim
  | typeAssert x xt t ok =>
    refine op1_with h fun v hv => ?_
    obtain ⟨e, eok, ht, hq⟩ := tyK_spec hT.ty hv
    clear hv
    subst ht
    simp only [undK_eq] at hq
    unfold fMkI at hq
    split at hq
    · exact hq.elim
    · exact hq.elim
    · refine ⟨noIface eok (by assumption) (by assumption), ?_⟩
      have zz : (if ok = true then zerK e fun oz => fZero oz K else False) → (ok = true ∧ ∃ z, zeroOf P e.t = some z ∧ flat z = true ∧ K' (.tuple #[z, .bool false])) := by
        intro hz
        simp only [zerK_eq] at hz
        unfold fZero at hz
        split at hz
        · split at hz
          · rename_i z hz0
            split at hz
            · exact ⟨by assumption, z, eok.zero z hz0, by assumption, hk _ hz⟩
            · exact hz.elim
          · exact hz.elim
        · exact hz.elim
      unfold fAssert at hq
      split at hq
      · rename_i t u
        simp only
        split at hq
        · rename_i ht; rw [if_pos ht]; exact hk _ hq
        · rename_i ht; rw [if_neg ht]; exact zz hq
      · exact zz hq
      · exact hq.elim
  | call c =>
    obtain ⟨callee, args, ts⟩ := c
    cases callee with
    | builtin b => exact opL_with h fun l hl => fBuiltin_ev hT.ty hl hk
    | _ => exact h.elim
  | _ => exact h.elim
end
end Go.Snb
