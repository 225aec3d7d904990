/- The walk as a function that reckons: memory, calls, codes. -/
import Derived.Test.YtlojmciaoecfjaaSnbK
set_option linter.all false
namespace Go.Snb
open Go
/-- Two ways, by whether something is so. -/
structure App3 (c A B : Prop) : Prop where
  one : c → A
  two : ¬ c → B
section
variable {P : Program}

/-- What is appended. -/
def fAppXs (T : Nat → Option TE) (xt : TypeId) (x : Value) (ee : TE) (z : List Value) (M : Mem) (H : Hp) (k : Nat → List Value → Prop) : Prop :=
  match x with
  | .slice none m _ => tyK T xt fun ex => undK ex fun u => (match u with | .slice _ => Side (markP (m = 0)) (k 0 []) | _ => False)
  | .slice (some b) m _ => tyK T xt fun ex => undK ex fun u => (match u with | .slice _ => fRead M H ee.size (some b) m fun xs => k m xs | _ => False)
  | .int _ l => tyK T xt fun ex => undK ex fun u => (match u with | .int _ => Side (markP (0 ≤ l ∧ l * ee.bytes ≤ 140737488355328)) (k l.toNat (zl z l.toNat)) | _ => False)
  | _ => False
/-- Cells of a row, and others behind them. -/
def appK (cs : List Value) (o k : Nat) (xs : List Value) (K : List Value → Prop) : Prop := K ((cs.drop o).take k ++ xs)
/-- Where it is appended. -/
def fAppTo (a : Option Addr) (n m c sz : Nat) (xs : List Value) (M : Mem) (H : Hp) (K : Mem → Value → Hp → Prop) : Prop :=
  match a with
  | none => Side (markP (n = 0 ∧ c = 0)) (K M (.slice (some ⟨H.length, 0, none⟩) m m) (H ++ [some (.cells xs sz)]))
  | some ⟨l, o, none⟩ => hK H l fun cs z' => Side (markP ((z' = 0 ∨ z' = sz) ∧ n ≤ c ∧ o + c * sz ≤ cs.length ∧ (z' ≠ 0 → o + c * sz = cs.length))) (nf (mrk (n * sz)) fun k => appK cs o k xs fun cs' =>
      K M (.slice (some ⟨H.length, 0, none⟩) (n + m) (n + m)) (H.set l none ++ [some (.cells cs' sz)]))
  | some ⟨l, o, some 1⟩ => hK H l fun cs z' => Side (markP ((z' = 0 ∨ z' = sz) ∧ n ≤ c ∧ o + c * sz ≤ cs.length)) (nf (mrk (n * sz)) fun k => appK cs o k xs fun cs' =>
      K M (.slice (some ⟨H.length, 0, none⟩) (n + m) (n + m)) (H.set l none ++ [some (.cells cs' sz)]))
  | some ⟨l, o, some 0⟩ => Side (markP (m = 0 ∧ n ≤ c)) (K M (.slice (some ⟨l, o, some 0⟩) n c) H)
  | some ⟨l, o, some 2⟩ => App3 (m = 0) (Side (markP (n ≤ c)) (K M (.slice (some ⟨l, o, some 2⟩) n c) H))
      (Side (markP (c < n + m)) (roK (mrk (M.ro l)) fun cs => nf (mrk (n * sz)) fun k => Side (markP (o + k ≤ cs.length)) (appK cs o k xs fun cs' => K M (.slice (some ⟨H.length, 0, none⟩) (n + m) (n + m)) (H ++ [some (.cells cs' sz)]))))
  | _ => False
theorem fAppTo_ev {a : Option Addr} {n m c sz : Nat} {xs : List Value} {M : Mem} {H : Hp} {K K' : Mem → Value → Hp → Prop} (q3 : fAppTo a n m c sz xs M H K) (hk : ∀ M v H, K M v H → K' M v H) : evAppTo a n m c sz xs M H K' := by
  unfold evAppTo
  unfold fAppTo at q3
  split at q3
  · exact ⟨q3.ask.1, q3.ask.2, hk _ _ _ q3.go⟩
  · rename_i l o
    obtain ⟨cs, z', hh, q4⟩ := hK_spec q3
    obtain ⟨⟨r1, r2, r3, r4⟩, r5⟩ := q4
    dsimp only
    rw [if_pos (.inl rfl)]
    exact ⟨cs, z', hh, r1, r2, r3, fun _ => r4, hk _ _ _ r5⟩
  · rename_i l o
    obtain ⟨cs, z', hh, q4⟩ := hK_spec q3
    obtain ⟨⟨r1, r2, r3⟩, r5⟩ := q4
    dsimp only
    rw [if_pos (.inr rfl)]
    exact ⟨cs, z', hh, r1, r2, r3, (fun h => by cases h), hk _ _ _ r5⟩
  · rename_i l o
    dsimp only
    rw [if_neg (by simp)]
    exact ⟨fun _ => ⟨q3.ask.2, hk _ _ _ q3.go⟩, fun hm => absurd q3.ask.1 hm⟩
  · rename_i l o
    dsimp only
    rw [if_neg (by simp)]
    refine ⟨fun hm => ⟨(q3.one hm).ask, hk _ _ _ (q3.one hm).go⟩, fun hm => ?_⟩
    have q4 := q3.two hm
    have q5 := q4.go
    have q5 : roK (M.ro l) _ := q5
    unfold roK at q5
    split at q5
    · rename_i cs hcs
      exact ⟨rfl, q4.ask, cs, hcs, q5.ask, hk _ _ _ q5.go⟩
    · exact q5.elim
  · exact q3.elim
def fAppend (T : Nat → Option TE) (ts : List TypeId) (args : List Value) (M : Mem) (H : Hp) (K : Mem → Value → Hp → Prop) : Prop :=
  match ts, args with
  | [t, xt], [.slice a n c, x] => tyK T t fun e => undK e fun u => (match u with
    | .slice el => tyK T el fun ee => zerK ee fun oz => (match oz with
      | some z => if flat z = true then Side (markP ((cellsL z).length = ee.size ∧ 0 < ee.bytes ∧ 0 < ee.size)) (nf (mrk (cellsL z)) fun z => fAppXs T xt x ee z M H fun m xs =>
          Side (markP (xs.all one = true ∧ (n + m) * ee.bytes ≤ 140737488355328)) (fAppTo a n m c ee.size xs M H K)) else False
      | none => False)
    | _ => False)
  | _, _ => False
theorem fAppend_ev {T : Nat → Option TE} (hT : TabOk P T) {ts : List TypeId} {args : List Value} {M : Mem} {H : Hp} {K K' : Mem → Value → Hp → Prop} (h : fAppend T ts args M H K) (hk : ∀ M v H, K M v H → K' M v H) : evAppend P ts args M H K' := by
  unfold fAppend at h
  split at h
  · rename_i t xt a n c x
    obtain ⟨e, ok1, ht, h1⟩ := tyK_spec hT h
    subst ht
    have u1 := ok1.und
    rw [undK_eq] at h1
    split at h1
    · rename_i el hel
      rw [hel] at u1
      obtain ⟨ee, ok3, he, h3⟩ := tyK_spec hT h1
      subst he
      rw [zerK_eq] at h3
      split at h3
      · rename_i z hz
        split at h3
        · rename_i hf
          obtain ⟨⟨hl, hb, hs⟩, h4⟩ := h3
          simp only [nf, mrk] at h4
          refine ⟨ee.t, _, z, _, u1, ok3.size, ok3.zero z hz, hf, hl, ok3.bytes, hs, hb, ?_⟩
          have fin : ∀ {m xs}, Side (markP (xs.all one = true ∧ (n + m) * ee.bytes ≤ 140737488355328)) (fAppTo a n m c ee.size xs M H K) → xs.all one = true ∧ (n + m) * ee.bytes ≤ 2 ^ 47 ∧ evAppTo a n m c ee.size xs M H K' := by
            intro m xs hh
            obtain ⟨⟨q1, q2⟩, q3⟩ := hh
            exact ⟨q1, by omega, fAppTo_ev q3 hk⟩
          unfold fAppXs at h4
          split at h4
          · rename_i m d
            obtain ⟨ex, ok2, hxt, h5⟩ := tyK_spec hT h4
            subst hxt
            have u2 := ok2.und
            rw [undK_eq] at h5
            split at h5
            · rename_i el' hel'
              rw [hel'] at u2
              have hm := h5.ask
              have hm : m = 0 := hm
              subst hm
              exact ⟨⟨_, u2⟩, by simp, fin h5.go⟩
            · exact h5.elim
          · rename_i b m d
            obtain ⟨ex, ok2, hxt, h5⟩ := tyK_spec hT h4
            subst hxt
            have u2 := ok2.und
            rw [undK_eq] at h5
            split at h5
            · rename_i el' hel'
              rw [hel'] at u2
              refine ⟨⟨_, u2⟩, ?_⟩
              unfold fRead at h5
              obtain ⟨cs, hcs, h6⟩ := rowK_spec h5
              have h7 := h6.ask
              have h7 : b.off + m * ee.size ≤ cs.length := h7
              exact ⟨cs, hcs, h7, by simp; omega, fin h6.go⟩
            · exact h5.elim
          · rename_i ik l
            obtain ⟨ex, ok2, hxt, h5⟩ := tyK_spec hT h4
            subst hxt
            have u2 := ok2.und
            rw [undK_eq] at h5
            split at h5
            · rename_i ik' hel'
              rw [hel'] at u2
              exact ⟨⟨_, u2⟩, h5.ask.1, by have := h5.ask.2; omega, hb, fin h5.go⟩
            · exact h5.elim
          · exact h4.elim
        · exact h3.elim
      · exact h3.elim
    · exact h1.elim
  · exact h.elim

def fCopyIn (a : Option Addr) (k : Nat) (xs : List Value) (M : Mem) (H : Hp) (K : Mem → Value → Hp → Prop) : Prop :=
  match a with
  | none => Side (markP (xs = [])) (K M (.int .i64 k) H)
  | some ⟨l, o, none⟩ => hK H l fun cs z => Side (markP (xs.all one = true)) (setK cs o xs fun cs' => K M (.int .i64 k) (H.set l (some (.cells cs' z))))
  | some ⟨l, o, some 1⟩ => hK H l fun cs z => Side (markP (xs.all one = true)) (setK cs o xs fun cs' => K M (.int .i64 k) (H.set l (some (.cells cs' z))))
  | _ => False
def fCopy (T : Nat → Option TE) (ts : List TypeId) (args : List Value) (M : Mem) (H : Hp) (K : Mem → Value → Hp → Prop) : Prop :=
  match ts, args with
  | t :: _, [.slice a n _, .slice b m _] => tyK T t fun e => undK e fun u => (match u with
    | .slice el => tyK T el fun ee => nf (mrk (min m n)) fun k => fRead M H ee.size b k fun xs => fCopyIn a k xs M H K
    | _ => False)
  | _, _ => False
theorem fCopy_ev {T : Nat → Option TE} (hT : TabOk P T) {ts : List TypeId} {args : List Value} {M : Mem} {H : Hp} {K K' : Mem → Value → Hp → Prop} (h : fCopy T ts args M H K) (hk : ∀ M v H, K M v H → K' M v H) : evCopy P ts args M H K' := by
  unfold fCopy at h
  split at h
  · rename_i t r a n c b m d
    obtain ⟨e, ok1, ht, h1⟩ := tyK_spec hT h
    have u1 := ok1.und
    rw [undK_eq] at h1
    split at h1
    · rename_i el hel
      rw [hel, ht] at u1
      obtain ⟨ee, ok3, he, h2⟩ := tyK_spec hT h1
      simp only [nf, mrk] at h2
      refine ⟨el, _, u1, by rw [← he]; exact ok3.size, fRead_ev h2 fun xs hx => ?_⟩
      unfold fCopyIn at hx
      split at hx
      · exact ⟨hx.ask, hk _ _ _ hx.go⟩
      · obtain ⟨cs, z, hl, h3⟩ := hK_spec hx; exact ⟨.inl rfl, cs, z, hl, h3.ask, h3.go.ask, hk _ _ _ h3.go.go⟩
      · obtain ⟨cs, z, hl, h3⟩ := hK_spec hx; exact ⟨.inr rfl, cs, z, hl, h3.ask, h3.go.ask, hk _ _ _ h3.go.go⟩
      · exact hx.elim
    · exact h1.elim
  · exact h.elim

/-- A call that the walk stands before. -/
structure Call1 (P : Program) (g : FuncId) (args : List Value) (M : Mem) (H : Hp) (K : Mem → List Nat → Value → Hp → Prop) (_k : Tok K) : Prop where
  out : ∃ I, acalls P g args M H I fun M v H => K M I v H
@[congr] theorem Call1_congr {P : Program} {g : FuncId} {args args' : List Value} {M : Mem} {H H' : Hp} {K : Mem → List Nat → Value → Hp → Prop} {t : Tok K} (h : args = args') (h' : H = H') : Call1 P g args M H K t = Call1 P g args' M H' K t := by rw [h, h']
/-- A code that the walk stands before. -/
structure Awp1 (P : Program) (N n : Nat) (I : List Nat) (c : Code) (M : Mem) (F : Fr) (H : Hp) (Q : Exit → Mem → Fr → Hp → Prop) (_c : Tok c) (_k : Tok Q) : Prop where
  out : awp P N n I c M F H Q
/-- A type's flat zero. -/
def fZ (T : Nat → Option TE) (t : TypeId) (k : TE → List Value → Prop) : Prop :=
  tyK T t fun e => zerK e fun oz => match oz with | some z => if flat z = true then k e (cellsL z) else False | none => False
theorem fZ_ev {T : Nat → Option TE} (hT : TabOk P T) {t : TypeId} {k : TE → List Value → Prop} (h : fZ T t k) : ∃ e z, e.ok P ∧ e.t = t ∧ zeroOf P t = some z ∧ flat z = true ∧ k e (cellsL z) := by
  obtain ⟨e, ok, ht, h⟩ := tyK_spec hT h
  rw [zerK_eq] at h
  split at h
  · rename_i z hz
    split at h
    · exact ⟨e, z, ok, ht, by rw [← ht]; exact ok.zero z hz, by assumption, h⟩
    · exact h.elim
  · exact h.elim
def fMkS (P : Program) (T : Nat → Option TE) (t : TypeId) (v u : Value) (M : Mem) (H : Hp) (K : Mem → Value → Hp → Prop) : Prop :=
  match v, u with
  | .int _ l, .int _ c => tyK T t fun e => undK e fun u => (match u with
    | .slice el => fZ T el fun ee z => Side (markP (z.length = ee.size ∧ 0 ≤ l ∧ l ≤ c ∧ c ≤ 2 ^ 48 ∧ ee.bytes * c ≤ 2 ^ 48)) (K M (.slice (some ⟨H.length, 0, none⟩) l.toNat c.toNat) (H ++ [some (.cells (zl z c.toNat) 0)]))
    | _ => False)
  | _, _ => False

def fOp (P : Program) (T : Tb) (op : Op) (M : Mem) (F : Fr) (H : Hp) (K : Mem → List Nat → Value → Hp → Prop) : Prop :=
  match op with
  | .alloc t => fZ T.ty t fun _ z => K M [] (.pointer (some ⟨H.length, 0, none⟩)) (H ++ [some (.cells z 0)])
  | .box _ x => op1 F x fun v => K M [] (.pointer (some ⟨H.length, 0, none⟩)) (H ++ [some (.cells (cellsL v) 0)])
  | .buildSlice t n parts => tyK T.ty t fun e => undK e fun u => (match u with
      | .slice el => fZ T.ty el fun ee z => Side (markP (z.length = ee.size ∧ n * ee.size ≤ 2 ^ 24)) (arrK parts fun parts => fPartsE ee.size F parts (n * ee.size) fun l => K M [] (.slice (some ⟨H.length, 0, none⟩) n n) (H ++ [some (.cells (fillL (zl z n) l) 0)]))
      | _ => False)
  | .store t x y => op1 F x fun v => op1 F y fun u => fStore T.ty t v u H fun H' => K M [] undef H'
  | .makeSlice t x y => op1 F x fun v => op1 F y fun u => fMkS P T.ty t v u M H fun M v H => K M [] v H
  | .call ⟨.builtin .append, args, ts⟩ => arrK args fun args => arrK ts fun ts => opL F args fun l => fAppend T.ty ts l M H fun M v H => K M [] v H
  | .call ⟨.builtin .copy, args, ts⟩ => arrK args fun args => arrK ts fun ts => opL F args fun l => fCopy T.ty ts l M H fun M v H => K M [] v H
  | .call ⟨.value f, args, _⟩ => op1 F f fun vf => match vf with
    | .func (.func g) first cap => arrK args fun args => opL F args fun l => if T.fb g = true then nf (mrk (first.toList ++ l ++ cap.toList)) fun as => pfK (mrk (T.pf g as)) (fun v => K M [] v H) (Call1 P g as M H K .tk) else False
    | _ => False
  | op => fQ P T op M F H fun v => K M [] v H

theorem fOp_ev {T : Tb} (hT : TbOk P T) {op : Op} {M : Mem} {F : Fr} {H : Hp} {K K' : Mem → List Nat → Value → Hp → Prop} (h : fOp P T op M F H K) (hk : ∀ M I v H, K M I v H → K' M I v H) : evOp P op M F H K' := by
  unfold fOp at h
  split at h
  · obtain ⟨e, z, ok, ht, hz, hf, h⟩ := fZ_ev hT.ty h
    exact ⟨z, hz, hf, hk _ _ _ _ h⟩
  · exact op1_with h fun v hv => hk _ _ _ _ hv
  · obtain ⟨e, ok, ht, h⟩ := tyK_spec hT.ty h
    have hu := ok.und
    rw [undK_eq] at h
    split at h
    · rename_i el hel
      rw [hel, ht] at hu
      obtain ⟨ee, z, ok2, he, hz, hf, h⟩ := fZ_ev hT.ty h
      exact ⟨el, _, z, hu, by rw [← he]; exact ok2.size, hz, hf, h.ask.1, h.ask.2, fPartsE_ev h.go fun l hl => hk _ _ _ _ hl⟩
    · exact h.elim
  · exact op1_with h fun v hv => op1_with hv fun u hu => fStore_ev hT.ty hu fun H' hH => hk _ _ _ _ hH
  · refine op1_with h fun v hv => op1_with hv fun u hu => ?_
    unfold fMkS at hu
    split at hu
    · obtain ⟨e, ok, ht, h⟩ := tyK_spec hT.ty hu
      have hund := ok.und
      rw [undK_eq] at h
      split at h
      · rename_i el hel
        rw [hel, ht] at hund
        obtain ⟨ee, z, ok2, he, hz, hf, h⟩ := fZ_ev hT.ty h
        exact ⟨el, _, z, _, hund, by rw [← he]; exact ok2.size, hz, hf, h.ask.1, by rw [← he]; exact ok2.bytes, h.ask.2.1, h.ask.2.2.1, h.ask.2.2.2.1, h.ask.2.2.2.2, hk _ _ _ _ h.go⟩
      · exact h.elim
    · exact hu.elim
  · exact opL_with h fun l hl => fAppend_ev hT.ty hl fun _ _ _ h => hk _ _ _ _ h
  · exact opL_with h fun l hl => fCopy_ev hT.ty hl fun _ _ _ h => hk _ _ _ _ h
  · refine op1_with h fun v hv => ?_
    split at hv
    · refine opL_with hv fun l hl => ?_
      split at hl
      · rename_i g first cap hg
        have hl : pfK (T.pf g (first.toList ++ l ++ cap.toList)) (fun v => K M [] v H) (Call1 P g (first.toList ++ l ++ cap.toList) M H K .tk) := hl
        unfold pfK at hl
        split at hl
        · rename_i c v hp
          obtain ⟨p1, p2, p3⟩ := hT.pf _ _ _ _ hp hl.ask
          exact ⟨hT.fb _ hg, [], acalls.of_pure p3 p1 p2 (hk _ _ _ _ hl.go)⟩
        · obtain ⟨I, hl⟩ := hl.out; exact ⟨hT.fb _ hg, I, hl.mono fun M' v H' _ _ hh => hk _ _ _ _ hh⟩
      · exact hl.elim
    · exact hv.elim
  · rename_i op h1 h2 h3 h4 h5 h6 h7 h8
    have := fQ_ev hT h fun v hv => hk _ _ _ _ hv
    unfold evOp
    split <;> first | exact this | simp_all

/-! ### Rows of operations -/
/-- A guard's outcome. -/
def gK (F : Fr) (ops : List Oper) (g : Option (Nat × Bool)) (run skip : Fr → Prop) : Prop :=
  match g with
  | none => run F
  | some (j, want) => getK ops j fun o => match o.dst with
    | none => False
    | some d => fK F d fun g => match g with
      | .bool t => Br (mrk t) (if want = true then run ((d, .bool true) :: F) else skip ((d, .bool true) :: F)) (if want = true then skip ((d, .bool false) :: F) else run ((d, .bool false) :: F))
      | .tuple ⟨[]⟩ => skip F
      | _ => False
def fOps (P : Program) (T : Tb) (N n : Nat) (I : List Nat) (ops : List Oper) : List Oper → Mem → Fr → Hp → (Mem → Fr → Hp → Prop) → Prop
  | [], M, F, H, K => K M F H
  | o :: r, M, F, H, K =>
    if dstOk N o.dst = true then
      gK F ops o.guard (fun F' => fOp P T o.op M F' H fun M' J v H' => Side (markP (okI n I J)) (nf (mrk v) fun v => nf (mrk H') fun H' => nf (mrk (dropI J F')) fun F' => fputK F' o.dst v fun F' => fOps P T N n I ops r M' F' H' K)) (fun F' => fputK F' o.dst undef fun F' => fOps P T N n I ops r M F' H K)
    else False

theorem fOps_ev {T : Tb} (hT : TbOk P T) {N n : Nat} {I : List Nat} {ops : Array Oper} : ∀ {l : List Oper} {M : Mem} {F : Fr} {H : Hp} {K K' : Mem → Fr → Hp → Prop}, fOps P T N n I ops.toList l M F H K → (∀ M F H, K M F H → K' M F H) → evOps P N n I ops l M F H K'
  | [], _, _, _, _, _, h, hk => hk _ _ _ h
  | o :: r, M, F, H, K, K', h, hk => by
    simp only [fOps] at h
    split at h
    · rename_i hd
      refine ⟨hd, ?_⟩
      unfold gK at h
      split at h
      · rename_i hg; simp only [hg]; exact fOp_ev hT h fun M J v H hv => ⟨hv.ask, by have hv := hv.go; simp only [nf, mrk, fputK_def] at hv; exact fOps_ev hT hv hk⟩
      · rename_i j want hg
        simp only [hg]
        obtain ⟨oj, hoj, h⟩ := getK_spec h
        have hoj' : ops[j]? = some oj := by simpa using hoj
        split at h
        · exact h.elim
        · rename_i d hd'
          simp only [hoj', Option.bind_some, hd']
          obtain ⟨g, hgv, h⟩ := fK_spec h
          split at h
          · rename_i t
            refine ⟨_, hgv, Br.sel h (fun h => ?_) fun h => ?_⟩
            · split at h
              · rename_i hw; rw [if_pos hw]; exact fOp_ev hT h fun M J v H hv => ⟨hv.ask, by have hv := hv.go; simp only [nf, mrk, fputK_def] at hv; exact fOps_ev hT hv hk⟩
              · rename_i hw; rw [if_neg hw]; exact fOps_ev hT (fputK_out h) hk
            · split at h
              · rename_i hw; rw [if_pos hw]; exact fOps_ev hT (fputK_out h) hk
              · rename_i hw; rw [if_neg hw]; exact fOp_ev hT h fun M J v H hv => ⟨hv.ask, by have hv := hv.go; simp only [nf, mrk, fputK_def] at hv; exact fOps_ev hT hv hk⟩
          · exact ⟨_, hgv, fOps_ev hT (fputK_out h) hk⟩
          · exact h.elim
    · exact h.elim

/-- A quiet call: its one value is named. -/
structure QCall (P : Program) (g : FuncId) (args : List Value) (M : Mem) (H : Hp) (K : Value → Prop) (_k : Tok K) : Prop where
  out : ∃ u, acalls P g args M H [] (fun _ v H' => v = u ∧ ∃ J, H' = H ++ J) ∧ flat u = true ∧ K u
@[congr] theorem QCall_congr {P : Program} {g : FuncId} {args args' : List Value} {M : Mem} {H H' : Hp} {K : Value → Prop} {t : Tok K} (h : args = args') (h' : H = H') : QCall P g args M H K t = QCall P g args' M H' K t := by rw [h, h']
theorem keep_nil (F : Fr) : keep [] F = [] := rfl
def kIns (t : Nat) (v : Option Value) (r : Fr) : Fr := match v with | some v => (t, v) :: r | none => r
theorem keep_cons (t : Nat) (L : List Nat) (F : Fr) : keep (t :: L) F = kIns t (fget F t) (keep L F) := by
  unfold keep kIns
  rw [List.filterMap_cons]
  cases fget F t <;> rfl
theorem kIns_some (t : Nat) (v : Value) (r : Fr) : kIns t (some v) r = (t, v) :: r := rfl
theorem kIns_none (t : Nat) (r : Fr) : kIns t none r = r := rfl

def fOpQ (P : Program) (T : Tb) (op : Op) (M : Mem) (F : Fr) (H : Hp) (K : Value → Prop) : Prop :=
  match op with
  | .call ⟨.value f, args, _⟩ => op1 F f fun vf => match vf with
    | .func (.func g) first cap => arrK args fun args => opL F args fun l => if T.fb g = true then nf (mrk (first.toList ++ l ++ cap.toList)) fun as => pfK (mrk (T.pf g as)) K (QCall P g as M H K .tk) else False
    | _ => False
  | op => fQ P T op M F H K
theorem fOpQ_ev {T : Tb} (hT : TbOk P T) {op : Op} {M : Mem} {F : Fr} {H : Hp} {K K' : Value → Prop} (h : fOpQ P T op M F H K) (hk : ∀ v, K v → K' v) : evOpQ P op M F H K' := by
  unfold fOpQ at h
  split at h
  · refine op1_with h fun v hv => ?_
    split at hv
    · refine opL_with hv fun l hl => ?_
      split at hl
      · rename_i g first cap hg
        have hl : pfK (T.pf g (first.toList ++ l ++ cap.toList)) K (QCall P g (first.toList ++ l ++ cap.toList) M H K .tk) := hl
        unfold pfK at hl
        split at hl
        · rename_i c v hp
          obtain ⟨p1, p2, p3⟩ := hT.pf _ _ _ _ hp hl.ask
          exact ⟨hT.fb _ hg, v, acalls.of_pure p3 p1 p2 ⟨rfl, [], by simp⟩, p2, hk _ hl.go⟩
        · obtain ⟨u, h1, h2, h3⟩ := hl.out
          exact ⟨hT.fb _ hg, u, h1, h2, hk _ h3⟩
      · exact hl.elim
    · exact hv.elim
  · have := fQ_ev hT h hk
    unfold evOpQ
    split <;> first | exact this | simp_all

def fOpsQ (P : Program) (T : Tb) (N : Nat) (ops : List Oper) : List Oper → Mem → Fr → Hp → (Fr → Prop) → Prop
  | [], _, F, _, K => K F
  | o :: r, M, F, H, K =>
    if dstOk N o.dst = true then
      gK F ops o.guard (fun F' => fOpQ P T o.op M F' H fun v => nf (mrk v) fun v => fputK F' o.dst v fun F' => fOpsQ P T N ops r M F' H K) (fun F' => fputK F' o.dst undef fun F' => fOpsQ P T N ops r M F' H K)
    else False
theorem fOpsQ_ev {T : Tb} (hT : TbOk P T) {N : Nat} {ops : Array Oper} : ∀ {l : List Oper} {M : Mem} {F : Fr} {H : Hp} {K K' : Fr → Prop}, fOpsQ P T N ops.toList l M F H K → (∀ F, K F → K' F) → evOpsQ P N ops l M F H K'
  | [], _, _, _, _, _, h, hk => hk _ h
  | o :: r, M, F, H, K, K', h, hk => by
    simp only [fOpsQ] at h
    split at h
    · rename_i hd
      refine ⟨hd, ?_⟩
      unfold gK at h
      split at h
      · rename_i hg; simp only [hg]; exact fOpQ_ev hT h fun v hv => (by have hv := hv; simp only [nf, mrk, fputK_def] at hv; exact fOpsQ_ev hT hv hk)
      · rename_i j want hg
        simp only [hg]
        obtain ⟨oj, hoj, h⟩ := getK_spec h
        have hoj' : ops[j]? = some oj := by simpa using hoj
        split at h
        · exact h.elim
        · rename_i d hd'
          simp only [hoj', Option.bind_some, hd']
          obtain ⟨g, hgv, h⟩ := fK_spec h
          split at h
          · rename_i t
            refine ⟨_, hgv, Br.sel h (fun h => ?_) fun h => ?_⟩
            · split at h
              · rename_i hw; rw [if_pos hw]; exact fOpQ_ev hT h fun v hv => (by have hv := hv; simp only [nf, mrk, fputK_def] at hv; exact fOpsQ_ev hT hv hk)
              · rename_i hw; rw [if_neg hw]; exact fOpsQ_ev hT (fputK_out h) hk
            · split at h
              · rename_i hw; rw [if_pos hw]; exact fOpsQ_ev hT (fputK_out h) hk
              · rename_i hw; rw [if_neg hw]; exact fOpQ_ev hT h fun v hv => (by have hv := hv; simp only [nf, mrk, fputK_def] at hv; exact fOpsQ_ev hT hv hk)
          · exact ⟨_, hgv, fOpsQ_ev hT (fputK_out h) hk⟩
          · exact h.elim
    · exact h.elim

/-- Is an operation quiet, by its kind? -/
def quietB : Op → Bool
  | .move _ | .assign _ | .pick .. | .load .. | .nilCheck _ | .binOp .. | .unOp .. | .convert .. | .makeInterface .. | .makeFunc .. | .fieldAddr .. | .field .. | .indexAddr .. | .index .. | .slice .. | .extract .. | .build .. | .typeAssert .. => true
  | .call ⟨.value _, _, _⟩ => true
  | .call ⟨.builtin .len, _, _⟩ | .call ⟨.builtin .cap, _, _⟩ | .call ⟨.builtin .min, _, _⟩ | .call ⟨.builtin .max, _, _⟩ => true
  | _ => false

/-- The lexical order stands for all. -/
structure LexB (ops : Array Oper) : Prop where
  out : Region.lexB .any ops = true
/-! ### Codes -/
/-- A loop's rounds. -/
def loopK (b : Mem → Fr → Hp → (Exit → Mem → Fr → Hp → Prop) → Prop) (Q : Exit → Mem → Fr → Hp → Prop) : Nat → Mem → Fr → Hp → Prop
  | 0, _, _, _ => False
  | k + 1, M, F, H => b M F H fun x M' F' H' => match x with | .normal => loopK b Q k M' F' H' | x => Q x M' F' H'
def fCode (P : Program) (T : Tb) (N n : Nat) (I : List Nat) (L : List Nat) (U : Nat) : Code → Mem → Fr → Hp → (Exit → Mem → Fr → Hp → Prop) → Prop
  | .skip, M, F, H, Q => Q .normal M F H
  | .label _, M, F, H, Q => Q .normal M F H
  | .ret, M, F, H, Q => Q .ret M F H
  | .exit id, M, F, H, Q => Q (.exit id) M F H
  | .region id ops true, M, F, H, Q =>
      arrK ops fun opl => if (opl.all fun o => quietB o.op) = true then Side (LexB ops) (fOpsQ P T N opl opl M F H fun F' => nf (mrk (keep L F')) fun F' => Q .normal M F' H)
        else Awp1 P N n I (.region id ops true) M F H Q .tk .tk
  | .region _ ops false, M, F, H, Q => arrK ops fun opl => fOps P T N n I opl opl M F H fun M' F' H' => nf (mrk (keep L F')) fun F' => Q .normal M' F' H'
  | .seq x y, M, F, H, Q => fCode P T N n I L U x M F H fun z M' F' H' => match z with | .normal => fCode P T N n I L U y M' F' H' Q | z => Q z M' F' H'
  | .cond c x y, M, F, H, Q => op1 F c fun v => match v with | .bool t => Br (mrk t) (fCode P T N n I L U x M F H Q) (fCode P T N n I L U y M F H Q) | _ => False
  | .block id c, M, F, H, Q => fCode P T N n I L U c M F H fun z M' F' H' => match z with | .exit id' => if id' = id then Q .normal M' F' H' else Q (.exit id') M' F' H' | z => Q z M' F' H'
  | .scope c, M, F, H, Q => fCode P T N n I L U c M F H fun z M' F' H' => match z with | .goto _ => False | z => Q z M' F' H'
  | .loop c, M, F, H, Q => if U = 0 then Awp1 P N n I (.loop c) M F H Q .tk .tk else loopK (fun M F H R => fCode P T N n I L U c M F H R) Q U M F H
  | c, M, F, H, Q => Awp1 P N n I c M F H Q .tk .tk

theorem fCode_awp {T : Tb} (hT : TbOk P T) (hm : P.follows .mixedOrders = true) {N n U : Nat} {I : List Nat} {L : List Nat} : ∀ (c : Code) {M : Mem} {F : Fr} {H : Hp} {Q : Exit → Mem → Fr → Hp → Prop}, fCode P T N n I L U c M F H Q → awp P N n I c M F H Q
  | .skip, _, _, _, _, h => awp_skip h
  | .label _, _, _, _, _, h => awp_label h
  | .ret, _, _, _, _, h => awp_ret h
  | .exit _, _, _, _, _, h => awp_exit h
  | .region id ops true, M, F, H, Q, h => by
    simp only [fCode, arrK] at h
    split at h
    · exact awp_region_quiet L hm h.ask.out (fOpsQ_ev hT h.go fun _ h => h)
    · exact h.out
  | .region id ops false, M, F, H, Q, h => by
    simp only [fCode, arrK] at h
    exact awp_region L (fOps_ev hT h fun _ _ _ h => h)
  | .seq x y, M, F, H, Q, h => by
    refine awp_seq ((fCode_awp hT hm x h).mono ?_)
    intro z M' F' H' _ hz
    cases z with
    | normal => exact fCode_awp hT hm y hz
    | _ => exact hz
  | .cond c x y, M, F, H, Q, h => by
    refine awp_cond (op1_with h fun v hv => ?_)
    cases v <;> first | exact hv.elim | exact Br.sel hv (fun h => fCode_awp hT hm x h) fun h => fCode_awp hT hm y h
  | .block id c, M, F, H, Q, h => awp_block (fCode_awp hT hm c h)
  | .loop c, M, F, H, Q, h => by
    simp only [fCode] at h
    split at h
    · exact h.out
    · refine awp_rounds U ?_
      have key : ∀ k M F H, loopK (fun M F H R => fCode P T N n I L U c M F H R) Q k M F H → arounds P N n I c Q k M F H := by
        intro k
        induction k with
        | zero => intro M F H h; exact h.elim
        | succ k ih =>
          intro M F H h
          refine (fCode_awp hT hm c h).mono ?_
          intro x M' F' H' _ hx
          cases x with
          | normal => exact ih _ _ _ hx
          | _ => exact hx
      exact key U _ _ _ h
  | .rangeFunc .., _, _, _, _, h => h.out
  | .scope c, _, _, _, _, h => awp_scope (fCode_awp hT hm c h)
  | .goto _, _, _, _, _, h => h.out
  | .refuse _, _, _, _, _, h => h.out

def fResults (T : Nat → Option TE) (M : Mem) (F : Fr) (H : Hp) : List ResultVar → (List Value → Prop) → Prop
  | [], k => k []
  | .tmp t :: r, k => fK F t fun v => fResults T M F H r fun l => k (v :: l)
  | .cell a t :: r, k => fK F a fun v => fLoad T t v M H fun u => fResults T M F H r fun l => k (u :: l)
theorem fResults_ev {T : Nat → Option TE} (hT : TabOk P T) {M : Mem} {F : Fr} {H : Hp} : ∀ {rs : List ResultVar} {k k' : List Value → Prop}, fResults T M F H rs k → (∀ l, k l → k' l) → evResults P M F H rs k'
  | [], _, _, h, hk => hk _ h
  | .tmp t :: r, k, k', h, hk => by
    obtain ⟨v, hv, h⟩ := fK_spec h
    exact ⟨v, hv, fResults_ev hT h fun l hl => hk _ hl⟩
  | .cell a t :: r, k, k', h, hk => by
    obtain ⟨v, hv, h⟩ := fK_spec h
    exact ⟨v, hv, fLoad_ev hT h fun u hu => fResults_ev hT hu fun l hl => hk _ hl⟩

def fRet (T : Tb) (rs : List ResultVar) (K : Mem → Value → Hp → Prop) (x : Exit) (M : Mem) (F : Fr) (H : Hp) : Prop :=
  match x with
  | .normal => fResults T.ty M F H rs fun l => K M (packR l) H
  | .ret => fResults T.ty M F H rs fun l => K M (packR l) H
  | _ => False

/-- **A call is its body's walk, reckoned.** -/
theorem acalls_code {T : Tb} (hT : TbOk P T) (hm : P.follows .mixedOrders = true) {f : FuncId} {fn : Func} {c : Code} {args : List Value} {M : Mem} {H : Hp} {I : List Nat} {K : Mem → Value → Hp → Prop} (L : List Nat) (U : Nat) (hf : P.funcs[f]? = some fn) (hb : fn.body = some c) {N : Nat} (hN : fn.ntmps = N) (ha : args.length ≤ N) {rs : List ResultVar} (hrs : fn.results.toList = rs)
    (h : nf (mrk H.length) fun n => nf (mrk (enum 0 args)) fun F => fCode P T N n I L U c M F H (fRet T rs K)) : acalls P f args M H I K := by
  refine acalls_enter hf hb hN ha hrs ((fCode_awp hT hm c h).mono ?_)
  intro x M' F' H' _ hx
  cases x with
  | normal => exact fResults_ev hT.ty hx fun _ h => h
  | ret => exact fResults_ev hT.ty hx fun _ h => h
  | _ => exact hx.elim
end
end Go.Snb
