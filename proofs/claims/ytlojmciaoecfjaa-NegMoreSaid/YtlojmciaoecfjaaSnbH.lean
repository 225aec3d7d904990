/- Codes over the abstract memory. -/
import Derived.Test.YtlojmciaoecfjaaSnbG2
import Derived.Scope
set_option linter.all false
namespace Go.Snb
open Go
section
variable {P : Program}

def fput (F : Fr) (d : Option Tmp) (v : Value) : Fr :=
  match d with
  | some d => (d, v) :: F
  | none => F
theorem fget_fput {F : Fr} {d : Option Tmp} {v : Value} {t : Nat} {u : Value} (h : fget (fput F d v) t = some u) : (d = some t ∧ u = v) ∨ (d ≠ some t ∧ fget F t = some u) := by
  cases d with
  | none => exact .inr ⟨by simp, h⟩
  | some d =>
    simp only [fput, fget] at h
    split at h
    · rename_i hd; subst hd; cases h; exact .inl ⟨rfl, rfl⟩
    · rename_i hd; exact .inr ⟨fun he => hd (by cases he; rfl), h⟩

/-! ### Values that name none of some labels -/
def noA (I : List Nat) (a : Addr) : Bool :=
  match a.spot with
  | none => !I.contains a.block
  | some 1 => !I.contains a.block
  | _ => true
mutual
def noI (I : List Nat) : Value → Bool
  | .pointer (some a) => noA I a
  | .slice (some a) _ _ => noA I a
  | .map (some r) => !I.contains r
  | .func _ x y => noIA I x && noIA I y
  | .iface _ v => noI I v
  | .agg cs => noIA I cs
  | .tuple cs => noIA I cs
  | .pointer none => true
  | .slice none _ _ => true
  | .map none => true
  | .bool _ => true
  | .int _ _ => true
  | .float _ _ => true
  | .complex _ _ _ => true
  | .string _ => true
  | .chan _ => true
  | .nilFunc => true
  | .nilIface => true
def noIA (I : List Nat) : Array Value → Bool
  | ⟨l⟩ => noIL I l
def noIL (I : List Nat) : List Value → Bool
  | [] => true
  | v :: r => noI I v && noIL I r
end
theorem noA_eq {I : List Nat} {e e' : Env} (ho : ∀ i, i ∉ I → e.o i = e'.o i) (hf : e.f = e'.f) {a : Addr} (h : noA I a = true) : locOf e a = locOf e' a ∧ adr e a = adr e' a := by
  obtain ⟨b, o, s⟩ := a
  match s with
  | none => have := ho b (by simpa [noA] using h); simp [locOf, adr, this]
  | some 0 => simp [locOf, adr, hf]
  | some 1 => have := ho b (by simpa [noA] using h); simp [locOf, adr, this]
  | some 2 => simp [locOf, adr, hf]
  | some 3 => simp [locOf, adr]
  | some (s + 4) => simp [locOf, adr]
mutual
theorem cv_noI {I : List Nat} {e e' : Env} (ho : ∀ i, i ∉ I → e.o i = e'.o i) (hf : e.f = e'.f) : ∀ (v : Value), noI I v = true → cv e v = cv e' v
  | .pointer (some a), h => by simp only [noI] at h; simp only [cv]; rw [(noA_eq ho hf h).2]
  | .slice (some a) n c, h => by simp only [noI] at h; simp only [cv, slV, moreOf_eq]; rw [(noA_eq ho hf h).1, (noA_eq ho hf h).2]
  | .map (some r), h => by simp only [noI] at h; simp only [cv]; rw [ho r (by simpa using h)]
  | .func f x y, h => by simp only [noI, Bool.and_eq_true] at h; simp only [cv]; rw [cvA_noI ho hf x h.1, cvA_noI ho hf y h.2]
  | .iface t v, h => by simp only [noI] at h; simp only [cv]; rw [cv_noI ho hf v h]
  | .agg cs, h => by simp only [noI] at h; simp only [cv]; rw [cvA_noI ho hf cs h]
  | .tuple cs, h => by simp only [noI] at h; simp only [cv]; rw [cvA_noI ho hf cs h]
  | .pointer none, _ => by simp only [cv]
  | .slice none _ _, _ => by simp only [cv]
  | .map none, _ => by simp only [cv]
  | .bool _, _ => by simp only [cv]
  | .int _ _, _ => by simp only [cv]
  | .float _ _, _ => by simp only [cv]
  | .complex _ _ _, _ => by simp only [cv]
  | .string _, _ => by simp only [cv]
  | .chan _, _ => by simp only [cv]
  | .nilFunc, _ => by simp only [cv]
  | .nilIface, _ => by simp only [cv]
theorem cvA_noI {I : List Nat} {e e' : Env} (ho : ∀ i, i ∉ I → e.o i = e'.o i) (hf : e.f = e'.f) : ∀ (v : Array Value), noIA I v = true → cvA e v = cvA e' v
  | ⟨l⟩, h => by simp only [noIA] at h; simp only [cvA]; rw [cvL_noI ho hf l h]
theorem cvL_noI {I : List Nat} {e e' : Env} (ho : ∀ i, i ∉ I → e.o i = e'.o i) (hf : e.f = e'.f) : ∀ (v : List Value), noIL I v = true → cvL e v = cvL e' v
  | [], _ => rfl
  | v :: r, h => by simp only [noIL, Bool.and_eq_true] at h; simp only [cvL]; rw [cv_noI ho hf v h.1, cvL_noI ho hf r h.2]
end
theorem Sc.noI {n m : Nat} {I : List Nat} {v : Value} (hs : Sc n m v) (h : Snb.noI I v = true) {e e' : Env} (ha : Agr n I m e e') : cv e v = cv e' v := by
  have h1 := hs e ⟨fun i => if i ∈ I then e.o i else e'.o i, e'.f⟩ ⟨fun i hi _ => by
    simp only
    split
    · rfl
    · rename_i hI; exact ha.o i hi hI, fun i hi => ha.f i hi⟩
  rw [h1]
  exact cv_noI (e := ⟨fun i => if i ∈ I then e.o i else e'.o i, e'.f⟩) (e' := e') (fun i hi => by simp [hi]) rfl v h
/-- The frame's slots that name none of some labels. -/
def keepI (I : List Nat) (F : Fr) : List Nat → Fr
  | [] => []
  | t :: r => match fget F t with
    | some v => if noI I v = true then (t, v) :: keepI I F r else keepI I F r
    | none => keepI I F r
theorem fget_keepI {I : List Nat} {F : Fr} : ∀ (L : List Nat) (t : Nat) (v : Value), fget (keepI I F L) t = some v → fget F t = some v ∧ noI I v = true
  | [], _, _, h => by simp [keepI, fget] at h
  | s :: L, t, v, h => by
    simp only [keepI] at h
    split at h
    · rename_i u hu
      split at h
      · rename_i hn
        simp only [fget] at h
        split at h
        · rename_i hst; subst hst; cases h; exact ⟨hu, hn⟩
        · exact fget_keepI L t v h
      · exact fget_keepI L t v h
    · exact fget_keepI L t v h
def dropI (I : List Nat) (F : Fr) : Fr :=
  match I with
  | [] => F
  | i :: I => keepI (i :: I) F (F.map (·.1))
theorem dropI_nil (F : Fr) : dropI [] F = F := rfl
theorem dropI_cons (i : Nat) (I : List Nat) (F : Fr) : dropI (i :: I) F = keepI (i :: I) F (F.map (·.1)) := rfl
mutual
theorem noI_nil : ∀ v : Value, noI [] v = true
  | .pointer (some a) => by obtain ⟨b, o, s⟩ := a; simp only [noI, noA]; split <;> rfl
  | .slice (some a) n c => by obtain ⟨b, o, s⟩ := a; simp only [noI, noA]; split <;> rfl
  | .map (some r) => by simp [noI]
  | .func f x y => by simp only [noI]; rw [noIA_nil x, noIA_nil y]; rfl
  | .iface t v => by simp only [noI]; exact noI_nil v
  | .agg cs => by simp only [noI]; exact noIA_nil cs
  | .tuple cs => by simp only [noI]; exact noIA_nil cs
  | .pointer none => by simp only [noI]
  | .slice none _ _ => by simp only [noI]
  | .map none => by simp only [noI]
  | .bool _ => by simp only [noI]
  | .int _ _ => by simp only [noI]
  | .float _ _ => by simp only [noI]
  | .complex _ _ _ => by simp only [noI]
  | .string _ => by simp only [noI]
  | .chan _ => by simp only [noI]
  | .nilFunc => by simp only [noI]
  | .nilIface => by simp only [noI]
theorem noIA_nil : ∀ v : Array Value, noIA [] v = true
  | ⟨l⟩ => by simp only [noIA]; exact noIL_nil l
theorem noIL_nil : ∀ v : List Value, noIL [] v = true
  | [] => rfl
  | v :: r => by simp only [noIL]; rw [noI_nil v, noIL_nil r]; rfl
end
theorem fget_dropI {I : List Nat} {F : Fr} {t : Nat} {v : Value} (h : fget (dropI I F) t = some v) : fget F t = some v ∧ noI I v = true := by
  cases I with
  | nil => exact ⟨h, noI_nil v⟩
  | cons i I => exact fget_keepI _ t v h

/-- The frame's slots that go on to be known. -/
def keep (L : List Nat) (F : Fr) : Fr := L.filterMap fun t => (fget F t).map fun v => (t, v)
theorem fget_keep {F : Fr} : ∀ (L : List Nat) (t : Nat) (v : Value), fget (keep L F) t = some v → fget F t = some v
  | [], _, _, h => by simp [keep, fget] at h
  | s :: L, t, v, h => by
    simp only [keep, List.filterMap_cons] at h
    cases hs : fget F s with
    | none => simp [hs] at h; exact fget_keep L t v h
    | some u =>
      simp [hs] at h
      simp only [fget] at h
      split at h
      · rename_i hst; subst hst; cases h; exact hs
      · exact fget_keep L t v h

def dstOk (N : Nat) : Option Tmp → Bool
  | some d => decide (d < N)
  | none => true

theorem FrOk.put {e : Env} {N : Nat} {F : Fr} {a : Act} (h : FrOk e N F a) {d : Option Tmp} (hd : dstOk N d = true) (v : Value) : FrOk e N (fput F d v) (a.put d (cv e v)) := by
  refine ⟨?_, ?_, fun t u hu => ?_⟩
  · cases d <;> simp [Act.put, h.defers]
  · cases d <;> simp [Act.put, h.size]
  · rcases fget_fput hu with ⟨rfl, rfl⟩ | ⟨hne, hu2⟩
    · have : t < a.tmps.size := by rw [h.size]; simpa [dstOk] using hd
      simp [Act.put, this]
    · cases d with
      | none => exact h.get t u hu2
      | some d =>
        have hdt : d ≠ t := fun he => hne (by rw [he])
        have := h.get t u hu2
        simp only [Act.put]
        rw [← this]
        simp only [Array.getD_eq_getD_getElem?]
        rw [Array.getElem?_setIfInBounds_ne hdt]
theorem FrOk.env {e e' : Env} {N : Nat} {F : Fr} {a : Act} {n m : Nat} {I : List Nat} (h : FrOk e N F a) (hs : ScF n m F) (he : Agr n I m e e') : FrOk e' N (dropI I F) a :=
  ⟨h.defers, h.size, fun t v hv => by
    obtain ⟨h1, h2⟩ := fget_dropI hv
    rw [h.get t v h1, (hs t v h1).noI h2 he]⟩
theorem FrOk.keep {e : Env} {N : Nat} {F : Fr} {a : Act} (h : FrOk e N F a) (L : List Nat) : FrOk e N (keep L F) a :=
  ⟨h.defers, h.size, fun t v hv => h.get t v (fget_keep L t v hv)⟩
theorem ScF.keep {n m : Nat} {F : Fr} (h : ScF n m F) (L : List Nat) : ScF n m (keep L F) := fun t v hv => h t v (fget_keep L t v hv)
theorem ScF.dropI {n m : Nat} {F : Fr} (h : ScF n m F) (I : List Nat) : ScF n m (Snb.dropI I F) := fun t v hv => h t v (fget_dropI hv).1
theorem ScF.put {n m : Nat} {F : Fr} (h : ScF n m F) (d : Option Tmp) {v : Value} (hv : Sc n m v) : ScF n m (fput F d v) := fun t u hu => by
  rcases fget_fput hu with ⟨_, rfl⟩ | ⟨_, hu⟩
  · exact hv
  · exact h t u hu
theorem ScF.mono {n m n' m' : Nat} {F : Fr} (h : ScF n m F) (hn : n ≤ n') (hm : m ≤ m') : ScF n' m' F := fun t u hu => (h t u hu).mono hn hm

/-! ### Operations in a row -/
/-- Labels that turned may turn: they are the walk's own, or among those that may. -/
def okI (n : Nat) (I J : List Nat) : Prop := ∀ i ∈ J, n ≤ i ∨ i ∈ I
theorem okI_nil (n : Nat) (I : List Nat) : okI n I [] := by intro i hi; cases hi
def evOps (P : Program) (N n : Nat) (I : List Nat) (ops : Array Oper) : List Oper → Mem → Fr → Hp → (Mem → Fr → Hp → Prop) → Prop
  | [], M, F, H, K => K M F H
  | o :: r, M, F, H, K =>
    dstOk N o.dst = true ∧
    match o.guard with
    | none => evOp P o.op M F H fun M' J v H' => okI n I J ∧ evOps P N n I ops r M' (fput (dropI J F) o.dst v) H' K
    | some (j, want) =>
      match (ops[j]?).bind (·.dst) with
      | none => False
      | some d => ∃ g, fget F d = some g ∧
        match g with
        | .bool t => BSel t
            (if want = true then evOp P o.op M ((d, .bool true) :: F) H fun M' J v H' => okI n I J ∧ evOps P N n I ops r M' (fput (dropI J ((d, .bool true) :: F)) o.dst v) H' K else evOps P N n I ops r M (fput ((d, .bool true) :: F) o.dst undef) H K)
            (if want = true then evOps P N n I ops r M (fput ((d, .bool false) :: F) o.dst undef) H K else evOp P o.op M ((d, .bool false) :: F) H fun M' J v H' => okI n I J ∧ evOps P N n I ops r M' (fput (dropI J ((d, .bool false) :: F)) o.dst v) H' K)
        | .tuple ⟨[]⟩ => evOps P N n I ops r M (fput F o.dst undef) H K
        | _ => False

/-- What a code is asked to come to, in the machine's terms. -/
def Post (N n : Nat) (I : List Nat) (M : Mem) (X : Fx) (e : Env) (Q : Exit → Mem → Fr → Hp → Prop) (x : Exit) (a' : Act) (w' : World) : Prop :=
  ∃ M' e' F' H', M.le M' ∧ Agr n I M.next e e' ∧ n ≤ H'.length ∧ Rel N M' X e' F' H' a' w' ∧ Q x M' F' H'

theorem Post.from {N n : Nat} {I : List Nat} {M M' : Mem} {X : Fx} {e e' : Env} {Q : Exit → Mem → Fr → Hp → Prop} {x : Exit} {a' : Act} {w' : World} (h : Post N n I M' X e' Q x a' w') (hm : M.le M') (he : Agr n I M.next e e') : Post N n I M X e Q x a' w' := by
  obtain ⟨M2, e2, F2, H2, h1, h2, h3, h4, h5⟩ := h
  exact ⟨M2, e2, F2, H2, hm.trans h1, he.trans h2 (Nat.le_refl _) hm.next, h3, h4, h5⟩

theorem Rel.subst {N : Nat} {M : Mem} {X : Fx} {e : Env} {F : Fr} {H : Hp} {a : Act} {w : World} (h : Rel N M X e F H a w) {d : Nat} {v : Value} (hv : fget F d = some v) : Rel N M X e ((d, v) :: F) H a w := by
  refine ⟨h.emb, ⟨h.fr.defers, h.fr.size, fun t u hu => ?_⟩, fun t u hu => ?_⟩ <;> simp only [fget] at hu <;> split at hu
  · rename_i hd; subst hd; cases hu; exact h.fr.get _ _ hv
  · exact h.fr.get t u hu
  · rename_i hd; subst hd; cases hu; exact h.sc _ _ hv
  · exact h.sc t u hu

theorem Rel.step {N : Nat} {M M' : Mem} {X : Fx} {e e' : Env} {F : Fr} {H H' : Hp} {J : List Nat} {a : Act} {w w' : World} (h : Rel N M X e F H a w) (hm : M.le M') (he : Agr H.length J M.next e e') (hl : H.length ≤ H'.length) (hw : Emb M' X e' H' w') {d : Option Tmp} (hd : dstOk N d = true) {v : Value} (hv : Sc H'.length M'.next v) :
    Rel N M' X e' (fput (dropI J F) d v) H' (a.put d (cv e' v)) w' :=
  ⟨hw, (h.fr.env h.sc he).put hd v, ((h.sc.dropI J).mono hl hm.next).put d hv⟩

theorem Agr.sub {n k : Nat} {I J : List Nat} {m : Nat} {e e' : Env} (h : Agr k J m e e') (hk : n ≤ k) (hJ : okI n I J) : Agr n I m e e' :=
  ⟨fun i hi hI => h.o i (by omega) fun hj => by rcases hJ i hj with h | h; omega; exact hI h, h.f⟩

theorem evOps_run {N n : Nat} {I : List Nat} {ops : Array Oper} {X : Fx} {Q : Exit → Act → World → Prop} {K : Mem → Fr → Hp → Prop} : ∀ (l : List Oper) (k : Nat) (M : Mem) (F : Fr) (H : Hp) (e : Env) (a : Act) (w : World),
    (∀ j, l[j]? = ops[k + j]?) → Rel N M X e F H a w → n ≤ H.length → evOps P N n I ops l M F H K →
    (∀ M' e' F' H' a' w', M.le M' → Agr n I M.next e e' → n ≤ H'.length → Rel N M' X e' F' H' a' w' → K M' F' H' → Q .normal a' w') → wpOps P ops Q (List.range' k l.length) a w
  | [], k, M, F, H, e, a, w, _, hr, hn, h, hq => by
    simp only [List.length_nil, List.range'_zero, wpOps]
    exact hq M e F H a w (.refl M) (.refl _ _ _ _) hn hr h
  | o :: r, k, M, F, H, e, a, w, hl, hr, hn, h, hq => by
    obtain ⟨hd, h⟩ := h
    have h0 : ops[k]? = some o := by simpa using (hl 0).symm
    have hl' : ∀ j, r[j]? = ops[k + 1 + j]? := fun j => by have := hl (j + 1); simpa [Nat.add_assoc, Nat.add_comm 1 j] using this
    have hskip : ∀ F1, Rel N M X e F1 H a w → evOps P N n I ops r M (fput F1 o.dst undef) H K → wpOps P ops Q (List.range' (k + 1) r.length) (a.put o.dst undef) w := by
      intro F1 hr1 h1
      have hr2 : Rel N M X e (fput F1 o.dst undef) H (a.put o.dst undef) w := by
        have := hr1.step (.refl M) (.refl _ [] _ _) (Nat.le_refl _) hr1.emb hd (v := undef) (Sc.flat (by rfl) _ _)
        rwa [cv_undef] at this
      exact evOps_run r (k + 1) M _ H e _ w hl' hr2 hn h1 hq
    have hgo : ∀ F1, Rel N M X e F1 H a w → (evOp P o.op M F1 H fun M' J v H' => okI n I J ∧ evOps P N n I ops r M' (fput (dropI J F1) o.dst v) H' K) → o.wp P a w (wpOps P ops Q (List.range' (k + 1) r.length)) Q := by
      intro F1 hr1 h1
      refine evOp_run h1 rfl hr1 ?_
      intro M' e' J v H' w' g1 g2 g3 g4 g5 g6
      refine evOps_run r (k + 1) M' _ H' e' _ w' hl' (hr1.step g1 g2 g3 g4 hd g5) (by omega) g6.2 ?_
      intro M2 e2 F2 H2 a2 w2 f1 f2 f3 f4 f5
      exact hq M2 e2 F2 H2 a2 w2 (g1.trans f1) ((g2.sub hn g6.1).trans f2 (Nat.le_refl _) g1.next) f3 f4 f5
    have hw : ∀ (b : Bool), Region.wanted o (yielded ops a.tmps) = b → (b = true → o.wp P a w (wpOps P ops Q (List.range' (k + 1) r.length)) Q) → (b = false → wpOps P ops Q (List.range' (k + 1) r.length) (a.put o.dst undef) w) →
        wpOps P ops Q (List.range' k (o :: r).length) a w := by
      intro b hb h1 h2
      simp only [List.length_cons, List.range'_succ, wpOps, h0]
      cases b with
      | true => rw [if_pos hb]; exact .inl (h1 rfl)
      | false => rw [if_neg (by rw [hb]; simp)]; exact h2 rfl
    split at h
    · rename_i hg
      exact hw true (by simp [Region.wanted, hg]) (fun _ => hgo F hr h) (by simp)
    · rename_i j want hg
      split at h
      · exact h.elim
      · rename_i d hjd
        obtain ⟨g, hgv, h⟩ := h
        have hev := hr.fr.get d g hgv
        split at h
        · rename_i t
          have hdlt : a.tmps[d]? = some (.bool t) := by
            simp only [cv_bool, Array.getD_eq_getD_getElem?] at hev
            cases hx : a.tmps[d]? with
            | none => simp [hx, undef] at hev
            | some y => simp [hx] at hev; rw [hev]
          have hy : yielded ops a.tmps j = some t := by
            unfold yielded
            simp only [hjd, Option.bind_some, hdlt]
          cases t with
          | true =>
            replace h := (BSel_true _ _).1 h
            cases want with
            | true => exact hw true (by simp [Region.wanted, hg, hy]) (fun _ => hgo _ (hr.subst hgv) (by simpa using h)) (by simp)
            | false => exact hw false (by simp [Region.wanted, hg, hy]) (by simp) (fun _ => hskip _ (hr.subst hgv) (by simpa using h))
          | false =>
            replace h := (BSel_false _ _).1 h
            cases want with
            | true => exact hw false (by simp [Region.wanted, hg, hy]) (by simp) (fun _ => hskip _ (hr.subst hgv) (by simpa using h))
            | false => exact hw true (by simp [Region.wanted, hg, hy]) (fun _ => hgo _ (hr.subst hgv) (by simpa using h)) (by simp)
        · have hy : yielded ops a.tmps j = none := by
            unfold yielded
            simp only [hjd, Option.bind_some]
            have hev' : a.tmps.getD d undef = undef := by rw [hev]; simp [undef]
            simp only [Array.getD_eq_getD_getElem?] at hev'
            cases hx : a.tmps[d]? with
            | none => rfl
            | some y => simp [hx] at hev'; subst hev'; rfl
          exact hw false (by simp [Region.wanted, hg, hy]) (by simp) (fun _ => hskip F hr h)
        · exact h.elim

/-! ### Codes -/
structure awp (P : Program) (N n : Nat) (I : List Nat) (c : Code) (M : Mem) (F : Fr) (H : Hp) (Q : Exit → Mem → Fr → Hp → Prop) : Prop where
  out : ∀ X e a w, Rel N M X e F H a w → n ≤ H.length → c.wp P (Post N n I M X e Q) a w

theorem awp.mono {N n : Nat} {I : List Nat} {c : Code} {M : Mem} {F : Fr} {H : Hp} {Q Q' : Exit → Mem → Fr → Hp → Prop} (h : awp P N n I c M F H Q) (hq : ∀ x M' F' H', M.le M' → Q x M' F' H' → Q' x M' F' H') : awp P N n I c M F H Q' :=
  ⟨fun X e a w hr hn => wp_mono (h.out X e a w hr hn) fun x a' w' ⟨M', e', F', H', h1, h2, h3, h4, h5⟩ => ⟨M', e', F', H', h1, h2, h3, h4, hq _ _ _ _ h1 h5⟩⟩

theorem Rel.keep {N : Nat} {M : Mem} {X : Fx} {e : Env} {F : Fr} {H : Hp} {a : Act} {w : World} (h : Rel N M X e F H a w) (L : List Nat) : Rel N M X e (Snb.keep L F) H a w := ⟨h.emb, h.fr.keep L, h.sc.keep L⟩

theorem awp_region {N n id : Nat} {I : List Nat} {ops : Array Oper} {M : Mem} {F : Fr} {H : Hp} {Q : Exit → Mem → Fr → Hp → Prop} (L : List Nat)
    (h : evOps P N n I ops ops.toList M F H fun M' F' H' => Q .normal M' (keep L F') H') : awp P N n I (.region id ops false) M F H Q := by
  refine ⟨fun X e a w hr hn => wp_region ?_⟩
  have := evOps_run (P := P) (N := N) (n := n) (I := I) (ops := ops) (Q := Post N n I M X e Q) (K := fun M' F' H' => Q .normal M' (keep L F') H') ops.toList 0 M F H e a w (by simp) hr hn h
    (fun M' e' F' H' a' w' g1 g2 g3 g4 g5 => ⟨M', e', keep L F', H', g1, g2, g3, g4.keep L, g5⟩)
  simpa [List.range_eq_range'] using this

theorem awp_seq {N n : Nat} {I : List Nat} {x y : Code} {M : Mem} {F : Fr} {H : Hp} {Q : Exit → Mem → Fr → Hp → Prop}
    (h : awp P N n I x M F H fun z M' F' H' => match z with | .normal => awp P N n I y M' F' H' Q | z => Q z M' F' H') : awp P N n I (.seq x y) M F H Q := by
  refine ⟨fun X e a w hr hn => wp_seq (wp_mono (h.out X e a w hr hn) ?_)⟩
  rintro z a' w' ⟨M', e', F', H', g1, g2, g3, g4, g5⟩
  cases z with
  | normal => exact wp_mono (g5.out X e' a' w' g4 g3) fun z' a2 w2 h2 => h2.from g1 g2
  | _ => exact ⟨M', e', F', H', g1, g2, g3, g4, g5⟩

theorem awp_skip {N n : Nat} {I : List Nat} {M : Mem} {F : Fr} {H : Hp} {Q : Exit → Mem → Fr → Hp → Prop} (h : Q .normal M F H) : awp P N n I .skip M F H Q :=
  ⟨fun X e a w hr hn => wp_skip ⟨M, e, F, H, .refl M, .refl _ _ _ _, hn, hr, h⟩⟩
theorem awp_label {N n l : Nat} {I : List Nat} {M : Mem} {F : Fr} {H : Hp} {Q : Exit → Mem → Fr → Hp → Prop} (h : Q .normal M F H) : awp P N n I (.label l) M F H Q :=
  ⟨fun X e a w hr hn => wp_label ⟨M, e, F, H, .refl M, .refl _ _ _ _, hn, hr, h⟩⟩
theorem awp_ret {N n : Nat} {I : List Nat} {M : Mem} {F : Fr} {H : Hp} {Q : Exit → Mem → Fr → Hp → Prop} (h : Q .ret M F H) : awp P N n I .ret M F H Q :=
  ⟨fun X e a w hr hn => wp_ret ⟨M, e, F, H, .refl M, .refl _ _ _ _, hn, hr, h⟩⟩
theorem awp_exit {N n id : Nat} {I : List Nat} {M : Mem} {F : Fr} {H : Hp} {Q : Exit → Mem → Fr → Hp → Prop} (h : Q (.exit id) M F H) : awp P N n I (.exit id) M F H Q :=
  ⟨fun X e a w hr hn => wp_exit ⟨M, e, F, H, .refl M, .refl _ _ _ _, hn, hr, h⟩⟩

theorem awp_cond {N n : Nat} {I : List Nat} {c : Operand} {x y : Code} {M : Mem} {F : Fr} {H : Hp} {Q : Exit → Mem → Fr → Hp → Prop}
    (h : with1 F c fun v => match v with | .bool t => BSel t (awp P N n I x M F H Q) (awp P N n I y M F H Q) | _ => False) : awp P N n I (.cond c x y) M F H Q := by
  obtain ⟨v, hv, h⟩ := h
  cases v <;> try exact h.elim
  rename_i t
  refine ⟨fun X e a w hr hn => wp_cond (t := t) (by rw [opd_eval hr.fr hv]; simp) ?_⟩
  cases t with
  | true => exact ((BSel_true _ _).1 h).out X e a w hr hn
  | false => exact ((BSel_false _ _).1 h).out X e a w hr hn

theorem awp_block {N n id : Nat} {I : List Nat} {c : Code} {M : Mem} {F : Fr} {H : Hp} {Q : Exit → Mem → Fr → Hp → Prop}
    (h : awp P N n I c M F H fun z M' F' H' => match z with | .exit id' => if id' = id then Q .normal M' F' H' else Q (.exit id') M' F' H' | z => Q z M' F' H') : awp P N n I (.block id c) M F H Q := by
  refine ⟨fun X e a w hr hn => wp_block (wp_mono (h.out X e a w hr hn) ?_)⟩
  rintro z a' w' ⟨M', e', F', H', g1, g2, g3, g4, g5⟩
  cases z with
  | exit id' =>
    simp only [Exit.inBlock]
    by_cases hid : id' = id
    · rw [if_pos hid]; simp only [if_pos hid] at g5; exact ⟨M', e', F', H', g1, g2, g3, g4, g5⟩
    · rw [if_neg hid]; simp only [if_neg hid] at g5; exact ⟨M', e', F', H', g1, g2, g3, g4, g5⟩
  | _ => exact ⟨M', e', F', H', g1, g2, g3, g4, g5⟩

theorem awp_scope {N n : Nat} {I : List Nat} {c : Code} {M : Mem} {F : Fr} {H : Hp} {Q : Exit → Mem → Fr → Hp → Prop}
    (h : awp P N n I c M F H fun z M' F' H' => match z with | .goto _ => False | z => Q z M' F' H') : awp P N n I (.scope c) M F H Q := by
  refine ⟨fun X e a w hr hn => wp_scope_straight (wp_mono (h.out X e a w hr hn) ?_)⟩
  rintro z a' w' ⟨M', e', F', H', g1, g2, g3, g4, g5⟩
  cases z with
  | goto l => exact g5.elim
  | _ => exact ⟨M', e', F', H', g1, g2, g3, g4, g5⟩
end
end Go.Snb
