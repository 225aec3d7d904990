/- What is known said anew: rows frozen, labels otherwise. -/
import Derived.Test.YtlojmciaoecfjaaSnbN
set_option linter.all false
namespace Go.Snb
open Go
section
variable {P : Program}

theorem rv_simple0 (τ : Nat → Nat) {v : Value} (h : simple0 v = true) : rv τ v = v := by
  unfold simple0 at h
  split at h <;> first | (simp only [rv]; done) | cases h
theorem rvL_simple0 (τ : Nat → Nat) : ∀ {l : List Value}, l.all simple0 = true → rvL τ l = l
  | [], _ => rfl
  | v :: r, h => by simp only [List.all_cons, Bool.and_eq_true] at h; simp only [rvL]; rw [rv_simple0 τ h.1, rvL_simple0 τ h.2]
theorem rv_simple (τ : Nat → Nat) {v : Value} (h : simple v = true) : rv τ v = v := by
  unfold simple at h
  split at h
  · rename_i t cs; obtain ⟨l⟩ := cs; simp only [rv, rvV]; rw [rvL_simple0 τ h]
  · simp only [rv]; rw [rv_simple0 τ h]
  · exact rv_simple0 τ h
theorem rvL_simple (τ : Nat → Nat) : ∀ {l : List Value}, l.all simple = true → rvL τ l = l
  | [], _ => rfl
  | v :: r, h => by simp only [List.all_cons, Bool.and_eq_true] at h; simp only [rvL]; rw [rv_simple τ h.1, rvL_simple τ h.2]
theorem rv_flat (τ : Nat → Nat) {v : Value} (h : flat v = true) : rv τ v = v := by
  unfold flat at h
  split at h
  · rename_i cs; obtain ⟨l⟩ := cs; simp only [rv, rvV]; rw [rvL_simple τ h]
  · rename_i cs
    obtain ⟨l⟩ := cs
    simp only [rv, rvV]
    have : rvL τ l = l := by
      rw [rvL_map]
      have : l.map (rv τ) = l.map id := by
        apply List.map_congr_left
        intro v hv
        have h0 := List.all_eq_true.1 h v hv
        split at h0
        · rename_i ds; obtain ⟨d⟩ := ds; simp only [rv, rvV]; rw [rvL_simple τ h0]; rfl
        · exact rv_simple τ h0
      simpa using this
    rw [this]
  · exact rv_simple τ h

/-- A call that leaves all of ours alone, and tells a flat value: nothing else is known behind it. -/
theorem acalls.forget {f : FuncId} {args : List Value} {M : Mem} {H : Hp} {K0 K : Mem → Value → Hp → Prop} (h : acalls P f args M H [] K0)
    (hk : ∀ M' v H', M.le M' → K0 M' v H' → (∃ J, H' = H ++ J) ∧ flat v = true ∧ K M v H) : acalls P f args M H [] K := by
  refine ⟨fun X e w he hs => (h.out X e w he hs).mono ?_⟩
  rintro x w' ⟨M', e', v, H', g1, g2, g3, g4, g5, g6, g7⟩
  obtain ⟨⟨J, rfl⟩, hf, hk⟩ := hk M' v H' g1 g7
  exact ⟨M, e, v, H, .refl M, .refl _ _ _ _, Nat.le_refl _, by rw [g4, flat_cv e' hf, flat_cv e hf], g5.restrict g1 g2 he.scH (fun i cs hi => (he.rosc i cs hi).1) he.bn, Sc.flat hf _ _, hk⟩

/-- **A callee of numbers alone.** -/
theorem acalls.of_pure {f : FuncId} {args : List Value} {u : Value} {M : Mem} {H : Hp} {K : Mem → Value → Hp → Prop} (h : ∀ M, acalls P f args M [] [] fun _ v _ => v = u) (ha : args.all flat = true) (hu : flat u = true) (hk : K M u H) : acalls P f args M H [] K := by
  have h1 := (h M).lift (K := fun _ v H' => v = u ∧ ∃ J, H' = H ++ J) (H := H) [] rfl List.nodup_nil (by simp) (by simp) (.inl rfl) (by simp) (by
    rintro M' v0 H0' _ rfl
    exact ⟨rv_flat _ hu, _, rfl⟩)
  have e1 : args.map (rv (tauOf [] H.length)) = args := by
    have : args.map (rv (tauOf [] H.length)) = args.map id := List.map_congr_left fun v hv => rv_flat _ (List.all_eq_true.1 ha v hv)
    simpa using this
  rw [e1] at h1
  exact acalls.forget h1 fun M' v H' _ ⟨h2, h3⟩ => ⟨h3, by rw [h2]; exact hu, by rw [h2]; exact hk⟩

/-! ### What is known, said anew -/
structure Turn1 (n : Nat) (I : List Nat) (M : Mem) (vs : List Value) (H : Hp) (M2 : Mem) (vs2 : List Value) (H2 : Hp) (X : Fx) (e : Env) (w : World) (e2 : Env) : Prop where
  le : M.le M2
  agr : Agr n I M.next e e2
  len : n ≤ H2.length
  emb : Emb M2 X e2 H2 w
  sc : ∀ v ∈ vs2, Sc H2.length M2.next v
  eq : vs2.map (cv e2) = vs.map (cv e)
def Turn (n : Nat) (I : List Nat) (M : Mem) (vs : List Value) (H : Hp) (M2 : Mem) (vs2 : List Value) (H2 : Hp) : Prop :=
  ∀ X e w, Emb M X e H w → (∀ v ∈ vs, Sc H.length M.next v) → n ≤ H.length → ∃ e2, Turn1 n I M vs H M2 vs2 H2 X e w e2
theorem Turn.refl {n : Nat} {I : List Nat} {M : Mem} {vs : List Value} {H : Hp} : Turn n I M vs H M vs H :=
  fun _ e _ he hs hn => ⟨e, .refl M, .refl _ _ _ _, hn, he, hs, rfl⟩
theorem Turn.trans {n : Nat} {I : List Nat} {M M2 M3 : Mem} {vs vs2 vs3 : List Value} {H H2 H3 : Hp} (h : Turn n I M vs H M2 vs2 H2) (h' : Turn n I M2 vs2 H2 M3 vs3 H3) : Turn n I M vs H M3 vs3 H3 := by
  intro X e w he hs hn
  obtain ⟨e2, a⟩ := h X e w he hs hn
  obtain ⟨e3, b⟩ := h' X e2 w a.emb a.sc a.len
  exact ⟨e3, a.le.trans b.le, a.agr.trans b.agr (Nat.le_refl _) a.le.next, b.len, b.emb, b.sc, b.eq.trans a.eq⟩

def getsL (F : Fr) : List Nat → Option (List Value)
  | [] => some []
  | t :: r => match fget F t, getsL F r with
    | some v, some l => some (v :: l)
    | _, _ => none
theorem getsL_get {F : Fr} : ∀ {ts : List Nat} {vs : List Value}, getsL F ts = some vs → vs.length = ts.length ∧ ∀ (i : Nat) t v, ts[i]? = some t → vs[i]? = some v → fget F t = some v
  | [], vs, h => by simp [getsL] at h; subst h; simp
  | t :: r, vs, h => by
    simp only [getsL] at h
    split at h
    · rename_i v l hv hl
      cases h
      obtain ⟨h1, h2⟩ := getsL_get hl
      refine ⟨by simp [h1], fun i t' v' ht hv' => ?_⟩
      cases i with
      | zero => simp at ht hv'; subst ht; subst hv'; exact hv
      | succ i => exact h2 i t' v' (by simpa using ht) (by simpa using hv')
    · cases h
theorem fget_zip {ts : List Nat} : ∀ {vs : List Value} {t : Nat} {v : Value}, fget (ts.zip vs) t = some v → ∃ i : Nat, ts[i]? = some t ∧ vs[i]? = some v := by
  induction ts with
  | nil => intro vs t v h; simp [fget] at h
  | cons s r ih =>
    intro vs t v h
    cases vs with
    | nil => simp [fget] at h
    | cons u us =>
      simp only [List.zip_cons_cons, fget] at h
      split at h
      · rename_i hst; subst hst; cases h; exact ⟨0, rfl, rfl⟩
      · obtain ⟨i, h1, h2⟩ := ih h; exact ⟨i + 1, by simpa using h1, by simpa using h2⟩
/-- A frame and a heap said anew. -/
theorem Turn.weak {N n : Nat} {I : List Nat} {M M2 : Mem} {F : Fr} {H H2 : Hp} (ts : List Nat) {vs vs2 : List Value} (hg : getsL F ts = some vs) (h : Turn n I M vs H M2 vs2 H2) : Weak N n I M F H M2 (ts.zip vs2) H2 := by
  intro X e a w hr hn
  obtain ⟨h1, h2⟩ := getsL_get hg
  have hsc : ∀ v ∈ vs, Sc H.length M.next v := by
    intro v hv
    obtain ⟨i, hi, hiv⟩ := List.getElem_of_mem hv
    exact hr.sc ts[i] v (h2 i _ _ (List.getElem?_eq_getElem (by omega)) (by rw [List.getElem?_eq_getElem hi, hiv]))
  obtain ⟨e2, b⟩ := h X e w hr.emb hsc hn
  refine ⟨e2, b.le, b.agr, b.len, b.emb, ⟨hr.fr.defers, hr.fr.size, fun t v hv => ?_⟩, fun t v hv => ?_⟩
  · obtain ⟨i, ht, hv2⟩ := fget_zip hv
    have hm : (vs.map (cv e))[i]? = some (cv e2 v) := by rw [← b.eq, List.getElem?_map, hv2]; rfl
    rw [List.getElem?_map] at hm
    cases hu : vs[i]? with
    | none => rw [hu] at hm; cases hm
    | some u =>
      rw [hu] at hm
      simp at hm
      rw [hr.fr.get t u (h2 i t u ht hu), hm]
  · obtain ⟨i, ht, hv2⟩ := fget_zip hv
    exact b.sc v (List.mem_of_getElem? hv2)
/-- A call's end said anew. -/
theorem acalls.turn {f : FuncId} {args : List Value} {M : Mem} {H : Hp} {I : List Nat} {K0 K : Mem → Value → Hp → Prop} (h : acalls P f args M H I K0)
    (hk : ∀ M' v H', M.le M' → K0 M' v H' → ∃ M2 v2 H2, Turn H.length I M' [v] H' M2 [v2] H2 ∧ K M2 v2 H2) : acalls P f args M H I K := by
  refine ⟨fun X e w he hs => (h.out X e w he hs).mono ?_⟩
  rintro x w' ⟨M', e', v, H', g1, g2, g3, g4, g5, g6, g7⟩
  obtain ⟨M2, v2, H2, ht, hk⟩ := hk M' v H' g1 g7
  obtain ⟨e2, b⟩ := ht X e' w' g5 (by simpa using g6) g3
  refine ⟨M2, e2, v2, H2, g1.trans b.le, g2.trans b.agr (Nat.le_refl _) g1.next, b.len, ?_, b.emb, b.sc v2 (by simp), hk⟩
  have := b.eq
  simp at this
  rw [g4, this]
/-- A call's begin said anew. -/
theorem acalls.before {f : FuncId} {args args2 : List Value} {M M2 : Mem} {H H2 : Hp} {I : List Nat} {K : Mem → Value → Hp → Prop} (ht : Turn H.length I M args H M2 args2 H2) (hl : H.length ≤ H2.length) (h : acalls P f args2 M2 H2 I K) : acalls P f args M H I K := by
  refine ⟨fun X e w he hs => ?_⟩
  obtain ⟨e2, b⟩ := ht X e w he hs (Nat.le_refl _)
  have := h.out X e2 w b.emb b.sc
  rw [b.eq] at this
  refine this.mono ?_
  rintro x w' ⟨M', e', v, H', g1, g2, g3, g4, g5, g6, g7⟩
  exact ⟨M', e', v, H', b.le.trans g1, b.agr.trans (g2.mono hl (Nat.le_refl _)) (Nat.le_refl _) b.le.next, by omega, g4, g5, g6, g7⟩

/-! ### A row frozen -/
def Mem.frz (M : Mem) (cs : List Value) : Mem := ⟨M.w0, fun i => if i = M.next then some cs else M.ro i, M.next + 1, M.base⟩
@[simp] theorem Mem.frz_ro (M : Mem) (cs : List Value) : (M.frz cs).ro M.next = some cs := if_pos rfl
def Env.frz (e : Env) (id : Nat) (L : Loc) : Env := ⟨e.o, fun i => if i = id then L else e.f i⟩
theorem Env.frz_agr (e : Env) (id : Nat) (L : Loc) (n : Nat) (I : List Nat) : Agr n I id e (e.frz id L) := ⟨fun _ _ _ => rfl, fun i hi => by simp [Env.frz]; omega⟩
theorem Emb.frz {M : Mem} {X : Fx} {e : Env} {H : Hp} {w : World} (he : Emb M X e H w) {cs : List Value} {L : Loc} (hs : ∀ v ∈ cs, Sc 0 M.next v) (hr : rowAt e w L cs) (hX : L.nil = false → X L.blk = none)
    (hA : L.nil = false → ∀ (i : Nat) k, H[i]? = some (some k) → (e.o i).nil = false → L.blk ≠ (e.o i).blk) : Emb (M.frz cs) X (e.frz M.next L) H w := by
  have hag := fun n => Env.frz_agr e M.next L n []
  have hlt : ∀ i c, M.ro i = some c → i ≠ M.next := fun i c hi => by have := (he.rosc i c hi).1; omega
  have look : ∀ i c, (M.frz cs).ro i = some c → (i = M.next ∧ c = cs) ∨ (i ≠ M.next ∧ M.ro i = some c) := by
    intro i c hc
    simp only [Mem.frz] at hc
    split at hc
    · rename_i h; cases hc; exact .inl ⟨h, rfl⟩
    · rename_i h; exact .inr ⟨h, hc⟩
  have ef : ∀ i, i ≠ M.next → (e.frz M.next L).f i = e.f i := fun i hi => by simp [Env.frz, hi]
  have ef0 : (e.frz M.next L).f M.next = L := by simp [Env.frz]
  refine ⟨he.os, he.tape, he.output, he.size, he.fx, ?_, ?_, ?_, Nat.le_succ_of_le he.bn, ?_, he.apartX, ?_, he.inj, ?_⟩
  · intro i c hc
    rcases look i c hc with ⟨rfl, rfl⟩ | ⟨hi, hc⟩
    · rw [ef0]; exact hr.env hs (hag 0)
    · rw [ef i hi]; exact (he.ro i c hc).env (he.rosc i c hc).2 (hag 0)
  · intro i c hc
    rcases look i c hc with ⟨rfl, rfl⟩ | ⟨hi, hc⟩
    · exact ⟨Nat.lt_succ_self _, fun v hv => (hs v hv).mono (Nat.le_refl _) (Nat.le_succ _)⟩
    · exact ⟨Nat.lt_succ_of_lt (he.rosc i c hc).1, fun v hv => ((he.rosc i c hc).2 v hv).mono (Nat.le_refl _) (Nat.le_succ _)⟩
  · intro i c hc hn
    rcases look i c hc with ⟨rfl, rfl⟩ | ⟨hi, hc⟩
    · rw [ef0] at hn ⊢; exact .inl (hX hn)
    · rw [ef i hi] at hn ⊢; exact he.apartF i c hc hn
  · intro i k hi
    exact (he.own i k hi).env (he.sc i k hi) (hag _)
  · intro i k hi hn j c hc hjn
    rcases look j c hc with ⟨rfl, rfl⟩ | ⟨hj, hc⟩
    · rw [ef0] at hjn ⊢; exact hA hjn i k hi hn
    · rw [ef j hj] at hjn ⊢; exact he.apartR i k hi hn j c hc hjn
  · intro i k hi; exact (he.sc i k hi).mono (Nat.le_refl _) (Nat.le_succ _)

/-- A value, or what stands for it. -/
def Rp (u u' v v' : Value) : Prop := v' = v ∨ (v = u ∧ v' = u')
inductive RpL (u u' : Value) : List Value → List Value → Prop
  | refl (l : List Value) : RpL u u' l l
  | cons {v v' : Value} {l l' : List Value} (h : Rp u u' v v') (hl : RpL u u' l l') : RpL u u' (v :: l) (v' :: l')
  | app {a a' b b' : List Value} (ha : RpL u u' a a') (hb : RpL u u' b b') : RpL u u' (a ++ b) (a' ++ b')
theorem RpL.map {u u' : Value} {e e2 : Env} (hu : cv e2 u' = cv e u) {n m : Nat} (ha : Agr n [] m e e2) : ∀ {l l' : List Value}, RpL u u' l l' → (∀ v ∈ l, Sc n m v) → l'.map (cv e2) = l.map (cv e)
  | _, _, .refl l, hs => List.map_congr_left fun v hv => ((hs v hv) e e2 ha).symm
  | _, _, .cons (v := v) h hl, hs => by
    simp only [List.map_cons]
    rw [RpL.map hu ha hl fun v hv => hs v (by simp [hv])]
    rcases h with rfl | ⟨rfl, rfl⟩
    · rw [hs _ (by simp) e e2 ha]
    · rw [hu]
  | _, _, .app h1 h2, hs => by
    rw [List.map_append, List.map_append, RpL.map hu ha h1 fun v hv => hs v (by simp [hv]), RpL.map hu ha h2 fun v hv => hs v (by simp [hv])]
theorem RpL.all {u u' : Value} {p : Value → Prop} (hu : p u') : ∀ {l l' : List Value}, RpL u u' l l' → (∀ v ∈ l, p v) → ∀ v ∈ l', p v
  | _, _, .refl l, hs => hs
  | _, _, .cons h hl, hs => by
    intro v hv
    rcases List.mem_cons.1 hv with rfl | hv
    · rcases h with rfl | ⟨rfl, rfl⟩
      · exact hs _ (by simp)
      · exact hu
    · exact RpL.all hu hl (fun v hv => hs v (by simp [hv])) v hv
  | _, _, .app h1 h2, hs => by
    intro v hv
    rcases List.mem_append.1 hv with hv | hv
    · exact RpL.all hu h1 (fun v hv => hs v (by simp [hv])) v hv
    · exact RpL.all hu h2 (fun v hv => hs v (by simp [hv])) v hv
/-- A heap whose cells hold what stands for a value. -/
inductive RpH (u u' : Value) : Hp → Hp → Prop
  | refl (H : Hp) : RpH u u' H H
  | cons (b : Option Blk) {H H' : Hp} (h : RpH u u' H H') : RpH u u' (b :: H) (b :: H')
  | drop (b : Option Blk) {H H' : Hp} (h : RpH u u' H H') : RpH u u' (b :: H) (none :: H')
  | cells {cs cs' : List Value} {z : Nat} {H H' : Hp} (hc : RpL u u' cs cs') (h : RpH u u' H H') : RpH u u' (some (.cells cs z) :: H) (some (.cells cs' z) :: H')
theorem RpH.length {u u' : Value} : ∀ {H H' : Hp}, RpH u u' H H' → H'.length = H.length
  | _, _, .refl _ => rfl
  | _, _, .cons _ h => by simp [RpH.length h]
  | _, _, .drop _ h => by simp [RpH.length h]
  | _, _, .cells _ h => by simp [RpH.length h]
theorem RpH.look {u u' : Value} : ∀ {H H' : Hp}, RpH u u' H H' → ∀ {i : Nat} {k' : Blk}, H'[i]? = some (some k') → H[i]? = some (some k') ∨ ∃ cs cs' z, k' = .cells cs' z ∧ H[i]? = some (some (.cells cs z)) ∧ RpL u u' cs cs'
  | _, _, .refl _, i, k', h => .inl h
  | _, _, .cons b hh, i, k', h => by
    cases i with
    | zero => exact .inl (by simpa using h)
    | succ i => simpa using RpH.look hh (i := i) (by simpa using h)
  | _, _, .drop b hh, i, k', h => by
    cases i with
    | zero => simp at h
    | succ i => simpa using RpH.look hh (i := i) (by simpa using h)
  | _, _, .cells (cs := cs) (cs' := cs') (z := z) hc hh, i, k', h => by
    cases i with
    | zero => simp at h; exact .inr ⟨cs, cs', z, h.symm, by simp, hc⟩
    | succ i => simpa using RpH.look hh (i := i) (by simpa using h)
theorem Emb.rp {M : Mem} {X : Fx} {e : Env} {H H2 : Hp} {w : World} (he : Emb M X e H w) {u u' : Value} (hu : cv e u' = cv e u) (hus : Sc H.length M.next u') (h : RpH u u' H H2) : Emb M X e H2 w := by
  have hl := h.length
  have any : ∀ (i : Nat) k, H2[i]? = some (some k) → ∃ k0, H[i]? = some (some k0) := by
    intro i k hi
    rcases h.look hi with h1 | ⟨cs, cs', z, _, h1, _⟩
    · exact ⟨_, h1⟩
    · exact ⟨_, h1⟩
  refine ⟨he.os, he.tape, he.output, he.size, he.fx, he.ro, he.rosc, he.apartF, he.bn, ?_, ?_, ?_, ?_, ?_⟩
  · intro i k hi
    rcases h.look hi with h1 | ⟨cs, cs', z, rfl, h1, hc⟩
    · exact he.own i k h1
    · have hm := RpL.map (e := e) (e2 := e) hu (.refl H.length [] M.next e) hc (he.sc i _ h1)
      rcases he.own i _ h1 with ⟨h2, h3, h4, h5⟩ | ⟨h2, h3, h4, h5⟩
      · subst h3
        exact .inl ⟨h2, by simpa using hm, h4, h5⟩
      · exact .inr ⟨h2, h3, h4, h5.iff_map hm⟩
  · intro i k hi; obtain ⟨k0, h0⟩ := any i k hi; exact he.apartX i k0 h0
  · intro i k hi; obtain ⟨k0, h0⟩ := any i k hi; exact he.apartR i k0 h0
  · intro i j ki kj hi hj
    obtain ⟨k0, h0⟩ := any i ki hi
    obtain ⟨k1, h1⟩ := any j kj hj
    exact he.inj i j k0 k1 h0 h1
  · intro i k hi
    rw [hl]
    rcases h.look hi with h1 | ⟨cs, cs', z, rfl, h1, hc⟩
    · exact he.sc i k h1
    · exact hc.all hus (he.sc i _ h1)

/-- The row's place of a slice. -/
def sliceLoc (e : Env) (b : Option Addr) (n c : Nat) : Loc :=
  match b with
  | none => ⟨0, 0, 0, true⟩
  | some a => if (locOf e a).nil = true then ⟨0, 0, 0, true⟩ else ⟨(adr e a).block, (adr e a).off, c + moreOf e a - n, false⟩
/-- The cells of a slice that is ours, or nil. -/
def ownRow (H : Hp) (b : Option Addr) (n c sz : Nat) (content : List Value) : Prop :=
  0 < sz ∧ match b with
  | none => n = 0 ∧ c = 0 ∧ content = []
  | some a => (a.spot = none ∨ a.spot = some 1) ∧ ∃ cs z, H[a.block]? = some (some (.cells cs z)) ∧ (z = 0 ∨ z = sz) ∧ n ≤ c ∧ a.off + c * sz ≤ cs.length ∧ (a.spot = none → z ≠ 0 → a.off + c * sz = cs.length) ∧ content = (cs.drop a.off).take (n * sz)
theorem own_at {M : Mem} {X : Fx} {e : Env} {H : Hp} {w : World} (he : Emb M X e H w) {b : Option Addr} {n c sz : Nat} {content : List Value} (h : ownRow H b n c sz content) :
    (.cells content sz : Blk).at e w (sliceLoc e b n c) ∧ rowAt e w (sliceLoc e b n c) content ∧ ((sliceLoc e b n c).nil = false → ∃ a, b = some a ∧ (sliceLoc e b n c).blk = (e.o a.block).blk ∧ (e.o a.block).nil = false) ∧
      (∀ v ∈ content, Sc H.length M.next v) ∧ cv e (.slice b n c) = .slice (if (sliceLoc e b n c).nil = true then none else some ⟨(sliceLoc e b n c).blk, (sliceLoc e b n c).base, none⟩) n (n + (sliceLoc e b n c).more) := by
  obtain ⟨hsz, h⟩ := h
  cases b with
  | none =>
    obtain ⟨rfl, rfl, rfl⟩ := h
    exact ⟨.inl ⟨rfl, rfl, rfl, by omega⟩, .inl ⟨rfl, rfl, rfl⟩, by simp [sliceLoc], by simp, by simp [sliceLoc]⟩
  | some a =>
    obtain ⟨l, o, s⟩ := a
    obtain ⟨hs, cs, z, hl, hz, hnc, hc, hcs, rfl⟩ := h
    simp only at hs hl hc hcs
    have hrow : rowOf M H ⟨l, o, s⟩ = some cs := by rcases hs with rfl | rfl <;> simp [rowOf, hl]
    have hloc : locOf e ⟨l, o, s⟩ = e.o l := by rcases hs with rfl | rfl <;> rfl
    have hadr : adr e ⟨l, o, s⟩ = ⟨(e.o l).blk, (e.o l).base + o, none⟩ := by rcases hs with rfl | rfl <;> rfl
    have hncs : n * sz ≤ c * sz := Nat.mul_le_mul_right _ hnc
    have hsc : ∀ v ∈ (cs.drop o).take (n * sz), Sc H.length M.next v := fun v hv => he.sc l _ hl v (List.mem_of_mem_drop (List.mem_of_mem_take hv))
    cases hnil : (e.o l).nil with
    | true =>
      have hce := rowOf_nil he hrow (by rw [hloc]; exact hnil)
      subst hce
      have hc0 : c = 0 := by
        simp only [List.length_nil] at hc
        have : c * sz = 0 := by omega
        rcases Nat.mul_eq_zero.1 this with h | h <;> omega
      have hm0 : moreOf e ⟨l, o, s⟩ = 0 := by
        rcases he.own l _ hl with ⟨_, _, h, _⟩ | ⟨h, _⟩
        · rcases hs with rfl | rfl
          · exact h
          · rfl
        · rw [hnil] at h; cases h
      have hn0 : n = 0 := by omega
      have hL : sliceLoc e (some ⟨l, o, s⟩) n c = ⟨0, 0, 0, true⟩ := by simp [sliceLoc, hloc, hnil]
      rw [hL]
      subst hn0
      subst hc0
      exact ⟨.inl ⟨rfl, by simp, rfl, by omega⟩, .inl ⟨rfl, by simp, rfl⟩, by simp, hsc, by simp [slV, hloc, hnil, hm0]⟩
    | false =>
      have hL : sliceLoc e (some ⟨l, o, s⟩) n c = ⟨(e.o l).blk, (e.o l).base + o, c + moreOf e ⟨l, o, s⟩ - n, false⟩ := by simp [sliceLoc, hloc, hnil, hadr]
      rw [hL]
      rcases he.own l _ hl with ⟨h2, _⟩ | ⟨_, hz0, ⟨arr, T, ha⟩, arr2, T2, f2, ha2, hsize, hget⟩
      · rw [hnil] at h2; cases h2
      rw [ha] at ha2
      obtain ⟨rfl, rfl, rfl⟩ : arr = arr2 ∧ T = T2 ∧ (0, 0) = f2 := by simpa using ha2
      have hroom : o + (c + moreOf e ⟨l, o, s⟩) * sz ≤ cs.length + (e.o l).more * z := by
        simp only [moreOf]
        rcases hs with rfl | rfl
        · simp only
          rcases hz with rfl | rfl
          · rw [hz0 rfl]; simpa using hc
          · have := hcs rfl (by omega)
            rw [Nat.add_mul]; omega
        · simp only [Nat.add_zero]; omega
      have hlen : ((cs.drop o).take (n * sz)).length = n * sz := by simp; omega
      have hcells : ∀ room, n * sz + room ≤ (c + moreOf e ⟨l, o, s⟩) * sz → cellsAt e w ⟨(e.o l).blk, (e.o l).base + o, c + moreOf e ⟨l, o, s⟩ - n, false⟩ ((cs.drop o).take (n * sz)) room := by
        intro room hr
        refine ⟨arr, T, (0, 0), ha, by rw [hlen]; simp only; omega, fun j v hj => ?_⟩
        rw [List.getElem?_take] at hj
        split at hj
        · rw [List.getElem?_drop] at hj
          have := hget _ _ hj
          rwa [show (e.o l).base + (o + j) = (e.o l).base + o + j by omega] at this
        · cases hj
      refine ⟨.inr ⟨rfl, fun h0 => by omega, ⟨arr, T, ha⟩, hcells _ ?_⟩, .inr ⟨rfl, hcells _ ?_⟩, fun _ => ⟨_, rfl, rfl, hnil⟩, hsc, ?_⟩
      · simp only [Nat.sub_mul]; rw [Nat.add_mul] at *; omega
      · rw [Nat.add_mul]; omega
      · simp only [cv_slice, slV, hloc, hnil, hadr, Bool.false_eq_true, if_false]
        congr 1
        omega

def dropB (H : Hp) (b : Option Addr) : Hp := match b with | some a => H.set a.block none | none => H
/-- **A slice of ours is frozen.** -/
theorem Turn.frz {n : Nat} {I : List Nat} {M : Mem} {vs vs2 : List Value} {H H2 : Hp} {b : Option Addr} {k c sz : Nat} {content : List Value} (h : ownRow H b k c sz content) (hc : ∀ v ∈ content, Sc 0 M.next v)
    (hv : RpL (.slice b k c) (.slice (some ⟨M.next, 0, some 0⟩) k k) vs vs2) (hH : RpH (.slice b k c) (.slice (some ⟨M.next, 0, some 0⟩) k k) (dropB H b) H2) : Turn n I M vs H (M.frz content) vs2 H2 := by
  intro X e w he hs hn
  obtain ⟨_, h2, h3, h4, h5⟩ := own_at he h
  generalize hL : sliceLoc e b k c = L at *
  have hdl : (dropB H b).length = H.length := by cases b <;> simp [dropB]
  have hd : Emb M X e (dropB H b) w := by
    cases b with
    | none => exact he
    | some a => exact he.drop a.block
  have key : L.nil = false → ∃ a k0, b = some a ∧ H[a.block]? = some (some k0) ∧ L.blk = (e.o a.block).blk ∧ (e.o a.block).nil = false := by
    intro hn
    obtain ⟨a, rfl, h6, h7⟩ := h3 hn
    obtain ⟨_, _, cs, z, hl, _⟩ := h
    exact ⟨a, _, rfl, hl, h6, h7⟩
  have hf := hd.frz (L := L) hc h2 (fun hn => by
    obtain ⟨a, k0, rfl, h6, h7, h8⟩ := key hn
    rw [h7]; exact he.apartX _ _ h6 h8) (fun hn i k hi hin => by
    obtain ⟨a, k0, rfl, h6, h7, h8⟩ := key hn
    rw [h7]
    rcases look_set hi with ⟨hne, hi'⟩ | ⟨_, h, _⟩
    · intro hb; exact hne (he.inj _ _ _ _ h6 hi' h8 hin hb).symm
    · cases h)
  have hcu : cv (e.frz M.next L) (.slice (some ⟨M.next, 0, some 0⟩) k k) = cv e (.slice b k c) := by
    rw [h5]
    simp only [cv_slice, slV, locOf, adr, moreOf, Env.frz, if_pos, Nat.add_zero]
  have hcu2 : cv (e.frz M.next L) (.slice b k c) = cv e (.slice b k c) := by
    cases b with
    | none => simp
    | some a =>
      obtain ⟨_, hs1, _⟩ := h
      obtain ⟨bl, o, s⟩ := a
      rcases hs1 with rfl | rfl <;> (simp only [cv_slice, slV, locOf, adr, moreOf, Env.frz]; try rfl)
  have hsu : ∀ n', Sc n' (M.next + 1) (.slice (some ⟨M.next, 0, some 0⟩) k k) := fun n' => Sc_row (Nat.lt_succ_self _)
  refine ⟨e.frz M.next L, ⟨rfl, Nat.le_succ _, fun i cs hi => ?_, rfl, fun i hi => by simp only [Mem.frz]; rw [if_neg (by omega)]⟩, Env.frz_agr e M.next L n I, by rw [hH.length, hdl]; exact hn, hf.rp (hcu.trans hcu2.symm) (hsu _) hH, ?_, ?_⟩
  · have := (he.rosc i cs hi).1
    simp only [Mem.frz]
    rw [if_neg (by omega)]; exact hi
  · rw [hH.length, hdl]
    exact hv.all (hsu _) fun v hv => (hs v hv).mono (Nat.le_refl _) (Nat.le_succ _)
  · exact hv.map hcu (Env.frz_agr e M.next L H.length []) hs

/-! ### Labels anew -/
/-- Where a label comes from: another one, or a slice of ours. -/
inductive Src where
  | lab (l : Nat)
  | row (b : Option Addr) (n c sz : Nat)
def Src.loc (e : Env) : Src → Loc
  | .lab l => e.o l
  | .row b n c _ => sliceLoc e b n c
def Src.lbl : Src → Option Nat
  | .lab l => some l
  | .row (some a) _ _ _ => some a.block
  | .row none _ _ _ => none
def envS (e : Env) (S : List Src) : Env := ⟨fun j => match S[j]? with | some s => s.loc e | none => ⟨0, 0, 0, false⟩, e.f⟩

mutual
/-- A value over the new labels, over the old ones. -/
def tr (S : List Src) : Value → Value
  | .pointer (some a) => .pointer (some (match a.spot with
    | none => (match S[a.block]? with | some (.lab l) => ⟨l, a.off, none⟩ | _ => a)
    | some 1 => (match S[a.block]? with | some (.lab l) => ⟨l, a.off, some 1⟩ | _ => a)
    | _ => a))
  | .slice (some a) n c => (match a.spot with
    | none => (match S[a.block]? with | some (.lab l) => .slice (some ⟨l, a.off, none⟩) n c | some (.row b m k _) => .slice b m k | none => .slice (some a) n c)
    | some 1 => (match S[a.block]? with | some (.lab l) => .slice (some ⟨l, a.off, some 1⟩) n c | _ => .slice (some a) n c)
    | _ => .slice (some a) n c)
  | .map (some r) => .map (some (match S[r]? with | some (.lab l) => l | _ => r))
  | .func f x y => .func f (trV S x) (trV S y)
  | .iface t v => .iface t (tr S v)
  | .agg cs => .agg (trV S cs)
  | .tuple cs => .tuple (trV S cs)
  | .bool b => .bool b
  | .int k n => .int k n
  | .float k b => .float k b
  | .complex k a b => .complex k a b
  | .string s => .string s
  | .pointer none => .pointer none
  | .slice none n c => .slice none n c
  | .map none => .map none
  | .chan r => .chan r
  | .nilFunc => .nilFunc
  | .nilIface => .nilIface
def trV (S : List Src) : Array Value → Array Value
  | ⟨l⟩ => ⟨trL S l⟩
def trL (S : List Src) : List Value → List Value
  | [] => []
  | v :: r => tr S v :: trL S r
end
mutual
/-- May it be said so? -/
def okT (S : List Src) : Value → Bool
  | .pointer (some a) => (match a.spot with
    | none => (match S[a.block]? with | some (.lab _) => true | _ => false)
    | some 1 => (match S[a.block]? with | some (.lab _) => true | _ => false)
    | _ => true)
  | .slice (some a) n c => (match a.spot with
    | none => (match S[a.block]? with | some (.lab _) => true | some (.row _ m _ _) => a.off == 0 && n == m && c == m | none => false)
    | some 1 => (match S[a.block]? with | some (.lab _) => true | _ => false)
    | _ => true)
  | .map (some r) => (match S[r]? with | some (.lab _) => true | _ => false)
  | .func _ x y => okV S x && okV S y
  | .iface _ v => okT S v
  | .agg cs => okV S cs
  | .tuple cs => okV S cs
  | .bool _ => true
  | .int _ _ => true
  | .float _ _ => true
  | .complex _ _ _ => true
  | .string _ => true
  | .pointer none => true
  | .slice none _ _ => true
  | .map none => true
  | .chan _ => true
  | .nilFunc => true
  | .nilIface => true
def okV (S : List Src) : Array Value → Bool
  | ⟨l⟩ => okL S l
def okL (S : List Src) : List Value → Bool
  | [] => true
  | v :: r => okT S v && okL S r
end
/-- The slices that labels come from are in order. -/
def rowsOk (e : Env) (S : List Src) : Prop := ∀ (j : Nat) b n c sz, S[j]? = some (.row b n c sz) → cv e (.slice b n c) = .slice (if (sliceLoc e b n c).nil = true then none else some ⟨(sliceLoc e b n c).blk, (sliceLoc e b n c).base, none⟩) n (n + (sliceLoc e b n c).more)
theorem envS_o {e : Env} {S : List Src} {j : Nat} {s : Src} (h : S[j]? = some s) : (envS e S).o j = s.loc e := by simp [envS, h]
mutual
theorem cv_tr {e : Env} {S : List Src} (hr : rowsOk e S) : ∀ v : Value, okT S v = true → cv (envS e S) v = cv e (tr S v)
  | .pointer (some a), h => by
    obtain ⟨b, o, s⟩ := a
    simp only [okT] at h
    simp only [tr, cv]
    match s with
    | none => simp only at h ⊢; split at h <;> simp_all [adr, envS_o, Src.loc]
    | some 0 => rfl
    | some 1 => simp only at h ⊢; split at h <;> simp_all [adr, envS_o, Src.loc]
    | some 2 => rfl
    | some 3 => rfl
    | some (s + 4) => rfl
  | .slice (some a) n c, h => by
    obtain ⟨b, o, s⟩ := a
    simp only [okT] at h
    match s with
    | none =>
      simp only at h
      split at h
      · rename_i l hl; simp only [tr, hl, cv_slice, slV, locOf, adr, moreOf, envS_o hl, Src.loc]; rfl
      · rename_i b' m k sz hl
        simp only [Bool.and_eq_true, beq_iff_eq] at h
        obtain ⟨⟨rfl, rfl⟩, rfl⟩ := h
        simp only [tr, hl]
        rw [hr b b' _ k sz hl]
        simp only [cv_slice, slV, locOf, adr, moreOf, envS_o hl, Src.loc, Nat.add_zero]
      · cases h
    | some 0 => rfl
    | some 1 =>
      simp only at h
      split at h
      · rename_i l hl; simp only [tr, hl, cv_slice, slV, locOf, adr, moreOf, envS_o hl, Src.loc]
      · cases h
    | some 2 => rfl
    | some (s + 3) => cases s <;> rfl
  | .map (some r), h => by
    simp only [okT] at h
    simp only [tr, cv]
    split at h
    · rename_i l hl; simp [hl, envS_o hl, Src.loc]
    · cases h
  | .func f x y, h => by simp only [okT, Bool.and_eq_true] at h; simp only [tr, cv]; rw [cvV_tr hr x h.1, cvV_tr hr y h.2]
  | .iface t v, h => by simp only [okT] at h; simp only [tr, cv]; rw [cv_tr hr v h]
  | .agg cs, h => by simp only [okT] at h; simp only [tr, cv]; rw [cvV_tr hr cs h]
  | .tuple cs, h => by simp only [okT] at h; simp only [tr, cv]; rw [cvV_tr hr cs h]
  | .bool b, _ => by simp only [tr, cv]
  | .int k n, _ => by simp only [tr, cv]
  | .float k b, _ => by simp only [tr, cv]
  | .complex k a b, _ => by simp only [tr, cv]
  | .string s, _ => by simp only [tr, cv]
  | .pointer none, _ => by simp only [tr, cv]
  | .slice none n c, _ => by simp only [tr, cv]
  | .map none, _ => by simp only [tr, cv]
  | .chan r, _ => by simp only [tr, cv]
  | .nilFunc, _ => by simp only [tr, cv]
  | .nilIface, _ => by simp only [tr, cv]
theorem cvV_tr {e : Env} {S : List Src} (hr : rowsOk e S) : ∀ v : Array Value, okV S v = true → cvA (envS e S) v = cvA e (trV S v)
  | ⟨l⟩, h => by simp only [okV] at h; simp only [trV, cvA]; rw [cvL_tr hr l h]
theorem cvL_tr {e : Env} {S : List Src} (hr : rowsOk e S) : ∀ v : List Value, okL S v = true → cvL (envS e S) v = cvL e (trL S v)
  | [], _ => by simp only [trL, cvL]
  | v :: r, h => by simp only [okL, Bool.and_eq_true] at h; simp only [trL, cvL]; rw [cv_tr hr v h.1, cvL_tr hr r h.2]
end
mutual
theorem sc_tr {S : List Src} {n m : Nat} : ∀ v : Value, okT S v = true → Sc n m (tr S v) → Sc S.length m v
  | .pointer (some a), h, hs => by
    obtain ⟨b, o, s⟩ := a
    simp only [okT] at h
    refine Sc_pin.2 ?_
    match s with
    | none =>
      simp only at h
      split at h
      · rename_i l hl; exact (List.getElem?_eq_some_iff.1 hl).1
      · cases h
    | some 0 => exact (Sc_pin.1 (show Sc n m (.pointer (some ⟨b, o, some 0⟩)) from hs) : inS n m ⟨b, o, some 0⟩)
    | some 1 =>
      simp only at h
      split at h
      · rename_i l hl; exact (List.getElem?_eq_some_iff.1 hl).1
      · cases h
    | some 2 => exact (Sc_pin.1 (show Sc n m (.pointer (some ⟨b, o, some 2⟩)) from hs) : inS n m ⟨b, o, some 2⟩)
    | some (s + 3) => exact trivial
  | .slice (some a) k c, h, hs => by
    obtain ⟨b, o, s⟩ := a
    simp only [okT] at h
    refine Sc_slice.2 ?_
    match s with
    | none =>
      simp only at h
      split at h
      · rename_i l hl; exact (List.getElem?_eq_some_iff.1 hl).1
      · rename_i hl; exact (List.getElem?_eq_some_iff.1 hl).1
      · cases h
    | some 0 => exact (Sc_slice.1 (show Sc n m (.slice (some ⟨b, o, some 0⟩) k c) from hs) : inS n m ⟨b, o, some 0⟩)
    | some 1 =>
      simp only at h
      split at h
      · rename_i l hl; exact (List.getElem?_eq_some_iff.1 hl).1
      · cases h
    | some 2 => exact (Sc_slice.1 (show Sc n m (.slice (some ⟨b, o, some 2⟩) k c) from hs) : inS n m ⟨b, o, some 2⟩)
    | some (s + 3) => exact trivial
  | .map (some r), h, hs => by
    simp only [okT] at h
    split at h
    · rename_i hl; exact Sc_mapv (List.getElem?_eq_some_iff.1 hl).1
    · cases h
  | .func f x y, h, hs => by
    simp only [okT, Bool.and_eq_true] at h
    simp only [tr] at hs
    have := Sc_func.1 hs
    exact Sc_func.2 ⟨scV_tr x h.1 this.1, scV_tr y h.2 this.2⟩
  | .iface t v, h, hs => by simp only [okT] at h; exact Sc_iface.2 (sc_tr v h (Sc_iface.1 (by simpa only [tr] using hs)))
  | .agg cs, h, hs => by simp only [okT] at h; exact Sc_agg.2 (scV_tr cs h (Sc_agg.1 (by simpa only [tr] using hs)))
  | .tuple cs, h, hs => by simp only [okT] at h; exact Sc_tuple.2 (scV_tr cs h (Sc_tuple.1 (by simpa only [tr] using hs)))
  | .bool b, _, _ => Sc.flat rfl _ _
  | .int k n, _, _ => Sc.flat rfl _ _
  | .float k b, _, _ => fun _ _ _ => by simp only [cv]
  | .complex k a b, _, _ => fun _ _ _ => by simp only [cv]
  | .string s, _, _ => Sc.flat rfl _ _
  | .pointer none, _, _ => Sc.flat rfl _ _
  | .slice none n c, _, _ => Sc.flat rfl _ _
  | .map none, _, _ => Sc.flat rfl _ _
  | .chan r, _, _ => fun _ _ _ => by simp only [cv]
  | .nilFunc, _, _ => Sc.flat rfl _ _
  | .nilIface, _, _ => Sc.flat rfl _ _
theorem scV_tr {S : List Src} {n m : Nat} : ∀ x : Array Value, okV S x = true → (∀ v ∈ (trV S x).toList, Sc n m v) → ∀ v ∈ x.toList, Sc S.length m v
  | ⟨l⟩, h, hs => by simp only [okV] at h; exact scL_tr l h (by simpa only [trV] using hs)
theorem scL_tr {S : List Src} {n m : Nat} : ∀ l : List Value, okL S l = true → (∀ v ∈ trL S l, Sc n m v) → ∀ v ∈ l, Sc S.length m v
  | [], _, _ => by intro v hv; cases hv
  | u :: r, h, hs => by
    simp only [okL, Bool.and_eq_true] at h
    simp only [trL] at hs
    have h1 := sc_tr (n := n) (m := m) u h.1 (hs _ (by simp))
    have h2 := scL_tr (n := n) (m := m) r h.2 (fun v hv => hs v (by simp [hv]))
    intro v hv
    rcases List.mem_cons.1 hv with hvu | hv
    · rw [hvu]; exact h1
    · exact h2 v hv
end
theorem map_tr {e : Env} {S : List Src} (hr : rowsOk e S) {cs : List Value} (h : okL S cs = true) : cs.map (cv (envS e S)) = (trL S cs).map (cv e) := by
  rw [← cvL_map, ← cvL_map, cvL_tr hr cs h]

def Blk.tr (S : List Src) : Blk → Blk
  | .cells cs z => .cells (trL S cs) z
  | .map es c => .map (es.map fun x => ⟨Snb.tr S x.key, Snb.tr S x.val, x.born⟩) c
def Blk.okT (S : List Src) : Blk → Bool
  | .cells cs _ => okL S cs
  | .map es _ => es.all fun x => Snb.okT S x.key && Snb.okT S x.val
/-- The new heap's blocks are the old one's. -/
def renOk (S : List Src) (H : Hp) : List Src → Hp → Prop
  | [], [] => True
  | _ :: r, none :: H2 => renOk S H r H2
  | .lab l :: r, some b :: H2 => (b.okT S = true ∧ H[l]? = some (some (b.tr S))) ∧ renOk S H r H2
  | .row b n c sz :: r, some k :: H2 => (∃ cs, k = .cells cs sz ∧ okL S cs = true ∧ ownRow H b n c sz (trL S cs)) ∧ renOk S H r H2
  | _, _ => False
theorem renOk_len {S : List Src} {H : Hp} : ∀ {r : List Src} {H2 : Hp}, renOk S H r H2 → H2.length = r.length
  | [], [], _ => rfl
  | _ :: r, none :: H2, h => by simp only [renOk] at h; simp [renOk_len h]
  | .lab l :: r, some b :: H2, h => by simp [renOk_len h.2]
  | .row _ _ _ _ :: r, some k :: H2, h => by simp [renOk_len h.2]
  | [], _ :: _, h => by simp [renOk] at h
  | .lab l :: r, [], h => by simp [renOk] at h
  | .row _ _ _ _ :: r, [], h => by simp [renOk] at h
theorem renOk_at {S : List Src} {H : Hp} : ∀ {r : List Src} {H2 : Hp}, renOk S H r H2 → ∀ (j : Nat) s b, r[j]? = some s → H2[j]? = some (some b) →
    (∃ l, s = .lab l ∧ b.okT S = true ∧ H[l]? = some (some (b.tr S))) ∨ ∃ a n c sz cs, s = .row a n c sz ∧ b = .cells cs sz ∧ okL S cs = true ∧ ownRow H a n c sz (trL S cs)
  | [], [], _, j, s, b, hs, _ => by simp at hs
  | x :: r, none :: H2, h, j, s, b, hs, hb => by
    simp only [renOk] at h
    cases j with
    | zero => simp at hb
    | succ j => exact renOk_at h j s b (by simpa using hs) (by simpa using hb)
  | .lab l :: r, some k :: H2, h, j, s, b, hs, hb => by
    cases j with
    | zero => simp at hs hb; subst hs; subst hb; exact .inl ⟨l, rfl, h.1⟩
    | succ j => exact renOk_at h.2 j s b (by simpa using hs) (by simpa using hb)
  | .row a n c sz :: r, some k :: H2, h, j, s, b, hs, hb => by
    cases j with
    | zero => simp at hs hb; subst hs; subst hb; obtain ⟨⟨cs, h1⟩, _⟩ := h; exact .inr ⟨a, n, c, sz, cs, rfl, h1⟩
    | succ j => exact renOk_at h.2 j s b (by simpa using hs) (by simpa using hb)
  | [], _ :: _, h, _, _, _, _, _ => by simp [renOk] at h
  | .lab l :: r, [], h, _, _, _, _, _ => by simp [renOk] at h
  | .row _ _ _ _ :: r, [], h, _, _, _, _, _ => by simp [renOk] at h
/-- Rows that no block is told of are in order, too. -/
def rowsIn (H : Hp) : List Src → Prop
  | [] => True
  | .lab _ :: r => rowsIn H r
  | .row b n c sz :: r => (∃ content, ownRow H b n c sz content) ∧ rowsIn H r
theorem rowsIn_at {H : Hp} : ∀ {S : List Src}, rowsIn H S → ∀ (j : Nat) b n c sz, S[j]? = some (.row b n c sz) → ∃ content, ownRow H b n c sz content
  | [], _, j, _, _, _, _, h => by simp at h
  | .lab _ :: r, hr, j, b, n, c, sz, h => by
    cases j with
    | zero => simp at h
    | succ j => exact rowsIn_at (show rowsIn H r from hr) j b n c sz (by simpa using h)
  | .row b0 n0 c0 z0 :: r, hr, j, b, n, c, sz, h => by
    cases j with
    | zero => simp at h; obtain ⟨rfl, rfl, rfl, rfl⟩ := h; exact hr.1
    | succ j => exact rowsIn_at hr.2 j b n c sz (by simpa using h)
/-- The first labels stay. -/
def stay (I : List Nat) : Nat → Nat → List Src → Prop
  | _, 0, _ => True
  | j, n + 1, s :: r => (s = .lab j ∨ j ∈ I) ∧ stay I (j + 1) n r
  | _, _ + 1, [] => False
theorem stay_at {I : List Nat} : ∀ {n j : Nat} {S : List Src}, stay I j n S → n ≤ S.length ∧ ∀ i, i < n → j + i ∉ I → S[i]? = some (.lab (j + i))
  | 0, j, S, _ => ⟨Nat.zero_le _, fun i hi => by omega⟩
  | n + 1, j, s :: r, h => by
    obtain ⟨h1, h2⟩ := stay_at h.2
    refine ⟨by simp; omega, fun i hi hI => ?_⟩
    cases i with
    | zero => rcases h.1 with h | h; simp [h]; exact absurd h hI
    | succ i => have := h2 i (by omega) (by rwa [show j + 1 + i = j + (i + 1) by omega]); rw [show j + 1 + i = j + (i + 1) by omega] at this; simpa using this
  | n + 1, j, [], h => by simp [stay] at h

/-- **Labels anew.** -/
theorem Turn.ren {n : Nat} {I : List Nat} {M : Mem} {vs vs2 : List Value} {H H2 : Hp} (S : List Src) (hst : stay I 0 n S) (hnd : (S.filterMap Src.lbl).Nodup) (hrows : rowsIn H S) (hH : renOk S H S H2) (hv : okL S vs2 = true) (hv2 : trL S vs2 = vs) : Turn n I M vs H M vs2 H2 := by
  intro X e w he hs hn
  subst hv2
  have hro : rowsOk e S := fun j b k c sz hj => by
    obtain ⟨content, hc⟩ := rowsIn_at hrows j b k c sz hj
    exact (own_at he hc).2.2.2.2
  obtain ⟨hs1, hs2⟩ := stay_at hst
  have hlen := renOk_len hH
  have srcOf : ∀ (j : Nat) b, H2[j]? = some (some b) → ∃ s, S[j]? = some s := fun j b hb => by
    have : j < S.length := by rw [← hlen]; exact lt_of_some hb
    exact ⟨_, List.getElem?_eq_getElem this⟩
  -- a label of the new heap comes out of one of the old
  have from' : ∀ (j : Nat) b, H2[j]? = some (some b) → ((envS e S).o j).nil = false → ∃ s l k, S[j]? = some s ∧ s.lbl = some l ∧ H[l]? = some (some k) ∧ ((envS e S).o j).blk = (e.o l).blk ∧ (e.o l).nil = false := by
    intro j b hb hnil
    obtain ⟨s, hsj⟩ := srcOf j b hb
    rw [envS_o hsj] at hnil ⊢
    rcases renOk_at hH j s b hsj hb with ⟨l, rfl, _, h2⟩ | ⟨a, k, c, sz, cs, rfl, _, _, h2⟩
    · exact ⟨_, l, _, hsj, rfl, h2, rfl, hnil⟩
    · obtain ⟨a', rfl, h4, h5⟩ := (own_at he h2).2.2.1 hnil
      obtain ⟨_, _, cs', z, hl, _⟩ := h2
      exact ⟨_, a'.block, _, hsj, rfl, hl, h4, h5⟩
  have nodup : ∀ (i j : Nat) s t l, S[i]? = some s → S[j]? = some t → s.lbl = some l → t.lbl = some l → i = j := by
    have key : ∀ (S : List Src), (S.filterMap Src.lbl).Nodup → ∀ (i j : Nat) s t l, S[i]? = some s → S[j]? = some t → s.lbl = some l → t.lbl = some l → i = j := by
      intro S
      induction S with
      | nil => intro _ i j s t l h; simp at h
      | cons x r ih =>
        intro hnd i j s t l hi hj hsl htl
        have hmem : ∀ (k : Nat) u, r[k]? = some u → u.lbl = some l → l ∈ r.filterMap Src.lbl := fun k u hk hu => List.mem_filterMap.2 ⟨u, List.mem_of_getElem? hk, hu⟩
        have hr : (r.filterMap Src.lbl).Nodup := by
          rw [List.filterMap_cons] at hnd
          split at hnd
          · exact hnd
          · exact (List.nodup_cons.1 hnd).2
        have hno : x.lbl = some l → l ∉ r.filterMap Src.lbl := by
          intro hx
          rw [List.filterMap_cons, hx] at hnd
          exact (List.nodup_cons.1 hnd).1
        cases i with
        | zero =>
          cases j with
          | zero => rfl
          | succ j => simp at hi hj; subst hi; exact absurd (hmem j t hj htl) (hno hsl)
        | succ i =>
          cases j with
          | zero => simp at hi hj; subst hj; exact absurd (hmem i s hi hsl) (hno htl)
          | succ j => exact congrArg (· + 1) (ih hr i j s t l (by simpa using hi) (by simpa using hj) hsl htl)
    exact key S hnd
  refine ⟨envS e S, .refl M, ⟨fun i hi hI => ?_, fun _ _ => rfl⟩, by rw [hlen]; exact hs1, ?_, ?_, map_tr hro hv⟩
  · have := hs2 i hi (by simpa using hI)
    rw [Nat.zero_add] at this
    rw [envS_o this]; rfl
  · refine ⟨he.os, he.tape, he.output, he.size, he.fx, fun i cs hi => (he.ro i cs hi).env (he.rosc i cs hi).2 ⟨fun i hi => absurd hi (by omega), fun _ _ => rfl⟩, he.rosc, he.apartF, he.bn, ?_, ?_, ?_, ?_, ?_⟩
    · intro j b hb
      obtain ⟨s, hsj⟩ := srcOf j b hb
      rw [envS_o hsj]
      rcases renOk_at hH j s b hsj hb with ⟨l, rfl, h1, h2⟩ | ⟨a, k, c, sz, cs, rfl, rfl, h1, h2⟩
      · have hat := he.own l _ h2
        cases b with
        | cells cs z =>
          rcases hat with ⟨h3, h4, h5⟩ | ⟨h3, h4, h5, h6⟩
          · exact .inl ⟨h3, by cases cs with | nil => rfl | cons v r => simp [trL] at h4, h5⟩
          · exact .inr ⟨h3, h4, h5, h6.iff_map (map_tr hro h1)⟩
        | map es c =>
          refine ⟨hat.1, ?_⟩
          have h3 := hat.2
          simp only [Src.loc]
          rw [h3, List.map_map]
          simp only [Blk.okT, List.all_eq_true, Bool.and_eq_true] at h1
          congr 3
          exact List.map_congr_left fun x hx => by simp only [Function.comp, entry]; rw [cv_tr hro _ (h1 x hx).1, cv_tr hro _ (h1 x hx).2]
      · rcases (own_at he h2).1 with ⟨h3, h4, h5⟩ | ⟨h3, h4, h5, h6⟩
        · exact .inl ⟨h3, by cases cs with | nil => rfl | cons v r => simp [trL] at h4, h5⟩
        · exact .inr ⟨h3, h4, h5, h6.iff_map (map_tr hro h1)⟩
    · intro j b hb hnil
      obtain ⟨s, l, k, _, _, h3, h4, h5⟩ := from' j b hb hnil
      rw [h4]; exact he.apartX l k h3 h5
    · intro j b hb hnil i cs hi hin
      obtain ⟨s, l, k, _, _, h3, h4, h5⟩ := from' j b hb hnil
      rw [h4]; exact he.apartR l k h3 h5 i cs hi hin
    · intro i j bi bj hi hj hni hnj hblk
      obtain ⟨s, l, k, h1, h2, h3, h4, h5⟩ := from' i bi hi hni
      obtain ⟨t, m, k2, g1, g2, g3, g4, g5⟩ := from' j bj hj hnj
      have hlm : l = m := he.inj l m k k2 h3 g3 h5 g5 (by rw [← h4, ← g4, hblk])
      subst hlm
      exact nodup i j s t l h1 g1 h2 g2
    · intro j b hb
      obtain ⟨s, hsj⟩ := srcOf j b hb
      rw [hlen]
      rcases renOk_at hH j s b hsj hb with ⟨l, rfl, h1, h2⟩ | ⟨a, k, c, sz, cs, rfl, rfl, h1, h2⟩
      · have hsc := he.sc l _ h2
        cases b with
        | cells cs z => exact scL_tr cs h1 hsc
        | map es c =>
          simp only [Blk.okT, List.all_eq_true, Bool.and_eq_true] at h1
          intro x hx
          have := hsc ⟨Snb.tr S x.key, Snb.tr S x.val, x.born⟩ (List.mem_map.2 ⟨x, hx, rfl⟩)
          exact ⟨sc_tr _ (h1 x hx).1 this.1, sc_tr _ (h1 x hx).2 this.2⟩
      · exact scL_tr cs h1 (own_at he h2).2.2.2.1
  · rw [hlen]; exact scL_tr vs2 hv hs
end
end Go.Snb
