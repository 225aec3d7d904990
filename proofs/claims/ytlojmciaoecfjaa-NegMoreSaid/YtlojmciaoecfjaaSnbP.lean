/- Loops under the reckoning; calls by contracts told over small heaps. -/
import Derived.Test.YtlojmciaoecfjaaSnbT
set_option linter.all false
namespace Go.Snb
open Go
section
variable {P : Program}

/-- A round ends so: it begins anew. -/
structure Again (n : Nat) (I : List Nat) (M : Mem) (F : Fr) (H : Hp) (ts : List Nat) (J : Mem → List Value → Hp → Prop) (_k : Tok J) : Prop where
  out : ∃ vs M2 vs2 H2, getsL F ts = some vs ∧ Turn n I M vs H M2 vs2 H2 ∧ J M2 vs2 H2
@[congr] theorem Again_congr {n : Nat} {I : List Nat} {M : Mem} {F F' : Fr} {H H' : Hp} {ts : List Nat} {J : Mem → List Value → Hp → Prop} {t : Tok J} (h : F = F') (h' : H = H') : Again n I M F H ts J t = Again n I M F' H' ts J t := by rw [h, h']
theorem Again.same {n : Nat} {I : List Nat} {M : Mem} {F : Fr} {H : Hp} {ts : List Nat} {J : Mem → List Value → Hp → Prop} {t : Tok J} {vs : List Value} (hg : getsL F ts = some vs) (h : J M vs H) : Again n I M F H ts J t := ⟨vs, M, vs, H, hg, .refl, h⟩
theorem Again.ren {n : Nat} {I : List Nat} {M : Mem} {F : Fr} {H : Hp} {ts : List Nat} {J : Mem → List Value → Hp → Prop} {t : Tok J} {vs vs2 : List Value} {H2 : Hp} (hg : getsL F ts = some vs) (ht : Turn n I M vs H M vs2 H2) (h : J M vs2 H2) : Again n I M F H ts J t := ⟨vs, M, vs2, H2, hg, ht, h⟩

theorem Again.to {σ : Type} {n : Nat} {I : List Nat} {M M2 : Mem} {F : Fr} {H : Hp} {ts : List Nat} {vals : σ → List Value} {hp : σ → Hp} {inv : σ → Mem → Prop} {μ : σ → Nat} {s : σ} {t} (s' : σ) {vs : List Value} (hg : getsL F ts = some vs) (ht : Turn n I M vs H M2 (vals s') (hp s')) (hi : inv s' M2) (hm : μ s' < μ s) :
    Again n I M F H ts (fun M2 vs2 H2 => ∃ s', vs2 = vals s' ∧ H2 = hp s' ∧ inv s' M2 ∧ μ s' < μ s) t := ⟨vs, M2, _, _, hg, ht, s', rfl, rfl, hi, hm⟩
theorem Awp1.loop {T : Tb} (hT : TbOk P T) (hm : P.follows .mixedOrders = true) {σ : Type} {N n : Nat} {I : List Nat} {c : Code} {M : Mem} {F : Fr} {H : Hp} {Q : Exit → Mem → Fr → Hp → Prop} {t1 : Tok (Code.loop c)} {t2 : Tok Q} (L : List Nat) (U : Nat)
    (ts : List Nat) (vals : σ → List Value) (hp : σ → Hp) (inv : σ → Mem → Prop) (μ : σ → Nat) {vs : List Value} {M0 : Mem} (s : σ) (hg : getsL F ts = some vs) (ht : Turn n I M vs H M0 (vals s) (hp s)) (h0 : inv s M0)
    (round : ∀ s M, inv s M → nf (mrk (ts.zip (vals s))) fun F => nf (mrk (hp s)) fun H => sCode P T N n I L U c M F H fun x M' F' H' => match x with | .normal => Again n I M' F' H' ts (fun M2 vs2 H2 => ∃ s', vs2 = vals s' ∧ H2 = hp s' ∧ inv s' M2 ∧ μ s' < μ s) .tk | x => Q x M' F' H') : Awp1 P N n I (.loop c) M F H Q t1 t2 := by
  refine ⟨awp_loop (σ := σ) (fun s M F H => F = ts.zip (vals s) ∧ H = hp s ∧ inv s M) μ s (ht.weak ts hg) ⟨rfl, rfl, h0⟩ ?_⟩
  rintro s M F H ⟨rfl, rfl, hinv⟩
  have hr := round s M hinv
  simp only [nf, mrk] at hr
  rw [sCode_eq] at hr
  refine (fCode_awp hT hm c hr).mono ?_
  intro x M' F' H' _ hx
  cases x with
  | normal =>
    obtain ⟨vs, M2, vs2, H2, h1, h2, s', rfl, rfl, h5, h6⟩ := hx.out
    exact ⟨s', M2, _, _, h2.weak ts h1, ⟨rfl, rfl, h5⟩, h6⟩
  | _ => exact hx

/-- A walk goes on from what is said anew. -/
theorem Awp1.of_code {T : Tb} (hT : TbOk P T) (hm : P.follows .mixedOrders = true) {N n U : Nat} {I L : List Nat} {c : Code} {M M2 : Mem} {F : Fr} {H H2 : Hp} {Q : Exit → Mem → Fr → Hp → Prop} {t1 : Tok c} {t2 : Tok Q} (ts : List Nat) {vs vs2 : List Value} (hg : getsL F ts = some vs) (ht : Turn n I M vs H M2 vs2 H2)
    (h : nf (mrk (ts.zip vs2)) fun F => nf (mrk H2) fun H => sCode P T N n I L U c M2 F H Q) : Awp1 P N n I c M F H Q t1 t2 := by
  simp only [nf, mrk] at h
  rw [sCode_eq] at h
  exact ⟨awp_weak (ht.weak ts hg) (fCode_awp hT hm c h)⟩

/-- **A call by a contract over a small heap.** -/
theorem Call1.lift {g : FuncId} {args args0 : List Value} {M : Mem} {H H0 : Hp} {I0 : List Nat} {K0 : Mem → Value → Hp → Prop} {K : Mem → List Nat → Value → Hp → Prop} {t : Tok K} (σ : List Nat) (h : acalls P g args0 M H0 I0 K0) (ha : args0.map (rv (tauOf σ H.length)) = args)
    (hσ : σ.length = H0.length) (hnd : σ.Nodup) (hlt : ∀ i ∈ σ, i < H.length) (hH : ∀ (j : Nat) (hj : j < σ.length) b, H0[j]? = some (some b) → H[σ[j]]? = some (some (b.rv (tauOf σ H.length))))
    (hF : I0 = [] ∨ ∀ (i : Nat) b, i ∉ σ → H[i]? = some (some b) → b.noI (I0.map (tauOf σ H.length)) = true) (hI0 : ∀ i ∈ I0, i < σ.length)
    (hk : ∀ M' v0 H0', M.le M' → K0 M' v0 H0' → K M' (I0.map (tauOf σ H.length)) (rv (tauOf σ H.length) v0) (liftH H σ H0')) : Call1 P g args M H K t := by
  subst ha
  exact ⟨_, h.lift σ hσ hnd hlt hH hF hI0 hk⟩
/-- A call whose arguments and heap are said anew ahead. -/
theorem Call1.of {g : FuncId} {args : List Value} {M : Mem} {H : Hp} {I : List Nat} {K : Mem → List Nat → Value → Hp → Prop} {t : Tok K} (h : acalls P g args M H I fun M v H => K M I v H) : Call1 P g args M H K t := ⟨I, h⟩
end
end Go.Snb
