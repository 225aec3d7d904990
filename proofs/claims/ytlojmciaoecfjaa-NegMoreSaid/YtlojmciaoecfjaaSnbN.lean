/- Contracts told over a small heap, told over any; rows frozen; labels anew. -/
import Derived.Test.YtlojmciaoecfjaaSnbI
set_option linter.all false
namespace Go.Snb
open Go

/-! ### Labels renamed -/
def rvA (τ : Nat → Nat) (a : Addr) : Addr :=
  match a.spot with
  | none => ⟨τ a.block, a.off, none⟩
  | some 1 => ⟨τ a.block, a.off, some 1⟩
  | s => ⟨a.block, a.off, s⟩
mutual
def rv (τ : Nat → Nat) : Value → Value
  | .pointer (some a) => .pointer (some (rvA τ a))
  | .slice (some a) n c => .slice (some (rvA τ a)) n c
  | .map (some r) => .map (some (τ r))
  | .func f x y => .func f (rvV τ x) (rvV τ y)
  | .iface t v => .iface t (rv τ v)
  | .agg cs => .agg (rvV τ cs)
  | .tuple cs => .tuple (rvV τ cs)
  | .bool b => .bool b
  | .int k n => .int k n
  | .float k b => .float k b
  | .complex k a b => .complex k a b
  | .string s => .string s
  | .pointer none => .pointer none
  | .slice none n c => .slice none n c
  | .map none => .map none
  | .chan r => .chan r
  | .nilFunc => .nilFunc
  | .nilIface => .nilIface
def rvV (τ : Nat → Nat) : Array Value → Array Value
  | ⟨l⟩ => ⟨rvL τ l⟩
def rvL (τ : Nat → Nat) : List Value → List Value
  | [] => []
  | v :: r => rv τ v :: rvL τ r
end
theorem rvL_map (τ : Nat → Nat) : ∀ l : List Value, rvL τ l = l.map (rv τ)
  | [] => rfl
  | v :: r => by simp only [rvL, List.map_cons, rvL_map τ r]
def Env.via (e : Env) (τ : Nat → Nat) : Env := ⟨fun i => e.o (τ i), e.f⟩
theorem rvA_adr (e : Env) (τ : Nat → Nat) (a : Addr) : adr e (rvA τ a) = adr (e.via τ) a ∧ locOf e (rvA τ a) = locOf (e.via τ) a ∧ moreOf e (rvA τ a) = moreOf (e.via τ) a := by
  obtain ⟨b, o, s⟩ := a
  match s with
  | none => exact ⟨rfl, rfl, rfl⟩
  | some 0 => exact ⟨rfl, rfl, rfl⟩
  | some 1 => exact ⟨rfl, rfl, rfl⟩
  | some 2 => exact ⟨rfl, rfl, rfl⟩
  | some 3 => exact ⟨rfl, rfl, rfl⟩
  | some (s + 4) => exact ⟨rfl, rfl, rfl⟩
mutual
theorem cv_rv (e : Env) (τ : Nat → Nat) : ∀ v : Value, cv e (rv τ v) = cv (e.via τ) v
  | .pointer (some a) => by simp only [rv, cv, (rvA_adr e τ a).1]
  | .slice (some a) n c => by simp only [rv, cv, slV, (rvA_adr e τ a).1, (rvA_adr e τ a).2.1, (rvA_adr e τ a).2.2]
  | .map (some r) => by simp only [rv, cv, Env.via]
  | .func f x y => by simp only [rv, cv]; rw [cvA_rv e τ x, cvA_rv e τ y]
  | .iface t v => by simp only [rv, cv]; rw [cv_rv e τ v]
  | .agg cs => by simp only [rv, cv]; rw [cvA_rv e τ cs]
  | .tuple cs => by simp only [rv, cv]; rw [cvA_rv e τ cs]
  | .bool b => by simp only [rv, cv]
  | .int k n => by simp only [rv, cv]
  | .float k b => by simp only [rv, cv]
  | .complex k a b => by simp only [rv, cv]
  | .string s => by simp only [rv, cv]
  | .pointer none => by simp only [rv, cv]
  | .slice none n c => by simp only [rv, cv]
  | .map none => by simp only [rv, cv]
  | .chan r => by simp only [rv, cv]
  | .nilFunc => by simp only [rv, cv]
  | .nilIface => by simp only [rv, cv]
theorem cvA_rv (e : Env) (τ : Nat → Nat) : ∀ v : Array Value, cvA e (rvV τ v) = cvA (e.via τ) v
  | ⟨l⟩ => by simp only [rvV, cvA]; rw [cvL_rv e τ l]
theorem cvL_rv (e : Env) (τ : Nat → Nat) : ∀ v : List Value, cvL e (rvL τ v) = cvL (e.via τ) v
  | [] => by simp only [rvL, cvL]
  | v :: r => by simp only [rvL, cvL]; rw [cv_rv e τ v, cvL_rv e τ r]
end
def Blk.rv (τ : Nat → Nat) : Blk → Blk
  | .cells cs z => .cells (rvL τ cs) z
  | .map es c => .map (es.map fun x => ⟨Snb.rv τ x.key, Snb.rv τ x.val, x.born⟩) c
theorem map_cv_rv (e : Env) (τ : Nat → Nat) (cs : List Value) : (rvL τ cs).map (cv e) = cs.map (cv (e.via τ)) := by
  rw [← cvL_map, ← cvL_map, cvL_rv]
theorem cellsAt.iff_map {e e' : Env} {w : World} {L : Loc} {cs cs' : List Value} {room : Nat} (h : cellsAt e w L cs room) (hm : cs'.map (cv e') = cs.map (cv e)) : cellsAt e' w L cs' room := by
  obtain ⟨arr, T, f, h1, h2, h3⟩ := h
  have hl : cs'.length = cs.length := by simpa using congrArg List.length hm
  refine ⟨arr, T, f, h1, by omega, fun j v hj => ?_⟩
  have h4 : (cs.map (cv e))[j]? = some (cv e' v) := by rw [← hm, List.getElem?_map, hj]; rfl
  rw [List.getElem?_map] at h4
  cases h5 : cs[j]? with
  | none => rw [h5] at h4; cases h4
  | some u => rw [h5] at h4; rw [h3 j u h5]; simpa using h4
theorem Blk.at.rv {e : Env} {w : World} {L : Loc} {τ : Nat → Nat} {b : Blk} (h : b.at (e.via τ) w L) : (b.rv τ).at e w L := by
  cases b with
  | cells cs z =>
    rcases h with ⟨h1, h2, h3⟩ | ⟨h1, h2, h3, h4⟩
    · exact .inl ⟨h1, by subst h2; rfl, h3⟩
    · exact .inr ⟨h1, h2, h3, h4.iff_map (map_cv_rv e τ cs)⟩
  | map es c =>
    refine ⟨h.1, ?_⟩
    rw [h.2, List.map_map]
    congr 3
    exact List.map_congr_left fun x _ => by simp only [Function.comp, entry, cv_rv]
theorem Blk.at.unrv {e : Env} {w : World} {L : Loc} {τ : Nat → Nat} {b : Blk} (h : (b.rv τ).at e w L) : b.at (e.via τ) w L := by
  cases b with
  | cells cs z =>
    rcases h with ⟨h1, h2, h3⟩ | ⟨h1, h2, h3, h4⟩
    · exact .inl ⟨h1, by cases cs with | nil => rfl | cons v r => simp [rvL] at h2, h3⟩
    · exact .inr ⟨h1, h2, h3, h4.iff_map (map_cv_rv e τ cs).symm⟩
  | map es c =>
    refine ⟨h.1, ?_⟩
    have h2 := h.2
    rw [List.map_map] at h2
    rw [h2]
    congr 3
    exact List.map_congr_left fun x _ => by simp only [Function.comp, entry, cv_rv]

theorem Sc.rv {n m n' : Nat} {τ : Nat → Nat} {v : Value} (h : Sc n m v) (hτ : ∀ i, i < n → τ i < n') : Sc n' m (Snb.rv τ v) := by
  intro e e' he
  rw [cv_rv, cv_rv]
  exact h _ _ ⟨fun i hi _ => he.o _ (hτ i hi) (by simp), he.f⟩
open Classical in
theorem Sc.unrv {n m n' : Nat} {τ : Nat → Nat} {v : Value} (h : Sc n' m (Snb.rv τ v)) (hinj : ∀ i j, τ i = τ j → i = j) (hτ : ∀ i, τ i < n' → i < n) : Sc n m v := by
  intro e e' he
  have key : ∀ e : Env, ∃ e1 : Env, e1.via τ = e ∧ e1.f = e.f ∧ ∀ i, (∀ j, τ j ≠ i) → e1.o i = ⟨0, 0, 0, false⟩ := by
    intro e
    refine ⟨⟨fun i => if hx : ∃ j, τ j = i then e.o hx.choose else ⟨0, 0, 0, false⟩, e.f⟩, ?_, rfl, fun i hi => dif_neg (fun ⟨j, hj⟩ => hi j hj)⟩
    unfold Env.via
    congr 1
    funext i
    have hx : ∃ j, τ j = τ i := ⟨i, rfl⟩
    simp only
    rw [dif_pos hx, hinj _ _ hx.choose_spec]
  obtain ⟨e1, h1, h2, h3⟩ := key e
  obtain ⟨e2, g1, g2, g3⟩ := key e'
  have := h e1 e2 ⟨fun i hi _ => by
    by_cases hx : ∃ j, τ j = i
    · obtain ⟨j, rfl⟩ := hx
      have hj := hτ j hi
      have e3 : e1.o (τ j) = e.o j := congrArg (fun x : Env => x.o j) h1
      have e4 : e2.o (τ j) = e'.o j := congrArg (fun x : Env => x.o j) g1
      rw [e3, e4]; exact he.o j hj (by simp)
    · rw [h3 i (fun j hj => hx ⟨j, hj⟩), g3 i (fun j hj => hx ⟨j, hj⟩)], fun i hi => by rw [h2, g2]; exact he.f i hi⟩
  rwa [cv_rv, cv_rv, h1, g1] at this
theorem rvL_mem {τ : Nat → Nat} {cs : List Value} {v : Value} (h : v ∈ rvL τ cs) : ∃ u ∈ cs, v = Snb.rv τ u := by
  rw [rvL_map] at h
  obtain ⟨u, hu, rfl⟩ := List.mem_map.1 h
  exact ⟨u, hu, rfl⟩
theorem Blk.sc.rv {n m n' : Nat} {τ : Nat → Nat} {b : Blk} (h : b.sc n m) (hτ : ∀ i, i < n → τ i < n') : (b.rv τ).sc n' m := by
  cases b with
  | cells cs z => intro v hv; obtain ⟨u, hu, rfl⟩ := rvL_mem hv; exact (h u hu).rv hτ
  | map es c =>
    intro x hx
    obtain ⟨y, hy, rfl⟩ := List.mem_map.1 hx
    exact ⟨(h y hy).1.rv hτ, (h y hy).2.rv hτ⟩
theorem Blk.sc.unrv {n m n' : Nat} {τ : Nat → Nat} {b : Blk} (h : (b.rv τ).sc n' m) (hinj : ∀ i j, τ i = τ j → i = j) (hτ : ∀ i, τ i < n' → i < n) : b.sc n m := by
  cases b with
  | cells cs z => intro v hv; exact (h (Snb.rv τ v) (by rw [rvL_map]; exact List.mem_map.2 ⟨v, hv, rfl⟩)).unrv hinj hτ
  | map es c =>
    intro x hx
    have := h ⟨Snb.rv τ x.key, Snb.rv τ x.val, x.born⟩ (List.mem_map.2 ⟨x, hx, rfl⟩)
    exact ⟨this.1.unrv hinj hτ, this.2.unrv hinj hτ⟩

/-! ### What is kept beside -/
open Classical in
/-- Some labels' blocks are kept as they are. -/
noncomputable def Fx.with (X : Fx) (e : Env) (H : Hp) (w : World) (S : Nat → Prop) : Fx :=
  fun b => if ∃ i k, S i ∧ H[i]? = some (some k) ∧ (e.o i).nil = false ∧ (e.o i).blk = b then w.heap[b]? else X b
theorem Fx.with_in {X : Fx} {e : Env} {H : Hp} {w : World} {S : Nat → Prop} {i : Nat} {k : Blk} (hS : S i) (hi : H[i]? = some (some k)) (hn : (e.o i).nil = false) : X.with e H w S (e.o i).blk = w.heap[(e.o i).blk]? := by
  unfold Fx.with; rw [if_pos ⟨i, k, hS, hi, hn, rfl⟩]
theorem Fx.with_none {X : Fx} {e : Env} {H : Hp} {w : World} {M : Mem} (he : Emb M X e H w) {S : Nat → Prop} {b : Nat} (h : X.with e H w S b = none) : X b = none := by
  unfold Fx.with at h
  split at h
  · rename_i hx
    obtain ⟨i, k, _, hi, hn, rfl⟩ := hx
    exact he.apartX i k hi hn
  · exact h
theorem Fx.with_fx {X : Fx} {e : Env} {H : Hp} {w : World} {M : Mem} (he : Emb M X e H w) {S : Nat → Prop} {b : Nat} {o : Obj} (h : X.with e H w S b = some o) : w.heap[b]? = some o := by
  unfold Fx.with at h
  split at h
  · exact h
  · exact he.fx _ _ h

/-! ### From a small heap to any -/
def updL (τ : Nat → Nat) : Hp → List Nat → Hp → Hp
  | H, [], _ => H
  | H, s :: σ, b :: bs => updL τ (H.set s (b.map (Blk.rv τ))) σ bs
  | H, s :: σ, [] => updL τ (H.set s none) σ []
def tauOf (σ : List Nat) (n : Nat) : Nat → Nat := fun j => if j < σ.length then σ.getD j 0 else n + (j - σ.length)
def liftH (H : Hp) (σ : List Nat) (H0' : Hp) : Hp := updL (tauOf σ H.length) H σ H0' ++ (H0'.drop σ.length).map (Option.map (Blk.rv (tauOf σ H.length)))

theorem updL_length (τ : Nat → Nat) : ∀ (H : Hp) (σ : List Nat) (bs : Hp), (updL τ H σ bs).length = H.length
  | H, [], _ => rfl
  | H, s :: σ, b :: bs => by simp only [updL]; rw [updL_length τ _ σ bs]; simp
  | H, s :: σ, [] => by simp only [updL]; rw [updL_length τ _ σ []]; simp
theorem updL_out {τ : Nat → Nat} {i : Nat} : ∀ (H : Hp) (σ : List Nat) (bs : Hp), i ∉ σ → (updL τ H σ bs)[i]? = H[i]?
  | H, [], _, _ => rfl
  | H, s :: σ, b :: bs, h => by
    simp only [List.mem_cons, not_or] at h
    simp only [updL]; rw [updL_out _ σ bs h.2, List.getElem?_set_ne (Ne.symm h.1)]
  | H, s :: σ, [], h => by
    simp only [List.mem_cons, not_or] at h
    simp only [updL]; rw [updL_out _ σ [] h.2, List.getElem?_set_ne (Ne.symm h.1)]
theorem updL_in {τ : Nat → Nat} : ∀ (H : Hp) (σ : List Nat) (bs : Hp) (j : Nat) (hj : j < σ.length), σ.Nodup → (∀ i ∈ σ, i < H.length) → (updL τ H σ bs)[σ[j]]? = some ((bs[j]?).bind fun b => b.map (Blk.rv τ))
  | H, [], _, j, hj, _, _ => by simp at hj
  | H, s :: σ, b :: bs, j, hj, hn, hl => by
    rw [List.nodup_cons] at hn
    simp only [updL]
    cases j with
    | zero =>
      simp only [List.getElem_cons_zero]
      rw [updL_out _ σ bs hn.1, List.getElem?_set_self (hl s (by simp))]
      simp
    | succ j =>
      simp only [List.getElem_cons_succ]
      rw [updL_in _ σ bs j (by simpa using hj) hn.2 (fun i hi => by rw [List.length_set]; exact hl i (by simp [hi]))]
      simp
  | H, s :: σ, [], j, hj, hn, hl => by
    rw [List.nodup_cons] at hn
    simp only [updL]
    cases j with
    | zero =>
      simp only [List.getElem_cons_zero]
      rw [updL_out _ σ [] hn.1, List.getElem?_set_self (hl s (by simp))]
      simp
    | succ j =>
      simp only [List.getElem_cons_succ]
      rw [updL_in _ σ [] j (by simpa using hj) hn.2 (fun i hi => by rw [List.length_set]; exact hl i (by simp [hi]))]
      simp

def Blk.noI (I : List Nat) : Blk → Bool
  | .cells cs _ => noIL I cs
  | .map es _ => es.all fun x => Snb.noI I x.key && Snb.noI I x.val
theorem noIL_all {I : List Nat} : ∀ {cs : List Value}, noIL I cs = true → ∀ v ∈ cs, Snb.noI I v = true
  | [], _, v, hv => by cases hv
  | u :: r, h, v, hv => by
    simp only [noIL, Bool.and_eq_true] at h
    rcases List.mem_cons.1 hv with rfl | hv
    · exact h.1
    · exact noIL_all h.2 v hv
theorem Blk.at.noI {e e' : Env} {w : World} {L : Loc} {b : Blk} {n m : Nat} {I : List Nat} (h : b.at e w L) (hs : b.sc n m) (hI : b.noI I = true) (ha : Agr n I m e e') : b.at e' w L := by
  cases b with
  | cells cs z =>
    have hm : cs.map (cv e') = cs.map (cv e) := List.map_congr_left fun v hv => ((hs v hv).noI (noIL_all hI v hv) ha).symm
    rcases h with h | ⟨h1, h2, h3, h4⟩
    · exact .inl h
    · exact .inr ⟨h1, h2, h3, h4.iff_map hm⟩
  | map es c =>
    simp only [Blk.noI, List.all_eq_true, Bool.and_eq_true] at hI
    refine ⟨h.1, ?_⟩
    rw [h.2]
    congr 3
    exact List.map_congr_left fun x hx => by simp only [entry]; rw [(hs x hx).1.noI (hI x hx).1 ha, (hs x hx).2.noI (hI x hx).2 ha]

section
variable {P : Program}
open Classical in
/-- **A contract told over a small heap, told over any that bears it.** -/
theorem acalls.lift {f : FuncId} {args0 : List Value} {M : Mem} {H0 : Hp} {I0 : List Nat} {K0 K : Mem → Value → Hp → Prop} (h : acalls P f args0 M H0 I0 K0) {H : Hp} (σ : List Nat) (hσ : σ.length = H0.length) (hnd : σ.Nodup) (hlt : ∀ i ∈ σ, i < H.length)
    (hH : ∀ (j : Nat) (hj : j < σ.length) b, H0[j]? = some (some b) → H[σ[j]]? = some (some (b.rv (tauOf σ H.length))))
    (hF : I0 = [] ∨ ∀ (i : Nat) b, i ∉ σ → H[i]? = some (some b) → b.noI (I0.map (tauOf σ H.length)) = true)
    (hI0 : ∀ i ∈ I0, i < σ.length)
    (hk : ∀ M' v0 H0', M.le M' → K0 M' v0 H0' → K M' (rv (tauOf σ H.length) v0) (liftH H σ H0')) :
    acalls P f (args0.map (rv (tauOf σ H.length))) M H (I0.map (tauOf σ H.length)) K := by
  refine ⟨fun X e w he hs => ?_⟩
  generalize hτ : tauOf σ H.length = τ at *
  have tau_in : ∀ (j : Nat) (hj : j < σ.length), τ j = σ[j] := fun j hj => by rw [← hτ]; simp [tauOf, hj]
  have tau_out : ∀ j, σ.length ≤ j → τ j = H.length + (j - σ.length) := fun j hj => by rw [← hτ]; simp [tauOf]; omega
  have tau_mem : ∀ j, j < σ.length → τ j ∈ σ := fun j hj => by rw [tau_in j hj]; exact List.getElem_mem hj
  have tau_lt : ∀ j, j < σ.length → τ j < H.length := fun j hj => hlt _ (tau_mem j hj)
  have tau_inj : ∀ i j, τ i = τ j → i = j := by
    intro i j hij
    by_cases hi : i < σ.length <;> by_cases hj : j < σ.length
    · rw [tau_in i hi, tau_in j hj] at hij; exact (List.getElem_inj hnd).1 hij
    · have := tau_lt i hi; rw [hij, tau_out j (by omega)] at this; omega
    · have := tau_lt j hj; rw [← hij, tau_out i (by omega)] at this; omega
    · rw [tau_out i (by omega), tau_out j (by omega)] at hij; omega
  have tau_lo : ∀ j, τ j < H.length → j < σ.length := fun j hj => by
    refine Nat.lt_of_not_le fun hc => ?_
    rw [tau_out j hc] at hj; omega
  have tau_of : ∀ i ∈ σ, ∃ j, j < σ.length ∧ τ j = i := fun i hi => by
    obtain ⟨j, hj, rfl⟩ := List.getElem_of_mem hi
    exact ⟨j, hj, tau_in j hj⟩
  have hH' : ∀ (j : Nat) b, H0[j]? = some (some b) → j < σ.length ∧ H[τ j]? = some (some (b.rv τ)) := fun j b hb => by
    have hj : j < σ.length := by rw [hσ]; exact lt_of_some hb
    exact ⟨hj, by rw [tau_in j hj]; exact hH j hj b hb⟩
  -- the small heap's side
  have hX : ∀ (j : Nat) b, H0[j]? = some (some b) → (e.o (τ j)).nil = false → (X.with e H w (· ∉ σ)) (e.o (τ j)).blk = none := by
    intro j b hb hn
    obtain ⟨hj, hb'⟩ := hH' j b hb
    unfold Fx.with
    rw [if_neg]
    · exact he.apartX _ _ hb' hn
    · rintro ⟨i, k, hi, hik, hin, hblk⟩
      have := he.inj i (τ j) k _ hik hb' hin hn hblk
      exact hi (this ▸ tau_mem j hj)
  have hemb0 : Emb M (X.with e H w (· ∉ σ)) (e.via τ) H0 w := by
    refine ⟨he.os, he.tape, he.output, he.size, fun b o hb => Fx.with_fx he hb, ?_, he.rosc, ?_, he.bn, ?_, ?_, ?_, ?_, ?_⟩
    · intro i cs hi; exact (he.ro i cs hi).env (he.rosc i cs hi).2 ⟨fun i hi => absurd hi (by omega), fun _ _ => rfl⟩
    · intro i cs hi hn
      rcases he.apartF i cs hi hn with hx | hx
      rotate_left
      · exact .inr hx
      left
      unfold Fx.with
      rw [if_neg]
      · exact hx
      · rintro ⟨l, k, _, hlk, hln, hblk⟩
        exact he.apartR l k hlk hln i cs hi hn hblk.symm
    · intro j b hb
      obtain ⟨hj, hb'⟩ := hH' j b hb
      exact (he.own _ _ hb').unrv
    · intro j b hb hn; exact hX j b hb hn
    · intro j b hb hn
      obtain ⟨hj, hb'⟩ := hH' j b hb
      exact he.apartR _ _ hb' hn
    · intro i j bi bj hi hj hni hnj hblk
      obtain ⟨_, hi'⟩ := hH' i bi hi
      obtain ⟨_, hj'⟩ := hH' j bj hj
      exact tau_inj _ _ (he.inj _ _ _ _ hi' hj' hni hnj hblk)
    · intro j b hb
      obtain ⟨hj, hb'⟩ := hH' j b hb
      exact (he.sc _ _ hb').unrv tau_inj fun i hi => by rw [← hσ]; exact tau_lo i hi
  have hs0 : ∀ v ∈ args0, Sc H0.length M.next v := fun v hv =>
    (hs (rv τ v) (List.mem_map.2 ⟨v, hv, rfl⟩)).unrv tau_inj fun i hi => by rw [← hσ]; exact tau_lo i hi
  have hc := h.out _ _ w hemb0 hs0
  have hargs : (args0.map (rv τ)).map (cv e) = args0.map (cv (e.via τ)) := by
    rw [List.map_map]; exact List.map_congr_left fun v _ => cv_rv e τ v
  rw [hargs]
  refine hc.mono fun x w' ⟨M', e0', v0, H0', g1, g2, g3, g4, g5, g6, g7⟩ => ?_
  -- the environment behind the call
  let e' : Env := ⟨fun i => if hx : ∃ j, τ j = i then e0'.o hx.choose else e.o i, e0'.f⟩
  have hvia : e'.via τ = e0' := by
    unfold Env.via
    show Env.mk (fun i => if hx : ∃ j, τ j = τ i then e0'.o hx.choose else e.o (τ i)) e0'.f = e0'
    have : (fun i => if hx : ∃ j, τ j = τ i then e0'.o hx.choose else e.o (τ i)) = e0'.o := by
      funext i
      have hx : ∃ j, τ j = τ i := ⟨i, rfl⟩
      rw [dif_pos hx, tau_inj _ _ hx.choose_spec]
    rw [this]
  have he'in : ∀ j, e'.o (τ j) = e0'.o j := fun j => congrArg (fun z : Env => z.o j) hvia
  have he'out : ∀ i, i < H.length → i ∉ σ → e'.o i = e.o i := by
    intro i hi hns
    show (if hx : ∃ j, τ j = i then e0'.o hx.choose else e.o i) = e.o i
    rw [dif_neg]
    rintro ⟨j, hj⟩
    subst hj
    exact hns (tau_mem j (tau_lo j hi))
  have hagr : Agr H.length (I0.map τ) M.next e e' := by
    refine ⟨fun i hi hI => ?_, fun i hi => g2.f i hi⟩
    by_cases hin : i ∈ σ
    · obtain ⟨j, hj, rfl⟩ := tau_of i hin
      rw [he'in]
      exact g2.o j (by omega) fun hj0 => hI (List.mem_map.2 ⟨j, hj0, rfl⟩)
    · exact (he'out i hi hin).symm
  have hlen0 : σ.length ≤ H0'.length := by omega
  have hlenL : (liftH H σ H0').length = H.length + (H0'.length - σ.length) := by simp [liftH, updL_length]
  have look : ∀ (i : Nat) b, (liftH H σ H0')[i]? = some (some b) → (i < H.length ∧ i ∉ σ ∧ H[i]? = some (some b)) ∨ ∃ j b0, τ j = i ∧ H0'[j]? = some (some b0) ∧ b = b0.rv τ := by
    intro i b hb
    simp only [liftH, hτ] at hb
    by_cases hi : i < H.length
    · rw [List.getElem?_append_left (by rw [updL_length]; exact hi)] at hb
      by_cases hin : i ∈ σ
      · obtain ⟨j, hj, rfl⟩ := tau_of i hin
        right
        rw [tau_in j hj, updL_in H σ H0' j hj hnd hlt] at hb
        cases h0 : H0'[j]? with
        | none => rw [h0] at hb; simp at hb
        | some ob =>
          cases ob with
          | none => rw [h0] at hb; simp at hb
          | some b0 => rw [h0] at hb; simp at hb; exact ⟨j, b0, rfl, h0, hb.symm⟩
      · left; rw [updL_out H σ H0' hin] at hb; exact ⟨hi, hin, hb⟩
    · right
      rw [List.getElem?_append_right (by rw [updL_length]; omega), updL_length, List.getElem?_map, List.getElem?_drop] at hb
      cases h0 : H0'[σ.length + (i - H.length)]? with
      | none => rw [h0] at hb; simp at hb
      | some ob =>
        cases ob with
        | none => rw [h0] at hb; simp at hb
        | some b0 => rw [h0] at hb; simp at hb; exact ⟨σ.length + (i - H.length), b0, by rw [tau_out _ (by omega)]; omega, h0, hb.symm⟩
  have tau_lt' : ∀ j, j < H0'.length → τ j < (liftH H σ H0').length := by
    intro j hj
    rw [hlenL]
    by_cases hjs : j < σ.length
    · have := tau_lt j hjs; omega
    · rw [tau_out j (by omega)]; omega
  have keep : ∀ (i : Nat) b, i ∉ σ → H[i]? = some (some b) → (e.o i).nil = false → ∀ o, w.heap[(e.o i).blk]? = some o → w'.heap[(e.o i).blk]? = some o := by
    intro i b hns hb hn o ho
    exact g5.fx _ _ (by rw [Fx.with_in (S := (· ∉ σ)) hns hb hn]; exact ho)
  have xnone : ∀ (j : Nat) b0, H0'[j]? = some (some b0) → (e0'.o j).nil = false → X (e0'.o j).blk = none := fun j b0 hb hn => Fx.with_none he (g5.apartX j b0 hb hn)
  have offr : ∀ (i : Nat) b, i ∉ σ → H[i]? = some (some b) → (e.o i).nil = false → ∀ c, (X.with e H w (· ∉ σ)) c = none → c ≠ (e.o i).blk := by
    intro i b hns hb hn c hc heq
    rw [heq, Fx.with_in (S := (· ∉ σ)) hns hb hn] at hc
    have := (he.own i b hb).lt hn
    rw [Array.getElem?_eq_none_iff] at hc; omega
  have hnoI : ∀ (i : Nat) b, i ∉ σ → H[i]? = some (some b) → b.noI (I0.map τ) = true := by
    intro i b hns hb
    rcases hF with rfl | hF
    · cases b with
      | cells cs z => exact noIL_nil cs
      | map es c => simp [Blk.noI, noI_nil]
    · exact hF i b hns hb
  refine ⟨M', e', rv τ v0, liftH H σ H0', g1, hagr, by omega, by rw [g4, cv_rv, hvia], ?_, ?_, hk M' v0 H0' g1 g7⟩
  · refine ⟨g5.os, g5.tape, g5.output, g5.size, ?_, ?_, g5.rosc, ?_, g5.bn, ?_, ?_, ?_, ?_, ?_⟩
    · intro b o hb
      refine g5.fx b o ?_
      unfold Fx.with
      split
      · exact he.fx _ _ hb
      · exact hb
    · intro i cs hi; exact (g5.ro i cs hi).env (g5.rosc i cs hi).2 ⟨fun i hi => absurd hi (by omega), fun _ _ => rfl⟩
    · intro i cs hi hn
      rcases g5.apartF i cs hi hn with hx | hx
      · exact .inl (Fx.with_none he hx)
      · exact .inr hx
    · intro i b hb
      rcases look i b hb with ⟨hi, hns, hb'⟩ | ⟨j, b0, rfl, hb0, rfl⟩
      · rw [he'out i hi hns]
        exact ((he.own i b hb').heap fun hn o ho => keep i b hns hb' hn o ho).noI (he.sc i b hb') (hnoI i b hns hb') hagr
      · rw [he'in]
        have := g5.own j b0 hb0
        rw [← hvia] at this
        have h2 := this.rv
        rwa [hvia] at h2
    · intro i b hb
      rcases look i b hb with ⟨hi, hns, hb'⟩ | ⟨j, b0, rfl, hb0, rfl⟩
      · rw [he'out i hi hns]; exact he.apartX i b hb'
      · rw [he'in]; exact xnone j b0 hb0
    · intro i b hb
      rcases look i b hb with ⟨hi, hns, hb'⟩ | ⟨j, b0, rfl, hb0, rfl⟩
      · rw [he'out i hi hns]
        intro hn l cs hl hln
        rcases g5.apartF l cs hl hln with hx | hx
        · exact offr i b hns hb' hn _ hx
        · have hlt0 : l < M.next := by have := g1.base; have := he.bn; omega
          have hf0 : e.f l = e0'.f l := g2.f l hlt0
          have := he.apartR i b hb' hn l cs (by rw [← g1.old l hlt0]; exact hl)
          rw [hf0] at this
          exact this hln
      · rw [he'in]; exact g5.apartR j b0 hb0
    · intro i i2 b b2 hb hb2
      rcases look i b hb with ⟨hi, hns, hb'⟩ | ⟨j, b0, rfl, hb0, rfl⟩ <;> rcases look i2 b2 hb2 with ⟨hi2, hns2, hb2'⟩ | ⟨j2, b02, rfl, hb02, rfl⟩
      · rw [he'out i hi hns, he'out i2 hi2 hns2]; exact he.inj i i2 b b2 hb' hb2'
      · rw [he'out i hi hns, he'in]
        intro h1 h2 h3
        exact absurd h3.symm (offr i b hns hb' h1 _ (g5.apartX j2 b02 hb02 h2))
      · rw [he'out i2 hi2 hns2, he'in]
        intro h1 h2 h3
        exact absurd h3 (offr i2 b2 hns2 hb2' h2 _ (g5.apartX j b0 hb0 h1))
      · rw [he'in, he'in]; intro h1 h2 h3; rw [g5.inj j j2 b0 b02 hb0 hb02 h1 h2 h3]
    · intro i b hb
      rcases look i b hb with ⟨hi, hns, hb'⟩ | ⟨j, b0, rfl, hb0, rfl⟩
      · exact (he.sc i b hb').mono (by omega) g1.next
      · exact (g5.sc j b0 hb0).rv tau_lt'
  · exact g6.rv tau_lt'
end
end Go.Snb
