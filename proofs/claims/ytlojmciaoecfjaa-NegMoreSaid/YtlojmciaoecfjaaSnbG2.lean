/- Append: the row goes over into a new label. -/
import Derived.Test.YtlojmciaoecfjaaSnbG
set_option linter.all false
namespace Go.Snb
open Go
section
variable {P : Program}
variable {N : Nat} {M : Mem} {F : Fr} {H : Hp} {K : Mem → List Nat → Value → Hp → Prop} {X : Fx} {e : Env} {a : Act} {w : World} {next : Act → World → Prop} {Q : Exit → Act → World → Prop} {o : Oper}

theorem len_set (H : Hp) (l : Nat) (x : Option Blk) : (H.set l x).length = H.length := List.length_set

/-- In place: the block of a label goes over to a new one. -/
theorem Emb.appIn (he : Emb M X e H w) {l o0 n c m sz z' : Nat} {s : Option Nat} {cs xs : List Value} (hl : H[l]? = some (some (.cells cs z'))) (hs : s = none ∨ s = some 1) (hz : z' = 0 ∨ z' = sz) (hnc : n ≤ c) (hc : o0 + c * sz ≤ cs.length)
    (hcs : s = none → z' ≠ 0 → o0 + c * sz = cs.length) (hsz : 0 < sz) (hx : xs.length = m * sz) (hone : xs.all one = true) (hxs : ∀ v ∈ xs, Sc H.length M.next v) {rc : Nat} (hrc : rc = realC e c (some ⟨l, o0, s⟩)) (hfit : n + m ≤ rc) (hnil : (e.o l).nil = false) :
    ∃ w', (storeCells ((adr e ⟨l, o0, s⟩).add (n * sz)) (xs.map (cv e))).run P w = .ok () w' ∧
      Emb M X (ext e H.length ⟨(e.o l).blk, (e.o l).base + o0, rc - (n + m), false⟩) (H.set l none ++ [some (.cells ((cs.drop o0).take (n * sz) ++ xs) sz)]) w' := by
  have hadr : adr e ⟨l, o0, s⟩ = ⟨(e.o l).blk, (e.o l).base + o0, none⟩ := by rcases hs with rfl | rfl <;> rfl
  rcases he.own l _ hl with ⟨h2, _⟩ | ⟨_, hz0, ⟨arr, T, ha⟩, arr2, T2, f2, ha2, hsize, hget⟩
  · rw [hnil] at h2; cases h2
  rw [ha] at ha2
  obtain ⟨rfl, rfl, rfl⟩ : arr = arr2 ∧ T = T2 ∧ (0, 0) = f2 := by simpa using ha2
  have hroom : o0 + rc * sz ≤ cs.length + (e.o l).more * z' := by
    rw [hrc]
    simp only [realC, moreOf]
    rcases hs with rfl | rfl
    · simp only
      rcases hz with rfl | rfl
      · rw [hz0 rfl]; simpa using hc
      · have := hcs rfl (by omega)
        rw [Nat.add_mul]; omega
    · simp only [Nat.add_zero]; omega
  have hnm : (n + m) * sz ≤ rc * sz := Nat.mul_le_mul_right _ hfit
  have hncs : n * sz ≤ c * sz := Nat.mul_le_mul_right _ hnc
  rw [Nat.add_mul] at hnm
  obtain ⟨w', arr', hr, ho, ht, hp, hd, hsz', hh, hb2, hs2, h3, h4⟩ := storeCells_run (P := P) (xs.map (cv e)) w arr ((e.o l).base + o0 + n * sz) 0 ha
    (by intro u hu; simp only [List.mem_map] at hu; obtain ⟨u', hu', rfl⟩ := hu; rw [one_cv]; exact List.all_eq_true.1 hone u' hu') (by simp only [List.length_map, hx]; omega)
  refine ⟨w', by rw [hadr, add_adr]; exact hr, ?_⟩
  have hd := he.drop l
  have hadd := hd.add (w' := w') (.cells ((cs.drop o0).take (n * sz) ++ xs) sz) ⟨(e.o l).blk, (e.o l).base + o0, rc - (n + m), false⟩ ?_ ho ht hp (by omega) ?_ ?_ ?_ ?_ ?_
  · rwa [len_set] at hadd
  · intro v hv
    rw [len_set]
    rcases List.mem_append.1 hv with hv | hv
    · exact he.sc l _ hl v (List.mem_of_mem_drop (List.mem_of_mem_take hv))
    · exact hxs v hv
  · intro b ob hb hob
    rcases hb with hb | hb
    · cases hb
    · rw [hh b hb]; exact hob
  · refine .inr ⟨rfl, fun h0 => by omega, ⟨arr', T, hb2⟩, arr', T, (0, 0), hb2, ?_, ?_⟩
    · have h5 : (rc - (n + m)) * sz = rc * sz - (n * sz + m * sz) := by rw [Nat.sub_mul, Nat.add_mul]
      simp only [List.length_append, List.length_take, List.length_drop, hx, hs2]
      rw [h5]
      omega
    · intro j v hj
      simp only at hj ⊢
      have hlen1 : ((cs.drop o0).take (n * sz)).length = n * sz := by simp; omega
      by_cases hjn : j < n * sz
      · rw [List.getElem?_append_left (by omega), List.getElem?_take, if_pos hjn, List.getElem?_drop] at hj
        rw [h3 _ (by omega)]
        have := hget _ _ hj
        rwa [show (e.o l).base + (o0 + j) = (e.o l).base + o0 + j by omega] at this
      · rw [List.getElem?_append_right (by omega), hlen1] at hj
        have := h4 (j - n * sz) (cv e v) (by rw [List.getElem?_map, hj]; rfl)
        rwa [show (e.o l).base + o0 + n * sz + 0 + (j - n * sz) = (e.o l).base + o0 + j by omega] at this
  · intro _; exact he.apartX l _ hl hnil
  · intro _ j cs hj hn; exact he.apartR l _ hl hnil j cs hj hn
  · intro _ i k hi hn
    rcases look_set hi with ⟨hne, hi'⟩ | ⟨_, h, _⟩
    · intro hb; exact hne (he.inj i l k _ hi' hl hn hnil hb)
    · cases h

/-- A label of a nil slice. -/
theorem Emb.addNil (he : Emb M X e H w) {z : Nat} (hz : z ≠ 0) : Emb M X (ext e H.length ⟨0, 0, 0, true⟩) (H ++ [some (.cells [] z)]) w :=
  he.add _ _ (by intro v hv; cases hv) rfl rfl rfl (Nat.le_refl _) (fun _ _ _ h => h) (.inl ⟨rfl, rfl, rfl, hz⟩) (by simp) (by simp) (by simp)
theorem cv_newnil (e : Env) (n k c : Nat) : cv (ext e n ⟨0, 0, 0, true⟩) (.slice (some ⟨n, 0, none⟩) k c) = .slice none k c := by simp [slV, locOf, moreOf]
theorem cv_newat (e : Env) (n b o k c m : Nat) : cv (ext e n ⟨b, o, m, false⟩) (.slice (some ⟨n, 0, none⟩) k c) = .slice (some ⟨b, o, none⟩) k (c + m) := by simp [slV, locOf, moreOf, adr]

theorem evOp_append {args : Array Operand} {ts : Array TypeId} (h : evOp P (.call ⟨.builtin .append, args, ts⟩) M F H K) (ho : o.op = .call ⟨.builtin .append, args, ts⟩) (hr : Rel N M X e F H a w) (ht : Then M X e H a o.dst K next) : o.wp P a w next Q := by
  obtain ⟨l, h1, h2, hq⟩ := withL_run _ _ h
  obtain ⟨ts⟩ := ts
  have e1 : args.map a.eval = (l.map (cv e)).toArray := by apply Array.ext'; rw [Array.toList_map]; exact h1 e N a hr.fr
  unfold evAppend at hq
  split at hq
  · rename_i t xt sa n c x heq1
    try simp only at heq1
    subst heq1
    obtain ⟨el, sz, z, by', u1, u2, u3, u4, u5, u6, hszp, hbyp, hx⟩ := hq
    obtain ⟨ti, i1, i2, i3⟩ := run_bytes (P := P) u6 w
    have hi1 : ∀ w1, (typeInfo el).run P w1 = .ok ti w1 := by
      intro w1
      obtain ⟨ti', j1, j2, j3⟩ := run_bytes (P := P) u6 w1
      rw [j1]
      rw [i3] at j3
      cases j3
      rfl
    generalize hB : realB e sa = B
    generalize hC : realC e c sa = rc
    have hemb1 : Emb M X e H { w with drawn := w.drawn + 1 } := hr.emb.drawn _
    -- what is appended, and the machine's way up to the question whether it fits
    have key : ∃ m xs, (∀ v ∈ xs, Sc H.length M.next v) ∧ xs.length = m * sz ∧ (xs.all one = true ∧ (n + m) * by' ≤ 2 ^ 47 ∧
        evAppTo sa n m c sz xs M H (fun M v H => K M [] v H)) ∧
        (∀ w' v, n + m ≤ rc → ((match B with | some a => (do storeCells (a.add (n * sz)) (xs.map (cv e)); pure (.slice B (n + m) rc)) | _ => pure (.slice B (n + m) rc) : Sem Value).run P w = .ok v w') → (execOp a.eval o).run P w = .ok (.value v) w') ∧
        (rc < n + m → (n + m) * by' ≤ 2 ^ 47 → ∀ os : List Value, (Builtin.firstCells sz n (.slice B n rc)).run P { w with drawn := w.drawn + 1 } = .ok os.toArray { w with drawn := w.drawn + 1 } → ∃ c' post, n + m ≤ c' ∧ (c' - (n + m)) * sz ≤ post.length ∧
          (execOp a.eval o).run P w = .ok (.value (.slice (some ⟨w.heap.size, 0, none⟩) (n + m) c')) (({ w with drawn := w.drawn + 1 } : World).alloc (.cells (os ++ xs.map (cv e) ++ post).toArray el (0, 0)))) := by
      unfold evApXs at hx
      split at hx
      · rename_i b m d
        obtain ⟨⟨el', u8⟩, hx⟩ := hx
        obtain ⟨xs, x1, x2, x3, hxl, hin⟩ := evRead_run (P := P) hx
        have hxs := x2 hr.emb.scH
        have hfc : ∀ w1, Emb M X e H w1 → (Builtin.firstCells sz m (.slice (realB e b) m (realC e d b))).run P w1 = .ok (xs.map (cv e)).toArray w1 := fun w1 hw1 => by have := x1 X e w1 hw1 m d; rwa [cv_sl] at this
        refine ⟨m, xs, hxs, hxl, hin, ?_, ?_⟩
        · intro w' v hfit hv
          simp only [execOp, ho, resolve, e1, Sem.run_bind, Sem.run_pure, Result.andThen_ok, invoke, builtin, Builtin.append_, List.map_cons, List.map_nil, cv_sl, hB, hC]
          simp only [List.getElem?_toArray, List.getElem?_cons_zero, List.getElem?_cons_succ, Sem.run_bind, run_underlying' u1, Result.andThen_ok, run_sizeOf' u2, run_underlying' u8, Sem.run_pure, Bool.false_eq_true, if_false, Builtin.lenOf]
          rw [if_pos hfit]
          simp only [Bool.not_false, if_true, Sem.run_bind, hfc w hr.emb, Result.andThen_ok]
          cases B <;> simp only at hv ⊢ <;> rw [hv] <;> rfl
        · intro hgr hby2 os hos
          have hncap : Builtin.nextslicecap (n + m) rc * by' ≤ 281474976710656 := growslice_fits hgr (by omega)
          refine ⟨(Question.appendCap (n + m) rc el).cut (w.tape w.drawn (Question.appendCap (n + m) rc el)), zl (cellsL z) ((Question.appendCap (n + m) rc el).cut (w.tape w.drawn (Question.appendCap (n + m) rc el)) - (n + m)), by simp only [Question.cut]; omega, by rw [zl_length, u5]; omega, ?_⟩
          simp only [execOp, ho, resolve, e1, Sem.run_bind, Sem.run_pure, Result.andThen_ok, invoke, builtin, Builtin.append_, List.map_cons, List.map_nil, cv_sl, hB, hC]
          simp only [List.getElem?_toArray, List.getElem?_cons_zero, List.getElem?_cons_succ, Sem.run_bind, run_underlying' u1, Result.andThen_ok, run_sizeOf' u2, run_underlying' u8, Sem.run_pure, Bool.false_eq_true, if_false, Builtin.lenOf]
          rw [if_neg (by omega)]
          simp only [Sem.run_bind, i1, Result.andThen_ok, i2]
          rw [if_neg (by rintro ⟨_, h | h⟩; exact h; omega)]
          simp only [Sem.run_bind, i1, Result.andThen_ok, i2]
          rw [if_neg (by omega)]
          simp only [Sem.run_bind, run_choose, Question.forced, Bool.false_eq_true, if_false, Result.andThen_ok]
          show Result.andThen (Result.andThen ((typeInfo el).run P { w with drawn := w.drawn + 1 }) _) _ = _
          rw [hi1]
          simp only [Result.andThen_ok, run_askRoom]
          show Result.andThen (Result.andThen ((Builtin.firstCells sz n (.slice B n rc)).run P { w with drawn := w.drawn + 1 }) _) _ = _
          rw [hos]
          simp only [Result.andThen_ok, Bool.not_false, if_true, hfc _ hemb1, run_zero' u3, newRow, Sem.run_bind, run_newObj, Sem.run_pure, alloc_obj, zeroCells_eq, List.append_toArray]
      · rename_i ik0 lz
        obtain ⟨⟨ik, u8⟩, hl0, hlb, _, hin⟩ := hx
        have hwl : IntKind.i64.wrap lz = lz := by
          have : lz ≤ lz * by' := by
            have hb1 : (1 : Int) ≤ by' := by omega
            have := Int.mul_le_mul_of_nonneg_left hb1 hl0
            omega
          simp [IntKind.wrap, IntKind.bits, IntKind.signed]; omega
        have hzs : ∀ v ∈ zl (cellsL z) lz.toNat, Sc H.length M.next v := fun v hv e e' _ => by rw [flat_agg_all u4 v (zl_mem hv) e, flat_agg_all u4 v (zl_mem hv) e']
        have hzc : (zl (cellsL z) lz.toNat).map (cv e) = zl (cellsL z) lz.toNat := by
          rw [List.map_congr_left (g := id) fun v hv => flat_agg_all u4 v (zl_mem hv) e]
          simp
        have happ : ∀ w1 : World, ((if lz.toNat * sz = 0 then pure #[] else do pure (Builtin.zeroCells (← zeroValue el).cells lz.toNat) : Sem (Array Value))).run P w1 = .ok (zl (cellsL z) lz.toNat).toArray w1 := by
          intro w1
          split
          · rename_i h0
            have : zl (cellsL z) lz.toNat = [] := List.length_eq_zero_iff.1 (by rw [zl_length, u5, h0])
            rw [this]; rfl
          · simp only [Sem.run_bind, run_zero' u3, Result.andThen_ok, Sem.run_pure, zeroCells_eq]
        refine ⟨lz.toNat, _, hzs, by rw [zl_length, u5], hin, ?_, ?_⟩
        · intro w' v hfit hv
          rw [hzc] at hv
          simp only [execOp, ho, resolve, e1, Sem.run_bind, Sem.run_pure, Result.andThen_ok, invoke, builtin, Builtin.append_, List.map_cons, List.map_nil, cv_sl, cv_int, hB, hC]
          simp only [List.getElem?_toArray, List.getElem?_cons_zero, List.getElem?_cons_succ, Sem.run_bind, run_underlying' u1, Result.andThen_ok, run_sizeOf' u2, run_underlying' u8, Sem.run_pure, if_true, asInt, asIntOf, hwl]
          rw [if_neg (by omega)]
          simp only [Sem.run_bind, i1, Result.andThen_ok, i2, Sem.run_pure]
          rw [if_neg (by omega)]
          simp only [Sem.run_bind, Result.andThen_ok, Sem.run_pure]
          rw [if_pos hfit]
          simp only [Bool.not_true, Bool.false_eq_true, if_false, Sem.run_bind, happ w, Result.andThen_ok]
          cases B <;> simp only at hv ⊢ <;> rw [hv] <;> rfl
        · intro hgr hby2 os hos
          rw [hzc]
          have hncap : Builtin.nextslicecap (n + lz.toNat) rc * by' ≤ 281474976710656 := growslice_fits hgr (by omega)
          have hbig : n + lz.toNat ≤ 2 ^ 47 := by
            have : n + lz.toNat ≤ (n + lz.toNat) * by' := Nat.le_mul_of_pos_right _ hbyp
            omega
          refine ⟨(Question.appendCap (n + lz.toNat) rc el).cut (w.tape w.drawn (Question.appendCap (n + lz.toNat) rc el)), zl (cellsL z) ((Question.appendCap (n + lz.toNat) rc el).cut (w.tape w.drawn (Question.appendCap (n + lz.toNat) rc el)) - (n + lz.toNat)), by simp only [Question.cut]; omega, by rw [zl_length, u5]; omega, ?_⟩
          simp only [execOp, ho, resolve, e1, Sem.run_bind, Sem.run_pure, Result.andThen_ok, invoke, builtin, Builtin.append_, List.map_cons, List.map_nil, cv_sl, cv_int, hB, hC]
          simp only [List.getElem?_toArray, List.getElem?_cons_zero, List.getElem?_cons_succ, Sem.run_bind, run_underlying' u1, Result.andThen_ok, run_sizeOf' u2, run_underlying' u8, Sem.run_pure, if_true, asInt, asIntOf, hwl]
          rw [if_neg (by omega)]
          simp only [Sem.run_bind, i1, Result.andThen_ok, i2, Sem.run_pure]
          rw [if_neg (by omega)]
          simp only [Sem.run_bind, Result.andThen_ok, Sem.run_pure]
          rw [if_neg (by omega)]
          simp only [Sem.run_bind, i1, Result.andThen_ok, i2]
          rw [if_neg (by rintro ⟨h, _⟩; simp [IntKind.max, IntKind.bits, IntKind.signed] at h; omega)]
          simp only [Sem.run_bind, i1, Result.andThen_ok, i2]
          rw [if_neg (by omega)]
          simp only [Sem.run_bind, run_choose, Question.forced, Bool.false_eq_true, if_false, Result.andThen_ok]
          show Result.andThen (Result.andThen ((typeInfo el).run P { w with drawn := w.drawn + 1 }) _) _ = _
          rw [hi1]
          simp only [Result.andThen_ok, run_askRoom]
          show Result.andThen (Result.andThen ((Builtin.firstCells sz n (.slice B n rc)).run P { w with drawn := w.drawn + 1 }) _) _ = _
          rw [hos]
          simp only [Result.andThen_ok, Bool.not_true, Bool.false_eq_true, if_false, happ]
          simp only [Result.andThen_ok, run_zero' u3, newRow, Sem.run_bind, run_newObj, Sem.run_pure, alloc_obj, zeroCells_eq, List.append_toArray]
      · exact hx.elim
    obtain ⟨m, xs, hxs, hxl, ⟨hone, hby2, hk⟩, hpre, hgrow⟩ := key
    -- a new block
    have fresh : ∀ (H1 : Hp) (os : List Value), H1.length = H.length → Emb M X e H1 { w with drawn := w.drawn + 1 } → rc < n + m → (∀ v ∈ os, Sc H.length M.next v) →
        (Builtin.firstCells sz n (.slice B n rc)).run P { w with drawn := w.drawn + 1 } = .ok (os.map (cv e)).toArray { w with drawn := w.drawn + 1 } →
        K M [] (.slice (some ⟨H.length, 0, none⟩) (n + m) (n + m)) (H1 ++ [some (.cells (os ++ xs) sz)]) → o.wp P a w next Q := by
      intro H1 os hlen1 hemb hg hos hrd hk
      obtain ⟨c', post, hc', hpost, hrun⟩ := hgrow hg hby2 _ hrd
      have ht1 : Then M X e H1 a o.dst K next := by
        intro M' e' I v H' w' g1 g2 g3 g4 g5 g6
        rw [hlen1] at g2 g3
        exact ht M' e' I v H' w' g1 g2 g3 g4 g5 g6
      have hn := ht1.alloc (T := el) hemb (cs := os ++ xs) (z := sz) (more := c' - (n + m)) post hpost (fun h => by omega) (by
        intro v hv
        rw [hlen1]
        rcases List.mem_append.1 hv with hv | hv
        · exact hos v hv
        · exact hxs v hv) (v := .slice (some ⟨H.length, 0, none⟩) (n + m) (n + m)) (by rw [hlen1]; exact Sc_ownslice (by omega)) hk
      refine wp_value hrun ?_
      rw [hlen1] at hn
      rw [cv_news, show n + m + (c' - (n + m)) = c' by omega] at hn
      simpa [List.map_append] using hn
    have nilNew : ∀ (H1 : Hp), H1.length = H.length → Emb M X e H1 w → K M [] (.slice (some ⟨H.length, 0, none⟩) 0 0) (H1 ++ [some (.cells [] sz)]) → next (a.put o.dst (.slice none 0 0)) w := by
      intro H1 hlen1 hemb hk
      have := ht M (ext e H.length ⟨0, 0, 0, true⟩) [] _ _ w (.refl M) (ext_agr _ _ _ _) (by simp [hlen1]) (by have := hemb.addNil (z := sz) (by omega); rwa [hlen1] at this) (by simp only [List.length_append, hlen1]; exact Sc_ownslice (by simp)) hk
      rwa [cv_newnil] at this
    unfold evAppTo at hk
    cases sa with
    | none =>
      obtain ⟨rfl, rfl, hk⟩ := hk
      have hB' : B = none := by rw [← hB]; rfl
      have hC' : rc = 0 := by rw [← hC]; rfl
      subst hB'
      subst hC'
      by_cases hm : m = 0
      · subst hm
        have hxe : xs = [] := List.length_eq_zero_iff.1 (by rw [hxl]; omega)
        subst hxe
        exact wp_value (hpre w (.slice none 0 0) (by omega) (by simp)) (nilNew H rfl hr.emb hk)
      · refine fresh H [] rfl hemb1 (by omega) (by simp) (by simp [Builtin.firstCells]) ?_
        simpa using hk
    | some b =>
      obtain ⟨l0, o0, s0⟩ := b
      by_cases hown : s0 = none ∨ s0 = some 1
      · simp only at hk
        rw [if_pos hown] at hk
        obtain ⟨cs, z', hl, hz, hnc, hc, hcs, hk⟩ := hk
        have hncs : n * sz ≤ c * sz := Nat.mul_le_mul_right _ hnc
        have hrow : rowOf M H ⟨l0, o0, s0⟩ = some cs := by rcases hown with rfl | rfl <;> simp [rowOf, hl]
        have hloc : locOf e ⟨l0, o0, s0⟩ = e.o l0 := by rcases hown with rfl | rfl <;> rfl
        by_cases hfit : n + m ≤ rc
        · cases hnil : (e.o l0).nil with
          | true =>
            have hce := rowOf_nil hr.emb hrow (by rw [hloc]; exact hnil)
            subst hce
            have hc0 : c = 0 := by
              simp only [List.length_nil] at hc
              have : c * sz = 0 := by omega
              rcases Nat.mul_eq_zero.1 this with h | h <;> omega
            have hm0 : moreOf e ⟨l0, o0, s0⟩ = 0 := by
              rcases hr.emb.own l0 _ hl with ⟨_, _, h, _⟩ | ⟨h, _⟩
              · rcases hown with rfl | rfl
                · exact h
                · rfl
              · rw [hnil] at h; cases h
            have hrc0 : rc = 0 := by rw [← hC]; simp [realC, hc0, hm0]
            obtain ⟨rfl, rfl⟩ : n = 0 ∧ m = 0 := by omega
            have hxe : xs = [] := List.length_eq_zero_iff.1 (by rw [hxl]; omega)
            subst hxe
            have hB' : B = none := by rw [← hB]; simp [realB, hloc, hnil]
            subst hB'
            subst hrc0
            refine wp_value (hpre w (.slice none 0 0) (by omega) (by simp)) (nilNew (H.set l0 none) (len_set _ _ _) (hr.emb.drop l0) ?_)
            simpa using hk
          | false =>
            obtain ⟨w', hst, hemb⟩ := hr.emb.appIn (P := P) hl hown hz hnc hc hcs hszp hxl hone hxs hC.symm hfit hnil
            have hB' : B = some (adr e ⟨l0, o0, s0⟩) := by rw [← hB]; simp [realB, hloc, hnil]
            have hadr : adr e ⟨l0, o0, s0⟩ = ⟨(e.o l0).blk, (e.o l0).base + o0, none⟩ := by rcases hown with rfl | rfl <;> rfl
            subst hB'
            refine wp_value (hpre w' (.slice (some (adr e ⟨l0, o0, s0⟩)) (n + m) rc) hfit (by simp only [Sem.run_bind, hst, Result.andThen_ok, Sem.run_pure])) ?_
            have := ht M _ [] (.slice (some ⟨H.length, 0, none⟩) (n + m) (n + m)) _ w' (.refl M) (ext_agr _ _ _ _) (by simp) hemb (by simp only [List.length_append, len_set]; exact Sc_ownslice (by simp)) hk
            rwa [cv_newat, show n + m + (rc - (n + m)) = rc by omega, ← hadr] at this
        · refine fresh (H.set l0 none) ((cs.drop o0).take (n * sz)) (len_set _ _ _) ((hr.emb.drop l0).drawn _) (by omega) (fun v hv => hr.emb.sc l0 _ hl v (List.mem_of_mem_drop (List.mem_of_mem_take hv))) ?_ hk
          have hrd : evRead M H sz (some ⟨l0, o0, s0⟩) n fun us => us = (cs.drop o0).take (n * sz) := ⟨cs, hrow, by simp only; omega, rfl⟩
          obtain ⟨us, r1, _, _, rfl⟩ := evRead_run (P := P) hrd
          have := r1 X e _ hemb1 n c
          rwa [cv_sl, hB, hC] at this
      · simp only at hk
        rw [if_neg hown] at hk
        by_cases hm : m = 0
        · subst hm
          have hxe : xs = [] := List.length_eq_zero_iff.1 (by rw [hxl]; omega)
          subst hxe
          obtain ⟨hnc, hk0⟩ := hk.1 rfl
          have hn := ht.here hr.emb (v := .slice (some ⟨l0, o0, s0⟩) n c) (h2 _ _ hr.sc _ (.head _)) hk0
          rw [cv_sl, hB, hC] at hn
          refine wp_value (hpre w (.slice B n rc) (by rw [← hC]; simp [realC]; omega) ?_) hn
          cases B <;> simp [storeCells]
        · obtain ⟨rfl, hgr, cs, hrow, hlen, hk⟩ := hk.2 hm
          have hrc2 : rc = c := by rw [← hC]; simp [realC, moreOf]
          refine fresh H ((cs.drop o0).take (n * sz)) rfl hemb1 (by omega) (fun v hv => hr.emb.scH.row hrow v (List.mem_of_mem_drop (List.mem_of_mem_take hv))) ?_ hk
          have hrd : evRead M H sz (some ⟨l0, o0, some 2⟩) n fun us => us = (cs.drop o0).take (n * sz) := ⟨cs, hrow, hlen, rfl⟩
          obtain ⟨us, r1, _, _, rfl⟩ := evRead_run (P := P) hrd
          have := r1 X e _ hemb1 n c
          rwa [cv_sl, hB, hC] at this
  · exact hq.elim

/-- **Every operation.** -/
theorem evOp_run {op : Op} (h : evOp P op M F H K) (ho : o.op = op) (hr : Rel N M X e F H a w) (ht : Then M X e H a o.dst K next) : o.wp P a w next Q := by
  unfold evOp at h
  split at h
  · exact evOp_alloc h ho hr ht
  · exact evOp_box h ho hr ht
  · exact evOp_buildSlice h ho hr ht
  · exact evOp_store h ho hr ht
  · exact evOp_makeSlice h ho hr ht
  · exact evOp_append h ho hr ht
  · exact evOp_copy h ho hr ht
  · exact evOp_call h ho hr ht
  · exact evOp_quiet h ho hr ht
end
end Go.Snb
