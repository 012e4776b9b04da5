/- An evaluator for runs: regions whose order is open: the steps. -/
import Derived.Test.YtpmephcfamcbjaaGreatEvT
namespace Go.Proofs.YtpmephcfamcbjaaGreat.Ev
open Go

section
variable {P : Program} {σ : Nat → Value} {D : Nat → Option DFun} {nt : Nat} {ops : Array Oper} {l : List DOper} {order : List (Nat × List Nat)} {f0 : Nat → Option DV} {outs : List (Fr × St)} {n0 : Nat} {ρ0 : Ren} {w0 : World}
  {listed : Array Bool} {a : Act} {w : World} {evs : List Done} {rest : List (Nat × List Nat)} {f : Fr} {s : St} {ws : List Watch} {ρ : Ren} {m : Nat} {fr : Nat → Fr}

/-- a pair of which the first comes earlier in the evaluator's order -/
structure PairP (ops : Array Oper) (l : List DOper) (i j : Nat) : Prop where
  oi : ∃ o, ops[i]? = some o
  oj : ∃ o, ops[j]? = some o
  ne : i ≠ j
  apart : ∀ o o', ops[i]? = some o → ops[j]? = some o' → o.apart ops o' = true ∨ ((ancs ops.toList []).getD j 0).testBit i = true
  acts : ∀ q, l[i]? = some q → q.op.acts = true → ((ancs ops.toList []).getD j 0).testBit i = true
  edge : ∀ o, ops[i]? = some o → ∀ e ∈ o.after, Region.binds .any e = true → e.on ≠ j
theorem beq_ne {i j : Nat} (h : Nat.beq i j = false) : i ≠ j := fun e => by subst e; rw [Nat.beq_refl] at h; cases h
theorem pairP_of {i j : Nat} (h : pairOk ops l (ancs ops.toList []) i j = true) : PairP ops l i j := by
  unfold pairOk at h
  split at h
  · rename_i oi oj di h1 h2 h3
    simp only [Bool.and_eq_true, Bool.or_eq_true, Bool.not_eq_true', List.all_eq_true] at h
    obtain ⟨⟨⟨g1, g2⟩, g3⟩, g4⟩ := h
    refine ⟨⟨_, h1⟩, ⟨_, h2⟩, beq_ne g1, ?_, ?_, ?_⟩
    · intro o o' e1 e2; rw [h1] at e1; rw [h2] at e2; cases e1; cases e2; exact g2
    · intro q e1 e2; rw [h3] at e1; cases e1
      rcases g3 with g3 | g3
      · rw [e2] at g3; cases g3
      · exact g3
    · intro o e1 e he hb; rw [h1] at e1; cases e1
      have := g4 e (by simpa using he)
      rcases this with h | h
      · rw [hb] at h; cases h
      · exact beq_ne h
  · cases h
theorem pairs_of : ∀ {x : List (Nat × List Nat)}, pairsOk ops l (ancs ops.toList []) x = true → List.Pairwise (PairP ops l) (x.map (·.1))
  | [], _ => List.Pairwise.nil
  | y :: x, h => by
    simp only [pairsOk, Bool.and_eq_true, List.all_eq_true] at h
    rw [List.map_cons, List.pairwise_cons]
    refine ⟨fun z hz => ?_, pairs_of h.2⟩
    obtain ⟨u, hu, rfl⟩ := List.mem_map.1 hz
    exact pairP_of (h.1 u hu)

/-- the region's facts -/
structure Facts (P : Program) (nt : Nat) (ops : Array Oper) (l : List DOper) (order : List (Nat × List Nat)) : Prop where
  comp : compOpers P nt ops ops.toList = some l
  len : order.length = ops.size
  pairs : List.Pairwise (PairP ops l) (order.map (·.1))
  cover : ∀ i, i < ops.size → i ∈ order.map (·.1)
  ones : ∀ x ∈ order, ∃ o, ops[x.1]? = some o ∧ (∀ e ∈ o.after, Region.binds .any e = true → e.on < ops.size ∧ e.on ≠ x.1) ∧ ∀ u ∈ x.2, ((ancs ops.toList []).getD x.1 0).testBit u = true
theorem facts_of (h1 : compOpers P nt ops ops.toList = some l) (h2 : orderOk ops l order = true) : Facts P nt ops l order := by
  unfold orderOk at h2
  simp only [Bool.and_eq_true, List.all_eq_true] at h2
  obtain ⟨⟨⟨⟨g0, g1⟩, g2⟩, g3⟩, g4⟩ := h2
  refine ⟨h1, Nat.eq_of_beq_eq_true g0, pairs_of g4, fun i hi => ?_, fun x hx => ?_⟩
  · have := g1 i (by simpa using hi)
    rw [List.any_eq_true] at this
    obtain ⟨x, hx, he⟩ := this
    exact List.mem_map.2 ⟨x, hx, by simpa using he⟩
  · have := g3 x hx
    unfold oneOk at this
    split at this
    · rename_i o ho
      simp only [Bool.and_eq_true, List.all_eq_true, Bool.or_eq_true, Bool.not_eq_true'] at this
      obtain ⟨⟨k1, k2⟩, k3⟩ := this
      refine ⟨o, ho, fun e he hb => ⟨?_, ?_⟩, k3⟩
      · rcases k1 e (by simpa using he) with h | h
        · rw [hb] at h; cases h
        · exact Nat.le_of_ble_eq_true h
      · rcases k2 e (by simpa using he) with h | h
        · rw [hb] at h; cases h
        · exact beq_ne h
    · cases this
theorem Facts.oper (F : Facts P nt ops l order) {i : Nat} {o : Oper} (h : ops[i]? = some o) : ∃ q, l[i]? = some q ∧ compOp P o = some q.op ∧ q.dst = o.dst ∧ q.guard = gOf ops o ∧ ∀ t, o.dst = some t → t < nt := by
  obtain ⟨q, h1, h2⟩ := (compOpers_spec F.comp).2 i o (by simpa using h)
  exact ⟨q, h1, compOper_spec h2⟩
/-- is an operation, that is not done, ready? -/
def Ready (ops : Array Oper) (listed : Array Bool) (u : Nat) : Prop := u < ops.size ∧ listed.getD u false = false ∧ Pre ops (fun i => listed.getD i false = true) u
theorem Mid.bit (M : Mid σ D nt ops l order f0 outs n0 ρ0 w0 listed a w evs rest f s ws ρ m fr) {u i : Nat} (hr : Pre ops (fun i => listed.getD i false = true) u) (h : ((ancs ops.toList []).getD u 0).testBit i = true) : listed.getD i false = true :=
  anc_done (E := fun i => listed.getD i false = true) M.clos (u + 1) u i (by omega) h hr
theorem not_apart {o o' : Oper} {t : Nat} (h : o.apart ops o' = true) : (o.dst = some t → t ∉ o'.looksAt ops) ∧ (o.dst = some t → o'.dst ≠ some t) ∧ (o'.dst = some t → t ∉ o.looksAt ops) := by
  obtain ⟨h1, h2, h3⟩ := Oper.apart_spec h
  exact ⟨h1 t, h2 t, h3 t⟩
/-- what an operation looks at is what it looked at in the evaluator's order -/
theorem Mid.read (M : Mid σ D nt ops l order f0 outs n0 ρ0 w0 listed a w evs rest f s ws ρ m fr) {pre post : List Done} {u : Nat} {o : Oper}
    (hfil : (evs.filter fun e => listed.getD e.i false) = (pre.filter fun e => listed.getD e.i false) ++ (post.filter fun e => listed.getD e.i false))
    (ho : ops[u]? = some o) (hr : Ready ops listed u) {t : Nat} (ht : t ∈ o.looksAt ops) (hpre : ∀ x ∈ pre, x ∈ evs ∧ PairP ops l x.i u) (hpost : ∀ x ∈ post, x ∈ evs ∧ PairP ops l u x.i) :
    fold f0 pre t = fold f0 (evs.filter fun e => listed.getD e.i false) t := by
  rw [hfil, fold_append]
  rw [fold_none (l := post.filter fun e => listed.getD e.i false)]
  · rw [fold_filter]
    intro x hx hd
    obtain ⟨h1, h2⟩ := hpre x hx
    obtain ⟨ox, h3, h4⟩ := M.dst x h1
    rcases h2.apart ox o h3 ho with h | h
    · exact absurd ht ((not_apart h).1 (by rw [← h4]; exact hd))
    · exact M.bit hr.2.2 h
  · intro y hy hd
    rw [List.mem_filter] at hy
    obtain ⟨h1, h2⟩ := hpost y hy.1
    obtain ⟨oy, h3, h4⟩ := M.dst y h1
    rcases h2.apart o oy ho h3 with h | h
    · exact (not_apart h).2.2 (by rw [← h4]; exact hd) ht
    · have := M.bit (M.clos y.i hy.2) h
      rw [hr.2.1] at this; cases this
theorem Mid.pairEv (F : Facts P nt ops l order) (M : Mid σ D nt ops l order f0 outs n0 ρ0 w0 listed a w evs rest f s ws ρ m fr) {pre post : List Done} {e : Done} (h : evs = pre ++ e :: post) :
    (∀ x ∈ pre, PairP ops l x.i e.i) ∧ (∀ x ∈ post, PairP ops l e.i x.i) := by
  have hp := F.pairs
  rw [M.ord, List.pairwise_append] at hp
  have hp1 := hp.1
  rw [h, List.map_append, List.map_cons, List.pairwise_append, List.pairwise_cons] at hp1
  obtain ⟨_, ⟨h2, _⟩, h3⟩ := hp1
  exact ⟨fun x hx => h3 x.i (List.mem_map.2 ⟨x, hx, rfl⟩) e.i (by simp), fun x hx => h2 x.i (List.mem_map.2 ⟨x, hx, rfl⟩)⟩
theorem Mid.pairRest (F : Facts P nt ops l order) (M : Mid σ D nt ops l order f0 outs n0 ρ0 w0 listed a w evs rest f s ws ρ m fr) {x : Done} {y : Nat × List Nat} (hx : x ∈ evs) (hy : y ∈ rest) : PairP ops l x.i y.1 := by
  have hp := F.pairs
  rw [M.ord, List.pairwise_append] at hp
  exact hp.2.2 x.i (List.mem_map.2 ⟨x, hx, rfl⟩) y.1 (List.mem_map.2 ⟨y, hy, rfl⟩)
theorem getD_set_self {u : Nat} (h : u < listed.size) : (listed.setIfInBounds u true).getD u false = true := by
  rw [Array.getD_eq_getD_getElem?]; simp [h]
theorem getD_set_other {u j : Nat} (h : u ≠ j) : (listed.setIfInBounds u true).getD j false = listed.getD j false := by
  rw [Array.getD_eq_getD_getElem?, Array.getElem?_setIfInBounds_ne h, ← Array.getD_eq_getD_getElem?]
theorem getD_set_mono {u j : Nat} (h : listed.getD j false = true) : (listed.setIfInBounds u true).getD j false = true := by
  by_cases e : u = j
  · subst e
    have : u < listed.size := by
      rcases Nat.lt_or_ge u listed.size with hh | hh
      · exact hh
      · rw [Array.getD_eq_getD_getElem?, Array.getElem?_eq_none hh] at h; cases h
    exact getD_set_self this
  · rw [getD_set_other e]; exact h
/-- a pending operation is run -/
theorem pend_step (hP : NoGor P) (F : Facts P nt ops l order) (M : Mid σ D nt ops l order f0 outs n0 ρ0 w0 listed a w evs rest f s ws ρ m fr) {Q : Exit → Act → World → Prop} {pre post : List Done} {e : Done} (h : evs = pre ++ e :: post) (hr : Ready ops listed e.i)
    {K : Act → World → Prop} (hK : ∀ a' w' ρ', Mid σ D nt ops l order f0 outs n0 ρ0 w0 (listed.setIfInBounds e.i true) a' w' evs rest f s ws ρ' m fr → K a' w') : wpOp P ops Q e.i K a w := by
  obtain ⟨o, ho⟩ : ∃ o, ops[e.i]? = some o := ⟨_, Array.getElem?_eq_getElem hr.1⟩
  obtain ⟨q, hq, hcomp, hdst, hguard, hnt⟩ := F.oper ho
  obtain ⟨q', hq', hfe, hpd⟩ := M.pend pre e post h hr.2.1
  rw [hq] at hq'; cases hq'
  obtain ⟨hpp, hpq⟩ := M.pairEv F h
  have hedst : e.dst = o.dst := by
    obtain ⟨o', h1, h2⟩ := M.dst e (by rw [h]; simp)
    rw [ho] at h1; cases h1; exact h2
  have hfil : (evs.filter fun e => listed.getD e.i false) = (pre.filter fun e => listed.getD e.i false) ++ (post.filter fun e => listed.getD e.i false) := by
    rw [h, List.filter_append, List.filter_cons_of_neg (by rw [hr.2.1]; simp)]
  have hread : ∀ t, t ∈ o.looksAt ops → ∀ v, fget (fr e.i) t = some v → t < a.tmps.size ∧ VRel σ ρ v (a.tmps.getD t undef) := fun t ht v hv => by
    have h1 := hfe t v hv
    rw [M.read hfil ho hr ht (fun x hx => ⟨by rw [h]; simp [hx], hpp x hx⟩) (fun x hx => ⟨by rw [h]; simp [hx], hpq x hx⟩)] at h1
    rw [M.size]; exact M.frame t v h1
  have hinl : e.i < listed.size := by rw [M.lsize]; exact hr.1
  -- memory and what was put
  have done : ∀ (v' : Value) (w' : World) (ρ' : Ren), Rel σ ρ' s w' → Grow n0 s.next ρ0 ρ' → Sub ρ ρ' → Fram ρ0 ρ' w0 w' → VRel σ ρ' e.v v' → (∀ i b c, Watch.bk i b c ∈ ws → i ≠ e.i → ρ b = none → ρ' b = none) → K (a.put o.dst v') w' := fun v' w' ρ' g1 g2 g3 g4 g5 g6 => by
    refine hK _ _ ρ' ⟨M.ord, M.suf, M.run, by simp [M.lsize], ?_, ?_, M.fle, g1, g2, g4, by rw [put_defers']; exact M.defs, by rw [put_size]; exact M.size, ?_, M.dst, ?_, M.boxes, M.boxlt, M.wnum⟩
    · intro j hj o' ho' e' he' hb
      by_cases hje : e.i = j
      · subst hje; exact getD_set_mono (hr.2.2 o' ho' e' he' hb)
      · rw [getD_set_other hje] at hj
        exact getD_set_mono (M.clos j hj o' ho' e' he' hb)
    · intro j hj
      by_cases hje : e.i = j
      · subst hje; rw [h]; simp
      · rw [getD_set_other hje] at hj; exact M.inEv j hj
    · intro t v ht
      have hnpre : ∀ x ∈ pre, e.i ≠ x.i := fun x hx he => (hpp x hx).ne he.symm
      have hnpost : ∀ x ∈ post, e.i ≠ x.i := fun x hx => (hpq x hx).ne
      have hfil2 : (evs.filter fun x => (listed.setIfInBounds e.i true).getD x.i false) = (pre.filter fun x => listed.getD x.i false) ++ e :: (post.filter fun x => listed.getD x.i false) := by
        rw [h, List.filter_append, List.filter_cons_of_pos (by rw [getD_set_self hinl])]
        congr 1
        · exact List.filter_congr fun x hx => by rw [getD_set_other (hnpre x hx)]
        · congr 1; exact List.filter_congr fun x hx => by rw [getD_set_other (hnpost x hx)]
      rw [hfil2, fold_append] at ht
      simp only [fold] at ht
      by_cases hd : e.dst = some t
      · rw [fold_none] at ht
        · unfold upd at ht
          rw [if_pos hd] at ht
          cases ht
          have hlt := hnt t (by rw [← hedst]; exact hd)
          refine ⟨hlt, ?_⟩
          rw [← hedst, hd]
          have : t < a.tmps.size := by rw [M.size]; exact hlt
          simp [Act.put, this]; exact g5
        · intro y hy hyd
          rw [List.mem_filter] at hy
          obtain ⟨oy, h3, h4⟩ := M.dst y (by rw [h]; simp [hy.1])
          rcases (hpq y hy.1).apart o oy ho h3 with hh | hh
          · exact (not_apart hh).2.1 (by rw [← hedst]; exact hd) (by rw [← h4]; exact hyd)
          · have := M.bit (M.clos y.i hy.2) hh
            rw [hr.2.1] at this; cases this
      · have hsame : fold (upd (fold f0 (pre.filter fun x => listed.getD x.i false)) e.dst e.v) (post.filter fun x => listed.getD x.i false) t = fold f0 (evs.filter fun x => listed.getD x.i false) t := by
          rw [hfil, fold_append]
          refine fold_same ?_
          unfold upd; rw [if_neg hd]
        rw [hsame] at ht
        obtain ⟨k1, k2⟩ := M.frame t v ht
        refine ⟨k1, ?_⟩
        have hne : o.dst ≠ some t := by rw [← hedst]; exact hd
        cases hod : o.dst with
        | none => exact k2.sub g3
        | some d0 =>
          have : d0 ≠ t := fun he => hne (by rw [hod, he])
          simp only [Act.put, Array.getD_eq_getD_getElem?] at k2 ⊢
          rw [Array.getElem?_setIfInBounds_ne this]; exact k2.sub g3
    · intro pre' e' post' h' hl'
      have hne : e.i ≠ e'.i := fun he => by rw [← he, getD_set_self hinl] at hl'; cases hl'
      rw [getD_set_other hne] at hl'
      obtain ⟨q', k1, k2, k3⟩ := M.pend pre' e' post' h' hl'
      refine ⟨q', k1, k2, ?_⟩
      rcases k3 with k3 | k3 | ⟨c1, c2, c3, c, mk, b, c4, c5, c6, c7, c8, c9⟩
      · exact .inl k3
      · exact .inr (.inl k3)
      · exact .inr (.inr ⟨c1, c2, c3, c, mk, b, c4, c5, c6, g6 _ b c c9 (Ne.symm hne) c7, c8, c9⟩)
  -- which of the three
  have hgs : ∀ b, guardOk (fr e.i) q.guard = some b → Region.wanted o (yielded ops a.tmps) = b := fun b hb => by
    rw [hguard] at hb
    refine guard_sound (σ := σ) (ρ := ρ) hb fun t ⟨g, hg, hgt⟩ v hv => hread t ?_ v hv
    unfold Oper.looksAt
    rw [hg]
    simp [hgt]
  have hor : ∀ x ∈ o.op.operands, ORel σ ρ (fr e.i) a x := fun x hx => by
    cases x with
    | tmp t =>
      intro d v hd hv
      simp only [opd] at hd; cases hd
      refine (hread t ?_ v hv).2
      unfold Oper.looksAt
      exact List.mem_append_left _ (List.mem_filterMap.2 ⟨.tmp t, by simpa using hx, rfl⟩)
    | _ => exact ORel.const (fun _ h => by cases h)
  unfold wpOp
  simp only [ho]
  rcases hpd with ⟨h1, h2⟩ | ⟨h1, h2, h3, _⟩ | ⟨h1, h2, h3, c, mk, b, h4, h5, h6, h7, h8, h9⟩
  · rw [hgs _ h1]
    simp only [Bool.false_eq_true, if_false]
    exact done undef w ρ M.rel M.grow (Sub.refl _) M.fram (by rw [h2, VRel]; exact ⟨_, rfl, VRels.nil⟩) (fun _ _ _ _ _ h => h)
  · rw [hgs _ h1]
    simp only [if_true]
    left
    have hrun := op_sound (w := w) hP hcomp M.rel hor (fun g vs hs => by rw [h3] at hs; cases hs)
    rw [h3] at hrun
    obtain ⟨v', e1, e2⟩ := hrun
    unfold Oper.wp
    rw [e1]
    exact done v' w ρ M.rel M.grow (Sub.refl _) M.fram e2 (fun _ _ _ _ _ h => h)
  · rw [hgs _ h1]
    simp only [if_true]
    left
    have hrun := op_sound (w := w) hP hcomp M.rel hor (fun g vs hs => by rw [h4] at hs; cases hs)
    rw [h4] at hrun
    obtain ⟨ob, v', N, e1, e2, e3⟩ := hrun
    unfold Oper.wp
    rw [e1]
    have hsub : Sub ρ (ext ρ b (w.heap.size, 0, N)) := ext_sub h7
    refine done v' _ (ext ρ b (w.heap.size, 0, N)) ?_ ?_ hsub ?_ ?_ ?_
    · refine ⟨fun b' B d N' hb' => ?_, fun b' B d N' x hb' hx => ?_, fun b1 b2 x1 x2 hb1 hb2 he k1 k2 => ?_⟩
      · unfold ext at hb'
        split at hb'
        · cases hb'; subst b'; exact ⟨h8, by simp⟩
        · have := M.rel.lt _ _ _ _ hb'; exact ⟨this.1, by simp; omega⟩
      · unfold ext at hb'
        split at hb'
        · cases hb'; subst b'
          rw [h6] at hx; cases hx
          have : (w.alloc ob).heap[w.heap.size]? = some ob := by show (w.heap.push ob)[w.heap.size]? = _; simp
          rw [this]; exact e2.sub hsub
        · have h3 := M.rel.lt _ _ _ _ hb'
          have : (w.alloc ob).heap[B]? = w.heap[B]? := by show (w.heap.push ob)[B]? = _; rw [Array.getElem?_push, if_neg (by omega)]
          rw [this]; exact (M.rel.blk _ _ _ _ _ hb' hx).sub hsub
      · unfold ext at hb1 hb2
        by_cases q1 : b1 = b <;> by_cases q2 : b2 = b
        · rw [q1, q2]
        · rw [if_pos q1] at hb1; rw [if_neg q2] at hb2; cases hb1
          have := M.rel.lt _ _ _ _ hb2; simp at he; omega
        · rw [if_neg q1] at hb1; rw [if_pos q2] at hb2; cases hb2
          have := M.rel.lt _ _ _ _ hb1; simp at he; omega
        · rw [if_neg q1] at hb1; rw [if_neg q2] at hb2
          exact M.rel.inj _ _ _ _ hb1 hb2 he k1 k2
    · exact ⟨M.grow.1.trans hsub, M.grow.2.1, fun x hx => by
        unfold ext
        have := (M.boxlt _ _ _ h9).1
        rw [if_neg (by omega)]; exact M.grow.2.2 x hx⟩
    · refine M.fram.trans ⟨rfl, rfl, rfl, by simp, fun k hk _ => ?_, fun b' x hb' => ?_⟩
      · show (w.heap.push ob)[k]? = _; rw [Array.getElem?_push, if_neg (by omega)]
      · unfold ext at hb'
        split at hb'
        · cases hb'; exact .inr (Nat.le_refl _)
        · exact .inl ⟨b', x, hb', rfl⟩
    · rw [h5]; exact e3 _ _ ext_self hsub
    · intro i b' c' hm hi hb'
      unfold ext
      rw [if_neg]
      · exact hb'
      · rintro rfl
        exact hi (M.boxes _ _ _ _ _ _ hm h9 rfl).1
end
end Go.Proofs.YtpmephcfamcbjaaGreat.Ev
