/- An evaluator for runs: regions whose order is open: any order. -/
import Derived.Test.YtpmephcfamcbjaaGreatEvV
namespace Go.Proofs.YtpmephcfamcbjaaGreat.Ev
open Go

section
variable {P : Program} {σ : Nat → Value} {D : Nat → Option DFun} {nt : Nat} {ops : Array Oper} {l : List DOper} {order : List (Nat × List Nat)} {f0 : Nat → Option DV} {outs : List (Fr × St)} {n0 : Nat} {ρ0 : Ren} {w0 : World}
  {listed : Array Bool} {a : Act} {w : World} {evs : List Done} {rest : List (Nat × List Nat)} {f : Fr} {s : St} {ws : List Watch} {ρ : Ren} {m : Nat} {fr : Nat → Fr}

theorem sem1_acts {op : DOp} (h1 : op.acts = true) (f : Fr) (s : St) : sem1 op f s = .fail ∨ (∃ v s', sem1 op f s = .upd v s') ∨ (∃ lo, sem1 op f s = .fork lo) ∨ ∃ g args, sem1 op f s = .call g args := by
  have hofS : ∀ x : Option St, Res.ofS x = .fail ∨ (∃ v s', Res.ofS x = .upd v s') ∨ (∃ lo, Res.ofS x = .fork lo) ∨ ∃ g args, Res.ofS x = .call g args := fun x => by
    cases x with
    | none => exact .inl rfl
    | some v => exact .inr (.inl ⟨_, _, rfl⟩)
  have hofU : ∀ x : Option (DV × St), Res.ofU x = .fail ∨ (∃ v s', Res.ofU x = .upd v s') ∨ (∃ lo, Res.ofU x = .fork lo) ∨ ∃ g args, Res.ofU x = .call g args := fun x => by
    cases x with
    | none => exact .inl rfl
    | some v => exact .inr (.inl ⟨_, _, rfl⟩)
  cases op <;> simp [DOp.acts] at h1 <;> simp only [sem1]
  all_goals (repeat' split)
  all_goals (first
    | exact .inl rfl
    | exact .inr (.inl ⟨_, _, rfl⟩)
    | exact .inr (.inr (.inl ⟨_, rfl⟩))
    | exact .inr (.inr (.inr ⟨_, _, rfl⟩))
    | exact hofS _
    | exact hofU _)
/-- the next operation of the evaluator's order, where it acts: it is run -/
theorem chain_step (hP : NoGor P) (hD : ∀ g fn, D g = some fn → compF P g = some fn) (F : Facts P nt ops l order) {u : Nat} {dr : List Nat} {rest' : List (Nat × List Nat)} (M : Mid σ D nt ops l order f0 outs n0 ρ0 w0 listed a w evs ((u, dr) :: rest') f s ws ρ m fr) (hcalls : ∀ k, k < m → CallOk P σ D k) (hr : Ready ops listed u)
    {q : DOper} (hq0 : l[u]? = some q) (hacts : q.op.acts = true) (hg : guardOk f q.guard ≠ some false) {Q : Exit → Act → World → Prop}
    {K : Act → World → Prop} (hK : ∀ a' w' e f' s' ws' ρ' m', m' ≤ m → Mid σ D nt ops l order f0 outs n0 ρ0 w0 (listed.setIfInBounds u true) a' w' (evs ++ [e]) rest' f' s' ws' ρ' m' fr → K a' w') : wpOp P ops Q u K a w := by
  obtain ⟨o, ho⟩ : ∃ o, ops[u]? = some o := ⟨_, Array.getElem?_eq_getElem hr.1⟩
  obtain ⟨q', hq', hcomp, hdst, hguard, hnt⟩ := F.oper ho
  rw [hq0] at hq'; cases hq'
  obtain ⟨outs', hrun, hout⟩ := M.run
  cases m with
  | zero => simp [runDraw] at hrun
  | succ m =>
  simp only [runDraw, hq0] at hrun
  have hpr : ∀ x ∈ evs, PairP ops l x.i u := fun x hx => M.pairRest F hx (y := (u, dr)) (by simp)
  have hread : ∀ t, t ∈ o.looksAt ops → ∀ v, fget f t = some v → t < a.tmps.size ∧ VRel σ ρ v (a.tmps.getD t undef) := fun t ht v hv => by
    have h1 := M.fle t v hv
    rw [M.read (pre := evs) (post := []) (by simp) ho hr ht (fun x hx => ⟨hx, hpr x hx⟩) (by simp)] at h1
    rw [M.size]; exact M.frame t v h1
  have hinl : u < listed.size := by rw [M.lsize]; exact hr.1
  have hgt : guardOk f q.guard = some true := by
    cases hb : guardOk f q.guard with
    | none => rw [hb] at hrun; cases hrun
    | some b => cases b with
      | false => exact absurd hb hg
      | true => rfl
  have hw : Region.wanted o (yielded ops a.tmps) = true := by
    rw [hguard] at hgt
    refine guard_sound (σ := σ) (ρ := ρ) hgt fun t ⟨g, hg, hgt⟩ v hv => hread t ?_ v hv
    unfold Oper.looksAt
    rw [hg]
    simp [hgt]
  have hor : ∀ x ∈ o.op.operands, ORel σ ρ f a x := fun x hx => by
    cases x with
    | tmp t =>
      intro d v hd hv
      simp only [opd] at hd; cases hd
      refine (hread t ?_ v hv).2
      unfold Oper.looksAt
      exact List.mem_append_left _ (List.mem_filterMap.2 ⟨.tmp t, by simpa using hx, rfl⟩)
    | _ => exact ORel.const (fun _ h => by cases h)
  rw [hgt] at hrun
  simp only at hrun
  have hone : ∀ x ∈ dr, ((ancs ops.toList []).getD u 0).testBit x = true := by
    obtain ⟨A, hA⟩ := M.suf
    obtain ⟨o', ho', _, h3⟩ := F.ones (u, dr) (by rw [hA]; simp)
    exact h3
  -- one outcome
  have done : ∀ (v : DV) (s' : St) (v' : Value) (w' : World) (ρ' : Ren) (outs2 : List (Fr × St)), (match watchAll s' (dropWatch dr ws) with | true => runDraw D m l rest' (dropWatch dr ws) (fput f q.dst v) s' | false => none) = some outs2 → (∀ p ∈ outs2, p ∈ outs') →
      Rel σ ρ' s' w' → Grow s.next s'.next ρ ρ' → Fram ρ ρ' w w' → VRel σ ρ' v v' → K (a.put o.dst v') w' := fun v s' v' w' ρ' outs2 k1 k2 g1 g2 g3 g4 => by
    split at k1
    case h_2 => cases k1
    rename_i hwa
    refine hK _ _ ⟨u, q.dst, v⟩ (fput f q.dst v) s' (dropWatch dr ws) ρ' m (by omega) ⟨?_, (by obtain ⟨A, hA⟩ := M.suf; exact ⟨A ++ [(u, dr)], by rw [hA]; simp⟩), ⟨outs2, k1, fun p hp => hout p (k2 p hp)⟩, by simp [M.lsize], ?_, ?_, ?_, g1, M.grow.trans g2, M.fram.trans g3, by rw [put_defers']; exact M.defs, by rw [put_size]; exact M.size, ?_, ?_, ?_, ?_, ?_, ?_⟩
    · rw [M.ord]; simp
    · intro j hj o' ho' e' he' hb
      by_cases hje : u = j
      · subst hje; exact getD_set_mono (hr.2.2 o' ho' e' he' hb)
      · rw [getD_set_other hje] at hj
        exact getD_set_mono (M.clos j hj o' ho' e' he' hb)
    · intro j hj
      by_cases hje : u = j
      · subst hje; simp
      · rw [getD_set_other hje] at hj; have := M.inEv j hj; simp at this ⊢; exact .inl this
    · intro t x ht
      rw [fold_append]
      exact fget_fold M.fle ht
    · intro t x ht
      have hfil : ((evs ++ [(⟨u, q.dst, v⟩ : Done)]).filter fun e => (listed.setIfInBounds u true).getD e.i false) = (evs.filter fun e => listed.getD e.i false) ++ [⟨u, q.dst, v⟩] := by
        rw [List.filter_append, List.filter_cons_of_pos (by rw [show (Done.mk u q.dst v).i = u from rfl, getD_set_self hinl])]
        congr 1
        exact List.filter_congr fun x hx => by rw [getD_set_other (hpr x hx).ne.symm]
      rw [hfil, fold_append] at ht
      simp only [fold, upd] at ht
      split at ht
      · rename_i hd
        cases ht
        have hlt := hnt t (by rw [← hdst]; exact hd)
        refine ⟨hlt, ?_⟩
        rw [← hdst, hd]
        have : t < a.tmps.size := by rw [M.size]; exact hlt
        simp [Act.put, this]; exact g4
      · rename_i hd
        obtain ⟨q1, q2⟩ := M.frame t x ht
        refine ⟨q1, ?_⟩
        rw [← hdst]
        cases hod : q.dst with
        | none => exact q2.sub g2.1
        | some d0 =>
          have : d0 ≠ t := fun he => hd (by rw [hod, he])
          simp only [Act.put, Array.getD_eq_getD_getElem?] at q2 ⊢
          rw [Array.getElem?_setIfInBounds_ne this]; exact q2.sub g2.1
    · intro e he
      rcases List.mem_append.1 he with he | he
      · exact M.dst e he
      · simp at he; subst he; exact ⟨o, ho, hdst⟩
    · intro pre e post he hl
      rcases split_snoc he with ⟨rfl, rfl, rfl⟩ | ⟨post', rfl, he'⟩
      · rw [show (Done.mk u q.dst v).i = u from rfl, getD_set_self hinl] at hl; cases hl
      · have hne : u ≠ e.i := (hpr e (by rw [he']; simp)).ne.symm
        rw [getD_set_other hne] at hl
        obtain ⟨q', a1, a2, a3⟩ := M.pend pre e post' he' hl
        refine ⟨q', a1, a2, a3.again hwa ?_ g2.2.1 ?_⟩
        · intro hm
          have := M.bit hr.2.2 (hone _ hm)
          rw [hl] at this; cases this
        · rintro b ⟨c, hm⟩ hb
          rw [g2.2.2 b (M.boxlt _ _ _ hm).2]; exact hb
    · intro i j b c b' c' h1 h2 he
      exact M.boxes _ _ _ _ _ _ ((List.mem_filter.1 h1).1) ((List.mem_filter.1 h2).1) he
    · intro i b c h1
      have := M.boxlt _ _ _ ((List.mem_filter.1 h1).1)
      exact ⟨this.1, Nat.lt_of_lt_of_le this.2 g2.2.1⟩
    · intro x hx
      have := M.wnum x ((List.mem_filter.1 hx).1)
      simp at this ⊢; exact .inl this
  have hbodies : ∀ g vs, sem1 q.op f s = .call g vs → ∃ fn cd, P.funcs[g]? = some fn ∧ fn.body = some cd := fun g vs hs => by
    rw [hs] at hrun
    simp only at hrun
    cases hcf : callF D m g vs s with
    | none => rw [hcf] at hrun; cases hrun
    | some outs' =>
      cases m with
      | zero => simp [callF] at hcf
      | succ m =>
        simp only [callF] at hcf
        cases hDg : D g with
        | none => rw [hDg] at hcf; cases hcf
        | some dfn =>
          have := hD g dfn hDg
          unfold compF at this
          split at this
          · rename_i fn hfn
            split at this
            · rename_i cd hcd; exact ⟨fn, cd, hfn, hcd⟩
            · cases this
          · cases this
  have hsem := op_sound (w := w) hP hcomp M.rel hor hbodies
  unfold wpOp
  simp only [ho, hw, if_true]
  left
  unfold Oper.wp
  have updc : ∀ {v : DV} {s' : St} {outs2 : List (Fr × St)}, UpdTo σ ρ s w v s' ((execOp a.eval o).run P w) → (match watchAll s' (dropWatch dr ws) with | true => runDraw D m l rest' (dropWatch dr ws) (fput f q.dst v) s' | false => none) = some outs2 → (∀ p ∈ outs2, p ∈ outs') → o.upon P a K Q ((execOp a.eval o).run P w) := fun {v s' outs2} hu k1 k2 => by
    obtain ⟨nx, v', w', ρ', e1, e2, e3, e4, e5, e6⟩ := hu
    rw [e1]
    have := done v s' v' w' ρ' outs2 k1 k2 e3 e4 e5 e6
    rcases e2 with rfl | ⟨rfl, rfl⟩
    · exact this
    · exact this
  rcases sem1_acts hacts f s with hs | ⟨v, s', hs⟩ | ⟨lo, hs⟩ | ⟨g, args, hs⟩
  · rw [hs] at hrun; cases hrun
  · rw [hs] at hrun hsem
    exact updc hsem hrun (fun p hp => hp)
  · rw [hs] at hrun hsem
    obtain ⟨p, hp, hu⟩ := hsem
    obtain ⟨y, h1, h2⟩ := mapAll_some hrun p hp
    exact updc hu h1 h2
  · rw [hs] at hrun hsem
    obtain ⟨args', e1, e2⟩ := hsem
    rw [e1]
    simp only at hrun
    cases hcf : callF D m g args s with
    | none => rw [hcf] at hrun; cases hrun
    | some outs3 =>
      rw [hcf] at hrun
      refine upon_call fun Rr hRr => ?_
      refine hcalls m (by omega) g args s outs3 hcf ρ w args' M.rel e2 Rr fun p hp v' w' ρ' g1 g2 g3 g4 => hRr v' w' ?_
      obtain ⟨y, h1, h2⟩ := mapAll_some hrun p hp
      exact done p.1 p.2 v' w' ρ' y h1 h2 g1 g2 g3 g4

def unl (order : List (Nat × List Nat)) (listed : Array Bool) : List Nat := (order.map (·.1)).filter fun i => !listed.getD i false
theorem filter_drop_one {u : Nat} : ∀ {x : List Nat} {p : Nat → Bool}, x.Nodup → u ∈ x → p u = true → (x.filter fun i => p i && !(i == u)).length + 1 = (x.filter p).length
  | [], _, _, h, _ => by simp at h
  | a :: x, p, hn, hu, hp => by
    rw [List.nodup_cons] at hn
    by_cases e : a = u
    · subst e
      rw [List.filter_cons_of_neg (by simp), List.filter_cons_of_pos hp]
      have : (x.filter fun i => p i && !(i == a)) = x.filter p := List.filter_congr fun i hi => by
        have : i ≠ a := fun h => hn.1 (h ▸ hi)
        simp [this]
      rw [this]; simp
    · have hu' : u ∈ x := by rcases List.mem_cons.1 hu with h | h; exact absurd h.symm e; exact h
      have ih := filter_drop_one hn.2 hu' hp
      by_cases hpa : p a = true
      · rw [List.filter_cons_of_pos (by simp [hpa, e]), List.filter_cons_of_pos hpa]; simp; omega
      · rw [List.filter_cons_of_neg (by simp [hpa]), List.filter_cons_of_neg hpa]; exact ih
theorem unl_set (F : Facts P nt ops l order) (hs : listed.size = ops.size) {u : Nat} (hu : u < ops.size) (hl : listed.getD u false = false) : (unl order (listed.setIfInBounds u true)).length + 1 = (unl order listed).length := by
  have hnd : (order.map (·.1)).Nodup := F.pairs.imp fun h => h.ne
  have := filter_drop_one (p := fun i => !listed.getD i false) hnd (F.cover u hu) (by simp [hl])
  unfold unl
  rw [← this]
  congr 2
  refine List.filter_congr fun i _ => ?_
  by_cases e : u = i
  · subst e; rw [getD_set_self (by omega)]; simp
  · rw [getD_set_other e]
    have : (i == u) = false := by simpa using fun h => e h.symm
    simp [this]
theorem draw_main (hP : NoGor P) (hD : ∀ g fn, D g = some fn → compF P g = some fn) (F : Facts P nt ops l order) {m0 : Nat} (hcalls : ∀ k, k < m0 → CallOk P σ D k) {Q : Exit → Act → World → Prop}
    (hQ : ∀ f' s', (f', s') ∈ outs → ∀ (ρ' : Ren) (a' : Act) (w' : World), Rel σ ρ' s' w' → FR σ ρ' f' a' → Grow n0 s'.next ρ0 ρ' → Fram ρ0 ρ' w0 w' → a'.defers = [] → a'.tmps.size = nt → Q .normal a' w') :
    ∀ (fuel : Nat) (listed : Array Bool) (a : Act) (w : World) (evs : List Done) (rest : List (Nat × List Nat)) (f : Fr) (s : St) (ws : List Watch) (ρ : Ren) (m : Nat) (fr : Nat → Fr), m ≤ m0 → Mid σ D nt ops l order f0 outs n0 ρ0 w0 listed a w evs rest f s ws ρ m fr → (unl order listed).length = fuel → wpAny P .any ops Q fuel listed a w := by
  intro fuel
  induction fuel with
  | zero =>
    intro listed a w evs rest f s ws ρ m fr _ M hfuel
    have hall : ∀ i, i ∈ order.map (·.1) → listed.getD i false = true := fun i hi => by
      have hnil := List.eq_nil_of_length_eq_zero hfuel
      unfold unl at hnil
      rw [List.filter_eq_nil_iff] at hnil
      have := hnil i hi
      simpa using this
    have hrest : rest = [] := by
      cases rest with
      | nil => rfl
      | cons y r =>
        have h1 := M.inEv y.1 (hall y.1 (by rw [M.ord]; simp))
        obtain ⟨x, hx, he⟩ := List.mem_map.1 h1
        exact absurd he (M.pairRest F hx (by simp)).ne
    subst hrest
    rw [wpAny]
    refine ⟨?_, ?_⟩
    · rw [List.eq_nil_iff_forall_not_mem]
      intro j hj
      rw [mem_ready] at hj
      obtain ⟨h1, o, ho, _⟩ := hj
      have hlt : j < ops.size := (Array.getElem?_eq_some_iff.1 ho).1
      have h2 := hall j (F.cover j hlt)
      have hjl : j < listed.size := by rw [M.lsize]; exact hlt
      rw [Array.getD_eq_getD_getElem?, Array.getElem?_eq_getElem hjl] at h1 h2
      simp at h1 h2
      rw [h1] at h2; cases h2
    · obtain ⟨outs', hrun, hout⟩ := M.run
      cases m with
      | zero => simp [runDraw] at hrun
      | succ m =>
        simp only [runDraw] at hrun
        cases hrun
        refine hQ f s (hout _ (by simp)) ρ a w M.rel (fun t v hv => ?_) M.grow M.fram M.defs M.size
        have h1 := M.fle t v hv
        have h2 : (evs.filter fun e => listed.getD e.i false) = evs := by
          rw [List.filter_eq_self]
          intro e he
          exact hall e.i (by rw [M.ord]; exact List.mem_append_left _ (List.mem_map.2 ⟨e, he, rfl⟩))
        rw [M.size]
        exact M.frame t v (by rw [h2]; exact h1)
  | succ fuel ih =>
    intro listed a w evs rest f s ws ρ m fr hm M hfuel
    have hready : ∀ u ∈ Region.ready .any ops listed, Ready ops listed u := fun u hu => by
      rw [mem_ready] at hu
      obtain ⟨h1, o, ho, h2⟩ := hu
      have hlt : u < ops.size := (Array.getElem?_eq_some_iff.1 ho).1
      have hul : u < listed.size := by rw [M.lsize]; exact hlt
      refine ⟨hlt, ?_, fun o' ho' e he hb => ?_⟩
      · rw [Array.getD_eq_getD_getElem?, Array.getElem?_eq_getElem hul] at h1 ⊢
        simpa using h1
      · rw [ho] at ho'; cases ho'; exact h2 e he hb
    rw [wpAny]
    refine ⟨fun hnil => ?_, fun u hu => ?_⟩
    · -- something is ready
      exfalso
      have hne : unl order listed ≠ [] := fun h => by rw [h] at hfuel; simp at hfuel
      have hfirst : ∀ (A B : List Nat), order.map (·.1) = A ++ B → (∀ i ∈ A, listed.getD i false = true) → ∀ i ∈ B, listed.getD i false = true := by
        intro A B
        induction B generalizing A with
        | nil => intro _ _ i hi; simp at hi
        | cons b B ihB =>
          intro hAB hA
          have hb : listed.getD b false = true := by
            cases hlb : listed.getD b false with
            | true => rfl
            | false =>
              exfalso
              have hbm : b ∈ order.map (·.1) := by rw [hAB]; simp
              obtain ⟨x, hx, hxb⟩ := List.mem_map.1 hbm
              obtain ⟨o, ho, he, _⟩ := F.ones x hx
              rw [hxb] at ho he
              have hlt : b < ops.size := (Array.getElem?_eq_some_iff.1 ho).1
              have hbl : b < listed.size := by rw [M.lsize]; exact hlt
              have hmem : b ∈ Region.ready .any ops listed := by
                rw [mem_ready]
                refine ⟨?_, o, ho, fun e hee hbi => ?_⟩
                · rw [Array.getD_eq_getD_getElem?, Array.getElem?_eq_getElem hbl] at hlb ⊢
                  simpa using hlb
                · obtain ⟨h1, h2⟩ := he e hee hbi
                  have hc := F.cover e.on h1
                  rw [hAB] at hc
                  rcases List.mem_append.1 hc with hc | hc
                  · exact hA _ hc
                  · rcases List.mem_cons.1 hc with hc | hc
                    · exact absurd hc h2
                    · have hp := F.pairs
                      rw [hAB, List.pairwise_append] at hp
                      have := (List.pairwise_cons.1 hp.2.1).1 e.on hc
                      exact absurd rfl (this.edge o ho e hee hbi)
              rw [hnil] at hmem; simp at hmem
          intro i hi
          rcases List.mem_cons.1 hi with rfl | hi
          · exact hb
          · exact ihB (A ++ [b]) (by rw [hAB]; simp) (fun j hj => by
              rcases List.mem_append.1 hj with hj | hj
              · exact hA j hj
              · simp at hj; subst hj; exact hb) i hi
      have hall := hfirst [] (order.map (·.1)) (by simp) (by simp)
      apply hne
      unfold unl
      rw [List.filter_eq_nil_iff]
      intro i hi
      simp [hall i hi]
    · have hr := hready u hu
      have hcount := unl_set (listed := listed) F M.lsize hr.1 hr.2.1
      have hpend : ∀ (evs : List Done) (rest : List (Nat × List Nat)) (f : Fr) (s : St) (ws : List Watch) (m : Nat) (fr : Nat → Fr), m ≤ m0 → Mid σ D nt ops l order f0 outs n0 ρ0 w0 listed a w evs rest f s ws ρ m fr → u ∈ evs.map (·.i) → wpOp P ops Q u (wpAny P .any ops Q fuel (listed.setIfInBounds u true)) a w := by
        intro evs rest f s ws m fr hm M hmem
        obtain ⟨e, he, heu⟩ := List.mem_map.1 hmem
        subst heu
        obtain ⟨pre, post, hsp⟩ := List.append_of_mem he
        exact pend_step hP F M hsp hr fun a' w' ρ' M' => ih _ a' w' evs rest f s ws ρ' m fr hm M' (by omega)
      -- go on in the evaluator's order up to u
      have go : ∀ (rest : List (Nat × List Nat)) (evs : List Done) (f : Fr) (s : St) (ws : List Watch) (m : Nat) (fr : Nat → Fr), m ≤ m0 → Mid σ D nt ops l order f0 outs n0 ρ0 w0 listed a w evs rest f s ws ρ m fr → u ∈ rest.map (·.1) → wpOp P ops Q u (wpAny P .any ops Q fuel (listed.setIfInBounds u true)) a w := by
        intro rest
        induction rest with
        | nil => intro _ _ _ _ _ _ _ _ h; simp at h
        | cons y rest ihr =>
          intro evs f s ws m fr hm M hmem
          obtain ⟨i, dr⟩ := y
          have hi_un : listed.getD i false = false := by
            cases hl : listed.getD i false with
            | false => rfl
            | true =>
              obtain ⟨x, hx, he⟩ := List.mem_map.1 (M.inEv i hl)
              exact absurd he (M.pairRest F hx (y := (i, dr)) (by simp)).ne
          -- m goes down
          have hlower : ∀ {v : DV} {f' : Fr} {s' : St} {ws' : List Watch} {m' : Nat} {fr' : Nat → Fr} {dst : Option Nat}, True := trivial
          by_cases hiu : i = u
          · subst hiu
            obtain ⟨o, ho⟩ : ∃ o, ops[i]? = some o := ⟨_, Array.getElem?_eq_getElem hr.1⟩
            obtain ⟨q, hq0, _⟩ := F.oper ho
            by_cases hna : q.op.acts = false ∨ guardOk f q.guard = some false
            · obtain ⟨v, f', s', ws', m', fr', dst, hm', M'⟩ := adv F M hi_un fun q' hq' => by rw [hq0] at hq'; cases hq'; exact hna
              exact hpend _ _ _ _ _ m' fr' (by omega) M' (by simp)
            · have h1 : q.op.acts = true := by
                cases h : q.op.acts with
                | true => rfl
                | false => exact absurd (.inl h) hna
              exact chain_step hP hD F M (fun k hk => hcalls k (by omega)) hr hq0 h1 (fun h => hna (.inr h)) fun a' w' e f' s' ws' ρ' m' hm' M' => ih _ a' w' _ rest f' s' ws' ρ' m' fr (by omega) M' (by omega)
          · have hur : u ∈ rest.map (·.1) := by
              simp only [List.map_cons, List.mem_cons] at hmem
              rcases hmem with h | h
              · exact absurd h.symm hiu
              · exact h
            have hpair : PairP ops l i u := by
              have hp := F.pairs
              rw [M.ord, List.pairwise_append] at hp
              have := hp.2.1
              rw [List.map_cons, List.pairwise_cons] at this
              exact this.1 u hur
            obtain ⟨v, f', s', ws', m', fr', dst, hm', M'⟩ := adv F M hi_un fun q hq => by
              left
              cases h : q.op.acts with
              | false => rfl
              | true =>
                have := M.bit hr.2.2 (hpair.acts q hq h)
                rw [hi_un] at this; cases this
            exact ihr _ f' s' ws' m' fr' (by omega) M' hur
      have hc := F.cover u hr.1
      rw [M.ord] at hc
      rcases List.mem_append.1 hc with h | h
      · exact hpend evs rest f s ws m fr hm M h
      · exact go rest evs f s ws m fr hm M h
theorem replicate_false (m j : Nat) : (Array.replicate m false).getD j false = false := by
  rw [Array.getD_eq_getD_getElem?, Array.getElem?_replicate]
  split <;> rfl
theorem runDraw_sound (hm : P.follows .mixedOrders = true) (hP : NoGor P) (hD : ∀ g fn, D g = some fn → compF P g = some fn) (nt : Nat) (n : Nat) (hc : ∀ m, m < n → CallOk P σ D m) : DrawOk P σ D nt n := by
  intro id ops l order f s outs hcomp hord hrun ρ a w Q R hF hd hsz hout
  have F := facts_of hcomp hord
  refine wp_region_any hm ?_
  have hlen : (unl order (Array.replicate ops.size false)).length = ops.size := by
    unfold unl
    rw [List.filter_eq_self.2 fun i _ => by rw [replicate_false]; rfl]
    rw [List.length_map, F.len]
  have M : Mid σ D nt ops l order (fget f) outs s.next ρ w (Array.replicate ops.size false) a w.drew [] order f s [] ρ n (fun _ => f) := by
    refine ⟨rfl, ⟨[], rfl⟩, ⟨outs, hrun, fun p hp => hp⟩, by simp, ?_, ?_, fun t v h => h, R.drew, Grow.refl _ _, (Fram.refl _ _).drew, hd, hsz, ?_, by simp, ?_, by simp, by simp, by simp⟩
    · intro j hj; rw [replicate_false] at hj; cases hj
    · intro j hj; rw [replicate_false] at hj; cases hj
    · intro t v ht; have := hF t v ht; rw [hsz] at this; exact this
    · intro pre e post h; have := congrArg List.length h; simp at this
  exact draw_main hP hD F hc hout ops.size _ a w.drew [] order f s [] ρ n _ (Nat.le_refl _) M hlen
end
end Go.Proofs.YtpmephcfamcbjaaGreat.Ev
