/- An evaluator for runs: regions whose order is open: the whole. -/
import Derived.Test.YtpmephcfamcbjaaGreatEvU
namespace Go.Proofs.YtpmephcfamcbjaaGreat.Ev
open Go

section
variable {P : Program} {σ : Nat → Value} {D : Nat → Option DFun} {nt : Nat} {ops : Array Oper} {l : List DOper} {order : List (Nat × List Nat)} {f0 : Nat → Option DV} {outs : List (Fr × St)} {n0 : Nat} {ρ0 : Ren} {w0 : World}
  {listed : Array Bool} {a : Act} {w : World} {evs : List Done} {rest : List (Nat × List Nat)} {f : Fr} {s : St} {ws : List Watch} {ρ : Ren} {m : Nat} {fr : Nat → Fr}

theorem dropWatch_nil (ws : List Watch) : dropWatch [] ws = ws := by
  unfold dropWatch
  rw [List.filter_eq_self]
  intro x _; rfl
theorem fget_fold {f : Fr} {q : DOper} {v u : DV} {t : Nat} {F : Nat → Option DV} (hle : ∀ t v, fget f t = some v → F t = some v) (h : fget (fput f q.dst v) t = some u) : upd F q.dst v t = some u := by
  unfold upd
  rcases fget_fput h with ⟨h1, rfl⟩ | ⟨h1, h2⟩
  · rw [if_pos h1]
  · rw [if_neg h1]; exact hle t u h2
theorem split_snoc {evs pre post : List Done} {e x : Done} (h : evs ++ [x] = pre ++ e :: post) : (post = [] ∧ e = x ∧ pre = evs) ∨ ∃ post', post = post' ++ [x] ∧ evs = pre ++ e :: post' := by
  rcases List.eq_nil_or_concat post with rfl | ⟨p, y, rfl⟩
  · left
    have : evs ++ [x] = pre ++ [e] := h
    obtain ⟨h1, h2⟩ := List.append_inj' this rfl
    cases h2
    exact ⟨rfl, rfl, h1.symm⟩
  · right
    have : evs ++ [x] = (pre ++ e :: p) ++ [y] := by rw [h]; simp
    obtain ⟨h1, h2⟩ := List.append_inj' this rfl
    cases h2
    exact ⟨p, by simp, h1⟩
/-- the next operation of the evaluator's order, where it does not act: it becomes pending -/
theorem adv (F : Facts P nt ops l order) {i : Nat} {dr : List Nat} {rest' : List (Nat × List Nat)} (M : Mid σ D nt ops l order f0 outs n0 ρ0 w0 listed a w evs ((i, dr) :: rest') f s ws ρ m fr) (hun : listed.getD i false = false)
    (hq : ∀ q, l[i]? = some q → q.op.acts = false ∨ guardOk f q.guard = some false) : ∃ v f' s' ws' m' fr' dst, m' ≤ m ∧ Mid σ D nt ops l order f0 outs n0 ρ0 w0 listed a w (evs ++ [⟨i, dst, v⟩]) rest' f' s' ws' ρ m' fr' := by
  obtain ⟨outs', hrun, hout⟩ := M.run
  cases m with
  | zero => simp [runDraw] at hrun
  | succ m =>
  simp only [runDraw] at hrun
  split at hrun
  · cases hrun
  rename_i q hq0
  have hio : ∃ o, ops[i]? = some o := by
    obtain ⟨x, hx, he⟩ : ∃ x ∈ order, x.1 = i := by
      have : i ∈ order.map (·.1) := by rw [M.ord]; simp
      obtain ⟨x, hx, he⟩ := List.mem_map.1 this
      exact ⟨x, hx, he⟩
    obtain ⟨o, ho, _⟩ := F.ones x hx
    exact ⟨o, by rw [← he]; exact ho⟩
  obtain ⟨o, ho⟩ := hio
  obtain ⟨q', hq', hcomp, hdst, hguard, hnt⟩ := F.oper ho
  rw [hq0] at hq'; cases hq'
  have hnotin : ∀ x ∈ evs, x.i ≠ i := fun x hx => (M.pairRest F hx (y := (i, dr)) (by simp)).ne
  have hfil : ∀ v : DV, ((evs ++ [(⟨i, q.dst, v⟩ : Done)]).filter fun e => listed.getD e.i false) = (evs.filter fun e => listed.getD e.i false) := fun v => by
    rw [List.filter_append, List.filter_cons_of_neg (by rw [show (Done.mk i q.dst v).i = i from rfl, hun]; simp)]
    simp
  -- a pending operation, memory s' and what is looked at
  have mk : ∀ (v : DV) (s' : St) (ws' : List Watch), (∃ outs', runDraw D m l rest' ws' (fput f q.dst v) s' = some outs' ∧ ∀ p ∈ outs', p ∈ outs) → Rel σ ρ s' w → s.next ≤ s'.next → watchAll s' ws = true ∨ s' = s → (∀ x ∈ ws, x ∈ ws') →
      Pend q f v s' ws' ρ i → (∀ i j b c b' c', Watch.bk i b c ∈ ws' → Watch.bk j b' c' ∈ ws' → b = b' → i = j ∧ c = c') → (∀ i b c, Watch.bk i b c ∈ ws' → n0 ≤ b ∧ b < s'.next) → (∀ x ∈ ws', x.num = i ∨ x ∈ ws) →
      ∃ v f' s' ws' m' fr' dst, m' ≤ m + 1 ∧ Mid σ D nt ops l order f0 outs n0 ρ0 w0 listed a w (evs ++ [⟨i, dst, v⟩]) rest' f' s' ws' ρ m' fr' := by
    intro v s' ws' k1 k2 k3 k4 k5 k6 k7 k8 k9
    refine ⟨v, fput f q.dst v, s', ws', m, fun j => if j = i then f else fr j, q.dst, by omega, ?_, (by obtain ⟨A, hA⟩ := M.suf; exact ⟨A ++ [(i, dr)], by rw [hA]; simp⟩), k1, M.lsize, M.clos, ?_, ?_, k2, ⟨M.grow.1, Nat.le_trans M.grow.2.1 k3, M.grow.2.2⟩, M.fram, M.defs, M.size, ?_, ?_, ?_, k7, k8, ?_⟩
    · rw [M.ord]; simp
    · intro j hj; have := M.inEv j hj; simp at this ⊢; exact .inl this
    · intro t u ht
      rw [fold_append]
      exact fget_fold M.fle ht
    · intro t u ht
      rw [hfil] at ht
      exact M.frame t u ht
    · intro e he
      rcases List.mem_append.1 he with he | he
      · exact M.dst e he
      · simp at he; subst he; exact ⟨o, ho, hdst⟩
    · intro pre e post he hl
      rcases split_snoc he with ⟨rfl, rfl, rfl⟩ | ⟨post', rfl, he'⟩
      · exact ⟨q, hq0, fun t u ht => by simp only [if_true] at ht; exact M.fle t u ht, by simpa using k6⟩
      · obtain ⟨q', g1, g2, g3⟩ := M.pend pre e post' he' hl
        have hei : e.i ≠ i := hnotin e (by rw [he']; simp)
        refine ⟨q', g1, fun t u ht => by simp only [hei, if_false] at ht; exact g2 t u ht, ?_⟩
        simp only [hei, if_false]
        have g4 : Pend q' (fr e.i) e.v s' ws ρ e.i := by
          rcases k4 with k4 | rfl
          · have := g3.again (s' := s') (ρ' := ρ) (dr := []) (by rw [dropWatch_nil]; exact k4) (by simp) k3 (fun _ _ h => h)
            rw [dropWatch_nil] at this; exact this
          · exact g3
        rcases g4 with g4 | ⟨a1, a2, a3, a4⟩ | ⟨a1, a2, a3, c, mk, b, a4, a5, a6, a7, a8, a9⟩
        · exact .inl g4
        · exact .inr (.inl ⟨a1, a2, a3, fun hr => k5 _ (a4 hr)⟩)
        · exact .inr (.inr ⟨a1, a2, a3, c, mk, b, a4, a5, a6, a7, a8, k5 _ a9⟩)
    · intro x hx
      rcases k9 x hx with h | h
      · simp [h]
      · have := M.wnum x h; simp at this ⊢; exact .inl this
  have hsame : (∀ i j b c b' c', Watch.bk i b c ∈ ws → Watch.bk j b' c' ∈ ws → b = b' → i = j ∧ c = c') := M.boxes
  split at hrun
  · cases hrun
  · rename_i hg
    exact mk (.tup []) s ws ⟨outs', hrun, hout⟩ M.rel (Nat.le_refl _) (.inr rfl) (fun _ h => h) (.inl ⟨hg, rfl⟩) M.boxes M.boxlt (fun _ h => .inr h)
  · rename_i hg
    have hacts : q.op.acts = false := by
      rcases hq q hq0 with h | h
      · exact h
      · rw [hg] at h; cases h
    rcases sem1_still hacts f s with hs | ⟨v, hs⟩ | ⟨hrd, c, mkv, hs⟩
    · rw [hs] at hrun; cases hrun
    · rw [hs] at hrun
      simp only at hrun
      by_cases hrd : q.op.reads = true
      · rw [hrd] at hrun
        simp only at hrun
        refine mk v s (.ld i q.op f v :: ws) ⟨outs', hrun, hout⟩ M.rel (Nat.le_refl _) (.inr rfl) (fun x h => by simp [h]) (.inr (.inl ⟨hg, hacts, hs, fun _ => by simp⟩)) ?_ ?_ ?_
        · intro i' j b c b' c' h1 h2 he; simp at h1 h2; exact M.boxes _ _ _ _ _ _ h1 h2 he
        · intro i' b c h1; simp at h1; exact M.boxlt _ _ _ h1
        · intro x hx
          rcases List.mem_cons.1 hx with rfl | hx
          · exact .inl rfl
          · exact .inr hx
      · have hrd' : q.op.reads = false := by simpa using hrd
        rw [hrd'] at hrun
        simp only at hrun
        exact mk v s ws ⟨outs', hrun, hout⟩ M.rel (Nat.le_refl _) (.inr rfl) (fun x h => h) (.inr (.inl ⟨hg, hacts, hs, fun h => by rw [hrd'] at h; cases h⟩)) M.boxes M.boxlt (fun _ h => .inr h)
    · rw [hs] at hrun
      simp only at hrun
      split at hrun
      · rename_i hwa
        have hnone : ρ s.next = none := M.rel.none_of_next
        have hstay : Rel σ ρ (s.new c) w := by
          refine ⟨fun b B d N hb => ?_, fun b B d N x hb hx => ?_, fun b b' x x' hb hb' he k1 k2 => ?_⟩
          · have := M.rel.lt _ _ _ _ hb; exact ⟨by simp [St.new]; omega, this.2⟩
          · rcases blk_new hx with ⟨h1, _⟩ | ⟨_, h2⟩
            · subst h1; rw [hnone] at hb; cases hb
            · exact M.rel.blk _ _ _ _ _ hb h2
          · have hold : ∀ b x, ρ b = some x → (s.new c).blk b ≠ none → s.blk b ≠ none := fun b x hb h1 h0 => by
              cases hc : (s.new c).blk b with
              | none => exact h1 hc
              | some y => rcases blk_new hc with ⟨h3, _⟩ | ⟨_, h3⟩
                          · subst h3; rw [hnone] at hb; cases hb
                          · rw [h0] at h3; cases h3
            exact M.rel.inj _ _ _ _ hb hb' he (hold _ _ hb k1) (hold _ _ hb' k2)
        simp only [watchAll, Bool.and_eq_true] at hwa
        obtain ⟨hwb, hwa⟩ := hwa
        have hbn : (s.new c).blk s.next = some c := blkEq_eq hwb
        · 
          have hfresh : ∀ j b c2, Watch.bk j b c2 ∈ ws → b ≠ s.next := fun j b c2 h => by have := (M.boxlt _ _ _ h).2; omega
          refine mk (mkv s.next) (s.new c) (.bk i s.next c :: ws) ⟨outs', hrun, hout⟩ hstay (by simp [St.new]) (.inl hwa) (fun x h => by simp [h]) (.inr (.inr ⟨hg, hacts, hrd, c, mkv, s.next, ?_, rfl, hbn, hnone, by simp [St.new], by simp⟩)) ?_ ?_ ?_
          · rw [sem1_pure hacts hrd f _ s]; exact hs
          · intro i' j b c1 b' c2 h1 h2 he
            simp at h1 h2
            rcases h1 with ⟨rfl, rfl, rfl⟩ | h1 <;> rcases h2 with ⟨rfl, rfl, rfl⟩ | h2
            · exact ⟨rfl, rfl⟩
            · exact absurd he.symm (hfresh _ _ _ h2)
            · exact absurd he (hfresh _ _ _ h1)
            · exact M.boxes _ _ _ _ _ _ h1 h2 he
          · intro i' b c1 h1
            simp at h1
            rcases h1 with ⟨rfl, rfl, rfl⟩ | h1
            · exact ⟨M.grow.2.1, by simp [St.new]⟩
            · have := M.boxlt _ _ _ h1; exact ⟨this.1, by simp [St.new]; omega⟩
          · intro x hx
            rcases List.mem_cons.1 hx with rfl | hx
            · exact .inl rfl
            · exact .inr hx
      · cases hrun
end
end Go.Proofs.YtpmephcfamcbjaaGreat.Ev
