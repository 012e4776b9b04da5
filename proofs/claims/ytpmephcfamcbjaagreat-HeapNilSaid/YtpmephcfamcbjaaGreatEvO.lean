/- An evaluator for runs: frames, guards, results. -/
import Derived.Test.YtpmephcfamcbjaaGreatEvN
namespace Go.Proofs.YtpmephcfamcbjaaGreat.Ev
open Go

/-- a frame stands for the temporaries -/
def FR (σ : Nat → Value) (ρ : Ren) (f : Fr) (a : Act) : Prop := ∀ t v, fget f t = some v → t < a.tmps.size ∧ VRel σ ρ v (a.tmps.getD t undef)

section
variable {P : Program} {σ : Nat → Value} {ρ ρ' : Ren} {s s' : St} {w w' : World} {f : Fr} {a : Act} {o : Oper} {d : DOp}

theorem FR.sub (h : FR σ ρ f a) (hs : Sub ρ ρ') : FR σ ρ' f a := fun t v ht => ⟨(h t v ht).1, (h t v ht).2.sub hs⟩
theorem ORel.const {x : Operand} (h : ∀ t, x ≠ .tmp t) : ORel σ ρ f a x := fun d v hd hv => by
  cases x with
  | tmp t => exact absurd rfl (h t)
  | const c =>
    simp only [opd] at hd
    split at hd
    · rename_i u hu; cases hd; simp only [ev] at hv; cases hv; exact plainV_rel hu
    · cases hd
  | func g => simp only [opd] at hd; cases hd; simp only [ev] at hv; cases hv; rw [VRel]; exact ⟨_, _, rfl, VRels.nil, VRels.nil⟩
  | global g => simp [opd] at hd
theorem FR.orel (h : FR σ ρ f a) (x : Operand) : ORel σ ρ f a x := by
  cases x with
  | tmp t => exact fun d v hd hv => by simp only [opd] at hd; cases hd; exact (h t v hv).2
  | _ => exact ORel.const (fun _ h => by cases h)
theorem FR.put (h : FR σ ρ f a) {dst : Option Nat} {v : DV} {v' : Value} (hd : ∀ t, dst = some t → t < a.tmps.size) (hv : VRel σ ρ v v') : FR σ ρ (fput f dst v) (a.put dst v') := fun t u ht => by
  rcases fget_fput ht with ⟨h1, rfl⟩ | ⟨h1, h2⟩
  · subst h1
    have := hd t rfl
    refine ⟨by simpa [Act.put] using this, ?_⟩
    simp [Act.put, this]; exact hv
  · obtain ⟨h3, h4⟩ := h t u h2
    cases dst with
    | none => exact ⟨h3, h4⟩
    | some q =>
      have hne : q ≠ t := fun e => h1 (by rw [e])
      refine ⟨by simpa [Act.put] using h3, ?_⟩
      simp only [Act.put, Array.getD_eq_getD_getElem?] at h4 ⊢
      rw [Array.getElem?_setIfInBounds_ne hne]; exact h4
theorem put_size (a : Act) (dst : Option Nat) (v : Value) : (a.put dst v).tmps.size = a.tmps.size := by cases dst <;> simp [Act.put]
theorem put_defers' (a : Act) (dst : Option Nat) (v : Value) : (a.put dst v).defers = a.defers := by cases dst <;> rfl
def gOf (ops : Array Oper) (o : Oper) : Option (Option Nat × Bool) := o.guard.map fun g => ((ops[g.1]?).bind (·.dst), g.2)
theorem guard_sound {ops : Array Oper} {b : Bool} (h : guardOk f (gOf ops o) = some b) (hF : ∀ t, (∃ g, o.guard = some g ∧ (ops[g.1]?).bind (·.dst) = some t) → ∀ v, fget f t = some v → t < a.tmps.size ∧ VRel σ ρ v (a.tmps.getD t undef)) : Region.wanted o (yielded ops a.tmps) = b := by
  unfold gOf at h
  unfold Region.wanted
  cases hg : o.guard with
  | none => simp only [hg, Option.map_none, guardOk] at h; cases h; rfl
  | some g =>
    simp only [hg, Option.map_some] at h
    simp only
    unfold yielded
    cases ht : (ops[g.1]?).bind (·.dst) with
    | none => simp only [ht, guardOk] at h; cases h; simp
    | some t =>
      simp only [ht, guardOk] at h
      simp only [Option.bind_some]
      split at h
      · rename_i c hc
        obtain ⟨h1, h2⟩ := hF t ⟨g, hg, ht⟩ _ hc
        have := VRel.bool h2
        have h3 : a.tmps[t]? = some (.bool c) := by
          rw [Array.getD_eq_getD_getElem?, Array.getElem?_eq_getElem h1] at this
          rw [Array.getElem?_eq_getElem h1]; simpa using this
        rw [h3]; cases h; simp
      · rename_i l hc
        obtain ⟨h1, h2⟩ := hF t ⟨g, hg, ht⟩ _ hc
        rw [VRel] at h2
        obtain ⟨cs, h2, _⟩ := h2
        have h3 : a.tmps[t]? = some (.tuple cs) := by
          rw [Array.getD_eq_getD_getElem?, Array.getElem?_eq_getElem h1] at h2
          rw [Array.getElem?_eq_getElem h1]; simpa using h2
        rw [h3]; cases h; simp
      · cases h
theorem compOper_spec {nt : Nat} {ops : Array Oper} {q : DOper} (h : compOper P nt ops o = some q) : compOp P o = some q.op ∧ q.dst = o.dst ∧ q.guard = gOf ops o ∧ ∀ t, o.dst = some t → t < nt := by
  unfold compOper at h
  split at h
  · rename_i d hd
    split at h
    · rename_i t ht
      split at h
      · rename_i hlt
        cases h
        exact ⟨hd, ht.symm, rfl, fun t' h' => by rw [ht] at h'; cases h'; exact hlt⟩
      · cases h
    · rename_i ht
      cases h
      exact ⟨hd, ht.symm, rfl, fun t' h' => by rw [ht] at h'; cases h'⟩
  · cases h
theorem compOpers_spec {nt : Nat} {ops : Array Oper} : ∀ {l : List Oper} {ql : List DOper}, compOpers P nt ops l = some ql → ql.length = l.length ∧ ∀ (i : Nat) (o : Oper), l[i]? = some o → ∃ q, ql[i]? = some q ∧ compOper P nt ops o = some q
  | [], ql, h => by simp only [compOpers] at h; cases h; exact ⟨rfl, by simp⟩
  | o :: l, ql, h => by
    simp only [compOpers] at h
    split at h
    · rename_i q hq
      split at h
      · rename_i ql' hql
        cases h
        obtain ⟨h1, h2⟩ := compOpers_spec hql
        refine ⟨by simp [h1], fun i o' hi => ?_⟩
        cases i with
        | zero => simp at hi; subst hi; exact ⟨q, rfl, hq⟩
        | succ i => simp only [List.getElem?_cons_succ] at hi ⊢; exact h2 i o' hi
      · cases h
    · cases h
theorem argsFr_get : ∀ (l : List DV) (i : Nat) (f : Fr) (t : Nat) (v : DV), fget (argsFr l i f) t = some v → (∃ j, t = i + j ∧ l[j]? = some v) ∨ fget f t = some v
  | [], _, _, _, _, h => .inr h
  | x :: l, i, f, t, v, h => by
    simp only [argsFr] at h
    rcases argsFr_get l (i + 1) _ t v h with ⟨j, h1, h2⟩ | h1
    · exact .inl ⟨j + 1, by omega, by simpa using h2⟩
    · rcases fget_fput h1 with ⟨h2, rfl⟩ | ⟨_, h2⟩
      · cases h2; exact .inl ⟨0, by omega, rfl⟩
      · exact .inr h2
theorem args_FR {args : List DV} {args' : Array Value} {nt : Nat} (h : VRels σ ρ args args'.toList) : FR σ ρ (argsFr args 0 .nil) { tmps := args' ++ Array.replicate (nt - args'.size) undef, defers := [] } := fun t v ht => by
  rcases argsFr_get _ _ _ _ _ ht with ⟨j, h1, h2⟩ | h1
  · rw [Nat.zero_add] at h1; subst h1
    obtain ⟨y, h3, h4⟩ := h.get h2
    have hlt : t < args'.size := by have := (List.getElem?_eq_some_iff.1 h3).1; simpa using this
    refine ⟨by simp; omega, ?_⟩
    rw [Array.getD_eq_getD_getElem?, Array.getElem?_append_left hlt]
    rw [Array.getElem?_toList] at h3
    rw [h3]; exact h4
  · have : ∀ d m, Trie.get (α := DV) d .nil m = none := by
      intro d
      induction d with
      | zero => intro m; rfl
      | succ d ih =>
        intro m
        cases m with
        | zero => rfl
        | succ m => simp only [Trie.get, Trie.left, Trie.right]; split <;> exact ih _
    rw [show fget (Trie.nil : Fr) t = none from this _ _] at h1; cases h1
def resF (a : Act) : ResultVar → Sem Value := fun r => match r with | .tmp t => pure (a.tmps.getD t undef) | .cell b t => do loadVar t (← asAddr (a.tmps.getD b undef))
theorem resD_sound (R : Rel σ ρ s w) (hF : FR σ ρ f a) : ∀ {rl : List ResultVar} {dl : List DRes} {vs : List DV}, compRes P rl = some dl → resD f s dl = some vs →
    ∃ ys : List Value, (rl.mapM (m := Sem) (resF a)).run P w = .ok ys w ∧ VRels σ ρ vs ys
  | [], dl, vs, h1, h2 => by
    simp only [compRes] at h1; cases h1
    simp only [resD] at h2; cases h2
    exact ⟨[], by simp, VRels.nil⟩
  | .tmp t :: rl, dl, vs, h1, h2 => by
    simp only [compRes] at h1
    split at h1
    case h_2 => cases h1
    rename_i dl' hdl
    cases h1
    simp only [resD] at h2
    split at h2
    case h_2 => cases h2
    rename_i v hv
    split at h2
    case h_2 => cases h2
    rename_i vs' hvs
    cases h2
    obtain ⟨ys, h3, h4⟩ := resD_sound R hF hdl hvs
    refine ⟨a.tmps.getD t undef :: ys, ?_, VRels.cons (hF t v hv).2 h4⟩
    simp only [List.mapM_cons, Sem.run_bind, resF, Sem.run_pure, Result.andThen_ok]
    rw [h3]; rfl
  | .cell b ty :: rl, dl, vs, h1, h2 => by
    simp only [compRes] at h1
    split at h1
    case h_2 => cases h1
    rename_i i ag hi hg
    split at h1
    case h_2 => cases h1
    rename_i dl' hdl
    cases h1
    simp only [resD] at h2
    split at h2
    case h_2 => cases h2
    rename_i bb oo hv
    split at h2
    case h_2 => cases h2
    rename_i c hc
    split at h2
    case h_2 => cases h2
    rename_i v hv2
    split at h2
    case h_2 => cases h2
    rename_i vs' hvs
    cases h2
    obtain ⟨ys, h3, h4⟩ := resD_sound R hF hdl hvs
    have hr := (hF b _ hv).2
    rw [VRel] at hr
    obtain ⟨B, dd, N, hB, he⟩ := hr
    obtain ⟨cs, g1, g2, g3, g4⟩ := R.load hB hc
    obtain ⟨v', g5, g6⟩ := run_loadVar (P := P) (w := w) (A := ⟨B, dd + oo, none⟩) hi hg g2 (fun j v hj => by rw [addr_add]; exact g4 j v hj) g1 hv2
    refine ⟨v' :: ys, ?_, VRels.cons g6 h4⟩
    have h0 : (resF a (.cell b ty)).run P w = .ok v' w := by simp only [resF, Sem.run_bind, he, asAddr, Sem.run_pure, Result.andThen_ok, g5]
    simp only [List.mapM_cons, Sem.run_bind, h0, Sem.run_pure, Result.andThen_ok, h3]
theorem results_sound {fn : Func} {dl : List DRes} {vs : List DV} {v : DV} (R : Rel σ ρ s w) (hF : FR σ ρ f a) (h1 : compRes P fn.results.toList = some dl) (h2 : resD f s dl = some vs) (h3 : (∃ x, vs = [x] ∧ v = x) ∨ ((∀ x, vs ≠ [x]) ∧ v = .tup vs)) :
    ∃ u, (results fn a.tmps).run P w = .ok u w ∧ VRel σ ρ v u := by
  obtain ⟨ys, h4, h5⟩ := resD_sound (P := P) R hF h1 h2
  have h6 : (fn.results.mapM (m := Sem) (resF a)).run P w = .ok ys.toArray w := by
    rw [Array.mapM_eq_mapM_toList]
    simp [h4]
  rcases h3 with ⟨x, rfl, rfl⟩ | ⟨h7, rfl⟩
  · rw [VRels] at h5
    obtain ⟨y, ys', rfl, h8, h9⟩ := h5
    rw [VRels] at h9; subst h9
    refine ⟨y, ?_, h8⟩
    rw [show results fn a.tmps = (do let vs ← fn.results.mapM (m := Sem) (resF a); pure (if h : vs.size = 1 then vs[0] else .tuple vs)) from rfl]
    simp only [Sem.run_bind, h6, Result.andThen_ok]
    rfl
  · refine ⟨.tuple ys.toArray, ?_, by rw [VRel]; exact ⟨_, rfl, h5⟩⟩
    rw [show results fn a.tmps = (do let vs ← fn.results.mapM (m := Sem) (resF a); pure (if h : vs.size = 1 then vs[0] else .tuple vs)) from rfl]
    simp only [Sem.run_bind, h6, Result.andThen_ok]
    have : ys.toArray.size ≠ 1 := by
      intro h
      have hl := h5.length
      rw [List.size_toArray] at h
      rw [h] at hl
      match vs, hl, h7 with
      | [x], _, h7 => exact h7 x rfl
    rw [dif_neg this]; rfl
end
end Go.Proofs.YtpmephcfamcbjaaGreat.Ev
