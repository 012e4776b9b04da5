/- An evaluator for runs: that a run of code, and a call, is right. -/
import Derived.Test.YtpmephcfamcbjaaGreatEvP
namespace Go.Proofs.YtpmephcfamcbjaaGreat.Ev
open Go

section
variable {P : Program} {σ : Nat → Value} {D : Nat → Option DFun}

theorem mapAll_some {α β : Type} {g : α → Option (List β)} : ∀ {l : List α} {r : List β}, mapAll g l = some r → ∀ x ∈ l, ∃ y, g x = some y ∧ ∀ z ∈ y, z ∈ r
  | [], r, h, x, hx => by simp at hx
  | a :: l, r, h, x, hx => by
    simp only [mapAll] at h
    split at h
    · cases h
    · rename_i r1 h1
      split at h
      · cases h
      · rename_i r2 h2
        cases h
        rcases List.mem_cons.1 hx with rfl | hx
        · exact ⟨r1, h1, fun z hz => List.mem_append_left _ hz⟩
        · obtain ⟨y, h3, h4⟩ := mapAll_some h2 x hx
          exact ⟨y, h3, fun z hz => List.mem_append_right _ (h4 z hz)⟩
theorem upon_call {o : Oper} {a : Act} {K : Act → World → Prop} {Q : Exit → Act → World → Prop} {g : Nat} {args : Array Value} {w : World} (h : ∀ R : Ending → World → Prop, (∀ v w', K (a.put o.dst v) w' → R (.returned v) w') → Calls P g args w R) :
    o.upon P a K Q (.ok (.enter g args) w) := by
  rw [Oper.upon_enter]
  exact h _ fun v w' hk => hk
theorem runOps_sound (hP : NoGor P) (hD : ∀ g fn, D g = some fn → compF P g = some fn) (nt : Nat) : ∀ n, (∀ m, m < n → CallOk P σ D m) → OpsOk P σ D nt n := by
  intro n
  induction n with
  | zero => intro _ ops k l f s outs _ _ h; simp [runOps] at h
  | succ n ih =>
    intro hcalls ops k l f s outs hl hk h ρ a w Q R hF hd hsz hout
    have ih := ih fun m hm => hcalls m (by omega)
    cases l with
    | nil =>
      simp only [runOps] at h
      cases h
      have : ops.size - k = 0 := by have := hl; simp at this; omega
      rw [this]
      exact hout f s (by simp) ρ a w R hF (Grow.refl _ _) (Fram.refl _ _) hd hsz
    | cons q l =>
      have hlen := hl
      simp only [List.length_cons] at hlen
      have hks : k < ops.size := by omega
      have ho : ops[k]? = some ops[k] := by simp [hks]
      generalize ops[k] = o at ho
      obtain ⟨q', hq', hcomp⟩ := hk 0 o (by simpa using ho)
      simp at hq'; subst hq'
      obtain ⟨hc, hdst, hg, hnt⟩ := compOper_spec hcomp
      rw [show ops.size - k = (ops.size - (k + 1)) + 1 by omega, List.range'_succ]
      have hput : ∀ t, o.dst = some t → t < a.tmps.size := fun t ht => by rw [hsz]; exact hnt t ht
      -- what follows
      have next : ∀ {f' : Fr} {s' : St} {outs' : List (Fr × St)}, runOps D n l f' s' = some outs' → (∀ p ∈ outs', p ∈ outs) → ∀ (ρ' : Ren) (a' : Act) (w' : World), Rel σ ρ' s' w' → FR σ ρ' f' a' → Grow s.next s'.next ρ ρ' → Fram ρ ρ' w w' → a'.defers = [] → a'.tmps.size = nt →
          wpOps P ops Q (List.range' (k + 1) (ops.size - (k + 1))) a' w' := fun {f' s' outs'} h1 h2 ρ' a' w' g1 g2 g3 g4 g5 g6 =>
        ih ops (k + 1) l f' s' outs' (by omega) (fun i o' hi => by
          have := hk (i + 1) o' (by rw [show k + (i + 1) = k + 1 + i by omega]; exact hi)
          simpa using this) h1 ρ' a' w' Q g1 g2 g5 g6 fun f'' s'' hm ρ'' a'' w'' e1 e2 e3 e4 e5 e6 => hout f'' s'' (h2 _ hm) ρ'' a'' w'' e1 e2 (g3.trans e3) (g4.trans e4) e5 e6
      rw [wpOps]
      simp only [ho]
      simp only [runOps] at h
      rw [hg] at h
      split at h
      · cases h
      · rename_i hgu
        have hw := guard_sound (σ := σ) (ρ := ρ) hgu fun t _ v ht => hF t v ht
        rw [hw]
        simp only [Bool.false_eq_true, if_false]
        rw [hdst] at h
        exact next h (fun p hp => hp) ρ _ w R (hF.put hput (by rw [VRel]; exact ⟨_, rfl, VRels.nil⟩)) (Grow.refl _ _) (Fram.refl _ _) (by rw [put_defers']; exact hd) (by rw [put_size]; exact hsz)
      · rename_i hgu
        have hw := guard_sound (σ := σ) (ρ := ρ) hgu fun t _ v ht => hF t v ht
        rw [hw]
        simp only [if_true]
        left
        have hbodies : ∀ g vs, sem1 q.op f s = .call g vs → ∃ fn cd, P.funcs[g]? = some fn ∧ fn.body = some cd := fun g vs hs => by
          rw [hs] at h
          simp only at h
          cases hcf : callF D n g vs s with
          | none => rw [hcf] at h; cases h
          | some outs' =>
            cases n with
            | zero => simp [callF] at hcf
            | succ n =>
              simp only [callF] at hcf
              cases hDg : D g with
              | none => rw [hDg] at hcf; cases hcf
              | some dfn =>
                have := hD g dfn hDg
                unfold compF at this
                split at this
                · rename_i fn hfn
                  split at this
                  · rename_i cd hcd; exact ⟨fn, cd, hfn, hcd⟩
                  · cases this
                · cases this
        have hrun := op_sound (w := w) hP hc R (fun x _ => hF.orel x) hbodies
        unfold Oper.wp
        rw [hdst] at h
        -- a step that gives a value
        have upd : ∀ {v : DV} {s' : St} {outs' : List (Fr × St)}, UpdTo σ ρ s w v s' ((execOp a.eval o).run P w) → runOps D n l (fput f o.dst v) s' = some outs' → (∀ p ∈ outs', p ∈ outs) →
            o.upon P a (fun a' w' => wpOps P ops Q (List.range' (k + 1) (ops.size - (k + 1))) a' w') Q ((execOp a.eval o).run P w) := fun {v s' outs'} hu h1 h2 => by
          obtain ⟨nx, v', w', ρ', e1, e2, e3, e4, e5, e6⟩ := hu
          rw [e1]
          have hn := next h1 h2 ρ' (a.put o.dst v') w' e3 ((hF.sub e4.1).put hput e6) e4 e5 (by rw [put_defers']; exact hd) (by rw [put_size]; exact hsz)
          rcases e2 with rfl | ⟨rfl, rfl⟩
          · exact hn
          · exact hn
        cases hs : sem1 q.op f s with
        | fail => rw [hs] at h; cases h
        | val v =>
          rw [hs] at h hrun
          obtain ⟨v', e1, e2⟩ := hrun
          exact upd ⟨_, v', w, ρ, e1, .inl rfl, R, Grow.refl _ _, Fram.refl _ _, e2⟩ h (fun p hp => hp)
        | new c mk =>
          rw [hs] at h hrun
          obtain ⟨ob, v', N, e1, e2, e3⟩ := hrun
          obtain ⟨k1, k2, k3⟩ := R.new e2
          exact upd ⟨_, v', _, _, e1, .inl rfl, k1, k2, k3, e3 _ _ ext_self k2.1⟩ h (fun p hp => hp)
        | upd v s' =>
          rw [hs] at h hrun
          exact upd hrun h (fun p hp => hp)
        | fork lo =>
          rw [hs] at h hrun
          obtain ⟨p, hp, hu⟩ := hrun
          obtain ⟨y, h1, h2⟩ := mapAll_some h p hp
          exact upd hu h1 h2
        | call g args =>
          rw [hs] at h hrun
          obtain ⟨args', e1, e2⟩ := hrun
          rw [e1]
          simp only at h
          cases hcf : callF D n g args s with
          | none => rw [hcf] at h; cases h
          | some outs' =>
            rw [hcf] at h
            refine upon_call fun Rr hRr => ?_
            refine hcalls n (by omega) g args s outs' hcf ρ w args' R e2 Rr fun p hp v' w' ρ' g1 g2 g3 g4 => hRr v' w' ?_
            obtain ⟨y, h1, h2⟩ := mapAll_some h p hp
            exact next h1 h2 ρ' (a.put o.dst v') w' g1 ((hF.sub g2.1).put hput g4) g2 g3 (by rw [put_defers']; exact hd) (by rw [put_size]; exact hsz)
end
end Go.Proofs.YtpmephcfamcbjaaGreat.Ev
