/- An evaluator for runs: that a run of code, and a call, is right. -/
import Derived.Test.YtpmephcfamcbjaaGreatEvW
import Derived.LoopN
namespace Go.Proofs.YtpmephcfamcbjaaGreat.Ev
open Go

section
variable {P : Program} {σ : Nat → Value} {D : Nat → Option DFun}

def LoopOk (P : Program) (σ : Nat → Value) (D : Nat → Option DFun) (nt n : Nat) : Prop :=
  ∀ (c : Code) (dc : DCode) (f : Fr) (s : St) (outs : List (DE × Fr × St)), compC P nt c = some dc → runC D n (.loop dc) f s = some outs →
    ∀ (ρ : Ren) (a : Act) (w : World) (Q : Exit → Act → World → Prop), Rel σ ρ s w → FR σ ρ f a → a.defers = [] → a.tmps.size = nt →
      (∀ e f' s', (e, f', s') ∈ outs → ∀ (ρ' : Ren) (a' : Act) (w' : World), Rel σ ρ' s' w' → FR σ ρ' f' a' → Grow s.next s'.next ρ ρ' → Fram ρ ρ' w w' → a'.defers = [] → a'.tmps.size = nt → Q (DE.conc e) a' w') →
      Code.rounds P c Q n a w
theorem loop_step (nt n : Nat) (hC : CodeOk P σ D nt n) (hL : LoopOk P σ D nt n) : LoopOk P σ D nt (n + 1) := by
  intro c dc f s outs hcomp h ρ a w Q R hF hd hsz hout
  rw [rounds_succ]
  simp only [runC] at h
  split at h
  · cases h
  · rename_i outs1 h1
    refine hC c dc f s outs1 hcomp h1 ρ a w _ R hF hd hsz fun e f' s' hm ρ' a' w' g1 g2 g3 g4 g5 g6 => ?_
    obtain ⟨y, h2, h3⟩ := mapAll_some h (e, f', s') hm
    cases e with
    | normal =>
      exact hL c dc f' s' y hcomp h2 ρ' a' w' Q g1 g2 g5 g6 fun e2 f2 s2 hm2 ρ2 a2 w2 k1 k2 k3 k4 k5 k6 => hout e2 f2 s2 (h3 _ hm2) ρ2 a2 w2 k1 k2 (g3.trans k3) (g4.trans k4) k5 k6
    | exit id =>
      simp only at h2; cases h2
      exact hout (.exit id) f' s' (h3 _ (by simp)) ρ' a' w' g1 g2 g3 g4 g5 g6
    | ret =>
      simp only at h2; cases h2
      exact hout .ret f' s' (h3 _ (by simp)) ρ' a' w' g1 g2 g3 g4 g5 g6
theorem code_step (nt n : Nat) (hO : OpsOk P σ D nt n) (hW : DrawOk P σ D nt n) (hC : CodeOk P σ D nt n) (hL : LoopOk P σ D nt (n + 1)) : CodeOk P σ D nt (n + 1) := by
  intro c dc f s outs hcomp h ρ a w Q R hF hd hsz hout
  cases c with
  | skip =>
    simp only [compC] at hcomp; cases hcomp
    simp only [runC] at h; cases h
    exact wp_skip (hout .normal f s (by simp) ρ a w R hF (Grow.refl _ _) (Fram.refl _ _) hd hsz)
  | region id ops draw =>
    cases draw with
    | false =>
      simp only [compC] at hcomp
      split at hcomp
      · rename_i l hl
        cases hcomp
        simp only [runC] at h
        split at h
        · cases h
        · rename_i outs1 h1
          cases h
          obtain ⟨k1, k2⟩ := compOpers_spec hl
          refine wp_region ?_
          have := hO ops 0 l f s outs1 (by simpa using k1) (fun i o hi => k2 i o (by simpa using hi)) h1 ρ a w Q R hF hd hsz fun f' s' hm ρ' a' w' g1 g2 g3 g4 g5 g6 =>
            hout .normal f' s' (List.mem_map.2 ⟨(f', s'), hm, rfl⟩) ρ' a' w' g1 g2 g3 g4 g5 g6
          rw [Nat.sub_zero, ← List.range_eq_range'] at this
          exact this
      · cases hcomp
    | true =>
      simp only [compC] at hcomp
      split at hcomp
      · rename_i l hl
        split at hcomp
        · rename_i hord
          cases hcomp
          simp only [runC] at h
          split at h
          · cases h
          · rename_i outs1 h1
            cases h
            exact hW id ops l _ f s outs1 hl hord h1 ρ a w Q R hF hd hsz fun f' s' hm ρ' a' w' g1 g2 g3 g4 g5 g6 =>
              hout .normal f' s' (List.mem_map.2 ⟨(f', s'), hm, rfl⟩) ρ' a' w' g1 g2 g3 g4 g5 g6
        · cases hcomp
      · cases hcomp
  | seq x y =>
    simp only [compC] at hcomp
    split at hcomp
    case h_2 => cases hcomp
    rename_i dx hx
    split at hcomp
    case h_2 => cases hcomp
    rename_i dy hy
    cases hcomp
    simp only [runC] at h
    split at h
    · cases h
    · rename_i outs1 h1
      refine wp_seq (hC x dx f s outs1 hx h1 ρ a w _ R hF hd hsz fun e f' s' hm ρ' a' w' g1 g2 g3 g4 g5 g6 => ?_)
      obtain ⟨yo, h2, h3⟩ := mapAll_some h (e, f', s') hm
      cases e with
      | normal =>
        exact hC y dy f' s' yo hy h2 ρ' a' w' Q g1 g2 g5 g6 fun e2 f2 s2 hm2 ρ2 a2 w2 k1 k2 k3 k4 k5 k6 => hout e2 f2 s2 (h3 _ hm2) ρ2 a2 w2 k1 k2 (g3.trans k3) (g4.trans k4) k5 k6
      | exit id =>
        simp only at h2; cases h2
        exact hout (.exit id) f' s' (h3 _ (by simp)) ρ' a' w' g1 g2 g3 g4 g5 g6
      | ret =>
        simp only at h2; cases h2
        exact hout .ret f' s' (h3 _ (by simp)) ρ' a' w' g1 g2 g3 g4 g5 g6
  | cond x y z =>
    simp only [compC] at hcomp
    split at hcomp
    case h_2 => cases hcomp
    rename_i dx hx
    split at hcomp
    case h_2 => cases hcomp
    rename_i dy hy
    split at hcomp
    case h_2 => cases hcomp
    rename_i dz hz
    cases hcomp
    simp only [runC] at h
    split at h
    · rename_i hv
      have hb := VRel.bool (hF.orel x _ _ hx hv)
      exact wp_cond_true hb (hC y dy f s outs hy h ρ a w Q R hF hd hsz hout)
    · rename_i hv
      have hb := VRel.bool (hF.orel x _ _ hx hv)
      exact wp_cond_false hb (hC z dz f s outs hz h ρ a w Q R hF hd hsz hout)
    · cases h
  | block id x =>
    simp only [compC] at hcomp
    split at hcomp
    case h_2 => cases hcomp
    rename_i dx hx
    cases hcomp
    simp only [runC] at h
    split at h
    · cases h
    · rename_i outs1 h1
      cases h
      refine wp_block (hC x dx f s outs1 hx h1 ρ a w _ R hF hd hsz fun e f' s' hm ρ' a' w' g1 g2 g3 g4 g5 g6 => ?_)
      cases e with
      | normal => exact hout .normal f' s' (List.mem_map.2 ⟨_, hm, rfl⟩) ρ' a' w' g1 g2 g3 g4 g5 g6
      | ret => exact hout .ret f' s' (List.mem_map.2 ⟨_, hm, rfl⟩) ρ' a' w' g1 g2 g3 g4 g5 g6
      | exit id' =>
        show Exit.inBlock id Q (.exit id') a' w'
        simp only [Exit.inBlock]
        by_cases hid : id' = id
        · rw [if_pos hid]
          refine hout .normal f' s' (List.mem_map.2 ⟨_, hm, ?_⟩) ρ' a' w' g1 g2 g3 g4 g5 g6
          have : Nat.beq id' id = true := by simpa using hid
          simp only [this]
        · rw [if_neg hid]
          refine hout (.exit id') f' s' (List.mem_map.2 ⟨_, hm, ?_⟩) ρ' a' w' g1 g2 g3 g4 g5 g6
          have : Nat.beq id' id = false := by rw [Bool.eq_false_iff]; simpa using hid
          simp only [this]
  | loop x =>
    simp only [compC] at hcomp
    split at hcomp
    case h_2 => cases hcomp
    rename_i dx hx
    cases hcomp
    exact wp_loop_rounds (n + 1) (hL x dx f s outs hx h ρ a w Q R hF hd hsz hout)
  | exit id =>
    simp only [compC] at hcomp; cases hcomp
    simp only [runC] at h; cases h
    exact wp_exit (hout (.exit id) f s (by simp) ρ a w R hF (Grow.refl _ _) (Fram.refl _ _) hd hsz)
  | ret =>
    simp only [compC] at hcomp; cases hcomp
    simp only [runC] at h; cases h
    exact wp_ret (hout .ret f s (by simp) ρ a w R hF (Grow.refl _ _) (Fram.refl _ _) hd hsz)
  | _ => simp [compC] at hcomp
theorem call_step (hD : ∀ g fn, D g = some fn → compF P g = some fn) (n : Nat) (hC : ∀ nt, CodeOk P σ D nt n) : CallOk P σ D (n + 1) := by
  intro g args s outs h ρ w args' R hargs Rr hout
  simp only [callF] at h
  split at h
  · cases h
  rename_i dfn hDg
  split at h
  · cases h
  rename_i hble
  split at h
  · cases h
  rename_i outs1 h1
  have hcf := hD g dfn hDg
  unfold compF at hcf
  split at hcf
  case h_2 => cases hcf
  rename_i fn hfn
  split at hcf
  case h_2 => cases hcf
  rename_i cd hcd
  split at hcf
  case h_2 => cases hcf
  rename_i dc hdc
  split at hcf
  case h_2 => cases hcf
  rename_i dr hdr
  cases hcf
  have hlen := hargs.length
  simp only [Array.length_toList] at hlen
  have hle : args'.size ≤ fn.ntmps := by rw [← hlen]; simpa using hble
  refine calls_of_wp hfn hcd (hC fn.ntmps cd dc _ s outs1 hdc h1 ρ _ w _ R (args_FR hargs) rfl (by simp; omega) fun e f' s' hm ρ' a' w' g1 g2 g3 g4 g5 g6 => ?_)
  obtain ⟨y, h2, h3⟩ := mapAll_some h (e, f', s') hm
  have fin : ∀ y, (match resD f' s' dr with | some [v] => some [(v, s')] | some vs => some [(DV.tup vs, s')] | none => none) = some y → (∀ z ∈ y, z ∈ outs) → ∃ v, (results fn a'.tmps).run P w' = .ok v w' ∧ Rr (.returned v) w' := fun y h2 h3 => by
    split at h2
    · rename_i v hv
      cases h2
      obtain ⟨u, k1, k2⟩ := results_sound (P := P) g1 g2 hdr hv (.inl ⟨v, rfl, rfl⟩)
      exact ⟨u, k1, hout _ (h3 (v, s') (by simp)) u w' ρ' g1 g3 g4 k2⟩
    · rename_i vs hne hv
      cases h2
      obtain ⟨u, k1, k2⟩ := results_sound (P := P) g1 g2 hdr hv (.inr ⟨fun x hx => hne x (by rw [hx]), rfl⟩)
      exact ⟨u, k1, hout _ (h3 (.tup vs, s') (by simp)) u w' ρ' g1 g3 g4 k2⟩
    · cases h2
  cases e with
  | normal => exact ⟨g5, fin y h2 h3⟩
  | ret => exact ⟨g5, fin y h2 h3⟩
  | exit id => simp only at h2; cases h2
/-- every call that is evaluated is right -/
theorem calls_ok (hm : P.follows .mixedOrders = true) (hP : NoGor P) (hD : ∀ g fn, D g = some fn → compF P g = some fn) : ∀ n, CallOk P σ D n := by
  have all : ∀ n, (∀ m, m ≤ n → CallOk P σ D m) ∧ (∀ nt, CodeOk P σ D nt n) ∧ (∀ nt, LoopOk P σ D nt n) := by
    intro n
    induction n with
    | zero =>
      refine ⟨fun m hm => ?_, fun nt => ?_, fun nt => ?_⟩
      · obtain rfl : m = 0 := by omega
        intro g args s outs h; simp [callF] at h
      · intro c dc f s outs _ h; simp [runC] at h
      · intro c dc f s outs _ h; simp [runC] at h
    | succ n ih =>
      obtain ⟨h1, h2, h3⟩ := ih
      have hO : ∀ nt, OpsOk P σ D nt n := fun nt => runOps_sound hP hD nt n fun m hm => h1 m (by omega)
      have hW : ∀ nt, DrawOk P σ D nt n := fun nt => runDraw_sound hm hP hD nt n fun m hm => h1 m (by omega)
      have hL : ∀ nt, LoopOk P σ D nt (n + 1) := fun nt => loop_step nt n (h2 nt) (h3 nt)
      refine ⟨fun m hm => ?_, fun nt => code_step nt n (hO nt) (hW nt) (h2 nt) (hL nt), hL⟩
      rcases Nat.lt_or_ge m (n + 1) with h | h
      · exact h1 m (by omega)
      · obtain rfl : m = n + 1 := by omega
        exact call_step hD n h2
  exact fun n => (all n).1 n (Nat.le_refl _)
end
end Go.Proofs.YtpmephcfamcbjaaGreat.Ev
