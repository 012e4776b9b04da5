/- An evaluator for runs: what is said of calls, regions, code. -/
import Derived.Test.YtpmephcfamcbjaaGreatEvO
namespace Go.Proofs.YtpmephcfamcbjaaGreat.Ev
open Go

def DE.conc : DE → Exit
  | .normal => .normal
  | .exit id => .exit id
  | .ret => .ret
/-- calls that are evaluated are right -/
def CallOk (P : Program) (σ : Nat → Value) (D : Nat → Option DFun) (n : Nat) : Prop :=
  ∀ (g : Nat) (args : List DV) (s : St) (outs : List (DV × St)), callF D n g args s = some outs → ∀ (ρ : Ren) (w : World) (args' : Array Value), Rel σ ρ s w → VRels σ ρ args args'.toList →
    ∀ R : Ending → World → Prop, (∀ p ∈ outs, ∀ (v' : Value) (w' : World) (ρ' : Ren), Rel σ ρ' p.2 w' → Grow s.next p.2.next ρ ρ' → Fram ρ ρ' w w' → VRel σ ρ' p.1 v' → R (.returned v') w') → Calls P g args' w R
def OpsOk (P : Program) (σ : Nat → Value) (D : Nat → Option DFun) (nt n : Nat) : Prop :=
  ∀ (ops : Array Oper) (k : Nat) (l : List DOper) (f : Fr) (s : St) (outs : List (Fr × St)), k + l.length = ops.size → (∀ (i : Nat) (o : Oper), ops[k + i]? = some o → ∃ q, l[i]? = some q ∧ compOper P nt ops o = some q) → runOps D n l f s = some outs →
    ∀ (ρ : Ren) (a : Act) (w : World) (Q : Exit → Act → World → Prop), Rel σ ρ s w → FR σ ρ f a → a.defers = [] → a.tmps.size = nt →
      (∀ f' s', (f', s') ∈ outs → ∀ (ρ' : Ren) (a' : Act) (w' : World), Rel σ ρ' s' w' → FR σ ρ' f' a' → Grow s.next s'.next ρ ρ' → Fram ρ ρ' w w' → a'.defers = [] → a'.tmps.size = nt → Q .normal a' w') →
      wpOps P ops Q (List.range' k (ops.size - k)) a w
def CodeOk (P : Program) (σ : Nat → Value) (D : Nat → Option DFun) (nt n : Nat) : Prop :=
  ∀ (c : Code) (dc : DCode) (f : Fr) (s : St) (outs : List (DE × Fr × St)), compC P nt c = some dc → runC D n dc f s = some outs →
    ∀ (ρ : Ren) (a : Act) (w : World) (Q : Exit → Act → World → Prop), Rel σ ρ s w → FR σ ρ f a → a.defers = [] → a.tmps.size = nt →
      (∀ e f' s', (e, f', s') ∈ outs → ∀ (ρ' : Ren) (a' : Act) (w' : World), Rel σ ρ' s' w' → FR σ ρ' f' a' → Grow s.next s'.next ρ ρ' → Fram ρ ρ' w w' → a'.defers = [] → a'.tmps.size = nt → Q (DE.conc e) a' w') →
      c.wp P Q a w
def DrawOk (P : Program) (σ : Nat → Value) (D : Nat → Option DFun) (nt n : Nat) : Prop :=
  ∀ (id : Nat) (ops : Array Oper) (l : List DOper) (order : List (Nat × List Nat)) (f : Fr) (s : St) (outs : List (Fr × St)), compOpers P nt ops ops.toList = some l → orderOk ops l order = true → runDraw D n l order [] f s = some outs →
    ∀ (ρ : Ren) (a : Act) (w : World) (Q : Exit → Act → World → Prop), Rel σ ρ s w → FR σ ρ f a → a.defers = [] → a.tmps.size = nt →
      (∀ f' s', (f', s') ∈ outs → ∀ (ρ' : Ren) (a' : Act) (w' : World), Rel σ ρ' s' w' → FR σ ρ' f' a' → Grow s.next s'.next ρ ρ' → Fram ρ ρ' w w' → a'.defers = [] → a'.tmps.size = nt → Q .normal a' w') →
      (Code.region id ops true).wp P Q a w
end Go.Proofs.YtpmephcfamcbjaaGreat.Ev
