/- What is evaluated by the kernel is what the program does: the table of functions, and a closed run. -/
import Derived.Test.YtpmephcfamcbjaaGreatEvS
import Derived.Test.YtpmephcfamcbjaaGreatProg
import Derived.Below
namespace Go.Proofs.YtpmephcfamcbjaaGreat.Ev
open Go

def mkT : List (Nat × DFun) → Trie DFun
  | [] => .nil
  | p :: l => Trie.set 40 (mkT l) p.1 (some p.2)
def ofT (t : Trie DFun) (g : Nat) : Option DFun := Trie.get 40 t g
def AllOk (P : Program) : List (Nat × DFun) → Prop
  | [] => True
  | p :: l => compF P p.1 = some p.2 ∧ AllOk P l
theorem ofT_ok {P : Program} : ∀ (l : List (Nat × DFun)), AllOk P l → ∀ g fn, ofT (mkT l) g = some fn → compF P g = some fn
  | [], _, g, fn, h => by
    have : ∀ d n, Trie.get d (Trie.nil : Trie DFun) n = none := by
      intro d
      induction d with
      | zero => intro n; rfl
      | succ d ih =>
        intro n
        unfold Trie.get
        split
        · rfl
        · split
          · exact ih _
          · exact ih _
    simp [ofT, mkT, this] at h
  | p :: l, ⟨h1, h2⟩, g, fn, h => by
    have h' := Trie.get_set 40 (mkT l) p.1 g (some p.2) fn h
    rcases h' with ⟨e, h3⟩ | ⟨_, h3⟩
    · rw [e, ← Option.some.inj h3]; exact h1
    · exact ofT_ok l h2 g fn h3
theorem noGor : NoGor Tryz.prog := by
  have h : Tryz.prog.funcs.toList.all (fun fn => decide (fn.name ≠ "runtime.NumGoroutine")) = true := by kernel_rfl
  intro g fn hg
  have hm : fn ∈ Tryz.prog.funcs.toList := by
    rw [Array.mem_toList_iff]
    exact Array.mem_of_getElem? hg
  have := List.all_eq_true.1 h fn hm
  exact of_decide_eq_true this
theorem mixed : Tryz.prog.follows .mixedOrders = true := by kernel_rfl
/-- no block is known -/
def ren0 : Ren := fun _ => none
theorem rel0 {σ : Nat → Value} {w : World} : Rel σ ren0 ⟨.nil, 0⟩ w := by
  refine ⟨fun _ _ _ _ h => ?_, fun _ _ _ _ _ h => ?_, fun _ _ _ _ h => ?_⟩ <;> cases h
def okB : Option (List (DV × St)) → Bool
  | some outs => outs.all fun p => match p.1 with | .bool true => true | _ => false
  | none => false
/-- a closed run that returns true at every outcome does so in the program; what lay there before lies as it did -/
theorem closed_true (t : List (Nat × DFun)) (ht : AllOk Tryz.prog t) (n g : Nat) (h : okB (callF (ofT (mkT t)) n g [] ⟨.nil, 0⟩) = true) (w : World) : Calls Tryz.prog g #[] w fun e w' => e = .returned (.bool true) ∧ RowKit.Below w.heap.size w w' := by
  have hc := calls_ok (σ := fun _ => .bool true) mixed noGor (ofT_ok t ht) n
  unfold okB at h
  split at h
  · rename_i outs ho
    refine hc g [] ⟨.nil, 0⟩ outs ho ren0 w #[] rel0 (by simp [VRels]) _ fun p hp v' w' ρ' _ _ hf hv => ?_
    have h2 := List.all_eq_true.1 h p hp
    split at h2
    · rename_i e
      rw [e, VRel] at hv
      exact ⟨by rw [hv], hf.os, hf.tape, hf.output, hf.size, fun i hi => hf.keep i hi (fun b x hb => by cases hb)⟩
    · cases h2
  · cases h
def okC (chk : DV → Bool) : Option (List (DV × St)) → Bool
  | some outs => outs.all fun p => chk p.1
  | none => false
/-- a run that does not hang on what is not known of its arguments: what it returns meets the test at every outcome -/
theorem run_chk {σ : Nat → Value} (t : List (Nat × DFun)) (ht : AllOk Tryz.prog t) (n g : Nat) (args : List DV) (chk : DV → Bool) (h : okC chk (callF (ofT (mkT t)) n g args ⟨.nil, 0⟩) = true) (args' : Array Value) (ha : VRels σ ren0 args args'.toList) (w : World) :
    Calls Tryz.prog g args' w fun e w' => ∃ dv ρ' v, e = .returned v ∧ chk dv = true ∧ VRel σ ρ' dv v ∧ (∀ b x, ρ' b = some x → w.heap.size ≤ x.1 ∧ x.1 < w'.heap.size) ∧ RowKit.Below w.heap.size w w' := by
  have hc := calls_ok (σ := σ) mixed noGor (ofT_ok t ht) n
  unfold okC at h
  split at h
  · rename_i outs ho
    refine hc g args ⟨.nil, 0⟩ outs ho ren0 w args' rel0 ha _ fun p hp v' w' ρ' hr hg hf hv => ?_
    refine ⟨p.1, ρ', v', rfl, List.all_eq_true.1 h p hp, hv, fun b x hb => ?_, hf.os, hf.tape, hf.output, hf.size, fun i hi => hf.keep i hi (fun b x hb => by cases hb)⟩
    obtain ⟨B, d, N⟩ := x
    refine ⟨?_, (hr.lt b B d N hb).2⟩
    rcases hf.fresh b _ hb with ⟨b0, x0, h0, _⟩ | h0
    · cases h0
    · exact h0
  · cases h
end Go.Proofs.YtpmephcfamcbjaaGreat.Ev
