/- An evaluator for runs: regions whose order is open: the simulation. -/
import Derived.Test.YtpmephcfamcbjaaGreatEvR
namespace Go.Proofs.YtpmephcfamcbjaaGreat.Ev
open Go

/-- an operation that has been run in the order of the evaluator -/
structure Done where
  i : Nat
  dst : Option Nat
  v : DV
def upd (F : Nat → Option DV) (t : Option Nat) (v : DV) : Nat → Option DV := fun k => if t = some k then some v else F k
def fold (F : Nat → Option DV) : List Done → Nat → Option DV
  | [] => F
  | e :: l => fold (upd F e.dst e.v) l
theorem fold_append (F : Nat → Option DV) : ∀ (l r : List Done), fold F (l ++ r) = fold (fold F l) r
  | [], _ => rfl
  | e :: l, r => fold_append (upd F e.dst e.v) l r
theorem fold_none {t : Nat} : ∀ {l : List Done} {F : Nat → Option DV}, (∀ e ∈ l, e.dst ≠ some t) → fold F l t = F t
  | [], _, _ => rfl
  | e :: l, F, h => by
    simp only [fold]
    rw [fold_none fun e' he' => h e' (by simp [he'])]
    unfold upd
    rw [if_neg (h e (by simp))]
theorem fold_same {t : Nat} : ∀ {l : List Done} {F G : Nat → Option DV}, F t = G t → fold F l t = fold G l t
  | [], _, _, h => h
  | e :: l, F, G, h => by
    simp only [fold]
    refine fold_same ?_
    unfold upd
    split
    · rfl
    · exact h
theorem fold_filter {t : Nat} {p : Done → Bool} : ∀ {l : List Done} {F : Nat → Option DV}, (∀ e ∈ l, e.dst = some t → p e = true) → fold F (l.filter p) t = fold F l t
  | [], _, _ => rfl
  | e :: l, F, h => by
    by_cases hp : p e = true
    · rw [List.filter_cons_of_pos hp]
      simp only [fold]
      exact fold_filter fun e' he' => h e' (by simp [he'])
    · rw [List.filter_cons_of_neg hp]
      simp only [fold]
      rw [fold_filter fun e' he' => h e' (by simp [he'])]
      refine fold_same ?_
      unfold upd
      rw [if_neg fun hd => hp (h e (by simp) hd)]

/-- an operation that was run in the evaluator's order and is still to be run: what it will give at the evaluator's memory s -/
def Pend (q : DOper) (fe : Fr) (v : DV) (s : St) (ws : List Watch) (ρ : Ren) (i : Nat) : Prop :=
  (guardOk fe q.guard = some false ∧ v = .tup []) ∨
  (guardOk fe q.guard = some true ∧ q.op.acts = false ∧ sem1 q.op fe s = .val v ∧ (q.op.reads = true → Watch.ld i q.op fe v ∈ ws)) ∨
  (guardOk fe q.guard = some true ∧ q.op.acts = false ∧ q.op.reads = false ∧ ∃ c mk b, sem1 q.op fe s = .new c mk ∧ v = mk b ∧ s.blk b = some c ∧ ρ b = none ∧ b < s.next ∧ Watch.bk i b c ∈ ws)

/-- the state of affairs in the midst of a region -/
structure Mid (σ : Nat → Value) (D : Nat → Option DFun) (nt : Nat) (ops : Array Oper) (l : List DOper) (order : List (Nat × List Nat)) (f0 : Nat → Option DV) (outs : List (Fr × St)) (n0 : Nat) (ρ0 : Ren) (w0 : World) (listed : Array Bool) (a : Act) (w : World)
    (evs : List Done) (rest : List (Nat × List Nat)) (f : Fr) (s : St) (ws : List Watch) (ρ : Ren) (m : Nat) (fr : Nat → Fr) : Prop where
  ord : order.map (·.1) = evs.map (·.i) ++ rest.map (·.1)
  suf : ∃ A, order = A ++ rest
  run : ∃ outs', runDraw D m l rest ws f s = some outs' ∧ ∀ p ∈ outs', p ∈ outs
  lsize : listed.size = ops.size
  clos : ∀ j, listed.getD j false = true → Pre ops (fun i => listed.getD i false = true) j
  inEv : ∀ j, listed.getD j false = true → j ∈ evs.map (·.i)
  fle : ∀ t v, fget f t = some v → fold f0 evs t = some v
  rel : Rel σ ρ s w
  grow : Grow n0 s.next ρ0 ρ
  fram : Fram ρ0 ρ w0 w
  defs : a.defers = []
  size : a.tmps.size = nt
  frame : ∀ t v, fold f0 (evs.filter fun e => listed.getD e.i false) t = some v → t < nt ∧ VRel σ ρ v (a.tmps.getD t undef)
  dst : ∀ e ∈ evs, ∃ o, ops[e.i]? = some o ∧ e.dst = o.dst
  pend : ∀ pre e post, evs = pre ++ e :: post → listed.getD e.i false = false → ∃ q, l[e.i]? = some q ∧ (∀ t v, fget (fr e.i) t = some v → fold f0 pre t = some v) ∧ Pend q (fr e.i) e.v s ws ρ e.i
  boxes : ∀ i j b c b' c', Watch.bk i b c ∈ ws → Watch.bk j b' c' ∈ ws → b = b' → i = j ∧ c = c'
  boxlt : ∀ i b c, Watch.bk i b c ∈ ws → n0 ≤ b ∧ b < s.next
  wnum : ∀ x ∈ ws, x.num ∈ evs.map (·.i)

theorem watchAll_mem {s : St} : ∀ {ws : List Watch}, watchAll s ws = true → ∀ x ∈ ws, x.ok s = true
  | [], _, _, h => by simp at h
  | y :: ws, h, x, hx => by
    simp only [watchAll, Bool.and_eq_true] at h
    rcases List.mem_cons.1 hx with rfl | hx
    · exact h.1
    · exact watchAll_mem h.2 x hx
theorem memN_iff {n : Nat} : ∀ {l : List Nat}, memN n l = true ↔ n ∈ l
  | [] => by simp [memN]
  | a :: l => by simp [memN, memN_iff (l := l)]
/-- what is to be run still gives the same in other memory, if what is looked at again says so -/
theorem Pend.again {q : DOper} {fe : Fr} {v : DV} {s s' : St} {ws : List Watch} {ρ ρ' : Ren} {i : Nat} {dr : List Nat} (h : Pend q fe v s ws ρ i) (hw : watchAll s' (dropWatch dr ws) = true) (hi : i ∉ dr) (hnext : s.next ≤ s'.next) (hρ : ∀ b, (∃ c, Watch.bk i b c ∈ ws) → ρ b = none → ρ' b = none) :
    Pend q fe v s' (dropWatch dr ws) ρ' i := by
  have keep : ∀ x ∈ ws, x.num = i → x ∈ dropWatch dr ws := fun x hx hn => by
    unfold dropWatch
    rw [List.mem_filter]
    refine ⟨hx, ?_⟩
    rw [hn, Bool.not_eq_true', Bool.eq_false_iff]
    exact fun h => hi (memN_iff.1 h)
  rcases h with h | ⟨h1, h2, h3, h4⟩ | ⟨h1, h2, h3, c, mk, b, h4, h5, h6, h7, h8, h9⟩
  · exact .inl h
  · refine .inr (.inl ⟨h1, h2, ?_, fun hr => keep _ (h4 hr) rfl⟩)
    by_cases hr : q.op.reads = true
    · have := watchAll_mem hw _ (keep _ (h4 hr) rfl)
      simp only [Watch.ok] at this
      split at this
      · rename_i u hu; rw [hu, dvEq_eq _ _ this]
      · cases this
    · rw [sem1_pure h2 (by simpa using hr) fe s' s]; exact h3
  · refine .inr (.inr ⟨h1, h2, h3, c, mk, b, ?_, h5, ?_, hρ b ⟨c, h9⟩ h7, by omega, keep _ h9 rfl⟩)
    · rw [sem1_pure h2 h3 fe s' s]; exact h4
    · have := watchAll_mem hw _ (keep _ h9 rfl)
      exact blkEq_eq this
end Go.Proofs.YtpmephcfamcbjaaGreat.Ev
