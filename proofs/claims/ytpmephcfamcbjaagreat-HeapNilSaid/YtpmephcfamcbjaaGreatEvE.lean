/- An evaluator for runs: that each operation is right (1). -/
import Derived.Test.YtpmephcfamcbjaaGreatEvD
namespace Go.Proofs.YtpmephcfamcbjaaGreat.Ev
open Go

def ORel (σ : Nat → Value) (ρ : Ren) (f : Fr) (a : Act) (x : Operand) : Prop := ∀ d v, opd x = some d → ev f d = some v → VRel σ ρ v (a.eval x)
/-- memory after an operation that gives v -/
def UpdTo (σ : Nat → Value) (ρ : Ren) (s : St) (w : World) (v : DV) (s' : St) (r : Result Next) : Prop :=
  ∃ nx v' w' ρ', r = .ok nx w' ∧ (nx = .value v' ∨ nx = .skip ∧ v' = undef) ∧ Rel σ ρ' s' w' ∧ Grow s.next s'.next ρ ρ' ∧ Fram ρ ρ' w w' ∧ VRel σ ρ' v v'
def RunsTo (σ : Nat → Value) (ρ : Ren) (s : St) (w : World) (r : Result Next) : Res → Prop
  | .fail => True
  | .val v => ∃ v', r = .ok (.value v') w ∧ VRel σ ρ v v'
  | .new c mk => ∃ ob v' N, r = .ok (.value v') (w.alloc ob) ∧ BRel σ ρ c 0 N (some ob) ∧ ∀ ρ' b, ρ' b = some (w.heap.size, 0, N) → Sub ρ ρ' → VRel σ ρ' (mk b) v'
  | .upd v s' => UpdTo σ ρ s w v s' r
  | .call g args => ∃ args', r = .ok (.enter g args') w ∧ VRels σ ρ args args'.toList
  | .fork l => ∃ p ∈ l, UpdTo σ ρ s w p.1 p.2 r

section
variable {P : Program} {σ : Nat → Value} {ρ : Ren} {s : St} {w : World} {f : Fr} {a : Act} {o : Oper} {d : DOp}

theorem run_sizeOf' {t : TypeId} {i : TypeInfo} (h : P.info? t = some i) (w : World) : (sizeOf t).run P w = .ok i.size w := by simp [sizeOf, typeInfo, h]
theorem run_typeInfo' {t : TypeId} {i : TypeInfo} (h : P.info? t = some i) (w : World) : (typeInfo t).run P w = .ok i w := by simp [typeInfo, h]
theorem run_isAgg' {t : TypeId} {b : Bool} (h : isAg P t = some b) (w : World) : (Go.isAgg t).run P w = .ok b w := by
  unfold isAg at h
  unfold Go.isAgg
  split at h
  · rename_i hu; cases h; simp [run_underlying hu]
  · rename_i hu; cases h; simp [run_underlying hu]
  · rename_i d h1 h2 hu; cases h; simp only [Sem.run_bind, run_underlying hu, Result.andThen_ok]
    first
    | rfl
    | (split
       · rename_i e; exact absurd e (h1 _)
       · rename_i e; exact absurd e (h2 _ _)
       · rfl)
  · cases h
theorem zeroOf_spec {t : TypeId} {l : List DV} (h : zeroOf P t = some l) : ∃ i z, P.info? t = some i ∧ i.zero = some z ∧ (∀ σ ρ, VRels σ ρ l z.cells.toList) ∧ l.length = i.size := by
  unfold zeroOf at h
  split at h
  · rename_i i hi
    split at h
    · rename_i z hz
      split at h
      · rename_i l' hl
        split at h
        · rename_i e; cases h; exact ⟨i, z, hi, hz, fun _ _ => plainAll_rel hl, e⟩
        · cases h
      · cases h
    · cases h
  · cases h
theorem run_zero {t : TypeId} {i : TypeInfo} {z : Value} (hi : P.info? t = some i) (hz : i.zero = some z) (w : World) : (zeroValue t).run P w = .ok z w := by
  simp [zeroValue, typeInfo, hi, hz]
theorem opds_rel : ∀ {xs : List Operand} {ds : List DO} {vs : List DV}, opds xs = some ds → evs f ds = some vs → (∀ x ∈ xs, ORel σ ρ f a x) → VRels σ ρ vs (xs.map a.eval)
  | [], ds, vs, h, k, _ => by simp only [opds] at h; cases h; simp only [evs] at k; cases k; exact VRels.nil
  | x :: xs, ds, vs, h, k, hx => by
    simp only [opds] at h
    split at h
    · rename_i d hd
      split at h
      · rename_i ds' hds
        cases h
        simp only [evs] at k
        split at k
        · rename_i v hv
          split at k
          · rename_i vs' hvs
            cases k
            exact VRels.cons (hx x (by simp) _ _ hd hv) (opds_rel hds hvs fun y hy => hx y (by simp [hy]))
          · cases k
        · cases k
      · cases h
    · cases h
theorem Res.ofV_some {v : DV} : Res.ofV (some v) = .val v := rfl
theorem runsTo_ofV {r : Result Next} {x : Option DV} (h : ∀ v, x = some v → ∃ v', r = .ok (.value v') w ∧ VRel σ ρ v v') : RunsTo σ ρ s w r (Res.ofV x) := by
  cases x with
  | none => trivial
  | some v => exact h v rfl
theorem VRel.bool {b : Bool} {v : Value} (h : VRel σ ρ (.bool b) v) : v = .bool b := by rw [VRel] at h; exact h
theorem VRel.int {k : IntKind} {n : Int} {v : Value} (h : VRel σ ρ (.int k n) v) : v = .int k n := by rw [VRel] at h; exact h
theorem VRel.toNat {x : DV} {n : Nat} {v : Value} (h : VRel σ ρ x v) (hn : toNat? x = some n) : ∃ k, v = .int k (n : Int) := by
  unfold toNat? at hn
  split at hn
  · cases hn; rw [VRel] at h; exact ⟨_, h⟩
  · cases hn

theorem s_move {x : Operand} (hop : o.op = .move x ∨ o.op = .assign x) (hc : compOp P o = some d) (hx : ORel σ ρ f a x) : RunsTo σ ρ s w ((execOp a.eval o).run P w) (sem1 d f s) := by
  have h1 : (execOp a.eval o).run P w = .ok (.value (a.eval x)) w := by rcases hop with h | h <;> simp [execOp, h]
  have h2 : ∃ y, opd x = some y ∧ d = .mov y := by
    rcases hop with h | h <;> simp only [compOp, h] at hc <;> split at hc
    · cases hc; exact ⟨_, ‹_›, rfl⟩
    · cases hc
    · cases hc; exact ⟨_, ‹_›, rfl⟩
    · cases hc
  obtain ⟨y, hy, rfl⟩ := h2
  rw [h1]
  exact runsTo_ofV fun v hv => ⟨_, rfl, hx _ _ hy hv⟩

theorem s_pick {c x y : Operand} (hop : o.op = .pick c x y) (hc : compOp P o = some d) (hcr : ORel σ ρ f a c) (hx : ORel σ ρ f a x) (hy : ORel σ ρ f a y) : RunsTo σ ρ s w ((execOp a.eval o).run P w) (sem1 d f s) := by
  simp only [compOp, hop] at hc
  split at hc
  · rename_i c' x' y' e1 e2 e3
    cases hc
    simp only [sem1]
    split
    · rename_i hv
      have := VRel.bool (hcr _ _ e1 hv)
      have h1 : (execOp a.eval o).run P w = .ok (.value (a.eval x)) w := by simp [execOp, hop, this, asBool]
      rw [h1]; exact runsTo_ofV fun v hv => ⟨_, rfl, hx _ _ e2 hv⟩
    · rename_i hv
      have := VRel.bool (hcr _ _ e1 hv)
      have h1 : (execOp a.eval o).run P w = .ok (.value (a.eval y)) w := by simp [execOp, hop, this, asBool]
      rw [h1]; exact runsTo_ofV fun v hv => ⟨_, rfl, hy _ _ e3 hv⟩
    · trivial
  · cases hc

/-- a new row of cells -/
theorem new_cells {l : List DV} {cs : List Value} {ty : TypeId} (h : VRels σ ρ l cs) (h1 : ∀ y ∈ cs, y.oneCell' = true) : BRel σ ρ (.cells l) 0 cs.length (some (.cells cs.toArray ty)) := by
  refine ⟨_, ty, rfl, by simp, by rw [h.length]; omega, fun i x hx => ?_⟩
  obtain ⟨y, hy, hxy⟩ := h.get hx
  exact ⟨y, by simpa using hy, hxy, h1 y (List.mem_of_getElem? hy)⟩
theorem plain_one {v : Value} {x : DV} (h : plain v = some x) : v.oneCell' = true ∧ x.one = true := by
  unfold plain at h
  split at h <;> (try cases h) <;> exact ⟨rfl, rfl⟩
theorem plainAll_one : ∀ {l : List Value} {x : List DV}, plainAll l = some x → (∀ y ∈ l, y.oneCell' = true) ∧ oneAll x = true
  | [], _, h => by simp only [plainAll] at h; cases h; exact ⟨by simp, rfl⟩
  | v :: l, x, h => by
    simp only [plainAll] at h
    split at h
    · rename_i y hy
      split at h
      · rename_i ys hys
        cases h
        have h1 := plain_one hy; have h2 := plainAll_one hys
        refine ⟨fun z hz => ?_, by simp [oneAll, h1.2, h2.2]⟩
        rcases List.mem_cons.1 hz with rfl | hz
        · exact h1.1
        · exact h2.1 z hz
      · cases h
    · cases h
theorem zeroOf_one {t : TypeId} {l : List DV} (h : zeroOf P t = some l) : ∃ i z, P.info? t = some i ∧ i.zero = some z ∧ (∀ y ∈ z.cells.toList, y.oneCell' = true) := by
  unfold zeroOf at h
  split at h
  · rename_i i hi
    split at h
    · rename_i z hz
      split at h
      · rename_i l' hl
        exact ⟨i, z, hi, hz, (plainAll_one hl).1⟩
      · cases h
    · cases h
  · cases h
theorem vrel_ptr {ρ' : Ren} {b B N : Nat} (h : ρ' b = some (B, 0, N)) : VRel σ ρ' (.ptr b 0) (.pointer (some ⟨B, 0, none⟩)) := by rw [VRel]; exact ⟨B, 0, N, h, rfl⟩
theorem s_alloc {e : TypeId} (hop : o.op = .alloc e) (hc : compOp P o = some d) : RunsTo σ ρ s w ((execOp a.eval o).run P w) (sem1 d f s) := by
  simp only [compOp, hop] at hc
  split at hc
  · rename_i l hl
    cases hc
    obtain ⟨i, z, hi, hz, hr, hlen⟩ := zeroOf_spec hl
    obtain ⟨i', z', hi', hz', h1⟩ := zeroOf_one hl
    rw [hi] at hi'; cases hi'; rw [hz] at hz'; cases hz'
    have hrun : (execOp a.eval o).run P w = .ok (.value (.pointer (some ⟨w.heap.size, 0, none⟩))) (w.alloc (.cells z.cells.toList.toArray e)) := by
      simp [execOp, hop, Instr.alloc, run_zero hi hz, newVar, newRow]
    rw [hrun]
    exact ⟨_, _, _, rfl, new_cells (hr σ ρ) h1, fun ρ' b hb _ => vrel_ptr hb⟩
  · cases hc
theorem s_box {e : TypeId} {x : Operand} (hop : o.op = .box e x) (hc : compOp P o = some d) (hx : ORel σ ρ f a x) : RunsTo σ ρ s w ((execOp a.eval o).run P w) (sem1 d f s) := by
  simp only [compOp, hop] at hc
  split at hc
  · rename_i i y hi hy
    cases hc
    simp only [sem1]
    split
    · rename_i v hv
      split
      · rename_i hh
        have hr := hx _ _ hy hv
        have hcs := hr.cells hh.2
        have hrun : (execOp a.eval o).run P w = .ok (.value (.pointer (some ⟨w.heap.size, 0, none⟩))) (w.alloc (.cells (a.eval x).cells.toList.toArray e)) := by
          simp [execOp, hop, Instr.box, newVar, newRow]
        rw [hrun]
        exact ⟨_, _, _, rfl, new_cells hcs (hcs.oneAll hh.2), fun ρ' b hb _ => vrel_ptr hb⟩
      · trivial
    · trivial
  · cases hc
theorem aggIf_rel {ag : Bool} {l : List DV} {cs : List Value} {v : DV} (h : aggIf ag l = some v) (hr : VRels σ ρ l cs) : (ag = true ∧ VRel σ ρ v (.agg cs.toArray)) ∨ (ag = false ∧ ∃ y, cs = [y] ∧ VRel σ ρ v y) := by
  unfold aggIf at h
  split at h
  · cases h; exact .inl ⟨rfl, by rw [VRel]; exact ⟨_, rfl, hr⟩⟩
  · split at h
    · cases h
      right
      rw [VRels] at hr
      obtain ⟨y, ys, rfl, h1, h2⟩ := hr
      rw [VRels] at h2; subst h2
      exact ⟨rfl, y, rfl, h1⟩
    · cases h
theorem run_loadVar {t : TypeId} {i : TypeInfo} {ag : Bool} {A : Addr} {cs : List Value} {l : List DV} {v : DV} (hi : P.info? t = some i) (hg : isAg P t = some ag)
    (hlen : cs.length = agN ag i.size) (hcs : ∀ (j : Nat) (v : Value), cs[j]? = some v → w.cell? (A.add j) = some v) (hr : VRels σ ρ l cs) (hv : aggIf ag l = some v) :
    ∃ v', (loadVar t A).run P w = .ok v' w ∧ VRel σ ρ v v' := by
  rcases aggIf_rel hv hr with ⟨rfl, h⟩ | ⟨rfl, y, rfl, h⟩
  · simp only [agN] at hlen
    refine ⟨_, ?_, h⟩
    have := run_loadCells_list (P := P) w A cs hcs
    rw [hlen] at this
    simp [loadVar, run_isAgg' hg, run_sizeOf' hi, this]
  · refine ⟨_, ?_, h⟩
    have := hcs 0 y rfl
    rw [show A.add 0 = A by simp [Addr.add]] at this
    simp [loadVar, run_isAgg' hg, this]
theorem addr_add (B o j : Nat) : (⟨B, o, none⟩ : Addr).add j = ⟨B, o + j, none⟩ := by unfold Addr.add; split <;> simp_all
theorem s_load {t : TypeId} {x : Operand} (hop : o.op = .load t x) (hc : compOp P o = some d) (R : Rel σ ρ s w) (hx : ORel σ ρ f a x) : RunsTo σ ρ s w ((execOp a.eval o).run P w) (sem1 d f s) := by
  simp only [compOp, hop] at hc
  split at hc
  · rename_i i ag y hi hg hy
    cases hc
    simp only [sem1]
    split
    · rename_i b oo hv
      have hr := hx _ _ hy hv
      rw [VRel] at hr
      obtain ⟨B, dd, N, hb, he⟩ := hr
      split
      · rename_i l hl
        obtain ⟨cs, h1, h2, h3, h4⟩ := R.load hb hl
        refine runsTo_ofV fun v hv => ?_
        obtain ⟨v', h5, h6⟩ := run_loadVar (P := P) (w := w) (A := ⟨B, dd + oo, none⟩) hi hg h2 (fun j v hj => by rw [addr_add]; exact h4 j v hj) h1 hv
        refine ⟨v', ?_, h6⟩
        simp [execOp, hop, Instr.loadAt, he, Instr.sureAddr, h5]
      · trivial
    · trivial
  · cases hc
theorem runsTo_ofS {r : Result Next} {x : Option St} (h : ∀ s', x = some s' → ∃ w' ρ', r = .ok .skip w' ∧ Rel σ ρ' s' w' ∧ Grow s.next s'.next ρ ρ' ∧ Fram ρ ρ' w w') : RunsTo σ ρ s w r (Res.ofS x) := by
  cases x with
  | none => trivial
  | some s' =>
    obtain ⟨w', ρ', h1, h2, h3, h4⟩ := h s' rfl
    exact ⟨_, _, w', ρ', h1, .inr ⟨rfl, rfl⟩, h2, h3, h4, by rw [VRel]; exact ⟨_, rfl, VRels.nil⟩⟩
theorem storeN_one {b o : Nat} {vs : List DV} {s' : St} (h : storeN s b o vs = some s') : oneAll vs = true := by
  unfold storeN at h
  split at h
  · assumption
  · cases h
theorem s_store {t : TypeId} {x y : Operand} (hop : o.op = .store t x y) (hc : compOp P o = some d) (R : Rel σ ρ s w) (hx : ORel σ ρ f a x) (hy : ORel σ ρ f a y) : RunsTo σ ρ s w ((execOp a.eval o).run P w) (sem1 d f s) := by
  simp only [compOp, hop] at hc
  split at hc
  · rename_i i x' y' hi hx' hy'
    cases hc
    simp only [sem1]
    split
    · rename_i b oo hv
      have hr := hx _ _ hx' hv
      rw [VRel] at hr
      obtain ⟨B, dd, N, hb, he⟩ := hr
      split
      · rename_i v hv2
        split
        · rename_i hlen
          refine runsTo_ofS fun s' hs => ?_
          have hcs := (hy _ _ hy' hv2).cells (storeN_one hs)
          obtain ⟨w', h1, h2, h3⟩ := R.store (P := P) hb hs hcs
          refine ⟨w', ρ, ?_, h2, Grow.eq (storeN_next hs) _, h3⟩
          have hsz : (a.eval y).cells.size = i.size := by rw [← hlen, hcs.length]; simp
          simp [execOp, hop, Instr.storeAt, he, Instr.sureAddr, storeVar, run_sizeOf' hi, hsz, h1]
        · trivial
      · trivial
    · trivial
  · cases hc
theorem s_nilck {x : Operand} (hop : o.op = .nilCheck x) (hc : compOp P o = some d) (hx : ORel σ ρ f a x) : RunsTo σ ρ s w ((execOp a.eval o).run P w) (sem1 d f s) := by
  simp only [compOp, hop] at hc
  split at hc
  · rename_i y hy
    cases hc
    simp only [sem1]
    split
    · rename_i b oo hv
      have hr := hx _ _ hy hv
      have hr2 := hr
      rw [VRel] at hr
      obtain ⟨B, dd, N, hb, he⟩ := hr
      exact ⟨a.eval x, by simp [execOp, hop, he], hr2⟩
    · rename_i g i c hv
      have hr := hx _ _ hy hv
      have hr2 := hr
      rw [VRel] at hr
      obtain ⟨i', c', he, _⟩ := hr
      exact ⟨a.eval x, by simp [execOp, hop, he], hr2⟩
    · trivial
  · cases hc
theorem kEq_eq {k k' : IntKind} (h : kEq k k' = true) : k = k' := by cases k <;> cases k' <;> first | rfl | (revert h; decide)
theorem iEq_iff {x y : Int} : iEq x y = (x == y) := by
  cases x <;> cases y <;> simp only [iEq]
  all_goals (rw [Bool.eq_iff_iff]; simp)
  all_goals omega
theorem ofSem_spec {x : Sem Value} {v : DV} (h : ofSem x = some v) : ∃ u, x = .pure u ∧ plain u = some v := by
  unfold ofSem at h
  split at h
  · exact ⟨_, rfl, h⟩
  · cases h
theorem eqL_iff : ∀ {x y : List Nat}, eqL x y = true ↔ x = y
  | [], [] => by simp [eqL]
  | [], _ :: _ => by simp [eqL]
  | _ :: _, [] => by simp [eqL]
  | a :: x, b :: y => by simp [eqL, eqL_iff (x := x) (y := y)]
theorem toNat_inj {x y : List UInt8} : x.map UInt8.toNat = y.map UInt8.toNat ↔ x = y := by
  constructor
  · intro h
    induction x generalizing y with
    | nil => cases y with
      | nil => rfl
      | cons _ _ => simp at h
    | cons a x ih => cases y with
      | nil => simp at h
      | cons b y =>
        simp only [List.map_cons, List.cons.injEq] at h
        rw [ih h.2, UInt8.toNat_inj.1 h.1]
  · rintro rfl; rfl
theorem eqL_bytes {x y : ByteArray} : eqL (x.data.toList.map UInt8.toNat) (y.data.toList.map UInt8.toNat) = (x.toList == y.toList) := by
  rw [Bool.eq_iff_iff, eqL_iff, toNat_inj]
  simp only [ByteArray.toList_eq, beq_iff_eq]
theorem leB_bytes : ∀ {x y : List UInt8}, leB (x.map UInt8.toNat) (y.map UInt8.toNat) = Op.bytesLess x y
  | x, [] => by cases x <;> simp [leB, Op.bytesLess]
  | [], _ :: _ => by simp [leB, Op.bytesLess]
  | a :: x, b :: y => by
    simp only [List.map_cons, leB, Op.bytesLess, leB_bytes (x := x) (y := y)]
    have h1 : Nat.blt a.toNat b.toNat = decide (a < b) := by rw [Bool.eq_iff_iff]; simp [Nat.blt, UInt8.lt_iff_toNat_lt]; omega
    have h2 : Nat.beq a.toNat b.toNat = (a == b) := by rw [Bool.eq_iff_iff]; simp [UInt8.toNat_inj]
    rw [h1, h2]
end
end Go.Proofs.YtpmephcfamcbjaaGreat.Ev
