/- An evaluator for runs: that each operation is right (6). -/
import Derived.Test.YtpmephcfamcbjaaGreatEvI
namespace Go.Proofs.YtpmephcfamcbjaaGreat.Ev
open Go

section
variable {P : Program} {σ : Nat → Value} {ρ : Ren} {s : St} {w : World} {f : Fr} {a : Act} {o : Oper} {d : DOp}

theorem VRel.cellsAny {x : DV} {v : Value} (h : VRel σ ρ x v) : VRels σ ρ x.cells v.cells.toList := by
  by_cases h1 : x.one = true
  · have e : x.cells = [x] := by cases x <;> simp [DV.one] at h1 <;> rfl
    rw [e, (VRel.one h h1).2]; exact VRels.cons h VRels.nil
  · cases x <;> simp [DV.one] at h1
    · rw [VRel] at h; obtain ⟨cs, rfl, h2⟩ := h; exact h2
    · have h2 := h
      rw [VRel] at h; obtain ⟨cs, rfl, _⟩ := h; exact VRels.cons h2 VRels.nil
theorem foldl_set (off : Nat) : ∀ (vs : List Value) (j : Nat) (cells : Array Value) (k : Nat), off + j + vs.length ≤ cells.size →
    ((vs.zipIdx j).foldl (fun cs (p : Value × Nat) => cs.setIfInBounds (off + p.2) p.1) cells)[k]? = if off + j ≤ k ∧ k < off + j + vs.length then vs[k - (off + j)]? else cells[k]?
  | [], j, cells, k, _ => by
    simp only [List.zipIdx_nil, List.foldl_nil, List.length_nil]
    rw [if_neg (by omega)]
  | v :: vs, j, cells, k, h => by
    simp only [List.length_cons] at h
    simp only [List.zipIdx_cons, List.foldl_cons]
    rw [foldl_set off vs (j + 1) _ k (by simp; omega)]
    simp only [List.length_cons]
    by_cases h1 : off + (j + 1) ≤ k ∧ k < off + (j + 1) + vs.length
    · rw [if_pos h1, if_pos (by omega), show k - (off + j) = (k - (off + (j + 1))) + 1 by omega, List.getElem?_cons_succ]
    · rw [if_neg h1, Array.getElem?_setIfInBounds]
      by_cases h2 : off + j = k
      · rw [if_pos h2, if_pos (by omega), if_pos (by omega), show k - (off + j) = 0 by omega]; rfl
      · rw [if_neg h2, if_neg (by omega)]
theorem foldl_size (off : Nat) : ∀ (vs : List Value) (j : Nat) (cells : Array Value), ((vs.zipIdx j).foldl (fun cs (p : Value × Nat) => cs.setIfInBounds (off + p.2) p.1) cells).size = cells.size
  | [], _, _ => rfl
  | v :: vs, j, cells => by simp only [List.zipIdx_cons, List.foldl_cons]; rw [foldl_size off vs]; simp
theorem fill_sound {place : Nat → Option (Nat × Nat)} : ∀ {ps : List (Nat × Operand)} {qs : List (Nat × Nat × DO)} {vs : List (Nat × Nat × DV)} {l r : List DV} {cells : Array Value}, compParts place ps = some qs → evps f qs = some vs → fillD vs l = some r →
    (∀ x ∈ ps, ORel σ ρ f a x.2) → VRels σ ρ l cells.toList → ∃ out, Instr.fill place cells (ps.map fun (i, x) => (i, a.eval x)) = some out ∧ VRels σ ρ r out.toList
  | [], qs, vs, l, r, cells, h1, h2, h3, _, h5 => by
    simp only [compParts] at h1; cases h1
    simp only [evps] at h2; cases h2
    simp only [fillD] at h3; cases h3
    exact ⟨cells, rfl, h5⟩
  | (i, x) :: ps, qs, vs, l, r, cells, h1, h2, h3, h4, h5 => by
    simp only [compParts] at h1
    split at h1
    case h_2 => cases h1
    rename_i off n hp
    split at h1
    case h_2 => cases h1
    rename_i y hy
    split at h1
    case h_2 => cases h1
    rename_i qs' hq
    cases h1
    simp only [evps] at h2
    split at h2
    case h_2 => cases h2
    rename_i v hv
    split at h2
    case h_2 => cases h2
    rename_i vs' hvs
    cases h2
    simp only [fillD] at h3
    split at h3
    case isFalse => cases h3
    rename_i hlen
    split at h3
    case h_2 => cases h3
    rename_i l' hl'
    have hr := (h4 (i, x) (by simp) _ _ hy hv).cellsAny
    obtain ⟨e1, e2, e3⟩ := storeL_eq hl'
    have hsz := hr.length
    have hl := h5.length
    simp only [Array.length_toList] at hsz hl
    have hstep : ((a.eval x).cells.zipIdx.foldl (fun cs (c, j) => cs.setIfInBounds (off + j) c) cells) = ((a.eval x).cells.toList.zipIdx.foldl (fun cs (p : Value × Nat) => cs.setIfInBounds (off + p.2) p.1) cells) := by
      rw [← Array.foldl_toList]; simp
    have hgood : off + (a.eval x).cells.size ≤ cells.size := by omega
    · have hrel : VRels σ ρ l' ((a.eval x).cells.toList.zipIdx.foldl (fun cs (p : Value × Nat) => cs.setIfInBounds (off + p.2) p.1) cells).toList := by
        refine VRels.of_get (by have := foldl_size off (a.eval x).cells.toList 0 cells; simp only [Array.length_toList]; omega) fun k u c hu hc => ?_
        rw [Array.getElem?_toList, foldl_set off _ 0 cells k (by simp; omega)] at hc
        rcases e3 k u hu with ⟨g1, g2, g3⟩ | ⟨g1, g2⟩
        · rw [if_pos (by simp; omega)] at hc
          obtain ⟨y, g4, g5⟩ := hr.get g3
          rw [Nat.add_zero, g4] at hc; cases hc; exact g5
        · rw [if_neg (by simp; omega)] at hc
          obtain ⟨y, g4, g5⟩ := h5.get g2
          rw [Array.getElem?_toList, hc] at g4; cases g4; exact g5
      obtain ⟨out, g1, g2⟩ := fill_sound hq hvs h3 (fun z hz => h4 z (by simp [hz])) hrel
      refine ⟨out, ?_, g2⟩
      simp only [List.map_cons, Instr.fill, hp]
      rw [if_neg (by simp; omega), hstep]
      exact g1
theorem oneAll_of_rel : ∀ {xs : List DV} {ys : List Value}, VRels σ ρ xs ys → Ev.oneAll xs = true → ∀ y ∈ ys, y.oneCell' = true := fun h k => h.oneAll k
theorem s_build {t : TypeId} {ps : Array (Nat × Operand)} (hop : o.op = .build t ps) (hc : compOp P o = some d) (hx : ∀ p ∈ ps, ORel σ ρ f a p.2) : RunsTo σ ρ s w ((execOp a.eval o).run P w) (sem1 d f s) := by
  have hx' : ∀ p ∈ ps.toList, ORel σ ρ f a p.2 := fun p hp => hx p (by simpa using hp)
  have key : ∀ {place : Nat → Option (Nat × Nat)} {qs : List (Nat × Nat × DO)} {l : List DV} {i : TypeInfo} {z : Value}, compParts place ps.toList = some qs → P.info? t = some i → i.zero = some z → VRels σ ρ l z.cells.toList →
      (∀ out, Instr.fill place z.cells (ps.toList.map fun (i, x) => (i, a.eval x)) = some out → P.built t (ps.toList.map fun (i, x) => (i, a.eval x)) = some out) → RunsTo σ ρ s w ((execOp a.eval o).run P w) (sem1 (.bld l qs) f s) := fun {place qs l i z} h1 h2 h3 h4 h5 => by
    simp only [sem1]
    split
    case h_2 => trivial
    rename_i vs hvs
    split
    case h_2 => trivial
    rename_i r hr
    obtain ⟨out, g1, g2⟩ := fill_sound h1 hvs hr hx' h4
    have g3 := h5 _ g1
    refine ⟨.agg out, ?_, by rw [VRel]; exact ⟨_, rfl, g2⟩⟩
    have := run_build (P := P) w t (ps.map fun (i, x) => (i, a.eval x)) out (by simpa using g3)
    simp [execOp, hop, this]
  simp only [compOp, hop] at hc
  split at hc
  · rename_i z fs hz e1
    split at hc
    case h_2 => cases hc
    rename_i qs hqs
    split at hc
    case isFalse => cases hc
    rename_i hall
    cases hc
    obtain ⟨i, zv, h2, h3, h4, _⟩ := zeroOf_spec hz
    refine key hqs h2 h3 (h4 σ ρ) fun out hout => ?_
    have hm : ∃ places, fs.toList.mapM (fun f : Field => (P.info? f.type).map fun i => (f.offset, i.size)) = some places ∧ ∀ k : Nat, places[k]? = place1 P fs k := by
      have : ∀ l : List Field, l.all (fun f : Field => (P.info? f.type).isSome) = true → ∃ places, l.mapM (fun f : Field => (P.info? f.type).map fun i => (f.offset, i.size)) = some places ∧ ∀ k : Nat, places[k]? = (match (l[k]? : Option Field) with | some f => (match P.info? f.type with | some j => some (f.offset, j.size) | none => none) | none => none) := by
        intro l
        induction l with
        | nil => intro _; exact ⟨[], rfl, by simp⟩
        | cons x l ih =>
          intro h
          simp only [List.all_cons, Bool.and_eq_true] at h
          obtain ⟨pl, q1, q2⟩ := ih h.2
          obtain ⟨j, hj⟩ := Option.isSome_iff_exists.1 h.1
          refine ⟨(x.offset, j.size) :: pl, by simp [hj, q1], fun k => ?_⟩
          cases k with
          | zero => simp [hj]
          | succ k => simp only [List.getElem?_cons_succ]; exact q2 k
      obtain ⟨pl, q1, q2⟩ := this _ hall
      exact ⟨pl, q1, fun k => by
        rw [q2 k]; simp only [place1, Array.getElem?_toList]
        cases fs[k]? with
        | none => rfl
        | some g => dsimp only; cases P.info? g.type <;> rfl⟩
    obtain ⟨places, q1, q2⟩ := hm
    have hpl : (fun i => places.toArray[i]?) = place1 P fs := funext fun k => by simp [q2]
    simp only [Program.built, h2, e1, h3, q1]
    rw [hpl]; exact hout
  · rename_i z n e hz e1
    split at hc
    case h_2 => cases hc
    rename_i ie hie
    split at hc
    case h_2 => cases hc
    rename_i qs hqs
    cases hc
    obtain ⟨i, zv, h2, h3, h4, _⟩ := zeroOf_spec hz
    refine key hqs h2 h3 (h4 σ ρ) fun out hout => ?_
    simp only [Program.built, h2, e1, h3, hie]; exact hout
  · cases hc
theorem zeroOf_oneAll {t : TypeId} {l : List DV} (h : zeroOf P t = some l) : oneAll l = true := by
  unfold zeroOf at h
  split at h
  · split at h
    · split at h
      · rename_i l' hl
        split at h
        · cases h; exact (plainAll_one hl).2
        · cases h
      · cases h
    · cases h
  · cases h
theorem s_bslc {t : TypeId} {n : Nat} {ps : Array (Nat × Operand)} (hop : o.op = .buildSlice t n ps) (hc : compOp P o = some d) (hx : ∀ p ∈ ps, ORel σ ρ f a p.2) : RunsTo σ ρ s w ((execOp a.eval o).run P w) (sem1 d f s) := by
  have hx' : ∀ p ∈ ps.toList, ORel σ ρ f a p.2 := fun p hp => hx p (by simpa using hp)
  simp only [compOp, hop] at hc
  split at hc
  case h_2 => cases hc
  rename_i e e1
  split at hc
  case h_2 => cases hc
  rename_i i z hi hz
  split at hc
  case isFalse => cases hc
  rename_i hh
  split at hc
  case h_2 => cases hc
  rename_i qs hqs
  cases hc
  obtain ⟨i', zv, h2, h3, h4, h5⟩ := zeroOf_spec hz
  rw [hi] at h2; cases h2
  simp only [sem1]
  split
  case h_2 => trivial
  rename_i vs hvs
  split
  case h_2 => trivial
  rename_i r hr
  split
  case isFalse => trivial
  rename_i hone
  have hzl := (h4 σ ρ).length
  simp only [Array.length_toList] at hzl
  have hzs : zv.cells.size = i.size := by omega
  have hrows : VRels σ ρ (rep n z) ((Array.range (n * i.size)).map (zv.cells[· % zv.cells.size]!)).toList := by
    refine rep_rel (N := n * i.size) (h4 σ ρ) (by simp) (by rw [h5]) fun k hk => ?_
    have hm : k % zv.cells.size < zv.cells.size := Nat.mod_lt _ (by omega)
    refine ⟨zv.cells[k % zv.cells.size], ?_, by simp [hm]⟩
    simp only [Array.getElem?_map, Array.getElem?_range, hk, if_true, Option.map_some]
    simp [hm]
  obtain ⟨out, g1, g2⟩ := fill_sound hqs hvs hr hx' hrows
  refine ⟨_, .slice (some ⟨w.heap.size, 0, none⟩) n n, _, ?_, new_cells (ty := e) g2 (g2.oneAll hone), fun ρ' b hb _ => ?_⟩
  · have n1 : ¬ 2 ^ 24 < n * i.size := by omega
    have hmap : (ps.map fun (i, x) => (i, a.eval x)).toList = ps.toList.map fun (i, x) => (i, a.eval x) := by simp
    by_cases h0 : n * i.size = 0
    · have : n = 0 := by rcases Nat.mul_eq_zero.1 h0 with h | h <;> omega
      subst this
      simp only [Nat.zero_mul] at g1
      have g1' : Instr.fill (fun k => some (k * i.size, i.size)) #[] (ps.toList.map fun (i, x) => (i, a.eval x)) = some out := by simpa [Array.range_zero'] using g1
      simp [execOp, hop, Instr.buildSlice, run_underlying e1, run_sizeOf' hi, Array.range_zero', g1', newRow]
    · simp only [execOp, hop, Instr.buildSlice, Sem.run_bind, run_underlying e1, Result.andThen_ok, run_sizeOf' hi, gt_iff_lt, n1, if_false, Sem.run_pure, h0, run_zero hi h3, hmap, g1]
      simp [newRow]
  · rw [VRel]
    have hlen := g2.length
    have hl2 : out.toList.length = n * i.size := by
      rw [← hlen]
      have : ∀ {vs : List (Nat × Nat × DV)} {l r : List DV}, fillD vs l = some r → r.length = l.length := by
        intro vs
        induction vs with
        | nil => intro l r h; simp only [fillD] at h; cases h; rfl
        | cons x vs ih =>
          intro l r h
          obtain ⟨off, m, v⟩ := x
          simp only [fillD] at h
          split at h
          · split at h
            · rename_i l2 hl2
              rw [ih h, (storeL_eq hl2).1]
            · cases h
          · cases h
      rw [this hr, rep_length, h5]
    exact ⟨w.heap.size, 0, _, 0, n, hb, rfl, Nat.le_refl _, Nat.le_refl _, fun _ => rfl, fun _ => rfl, by rw [hl2]; omega⟩
end
end Go.Proofs.YtpmephcfamcbjaaGreat.Ev
