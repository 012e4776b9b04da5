/- An evaluator for runs: that each operation is right (8): append. -/
import Derived.Test.YtpmephcfamcbjaaGreatEvK
namespace Go.Proofs.YtpmephcfamcbjaaGreat.Ev
open Go

section
variable {P : Program} {σ : Nat → Value} {ρ : Ren} {s s' : St} {w : World} {f : Fr} {a : Act} {o : Oper} {d : DOp}

theorem growBy_le (k : Nat) : ∀ (r c : Nat), c ≤ 2 * k + 192 → Builtin.growBy k r c ≤ 2 * k + 192
  | 0, c, h => by simpa [Builtin.growBy] using h
  | r + 1, c, h => by
    simp only [Builtin.growBy]
    split
    · exact h
    · exact growBy_le k r _ (by omega)
theorem cap_le {need cap : Nat} (h : cap < need) : Builtin.nextslicecap need cap ≤ 2 * need + 192 := by
  unfold Builtin.nextslicecap
  split
  · omega
  · split
    · omega
    · exact growBy_le _ _ _ (by omega)
/-- the elements that are appended -/
structure Apps (P : Program) (at_ : Array TypeId) (e : TypeId) (x : Value) (w : World) (m : Nat) (cs : List Value) : Prop where
  ty2 : ∃ t2 d2, at_[1]? = some t2 ∧ P.underlying t2 = some d2 ∧
    (((∀ k, d2 ≠ .int k) ∧ (∀ w' : World, (Builtin.lenOf x).run P w' = .ok m w') ∧ ∀ w' : World, (∀ A, w'.cell? A = w.cell? A) → ∀ i, P.info? e = some i → (Builtin.firstCells i.size m x).run P w' = .ok cs.toArray w') ∨
     (∃ k k2, d2 = .int k ∧ x = .int k2 (m : Int) ∧ m ≤ 1073741824 ∧ ∀ i z, P.info? e = some i → i.zero = some z → (if m * i.size = 0 then #[] else Builtin.zeroCells z.cells m) = cs.toArray ∧ (i.bytes : Int) * m ≤ 1073741824))
theorem wrap_small {n : Nat} (h : n ≤ 1073741824) : IntKind.i64.wrap (n : Int) = n := by rw [IntKind.wrap_i64]; omega
theorem append_in {at_ : Array TypeId} {ty t e : TypeId} {i : TypeInfo} {base : Option Addr} {n c m : Nat} {x : Value} {cs : List Value} {z : Value} (h0 : at_[0]? = some t) (ht : P.underlying t = some (.slice e)) (hi : P.info? e = some i) (hz : i.zero = some z)
    (hA : Apps P at_ e x w m cs) (hin : n + m ≤ c) :
    (Builtin.append_ at_ ty #[.slice base n c, x]).run P w = ((match base with | some a => storeCells (a.add (n * i.size)) cs | none => pure ()).run P w).andThen fun _ w' => .ok (.slice base (n + m) c) w' := by
  obtain ⟨t2, d2, h1, h2, h3⟩ := hA.ty2
  rcases h3 with ⟨h4, h5, h6⟩ | ⟨k, k2, rfl, rfl, h5, h6⟩
  · have hm : (match d2 with | .int _ => true | _ => false) = false := by cases d2 <;> first | rfl | exact absurd rfl (h4 _)
    have hf := h6 w (fun _ => rfl) i hi
    cases base with
    | none => simp [Builtin.append_, h0, h1, run_underlying ht, run_underlying h2, run_sizeOf' hi, hm, h5, hin, hf]
    | some b => simp [Builtin.append_, h0, h1, run_underlying ht, run_underlying h2, run_sizeOf' hi, hm, h5, hin, hf]
  · obtain ⟨g1, g2⟩ := h6 i z hi hz
    have hw := wrap_small h5
    have n1 : ¬ ((m : Int) < 0) := by omega
    have n2 : ¬ ((281474976710656 : Int) < (m : Int) * i.bytes) := by rw [Int.mul_comm]; omega
    by_cases h7 : m * i.size = 0
    · rw [if_pos h7] at g1
      have : cs = [] := by have := congrArg Array.size g1; simp at this; exact List.eq_nil_of_length_eq_zero this.symm
      subst this
      cases base <;> simp [Builtin.append_, h0, h1, run_underlying ht, run_underlying h2, run_sizeOf' hi, run_typeInfo' hi, asInt, asIntOf, hw, n1, n2, hin, h7]
    · rw [if_neg h7] at g1
      cases base <;> simp [Builtin.append_, h0, h1, run_underlying ht, run_underlying h2, run_sizeOf' hi, run_typeInfo' hi, asInt, asIntOf, hw, n1, n2, hin, h7, run_zero hi hz, g1]
theorem append_out {at_ : Array TypeId} {ty t e : TypeId} {i : TypeInfo} {base : Option Addr} {n c m : Nat} {x : Value} {cs old : List Value} {z : Value} (h0 : at_[0]? = some t) (ht : P.underlying t = some (.slice e)) (hi : P.info? e = some i) (hz : i.zero = some z)
    (hA : Apps P at_ e x w m cs) (hold : ∀ w' : World, (∀ A, w'.cell? A = w.cell? A) → (Builtin.firstCells i.size n (.slice base n c)).run P w' = .ok old.toArray w') (hout : ¬ n + m ≤ c) (hb : (n + m) * i.bytes ≤ 1073741824) (hn : n + m ≤ 1073741824) :
    ∃ nc, n + m ≤ nc ∧ (Builtin.append_ at_ ty #[.slice base n c, x]).run P w = .ok (.slice (some ⟨w.heap.size, 0, none⟩) (n + m) nc) (w.drew.alloc (.cells (old.toArray ++ cs.toArray ++ Builtin.zeroCells z.cells (nc - (n + m))) e)) := by
  obtain ⟨t2, d2, h1, h2, h3⟩ := hA.ty2
  have q1 : ¬ ((IntKind.i64.max : Int) < ((n + m : Nat) : Int)) := by rw [IntKind.max_i64]; omega
  have hcap := cap_le (need := n + m) (cap := c) (by omega)
  have hbytes : i.bytes ≤ 1073741824 := by
    rcases Nat.eq_zero_or_pos (n + m) with h | h
    · omega
    · exact Nat.le_trans (Nat.le_mul_of_pos_left _ h) hb
  have q2 : ¬ (2 ^ 48 < Builtin.nextslicecap (n + m) c * i.bytes) := by
    have h1 : Builtin.nextslicecap (n + m) c * i.bytes ≤ (2 * (n + m) + 192) * i.bytes := Nat.mul_le_mul_right _ hcap
    have h2 : (2 * (n + m) + 192) * i.bytes = 2 * ((n + m) * i.bytes) + 192 * i.bytes := by rw [Nat.add_mul, Nat.mul_assoc]
    omega
  have q2' : ¬ (281474976710656 < Builtin.nextslicecap (n + m) c * i.bytes) := by simpa using q2
  have hdc : ∀ A, w.drew.cell? A = w.cell? A := fun _ => rfl
  have hold' := hold w.drew hdc
  refine ⟨(Question.appendCap (n + m) c e).cut (w.tape w.drawn (.appendCap (n + m) c e)), by simp [Question.cut], ?_⟩
  generalize hnc : (Question.appendCap (n + m) c e).cut (w.tape w.drawn (.appendCap (n + m) c e)) = nc
  have hch : (choose (.appendCap (n + m) c e)).run P w = .ok nc w.drew := by rw [← hnc]; simp [Question.forced]
  rcases h3 with ⟨h4, h5, h6⟩ | ⟨k, k2, rfl, rfl, h5, h6⟩
  · have hm : (match d2 with | .int _ => true | _ => false) = false := by cases d2 <;> first | rfl | exact absurd rfl (h4 _)
    have hf := h6 w.drew hdc i hi
    simp only [Builtin.append_, h0, h1, List.getElem?_toArray, List.getElem?_cons_zero, List.getElem?_cons_succ, Sem.run_bind, run_underlying ht, run_underlying h2, Result.andThen_ok, run_sizeOf' hi, hm, Sem.run_pure, h5, hout, if_false, run_typeInfo' hi, gt_iff_lt, q1, q2, false_and, hch, run_askRoom, hold', hf, run_zero hi hz, Bool.not_false, if_true, Bool.false_eq_true, newRow, run_newObj_alloc]
    rfl
  · obtain ⟨g1, g2⟩ := h6 i z hi hz
    have hw := wrap_small h5
    have n1 : ¬ ((m : Int) < 0) := by omega
    have n2 : ¬ ((2 ^ 48 : Int) < (m : Int) * i.bytes) := by rw [Int.mul_comm]; omega
    by_cases h7 : m * i.size = 0
    · rw [if_pos h7] at g1
      have : cs = [] := by have := congrArg Array.size g1; simp at this; exact List.eq_nil_of_length_eq_zero this.symm
      subst this
      simp only [Builtin.append_, h0, h1, List.getElem?_toArray, List.getElem?_cons_zero, List.getElem?_cons_succ, Sem.run_bind, run_underlying ht, run_underlying h2, Result.andThen_ok, run_sizeOf' hi, Sem.run_pure, asInt, asIntOf, hw, n1, n2, hout, if_false, run_typeInfo' hi, gt_iff_lt, q1, q2, false_and, hch, run_askRoom, hold', h7, run_zero hi hz, Bool.not_true, if_true, Bool.false_eq_true, newRow, run_newObj_alloc, Int.toNat_natCast]
      rfl
    · rw [if_neg h7] at g1
      simp only [Builtin.append_, h0, h1, List.getElem?_toArray, List.getElem?_cons_zero, List.getElem?_cons_succ, Sem.run_bind, run_underlying ht, run_underlying h2, Result.andThen_ok, run_sizeOf' hi, Sem.run_pure, asInt, asIntOf, hw, n1, n2, hout, if_false, run_typeInfo' hi, gt_iff_lt, q1, q2, false_and, hch, run_askRoom, hold', h7, run_zero hi hz, g1, Bool.not_true, if_true, Bool.false_eq_true, newRow, run_newObj_alloc, Int.toNat_natCast]
      rfl
end
end Go.Proofs.YtpmephcfamcbjaaGreat.Ev
