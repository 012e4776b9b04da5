/- An evaluator for runs: regions whose order is open. -/
import Derived.Test.YtpmephcfamcbjaaGreatEvQ
namespace Go.Proofs.YtpmephcfamcbjaaGreat.Ev
open Go

/- what comes before -/
def Pre (ops : Array Oper) (E : Nat → Prop) (j : Nat) : Prop := ∀ o, ops[j]? = some o → ∀ e ∈ o.after, Region.binds .any e = true → E e.on
theorem ancOf_bit (acc : List Nat) : ∀ (l : List Edge) (i : Nat), (ancOf acc l).testBit i = true → ∃ e ∈ l, Region.binds .any e = true ∧ (e.on = i ∨ (acc.getD e.on 0).testBit i = true)
  | [], i, h => by simp [ancOf] at h
  | e :: l, i, h => by
    simp only [ancOf] at h
    split at h
    · rename_i hb
      simp only [Nat.testBit_or, Bool.or_eq_true, Nat.testBit_two_pow] at h
      rcases h with (h | h) | h
      · exact ⟨e, by simp, hb, .inl (by simpa using h)⟩
      · exact ⟨e, by simp, hb, .inr h⟩
      · obtain ⟨e', h1, h2⟩ := ancOf_bit acc l i h; exact ⟨e', by simp [h1], h2⟩
    · obtain ⟨e', h1, h2⟩ := ancOf_bit acc l i h; exact ⟨e', by simp [h1], h2⟩
theorem ancs_prefix : ∀ (l : List Oper) (acc : List Nat), ∃ r, ancs l acc = acc ++ r
  | [], acc => ⟨[], by simp [ancs]⟩
  | o :: l, acc => by
    obtain ⟨r, hr⟩ := ancs_prefix l (acc ++ [ancOf acc o.after.toList])
    exact ⟨_, by simp only [ancs]; rw [hr, List.append_assoc]⟩
theorem ancs_get : ∀ (l : List Oper) (acc : List Nat) (k : Nat) (o : Oper), l[k]? = some o → ∃ a1, (ancs l acc)[acc.length + k]? = some (ancOf a1 o.after.toList) ∧ a1.length = acc.length + k ∧ ∃ r, ancs l acc = a1 ++ r
  | [], _, _, _, h => by simp at h
  | x :: l, acc, 0, o, h => by
    simp at h; subst h
    obtain ⟨r, hr⟩ := ancs_prefix l (acc ++ [ancOf acc x.after.toList])
    refine ⟨acc, ?_, rfl, _, by simp only [ancs]; rw [hr, List.append_assoc]⟩
    simp only [ancs]; rw [hr]; simp
  | x :: l, acc, k + 1, o, h => by
    obtain ⟨a1, h1, h2, r, h3⟩ := ancs_get l (acc ++ [ancOf acc x.after.toList]) k o (by simpa using h)
    refine ⟨a1, ?_, by simp at h2; omega, r, by simpa only [ancs] using h3⟩
    simp only [ancs]
    rw [show acc.length + (k + 1) = (acc ++ [ancOf acc x.after.toList]).length + k by simp; omega]; exact h1
/-- what comes before an operation of which all that it waits for is done is done -/
theorem anc_done {ops : Array Oper} {E : Nat → Prop} (hE : ∀ j, E j → Pre ops E j) : ∀ (n j i : Nat), j < n → ((ancs ops.toList []).getD j 0).testBit i = true → Pre ops E j → E i
  | 0, _, _, h, _, _ => by omega
  | n + 1, j, i, hj, h, hp => by
    cases ho : ops[j]? with
    | none =>
      have hlen : ∀ (l : List Oper) (acc : List Nat), (ancs l acc).length = acc.length + l.length := by
        intro l
        induction l with
        | nil => intro acc; simp [ancs]
        | cons x l ih => intro acc; simp only [ancs]; rw [ih]; simp; omega
      have hge : ops.size ≤ j := by simpa using ho
      rw [List.getD_eq_getElem?_getD, List.getElem?_eq_none (by rw [hlen]; simpa using hge)] at h
      simp at h
    | some o =>
      obtain ⟨a1, h1, h2, r, h3⟩ := ancs_get ops.toList [] j o (by simpa using ho)
      simp only [List.length_nil, Nat.zero_add] at h1 h2
      rw [List.getD_eq_getElem?_getD, h1] at h
      obtain ⟨e, he, hb, h4⟩ := ancOf_bit _ _ _ h
      have hEe := hp o ho e (by simpa using he) hb
      rcases h4 with rfl | h4
      · exact hEe
      · have hlt : e.on < j := by
          rcases Nat.lt_or_ge e.on a1.length with hh | hh
          · omega
          · rw [List.getD_eq_getElem?_getD, List.getElem?_eq_none hh] at h4; simp at h4
        refine anc_done hE n e.on i (by omega) ?_ (hE _ hEe)
        rw [List.getD_eq_getElem?_getD] at h4 ⊢
        rw [h3, List.getElem?_append_left (by omega)]; exact h4

/- equality of abstract values -/
mutual
theorem dvEq_eq : ∀ (x y : DV), dvEq x y = true → x = y
  | .bool a, y, h => by cases y <;> simp [dvEq] at h; rw [h]
  | .int k a, y, h => by
    cases y <;> simp [dvEq] at h
    have h1 := kEq_eq h.1
    have h2 := h.2
    rw [iEq_iff, beq_iff_eq] at h2
    rw [h1, h2]
  | .str a, y, h => by cases y <;> simp [dvEq] at h; rw [eqL_iff.1 h]
  | .nilp, y, h => by cases y <;> simp [dvEq] at h; rfl
  | .ptr b o, y, h => by cases y <;> simp [dvEq] at h; rw [h.1, h.2]
  | .nils, y, h => by cases y <;> simp [dvEq] at h; rfl
  | .slc b o n lo sz ex, y, h => by
    cases y <;> simp [dvEq] at h
    obtain ⟨⟨⟨⟨⟨h1, h2⟩, h3⟩, h4⟩, h5⟩, h6⟩ := h
    rw [h1, h2, h3, h4, h5, h6]
  | .nilm, y, h => by cases y <;> simp [dvEq] at h; rfl
  | .mp b, y, h => by cases y <;> simp [dvEq] at h; rw [h]
  | .fn f i c, y, h => by
    cases y <;> simp [dvEq] at h
    obtain ⟨⟨h1, h2⟩, h3⟩ := h
    rw [h1, dvEqs_eq _ _ h2, dvEqs_eq _ _ h3]
  | .nilf, y, h => by cases y <;> simp [dvEq] at h; rfl
  | .nili, y, h => by cases y <;> simp [dvEq] at h; rfl
  | .ifc t v, y, h => by
    cases y <;> simp [dvEq] at h
    rw [h.1, dvEq_eq _ _ h.2]
  | .agg l, y, h => by cases y <;> simp [dvEq] at h; rw [dvEqs_eq _ _ h]
  | .tup l, y, h => by cases y <;> simp [dvEq] at h; rw [dvEqs_eq _ _ h]
  | .opq i, y, h => by cases y <;> simp [dvEq] at h; rw [h]
theorem dvEqs_eq : ∀ (x y : List DV), dvEqs x y = true → x = y
  | [], y, h => by cases y <;> simp [dvEqs] at h; rfl
  | a :: x, y, h => by
    cases y <;> simp [dvEqs] at h
    rw [dvEq_eq _ _ h.1, dvEqs_eq _ _ h.2]
end
theorem blkEq_eq {x : Option Blk} {c : Blk} (h : blkEq x c = true) : x = some c := by
  unfold blkEq at h
  split at h
  · rw [dvEqs_eq _ _ h]
  · rw [Nat.eq_of_beq_eq_true h]
  · simp at h; rw [eqL_iff.1 h.1, h.2]
  · cases h

/- kinds of operations -/
theorem sem1_pure {op : DOp} (h1 : op.acts = false) (h2 : op.reads = false) (f : Fr) (s s' : St) : sem1 op f s = sem1 op f s' := by
  cases op <;> simp [DOp.acts] at h1 <;> simp [DOp.reads] at h2 <;> try rfl
  rename_i k x
  cases k
  · simp only [sem1]
    cases ev f x with
    | none => rfl
    | some v => cases v <;> rfl
  · simp only [sem1]
    cases ev f x with
    | none => rfl
    | some v => cases v <;> rfl
  · simp at h2
theorem sem1_still {op : DOp} (h1 : op.acts = false) (f : Fr) (s : St) : sem1 op f s = .fail ∨ (∃ v, sem1 op f s = .val v) ∨ (op.reads = false ∧ ∃ c mk, sem1 op f s = .new c mk) := by
  have hofV : ∀ x : Option DV, Res.ofV x = .fail ∨ (∃ v, Res.ofV x = .val v) ∨ (op.reads = false ∧ ∃ c mk, Res.ofV x = .new c mk) := fun x => by
    cases x with
    | none => exact .inl rfl
    | some v => exact .inr (.inl ⟨v, rfl⟩)
  cases op <;> simp [DOp.acts] at h1 <;> simp only [sem1]
  all_goals (repeat' split)
  all_goals (first
    | exact .inl rfl
    | exact .inr (.inl ⟨_, rfl⟩)
    | exact .inr (.inr ⟨rfl, _, _, rfl⟩)
    | exact hofV _)
end Go.Proofs.YtpmephcfamcbjaaGreat.Ev
