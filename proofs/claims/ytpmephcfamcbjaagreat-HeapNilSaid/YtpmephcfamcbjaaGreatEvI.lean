/- An evaluator for runs: that each operation is right (5). -/
import Derived.Test.YtpmephcfamcbjaaGreatEvH
namespace Go.Proofs.YtpmephcfamcbjaaGreat.Ev
open Go

section
variable {P : Program} {σ : Nat → Value} {ρ : Ren} {s : St} {w : World} {f : Fr} {a : Act} {o : Oper} {d : DOp}

theorem vrel_int {k : IntKind} {n : Int} : VRel σ ρ (.int k n) (.int k n) := by rw [VRel]
theorem opds2 {xs : Array Operand} {p q : DO} (h : opds xs.toList = some [p, q]) : ∃ x y, xs = #[x, y] ∧ opd x = some p ∧ opd y = some q := by
  obtain ⟨l⟩ := xs
  match l, h with
  | [], h => simp [opds] at h
  | [x], h =>
    simp only [opds] at h
    split at h <;> simp at h
  | [x, y], h =>
    simp only [opds] at h
    split at h
    · rename_i u hu
      split at h
      · rename_i l hl
        split at hl
        · rename_i v hv
          cases hl; cases h; exact ⟨x, y, rfl, hu, hv⟩
        · cases hl
      · cases h
    · cases h
  | x :: y :: z :: l, h =>
    simp only [opds] at h
    split at h
    · split at h
      · rename_i l2 hl
        split at hl
        · split at hl
          · rename_i l3 hl3
            split at hl3
            · split at hl3
              · cases hl3; cases hl; cases h
              · cases hl3
            · cases hl3
          · cases hl
        · cases hl
      · cases h
    · cases h
theorem opds1 {xs : Array Operand} {p : DO} (h : opds xs.toList = some [p]) : ∃ x, xs = #[x] ∧ opd x = some p := by
  obtain ⟨l⟩ := xs
  match l, h with
  | [], h => simp [opds] at h
  | [x], h =>
    simp only [opds] at h
    split at h
    · rename_i u hu; cases h; exact ⟨x, rfl, hu⟩
    · cases h
  | x :: y :: l, h =>
    simp only [opds] at h
    split at h
    · split at h
      · rename_i l2 hl
        split at hl
        · split at hl
          · cases hl; cases h
          · cases hl
        · cases hl
      · cases h
    · cases h
/-- the call of a builtin -/
theorem exec_builtin {c : Call} {b : Builtin} (hop : o.op = .call c) (hb : c.callee = .builtin b) : ∃ cs, execOp a.eval o = builtin b c.argTypes o.type cs (c.args.map a.eval) := by
  refine ⟨c.args.map fun | .const _ => true | _ => false, ?_⟩
  simp only [execOp, hop, resolve, hb]
  rfl
theorem s_len {ty : TypeId} {x : Operand} {c : Call} {x' : DO} {lk : LK} (hop : o.op = .call c) (hb : c.callee = .builtin .len) (hty : c.argTypes[0]? = some ty) (hargs : c.args = #[x]) (h1 : opd x = some x')
    (ht : (lk = .str ∧ P.underlying ty = some .string) ∨ (lk = .slc ∧ ∃ e, P.underlying ty = some (.slice e)) ∨ (lk = .map ∧ ∃ k e, P.underlying ty = some (.map k e)))
    (R : Rel σ ρ s w) (hx : ORel σ ρ f a x) : RunsTo σ ρ s w ((execOp a.eval o).run P w) (sem1 (.len lk x') f s) := by
  obtain ⟨cs, hex⟩ := exec_builtin (a := a) hop hb
  rw [hex]
  simp only [sem1]
  split
  case h_2 => trivial
  rename_i v hv
  have hr := hx _ _ h1 hv
  have hrun : ∀ n : Int, (Builtin.len_ c.argTypes o.type (c.args.map a.eval)).run P w = .ok (goInt n) w → RunsTo σ ρ s w ((builtin .len c.argTypes o.type cs (c.args.map a.eval)).run P w) (.val (.int .i64 n)) := fun n hn =>
    ⟨.int .i64 n, by simp [builtin, hn, goInt], vrel_int⟩
  split
  · rename_i l
    rcases ht with ⟨_, ht⟩ | ⟨h, _⟩ | ⟨h, _⟩ <;> (try cases h)
    rw [VRel] at hr
    obtain ⟨z, he, hz⟩ := hr
    refine hrun _ ?_
    have : z.size = l.length := by rw [← hz]; simp
    simp [Builtin.len_, hty, hargs, run_underlying ht, he, this]
  · rcases ht with ⟨h, _⟩ | ⟨_, e, ht⟩ | ⟨h, _⟩ <;> (try cases h)
    rw [VRel] at hr
    refine hrun 0 ?_
    simp [Builtin.len_, hty, hargs, run_underlying ht, hr]
  · rcases ht with ⟨h, _⟩ | ⟨_, e, ht⟩ | ⟨h, _⟩ <;> (try cases h)
    rw [VRel] at hr
    obtain ⟨_, _, _, _, _, _, he, _⟩ := hr
    refine hrun _ ?_
    simp [Builtin.len_, hty, hargs, run_underlying ht, he]
  · rcases ht with ⟨h, _⟩ | ⟨h, _⟩ | ⟨_, k, e, ht⟩ <;> (try cases h)
    split
    · rename_i es hes
      obtain ⟨es', h3, h4⟩ := mapOf_sound R hes hr
      have hlen : ∀ {es : List (DV × DV × Nat)} {es' : List MapEntry}, ERels σ ρ es es' → es.length = es'.length := by
        intro es
        induction es with
        | nil => intro es' h; rw [ERels] at h; subst h; rfl
        | cons x es ih => intro es' h; obtain ⟨k, v, b⟩ := x; rw [ERels] at h; obtain ⟨e, es2, rfl, _, _, _, h5⟩ := h; simp [ih h5]
      refine hrun _ ?_
      rcases h4 with ⟨h5, rfl⟩ | ⟨B, c2, h5, h6⟩
      · have := hlen h3
        simp at this; subst this
        simp [Builtin.len_, hty, hargs, run_underlying ht, h5]
      · have := hlen h3
        simp [Builtin.len_, hty, hargs, run_underlying ht, h5, run_getObj_map' h6, this]
    · trivial
  · trivial
theorem s_minmax {mx : Bool} {x y : Operand} {c : Call} {x' y' : DO} (hop : o.op = .call c) (hb : c.callee = .builtin (if mx then .max else .min)) (hargs : c.args = #[x, y]) (h1 : opd x = some x') (h2 : opd y = some y')
    (hx : ORel σ ρ f a x) (hy : ORel σ ρ f a y) : RunsTo σ ρ s w ((execOp a.eval o).run P w) (sem1 (.minmax mx x' y') f s) := by
  simp only [sem1]
  split
  case h_2 => trivial
  rename_i k m hv
  split
  case h_2 => trivial
  rename_i k' n hv2
  have e1 := VRel.int (hx _ _ h1 hv)
  have e2 := VRel.int (hy _ _ h2 hv2)
  cases mx
  · obtain ⟨cs, hex⟩ := exec_builtin (a := a) hop hb
    rw [hex]
    exact ⟨.int k (if n < m then n else m), by simp [builtin, Builtin.min_, hargs, e1, e2, Builtin.min2], vrel_int⟩
  · obtain ⟨cs, hex⟩ := exec_builtin (a := a) hop hb
    rw [hex]
    exact ⟨.int k (if n > m then n else m), by simp [builtin, Builtin.max_, hargs, e1, e2, Builtin.max2], vrel_int⟩
theorem s_del {ty kt e : TypeId} {m k : Operand} {c : Call} {m' k' : DO} {kk : KK} (hop : o.op = .call c) (hb : c.callee = .builtin .delete) (hty : c.argTypes[0]? = some ty) (hargs : c.args = #[m, k]) (h1 : opd m = some m') (h2 : opd k = some k')
    (e1 : P.underlying ty = some (.map kt e)) (hkk : keyK P kt = some kk)
    (R : Rel σ ρ s w) (hm : ORel σ ρ f a m) (hk : ORel σ ρ f a k) : RunsTo σ ρ s w ((execOp a.eval o).run P w) (sem1 (.del kk m' k') f s) := by
  obtain ⟨cs, hex⟩ := exec_builtin (a := a) hop hb
  rw [hex]
  simp only [sem1]
  split
  case h_2 => trivial
  rename_i b hb
  split
  case h_2 => trivial
  rename_i kd hkd
  split
  case h_2 => trivial
  rename_i es c' hbl
  split
  case h_2 => trivial
  rename_i r hr
  have hm2 := hm _ _ h1 hb
  rw [VRel] at hm2
  obtain ⟨B, N, hB, he⟩ := hm2
  obtain ⟨_, es', h4, h5⟩ := R.blk _ _ _ _ _ hB hbl
  obtain ⟨dd, h6, _⟩ := keyK_spec hkk
  have hck := fun b => checkKey_ok (P := P) (w := w) hkk b (a.eval k)
  have hgo := run_getObj_map' (P := P) h4
  have hf : ∀ r, Instr.findNow dd (a.eval k) es'.toList 0 = some r → (Instr.findKey kt (a.eval k) es'.toList).run P w = .ok r w := fun r hr => by
    simp [Instr.findKey, run_underlying h6, hr]
  have hset := fun nw => run_setObj' (P := P) (nw := nw) h4 (by intro _ _ _ h; cases h)
  rcases delD_sound h6 hkk (hk _ _ h2 hkd) 0 hr h5 with ⟨h7, h8⟩ | ⟨n, z, h7, h8, h9⟩
  · obtain ⟨g1, g2⟩ := R.setObj (nw := .map es' c') (c := .map r c') hB (by rw [hbl]; simp) ⟨rfl, _, rfl, h8⟩
    refine ⟨.value (.tuple #[]), _, _, ρ, ?_, .inl rfl, g1, Grow.refl _ _, g2, by rw [VRel]; exact ⟨_, rfl, VRels.nil⟩⟩
    simp [builtin, Builtin.delete_, hty, hargs, run_underlying e1, he, hgo, hck, hf _ h7, hset]
  · obtain ⟨g1, g2⟩ := R.setObj (nw := .map (es'.eraseIdxIfInBounds n) c') (c := .map r c') hB (by rw [hbl]; simp) ⟨rfl, _, rfl, by
      have h8' : n < es'.size := by simpa using h8
      simp only [Array.eraseIdxIfInBounds, h8', dif_pos, Array.toList_eraseIdx]; exact h9⟩
    refine ⟨.value (.tuple #[]), _, _, ρ, ?_, .inl rfl, g1, Grow.refl _ _, g2, by rw [VRel]; exact ⟨_, rfl, VRels.nil⟩⟩
    simp [builtin, Builtin.delete_, hty, hargs, run_underlying e1, he, hgo, hck, hf _ h7, hset]
/- rows of zeros -/
theorem rep_length : ∀ (n : Nat) (l : List DV), (rep n l).length = n * l.length
  | 0, l => by simp [rep]
  | n + 1, l => by simp [rep, rep_length n l, Nat.succ_mul]; omega
theorem rep_get : ∀ (n : Nat) (l : List DV) (i : Nat) (x : DV), (rep n l)[i]? = some x → l[i % l.length]? = some x
  | 0, l, i, x, h => by simp [rep] at h
  | n + 1, l, i, x, h => by
    simp only [rep] at h
    rcases Nat.lt_or_ge i l.length with hi | hi
    · rw [List.getElem?_append_left hi] at h
      rw [Nat.mod_eq_of_lt hi]; exact h
    · rw [List.getElem?_append_right hi] at h
      have := rep_get n l _ x h
      rw [Nat.mod_eq_sub_mod hi]; exact this
theorem rep_one : ∀ (n : Nat) (l : List DV), oneAll l = true → oneAll (rep n l) = true
  | 0, _, _ => rfl
  | n + 1, l, h => by
    have app : ∀ a b : List DV, oneAll a = true → oneAll b = true → oneAll (a ++ b) = true := by
      intro a b ha hb
      induction a with
      | nil => exact hb
      | cons x a ih => simp only [oneAll, Bool.and_eq_true, List.cons_append] at ha ⊢; exact ⟨ha.1, ih ha.2⟩
    exact app _ _ h (rep_one n l h)
theorem rep_rel {l : List DV} {z : Array Value} {n N : Nat} {cs : Array Value} (h : VRels σ ρ l z.toList) (hN : cs.size = N) (hn : N = n * l.length) (hcs : ∀ i, i < N → ∃ v, cs[i]? = some v ∧ z[i % z.size]? = some v) : VRels σ ρ (rep n l) cs.toList := by
  refine VRels.of_get (by rw [rep_length]; simp; omega) fun i x y hx hy => ?_
  have h1 := rep_get _ _ _ _ hx
  have hi : i < N := by
    have := (List.getElem?_eq_some_iff.1 hy).1
    simp at this; omega
  obtain ⟨v, h2, h3⟩ := hcs i hi
  rw [Array.getElem?_toList, h2] at hy
  cases hy
  obtain ⟨y, h4, h5⟩ := h.get h1
  have hl := h.length
  simp at hl
  rw [hl] at h4
  rw [Array.getElem?_toList, h3] at h4
  cases h4; exact h5
end
end Go.Proofs.YtpmephcfamcbjaaGreat.Ev
