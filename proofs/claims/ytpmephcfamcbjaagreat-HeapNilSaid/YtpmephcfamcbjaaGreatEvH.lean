/- An evaluator for runs: that each operation is right (4). -/
import Derived.Test.YtpmephcfamcbjaaGreatEvG
import Derived.Laws.MakeOwn
namespace Go.Proofs.YtpmephcfamcbjaaGreat.Ev
open Go

section
variable {P : Program} {σ : Nat → Value} {ρ : Ren} {s : St} {w : World} {f : Fr} {a : Act} {o : Oper} {d : DOp}

theorem run_setObj' {B : Nat} {ob nw : Obj} (h : w.heap[B]? = some ob) (hn : ∀ c e f, ob ≠ .cells c e f) : (setObj B nw).run P w = .ok () { w with heap := w.heap.setIfInBounds B nw } := by
  cases ob <;> simp [setObj, Sem.run, h] at hn ⊢
/-- a block that is no row of cells is put anew -/
theorem Rel.setObj (R : Rel σ ρ s w) {b B N : Nat} {c : Blk} {nw : Obj} (hb : ρ b = some (B, 0, N)) (hlive : s.blk b ≠ none) (hnew : BRel σ ρ c 0 N (some nw)) :
    Rel σ ρ (s.put b (some c)) { w with heap := w.heap.setIfInBounds B nw } ∧ Fram ρ ρ w { w with heap := w.heap.setIfInBounds B nw } := by
  have hlt := (R.lt _ _ _ _ hb).2
  have h1 : ∀ k, k ≠ B → ({ w with heap := w.heap.setIfInBounds B nw } : World).heap[k]? = w.heap[k]? := fun k hk => by
    show (w.heap.setIfInBounds B nw)[k]? = _
    rw [Array.getElem?_setIfInBounds_ne (Ne.symm hk)]
  have h2 : ({ w with heap := w.heap.setIfInBounds B nw } : World).heap[B]? = some nw := by
    show (w.heap.setIfInBounds B nw)[B]? = _
    simp [hlt]
  exact ⟨R.change hb hlive (by simp) h1 (by rw [h2]; exact hnew), Fram.change ⟨b, 0, N, hb⟩ rfl rfl rfl (by simp) h1⟩
theorem sameNow_bits {dd : TypeDesc} {u k : Value} (h : Instr.sameNow dd u k = some true) (n : Nat) : Instr.sameBits n k u = true := by
  unfold Instr.sameNow at h
  split at h
  · split at h
    · rename_i e; subst e; simp at h; subst h; cases n <;> simp [Instr.sameBits]
    · cases h
  · have h' := Option.some.inj h
    rw [beq_toListBytes, beq_iff_eq, ByteArray.toList_eq, ByteArray.toList_eq] at h'
    cases n <;> simp only [Instr.sameBits, beq_toListBytes, ByteArray.toList_eq] <;> simp [h']
  · have h' := Option.some.inj h
    rw [beq_iff_eq] at h'; subst h'
    cases n <;> simp [Instr.sameBits]
  · cases h
theorem updD_sound {t : TypeId} {kk : KK} {dd : TypeDesc} {x y : DV} {u v : Value} {clock : Nat} (hd : P.underlying t = some dd) (hk : keyK P t = some kk) (hx : VRel σ ρ x u) (hy : VRel σ ρ y v) :
    ∀ {es : List (DV × DV × Nat)} {es' : List MapEntry} {r : List (DV × DV × Nat)} {c : Nat} (i : Nat), updD kk x y clock es = some (r, c) → ERels σ ρ es es' →
    (Instr.findNow dd u es' i = some none ∧ c = clock + 1 ∧ ERels σ ρ r (es' ++ [{ key := u, val := v, born := clock }])) ∨
    (∃ n z e, Instr.findNow dd u es' i = some (some (i + n, z)) ∧ c = clock ∧ es'[n]? = some e ∧ Instr.sameNow dd u e.key = some true ∧ ERels σ ρ r (es'.modify n fun e => { e with key := u, val := v }))
  | [], es', r, c, i, h, he => by
    rw [ERels] at he; subst he
    simp only [updD] at h; cases h
    refine .inl ⟨rfl, rfl, ?_⟩
    rw [ERels]; exact ⟨_, _, rfl, hx, hy, rfl, by rw [ERels]⟩
  | (k', v', b) :: es, es', r, c, i, h, he => by
    rw [ERels] at he
    obtain ⟨e, es2, rfl, h1, h2, h3, h4⟩ := he
    simp only [updD] at h
    split at h
    · rename_i hq
      cases h
      have := eqk_sound hd hk hq hx h1
      refine .inr ⟨0, e.val, e, by simp [Instr.findNow, this], rfl, rfl, this, ?_⟩
      rw [ERels]; exact ⟨{ e with key := u, val := v }, es2, rfl, hx, hy, h3, h4⟩
    · rename_i hq
      have := eqk_sound hd hk hq hx h1
      split at h
      · rename_i r' c' hr
        cases h
        rcases updD_sound hd hk hx hy (i + 1) hr h4 with ⟨h5, h6, h7⟩ | ⟨n, z, e', h5, h6, h7, h8, h9⟩
        · refine .inl ⟨by simp [Instr.findNow, this, h5], h6, ?_⟩
          rw [List.cons_append, ERels]; exact ⟨_, _, rfl, h1, h2, h3, h7⟩
        · refine .inr ⟨n + 1, z, e', by simp [Instr.findNow, this, h5]; omega, h6, by simpa using h7, h8, ?_⟩
          rw [ERels]; exact ⟨e, es2.modify n fun e => { e with key := u, val := v }, rfl, h1, h2, h3, h9⟩
      · cases h
    · cases h
theorem s_mu {t : TypeId} {m k v : Operand} (hop : o.op = .mapUpdate t m k v ∨ o.op = .insert t m k v) (hc : compOp P o = some d) (R : Rel σ ρ s w) (hm : ORel σ ρ f a m) (hk : ORel σ ρ f a k) (hv : ORel σ ρ f a v) : RunsTo σ ρ s w ((execOp a.eval o).run P w) (sem1 d f s) := by
  have hexec : (execOp a.eval o).run P w = ((Instr.mapUpdate t (a.eval m) (a.eval k) (a.eval v)).run P w).andThen fun _ w' => .ok .skip w' := by
    rcases hop with h | h <;> simp [execOp, h]
  have hc2 : ∃ kt e m' k' v' kk, P.underlying t = some (.map kt e) ∧ opd m = some m' ∧ opd k = some k' ∧ opd v = some v' ∧ keyK P kt = some kk ∧ d = .mu kk m' k' v' := by
    rcases hop with h | h <;> simp only [compOp, h] at hc <;> split at hc <;> (try cases hc)
    all_goals (rename_i kt e e1; split at hc <;> (try cases hc); rename_i m' k' v' h1 h2 h3; split at hc <;> (try cases hc); rename_i kk hkk; exact ⟨kt, e, m', k', v', kk, e1, h1, h2, h3, hkk, rfl⟩)
  obtain ⟨kt, e, m', k', v', kk, e1, h1, h2, h3, hkk, rfl⟩ := hc2
  simp only [sem1]
  split
  case h_2 => trivial
  rename_i b hb
  split
  case h_2 => trivial
  rename_i kd hkd
  split
  case h_2 => trivial
  rename_i vd hvd
  split
  case h_2 => trivial
  rename_i es c hbl
  split
  case h_2 => trivial
  rename_i r c' hr
  have hm2 := hm _ _ h1 hb
  rw [VRel] at hm2
  obtain ⟨B, N, hB, he⟩ := hm2
  obtain ⟨_, es', h4, h5⟩ := R.blk _ _ _ _ _ hB hbl
  obtain ⟨dd, h6, _⟩ := keyK_spec hkk
  have hck := fun b => checkKey_ok (P := P) (w := w) hkk b (a.eval k)
  have hgo := run_getObj_map' (P := P) h4
  have hf : ∀ r, Instr.findNow dd (a.eval k) es'.toList 0 = some r → (Instr.findKey kt (a.eval k) es'.toList).run P w = .ok r w := fun r hr => by
    simp [Instr.findKey, run_underlying h6, hr]
  have hset := fun nw => run_setObj' (P := P) (nw := nw) h4 (by intro _ _ _ h; cases h)
  rw [hexec]
  rcases updD_sound h6 hkk (hk _ _ h2 hkd) (hv _ _ h3 hvd) 0 hr h5 with ⟨h7, rfl, h8⟩ | ⟨n, z, e', h7, rfl, h8, h9, h10⟩
  · obtain ⟨g1, g2⟩ := R.setObj (nw := .map (es'.push { key := a.eval k, val := a.eval v, born := c }) (c + 1)) (c := .map r (c + 1)) hB (by rw [hbl]; simp) ⟨rfl, _, rfl, by simpa using h8⟩
    refine ⟨_, _, _, ρ, ?_, .inr ⟨rfl, rfl⟩, g1, Grow.refl _ _, g2, by rw [VRel]; exact ⟨_, rfl, VRels.nil⟩⟩
    simp [Instr.mapUpdate, run_underlying e1, he, hgo, hck, hf _ h7, hset]
  · obtain ⟨g1, g2⟩ := R.setObj (nw := .map (es'.modify n fun e => { e with key := a.eval k, val := a.eval v }) c') (c := .map r c') hB (by rw [hbl]; simp) ⟨rfl, _, rfl, by simpa using h10⟩
    refine ⟨_, _, _, ρ, ?_, .inr ⟨rfl, rfl⟩, g1, Grow.refl _ _, g2, by rw [VRel]; exact ⟨_, rfl, VRels.nil⟩⟩
    have h11 : es'[n]? = some e' := by simpa using h8
    have hks : (Instr.keyThatStays e'.key (a.eval k)).run P w = .ok (a.eval k) w := by
      simp [Instr.keyThatStays, sameNow_bits h9]
    simp [Instr.mapUpdate, run_underlying e1, he, hgo, hck, hf _ h7, h11, hks, hset]
theorem delD_sound {t : TypeId} {kk : KK} {dd : TypeDesc} {x : DV} {u : Value} (hd : P.underlying t = some dd) (hk : keyK P t = some kk) (hx : VRel σ ρ x u) :
    ∀ {es : List (DV × DV × Nat)} {es' : List MapEntry} {r : List (DV × DV × Nat)} (i : Nat), delD kk x es = some r → ERels σ ρ es es' →
    (Instr.findNow dd u es' i = some none ∧ ERels σ ρ r es') ∨ (∃ n z, Instr.findNow dd u es' i = some (some (i + n, z)) ∧ n < es'.length ∧ ERels σ ρ r (es'.eraseIdx n))
  | [], es', r, i, h, he => by
    rw [ERels] at he; subst he
    simp only [delD] at h; cases h
    exact .inl ⟨rfl, by rw [ERels]⟩
  | (k', v', b) :: es, es', r, i, h, he => by
    rw [ERels] at he
    obtain ⟨e, es2, rfl, h1, h2, h3, h4⟩ := he
    simp only [delD] at h
    split at h
    · rename_i hq
      cases h
      have := eqk_sound hd hk hq hx h1
      exact .inr ⟨0, e.val, by simp [Instr.findNow, this], by simp, by simpa using h4⟩
    · rename_i hq
      have := eqk_sound hd hk hq hx h1
      split at h
      · rename_i r' hr
        cases h
        rcases delD_sound hd hk hx (i + 1) hr h4 with ⟨h5, h6⟩ | ⟨n, z, h5, h6, h7⟩
        · refine .inl ⟨by simp [Instr.findNow, this, h5], ?_⟩
          rw [ERels]; exact ⟨_, _, rfl, h1, h2, h3, h6⟩
        · refine .inr ⟨n + 1, z, by simp [Instr.findNow, this, h5]; omega, by simp; omega, ?_⟩
          rw [ERels]; exact ⟨_, _, by simp, h1, h2, h3, h7⟩
      · cases h
    · cases h
theorem s_rngS {t : TypeId} {x : Operand} (hop : o.op = .range t x) (hc : compOp P o = some d) (hx : ORel σ ρ f a x) : RunsTo σ ρ s w ((execOp a.eval o).run P w) (sem1 d f s) := by
  simp only [compOp, hop] at hc
  split at hc
  · rename_i e1
    split at hc
    case h_2 => cases hc
    rename_i x' h1
    cases hc
    simp only [sem1]
    split
    · rename_i l hv
      have hr := hx _ _ h1 hv
      rw [VRel] at hr
      obtain ⟨z, he, hz⟩ := hr
      refine ⟨.stringIter z 0, .pointer (some ⟨w.heap.size, 0, none⟩), 0, ?_, ⟨rfl, z, rfl, hz⟩, fun ρ' b hb _ => vrel_ptr hb⟩
      simp [execOp, hop, Instr.range, run_underlying e1, he]
    · trivial
  · cases hc
theorem decode_low (z : ByteArray) (pos : Nat) (h : pos < z.size) (hc : (z[pos]'h).toNat < 128) : Utf8.decode z pos = ((z[pos]'h).toNat, 1) := by
  have h0 : (z.get! (pos + 0)) = z[pos]'h := by
    rw [Nat.add_zero]; simp [ByteArray.get!, h]; rfl
  unfold Utf8.decode
  simp only [h0]
  rw [if_pos hc]
theorem s_nxtS {x : Operand} (hop : o.op = .next x true) (hc : compOp P o = some d) (R : Rel σ ρ s w) (hx : ORel σ ρ f a x) : RunsTo σ ρ s w ((execOp a.eval o).run P w) (sem1 d f s) := by
  simp only [compOp, hop] at hc
  split at hc
  case h_2 => cases hc
  rename_i x' h1
  cases hc
  simp only [sem1]
  split
  case h_2 => trivial
  rename_i b hb
  have hr := hx _ _ h1 hb
  rw [VRel] at hr
  obtain ⟨B, dd, N, hB, he⟩ := hr
  split
  case h_2 => trivial
  rename_i l pos hbl
  obtain ⟨rfl, z, h2, h3⟩ := R.blk _ _ _ _ _ hB hbl
  have hgo : (getObj B).run P w = .ok (.stringIter z pos) w := by simp [getObj, Sem.run, h2]
  split
  · rename_i c hcn
    split
    · rename_i hlt
      rw [nthN_eq, ← h3, List.getElem?_map] at hcn
      have hp : pos < z.size := by
        rcases Nat.lt_or_ge pos z.size with h | h
        · exact h
        · rw [List.getElem?_eq_none (by simpa using h)] at hcn; cases hcn
      rw [List.getElem?_eq_getElem (by simpa using hp)] at hcn
      have hz : (z[pos]'hp).toNat = c := by
        have h4 : (z.data[pos]'hp).toNat = c := by simpa using hcn
        exact h4
      have hdec := decode_low z pos hp (by omega)
      obtain ⟨g1, g2⟩ := R.setObj (nw := .stringIter z (pos + 1)) (c := .itS l (pos + 1)) hB (by rw [hbl]; simp) ⟨rfl, z, rfl, h3⟩
      refine ⟨.value (.tuple #[.bool true, .int .i64 pos, .int .i32 c]), _, _, ρ, ?_, .inl rfl, g1, Grow.refl _ _, g2, ?_⟩
      · have hset := run_setObj' (P := P) (nw := .stringIter z (pos + 1)) h2 (by intro _ _ _ h; cases h)
        simp [execOp, hop, Instr.next, he, hgo, hp, hdec, hset, hz, goInt]
      · rw [VRel]; exact ⟨_, rfl, VRels.cons (by rw [VRel]) (VRels.cons (by rw [VRel]) (VRels.cons (by rw [VRel]) VRels.nil))⟩
    · trivial
  · rename_i hcn
    have hp : ¬ pos < z.size := by
      intro h
      rw [nthN_eq, ← h3, List.getElem?_map, List.getElem?_eq_getElem (by simpa using h)] at hcn
      cases hcn
    refine ⟨.value (.tuple #[.bool false]), _, w, ρ, ?_, .inl rfl, R, Grow.refl _ _, Fram.refl _ _, ?_⟩
    · simp [execOp, hop, Instr.next, he, hgo, hp]
    · rw [VRel]; exact ⟨_, rfl, VRels.cons (by rw [VRel]) VRels.nil⟩
end
end Go.Proofs.YtpmephcfamcbjaaGreat.Ev
