/- An evaluator for runs: that each operation is right (3). -/
import Derived.Test.YtpmephcfamcbjaaGreatEvF
import Derived.Laws.StructEq
namespace Go.Proofs.YtpmephcfamcbjaaGreat.Ev
open Go

section
variable {P : Program} {σ : Nat → Value} {ρ : Ren} {s : St} {w : World} {f : Fr} {a : Act} {o : Oper} {d : DOp}

theorem s_ia {t : TypeId} {x i : Operand} (hop : o.op = .indexAddr t x i) (hc : compOp P o = some d) (hx : ORel σ ρ f a x) (hi : ORel σ ρ f a i) : RunsTo σ ρ s w ((execOp a.eval o).run P w) (sem1 d f s) := by
  simp only [compOp, hop] at hc
  split at hc
  · rename_i e e1
    split at hc
    case h_2 => cases hc
    rename_i x' i' j h1 h2 h3
    cases hc
    simp only [sem1]
    split
    case h_2 => trivial
    rename_i v hv
    split
    case h_2 => trivial
    rename_i k hk
    split
    case h_2 => trivial
    rename_i n hn
    have hr := hx _ _ h1 hv
    obtain ⟨kk, hin⟩ := (hi _ _ h2 hk).toNat hn
    split
    all_goals (try trivial)
    rename_i b oo m lo sz' ex _
    split
    · rename_i hh
      rw [VRel] at hr
      obtain ⟨B, dd, N, o', c, hb, he, h4, h5, h6, h7, h8⟩ := hr
      refine ⟨.pointer (some ⟨B, dd + (oo + n * j.size), none⟩), ?_, by rw [VRel]; exact ⟨_, _, _, hb, rfl⟩⟩
      have : (0 : Int) ≤ n ∧ (n : Int) < m := by omega
      simp [execOp, hop, Instr.indexAt, hin, asIntOf, run_underlying e1, he, run_sizeOf' h3, addr_add, h7 (by omega), Nat.add_assoc, hh.1]
    · trivial
  · rename_i n0 e e1
    split at hc
    case h_2 => cases hc
    rename_i x' i' j h1 h2 h3
    cases hc
    simp only [sem1]
    split
    case h_2 => trivial
    rename_i v hv
    split
    case h_2 => trivial
    rename_i k hk
    split
    case h_2 => trivial
    rename_i n hn
    have hr := hx _ _ h1 hv
    obtain ⟨kk, hin⟩ := (hi _ _ h2 hk).toNat hn
    split
    all_goals (try trivial)
    rename_i m b oo heq
    cases heq
    split
    · rename_i hh
      rw [VRel] at hr
      obtain ⟨B, dd, N, hb, he⟩ := hr
      refine ⟨.pointer (some ⟨B, dd + (oo + n * j.size), none⟩), ?_, by rw [VRel]; exact ⟨_, _, _, hb, rfl⟩⟩
      simp [execOp, hop, Instr.indexAt, hin, asIntOf, run_underlying e1, he, Instr.sureAddr, run_sizeOf' h3, addr_add, Nat.add_assoc, hh]
    · trivial
  · cases hc
theorem nthN_eq : ∀ {l : List Nat} {n : Nat}, nthN l n = l[n]?
  | [], _ => by simp [nthN]
  | x :: _, 0 => by simp [nthN]
  | x :: l, n + 1 => by simp [nthN, nthN_eq]
theorem nthD_eq : ∀ {l : List DV} {n : Nat}, nthD l n = l[n]?
  | [], _ => by simp [nthD]
  | x :: _, 0 => by simp [nthD]
  | x :: l, n + 1 => by simp [nthD, nthD_eq]
theorem s_idx {t : TypeId} {x i : Operand} (hop : o.op = .index t x i) (hc : compOp P o = some d) (hx : ORel σ ρ f a x) (hi : ORel σ ρ f a i) : RunsTo σ ρ s w ((execOp a.eval o).run P w) (sem1 d f s) := by
  simp only [compOp, hop] at hc
  split at hc
  · rename_i e1
    split at hc
    case h_2 => cases hc
    rename_i x' i' h1 h2
    cases hc
    simp only [sem1]
    split
    case h_2 => trivial
    rename_i v hv
    split
    case h_2 => trivial
    rename_i k hk
    split
    case h_2 => trivial
    rename_i n hn
    have hr := hx _ _ h1 hv
    obtain ⟨kk, hin⟩ := (hi _ _ h2 hk).toNat hn
    split
    all_goals (try trivial)
    rename_i l _
    split
    · rename_i c hc
      rw [VRel] at hr
      obtain ⟨z, he, hz⟩ := hr
      rw [nthN_eq, ← hz, List.getElem?_map] at hc
      have hlt : n < z.size := by
        rcases Nat.lt_or_ge n z.size with h | h
        · exact h
        · rw [List.getElem?_eq_none (by simpa using h)] at hc; cases hc
      have hzn : z[n]? = some z[n] := by simp [hlt]
      rw [List.getElem?_eq_getElem (by simpa using hlt)] at hc
      have hc2 : (z.data[n]'hlt).toNat = c := by simpa using hc
      have hc' : (z[n]'hlt).toNat = c := hc2
      refine ⟨.int .u8 c, ?_, by rw [VRel]; rfl⟩
      simp [execOp, hop, Instr.index, hin, asIntOf, run_underlying e1, he, hlt, hc']
    · trivial
  · rename_i n0 e e1
    split at hc
    case h_2 => cases hc
    rename_i x' i' h1 h2
    split at hc
    case h_2 => cases hc
    rename_i j ag h3 h4
    cases hc
    simp only [sem1]
    split
    case h_2 => trivial
    rename_i v hv
    split
    case h_2 => trivial
    rename_i k hk
    split
    case h_2 => trivial
    rename_i n hn
    have hr := hx _ _ h1 hv
    obtain ⟨kk, hin⟩ := (hi _ _ h2 hk).toNat hn
    split
    all_goals (try trivial)
    rename_i m sz ag2 l heq
    cases heq
    split
    · rename_i hh
      split
      · rename_i r hr2
        refine runsTo_ofV fun u hu => ?_
        rw [VRel] at hr
        obtain ⟨cs, he, hl⟩ := hr
        have hr3 : getCells (agN ag j.size) (l.drop (n * j.size)) = some r := by cases ag <;> exact hr2
        obtain ⟨v', h5, h6⟩ := run_part (P := P) (w := w) h3 h4 hl hr3 hu
        exact ⟨v', by simp [execOp, hop, Instr.index, hin, asIntOf, run_underlying e1, he, run_sizeOf' h3, hh, h5], h6⟩
      · trivial
    · trivial
  · cases hc
theorem s_ext {x : Operand} {i : Nat} (hop : o.op = .extract x i) (hc : compOp P o = some d) (hx : ORel σ ρ f a x) : RunsTo σ ρ s w ((execOp a.eval o).run P w) (sem1 d f s) := by
  simp only [compOp, hop] at hc
  split at hc
  case h_2 => cases hc
  rename_i x' h1
  cases hc
  simp only [sem1]
  split
  · rename_i l hv
    have hr := hx _ _ h1 hv
    rw [VRel] at hr
    obtain ⟨cs, he, hl⟩ := hr
    refine runsTo_ofV fun u hu => ?_
    rw [nthD_eq] at hu
    obtain ⟨y, h2, h3⟩ := hl.get hu
    exact ⟨y, by simp [execOp, hop, Instr.extract, he, show cs[i]? = some y by simpa using h2], h3⟩
  · trivial
/- maps -/
def KKok (P : Program) (t : TypeId) (kk : KK) : Prop := keyK P t = some kk
theorem keyK_spec {t : TypeId} {kk : KK} (h : keyK P t = some kk) : ∃ dd, P.underlying t = some dd ∧ ((kk = .int ∧ ∃ k, dd = .int k) ∨ (kk = .str ∧ dd = .string) ∨ (kk = .bool ∧ dd = .bool)) := by
  unfold keyK at h
  split at h <;> cases h
  · rename_i k e; exact ⟨_, e, .inl ⟨rfl, k, rfl⟩⟩
  · rename_i e; exact ⟨_, e, .inr (.inl ⟨rfl, rfl⟩)⟩
  · rename_i e; exact ⟨_, e, .inr (.inr ⟨rfl, rfl⟩)⟩
theorem eqk_sound {t : TypeId} {kk : KK} {dd : TypeDesc} {x y : DV} {u v : Value} {r : Bool} (hd : P.underlying t = some dd) (hk : keyK P t = some kk) (h : eqk kk x y = some r) (hx : VRel σ ρ x u) (hy : VRel σ ρ y v) : Instr.sameNow dd u v = some r := by
  obtain ⟨dd', h1, h2⟩ := keyK_spec hk
  rw [hd] at h1; cases h1
  unfold eqk at h
  split at h
  · rcases h2 with ⟨h3, _⟩ | ⟨h3, _⟩ | ⟨h3, _⟩ <;> cases h3
  · rcases h2 with ⟨h3, _⟩ | ⟨h3, _⟩ | ⟨_, rfl⟩ <;> (try cases h3)
    have e1 := VRel.bool hx; have e2 := VRel.bool hy; subst e1 e2; cases h; rfl
  · rcases h2 with ⟨_, k, rfl⟩ | ⟨h3, _⟩ | ⟨h3, _⟩ <;> (try cases h3)
    split at h
    · rename_i hkk
      have e1 := VRel.int hx; have e2 := VRel.int hy; subst e1 e2; cases h
      have := kEq_eq hkk; subst this
      simp [Instr.sameNow, iEq_iff]
    · cases h
  · rcases h2 with ⟨h3, _⟩ | ⟨_, rfl⟩ | ⟨h3, _⟩ <;> (try cases h3)
    rw [VRel] at hx hy
    obtain ⟨xs, rfl, rfl⟩ := hx
    obtain ⟨ys, rfl, rfl⟩ := hy
    cases h
    simp only [Instr.sameNow, eqL_bytes, beq_toListBytes]
  · cases h
theorem checkKey_ok {t : TypeId} {kk : KK} (hk : keyK P t = some kk) (b : Bool) (v : Value) : (Instr.checkKey b 10000 t v).run P w = .ok () w := by
  obtain ⟨dd, h1, h2⟩ := keyK_spec hk
  show (Instr.checkKey b (9999 + 1) t v).run P w = _
  rw [Instr.checkKey]
  rcases h2 with ⟨_, k, rfl⟩ | ⟨_, rfl⟩ | ⟨_, rfl⟩ <;> simp [run_underlying h1]
theorem lookD_sound {t : TypeId} {kk : KK} {dd : TypeDesc} {x : DV} {u : Value} (hd : P.underlying t = some dd) (hk : keyK P t = some kk) (hx : VRel σ ρ x u) : ∀ {es : List (DV × DV × Nat)} {es' : List MapEntry} {r : Option DV} (i : Nat), lookD kk x es = some r → ERels σ ρ es es' →
    (r = none ∧ Instr.findNow dd u es' i = some none) ∨ (∃ v n v', r = some v ∧ Instr.findNow dd u es' i = some (some (n, v')) ∧ VRel σ ρ v v')
  | [], es', r, i, h, he => by
    rw [ERels] at he; subst he
    simp only [lookD] at h; cases h
    exact .inl ⟨rfl, rfl⟩
  | (k', v, b) :: es, es', r, i, h, he => by
    rw [ERels] at he
    obtain ⟨e, es2, rfl, h1, h2, h3, h4⟩ := he
    simp only [lookD] at h
    split at h
    · rename_i hq
      cases h
      have := eqk_sound hd hk hq hx h1
      exact .inr ⟨v, i, e.val, rfl, by simp [Instr.findNow, this], h2⟩
    · rename_i hq
      have := eqk_sound hd hk hq hx h1
      rcases lookD_sound hd hk hx (i + 1) h h4 with ⟨h5, h6⟩ | ⟨v', n, v'', h5, h6, h7⟩
      · exact .inl ⟨h5, by simp [Instr.findNow, this, h6]⟩
      · exact .inr ⟨v', n, v'', h5, by simp [Instr.findNow, this, h6], h7⟩
    · cases h
theorem mapOf_sound (R : Rel σ ρ s w) {v : DV} {u : Value} {es : List (DV × DV × Nat)} (h : mapOf s v = some es) (hv : VRel σ ρ v u) :
    ∃ es' : Array MapEntry, ERels σ ρ es es'.toList ∧ ((u = .map none ∧ es' = #[]) ∨ ∃ B c, u = .map (some B) ∧ w.heap[B]? = some (.map es' c)) := by
  unfold mapOf at h
  split at h
  · cases h; rw [VRel] at hv; exact ⟨#[], by simp [ERels], .inl ⟨hv, rfl⟩⟩
  · split at h
    · rename_i b es0 c hb
      cases h
      rw [VRel] at hv
      obtain ⟨B, N, h1, h2⟩ := hv
      obtain ⟨_, es', h3, h4⟩ := R.blk _ _ _ _ _ h1 hb
      exact ⟨es', h4, .inr ⟨B, c, h2, h3⟩⟩
    · cases h
  · cases h
theorem run_getObj_map' {B c : Nat} {es : Array MapEntry} (h : w.heap[B]? = some (.map es c)) : (getObj B).run P w = .ok (.map es c) w := by
  simp [getObj, Sem.run, h]
theorem s_lk {t : TypeId} {m k : Operand} {ok : Bool} (hop : o.op = .lookup t m k ok) (hc : compOp P o = some d) (R : Rel σ ρ s w) (hm : ORel σ ρ f a m) (hk : ORel σ ρ f a k) : RunsTo σ ρ s w ((execOp a.eval o).run P w) (sem1 d f s) := by
  simp only [compOp, hop] at hc
  split at hc
  case h_2 => cases hc
  rename_i kt e e1
  split at hc
  case h_2 => cases hc
  rename_i m' k' h1 h2
  split at hc
  case h_2 => cases hc
  rename_i i hi
  split at hc
  case h_2 => cases hc
  rename_i z hz
  split at hc
  case h_2 => cases hc
  rename_i z' hz'
  split at hc
  case h_2 => cases hc
  rename_i kk hkk
  cases hc
  simp only [sem1]
  split
  case h_2 => trivial
  rename_i v hv
  split
  case h_2 => trivial
  rename_i kd hkd
  split
  case h_2 => trivial
  rename_i es hes
  split
  case h_2 => trivial
  rename_i r hr
  obtain ⟨es', h3, h4⟩ := mapOf_sound R hes (hm _ _ h1 hv)
  obtain ⟨dd, h5, _⟩ := keyK_spec hkk
  have hzr : VRel σ ρ z' z := plainV_rel hz'
  have hfind := lookD_sound h5 hkk (hk _ _ h2 hkd) 0 hr h3
  have hck := fun b => checkKey_ok (P := P) (w := w) hkk b (a.eval k)
  have hf : ∀ r, Instr.findNow dd (a.eval k) es'.toList 0 = some r → (Instr.findKey kt (a.eval k) es'.toList).run P w = .ok r w := fun r hr => by
    simp [Instr.findKey, run_underlying h5, hr]
  have hl : ∀ r : Option (Nat × Value), Instr.findNow dd (a.eval k) es'.toList 0 = some r → (Instr.lookup t (a.eval m) (a.eval k) ok).run P w = .ok (if ok then .tuple #[(r.map (·.2)).getD z, .bool r.isSome] else (r.map (·.2)).getD z) w := fun r hr => by
    have hk2 := hf r hr
    rcases h4 with ⟨h6, rfl⟩ | ⟨B, c, h6, h7⟩
    · cases r <;> simp [Instr.lookup, run_underlying e1, h6, hck, hk2, run_zero hi hz]
    · cases r <;> simp [Instr.lookup, run_underlying e1, h6, run_getObj_map' h7, hck, hk2, run_zero hi hz]
  rcases hfind with ⟨rfl, h8⟩ | ⟨v0, n0, v0', rfl, h8, h9⟩
  · have := hl _ h8
    cases ok
    · exact ⟨z, by simp [execOp, hop, this], hzr⟩
    · exact ⟨.tuple #[z, .bool false], by simp [execOp, hop, this], by simp only [VRel]; exact ⟨_, rfl, VRels.cons hzr (VRels.cons (by rw [VRel]; rfl) VRels.nil)⟩⟩
  · have := hl _ h8
    cases ok
    · exact ⟨v0', by simp [execOp, hop, this], h9⟩
    · exact ⟨.tuple #[v0', .bool true], by simp [execOp, hop, this], by simp only [VRel]; exact ⟨_, rfl, VRels.cons h9 (VRels.cons (by rw [VRel]; rfl) VRels.nil)⟩⟩
end
end Go.Proofs.YtpmephcfamcbjaaGreat.Ev
