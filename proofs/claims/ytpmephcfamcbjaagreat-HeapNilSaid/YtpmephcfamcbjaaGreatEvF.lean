/- An evaluator for runs: that each operation is right (2). -/
import Derived.Test.YtpmephcfamcbjaaGreatEvE
import Derived.Laws.RangeAny
import Derived.Laws.BytesString
namespace Go.Proofs.YtpmephcfamcbjaaGreat.Ev
open Go

section
variable {P : Program} {σ : Nat → Value} {ρ : Ren} {s : St} {w : World} {f : Fr} {a : Act} {o : Oper} {d : DOp}

theorem binOp_ty (op : BinOp) (t : TypeId) (k k' : IntKind) (x y : Int) : Go.binOp op t (.int k x) (.int k' y) = Go.binOp op 0 (.int k x) (.int k' y) := by cases op <;> rfl
theorem binOp_str (op : BinOp) (t : TypeId) (x y : ByteArray) (h : op ≠ .shl ∧ op ≠ .shr) : Go.binOp op t (.string x) (.string y) = Op.stringOp op x y := by
  cases op <;> first | rfl | simp at h
theorem str_app (x y : ByteArray) : (x ++ y).data.toList = x.data.toList ++ y.data.toList := by
  simp [ByteArray.data_append]
theorem binD_sound {op : BinOp} {x y : DV} {u v : Value} {t : TypeId} {r : DV} (h : binD op x y = some r) (hx : VRel σ ρ x u) (hy : VRel σ ρ y v) : ∃ v', (Go.binOp op t u v).run P w = .ok v' w ∧ VRel σ ρ r v' := by
  unfold binD at h
  split at h
  · have e1 := VRel.int hx; have e2 := VRel.int hy
    subst e1 e2
    obtain ⟨z, h1, h2⟩ := ofSem_spec h
    rw [binOp_ty, h1]
    exact ⟨z, rfl, plain_rel h2⟩
  · rw [VRel] at hx hy
    obtain ⟨xs, rfl, rfl⟩ := hx
    obtain ⟨ys, rfl, rfl⟩ := hy
    have hop : op ≠ .shl ∧ op ≠ .shr := by cases op <;> simp at h ⊢
    rw [binOp_str _ _ _ _ hop]
    have e1 : eqL (xs.data.toList.map UInt8.toNat) (ys.data.toList.map UInt8.toNat) = (xs.toList == ys.toList) := eqL_bytes
    have e2 : leB (xs.data.toList.map UInt8.toNat) (ys.data.toList.map UInt8.toNat) = Op.bytesLess xs.toList ys.toList := by rw [leB_bytes, ByteArray.toList_eq, ByteArray.toList_eq]
    rw [e1, e2] at h
    cases op <;> simp only at h <;> (try cases h)
    case add =>
      split at h
      · rename_i hl
        cases h
        refine ⟨.string (xs ++ ys), ?_, ?_⟩
        · have hl2 : xs.size + ys.size ≤ 1073741824 := by simpa using hl
          simp only [Op.stringOp]
          rw [if_neg (by rw [IntKind.max_i64]; omega)]
          rfl
        · rw [VRel]; exact ⟨_, rfl, by rw [str_app]; simp⟩
      · cases h
    all_goals exact ⟨_, rfl, by rw [VRel]⟩
  · cases h
theorem eqGuard_nice {op : BinOp} {t : TypeId} {x y : Operand} {u v : Value} (h : (∃ k n, u = .int k n) ∨ (∃ s, u = .string s) ∨ (∃ b, u = .bool b) ∨ (∃ p, u = .pointer p) ∨ (∃ p n c, u = .slice p n c) ∨ (∃ p, u = .map p) ∨ (∃ f i c, u = .func f i c) ∨ u = .nilFunc) : eqGuard op t x y u v = pure () := by
  rcases h with ⟨_, _, rfl⟩ | ⟨_, rfl⟩ | ⟨_, rfl⟩ | ⟨_, rfl⟩ | ⟨_, _, _, rfl⟩ | ⟨_, rfl⟩ | ⟨_, _, _, rfl⟩ | rfl <;> cases op <;> rfl
theorem binD_nice {op : BinOp} {x y r : DV} {u : Value} (h : binD op x y = some r) (hx : VRel σ ρ x u) : (∃ k n, u = .int k n) ∨ (∃ s, u = .string s) := by
  unfold binD at h
  split at h
  · exact .inl ⟨_, _, VRel.int hx⟩
  · rw [VRel] at hx; obtain ⟨xs, rfl, _⟩ := hx; exact .inr ⟨_, rfl⟩
  · cases h
def EKok (P : Program) (t : TypeId) : EK → Prop
  | .bool => P.underlying t = some .bool
  | .ptr => ∃ e, P.underlying t = some (.pointer e)
  | .slice => ∃ e, P.underlying t = some (.slice e)
  | .map => ∃ e g, P.underlying t = some (.map e g)
  | .func => ∃ b c e, P.underlying t = some (.func b c e)
  | .strct => False
theorem eqv1_sound {k : EK} {x y : DV} {u v : Value} {t : TypeId} {r : Bool} (h : eqv1 k x y = some r) (hx : VRel σ ρ x u) (hy : VRel σ ρ y v)
    (ht : EKok P t k) :
    (Op.equal t u v).run P w = .ok r w ∧ ((∃ b, u = .bool b) ∨ (∃ p, u = .pointer p) ∨ (∃ p n c, u = .slice p n c) ∨ (∃ p, u = .map p) ∨ (∃ f i c, u = .func f i c) ∨ u = .nilFunc) := by
  show (Op.equalIn (9999 + 1) t u v).run P w = .ok r w ∧ _
  rw [Op.equalIn]
  unfold eqv1 at h
  split at h <;> (try cases h) <;> simp only [VRel] at hx hy <;> simp only [EKok] at ht
  · subst hx hy; exact ⟨by simp [run_underlying ht], .inl ⟨_, rfl⟩⟩
  · obtain ⟨e, ht⟩ := ht; subst hx hy; exact ⟨by simp [run_underlying ht], .inr (.inl ⟨_, rfl⟩)⟩
  · obtain ⟨e, ht⟩ := ht; obtain ⟨_, _, _, _, rfl⟩ := hy; subst hx; exact ⟨by simp [run_underlying ht], .inr (.inl ⟨_, rfl⟩)⟩
  · obtain ⟨e, ht⟩ := ht; obtain ⟨_, _, _, _, rfl⟩ := hx; subst hy; exact ⟨by simp [run_underlying ht], .inr (.inl ⟨_, rfl⟩)⟩
  · obtain ⟨e, ht⟩ := ht; subst hx hy; exact ⟨by simp [run_underlying ht], .inr (.inr (.inl ⟨_, _, _, rfl⟩))⟩
  · obtain ⟨e, ht⟩ := ht; obtain ⟨_, _, _, _, _, _, rfl, _⟩ := hy; subst hx; exact ⟨by simp [run_underlying ht], .inr (.inr (.inl ⟨_, _, _, rfl⟩))⟩
  · obtain ⟨e, ht⟩ := ht; obtain ⟨_, _, _, _, _, _, rfl, _⟩ := hx; subst hy; exact ⟨by simp [run_underlying ht], .inr (.inr (.inl ⟨_, _, _, rfl⟩))⟩
  · obtain ⟨e, g, ht⟩ := ht; subst hx hy; exact ⟨by simp [run_underlying ht], .inr (.inr (.inr (.inl ⟨_, rfl⟩)))⟩
  · obtain ⟨e, g, ht⟩ := ht; obtain ⟨_, _, _, rfl⟩ := hy; subst hx; exact ⟨by simp [run_underlying ht], .inr (.inr (.inr (.inl ⟨_, rfl⟩)))⟩
  · obtain ⟨e, g, ht⟩ := ht; obtain ⟨_, _, _, rfl⟩ := hx; subst hy; exact ⟨by simp [run_underlying ht], .inr (.inr (.inr (.inl ⟨_, rfl⟩)))⟩
  · obtain ⟨b, c, e, ht⟩ := ht; subst hx hy; exact ⟨by simp [run_underlying ht], .inr (.inr (.inr (.inr (.inr rfl))))⟩
  · obtain ⟨b, c, e, ht⟩ := ht; obtain ⟨_, _, rfl, _⟩ := hy; subst hx; exact ⟨by simp [run_underlying ht], .inr (.inr (.inr (.inr (.inr rfl))))⟩
  · obtain ⟨b, c, e, ht⟩ := ht; obtain ⟨_, _, rfl, _⟩ := hx; subst hy; exact ⟨by simp [run_underlying ht], .inr (.inr (.inr (.inr (.inl ⟨_, _, _, rfl⟩))))⟩
theorem binOp_eq {t : TypeId} {u v : Value} (h : (∃ b, u = .bool b) ∨ (∃ p, u = .pointer p) ∨ (∃ p n c, u = .slice p n c) ∨ (∃ p, u = .map p) ∨ (∃ f i c, u = .func f i c) ∨ u = .nilFunc) :
    Go.binOp .eql t u v = (do pure (.bool (← Op.equal t u v))) ∧ Go.binOp .neq t u v = (do pure (.bool (!(← Op.equal t u v)))) := by
  rcases h with ⟨_, rfl⟩ | ⟨_, rfl⟩ | ⟨_, _, _, rfl⟩ | ⟨_, rfl⟩ | ⟨_, _, _, rfl⟩ | rfl <;> exact ⟨rfl, rfl⟩
theorem s_eqa {op : BinOp} {t t2 : TypeId} {x y : Operand} {k : EK} {neg : Bool} {x' y' : DO} (hop : o.op = .binOp op t x y t2) (hd : d = .eqa k neg x' y') (hn : op = if neg = true then .neq else .eql)
    (h1 : opd x = some x') (h2 : opd y = some y')
    (ht : EKok P t k)
    (hx : ORel σ ρ f a x) (hy : ORel σ ρ f a y) : RunsTo σ ρ s w ((execOp a.eval o).run P w) (sem1 d f s) := by
  subst hd
  simp only [sem1]
  split
  · rename_i u hu
    split
    · rename_i v hv
      split
      · rename_i r hr
        obtain ⟨h3, h4⟩ := eqv1_sound (P := P) (w := w) hr (hx _ _ h1 hu) (hy _ _ h2 hv) ht
        obtain ⟨h5, h6⟩ := binOp_eq (t := t) (v := a.eval y) h4
        have hg : ∀ op, eqGuard op t x y (a.eval x) (a.eval y) = pure () := fun op => eqGuard_nice (by
          rcases h4 with h | h | h | h | h | h
          · exact .inr (.inr (.inl h))
          · exact .inr (.inr (.inr (.inl h)))
          · exact .inr (.inr (.inr (.inr (.inl h))))
          · exact .inr (.inr (.inr (.inr (.inr (.inl h)))))
          · exact .inr (.inr (.inr (.inr (.inr (.inr (.inl h))))))
          · exact .inr (.inr (.inr (.inr (.inr (.inr (.inr h)))))))
        cases neg
        · simp only [Bool.false_eq_true, if_false] at hn
          subst hn
          exact ⟨.bool r, by simp [execOp, hop, hg, h5, h3], by rw [VRel]⟩
        · simp only [if_true] at hn
          subst hn
          exact ⟨.bool (!r), by simp [execOp, hop, hg, h6, h3], by rw [VRel]⟩
      · trivial
    · trivial
  · trivial
theorem s_bin {op : BinOp} {t t2 : TypeId} {x y : Operand} (hop : o.op = .binOp op t x y t2) (hc : compOp P o = some d) (hx : ORel σ ρ f a x) (hy : ORel σ ρ f a y) : RunsTo σ ρ s w ((execOp a.eval o).run P w) (sem1 d f s) := by
  simp only [compOp, hop] at hc
  split at hc
  case h_2 => cases hc
  rename_i x' y' h1 h2
  have hb : d = .bin op x' y' → RunsTo σ ρ s w ((execOp a.eval o).run P w) (sem1 d f s) := by
    rintro rfl
    simp only [sem1]
    split
    · rename_i u hu
      split
      · rename_i v hv
        refine runsTo_ofV fun r hr => ?_
        obtain ⟨v', h3, h4⟩ := binD_sound (P := P) (w := w) (t := t) hr (hx _ _ h1 hu) (hy _ _ h2 hv)
        have hg : eqGuard op t x y (a.eval x) (a.eval y) = pure () := eqGuard_nice (by
          rcases binD_nice hr (hx _ _ h1 hu) with h | h
          · exact .inl h
          · exact .inr (.inl h))
        exact ⟨v', by simp [execOp, hop, hg, h3], h4⟩
      · trivial
    · trivial
  split at hc
  · cases hc; exact hb rfl
  · cases hc; exact hb rfl
  all_goals first
    | (rename_i ht
       split at hc
       · cases hc; exact s_eqa hop rfl rfl h1 h2 (by first | exact ht | exact ⟨_, ht⟩ | exact ⟨_, _, ht⟩ | exact ⟨_, _, _, ht⟩) hx hy
       · cases hc; exact s_eqa hop rfl rfl h1 h2 (by first | exact ht | exact ⟨_, ht⟩ | exact ⟨_, _, ht⟩ | exact ⟨_, _, _, ht⟩) hx hy
       · cases hc)
    | cases hc

theorem s_un {op : UnOp} {t : TypeId} {x : Operand} (hop : o.op = .unOp op t x) (hc : compOp P o = some d) (hx : ORel σ ρ f a x) : RunsTo σ ρ s w ((execOp a.eval o).run P w) (sem1 d f s) := by
  simp only [compOp, hop] at hc
  split at hc
  case h_2 => cases hc
  rename_i x' h1
  cases hc
  simp only [sem1]
  split
  · rename_i k n hv
    have e := VRel.int (hx _ _ h1 hv)
    refine runsTo_ofV fun r hr => ?_
    obtain ⟨z, h2, h3⟩ := ofSem_spec hr
    exact ⟨z, by simp [execOp, hop, e, h2, Sem.run], plain_rel h3⟩
  · rename_i b hv
    have e := VRel.bool (hx _ _ h1 hv)
    split
    · exact ⟨.bool (!b), by simp [execOp, hop, e, Op.unary], by rw [VRel]⟩
    · trivial
  · trivial
theorem cellBytes_spec : ∀ {l : List DV} {r : List Nat} {cs : List Value}, cellBytes l = some r → VRels σ ρ l cs → ∃ bs : List UInt8, bs.map UInt8.toNat = r ∧ cs = bs.map fun b => .int .u8 (b.toNat : Int)
  | [], r, cs, h, k => by simp only [cellBytes] at h; cases h; rw [VRels] at k; exact ⟨[], rfl, by simp [k]⟩
  | x :: l, r, cs, h, k => by
    unfold cellBytes at h
    split at h
    · simp_all
    · rename_i c l' e
      cases e
      split at h
      · rename_i hc
        split at h
        · rename_i r' hr
          cases h
          rw [VRels] at k
          obtain ⟨y, ys, rfl, h1, h2⟩ := k
          obtain ⟨bs, h3, h4⟩ := cellBytes_spec hr h2
          have := VRel.int h1
          refine ⟨UInt8.ofNat c :: bs, by simp [h3]; omega, ?_⟩
          subst this h4
          have : (UInt8.ofNat c).toNat = c := by simp; omega
          simp [this]
        · cases h
      · cases h
    · cases h
theorem foldl_push (bs : List UInt8) : ∀ acc : ByteArray, ((bs.map fun b => (b.toNat : Int)).foldl (fun r n => r.push (UInt8.ofNat n.toNat)) acc).data.toList = acc.data.toList ++ bs := by
  induction bs with
  | nil => intro acc; simp
  | cons b bs ih => intro acc; simp only [List.map_cons, List.foldl_cons, ih]; simp [ByteArray.push]
theorem run_bytesToString' (A : Addr) (n c : Nat) (bs : List UInt8) (h : ∀ (j : Nat) (v : Value), (bs.map fun b => Value.int .u8 (b.toNat : Int))[j]? = some v → w.cell? (A.add j) = some v) (hn : bs.length = n) :
    ∃ z : ByteArray, (Conv.bytesToString (.slice (some A) n c)).run P w = .ok (.string z) w ∧ z.data.toList = bs := by
  have := run_loadCells_list (P := P) w A _ h
  rw [List.length_map, hn] at this
  refine ⟨_, run_bytesToString w A n c (bs.map fun b => (b.toNat : Int)) ?_, by rw [foldl_push]; rfl⟩
  rw [this]; simp
theorem s_conv {t1 t2 : TypeId} {x : Operand} (hop : o.op = .convert t1 t2 x) (hc : compOp P o = some d) (R : Rel σ ρ s w) (hx : ORel σ ρ f a x) : RunsTo σ ρ s w ((execOp a.eval o).run P w) (sem1 d f s) := by
  simp only [compOp, hop] at hc
  split at hc
  case h_2 => cases hc
  rename_i x' h1
  split at hc
  · rename_i k1 k2 e1 e2
    cases hc
    simp only [sem1]
    split
    · rename_i v hv
      have hr := hx _ _ h1 hv
      split
      all_goals (try trivial)
      all_goals (rename_i heq; cases heq)
      rename_i n
      have e := VRel.int hr
      exact ⟨.int k2 (k2.wrap n), by simp [execOp, hop, convert, run_underlying e1, run_underlying e2, e, Conv.intToInt], by rw [VRel]⟩
    · trivial
  · rename_i e1 e2
    cases hc
    simp only [sem1]
    split
    · rename_i v hv
      have hr := hx _ _ h1 hv
      split
      all_goals (try trivial)
      all_goals (rename_i heq; cases heq)
      have hr2 := hr
      rw [VRel] at hr
      obtain ⟨z, e, _⟩ := hr
      exact ⟨a.eval x, by simp [execOp, hop, convert, run_underlying e1, run_underlying e2, e], hr2⟩
    · trivial
  · rename_i e e1 e2
    split at hc
    · rename_i e3
      cases hc
      simp only [sem1]
      split
      · rename_i v hv
        have hr := hx _ _ h1 hv
        split
        all_goals (try trivial)
        · rw [VRel] at hr
          exact ⟨.string .empty, by simp [execOp, hop, convert, run_underlying e1, run_underlying e2, run_underlying e3, hr, Conv.bytesToString], by rw [VRel]; exact ⟨_, rfl, rfl⟩⟩
        · split
          · split
            · rename_i l hl
              split
              · rename_i r hr2
                rw [VRel] at hr
                obtain ⟨B, dd, N, o', c, hb, he, h4, h5, h6, h7, h8⟩ := hr
                obtain ⟨cs, g1, g2, g3, g4⟩ := R.load hb hl
                obtain ⟨bs, g5, g6⟩ := cellBytes_spec hr2 g1
                subst g6
                rename_i n lo sz ex _ _ _ _
                have hoff : ∀ (j : Nat) (v : Value), (bs.map fun b => Value.int .u8 (b.toNat : Int))[j]? = some v → w.cell? ((⟨B, o', none⟩ : Addr).add j) = some v := fun j v hj => by
                  have hj2 : j < n := by rw [← g2]; exact (List.getElem?_eq_some_iff.1 hj).1
                  rw [addr_add, h7 (by omega)]; exact g4 j v hj
                obtain ⟨z, g7, g8⟩ := run_bytesToString' (P := P) (w := w) ⟨B, o', none⟩ n c bs hoff (by simpa using g2)
                exact ⟨.string z, by simp [execOp, hop, convert, run_underlying e1, run_underlying e2, run_underlying e3, he, g7], by rw [VRel]; exact ⟨_, rfl, by rw [g8, g5]⟩⟩
              · trivial
            · trivial
          · trivial
      · trivial
    · cases hc
  · cases hc
theorem s_mkfn {g : Nat} {fi ca : Array Operand} (hop : o.op = .makeFunc (.func g) fi ca) (hc : compOp P o = some d) (h1 : ∀ x ∈ fi, ORel σ ρ f a x) (h2 : ∀ x ∈ ca, ORel σ ρ f a x) : RunsTo σ ρ s w ((execOp a.eval o).run P w) (sem1 d f s) := by
  simp only [compOp, hop] at hc
  split at hc
  · rename_i i l e1 e2
    cases hc
    simp only [sem1]
    split
    · rename_i vi hvi
      split
      · rename_i vl hvl
        refine ⟨.func (.func g) (fi.map a.eval) (ca.map a.eval), by simp [execOp, hop, Instr.makeFunc], ?_⟩
        rw [VRel]
        exact ⟨_, _, rfl, by simpa using opds_rel e1 hvi fun x hx => h1 x (by simpa using hx), by simpa using opds_rel e2 hvl fun x hx => h2 x (by simpa using hx)⟩
      · trivial
    · trivial
  · cases hc
theorem s_mkmap {t : TypeId} (hop : o.op = .makeMap t none) (hc : compOp P o = some d) : RunsTo σ ρ s w ((execOp a.eval o).run P w) (sem1 d f s) := by
  simp only [compOp, hop] at hc
  cases hc
  refine ⟨.map #[] 0, .map (some w.heap.size), 0, by simp [execOp, hop, Instr.makeMap], ⟨rfl, _, rfl, by simp [ERels]⟩, fun ρ' b hb _ => ?_⟩
  rw [VRel]; exact ⟨_, _, hb, rfl⟩
theorem s_fa {t : TypeId} {x : Operand} {i : Nat} (hop : o.op = .fieldAddr t x i) (hc : compOp P o = some d) (hx : ORel σ ρ f a x) : RunsTo σ ρ s w ((execOp a.eval o).run P w) (sem1 d f s) := by
  simp only [compOp, hop] at hc
  split at hc
  case h_2 => cases hc
  rename_i fs e1
  split at hc
  case h_2 => cases hc
  rename_i x' fl h1 e2
  split at hc
  case h_2 => cases hc
  rename_i n hn
  cases hc
  unfold sizeNZ at hn
  split at hn
  case h_2 => cases hn
  rename_i j hj
  split at hn
  · cases hn
  rename_i hne
  simp only [sem1]
  split
  · rename_i b oo hv
    have hr := hx _ _ h1 hv
    rw [VRel] at hr
    obtain ⟨B, dd, N, hb, he⟩ := hr
    refine ⟨.pointer (some ⟨B, dd + (oo + fl.offset), none⟩), ?_, by rw [VRel]; exact ⟨_, _, _, hb, rfl⟩⟩
    simp [execOp, hop, Instr.fieldAt, run_underlying e1, e2, he, Instr.sureAddr, fieldPlace, run_sizeOf' hj, hne, addr_add, Nat.add_assoc]
  · trivial
theorem run_part {e : TypeId} {j : TypeInfo} {ag : Bool} {l : List DV} {cs : Array Value} {off : Nat} {r : List DV} {v : DV} (hi : P.info? e = some j) (hg : isAg P e = some ag) (hl : VRels σ ρ l cs.toList) (h : getCells (agN ag j.size) (l.drop off) = some r) (hv : aggIf ag r = some v) :
    ∃ v', (part e cs off).run P w = .ok v' w ∧ VRel σ ρ v v' := by
  obtain ⟨h1, h2⟩ := getCells_eq h
  have hr : VRels σ ρ r ((cs.toList.drop off).take (agN ag j.size)) := by rw [h1]; exact (hl.drop off).take _
  rcases aggIf_rel hv hr with ⟨rfl, h3⟩ | ⟨rfl, y, h3, h4⟩
  · refine ⟨_, ?_, h3⟩
    simp only [part, Sem.run_bind, run_isAgg' hg, Result.andThen_ok, if_true, run_sizeOf' hi, Sem.run_pure]
    congr 2
    apply Array.ext'
    simp [agN]
  · refine ⟨y, ?_, h4⟩
    have : cs[off]? = some y := by
      have h5 : ((cs.toList.drop off).take 1)[0]? = some y := by simp only [agN] at h3; rw [h3]; rfl
      rw [take_get (by omega), List.getElem?_drop] at h5
      simpa using h5
    simp [part, run_isAgg' hg, this]
theorem s_fld {t : TypeId} {x : Operand} {i : Nat} (hop : o.op = .field t x i) (hc : compOp P o = some d) (hx : ORel σ ρ f a x) : RunsTo σ ρ s w ((execOp a.eval o).run P w) (sem1 d f s) := by
  simp only [compOp, hop] at hc
  split at hc
  case h_2 => cases hc
  rename_i fs e1
  split at hc
  case h_2 => cases hc
  rename_i x' fl h1 e2
  split at hc
  case h_2 => cases hc
  rename_i j ag e3 e4
  cases hc
  simp only [sem1]
  split
  · rename_i l hv
    have hr := hx _ _ h1 hv
    rw [VRel] at hr
    obtain ⟨cs, he, hl⟩ := hr
    split
    · rename_i r hr2
      refine runsTo_ofV fun v hv2 => ?_
      obtain ⟨v', h5, h6⟩ := run_part (P := P) (w := w) e3 e4 hl hr2 hv2
      exact ⟨v', by simp [execOp, hop, Instr.field, run_underlying e1, e2, he, asAgg, h5], h6⟩
    · trivial
  · trivial
end
end Go.Proofs.YtpmephcfamcbjaaGreat.Ev
