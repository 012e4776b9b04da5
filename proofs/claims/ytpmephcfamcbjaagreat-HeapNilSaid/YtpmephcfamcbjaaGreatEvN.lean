/- An evaluator for runs: every operation is right. -/
import Derived.Test.YtpmephcfamcbjaaGreatEvM
namespace Go.Proofs.YtpmephcfamcbjaaGreat.Ev
open Go

section
variable {P : Program} {σ : Nat → Value} {ρ : Ren} {s s' : St} {w : World} {f : Fr} {a : Act} {o : Oper} {d : DOp}

theorem zero_spec {e : TypeId} {i : TypeInfo} (hi : P.info? e = some i) (h : ∃ l, zeroOf P e = some l) : ∃ z, i.zero = some z ∧ z.cells.size = i.size := by
  obtain ⟨l, hl⟩ := h
  obtain ⟨i', z, h1, h2, h3, h4⟩ := zeroOf_spec hl
  rw [hi] at h1; cases h1
  have := (h3 (fun _ => undef) (fun _ => none)).length
  exact ⟨z, h2, by simp at this; omega⟩
theorem runsTo_ofU {r : Result Next} {x : Option (DV × St)} (h : ∀ v s', x = some (v, s') → ∃ v' w' ρ', r = .ok (.value v') w' ∧ Rel σ ρ' s' w' ∧ Grow s.next s'.next ρ ρ' ∧ Fram ρ ρ' w w' ∧ VRel σ ρ' v v') : RunsTo σ ρ s w r (Res.ofU x) := by
  cases x with
  | none => trivial
  | some p =>
    obtain ⟨v, s'⟩ := p
    obtain ⟨v', w', ρ', h1, h2, h3, h4, h5⟩ := h v s' rfl
    exact ⟨_, v', w', ρ', h1, .inl rfl, h2, h3, h4, h5⟩
theorem s_app {c : Call} {ty ty2 e : TypeId} {i : TypeInfo} {d2 : TypeDesc} {x y : Operand} {x' y' : DO} (hop : o.op = .call c) (hb : c.callee = .builtin .append) (hargs : c.args = #[x, y]) (h1 : opd x = some x') (h2 : opd y = some y')
    (h0 : c.argTypes[0]? = some ty) (ht : P.underlying ty = some (.slice e)) (hi : P.info? e = some i) (hz : ∃ l, zeroOf P e = some l) (hpos : 0 < i.size) (h3 : c.argTypes[1]? = some ty2) (h4 : P.underlying ty2 = some d2) (h5 : ∀ k, d2 ≠ .int k)
    (R : Rel σ ρ s w) (hx : ORel σ ρ f a x) (hy : ORel σ ρ f a y) : RunsTo σ ρ s w ((execOp a.eval o).run P w) (sem1 (.app i.size i.bytes x' y') f s) := by
  obtain ⟨cs, hex⟩ := exec_builtin (a := a) hop hb
  obtain ⟨z, hz1, hz2⟩ := zero_spec hi hz
  rw [hex]
  simp only [sem1]
  split
  case h_2 => trivial
  rename_i av hav
  split
  case h_2 => trivial
  rename_i xv hxv
  split
  case h_2 => trivial
  rename_i new m hfs
  refine runsTo_ofU fun v s' hd => ?_
  obtain ⟨cl, g1, g2, g3, g4, g5⟩ := fromS_sound (P := P) R hfs (hy _ _ h2 hxv)
  have hA : Apps P c.argTypes e (a.eval y) w m cl := ⟨ty2, d2, h3, h4, .inl ⟨h5, g4, fun w' hw i' hi' => by rw [hi] at hi'; cases hi'; exact g5 w' hw⟩⟩
  obtain ⟨v', w', ρ', k1, k2⟩ := app_core (ty := o.type) h0 ht hi hz1 hz2 hpos R hA g1 g2 g3 (hx _ _ h1 hav) hd
  refine ⟨v', w', ρ', ?_, k2⟩
  simp only [builtin, hargs, List.map_toArray, List.map_cons, List.map_nil, Sem.run_bind]
  simp [k1]
theorem s_appz {c : Call} {ty ty2 e : TypeId} {i : TypeInfo} {k0 : IntKind} {z : List DV} {x y : Operand} {x' y' : DO} (hop : o.op = .call c) (hb : c.callee = .builtin .append) (hargs : c.args = #[x, y]) (h1 : opd x = some x') (h2 : opd y = some y')
    (h0 : c.argTypes[0]? = some ty) (ht : P.underlying ty = some (.slice e)) (hi : P.info? e = some i) (hz : zeroOf P e = some z) (hpos : 0 < i.size) (h3 : c.argTypes[1]? = some ty2) (h4 : P.underlying ty2 = some (.int k0))
    (R : Rel σ ρ s w) (hx : ORel σ ρ f a x) (hy : ORel σ ρ f a y) : RunsTo σ ρ s w ((execOp a.eval o).run P w) (sem1 (.appz i.size i.bytes z x' y') f s) := by
  obtain ⟨cs, hex⟩ := exec_builtin (a := a) hop hb
  obtain ⟨i', zv, q1, q2, q3, q4⟩ := zeroOf_spec hz
  rw [hi] at q1; cases q1
  have hzl := (q3 σ ρ).length
  simp only [Array.length_toList] at hzl
  have hz2 : zv.cells.size = i.size := by omega
  rw [hex]
  simp only [sem1]
  split
  case h_2 => trivial
  rename_i av hav
  split
  case h_2 => trivial
  rename_i xv hxv
  split
  case h_2 => trivial
  rename_i m hm
  split
  case isFalse => trivial
  rename_i hh
  refine runsTo_ofU fun v s' hd => ?_
  obtain ⟨k2, hk2⟩ := (hy _ _ h2 hxv).toNat hm
  have hrows : VRels σ ρ (rep m z) (Builtin.zeroCells zv.cells m).toList := by
    refine rep_rel (N := m * i.size) (q3 σ ρ) (by rw [zeroCells_size, hz2]) (by rw [q4]) fun j hj => ?_
    have := made_get (z := zv.cells) (n := m * zv.cells.size) (i := j) (by omega) (by rw [hz2]; exact hj)
    exact this
  have hA : Apps P c.argTypes e (a.eval y) w m (Builtin.zeroCells zv.cells m).toList := ⟨ty2, .int k0, h3, h4, .inr ⟨k0, k2, rfl, hk2, hh.2, fun i' z' hi' hz' => by
    rw [hi] at hi'; cases hi'; rw [q2] at hz'; cases hz'
    refine ⟨?_, ?_⟩
    · split
      · rename_i h0
        rw [← hz2] at h0
        apply Array.ext'
        rw [Array.toArray_toList]
        have : (Builtin.zeroCells zv.cells m).size = 0 := by rw [zeroCells_size]; exact h0
        rw [Array.size_eq_zero_iff.1 this]
      · simp
    · have hb : i.bytes * m ≤ 1073741824 := by rw [Nat.mul_comm]; exact hh.1
      have h2 : ((i.bytes * m : Nat) : Int) ≤ 1073741824 := by omega
      rw [Int.natCast_mul] at h2; exact h2⟩⟩
  obtain ⟨v', w', ρ', k1, k2⟩ := app_core (ty := o.type) h0 ht hi q2 hz2 hpos R hA hrows (hrows.oneAll (rep_one _ _ (zeroOf_oneAll hz))) (by simp [zeroCells_size, hz2]) (hx _ _ h1 hav) hd
  refine ⟨v', w', ρ', ?_, k2⟩
  simp only [builtin, hargs, List.map_toArray, List.map_cons, List.map_nil, Sem.run_bind]
  simp [k1]
theorem s_callf {c : Call} {g : Nat} {fn : Func} {cd : Code} {ds : List DO} (hop : o.op = .call c) (hb : c.callee = .value (.func g)) (hfn : P.funcs[g]? = some fn) (hname : fn.name ≠ "runtime.NumGoroutine") (hbody : fn.body = some cd) (hds : opds c.args.toList = some ds)
    (hx : ∀ x ∈ c.args, ORel σ ρ f a x) : RunsTo σ ρ s w ((execOp a.eval o).run P w) (sem1 (.call g ds) f s) := by
  simp only [sem1]
  split
  case h_2 => trivial
  rename_i vs hvs
  have hr := opds_rel hds hvs fun x h => hx x (by simpa using h)
  refine ⟨c.args.map a.eval, ?_, by simpa using hr⟩
  have hn : (fn.name == "runtime.NumGoroutine") = false := by simpa using hname
  have hev : a.eval (.func g) = .func (.func g) #[] #[] := rfl
  simp [execOp, hop, resolve, hb, hev, Deferred.ofValue, invoke, callFunc, hfn, hname, hbody]
theorem s_callv {c : Call} {x : Operand} {x' : DO} {ds : List DO} (hfuns : ∀ (g : Nat) (fn : Func), P.funcs[g]? = some fn → fn.name ≠ "runtime.NumGoroutine") (hop : o.op = .call c) (hb : c.callee = .value x) (hx1 : opd x = some x') (hds : opds c.args.toList = some ds)
    (hxr : ORel σ ρ f a x) (hx : ∀ x ∈ c.args, ORel σ ρ f a x) (hbodies : ∀ g vs, sem1 (.callv x' ds) f s = .call g vs → ∃ fn cd, P.funcs[g]? = some fn ∧ fn.body = some cd) : RunsTo σ ρ s w ((execOp a.eval o).run P w) (sem1 (.callv x' ds) f s) := by
  revert hbodies
  simp only [sem1]
  split
  case h_2 => intro _; trivial
  rename_i g fi ca hg
  split
  case h_2 => intro _; trivial
  rename_i vs hvs
  intro hbodies
  obtain ⟨fn, cd, hfn, hbody⟩ := hbodies g _ rfl
  have hname := hfuns g fn hfn
  have hr := opds_rel hds hvs fun x h => hx x (by simpa using h)
  have hf := hxr _ _ hx1 hg
  rw [VRel] at hf
  obtain ⟨i', c', he, h2, h3⟩ := hf
  refine ⟨(i' ++ c.args.map a.eval) ++ c', ?_, ?_⟩
  · simp [execOp, hop, resolve, hb, he, Deferred.ofValue, invoke, callFunc, hfn, hname, hbody]
  · simpa using (h2.append hr).append h3

/-- what is asked of the program: no function of the name that asks for the number of goroutines -/
def NoGor (P : Program) : Prop := ∀ (g : Nat) (fn : Func), P.funcs[g]? = some fn → fn.name ≠ "runtime.NumGoroutine"
theorem op_sound (hP : NoGor P) (hc : compOp P o = some d) (R : Rel σ ρ s w) (hx : ∀ x ∈ o.op.operands, ORel σ ρ f a x) (hbodies : ∀ g vs, sem1 d f s = .call g vs → ∃ fn cd, P.funcs[g]? = some fn ∧ fn.body = some cd) : RunsTo σ ρ s w ((execOp a.eval o).run P w) (sem1 d f s) := by
  cases hop : o.op with
  | move x => exact s_move (.inl hop) hc (hx x (by simp [hop, Op.operands]))
  | assign x => exact s_move (.inr hop) hc (hx x (by simp [hop, Op.operands]))
  | pick c x y => exact s_pick hop hc (hx c (by simp [hop, Op.operands])) (hx x (by simp [hop, Op.operands])) (hx y (by simp [hop, Op.operands]))
  | alloc e => exact s_alloc hop hc
  | box e x => exact s_box hop hc (hx x (by simp [hop, Op.operands]))
  | build t ps => exact s_build hop hc fun p hp => hx p.2 (by simp only [hop, Op.operands]; simp; exact ⟨p.1, hp⟩)
  | buildSlice t n ps => exact s_bslc hop hc fun p hp => hx p.2 (by simp only [hop, Op.operands]; simp; exact ⟨p.1, hp⟩)
  | load t x => exact s_load hop hc R (hx x (by simp [hop, Op.operands]))
  | store t x y => exact s_store hop hc R (hx x (by simp [hop, Op.operands])) (hx y (by simp [hop, Op.operands]))
  | nilCheck x => exact s_nilck hop hc (hx x (by simp [hop, Op.operands]))
  | binOp op t x y t2 => exact s_bin hop hc (hx x (by simp [hop, Op.operands])) (hx y (by simp [hop, Op.operands]))
  | unOp op t x => exact s_un hop hc (hx x (by simp [hop, Op.operands]))
  | convert t1 t2 x => exact s_conv hop hc R (hx x (by simp [hop, Op.operands]))
  | makeFunc fn fi ca =>
    cases fn with
    | func g => exact s_mkfn hop hc (fun x h => hx x (by simp [hop, Op.operands, h])) (fun x h => hx x (by simp [hop, Op.operands, h]))
    | _ => simp [compOp, hop] at hc
  | makeMap t r =>
    cases r with
    | none => exact s_mkmap hop hc
    | some _ => simp [compOp, hop] at hc
  | makeSlice t x y => exact s_mkslc hop hc (hx x (by simp [hop, Op.operands])) (hx y (by simp [hop, Op.operands]))
  | slice t x lo hi mx =>
    cases mx with
    | none => exact s_slice hop hc (hx x (by simp [hop, Op.operands])) (fun z hz => hx z (by simp [hop, Op.operands, hz])) (fun z hz => hx z (by simp [hop, Op.operands, hz]))
    | some _ => simp [compOp, hop] at hc
  | fieldAddr t x i => exact s_fa hop hc (hx x (by simp [hop, Op.operands]))
  | field t x i => exact s_fld hop hc (hx x (by simp [hop, Op.operands]))
  | indexAddr t x y => exact s_ia hop hc (hx x (by simp [hop, Op.operands])) (hx y (by simp [hop, Op.operands]))
  | index t x y => exact s_idx hop hc (hx x (by simp [hop, Op.operands])) (hx y (by simp [hop, Op.operands]))
  | lookup t x y ok => exact s_lk hop hc R (hx x (by simp [hop, Op.operands])) (hx y (by simp [hop, Op.operands]))
  | mapUpdate t m k v => exact s_mu (.inl hop) hc R (hx m (by simp [hop, Op.operands])) (hx k (by simp [hop, Op.operands])) (hx v (by simp [hop, Op.operands]))
  | insert t m k v => exact s_mu (.inr hop) hc R (hx m (by simp [hop, Op.operands])) (hx k (by simp [hop, Op.operands])) (hx v (by simp [hop, Op.operands]))
  | range t x => exact s_rngS hop hc (hx x (by simp [hop, Op.operands]))
  | next x b =>
    cases b with
    | true => exact s_nxtS hop hc R (hx x (by simp [hop, Op.operands]))
    | false => simp [compOp, hop] at hc
  | extract x i => exact s_ext hop hc (hx x (by simp [hop, Op.operands]))
  | call c =>
    have hargs : ∀ x ∈ c.args, ORel σ ρ f a x := fun x h => hx x (by simp [hop, Op.operands, Call.operands, h])
    simp only [compOp, hop] at hc
    split at hc
    case h_2 => cases hc
    rename_i ds hds
    split at hc
    · rename_i g hcal
      split at hc
      · rename_i fn hfn
        split at hc
        · cases hc
        · split at hc
          · rename_i cd hcd
            cases hc
            exact s_callf hop hcal hfn (hP g fn hfn) hcd hds hargs
          · cases hc
      · cases hc
    · rename_i x hne hcal
      split at hc
      · rename_i x' hx'
        cases hc
        exact s_callv hP hop hcal hx' hds (hx x (by simp [hop, Op.operands, Call.operands, hcal])) hargs hbodies
      · cases hc
    · cases hc
    · rename_i b hcal
      split at hc
      case h_2 => cases hc
      rename_i ty hty
      split at hc
      · rename_i x' hu
        cases hc
        obtain ⟨x, h1, h2⟩ := opds1 hds
        exact s_len hop hcal hty h1 h2 (.inl ⟨rfl, hu⟩) R (hargs x (by simp [h1]))
      · rename_i e x' hu
        cases hc
        obtain ⟨x, h1, h2⟩ := opds1 hds
        exact s_len hop hcal hty h1 h2 (.inr (.inl ⟨rfl, _, hu⟩)) R (hargs x (by simp [h1]))
      · rename_i k e x' hu
        cases hc
        obtain ⟨x, h1, h2⟩ := opds1 hds
        exact s_len hop hcal hty h1 h2 (.inr (.inr ⟨rfl, _, _, hu⟩)) R (hargs x (by simp [h1]))
      · rename_i e x' y' hu
        obtain ⟨x, y, h1, h2, h3⟩ := opds2 hds
        split at hc
        case h_2 => cases hc
        rename_i i ty2 hi hty2
        split at hc
        · rename_i e2 hu2
          split at hc
          case isFalse => cases hc
          rename_i hpos
          split at hc
          case h_2 => cases hc
          rename_i z hz
          cases hc
          exact s_app hop hcal h1 h2 h3 hty hu hi ⟨z, hz⟩ hpos hty2 hu2 (by intro k h; cases h) R (hargs x (by simp [h1])) (hargs y (by simp [h1]))
        · rename_i hu2
          split at hc
          case isFalse => cases hc
          rename_i hpos
          split at hc
          case h_2 => cases hc
          rename_i z hz
          cases hc
          exact s_app hop hcal h1 h2 h3 hty hu hi ⟨z, hz⟩ hpos hty2 hu2 (by intro k h; cases h) R (hargs x (by simp [h1])) (hargs y (by simp [h1]))
        · rename_i k hu2
          split at hc
          case h_2 => cases hc
          rename_i z hz
          split at hc
          case isFalse => cases hc
          rename_i hpos
          cases hc
          exact s_appz hop hcal h1 h2 h3 hty hu hi hz hpos hty2 hu2 R (hargs x (by simp [h1])) (hargs y (by simp [h1]))
        · cases hc
      · rename_i k x' y' hu
        cases hc
        obtain ⟨x, y, h1, h2, h3⟩ := opds2 hds
        exact s_minmax (mx := false) hop hcal h1 h2 h3 (hargs x (by simp [h1])) (hargs y (by simp [h1]))
      · rename_i k x' y' hu
        cases hc
        obtain ⟨x, y, h1, h2, h3⟩ := opds2 hds
        exact s_minmax (mx := true) hop hcal h1 h2 h3 (hargs x (by simp [h1])) (hargs y (by simp [h1]))
      · rename_i kt e m' k' hu
        split at hc
        case h_2 => cases hc
        rename_i kk hkk
        cases hc
        obtain ⟨x, y, h1, h2, h3⟩ := opds2 hds
        exact s_del hop hcal hty h1 h2 h3 hu hkk R (hargs x (by simp [h1])) (hargs y (by simp [h1]))
      · cases hc
  | _ => simp [compOp, hop] at hc
end
end Go.Proofs.YtpmephcfamcbjaaGreat.Ev
