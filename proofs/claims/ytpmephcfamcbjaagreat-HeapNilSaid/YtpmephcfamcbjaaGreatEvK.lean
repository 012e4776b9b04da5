/- An evaluator for runs: that each operation is right (7): slices. -/
import Derived.Test.YtpmephcfamcbjaaGreatEvJ
namespace Go.Proofs.YtpmephcfamcbjaaGreat.Ev
open Go

section
variable {P : Program} {σ : Nat → Value} {ρ : Ren} {s : St} {w : World} {f : Fr} {a : Act} {o : Oper} {d : DOp}

theorem made_get {z : Array Value} {n i : Nat} (hz : 0 < z.size) (hi : i < n) : ∃ v, (madeCells z n)[i]? = some v ∧ z[i % z.size]? = some v := by
  have hm : i % z.size < z.size := Nat.mod_lt _ hz
  refine ⟨z[i % z.size], ?_, by simp [hm]⟩
  simp only [madeCells, Array.getElem?_map, Array.getElem?_range, hi, if_true, Option.map_some]
  simp [hm]
theorem s_mkslc {t : TypeId} {x y : Operand} (hop : o.op = .makeSlice t x y) (hc : compOp P o = some d) (hx : ORel σ ρ f a x) (hy : ORel σ ρ f a y) : RunsTo σ ρ s w ((execOp a.eval o).run P w) (sem1 d f s) := by
  simp only [compOp, hop] at hc
  split at hc
  case h_2 => cases hc
  rename_i e e1
  split at hc
  case h_2 => cases hc
  rename_i x' y' h1 h2
  split at hc
  case h_2 => cases hc
  rename_i i z hi hz
  split at hc
  case isFalse => cases hc
  rename_i hpos
  cases hc
  obtain ⟨i', zv, h3, h4, h5, h6⟩ := zeroOf_spec hz
  rw [hi] at h3; cases h3
  simp only [sem1]
  split
  case h_2 => trivial
  rename_i l hl
  split
  case h_2 => trivial
  rename_i c hcc
  split
  case h_2 => trivial
  rename_i ln cn hln hcn
  split
  case isFalse => trivial
  rename_i hh
  obtain ⟨k1, g1⟩ := (hx _ _ h1 hl).toNat hln
  obtain ⟨k2, g2⟩ := (hy _ _ h2 hcc).toNat hcn
  have hzl := (h5 σ ρ).length
  simp only [Array.length_toList] at hzl
  have hrows : VRels σ ρ (rep cn z) (madeCells zv.cells (cn * i.size)).toList := rep_rel (N := cn * i.size) (h5 σ ρ) (by simp [madeCells]) (by rw [h6]) fun k hk => made_get (by omega) hk
  have hrun := run_make (P := P) w t e i zv e1 hi h4 k1 k2 ln cn (by omega) (by omega) (by
    have hb : i.bytes * cn ≤ 1073741824 := by rw [Nat.mul_comm]; exact hh.2.1
    have h2 : ((i.bytes * cn : Nat) : Int) ≤ 281474976710656 := by omega
    rw [Int.natCast_mul] at h2; exact h2) (by omega)
  refine ⟨.cells (madeCells zv.cells (cn * i.size)).toList.toArray e, .slice (some ⟨w.heap.size, 0, none⟩) ln cn, _, ?_, new_cells hrows (hrows.oneAll (rep_one _ _ (zeroOf_oneAll hz))), fun ρ' b hb _ => ?_⟩
  · simp only [Int.toNat_natCast] at hrun
    have ht : (madeCells zv.cells (cn * i.size)).toList.toArray = madeCells zv.cells (cn * i.size) := Array.toArray_toList
    rw [ht]
    simp only [execOp, hop, g1, g2, Sem.run_bind, hrun, Result.andThen_ok]
    rfl
  · rw [VRel]
    exact ⟨w.heap.size, 0, _, 0, cn, hb, rfl, hh.1, Nat.le_refl _, fun _ => rfl, fun _ => rfl, by simp [madeCells]⟩

theorem bnd_run {dflt : Nat} {x : Option DV} {h : Nat} (hb : bnd dflt x = some h) {y : Option Operand} {y' : Option DO} (hy : opdo y = some y') (hv : evo f y' = some x) (hr : ∀ z, y = some z → ORel σ ρ f a z) :
    (x = none ∧ y = none ∧ h = dflt) ∨ ∃ z k, y = some z ∧ a.eval z = .int k (h : Int) ∧ x ≠ none := by
  cases y with
  | none =>
    simp only [opdo] at hy; cases hy
    simp only [evo] at hv; cases hv
    simp only [bnd] at hb; cases hb
    exact .inl ⟨rfl, rfl, rfl⟩
  | some z =>
    simp only [opdo] at hy
    split at hy
    · rename_i z' hz'
      cases hy
      simp only [evo] at hv
      split at hv
      · rename_i v hv2
        cases hv
        simp only [bnd] at hb
        obtain ⟨k, hk⟩ := (hr z rfl _ _ hz' hv2).toNat hb
        exact .inr ⟨z, k, rfl, hk, by simp⟩
      · cases hv
    · cases hy
theorem bounds_run {isS : Bool} {n n' cap h l : Nat} {lo hi : Option DV} {ylo yhi : Option Operand} {ylo' yhi' : Option DO} (h1 : bnd n hi = some h) (h2 : bnd 0 lo = some l) (ho1 : opdo yhi = some yhi') (ho2 : opdo ylo = some ylo')
    (he1 : evo f yhi' = some hi) (he2 : evo f ylo' = some lo) (hr1 : ∀ z, yhi = some z → ORel σ ρ f a z) (hr2 : ∀ z, ylo = some z → ORel σ ρ f a z) (hle : l ≤ h) (hcap : h ≤ cap) (hn : n = n') :
    (Instr.sliceBounds isS n' cap (ylo.map a.eval) (yhi.map a.eval) none).run P w = .ok (l, h, cap) w := by
  subst hn
  rcases bnd_run h1 ho1 he1 hr1 with ⟨_, rfl, rfl⟩ | ⟨z, k, rfl, hz, _⟩ <;> rcases bnd_run h2 ho2 he2 hr2 with ⟨_, rfl, rfl⟩ | ⟨z', k', rfl, hz', _⟩
  · simp [Instr.sliceBounds]
  · simp [Instr.sliceBounds, Instr.sliceBound, hz', asIntOf, hle]
  · simp [Instr.sliceBounds, Instr.sliceBound, hz, asIntOf, hcap]
  · simp [Instr.sliceBounds, Instr.sliceBound, hz, hz', asIntOf, hle, hcap]
theorem s_slice {t : TypeId} {x : Operand} {ylo yhi : Option Operand} (hop : o.op = .slice t x ylo yhi none) (hc : compOp P o = some d) (hx : ORel σ ρ f a x) (hlo : ∀ z, ylo = some z → ORel σ ρ f a z) (hhi : ∀ z, yhi = some z → ORel σ ρ f a z) : RunsTo σ ρ s w ((execOp a.eval o).run P w) (sem1 d f s) := by
  simp only [compOp, hop] at hc
  split at hc
  case h_2 => cases hc
  rename_i x' lo' hi' h1 h2 h3
  split at hc
  · rename_i e1
    cases hc
    simp only [sem1]
    split
    case h_2 => trivial
    rename_i v hv
    split
    case h_2 => trivial
    rename_i lv hlv
    split
    case h_2 => trivial
    rename_i hv' hhv
    refine runsTo_ofV fun r hr => ?_
    have hxr := hx _ _ h1 hv
    unfold sliceD at hr
    split at hr
    · split at hr
      · rename_i l _ _ _ hh aa hb1 hb2
        split at hr
        · rename_i hcond
          cases hr
          rw [VRel] at hxr
          obtain ⟨z, he, hz⟩ := hxr
          have hsz : l.length = z.size := by rw [← hz]; simp
          have hb := bounds_run (P := P) (w := w) (isS := false) (cap := z.size) hb1 hb2 h3 h2 hhv hlv hhi hlo hcond.1 (by omega) hsz
          refine ⟨.string (z.extract aa hh), ?_, ?_⟩
          · simp [execOp, hop, Instr.sliceAt, Instr.slice, run_underlying e1, he, hb]
          · rw [VRel]; refine ⟨_, rfl, ?_⟩
            rw [← hz, ← List.map_take, ← List.map_drop]
            congr 1
            rw [ByteArray.data_extract]; simp [List.drop_take]
        · cases hr
      · cases hr
    all_goals (first | (rename_i heq; cases heq; done) | cases hr | skip)
    all_goals (split at hr <;> (try cases hr))
  · rename_i e e1
    split at hc
    case h_2 => cases hc
    rename_i i hi
    cases hc
    simp only [sem1]
    split
    case h_2 => trivial
    rename_i v hv
    split
    case h_2 => trivial
    rename_i lv hlv
    split
    case h_2 => trivial
    rename_i hv' hhv
    refine runsTo_ofV fun r hr => ?_
    have hxr := hx _ _ h1 hv
    unfold sliceD at hr
    split at hr
    · rename_i heq; cases heq
    · split at hr
      · rename_i hb1 hb2
        cases hr
        rw [VRel] at hxr
        have hb := bounds_run (P := P) (w := w) (isS := true) (cap := 0) hb1 hb2 h3 h2 hhv hlv hhi hlo (Nat.le_refl _) (Nat.le_refl _) rfl
        refine ⟨.slice none 0 0, ?_, by rw [VRel]⟩
        simp [execOp, hop, Instr.sliceAt, Instr.slice, run_underlying e1, hxr, hb, run_sizeOf' hi]
      · cases hr
    · split at hr
      · rename_i sz0 b oo n c sz' ex heq _ _ hh aa hb1 hb2
        cases heq
        split at hr
        · rename_i hcond
          obtain ⟨hc1, hc2, hc3⟩ := hcond
          rw [VRel] at hxr
          obtain ⟨B, dd, N, o', cc, hB, he, g1, g2, g3, g4, g5⟩ := hxr
          have hb := bounds_run (P := P) (w := w) (isS := true) (cap := cc) hb1 hb2 h3 h2 hhv hlv hhi hlo hc1 (by omega) rfl
          have hrun : (execOp a.eval o).run P w = .ok (.value (.slice (if cc = aa then some ⟨B, o', none⟩ else some ⟨B, o' + aa * i.size, none⟩) (hh - aa) (cc - aa))) w := by
            simp [execOp, hop, Instr.sliceAt, Instr.slice, run_underlying e1, he, hb, run_sizeOf' hi, addr_add]
          split at hr
          · rename_i hac
            cases hr
            have : hh - aa = 0 := by omega
            refine ⟨_, hrun, ?_⟩
            rw [this]
            by_cases hcc : cc = aa
            · rw [if_pos hcc, VRel]
              exact ⟨B, dd, N, o', cc - aa, hB, rfl, Nat.le_refl _, Nat.zero_le _, fun _ => by omega, fun h => absurd rfl h, by rw [show cc - aa = 0 by omega]; omega⟩
            · rw [if_neg hcc, VRel]
              refine ⟨B, dd, N, o' + aa * i.size, cc - aa, hB, rfl, Nat.le_refl _, Nat.zero_le _, fun h => by have := g3 h; omega, fun h => absurd rfl h, ?_⟩
              have : (cc - aa) * i.size = cc * i.size - aa * i.size := Nat.sub_mul _ _ _
              have : aa * i.size ≤ cc * i.size := Nat.mul_le_mul_right _ (by omega)
              rw [← hc3] at g5
              omega
          · rename_i hac
            cases hr
            refine ⟨_, hrun, ?_⟩
            rw [if_neg (by omega), VRel]
            refine ⟨B, dd, N, o' + aa * i.size, cc - aa, hB, rfl, by omega, by omega, fun h => by have := g3 h; omega, fun _ => by rw [g4 (by omega)]; omega, ?_⟩
            have : (cc - aa) * i.size = cc * i.size - aa * i.size := Nat.sub_mul _ _ _
            have : aa * i.size ≤ cc * i.size := Nat.mul_le_mul_right _ (by omega)
            rw [← hc3] at g5
            omega
        · cases hr
      · cases hr
    · cases hr
  · cases hc
end
end Go.Proofs.YtpmephcfamcbjaaGreat.Ev
