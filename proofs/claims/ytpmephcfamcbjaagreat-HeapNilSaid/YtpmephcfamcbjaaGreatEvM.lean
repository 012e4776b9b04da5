/- An evaluator for runs: that each operation is right (9): append, calls; all of them. -/
import Derived.Test.YtpmephcfamcbjaaGreatEvL
namespace Go.Proofs.YtpmephcfamcbjaaGreat.Ev
open Go

section
variable {P : Program} {σ : Nat → Value} {ρ : Ren} {s s' : St} {w : World} {f : Fr} {a : Act} {o : Oper} {d : DOp}

theorem byteCells_rel : ∀ (bs : List UInt8), VRels σ ρ (byteCells (bs.map UInt8.toNat)) (bs.map fun b => .int .u8 (b.toNat : Int))
  | [] => VRels.nil
  | b :: bs => VRels.cons (by rw [VRel]; rfl) (byteCells_rel bs)
theorem fromS_sound (R : Rel σ ρ s w) {sz m : Nat} {xv : DV} {x : Value} {new : List DV} (h : fromS s sz xv = some (new, m)) (hx : VRel σ ρ xv x) :
    ∃ cs, VRels σ ρ new cs ∧ (∀ y ∈ cs, y.oneCell' = true) ∧ cs.length = m * sz ∧ (∀ w' : World, (Builtin.lenOf x).run P w' = .ok m w') ∧ ∀ w' : World, (∀ A, w'.cell? A = w.cell? A) → (Builtin.firstCells sz m x).run P w' = .ok cs.toArray w' := by
  unfold fromS at h
  split at h
  · cases h
    rw [VRel] at hx; subst hx
    exact ⟨[], VRels.nil, by simp, by simp, fun _ => rfl, fun _ _ => rfl⟩
  · split at h
    · rename_i b o n lo sz' ex hsz
      subst hsz
      split at h
      · rename_i l hl
        cases h
        rw [VRel] at hx
        obtain ⟨B, dd, N, o', c, hB, rfl, g1, g2, g3, g4, g5⟩ := hx
        obtain ⟨cs, h1, h2, h3, h4⟩ := R.load hB hl
        refine ⟨cs, h1, h3, h2, fun _ => rfl, fun w' hw => ?_⟩
        have := run_loadCells_list (P := P) w' ⟨B, o', none⟩ cs fun j v hj => by
          have hjl : j < cs.length := (List.getElem?_eq_some_iff.1 hj).1
          have hm0 : m ≠ 0 := by rintro rfl; simp at h2; subst h2; simp at hjl
          rw [addr_add, hw, g4 (by omega)]; exact h4 j v hj
        rw [h2] at this
        simpa [Builtin.firstCells] using this
      · cases h
    · cases h
  · split at h
    · rename_i l hsz
      subst hsz
      cases h
      rw [VRel] at hx
      obtain ⟨z, rfl, rfl⟩ := hx
      refine ⟨z.data.toList.map fun b => .int .u8 (b.toNat : Int), byteCells_rel _, by simp; intro y _; rfl, by simp, fun _ => by simp [Builtin.lenOf], fun w' _ => ?_⟩
      simp only [Builtin.firstCells, Sem.run_pure]
      congr 1
      apply Array.ext'
      simp
    · cases h
  · cases h
theorem zeroCells_size (z : Array Value) (n : Nat) : (Builtin.zeroCells z n).size = n * z.size := by simp [Builtin.zeroCells]
/-- a new row with more behind it -/
theorem BRel.more {l : List DV} {cs : List Value} {rest : Array Value} {ty : TypeId} (h : VRels σ ρ l cs) (h1 : ∀ y ∈ cs, y.oneCell' = true) : BRel σ ρ (.cells l) 0 (cs.length + rest.size) (some (.cells (cs.toArray ++ rest) ty (0, 0))) := by
  refine ⟨_, ty, rfl, by simp, by rw [h.length]; omega, fun i x hx => ?_⟩
  obtain ⟨y, hy, hxy⟩ := h.get hx
  have hi : i < cs.length := (List.getElem?_eq_some_iff.1 hy).1
  refine ⟨y, ?_, hxy, h1 y (List.mem_of_getElem? hy)⟩
  rw [Nat.zero_add, Array.getElem?_append_left (by simpa using hi)]
  simpa using hy
theorem app_core {at_ : Array TypeId} {ty t e : TypeId} {i : TypeInfo} {z : Value} {m : Nat} {x y : Value} {cs : List Value} {new : List DV} {av v : DV} (h0 : at_[0]? = some t) (ht : P.underlying t = some (.slice e)) (hi : P.info? e = some i) (hz : i.zero = some z) (hzs : z.cells.size = i.size) (hpos : 0 < i.size)
    (R : Rel σ ρ s w) (hA : Apps P at_ e y w m cs) (hnew : VRels σ ρ new cs) (hone : ∀ y ∈ cs, y.oneCell' = true) (hlen : cs.length = m * i.size) (hx : VRel σ ρ av x) (h : appD i.size i.bytes av new m s = some (v, s')) :
    ∃ v' w' ρ', (Builtin.append_ at_ ty #[x, y]).run P w = .ok v' w' ∧ Rel σ ρ' s' w' ∧ Grow s.next s'.next ρ ρ' ∧ Fram ρ ρ' w w' ∧ VRel σ ρ' v v' := by
  -- a new row
  have fresh : ∀ {base : Option Addr} {n c : Nat} {old : List Value} {oldD : List DV} {s1 : St}, x = .slice base n c → Rel σ ρ s1 w → VRels σ ρ oldD old → (∀ y ∈ old, y.oneCell' = true) → old.length = n * i.size →
      (∀ w' : World, (∀ A, w'.cell? A = w.cell? A) → (Builtin.firstCells i.size n (.slice base n c)).run P w' = .ok old.toArray w') → ¬ n + m ≤ c → (n + m) * i.bytes ≤ 1073741824 → n + m ≤ 1073741824 →
      ∃ v' w' ρ', (Builtin.append_ at_ ty #[x, y]).run P w = .ok v' w' ∧ Rel σ ρ' (s1.new (.cells (oldD ++ new))) w' ∧ Grow s1.next (s1.new (.cells (oldD ++ new))).next ρ ρ' ∧ Fram ρ ρ' w w' ∧ VRel σ ρ' (.slc s1.next 0 (n + m) (n + m) i.size false) v' := by
    intro base n c old oldD s1 hxe R1 ho ho1 hol hold hout hb hn
    subst hxe
    obtain ⟨nc, k1, k2⟩ := append_out h0 ht hi hz hA hold hout hb hn
    have hrel := ho.append hnew
    have hone2 : ∀ y ∈ old ++ cs, y.oneCell' = true := fun y hy => by rcases List.mem_append.1 hy with h | h; exact ho1 y h; exact hone y h
    have hB := BRel.more (rest := Builtin.zeroCells z.cells (nc - (n + m))) (ty := e) hrel hone2
    have R2 : Rel σ ρ s1 w.drew := R1.drew
    obtain ⟨k3, k4, k5⟩ := R2.new hB
    rw [show (old.toArray ++ cs.toArray : Array Value) = (old ++ cs).toArray by simp] at k2
    refine ⟨_, _, _, k2, ?_, k4, ⟨k5.os, k5.tape, k5.output, k5.size, k5.keep, k5.fresh⟩, ?_⟩
    · exact k3
    · rw [VRel]
      refine ⟨w.heap.size, 0, _, 0, nc, ext_self, rfl, Nat.le_refl _, k1, (fun h => by cases h), (fun _ => rfl), ?_⟩
      rw [zeroCells_size, hzs, List.length_append, hol, hlen, ← Nat.add_mul, ← Nat.add_mul]
      rw [show n + m + (nc - (n + m)) = nc by omega]; omega
  unfold appD at h
  split at h
  · rw [VRel] at hx
    subst hx
    split at h
    · rename_i hm
      cases h
      subst hm
      have := append_in (ty := ty) h0 ht hi hz (base := none) (n := 0) (c := 0) hA (by omega)
      exact ⟨.slice none 0 0, w, ρ, by simpa using this, R, Grow.refl _ _, Fram.refl _ _, by rw [VRel]⟩
    · split at h
      · rename_i hm hb
        cases h
        have := fresh (base := none) (n := 0) (c := 0) (old := []) (oldD := []) rfl R VRels.nil (by simp) (by simp) (fun w' _ => by simp [Builtin.firstCells]) (by omega) (by simpa using hb.1) (by simpa using hb.2)
        simpa using this
      · cases h
  · rename_i b oo n lo sz' ex
    split at h
    case isFalse => cases h
    rename_i hsz
    subst hsz
    have hx0 := hx
    rw [VRel] at hx
    obtain ⟨B, dd, N, o', c, hB, hxe, g1, g2, g3, g4, g5⟩ := hx
    split at h
    · rename_i hle
      split at h
      · rename_i s2 hs2
        cases h
        have hrun := append_in (ty := ty) h0 ht hi hz (base := some ⟨B, o', none⟩) (n := n) (c := c) hA (by omega)
        rw [← hxe] at hrun
        by_cases hm : m = 0
        · subst hm
          have hcs : cs = [] := List.eq_nil_of_length_eq_zero (by simpa using hlen)
          subst hcs
          have hn2 : new = [] := List.eq_nil_of_length_eq_zero (by simpa using hnew.length)
          subst hn2
          obtain ⟨w', k1, k2, k3⟩ := R.store (P := P) hB hs2 VRels.nil
          have hw : w' = w := by simp [storeCells] at k1; exact k1.symm
          subst hw
          refine ⟨.slice (some ⟨B, o', none⟩) (n + 0) c, w', ρ, by rw [hrun]; simp [storeCells], k2, Grow.eq (storeN_next hs2) _, k3, ?_⟩
          rw [VRel]; exact ⟨B, dd, N, o', c, hB, rfl, by omega, g2, g3, g4, g5⟩
        · obtain ⟨w', k1, k2, k3⟩ := R.store (P := P) hB hs2 hnew
          refine ⟨.slice (some ⟨B, o', none⟩) (n + m) c, w', ρ, ?_, k2, Grow.eq (storeN_next hs2) _, k3, ?_⟩
          · rw [hrun]
            have : (⟨B, o', none⟩ : Addr).add (n * i.size) = ⟨B, dd + (oo + n * i.size), none⟩ := by rw [addr_add, g4 (by omega), Nat.add_assoc]
            simp only [this, k1, Result.andThen_ok]
          · rw [VRel]; exact ⟨B, dd, N, o', c, hB, rfl, hle, g2, g3, g4, g5⟩
      · cases h
    · rename_i hnle
      split at h
      case isFalse => cases h
      rename_i hb
      split at h
      case h_2 => cases h
      rename_i old hold
      obtain ⟨cs0, q1, q2, q3, q4⟩ := R.load hB hold
      have hfc : ∀ w' : World, (∀ A, w'.cell? A = w.cell? A) → (Builtin.firstCells i.size n (.slice (some ⟨B, o', none⟩) n c)).run P w' = .ok cs0.toArray w' := fun w' hw => by
        have := run_loadCells_list (P := P) w' ⟨B, o', none⟩ cs0 fun j v hj => by
          have hjl : j < cs0.length := (List.getElem?_eq_some_iff.1 hj).1
          have hm0 : n ≠ 0 := by rintro rfl; simp at q2; subst q2; simp at hjl
          rw [addr_add, hw, g4 (by omega)]; exact q4 j v hj
        rw [q2] at this
        simpa [Builtin.firstCells] using this
      cases ex
      · simp only at h
        cases h
        by_cases hin : n + m ≤ c
        · -- the row is taken over where it lies
          have hrun := append_in (ty := ty) h0 ht hi hz (base := some ⟨B, o', none⟩) (n := n) (c := c) hA hin
          rw [← hxe] at hrun
          have hlive : ∃ l, s.blk b = some (.cells l) := by
            unfold loadN at hold
            split at hold
            · exact ⟨_, ‹_›⟩
            · cases hold
          obtain ⟨l, hl⟩ := hlive
          obtain ⟨cur, ty2, p1, p2, p3, p4⟩ := R.blk _ _ _ _ _ hB hl
          have hfit : o' + (n + m) * i.size ≤ cur.size := by
            have : (n + m) * i.size ≤ c * i.size := Nat.mul_le_mul_right _ hin
            omega
          have hmul : (n + m) * i.size = n * i.size + m * i.size := Nat.add_mul _ _ _
          have hst := run_storeCells_at (P := P) B (o' + n * i.size) ty2 cs 0 cur w p1 (by rw [hlen]; omega) hone
          simp only [Nat.add_zero] at hst
          refine ⟨.slice (some ⟨B, o', none⟩) (n + m) c, w.setRow B (cur.toList.take (o' + n * i.size) ++ cs ++ cur.toList.drop (o' + n * i.size + cs.length)).toArray, ext ρ s.next (B, o', N), ?_, ?_, ⟨ext_sub R.none_of_next, by simp [St.new, St.put], fun b0 hb0 => by unfold ext; rw [if_neg (by omega)]⟩, ?_, ?_⟩
          · rw [hrun]
            simp only [addr_add, hst, Result.andThen_ok]
          · have hsub : Sub ρ (ext ρ s.next (B, o', N)) := ext_sub R.none_of_next
            have hother : ∀ k, k ≠ B → (w.setRow B (cur.toList.take (o' + n * i.size) ++ cs ++ cur.toList.drop (o' + n * i.size + cs.length)).toArray).heap[k]? = w.heap[k]? := fun k hk => setRow_other _ _ _ _ hk
            have hRk := R.kill b
            have hnx : (s.put b none).next = s.next := rfl
            have hliveB : ∀ b' x', ρ b' = some x' → x'.1 = B → (s.put b none).blk b' = none := fun b' x' hb' he => by
              by_cases hbb : b' = b
              · subst hbb
                cases hq : (s.put b' none).blk b' with
                | none => rfl
                | some y => rcases blk_put hq with ⟨_, h3⟩ | ⟨h3, _⟩
                            · cases h3
                            · exact absurd rfl h3
              · cases hq : (s.put b none).blk b' with
                | none => rfl
                | some y =>
                  rcases blk_put hq with ⟨h3, _⟩ | ⟨_, h3⟩
                  · exact absurd h3 hbb
                  · exact absurd (R.inj b' b x' _ hb' hB he (by rw [h3]; simp) (by rw [hl]; simp)) hbb
            refine ⟨fun b' B' d' N' hb' => ?_, fun b' B' d' N' x' hb' hx' => ?_, fun b' b'' x1 x2 hb' hb'' he h1 h2 => ?_⟩
            · unfold ext at hb'
              split at hb'
              · cases hb'; subst b'; exact ⟨by simp [St.new, St.put], by simp; exact (R.lt _ _ _ _ hB).2⟩
              · have := R.lt _ _ _ _ hb'; exact ⟨by simp [St.new, St.put]; omega, by simp; omega⟩
            · rcases blk_new hx' with ⟨e1, e2⟩ | ⟨e1, e2⟩
              · subst e2
                rw [hnx] at e1
                unfold ext at hb'; rw [if_pos e1] at hb'; cases hb'
                have hrel := (q1.append hnew)
                refine ⟨_, ty2, setRow_heap _ _ _ _ _ _ p1, ?_, ?_, fun k u hk => ?_⟩
                · simp; rw [hlen]; omega
                · rw [hrel.length, List.length_append, q2, hlen, ← Nat.add_mul]; omega
                · obtain ⟨y, hy, hyr⟩ := hrel.get hk
                  refine ⟨y, ?_, hyr.sub hsub, ?_⟩
                  · have hkl : k < cs0.length + cs.length := by have := (List.getElem?_eq_some_iff.1 hy).1; simpa using this
                    rw [List.getElem?_toArray]
                    rcases Nat.lt_or_ge k cs0.length with hk1 | hk1
                    · rw [List.getElem?_append_left hk1] at hy
                      have hn0 : n ≠ 0 := by rintro rfl; simp at q2; subst q2; simp at hk1
                      have := q4 k y hy
                      rw [List.append_assoc, List.getElem?_append_left (by simp; omega), take_get (by omega), Array.getElem?_toList, g4 (by omega)]
                      unfold World.cell? at this
                      simpa [p1] using this
                    · rw [List.getElem?_append_right hk1] at hy
                      rw [List.append_assoc, List.getElem?_append_right (by simp; omega), List.getElem?_append_left (by simp; omega)]
                      rw [show o' + k - (List.take (o' + n * i.size) cur.toList).length = k - cs0.length by simp; omega]
                      exact hy
                  · have hm2 := List.mem_of_getElem? hy
                    rcases List.mem_append.1 hm2 with h | h
                    · exact q3 y h
                    · exact hone y h
              · have hne : b' ≠ s.next := e1
                unfold ext at hb'; rw [if_neg hne] at hb'
                have hBB : B' ≠ B := fun e => by rw [hliveB b' _ hb' e] at e2; cases e2
                rw [hother B' hBB]
                exact (hRk.blk _ _ _ _ _ hb' e2).sub hsub
            · have hold2 : ∀ b0, b0 ≠ s.next → ((s.put b none).new (.cells (old ++ new))).blk b0 ≠ none → (s.put b none).blk b0 ≠ none := fun b0 hb0 h1 h0 => by
                cases hc : ((s.put b none).new (.cells (old ++ new))).blk b0 with
                | none => exact h1 hc
                | some y => rcases blk_new hc with ⟨h3, _⟩ | ⟨_, h3⟩
                            · exact hb0 h3
                            · rw [h0] at h3; cases h3
              unfold ext at hb' hb''
              by_cases e1 : b' = s.next <;> by_cases e2 : b'' = s.next
              · rw [e1, e2]
              · rw [if_pos e1] at hb'; rw [if_neg e2] at hb''; cases hb'
                exact absurd (hliveB b'' _ hb'' he.symm) (hold2 _ e2 h2)
              · rw [if_neg e1] at hb'; rw [if_pos e2] at hb''; cases hb''
                exact absurd (hliveB b' _ hb' he) (hold2 _ e1 h1)
              · rw [if_neg e1] at hb'; rw [if_neg e2] at hb''
                exact hRk.inj _ _ _ _ hb' hb'' he (hold2 _ e1 h1) (hold2 _ e2 h2)
          · refine ⟨rfl, rfl, rfl, by simp, fun k hk hn => setRow_other _ _ _ _ (fun e => hn b _ hB e.symm), fun b' x' hb' => ?_⟩
            unfold ext at hb'
            split at hb'
            · cases hb'; exact .inl ⟨b, _, hB, rfl⟩
            · exact .inl ⟨b', x', hb', rfl⟩
          · rw [VRel]
            exact ⟨B, o', N, o', c, ext_self, rfl, Nat.le_refl _, hin, (fun h => by cases h), (fun _ => by omega), g5⟩
        · exact fresh hxe (R.kill b) q1 q3 q2 hfc hin hb.1 hb.2
      · simp only at h
        cases h
        have hcl := g3 rfl
        exact fresh hxe R q1 q3 q2 hfc (by omega) hb.1 hb.2
  · cases h
end
end Go.Proofs.YtpmephcfamcbjaaGreat.Ev
