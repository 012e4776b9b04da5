/- An evaluator for runs: loads, stores, new blocks. -/
import Derived.Test.YtpmephcfamcbjaaGreatEvC
import Derived.Laws.CopyRow
import Derived.Laws.Rows
import Derived.ChangeKeysEq
namespace Go.Proofs.YtpmephcfamcbjaaGreat.Ev
open Go

section
variable {σ : Nat → Value} {ρ ρ' : Ren} {s s' : St} {w : World}

theorem getCells_eq : ∀ {n : Nat} {l r : List DV}, getCells n l = some r → r = l.take n ∧ n ≤ l.length
  | 0, l, r, h => by simp [getCells] at h; subst h; simp
  | n + 1, [], r, h => by simp [getCells] at h
  | n + 1, x :: l, r, h => by
    simp only [getCells] at h
    split at h
    · rename_i r' hr
      cases h
      obtain ⟨h1, h2⟩ := getCells_eq hr
      subst h1
      simp; omega
    · cases h
theorem take_get {α : Type} {l : List α} {n i : Nat} (h : i < n) : (l.take n)[i]? = l[i]? := by
  rw [List.getElem?_take, if_pos h]
/-- what a load reads -/
theorem Rel.load (R : Rel σ ρ s w) {b o n B d N : Nat} {l : List DV} (hb : ρ b = some (B, d, N)) (h : loadN s b o n = some l) :
    ∃ cs : List Value, VRels σ ρ l cs ∧ cs.length = n ∧ (∀ y ∈ cs, y.oneCell' = true) ∧ ∀ j v, cs[j]? = some v → w.cell? ⟨B, d + o + j, none⟩ = some v := by
  unfold loadN at h
  split at h
  · rename_i m hm
    obtain ⟨cs, ty, h1, h2, h3, h4⟩ := R.blk b B d N _ hb hm
    obtain ⟨e1, e2⟩ := getCells_eq h
    have hlen : o + n ≤ m.length ∨ n = 0 := by simp at e2; omega
    rcases Nat.eq_zero_or_pos n with hn | hn
    · subst hn; simp at e1; subst e1
      exact ⟨[], VRels.nil, rfl, by simp, by simp⟩
    have hl : l.length = n := by rw [e1]; simp; omega
    have hsz : d + o + n ≤ cs.size := by omega
    refine ⟨(cs.toList.drop (d + o)).take n, VRels.of_get ?_ ?_, by simp; omega, ?_, ?_⟩
    · rw [hl]; simp; omega
    · intro i x y hx hy
      have hi : i < n := by rw [← hl]; exact (List.getElem?_eq_some_iff.1 hx).1
      rw [e1, take_get hi, List.getElem?_drop] at hx
      rw [take_get hi, List.getElem?_drop] at hy
      obtain ⟨c, h5, h6, h7⟩ := h4 _ _ hx
      rw [Array.getElem?_toList, Nat.add_assoc, h5] at hy
      cases hy; exact h6
    · intro y hy
      obtain ⟨i, hi⟩ := List.getElem?_of_mem hy
      have hin : i < n := by
        have := (List.getElem?_eq_some_iff.1 hi).1
        simp at this; omega
      rw [take_get hin, List.getElem?_drop] at hi
      have hx : ∃ x, m[o + i]? = some x := ⟨m[o + i]'(by omega), List.getElem?_eq_getElem _⟩
      obtain ⟨x, hx⟩ := hx
      obtain ⟨c, h5, h6, h7⟩ := h4 _ _ hx
      rw [Array.getElem?_toList, Nat.add_assoc, h5] at hi
      cases hi; exact h7
    · intro j v hj
      have hin : j < n := by
        have := (List.getElem?_eq_some_iff.1 hj).1
        simp at this; omega
      rw [take_get hin, List.getElem?_drop, Array.getElem?_toList] at hj
      unfold World.cell?
      simp [h1, hj]
  · cases h

theorem storeL_eq : ∀ {l : List DV} {o : Nat} {vs r : List DV}, storeL l o vs = some r → r.length = l.length ∧ (vs = [] ∨ o + vs.length ≤ l.length) ∧ ∀ i x, r[i]? = some x → (o ≤ i ∧ i < o + vs.length ∧ vs[i - o]? = some x) ∨ ((i < o ∨ o + vs.length ≤ i) ∧ l[i]? = some x)
  | l, 0, [], r, h => by
    have : r = l := by cases l <;> simp [storeL] at h <;> simp [h]
    subst this
    exact ⟨rfl, .inl rfl, fun i x hx => .inr ⟨.inr (by simp), hx⟩⟩
  | [], 0, _ :: _, r, h => by simp [storeL] at h
  | y :: l, 0, v :: vs, r, h => by
    simp only [storeL] at h
    split at h
    · rename_i r' hr
      cases h
      obtain ⟨h1, h2, h3⟩ := storeL_eq hr
      refine ⟨by simp [h1], .inr ?_, ?_⟩
      · rcases h2 with rfl | h2 <;> simp <;> omega
      · intro i x hx
        cases i with
        | zero => left; simp at hx ⊢; exact hx
        | succ i =>
          simp only [List.getElem?_cons_succ] at hx
          rcases h3 i x hx with ⟨_, h5, h6⟩ | ⟨h5, h6⟩
          · left; refine ⟨by omega, by simp; omega, by simpa using h6⟩
          · right; refine ⟨?_, by simpa using h6⟩; simp; omega
    · cases h
  | [], o + 1, [], r, h => by simp [storeL] at h; subst h; exact ⟨rfl, .inl rfl, by simp⟩
  | [], o + 1, _ :: _, r, h => by simp [storeL] at h
  | y :: l, o + 1, vs, r, h => by
    simp only [storeL] at h
    split at h
    · rename_i r' hr
      cases h
      obtain ⟨h1, h2, h3⟩ := storeL_eq hr
      refine ⟨by simp [h1], ?_, ?_⟩
      · rcases h2 with h2 | h2
        · exact .inl h2
        · right; simp; omega
      · intro i x hx
        cases i with
        | zero => right; simp at hx ⊢; exact hx
        | succ i =>
          simp only [List.getElem?_cons_succ] at hx
          rcases h3 i x hx with ⟨h4, h5, h6⟩ | ⟨h5, h6⟩
          · left; exact ⟨by omega, by omega, by rw [show i + 1 - (o + 1) = i - o by omega]; exact h6⟩
          · right; refine ⟨by omega, by simpa using h6⟩
    · cases h

theorem Rel.blk_ne (R : Rel σ ρ s w) {b b' : Nat} {x x' : Nat × Nat × Nat} (h : ρ b = some x) (h' : ρ b' = some x') (hn : b ≠ b') (h1 : s.blk b ≠ none) (h2 : s.blk b' ≠ none) : x.1 ≠ x'.1 :=
  fun e => hn (R.inj b b' x x' h h' e h1 h2)
/-- a block changes, here and there -/
theorem Rel.change (R : Rel σ ρ s w) {b B d N : Nat} {c : Blk} {w' : World} (hb : ρ b = some (B, d, N)) (hlive : s.blk b ≠ none) (hsz : w'.heap.size = w.heap.size)
    (hoth : ∀ k, k ≠ B → w'.heap[k]? = w.heap[k]?) (hnew : BRel σ ρ c d N w'.heap[B]?) : Rel σ ρ (s.put b (some c)) w' := by
  refine ⟨fun b' B' d' N' h => ?_, fun b' B' d' N' x h hx => ?_, fun b' b'' x x' h h' e h1 h2 => ?_⟩
  · rw [hsz]; exact R.lt _ _ _ _ h
  · rcases blk_put hx with ⟨rfl, h2⟩ | ⟨h1, h2⟩
    · rw [hb] at h; cases h; cases h2; exact hnew
    · have := R.blk_ne hb h (Ne.symm h1) hlive (by rw [h2]; simp)
      rw [hoth B' (fun e => this (by simp [e]))]
      exact R.blk _ _ _ _ _ h h2
  · refine R.inj b' b'' x x' h h' e ?_ ?_
    · intro h0
      cases hc : (s.put b (some c)).blk b' with
      | none => exact h1 hc
      | some y => rcases blk_put hc with ⟨rfl, _⟩ | ⟨_, h3⟩
                  · exact hlive h0
                  · rw [h0] at h3; cases h3
    · intro h0
      cases hc : (s.put b (some c)).blk b'' with
      | none => exact h2 hc
      | some y => rcases blk_put hc with ⟨rfl, _⟩ | ⟨_, h3⟩
                  · exact hlive h0
                  · rw [h0] at h3; cases h3
theorem Fram.change {B : Nat} {w' : World} (hb : ∃ b d N, ρ b = some (B, d, N)) (h1 : w'.os = w.os) (h2 : w'.tape = w.tape) (h3 : w'.output = w.output) (hsz : w'.heap.size = w.heap.size)
    (hoth : ∀ k, k ≠ B → w'.heap[k]? = w.heap[k]?) : Fram ρ ρ w w' := by
  obtain ⟨b, d, N, hb⟩ := hb
  refine ⟨h1, h2, h3, by omega, fun k hk hn => hoth k ?_, fun b x h => .inl ⟨b, x, h, rfl⟩⟩
  rintro rfl
  exact hn b _ hb rfl
theorem storeN_next {b o : Nat} {vs : List DV} {s' : St} (h : storeN s b o vs = some s') : s'.next = s.next := by
  unfold storeN at h
  split at h
  · split at h
    · split at h
      · cases h; rfl
      · cases h
    · cases h
  · cases h
/-- cells are stored -/
theorem Rel.store {P : Program} (R : Rel σ ρ s w) {b o B d N : Nat} {vs : List DV} {cs : List Value} (hb : ρ b = some (B, d, N)) (h : storeN s b o vs = some s') (hv : VRels σ ρ vs cs) :
    ∃ w', (storeCells ⟨B, d + o, none⟩ cs).run P w = .ok () w' ∧ Rel σ ρ s' w' ∧ Fram ρ ρ w w' := by
  unfold storeN at h
  split at h
  case h_2 => cases h
  rename_i hone
  split at h
  case h_2 => cases h
  rename_i l hl
  split at h
  case h_2 => cases h
  rename_i r hr
  cases h
  obtain ⟨e1, e2, e3⟩ := storeL_eq hr
  have hlen := hv.length
  obtain ⟨cur, ty, h1, h2, h3, h4⟩ := R.blk b B d N _ hb hl
  have hc1 := hv.oneAll hone
  have key : ∀ w' : World, w'.heap.size = w.heap.size → (∀ k, k ≠ B → w'.heap[k]? = w.heap[k]?) → BRel σ ρ (.cells r) d N w'.heap[B]? → w'.os = w.os → w'.tape = w.tape → w'.output = w.output →
      Rel σ ρ (s.put b (some (.cells r))) w' ∧ Fram ρ ρ w w' := fun w' a1 a2 a3 a4 a5 a6 =>
    ⟨R.change hb (by rw [hl]; simp) a1 a2 a3, Fram.change ⟨b, d, N, hb⟩ a4 a5 a6 a1 a2⟩
  rcases e2 with rfl | e2
  · have : cs = [] := by cases cs with
      | nil => rfl
      | cons _ _ => simp at hlen
    subst this
    refine ⟨w, by simp [storeCells], key w rfl (fun _ _ => rfl) ?_ rfl rfl rfl⟩
    refine ⟨cur, ty, h1, h2, by omega, fun i x hx => ?_⟩
    rcases e3 i x hx with ⟨h5, h6, _⟩ | ⟨_, h6⟩
    · simp at h6; omega
    · exact h4 i x h6
  · have hst := run_storeCells_at (P := P) B (d + o) ty cs 0 cur w h1 (by omega) hc1
    refine ⟨_, hst, key _ (by simp) (fun k hk => setRow_other _ _ _ _ hk) ?_ rfl rfl rfl⟩
    refine ⟨_, ty, setRow_heap _ _ _ _ _ _ h1, ?_, by omega, fun i x hx => ?_⟩
    · simp; omega
    · rcases e3 i x hx with ⟨h5, h6, h7⟩ | ⟨h5, h6⟩
      · obtain ⟨y, hy, hxy⟩ := hv.get h7
        refine ⟨y, ?_, hxy, hc1 y (List.mem_of_getElem? hy)⟩
        rw [List.getElem?_toArray, List.append_assoc, List.getElem?_append_right (by simp; omega), List.getElem?_append_left (by simp; omega)]
        rw [show d + i - (List.take (d + o + 0) cur.toList).length = i - o by simp; omega]
        exact hy
      · obtain ⟨c, h7, h8, h9⟩ := h4 i x h6
        refine ⟨c, ?_, h8, h9⟩
        have hi : d + i < cur.size := (Array.getElem?_eq_some_iff.1 h7).1
        rw [List.getElem?_toArray, List.append_assoc]
        rcases h5 with h5 | h5
        · rw [List.getElem?_append_left (by simp; omega), take_get (by omega), Array.getElem?_toList]; exact h7
        · rw [List.getElem?_append_right (by simp; omega), List.getElem?_append_right (by simp; omega), List.getElem?_drop, Array.getElem?_toList, ← h7]
          congr 1
          simp; omega
/-- a new block, here and there -/
theorem Rel.new (R : Rel σ ρ s w) {c : Blk} {ob : Obj} {N : Nat} (hc : BRel σ ρ c 0 N (some ob)) :
    Rel σ (ext ρ s.next (w.heap.size, 0, N)) (s.new c) (w.alloc ob) ∧ Grow s.next (s.new c).next ρ (ext ρ s.next (w.heap.size, 0, N)) ∧ Fram ρ (ext ρ s.next (w.heap.size, 0, N)) w (w.alloc ob) := by
  have hsub : Sub ρ (ext ρ s.next (w.heap.size, 0, N)) := ext_sub R.none_of_next
  refine ⟨⟨fun b B d N' h => ?_, fun b B d N' x h hx => ?_, fun b b' x x' h h' e h1 h2 => ?_⟩, ⟨hsub, by simp [St.new], fun b hb => by unfold ext; rw [if_neg (by omega)]⟩, ⟨rfl, rfl, rfl, by simp, fun k hk _ => ?_, fun b x h => ?_⟩⟩
  · unfold ext at h
    split at h
    · cases h; subst b; exact ⟨by simp [St.new], by simp⟩
    · have := R.lt _ _ _ _ h; exact ⟨by simp [St.new]; omega, by simp; omega⟩
  · unfold ext at h
    rcases blk_new hx with ⟨rfl, h2⟩ | ⟨h1, h2⟩
    · rw [if_pos rfl] at h; cases h; subst h2
      have : (w.alloc ob).heap[w.heap.size]? = some ob := by show (w.heap.push ob)[w.heap.size]? = _; simp
      rw [this]; exact hc.sub hsub
    · rw [if_neg h1] at h
      have h3 := R.lt _ _ _ _ h
      have : (w.alloc ob).heap[B]? = w.heap[B]? := by show (w.heap.push ob)[B]? = _; rw [Array.getElem?_push, if_neg (by omega)]
      rw [this]; exact (R.blk _ _ _ _ _ h h2).sub hsub
  · have hold : ∀ b, b ≠ s.next → (s.new c).blk b ≠ none → s.blk b ≠ none := fun b hb h1 h0 => by
      cases hc : (s.new c).blk b with
      | none => exact h1 hc
      | some y => rcases blk_new hc with ⟨h3, _⟩ | ⟨_, h3⟩
                  · exact hb h3
                  · rw [h0] at h3; cases h3
    unfold ext at h h'
    by_cases e1 : b = s.next <;> by_cases e2 : b' = s.next
    · rw [e1, e2]
    · rw [if_pos e1] at h; rw [if_neg e2] at h'; cases h
      have := R.lt _ _ _ _ h'; simp at e; omega
    · rw [if_neg e1] at h; rw [if_pos e2] at h'; cases h'
      have := R.lt _ _ _ _ h; simp at e; omega
    · rw [if_neg e1] at h; rw [if_neg e2] at h'
      exact R.inj _ _ _ _ h h' e (hold _ e1 h1) (hold _ e2 h2)
  · show (w.heap.push ob)[k]? = _; rw [Array.getElem?_push, if_neg (by omega)]
  · unfold ext at h
    split at h
    · cases h; exact .inr (Nat.le_refl _)
    · exact .inl ⟨b, x, h, rfl⟩
/-- a block of which nothing is known any more; a new abstract block may take its place -/
theorem Rel.kill (R : Rel σ ρ s w) (b : Nat) : Rel σ ρ (s.put b none) w := by
  refine ⟨R.lt, fun b' B d N x h hx => ?_, fun b' b'' x x' h h' e h1 h2 => ?_⟩
  · rcases blk_put hx with ⟨_, h2⟩ | ⟨_, h2⟩
    · cases h2
    · exact R.blk _ _ _ _ _ h h2
  · refine R.inj b' b'' x x' h h' e ?_ ?_ <;> (intro h0)
    · cases hc : (s.put b none).blk b' with
      | none => exact h1 hc
      | some y => rcases blk_put hc with ⟨_, h3⟩ | ⟨_, h3⟩
                  · cases h3
                  · rw [h0] at h3; cases h3
    · cases hc : (s.put b none).blk b'' with
      | none => exact h2 hc
      | some y => rcases blk_put hc with ⟨_, h3⟩ | ⟨_, h3⟩
                  · cases h3
                  · rw [h0] at h3; cases h3
end
end Go.Proofs.YtpmephcfamcbjaaGreat.Ev
