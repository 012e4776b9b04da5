/- An evaluator for runs: when abstract memory stands for memory. -/
import Derived.Test.YtpmephcfamcbjaaGreatEvB
namespace Go.Proofs.YtpmephcfamcbjaaGreat.Ev
open Go

/-- where the abstract blocks lie: block, offset of its first cell there, number of cells of the block there -/
abbrev Ren := Nat → Option (Nat × Nat × Nat)
mutual
def VRel (σ : Nat → Value) (ρ : Ren) : DV → Value → Prop
  | .bool b, v => v = .bool b
  | .int k n, v => v = .int k n
  | .str l, v => ∃ s : ByteArray, v = .string s ∧ s.data.toList.map UInt8.toNat = l
  | .nilp, v => v = .pointer none
  | .ptr b o, v => ∃ B d N, ρ b = some (B, d, N) ∧ v = .pointer (some ⟨B, d + o, none⟩)
  | .nils, v => v = .slice none 0 0
  | .slc b o n lo sz ex, v => ∃ B d N o' c, ρ b = some (B, d, N) ∧ v = .slice (some ⟨B, o', none⟩) n c ∧ n ≤ lo ∧ lo ≤ c ∧ (ex = true → c = lo) ∧ (lo ≠ 0 → o' = d + o) ∧ o' + c * sz ≤ N
  | .nilm, v => v = .map none
  | .mp b, v => ∃ B N, ρ b = some (B, 0, N) ∧ v = .map (some B)
  | .fn f i c, v => ∃ i' c', v = .func (.func f) i' c' ∧ VRels σ ρ i i'.toList ∧ VRels σ ρ c c'.toList
  | .nilf, v => v = .nilFunc
  | .ifc t x, v => ∃ y, v = .iface t y ∧ VRel σ ρ x y
  | .nili, v => v = .nilIface
  | .agg l, v => ∃ cs, v = .agg cs ∧ VRels σ ρ l cs.toList
  | .tup l, v => ∃ cs, v = .tuple cs ∧ VRels σ ρ l cs.toList
  | .opq i, v => v = σ i ∧ v.oneCell' = true
def VRels (σ : Nat → Value) (ρ : Ren) : List DV → List Value → Prop
  | [], l => l = []
  | x :: xs, l => ∃ y ys, l = y :: ys ∧ VRel σ ρ x y ∧ VRels σ ρ xs ys
end
def Sub (ρ ρ' : Ren) : Prop := ∀ b x, ρ b = some x → ρ' b = some x
theorem Sub.refl (ρ : Ren) : Sub ρ ρ := fun _ _ h => h
theorem Sub.trans {a b c : Ren} (h : Sub a b) (k : Sub b c) : Sub a c := fun _ _ e => k _ _ (h _ _ e)

/-- more abstract blocks lie somewhere; those that are numbered from n on, below n' -/
def Grow (n n' : Nat) (ρ ρ' : Ren) : Prop := Sub ρ ρ' ∧ n ≤ n' ∧ ∀ b, b < n → ρ' b = ρ b
theorem Grow.refl (n : Nat) (ρ : Ren) : Grow n n ρ ρ := ⟨Sub.refl _, Nat.le_refl _, fun _ _ => rfl⟩
theorem Grow.eq {n n' : Nat} (h : n' = n) (ρ : Ren) : Grow n n' ρ ρ := by subst h; exact Grow.refl _ _
theorem Grow.trans {n n' n'' : Nat} {a b c : Ren} (h : Grow n n' a b) (k : Grow n' n'' b c) : Grow n n'' a c := ⟨h.1.trans k.1, Nat.le_trans h.2.1 k.2.1, fun x hx => (k.2.2 x (Nat.lt_of_lt_of_le hx h.2.1)).trans (h.2.2 x hx)⟩
section
variable {σ : Nat → Value} {ρ ρ' : Ren}
mutual
theorem VRel.sub (hs : Sub ρ ρ') : ∀ {x : DV} {v : Value}, VRel σ ρ x v → VRel σ ρ' x v
  | .bool _, _, h => h
  | .int _ _, _, h => h
  | .str _, _, h => h
  | .nilp, _, h => h
  | .ptr _ _, _, h => by rw [VRel] at h ⊢; obtain ⟨B, d, N, h1, h2⟩ := h; exact ⟨B, d, N, hs _ _ h1, h2⟩
  | .nils, _, h => h
  | .slc _ _ _ _ _ _, _, h => by rw [VRel] at h ⊢; obtain ⟨B, d, N, o', c, h1, h2⟩ := h; exact ⟨B, d, N, o', c, hs _ _ h1, h2⟩
  | .nilm, _, h => h
  | .mp _, _, h => by rw [VRel] at h ⊢; obtain ⟨B, N, h1, h2⟩ := h; exact ⟨B, N, hs _ _ h1, h2⟩
  | .fn _ _ _, _, h => by rw [VRel] at h ⊢; obtain ⟨i, c, h1, h2, h3⟩ := h; exact ⟨i, c, h1, VRels.sub hs h2, VRels.sub hs h3⟩
  | .nilf, _, h => h
  | .ifc _ _, _, h => by rw [VRel] at h ⊢; obtain ⟨y, h1, h2⟩ := h; exact ⟨y, h1, VRel.sub hs h2⟩
  | .nili, _, h => h
  | .agg _, _, h => by rw [VRel] at h ⊢; obtain ⟨y, h1, h2⟩ := h; exact ⟨y, h1, VRels.sub hs h2⟩
  | .tup _, _, h => by rw [VRel] at h ⊢; obtain ⟨y, h1, h2⟩ := h; exact ⟨y, h1, VRels.sub hs h2⟩
  | .opq _, _, h => h
theorem VRels.sub (hs : Sub ρ ρ') : ∀ {x : List DV} {v : List Value}, VRels σ ρ x v → VRels σ ρ' x v
  | [], _, h => h
  | x :: xs, _, h => by rw [VRels] at h ⊢; obtain ⟨y, ys, h1, h2, h3⟩ := h; exact ⟨y, ys, h1, VRel.sub hs h2, VRels.sub hs h3⟩
end
theorem VRels.cons {x : DV} {y : Value} {xs : List DV} {ys : List Value} (h : VRel σ ρ x y) (k : VRels σ ρ xs ys) : VRels σ ρ (x :: xs) (y :: ys) := by
  rw [VRels]; exact ⟨y, ys, rfl, h, k⟩
theorem VRels.nil : VRels σ ρ [] [] := by rw [VRels]
theorem VRels.uncons {x : DV} {y : Value} {xs : List DV} {ys : List Value} (h : VRels σ ρ (x :: xs) (y :: ys)) : VRel σ ρ x y ∧ VRels σ ρ xs ys := by
  rw [VRels] at h; obtain ⟨_, _, e, h1, h2⟩ := h; cases e; exact ⟨h1, h2⟩
theorem VRels.length : ∀ {xs : List DV} {ys : List Value}, VRels σ ρ xs ys → xs.length = ys.length
  | [], _, h => by rw [VRels] at h; subst h; rfl
  | x :: xs, _, h => by rw [VRels] at h; obtain ⟨y, ys, rfl, _, h3⟩ := h; simp [VRels.length h3]
theorem VRels.append : ∀ {xs : List DV} {ys : List Value} {xs' : List DV} {ys' : List Value}, VRels σ ρ xs ys → VRels σ ρ xs' ys' → VRels σ ρ (xs ++ xs') (ys ++ ys')
  | [], _, _, _, h, k => by rw [VRels] at h; subst h; exact k
  | x :: xs, _, _, _, h, k => by rw [VRels] at h; obtain ⟨y, ys, rfl, h2, h3⟩ := h; exact VRels.cons h2 (VRels.append h3 k)
theorem VRels.get : ∀ {xs : List DV} {ys : List Value} {i : Nat} {x : DV}, VRels σ ρ xs ys → xs[i]? = some x → ∃ y, ys[i]? = some y ∧ VRel σ ρ x y
  | [], _, _, _, _, h => by simp at h
  | x :: xs, _, 0, _, h, k => by rw [VRels] at h; obtain ⟨y, ys, rfl, h2, h3⟩ := h; simp at k; subst k; exact ⟨y, rfl, h2⟩
  | x :: xs, _, i + 1, _, h, k => by
    rw [VRels] at h; obtain ⟨y, ys, rfl, h2, h3⟩ := h
    simp only [List.getElem?_cons_succ] at k ⊢
    exact VRels.get h3 k
theorem VRels.of_get : ∀ {xs : List DV} {ys : List Value}, xs.length = ys.length → (∀ (i : Nat) (x : DV) (y : Value), xs[i]? = some x → ys[i]? = some y → VRel σ ρ x y) → VRels σ ρ xs ys
  | [], [], _, _ => VRels.nil
  | [], _ :: _, h, _ => by simp at h
  | _ :: _, [], h, _ => by simp at h
  | x :: xs, y :: ys, h, k => VRels.cons (k 0 x y rfl rfl) (VRels.of_get (by simpa using h) fun i a b h1 h2 => k (i + 1) a b (by simpa using h1) (by simpa using h2))
theorem VRels.take {xs : List DV} {ys : List Value} (h : VRels σ ρ xs ys) (n : Nat) : VRels σ ρ (xs.take n) (ys.take n) := by
  induction n generalizing xs ys with
  | zero => simpa using VRels.nil
  | succ n ih => cases xs with
    | nil => rw [VRels] at h; subst h; simpa using VRels.nil
    | cons x xs => rw [VRels] at h; obtain ⟨y, ys, rfl, h2, h3⟩ := h; exact VRels.cons h2 (ih h3)
theorem VRels.drop {xs : List DV} {ys : List Value} (h : VRels σ ρ xs ys) (n : Nat) : VRels σ ρ (xs.drop n) (ys.drop n) := by
  induction n generalizing xs ys with
  | zero => simpa using h
  | succ n ih => cases xs with
    | nil => rw [VRels] at h; subst h; simpa using VRels.nil
    | cons x xs => rw [VRels] at h; obtain ⟨y, ys, rfl, h2, h3⟩ := h; exact ih h3
theorem VRel.one {x : DV} {v : Value} (h : VRel σ ρ x v) (hx : x.one = true) : v.oneCell' = true ∧ v.cells = #[v] := by
  cases x <;> simp only [DV.one] at hx <;> (try cases hx)
  all_goals (first
    | (rw [VRel] at h; subst h; exact ⟨rfl, rfl⟩)
    | (rw [VRel] at h; obtain ⟨_, rfl, _⟩ := h; exact ⟨rfl, rfl⟩)
    | (rw [VRel] at h; obtain ⟨_, _, rfl, _⟩ := h; exact ⟨rfl, rfl⟩)
    | (rw [VRel] at h; obtain ⟨_, _, _, rfl⟩ := h; exact ⟨rfl, rfl⟩)
    | (rw [VRel] at h; obtain ⟨_, _, _, _, rfl⟩ := h; exact ⟨rfl, rfl⟩)
    | (rw [VRel] at h; obtain ⟨_, _, _, _, _, _, rfl, _⟩ := h; exact ⟨rfl, rfl⟩)
    | (rw [VRel] at h; obtain ⟨_, h2⟩ := h; refine ⟨h2, ?_⟩; cases v <;> simp [Value.oneCell'] at h2 <;> rfl))
theorem VRel.cells {x : DV} {v : Value} (h : VRel σ ρ x v) (hx : oneAll x.cells = true) : VRels σ ρ x.cells v.cells.toList := by
  by_cases h1 : x.one = true
  · have e : x.cells = [x] := by cases x <;> simp [DV.one] at h1 <;> rfl
    rw [e, (VRel.one h h1).2]; exact VRels.cons h VRels.nil
  · cases x <;> simp [DV.one] at h1
    · rw [VRel] at h; obtain ⟨cs, rfl, h2⟩ := h; exact h2
    · simp [DV.cells, oneAll, DV.one] at hx
theorem VRels.oneAll : ∀ {xs : List DV} {ys : List Value}, VRels σ ρ xs ys → Ev.oneAll xs = true → ∀ y ∈ ys, y.oneCell' = true
  | [], _, h, _ => by rw [VRels] at h; subst h; simp
  | x :: xs, _, h, k => by
    rw [VRels] at h; obtain ⟨y, ys, rfl, h2, h3⟩ := h
    simp only [Ev.oneAll, Bool.and_eq_true] at k
    intro z hz
    rcases List.mem_cons.1 hz with rfl | hz
    · exact (VRel.one h2 k.1).1
    · exact VRels.oneAll h3 k.2 z hz
theorem VRel.cells' {x : DV} {v : Value} (h : VRel σ ρ x v) (hx : ∀ l, x ≠ .tup l) : VRels σ ρ x.cells v.cells.toList := by
  by_cases h1 : x.one = true
  · have e : x.cells = [x] := by cases x <;> simp [DV.one] at h1 <;> rfl
    rw [e, (VRel.one h h1).2]; exact VRels.cons h VRels.nil
  · cases x <;> simp [DV.one] at h1
    · rw [VRel] at h; obtain ⟨cs, rfl, h2⟩ := h; exact h2
    · exact absurd rfl (hx _)

/- plain values -/
theorem plain_rel {v : Value} {x : DV} (h : plain v = some x) : VRel σ ρ x v := by
  unfold plain at h
  split at h <;> (try cases h) <;> (try (simp only [VRel]; done))
  · rw [VRel]; exact ⟨_, rfl, rfl⟩
  · rw [VRel]; exact ⟨_, _, rfl, VRels.nil, VRels.nil⟩
theorem plainAll_rel : ∀ {l : List Value} {x : List DV}, plainAll l = some x → VRels σ ρ x l
  | [], _, h => by cases h; exact VRels.nil
  | v :: l, x, h => by
    unfold plainAll at h
    split at h
    · rename_i y hy
      split at h
      · rename_i ys hys
        cases h; exact VRels.cons (plain_rel hy) (plainAll_rel hys)
      · cases h
    · cases h
theorem plainV_rel {v : Value} {x : DV} (h : plainV v = some x) : VRel σ ρ x v := by
  unfold plainV at h
  split at h
  · split at h
    · rename_i l hl; cases h; rw [VRel]; exact ⟨_, rfl, plainAll_rel hl⟩
    · cases h
  · split at h
    · rename_i l hl; cases h; rw [VRel]; exact ⟨_, rfl, plainAll_rel hl⟩
    · cases h
  · exact plain_rel h
end

/- tries -/
theorem Trie.get_set {α : Type} : ∀ (d : Nat) (t : Trie α) (n m : Nat) (x : Option α) (y : α), Trie.get d (Trie.set d t n x) m = some y → (m = n ∧ x = some y) ∨ (m ≠ n ∧ Trie.get d t m = some y)
  | 0, _, _, _, _, _, h => by simp [Trie.get] at h
  | d + 1, t, 0, 0, x, y, h => by simp only [Trie.set, Trie.get, Trie.val] at h; exact .inl ⟨rfl, h⟩
  | d + 1, t, 0, m + 1, x, y, h => by
    simp only [Trie.set, Trie.get, Trie.left, Trie.right] at h
    refine .inr ⟨by omega, ?_⟩
    simp only [Trie.get]; cases t <;> simpa [Trie.left, Trie.right] using h
  | d + 1, t, n + 1, 0, x, y, h => by
    refine .inr ⟨by omega, ?_⟩
    simp only [Trie.set, Trie.get] at h ⊢
    split at h <;> exact h
  | d + 1, t, n + 1, m + 1, x, y, h => by
    simp only [Trie.set, Trie.get] at h ⊢
    by_cases h1 : n % 2 = 0 <;> by_cases h2 : m % 2 = 0
    · simp only [h1, h2] at h ⊢
      simp only [Trie.left] at h
      rcases Trie.get_set d _ _ _ _ _ h with ⟨h3, h4⟩ | ⟨h3, h4⟩
      · exact .inl ⟨by omega, h4⟩
      · exact .inr ⟨by intro e; apply h3; omega, h4⟩
    · have h2' : m % 2 = 1 := by omega
      simp only [h1, h2'] at h ⊢
      exact .inr ⟨by intro e; omega, h⟩
    · have h1' : n % 2 = 1 := by omega
      simp only [h1', h2] at h ⊢
      exact .inr ⟨by intro e; omega, h⟩
    · have h1' : n % 2 = 1 := by omega
      have h2' : m % 2 = 1 := by omega
      simp only [h1', h2'] at h ⊢
      simp only [Trie.right] at h
      rcases Trie.get_set d _ _ _ _ _ h with ⟨h3, h4⟩ | ⟨h3, h4⟩
      · exact .inl ⟨by omega, h4⟩
      · exact .inr ⟨by intro e; apply h3; omega, h4⟩
theorem fget_fput {f : Fr} {t : Option Nat} {v u : DV} {m : Nat} (h : fget (fput f t v) m = some u) : (t = some m ∧ u = v) ∨ (t ≠ some m ∧ fget f m = some u) := by
  cases t with
  | none => exact .inr ⟨by simp, h⟩
  | some t =>
    rcases Trie.get_set _ _ _ _ _ _ h with ⟨h1, h2⟩ | ⟨h1, h2⟩
    · exact .inl ⟨by rw [h1], by injection h2 with h2; exact h2.symm⟩
    · exact .inr ⟨by simpa using fun e => h1 e.symm, h2⟩
theorem blk_put {s : St} {b m : Nat} {x : Option Blk} {y : Blk} (h : (s.put b x).blk m = some y) : (m = b ∧ x = some y) ∨ (m ≠ b ∧ s.blk m = some y) := Trie.get_set _ _ _ _ _ _ h
theorem blk_new {s : St} {m : Nat} {x : Blk} {y : Blk} (h : (s.new x).blk m = some y) : (m = s.next ∧ x = y) ∨ (m ≠ s.next ∧ s.blk m = some y) := by
  rcases Trie.get_set _ _ _ _ _ _ h with ⟨h1, h2⟩ | h
  · exact .inl ⟨h1, by injection h2⟩
  · exact .inr h

section
variable (σ : Nat → Value) (ρ : Ren)
def ERels : List (DV × DV × Nat) → List MapEntry → Prop
  | [], l => l = []
  | (k, v, b) :: xs, l => ∃ e es, l = e :: es ∧ VRel σ ρ k e.key ∧ VRel σ ρ v e.val ∧ e.born = b ∧ ERels xs es
def BRel : Blk → Nat → Nat → Option Obj → Prop
  | .cells l, d, N, o => ∃ cs ty, o = some (.cells cs ty (0, 0)) ∧ cs.size = N ∧ d + l.length ≤ N ∧ ∀ i x, l[i]? = some x → ∃ c, cs[d + i]? = some c ∧ VRel σ ρ x c ∧ c.oneCell' = true
  | .map es clock, d, _, o => d = 0 ∧ ∃ es', o = some (.map es' clock) ∧ ERels σ ρ es es'.toList
  | .itS s pos, d, _, o => d = 0 ∧ ∃ bs, o = some (.stringIter bs pos) ∧ bs.data.toList.map UInt8.toNat = s
  | .itM m since seen last, d, _, o => d = 0 ∧ ∃ m', o = some (.mapIter m' since seen.toArray last) ∧ (match m with | none => m' = none | some b => ∃ B N, ρ b = some (B, 0, N) ∧ m' = some B)
/-- abstract memory stands for memory -/
structure Rel (s : St) (w : World) : Prop where
  lt : ∀ b B d N, ρ b = some (B, d, N) → b < s.next ∧ B < w.heap.size
  blk : ∀ b B d N x, ρ b = some (B, d, N) → s.blk b = some x → BRel σ ρ x d N w.heap[B]?
  inj : ∀ b b' x x', ρ b = some x → ρ b' = some x' → x.1 = x'.1 → s.blk b ≠ none → s.blk b' ≠ none → b = b'
end
/-- of what was there nothing has changed but what abstract blocks stand for -/
structure Fram (ρ ρ' : Ren) (w w' : World) : Prop where
  os : w'.os = w.os
  tape : w'.tape = w.tape
  output : w'.output = w.output
  size : w.heap.size ≤ w'.heap.size
  keep : ∀ k, k < w.heap.size → (∀ b x, ρ b = some x → x.1 ≠ k) → w'.heap[k]? = w.heap[k]?
  fresh : ∀ b x, ρ' b = some x → (∃ b0 x0, ρ b0 = some x0 ∧ x0.1 = x.1) ∨ w.heap.size ≤ x.1
theorem Fram.refl (ρ : Ren) (w : World) : Fram ρ ρ w w := ⟨rfl, rfl, rfl, Nat.le_refl _, fun _ _ _ => rfl, fun b x h => .inl ⟨b, x, h, rfl⟩⟩
theorem Fram.trans {ρ ρ' ρ'' : Ren} {w w' w'' : World} (h : Fram ρ ρ' w w') (k : Fram ρ' ρ'' w' w'') : Fram ρ ρ'' w w'' := by
  refine ⟨k.os.trans h.os, k.tape.trans h.tape, k.output.trans h.output, Nat.le_trans h.size k.size, fun i hi hn => ?_, fun b x hb => ?_⟩
  · rw [k.keep i (Nat.lt_of_lt_of_le hi h.size) ?_, h.keep i hi hn]
    intro b x hb e
    rcases h.fresh b x hb with ⟨b0, x0, h0, h1⟩ | h1
    · exact hn b0 x0 h0 (h1.trans e)
    · omega
  · rcases k.fresh b x hb with ⟨b0, x0, h0, h1⟩ | h1
    · rcases h.fresh b0 x0 h0 with ⟨b2, x2, h2, h3⟩ | h3
      · exact .inl ⟨b2, x2, h2, h3.trans h1⟩
      · exact .inr (by omega)
    · exact .inr (Nat.le_trans h.size h1)
theorem Fram.drew {ρ ρ' : Ren} {w w' : World} (h : Fram ρ ρ' w w') : Fram ρ ρ' w w'.drew := ⟨h.os, h.tape, h.output, h.size, h.keep, h.fresh⟩

section
variable {σ : Nat → Value} {ρ ρ' : Ren} {s : St} {w : World}
theorem ERels.sub (hs : Sub ρ ρ') : ∀ {xs : List (DV × DV × Nat)} {es : List MapEntry}, ERels σ ρ xs es → ERels σ ρ' xs es
  | [], _, h => h
  | (k, v, b) :: xs, _, h => by
    rw [ERels] at h ⊢
    obtain ⟨e, es, h1, h2, h3, h4, h5⟩ := h
    exact ⟨e, es, h1, h2.sub hs, h3.sub hs, h4, ERels.sub hs h5⟩
theorem BRel.sub (hs : Sub ρ ρ') {x : Blk} {d N : Nat} {o : Option Obj} (h : BRel σ ρ x d N o) : BRel σ ρ' x d N o := by
  cases x with
  | cells l =>
    obtain ⟨cs, ty, h1, h2, h3, h4⟩ := h
    exact ⟨cs, ty, h1, h2, h3, fun i x hx => by obtain ⟨c, h5, h6, h7⟩ := h4 i x hx; exact ⟨c, h5, h6.sub hs, h7⟩⟩
  | map es c => obtain ⟨h0, es', h1, h2⟩ := h; exact ⟨h0, es', h1, h2.sub hs⟩
  | itS l p => exact h
  | itM m a b c =>
    obtain ⟨h0, m', h1, h2⟩ := h
    refine ⟨h0, m', h1, ?_⟩
    cases m with
    | none => exact h2
    | some b => obtain ⟨B, N, h3, h4⟩ := h2; exact ⟨B, N, hs _ _ h3, h4⟩
/-- nothing of abstract memory depends on the count of draws -/
theorem Rel.drew (h : Rel σ ρ s w) : Rel σ ρ s w.drew := ⟨h.lt, h.blk, h.inj⟩
/-- a new block -/
def ext (ρ : Ren) (b : Nat) (x : Nat × Nat × Nat) : Ren := fun k => if k = b then some x else ρ k
theorem ext_sub {b : Nat} {x : Nat × Nat × Nat} (h : ρ b = none) : Sub ρ (ext ρ b x) := fun k y hk => by
  unfold ext; rw [if_neg]; exact hk; rintro rfl; rw [h] at hk; cases hk
theorem ext_self {b : Nat} {x : Nat × Nat × Nat} : ext ρ b x b = some x := by simp [ext]
theorem Rel.none_of_next (h : Rel σ ρ s w) : ρ s.next = none := by
  cases e : ρ s.next with
  | none => rfl
  | some x => have := (h.lt _ x.1 x.2.1 x.2.2 e).1; omega
theorem Rel.none_of_ge (h : Rel σ ρ s w) {b : Nat} (hb : s.next ≤ b) : ρ b = none := by
  cases e : ρ b with
  | none => rfl
  | some x => have := (h.lt _ x.1 x.2.1 x.2.2 e).1; omega
end
end Go.Proofs.YtpmephcfamcbjaaGreat.Ev
