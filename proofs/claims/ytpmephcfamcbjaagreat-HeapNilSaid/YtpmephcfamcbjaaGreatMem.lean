/- How terms lie in memory: a value that reads as a term, and how a reading lives on when memory grows. -/
import Derived.Test.YtpmephcfamcbjaaGreatTerm
import Derived.Below
import Derived.WalkSpells
import Derived.Deep.Draws
namespace Go.Proofs.YtpmephcfamcbjaaGreat
open Go.RowKit

theorem below_drewN {B : Nat} {a w : World} (h : Below B a w) (n : Nat) : Below B a (w.drewN n) := ⟨h.os, h.tape, h.output, h.size, h.block⟩
/-- the value of a term whose elements lie at A -/
@[reducible] def T.val (t : T) (A : Option Addr) (c : Nat) : Value :=
  .agg #[.int .i64 t.kind, .int .i64 t.int, .int .i64 t.gen, .string t.name, .string t.func, .int .i64 t.arity, .slice A t.items.length c, .string t.bytes, .int .i64 t.bits]

/-- the nine cells of a term -/
def At9 (w : World) (b o : Nat) (t : T) (A : Option Addr) (c : Nat) : Prop :=
  w.cell? ⟨b, o, none⟩ = some (.int .i64 t.kind) ∧ w.cell? ⟨b, o + 1, none⟩ = some (.int .i64 t.int) ∧ w.cell? ⟨b, o + 2, none⟩ = some (.int .i64 t.gen)
  ∧ w.cell? ⟨b, o + 3, none⟩ = some (.string t.name) ∧ w.cell? ⟨b, o + 4, none⟩ = some (.string t.func) ∧ w.cell? ⟨b, o + 5, none⟩ = some (.int .i64 t.arity)
  ∧ w.cell? ⟨b, o + 6, none⟩ = some (.slice A t.items.length c) ∧ w.cell? ⟨b, o + 7, none⟩ = some (.string t.bytes) ∧ w.cell? ⟨b, o + 8, none⟩ = some (.int .i64 t.bits)

/-- a term's own fields are within what Go's types and memory hold -/
def T.wfh (t : T) : Prop :=
  t.name.size ≤ 140737488351232 ∧ t.func.size ≤ 140737488351232 ∧ t.bytes.size ≤ 140737488351232 ∧ -9223372036854775808 ≤ t.kind ∧ t.kind ≤ 9223372036854775807
  ∧ -9223372036854775808 ≤ t.int ∧ t.int ≤ 9223372036854775807 ∧ -9223372036854775808 ≤ t.gen ∧ t.gen ≤ 9223372036854775807
  ∧ -9223372036854775808 ≤ t.arity ∧ t.arity ≤ 9223372036854775807 ∧ -9223372036854775808 ≤ t.bits ∧ t.bits ≤ 9223372036854775807

mutual
/-- the elements of a term lie at A, c of capacity; every block that is reached meets I -/
def RdT (I : Nat → Prop) (w : World) : T → Option Addr → Nat → Prop
  | .mk _ _ _ _ _ _ its _ _, A, c => its.length ≤ c ∧ c * 112 ≤ 140737488351232 ∧ (its = [] ∨ ∃ b o, A = some ⟨b, o, none⟩ ∧ I b ∧ RdL I w its b o)
/-- terms lie side by side from offset o of block b on -/
def RdL (I : Nat → Prop) (w : World) : List T → Nat → Nat → Prop
  | [], _, _ => True
  | t :: l, b, o => (∃ A c, At9 w b o t A c ∧ t.wfh ∧ RdT I w t A c) ∧ RdL I w l b (o + 9)
end

/-- a slice that reads as a list of terms -/
def RdI (I : Nat → Prop) (w : World) (its : List T) (A : Option Addr) (c : Nat) : Prop :=
  its.length ≤ c ∧ c * 112 ≤ 140737488351232 ∧ (its = [] ∨ ∃ b o, A = some ⟨b, o, none⟩ ∧ I b ∧ RdL I w its b o)

theorem rdT_iff {I : Nat → Prop} {w : World} {t : T} {A : Option Addr} {c : Nat} : RdT I w t A c ↔ RdI I w t.items A c := by
  cases t; simp [RdT, RdI, T.items]

section
variable {I I' : Nat → Prop} {w w' : World} {t : T} {its l : List T} {A : Option Addr} {c b o k : Nat}

theorem RdL.at : ∀ {l : List T} {o k : Nat}, RdL I w l b o → l[k]? = some t → ∃ A c, At9 w b (o + k * 9) t A c ∧ t.wfh ∧ RdI I w t.items A c
  | [], _, _, _, h => by simp at h
  | x :: l, o, 0, h, hk => by
    simp at hk; subst hk
    rw [RdL] at h
    obtain ⟨⟨A, c, h9, hw, ht⟩, _⟩ := h
    exact ⟨A, c, by simpa using h9, hw, rdT_iff.1 ht⟩
  | x :: l, o, k + 1, h, hk => by
    have h2 : RdL I w l b (o + 9) := by rw [RdL] at h; exact h.2
    obtain ⟨A, c, h9, hw, ht⟩ := RdL.at h2 (by simpa using hk)
    exact ⟨A, c, by rw [show o + (k + 1) * 9 = o + 9 + k * 9 by omega]; exact h9, hw, ht⟩

theorem RdI.at (h : RdI I w its A c) (hk : its[k]? = some t) : ∃ b o A' c', A = some ⟨b, o, none⟩ ∧ I b ∧ At9 w b (o + k * 9) t A' c' ∧ t.wfh ∧ RdI I w t.items A' c' := by
  obtain ⟨_, _, h | ⟨b, o, hA, hI, hL⟩⟩ := h
  · subst h; simp at hk
  · obtain ⟨A', c', h9, hw, ht⟩ := hL.at hk
    exact ⟨b, o, A', c', hA, hI, h9, hw, ht⟩
theorem RdI.len (h : RdI I w its A c) : its.length ≤ c := h.1
theorem RdI.cap (h : RdI I w its A c) : c * 112 ≤ 140737488351232 := h.2.1

theorem At9.later (hb : ∀ o v, w.cell? ⟨b, o, none⟩ = some v → w'.cell? ⟨b, o, none⟩ = some v) (h : At9 w b o t A c) : At9 w' b o t A c := by
  obtain ⟨h0, h1, h2, h3, h4, h5, h6, h7, h8⟩ := h
  exact ⟨hb _ _ h0, hb _ _ h1, hb _ _ h2, hb _ _ h3, hb _ _ h4, hb _ _ h5, hb _ _ h6, hb _ _ h7, hb _ _ h8⟩
theorem At9.below (hb : Below w.heap.size w w') (h : At9 w b o t A c) : At9 w' b o t A c := h.later fun _ _ hv => cell_later hb hv

mutual
theorem RdT.keep (hb : ∀ b, I b → ∀ o v, w.cell? ⟨b, o, none⟩ = some v → w'.cell? ⟨b, o, none⟩ = some v) (hI : ∀ b, I b → I' b) : ∀ (t : T) (A : Option Addr) (c : Nat), RdT I w t A c → RdT I' w' t A c
  | .mk _ _ _ _ _ _ its _ _, A, c, h => by
    rw [RdT] at h ⊢
    obtain ⟨h1, h2, h | ⟨b, o, hA, hIb, hL⟩⟩ := h
    · exact ⟨h1, h2, .inl h⟩
    · exact ⟨h1, h2, .inr ⟨b, o, hA, hI b hIb, RdL.keep hb hI its b o hIb hL⟩⟩
theorem RdL.keep (hb : ∀ b, I b → ∀ o v, w.cell? ⟨b, o, none⟩ = some v → w'.cell? ⟨b, o, none⟩ = some v) (hI : ∀ b, I b → I' b) : ∀ (l : List T) (b o : Nat), I b → RdL I w l b o → RdL I' w' l b o
  | [], _, _, _, _ => by simp [RdL]
  | t :: l, b, o, hIb, h => by
    rw [RdL] at h ⊢
    obtain ⟨⟨A, c, h9, hw, ht⟩, hl⟩ := h
    exact ⟨⟨A, c, h9.later (hb b hIb), hw, RdT.keep hb hI t A c ht⟩, RdL.keep hb hI l b (o + 9) hIb hl⟩
end
theorem RdI.keep (h : RdI I w its A c) (hb : ∀ b, I b → ∀ o v, w.cell? ⟨b, o, none⟩ = some v → w'.cell? ⟨b, o, none⟩ = some v) (hI : ∀ b, I b → I' b) : RdI I' w' its A c := by
  obtain ⟨h1, h2, h | ⟨b, o, hA, hIb, hL⟩⟩ := h
  · exact ⟨h1, h2, .inl h⟩
  · exact ⟨h1, h2, .inr ⟨b, o, hA, hI b hIb, RdL.keep hb hI its b o hIb hL⟩⟩
theorem RdI.below (h : RdI I w its A c) (hb : Below w.heap.size w w') : RdI I w' its A c := h.keep (fun _ _ _ _ hv => cell_later hb hv) (fun _ h => h)
theorem RdI.imp (h : RdI I w its A c) (hI : ∀ b, I b → I' b) : RdI I' w its A c := h.keep (fun _ _ _ _ hv => hv) hI
theorem RdI.nil (A : Option Addr) : RdI I w [] A 0 := ⟨by simp, by omega, .inl rfl⟩
end
end Go.Proofs.YtpmephcfamcbjaaGreat
