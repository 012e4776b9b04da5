/- Terms as plain Lean data, their validity, their order, and that the order is total. No program in sight. -/
import Derived.WalkKit
namespace Go.Proofs.YtpmephcfamcbjaaGreat

inductive T where
  | mk (kind int gen : Int) (name func : ByteArray) (arity : Int) (items : List T) (bytes : ByteArray) (bits : Int)

namespace T
def kind : T → Int | mk k _ _ _ _ _ _ _ _ => k
def int : T → Int | mk _ i _ _ _ _ _ _ _ => i
def gen : T → Int | mk _ _ g _ _ _ _ _ _ => g
def name : T → ByteArray | mk _ _ _ n _ _ _ _ _ => n
def func : T → ByteArray | mk _ _ _ _ f _ _ _ _ => f
def arity : T → Int | mk _ _ _ _ _ a _ _ _ => a
def items : T → List T | mk _ _ _ _ _ _ l _ _ => l
def bytes : T → ByteArray | mk _ _ _ _ _ _ _ b _ => b
def bits : T → Int | mk _ _ _ _ _ _ _ _ n => n
@[simp] theorem kind_mk (k i g : Int) (n f : ByteArray) (a : Int) (l : List T) (b : ByteArray) (m : Int) : (T.mk k i g n f a l b m).kind = k := rfl
@[simp] theorem int_mk (k i g : Int) (n f : ByteArray) (a : Int) (l : List T) (b : ByteArray) (m : Int) : (T.mk k i g n f a l b m).int = i := rfl
@[simp] theorem gen_mk (k i g : Int) (n f : ByteArray) (a : Int) (l : List T) (b : ByteArray) (m : Int) : (T.mk k i g n f a l b m).gen = g := rfl
@[simp] theorem name_mk (k i g : Int) (n f : ByteArray) (a : Int) (l : List T) (b : ByteArray) (m : Int) : (T.mk k i g n f a l b m).name = n := rfl
@[simp] theorem func_mk (k i g : Int) (n f : ByteArray) (a : Int) (l : List T) (b : ByteArray) (m : Int) : (T.mk k i g n f a l b m).func = f := rfl
@[simp] theorem arity_mk (k i g : Int) (n f : ByteArray) (a : Int) (l : List T) (b : ByteArray) (m : Int) : (T.mk k i g n f a l b m).arity = a := rfl
@[simp] theorem items_mk (k i g : Int) (n f : ByteArray) (a : Int) (l : List T) (b : ByteArray) (m : Int) : (T.mk k i g n f a l b m).items = l := rfl
@[simp] theorem bytes_mk (k i g : Int) (n f : ByteArray) (a : Int) (l : List T) (b : ByteArray) (m : Int) : (T.mk k i g n f a l b m).bytes = b := rfl
@[simp] theorem bits_mk (k i g : Int) (n f : ByteArray) (a : Int) (l : List T) (b : ByteArray) (m : Int) : (T.mk k i g n f a l b m).bits = m := rfl
end T

mutual
def T.cnt : T → Nat
  | .mk _ _ _ _ _ _ its _ _ => 1 + T.cnts its
def T.cnts : List T → Nat
  | [] => 0
  | t :: l => t.cnt + T.cnts l
end

mutual
def T.eqb : T → T → Bool
  | .mk k i g n f a its b bs, .mk k' i' g' n' f' a' its' b' bs' =>
    k == k' && i == i' && g == g' && decide (n = n') && decide (f = f') && a == a' && decide (b = b') && bs == bs' && T.eqbs its its'
def T.eqbs : List T → List T → Bool
  | [], [] => true
  | x :: l, y :: r => T.eqb x y && T.eqbs l r
  | _, _ => false
end

mutual
theorem T.eqb_iff : ∀ (x y : T), T.eqb x y = true ↔ x = y
  | .mk k i g n f a its b bs, .mk k' i' g' n' f' a' its' b' bs' => by
    have := T.eqbs_iff its its'
    simp only [T.eqb, Bool.and_eq_true, beq_iff_eq, decide_eq_true_eq, T.mk.injEq, this]
    constructor
    · rintro ⟨⟨⟨⟨⟨⟨⟨⟨h1, h2⟩, h3⟩, h4⟩, h5⟩, h6⟩, h7⟩, h8⟩, h9⟩; exact ⟨h1, h2, h3, h4, h5, h6, h9, h7, h8⟩
    · rintro ⟨h1, h2, h3, h4, h5, h6, h9, h7, h8⟩; exact ⟨⟨⟨⟨⟨⟨⟨⟨h1, h2⟩, h3⟩, h4⟩, h5⟩, h6⟩, h7⟩, h8⟩, h9⟩
theorem T.eqbs_iff : ∀ (x y : List T), T.eqbs x y = true ↔ x = y
  | [], [] => by simp [T.eqbs]
  | [], _ :: _ => by simp [T.eqbs]
  | _ :: _, [] => by simp [T.eqbs]
  | x :: l, y :: r => by simp [T.eqbs, T.eqb_iff x y, T.eqbs_iff l r]
end

end Go.Proofs.YtpmephcfamcbjaaGreat
