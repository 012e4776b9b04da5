/- The comparisons of terms, field by field, say whether two terms are one. -/
import Derived.Test.YtpmephcfamcbjaaGreatMem
import Derived.Test.YtpmephcfamcbjaaGreatProg
import Derived.WalkKit
import Derived.WalkSpells
import Derived.WalkLawsBesides
import Derived.Deep.RegionHeld3
import Derived.Lib.Hide
namespace Go.Proofs.YtpmephcfamcbjaaGreat
open Go.RowKit

theorem T.eqb_eq (t t' : T) : T.eqb t t' = (t.kind == t'.kind && t.int == t'.int && t.gen == t'.gen && decide (t.name = t'.name) && decide (t.func = t'.func) && t.arity == t'.arity && decide (t.bytes = t'.bytes) && t.bits == t'.bits && T.eqbs t.items t'.items) := by
  cases t; cases t'; rw [T.eqb]; rfl
theorem toList_inj {a b : ByteArray} : a.toList = b.toList ↔ a = b := by
  constructor
  · intro h
    rw [ByteArray.toList_eq, ByteArray.toList_eq] at h
    cases a; cases b; simpa using h
  · intro h; rw [h]
theorem T.eqb_eq2 (t t' : T) : T.eqb t t' = (decide (t.kind = t'.kind) && decide (t.int = t'.int) && decide (t.gen = t'.gen) && decide (t.name.toList = t'.name.toList) && decide (t.func.toList = t'.func.toList) && decide (t.arity = t'.arity) && decide (t.bytes.toList = t'.bytes.toList) && decide (t.bits = t'.bits) && T.eqbs t.items t'.items) := by
  have e : ∀ a b : Int, (a == b) = decide (a = b) := fun a b => by rw [Bool.eq_iff_iff]; simp
  rw [T.eqb_eq]; simp [toList_inj, e]
theorem ret_bool {a b : Bool} (h : a = b) : Ending.returned (.bool a) = .returned (.bool b) := by rw [h]
theorem T.cnt_pos (t : T) : 0 < t.cnt := by cases t; simp [T.cnt]; omega
theorem T.cnts_mem : ∀ {l : List T} {x : T}, x ∈ l → x.cnt ≤ T.cnts l
  | y :: l, x, h => by
    rcases List.mem_cons.1 h with rfl | h
    · simp [T.cnts]
    · have := T.cnts_mem h; simp [T.cnts]; omega
theorem T.cnt_items (t : T) : t.cnt = 1 + T.cnts t.items := by cases t; simp [T.cnt, T.items]
/-- induction over terms: a statement holds of a term if it holds of its elements -/
theorem T.induct {p : T → Prop} (h : ∀ t : T, (∀ x ∈ t.items, p x) → p t) (t : T) : p t := by
  have : ∀ n (t : T), t.cnt ≤ n → p t := by
    intro n
    induction n with
    | zero => intro t ht; have := t.cnt_pos; omega
    | succ n ih => intro t ht; exact h t fun x hx => ih x (by have := T.cnts_mem hx; have := t.cnt_items; omega)
  exact this _ t (Nat.le_refl _)
theorem T.eqbs_len : ∀ {l r : List T}, T.eqbs l r = true → l.length = r.length := fun h => by rw [(T.eqbs_iff _ _).1 h]
theorem T.eqbs_false_of_len {l r : List T} (h : l.length ≠ r.length) : T.eqbs l r = false := by
  cases e : T.eqbs l r
  · rfl
  · exact absurd (T.eqbs_len e) h
theorem T.eqb_false {x y : T} (h : x ≠ y) : T.eqb x y = false := by
  cases e : T.eqb x y
  · rfl
  · exact absurd ((T.eqb_iff _ _).1 e) h
theorem T.eqbs_false {x y : List T} (h : x ≠ y) : T.eqbs x y = false := by
  cases e : T.eqbs x y
  · rfl
  · exact absurd ((T.eqbs_iff _ _).1 e) h
theorem take_succ_of {α : Type} {l : List α} {k : Nat} {x : α} (h : l[k]? = some x) : l.take (k + 1) = l.take k ++ [x] := by
  rw [List.take_add_one, h]; rfl
theorem getElem?_of_lt {α : Type} {l : List α} {k : Nat} (h : k < l.length) : ∃ x, l[k]? = some x := ⟨l[k], by simp [h]⟩

/-- kit.Same of a term -/
def kitSame (t : T) : Prop := ∀ (t' : T) (I I' : Nat → Prop) (A A' : Option Addr) (c c' : Nat) (w : World), RdI I w t.items A c → RdI I' w t'.items A' c' →
  Calls Tryz.prog 39 #[t.val A c, t'.val A' c'] w fun e w' => e = .returned (.bool (T.eqb t t')) ∧ Below w.heap.size w w'
def kitSameL (l : List T) : Prop := ∀ (l' : List T) (I I' : Nat → Prop) (A A' : Option Addr) (c c' : Nat) (w : World), RdI I w l A c → RdI I' w l' A' c' →
  Calls Tryz.prog 106 #[.slice A l.length c, .slice A' l'.length c'] w fun e w' => e = .returned (.bool (T.eqbs l l')) ∧ Below w.heap.size w w'

set_option maxRecDepth 100000 in
set_option maxHeartbeats 400000 in
theorem kit_list (l : List T) (H : ∀ x ∈ l, kitSame x) : kitSameL l := by
  intro l' I I' A A' c c' w h h'
  have hc := h.cap
  have hl := h.len
  by_cases hlen : l.length = l'.length
  · have ht : ∀ k, k < l.length → ∃ x x', l[k]? = some x ∧ l'[k]? = some x' := fun k hk => by
      obtain ⟨x, hx⟩ := getElem?_of_lt hk
      obtain ⟨x', hx'⟩ := getElem?_of_lt (l := l') (k := k) (by omega)
      exact ⟨x, x', hx, hx'⟩
    have Hfin : Hid (l.take l.length = l'.take l.length → T.eqbs l l' = true) := fun he => by
      rw [T.eqbs_iff]; rw [List.take_of_length_le (Nat.le_refl _), List.take_of_length_le (by omega)] at he; exact he
    have Hno : Hid (∀ (k : Nat) (x x' : T), l[k]? = some x → l'[k]? = some x' → x ≠ x' → T.eqbs l l' = false) := fun k x x' hx hx' hne => by
      refine T.eqbs_false fun e => hne ?_
      rw [e, hx'] at hx; exact (Option.some.inj hx).symm
    have HH := Lib.hid H; have Hh := Lib.hid h; have Hh' := Lib.hid h'; have Ht := Lib.hid ht
    rw [← hlen]
    generalize hn : l.length = n at *
    have Hn := Lib.hid hn; have Hlen := Lib.hid hlen
    clear H h h' ht hn hlen
    go_enter Tryz.func106, Tryz.ntmps106
    go_wp2_with fail
    go_loopw [4, 5] (fun _ i wr => ∃ k : Nat, k ≤ n ∧ i = .int .i64 k ∧ Hid (l.take k = l'.take k) ∧ Below w.heap.size w wr) (fun _ i _ => n - (intOf i).toNat)
    case atStart => exact ⟨0, Nat.zero_le _, rfl, by simp [Hid], Below.refl _ _⟩
    case round =>
      obtain ⟨k, hk, rfl, hpre, hb⟩ := hrel
      by_cases hlt : k < n
      · obtain ⟨x, x', hx, hx'⟩ := Ht.out k hlt
        obtain ⟨b, o, A1, c1, rfl, _, h9, _, hr⟩ := Hh.out.at hx
        obtain ⟨b', o', A2, c2, rfl, _, h9', _, hr'⟩ := Hh'.out.at hx'
        obtain ⟨F0, F1, F2, F3, F4, F5, F6, F7, F8⟩ := h9.below hb
        obtain ⟨G0, G1, G2, G3, G4, G5, G6, G7, G8⟩ := h9'.below hb
        have hcall := Lib.hid (HH.out x (List.mem_of_getElem? hx) x' I I' A1 A2 c1 c2)
        have hx1 := Lib.hid hx; have hx1' := Lib.hid hx'
        have Hr := Lib.hid hr; have Hr' := Lib.hid hr'
        clear hx hx' h9 h9' hr hr'
        
        by_cases he : x = x'
        · have Hq : Hid (T.eqb x x' = true) := (T.eqb_iff _ _).2 he
          have Hnext : Hid (l.take (k + 1) = l'.take (k + 1)) := by
            show _ = _
            rw [take_succ_of hx1.out, take_succ_of hx1'.out, he, hpre.out]
          clear he
          go_wp2_with fail
          go_region_held3 (fun w' => w'.cell? ⟨b, o + k * 9, none⟩ = some (.int .i64 x.kind) ∧ w'.cell? ⟨b, o + k * 9 + 1, none⟩ = some (.int .i64 x.int) ∧ w'.cell? ⟨b, o + k * 9 + 2, none⟩ = some (.int .i64 x.gen)
              ∧ w'.cell? ⟨b, o + k * 9 + 3, none⟩ = some (.string x.name) ∧ w'.cell? ⟨b, o + k * 9 + 4, none⟩ = some (.string x.func) ∧ w'.cell? ⟨b, o + k * 9 + 5, none⟩ = some (.int .i64 x.arity)
              ∧ w'.cell? ⟨b, o + k * 9 + 6, none⟩ = some (.slice A1 x.items.length c1) ∧ w'.cell? ⟨b, o + k * 9 + 7, none⟩ = some (.string x.bytes) ∧ w'.cell? ⟨b, o + k * 9 + 8, none⟩ = some (.int .i64 x.bits) 
              ∧ w'.cell? ⟨b', o' + k * 9, none⟩ = some (.int .i64 x'.kind) ∧ w'.cell? ⟨b', o' + k * 9 + 1, none⟩ = some (.int .i64 x'.int) ∧ w'.cell? ⟨b', o' + k * 9 + 2, none⟩ = some (.int .i64 x'.gen)
              ∧ w'.cell? ⟨b', o' + k * 9 + 3, none⟩ = some (.string x'.name) ∧ w'.cell? ⟨b', o' + k * 9 + 4, none⟩ = some (.string x'.func) ∧ w'.cell? ⟨b', o' + k * 9 + 5, none⟩ = some (.int .i64 x'.arity)
              ∧ w'.cell? ⟨b', o' + k * 9 + 6, none⟩ = some (.slice A2 x'.items.length c2) ∧ w'.cell? ⟨b', o' + k * 9 + 7, none⟩ = some (.string x'.bytes) ∧ w'.cell? ⟨b', o' + k * 9 + 8, none⟩ = some (.int .i64 x'.bits)) 
            (first | (simp [*]; done) | (refine ⟨?_, ?_, ?_, ?_, ?_, ?_, ?_, ?_, ?_, ?_, ?_, ?_, ?_, ?_, ?_, ?_, ?_, ?_⟩ <;> (first | exact cell_later hbb (by assumption))))
            (first | (go_at_call 39; refine (hcall.out _ ((Hr.out.below hb).below (Below.drew (Below.refl _ _))) ((Hr'.out.below hb).below (Below.drew (Below.refl _ _)))).mono ?_; rintro e w' ⟨he1, hbb⟩; rw [Hq.out] at he1; subst he1))
          go_wp2
          go_roundw
          case rel => exact ⟨k + 1, by omega, by go_num, Hnext, hb.drew.trans (hbb.mono hb.size)⟩
          case measure => simp [intOf]; omega
        · have Hq : Hid (T.eqb x x' = false) := T.eqb_false he
          have hno : Hid (T.eqbs l l' = false) := Hno.out k x x' hx1.out hx1'.out he
          clear he
          go_wp2_with fail
          go_region_held3 (fun w' => w'.cell? ⟨b, o + k * 9, none⟩ = some (.int .i64 x.kind) ∧ w'.cell? ⟨b, o + k * 9 + 1, none⟩ = some (.int .i64 x.int) ∧ w'.cell? ⟨b, o + k * 9 + 2, none⟩ = some (.int .i64 x.gen)
              ∧ w'.cell? ⟨b, o + k * 9 + 3, none⟩ = some (.string x.name) ∧ w'.cell? ⟨b, o + k * 9 + 4, none⟩ = some (.string x.func) ∧ w'.cell? ⟨b, o + k * 9 + 5, none⟩ = some (.int .i64 x.arity)
              ∧ w'.cell? ⟨b, o + k * 9 + 6, none⟩ = some (.slice A1 x.items.length c1) ∧ w'.cell? ⟨b, o + k * 9 + 7, none⟩ = some (.string x.bytes) ∧ w'.cell? ⟨b, o + k * 9 + 8, none⟩ = some (.int .i64 x.bits) 
              ∧ w'.cell? ⟨b', o' + k * 9, none⟩ = some (.int .i64 x'.kind) ∧ w'.cell? ⟨b', o' + k * 9 + 1, none⟩ = some (.int .i64 x'.int) ∧ w'.cell? ⟨b', o' + k * 9 + 2, none⟩ = some (.int .i64 x'.gen)
              ∧ w'.cell? ⟨b', o' + k * 9 + 3, none⟩ = some (.string x'.name) ∧ w'.cell? ⟨b', o' + k * 9 + 4, none⟩ = some (.string x'.func) ∧ w'.cell? ⟨b', o' + k * 9 + 5, none⟩ = some (.int .i64 x'.arity)
              ∧ w'.cell? ⟨b', o' + k * 9 + 6, none⟩ = some (.slice A2 x'.items.length c2) ∧ w'.cell? ⟨b', o' + k * 9 + 7, none⟩ = some (.string x'.bytes) ∧ w'.cell? ⟨b', o' + k * 9 + 8, none⟩ = some (.int .i64 x'.bits)) 
            (first | (simp [*]; done) | (refine ⟨?_, ?_, ?_, ?_, ?_, ?_, ?_, ?_, ?_, ?_, ?_, ?_, ?_, ?_, ?_, ?_, ?_, ?_⟩ <;> (first | exact cell_later hbb (by assumption))))
            (first | (go_at_call 39; refine (hcall.out _ ((Hr.out.below hb).below (Below.drew (Below.refl _ _))) ((Hr'.out.below hb).below (Below.drew (Below.refl _ _)))).mono ?_; rintro e w' ⟨he1, hbb⟩; rw [Hq.out] at he1; subst he1))
          go_wp2
          go_ret
          exact ⟨ret_bool hno.out.symm, hb.drew.trans (hbb.mono hb.size)⟩
      · obtain rfl : k = n := by omega
        
        go_wp2
        go_ret
        exact ⟨ret_bool (Hfin.out hpre.out).symm, hb⟩
  · have Hno : Hid (T.eqbs l l' = false) := T.eqbs_false_of_len hlen
    have hlen2 : ((l.length : Int) == (l'.length : Int)) = false := by rw [beq_eq_false_iff_ne]; omega
    have hlen3 : ((l.length : Int) != (l'.length : Int)) = true := by rw [bne_iff_ne]; omega
    clear H h h' hlen
    go_enter Tryz.func106, Tryz.ntmps106
    go_wp2
    go_ret
    exact ⟨ret_bool Hno.out.symm, Below.refl _ _⟩

set_option maxRecDepth 100000 in
set_option maxHeartbeats 400000 in
theorem kit_one (t : T) (H : kitSameL t.items) : kitSame t := by
  intro t' I I' A A' c c' w h h'
  have hcall := Lib.hid (H t'.items I I' A A' c c')
  have E := Lib.hid (T.eqb_eq2 t t')
  have Hh := Lib.hid h; have Hh' := Lib.hid h'
  clear H h h'
  go_enter Tryz.func39, Tryz.ntmps39
  go_wp2_with (first | (go_at_call 106; refine (hcall.out _ (Hh.out.below (((Below.refl _ _).alloc (Nat.le_refl _) _).alloc (by simp) _)) (Hh'.out.below (((Below.refl _ _).alloc (Nat.le_refl _) _).alloc (by simp) _))).mono ?_; rintro e w' ⟨rfl, hbb⟩))
  all_goals go_ret
  case _ => exact ⟨ret_bool (by rw [E.out]; simp [*]), (((Below.refl _ _).alloc (Nat.le_refl _) _).alloc (by simp) _).trans (hbb.mono (by simp; omega))⟩
  all_goals exact ⟨ret_bool (by rw [E.out]; simp [*]), (((Below.refl _ _).alloc (Nat.le_refl _) _).alloc (by simp) _)⟩
theorem kit_same (t : T) : kitSame t := T.induct (fun t ih => kit_one t (kit_list t.items ih)) t
theorem kit_sameL (l : List T) : kitSameL l := kit_list l fun x _ => kit_same x
end Go.Proofs.YtpmephcfamcbjaaGreat
