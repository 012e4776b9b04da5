/- HeapNil returns true: the walk. -/
import Derived.Test.YtpmephcfamcbjaaGreatLeft
import Derived.Test.YtpmephcfamcbjaaGreatHNil
namespace Go.Proofs.YtpmephcfamcbjaaGreat
open Go Go.RowKit

theorem new_nil1 (v : Value) (w : World) : Calls Tryz.prog 18 #[.pointer none, v, .int .i64 10] w fun e w' => e = .returned (.pointer none) ∧ Below w.heap.size w w' := by
  go_enter Tryz.func18, Tryz.ntmps18
  go_wp2
  go_ret
  exact ⟨rfl, (by repeat' (first | (with_reducible exact Below.refl _ _) | (with_reducible refine Below.drew ?_) | (with_reducible refine below_drewN ?_ _) | (with_reducible refine Below.alloc ?_ ?_ _) | (with_reducible refine Below.setCell ?_ ?_ _) | (with_reducible exact Nat.le_refl _) | (simp; done) | omega | (simp; omega)))⟩
theorem new_nil2 (a : Addr) (w : World) : Calls Tryz.prog 18 #[.pointer (some a), .pointer none, .int .i64 10] w fun e w' => e = .returned (.pointer none) ∧ Below w.heap.size w w' := by
  go_enter Tryz.func18, Tryz.ntmps18
  go_wp2
  go_ret
  exact ⟨rfl, (by repeat' (first | (with_reducible exact Below.refl _ _) | (with_reducible refine Below.drew ?_) | (with_reducible refine below_drewN ?_ _) | (with_reducible refine Below.alloc ?_ ?_ _) | (with_reducible refine Below.setCell ?_ ?_ _) | (with_reducible exact Nat.le_refl _) | (simp; done) | omega | (simp; omega)))⟩
theorem new_out (a b : Addr) (n : Int) (h : n < 1 ∨ n > 1048576) (w : World) : Calls Tryz.prog 18 #[.pointer (some a), .pointer (some b), .int .i64 n] w fun e w' => e = .returned (.pointer none) ∧ Below w.heap.size w w' := by
  by_cases h1 : n < 1
  · clear h
    go_enter Tryz.func18, Tryz.ntmps18
    go_wp2
    go_ret
    exact ⟨rfl, (by repeat' (first | (with_reducible exact Below.refl _ _) | (with_reducible refine Below.drew ?_) | (with_reducible refine below_drewN ?_ _) | (with_reducible refine Below.alloc ?_ ?_ _) | (with_reducible refine Below.setCell ?_ ?_ _) | (with_reducible exact Nat.le_refl _) | (simp; done) | omega | (simp; omega)))⟩
  · have h2 : n > 1048576 := by omega
    clear h
    go_enter Tryz.func18, Tryz.ntmps18
    go_wp2
    go_ret
    exact ⟨rfl, (by repeat' (first | (with_reducible exact Below.refl _ _) | (with_reducible refine Below.drew ?_) | (with_reducible refine below_drewN ?_ _) | (with_reducible refine Below.alloc ?_ ?_ _) | (with_reducible refine Below.setCell ?_ ?_ _) | (with_reducible exact Nat.le_refl _) | (simp; done) | omega | (simp; omega)))⟩

theorem rd_one {I : Nat → Prop} {w : World} {b : Nat} {t : T} {A : Option Addr} {c : Nat} (h9 : At9 w b 0 t A c) (hw : t.wfh) (hr : RdI I w t.items A c) (hb : I b) : RdI I w [t] (some ⟨b, 0, none⟩) 1 := by
  refine ⟨by simp, by omega, .inr ⟨b, 0, rfl, hb, ?_⟩⟩
  rw [RdL]
  exact ⟨⟨A, c, h9, hw, rdT_iff.2 hr⟩, by rw [RdL]; trivial⟩
theorem at9_one (w : World) (t : T) (A : Option Addr) (c : Nat) : At9 (w.alloc (.cells #[.int .i64 t.kind, .int .i64 t.int, .int .i64 t.gen, .string t.name, .string t.func, .int .i64 t.arity, .slice A t.items.length c, .string t.bytes, .int .i64 t.bits] 38)) w.heap.size 0 t A c := by
  have h : (w.alloc (.cells #[.int .i64 t.kind, .int .i64 t.int, .int .i64 t.gen, .string t.name, .string t.func, .int .i64 t.arity, .slice A t.items.length c, .string t.bytes, .int .i64 t.bits] 38)).heap[w.heap.size]? = some (.cells #[.int .i64 t.kind, .int .i64 t.int, .int .i64 t.gen, .string t.name, .string t.func, .int .i64 t.arity, .slice A t.items.length c, .string t.bytes, .int .i64 t.bits] 38) := by show (w.heap.push _)[w.heap.size]? = _; simp
  unfold At9 World.cell?
  refine ⟨?_, ?_, ?_, ?_, ?_, ?_, ?_, ?_, ?_⟩ <;> (simp only [h]; rfl)
theorem at9_two (w : World) (X : Obj) (t : T) (A : Option Addr) (c : Nat) : At9 ((w.alloc X).alloc (.cells #[.int .i64 t.kind, .int .i64 t.int, .int .i64 t.gen, .string t.name, .string t.func, .int .i64 t.arity, .slice A t.items.length c, .string t.bytes, .int .i64 t.bits] 38)) (w.heap.size + 1) 0 t A c := by
  have h := at9_one (w.alloc X) t A c
  rw [show (w.alloc X).heap.size = w.heap.size + 1 by simp] at h
  exact h

set_option maxRecDepth 100000 in
set_option maxHeartbeats 4000000 in
theorem heap_nil (t : T) (A : Option Addr) (c : Nat) (u n : Int) (w : World) (h : RdI (fun b => b < w.heap.size) w t.items A c) (hw : t.wfh) :
    Calls Tryz.prog 6 #[t.val A c, .int .u64 u, .int .i64 n] w fun e w' => e = .returned (.bool true) ∧ Below w.heap.size w w' := by
  have hbel : Below w.heap.size w ((w.alloc (.cells #[.int .i64 t.kind, .int .i64 t.int, .int .i64 t.gen, .string t.name, .string t.func, .int .i64 t.arity, .slice A t.items.length c, .string t.bytes, .int .i64 t.bits] 38)).alloc (.cells #[.int .i64 t.kind, .int .i64 t.int, .int .i64 t.gen, .string t.name, .string t.func, .int .i64 t.arity, .slice A t.items.length c, .string t.bytes, .int .i64 t.bits] 38)) := ((Below.refl _ _).alloc (Nat.le_refl _) _).alloc (by simp) _
  have HG := Lib.hid (kit_great [t] 3000 _ _ 1 _ (rd_one (at9_two w (.cells #[.int .i64 t.kind, .int .i64 t.int, .int .i64 t.gen, .string t.name, .string t.func, .int .i64 t.arity, .slice A t.items.length c, .string t.bytes, .int .i64 t.bits] 38) t A c) hw ((h.below hbel).imp (I' := fun b => b < w.heap.size + 2) (fun b hb => Nat.lt_add_right 2 hb)) (by omega)))
  have H9 := Lib.hid ((at9_one w t A c).below (w' := (w.alloc (.cells #[.int .i64 t.kind, .int .i64 t.int, .int .i64 t.gen, .string t.name, .string t.func, .int .i64 t.arity, .slice A t.items.length c, .string t.bytes, .int .i64 t.bits] 38)).alloc (.cells #[.int .i64 t.kind, .int .i64 t.int, .int .i64 t.gen, .string t.name, .string t.func, .int .i64 t.arity, .slice A t.items.length c, .string t.bytes, .int .i64 t.bits] 38)) ((Below.refl _ _).alloc (Nat.le_refl _) _))
  have HB := Lib.hid hbel
  clear h hw hbel
  go_enter Tryz.func6, Tryz.ntmps6
  go_wp2_with (first | (go_at_call 31; refine HG.out.mono ?_; rintro e w1 ⟨⟨b, rfl⟩, hb⟩; have H9 := Lib.hid (H9.out.below hb); have HB := Lib.hid (HB.out.trans (hb.mono HB.out.size)); clear hb HG))
  · go_wp2_with (first | (go_at_call 12; refine (EvLa.awake _).mono ?_; rintro e w1 ⟨rfl, hb⟩; have HB := Lib.hid (HB.out.trans (hb.mono HB.out.size))))
    go_ret
    exact ⟨rfl, HB.out⟩
  · rcases (show n < 1 ∨ (1 ≤ n ∧ n > 1048576) ∨ (1 ≤ n ∧ n ≤ 1048576) by omega) with h1 | ⟨h1, h2⟩ | ⟨h1, h2⟩
    all_goals (
      go_wp2_with (first
        | (go_at_call 15; with_reducible refine (names_new _).mono ?_; rintro e w1 ⟨B1, o1, rfl, hb⟩; have H9 := Lib.hid (H9.out.below hb); have HB := Lib.hid (HB.out.trans (hb.mono HB.out.size)); clear hb)
        | (go_at_call 16; with_reducible refine (blobs_new _).mono ?_; rintro e w1 ⟨B2, o2, rfl, hb⟩; have H9 := Lib.hid (H9.out.below hb); have HB := Lib.hid (HB.out.trans (hb.mono HB.out.size)); clear hb)
        | (go_at_call 18; with_reducible refine (new_nil1 _ _).mono ?_; rintro e w1 ⟨rfl, hb⟩; have H9 := Lib.hid (H9.out.below hb); have HB := Lib.hid (HB.out.trans (hb.mono HB.out.size)); clear hb)
        | (go_at_call 18; with_reducible refine (new_nil2 _ _).mono ?_; rintro e w1 ⟨rfl, hb⟩; have H9 := Lib.hid (H9.out.below hb); have HB := Lib.hid (HB.out.trans (hb.mono HB.out.size)); clear hb; have H := H9.out; simp only [At9, Nat.zero_add] at H; obtain ⟨F0, F1, F2, F3, F4, F5, F6, F7, F8⟩ := H)
        | (go_at_call 18; with_reducible refine (new_out _ _ _ (by omega) _).mono ?_; rintro e w1 ⟨rfl, hb⟩; have H9 := Lib.hid (H9.out.below hb); have HB := Lib.hid (HB.out.trans (hb.mono HB.out.size)); clear hb F0 F1 F2 F3 F4 F5 F6 F7 F8; have H := H9.out; simp only [At9, Nat.zero_add] at H; obtain ⟨F0, F1, F2, F3, F4, F5, F6, F7, F8⟩ := H)
        | (go_at_call 19; with_reducible refine (put_nil _ _ _ _).mono ?_; rintro e w1 ⟨x1, rfl, hb⟩; have HB := Lib.hid (HB.out.trans (hb.mono HB.out.size)); clear hb F0 F1 F2 F3 F4 F5 F6 F7 F8)
        | (go_at_call 30; with_reducible refine (get_nil _ _).mono ?_; rintro e w1 ⟨⟨k0, i0, g0, n0, f0, a0, s0, b0, rfl⟩, hb⟩; have HB := Lib.hid (HB.out.trans (hb.mono HB.out.size)); clear hb)
        | (go_at_call 41; with_reducible refine (number_nil _ _).mono ?_; rintro e w1 ⟨x1, rfl, hb⟩; have HB := Lib.hid (HB.out.trans (Below.mono (B := _) (Below.trans (by repeat' (first | (with_reducible exact Below.refl _ _) | (with_reducible refine Below.drew ?_) | (with_reducible refine below_drewN ?_ _) | (with_reducible refine Below.alloc ?_ ?_ _) | (with_reducible refine Below.setCell ?_ ?_ _) | (with_reducible exact Nat.le_refl _) | (simp; done) | omega | (simp; omega))) (hb.mono (by simp))) HB.out.size)); clear hb)
        | (go_at_call 42; with_reducible refine (cons_nil _ _).mono ?_; rintro e w1 ⟨x1, rfl, hb⟩; have HB := Lib.hid (HB.out.trans (Below.mono (B := _) (Below.trans (by repeat' (first | (with_reducible exact Below.refl _ _) | (with_reducible refine Below.drew ?_) | (with_reducible refine below_drewN ?_ _) | (with_reducible refine Below.alloc ?_ ?_ _) | (with_reducible refine Below.setCell ?_ ?_ _) | (with_reducible exact Nat.le_refl _) | (simp; done) | omega | (simp; omega))) (hb.mono (by simp))) HB.out.size)); clear hb)
        | (go_at_call 43; with_reducible refine (tuple_nil _ _ _ _).mono ?_; rintro e w1 ⟨x1, rfl, hb⟩; have HB := Lib.hid (HB.out.trans (Below.mono (B := _) (Below.trans (by repeat' (first | (with_reducible exact Below.refl _ _) | (with_reducible refine Below.drew ?_) | (with_reducible refine below_drewN ?_ _) | (with_reducible refine Below.alloc ?_ ?_ _) | (with_reducible refine Below.setCell ?_ ?_ _) | (with_reducible exact Nat.le_refl _) | (simp; done) | omega | (simp; omega))) (hb.mono (by simp))) HB.out.size)); clear hb)
        | (go_at_call 44; with_reducible refine (closure_nil _ _).mono ?_; rintro e w1 ⟨x1, rfl, hb⟩; have HB := Lib.hid (HB.out.trans (Below.mono (B := _) (Below.trans (by repeat' (first | (with_reducible exact Below.refl _ _) | (with_reducible refine Below.drew ?_) | (with_reducible refine below_drewN ?_ _) | (with_reducible refine Below.alloc ?_ ?_ _) | (with_reducible refine Below.setCell ?_ ?_ _) | (with_reducible exact Nat.le_refl _) | (simp; done) | omega | (simp; omega))) (hb.mono (by simp))) HB.out.size)); clear hb)
        | (go_at_call 23; with_reducible refine (bits_nil _ _).mono ?_; rintro e w1 ⟨x1, rfl, hb⟩; have HB := Lib.hid (HB.out.trans (Below.mono (B := _) (Below.trans (by repeat' (first | (with_reducible exact Below.refl _ _) | (with_reducible refine Below.drew ?_) | (with_reducible refine below_drewN ?_ _) | (with_reducible refine Below.alloc ?_ ?_ _) | (with_reducible refine Below.setCell ?_ ?_ _) | (with_reducible exact Nat.le_refl _) | (simp; done) | omega | (simp; omega))) (hb.mono (by simp))) HB.out.size)); clear hb)
        | (go_at_call 25; with_reducible refine (part_nil _ _).mono ?_; rintro e w1 ⟨x1, rfl, hb⟩; have HB := Lib.hid (HB.out.trans (Below.mono (B := _) (Below.trans (by repeat' (first | (with_reducible exact Below.refl _ _) | (with_reducible refine Below.drew ?_) | (with_reducible refine below_drewN ?_ _) | (with_reducible refine Below.alloc ?_ ?_ _) | (with_reducible refine Below.setCell ?_ ?_ _) | (with_reducible exact Nat.le_refl _) | (simp; done) | omega | (simp; omega))) (hb.mono (by simp))) HB.out.size)); clear hb)
        | (go_at_call 45; with_reducible refine (load_nil _).mono ?_; rintro e w1 ⟨rfl, hb⟩; have HB := Lib.hid (HB.out.trans (hb.mono HB.out.size)); clear hb)
        | (go_at_call 46; with_reducible refine (close_nil _).mono ?_; rintro e w1 ⟨rfl, hb⟩; have HB := Lib.hid (HB.out.trans (hb.mono HB.out.size)); clear hb)
        | (go_at_call 47; with_reducible refine (kind_nil _ _).mono ?_; rintro e w1 ⟨rfl, hb⟩; have HB := Lib.hid (HB.out.trans (hb.mono HB.out.size)); clear hb)
        | (go_at_call 40; with_reducible refine (room_nil _).mono ?_; rintro e w1 ⟨rfl, hb⟩; have HB := Lib.hid (HB.out.trans (hb.mono HB.out.size)); clear hb)
        | (go_at_call 20; with_reducible refine (used_nil _).mono ?_; rintro e w1 ⟨rfl, hb⟩; have HB := Lib.hid (HB.out.trans (hb.mono HB.out.size)); clear hb)
        | (go_at_call 48; with_reducible refine (size_nil _ _).mono ?_; rintro e w1 ⟨rfl, hb⟩; have HB := Lib.hid (HB.out.trans (hb.mono HB.out.size)); clear hb)
        | (go_at_call 49; with_reducible refine (cmp_nil _ _).mono ?_; rintro e w1 ⟨rfl, hb⟩; have HB := Lib.hid (HB.out.trans (hb.mono HB.out.size)); clear hb)
        | (go_at_call 12; with_reducible refine (EvLa.awake _).mono ?_; rintro e w1 ⟨rfl, hb⟩; have HB := Lib.hid (HB.out.trans (hb.mono HB.out.size)); clear hb)
        )
      go_ret
      exact ⟨rfl, HB.out⟩)
end Go.Proofs.YtpmephcfamcbjaaGreat
