/- How many parts terms have: 'Great' returns true or false, whatever the terms. -/
import Derived.Test.YtpmephcfamcbjaaGreatSame
namespace Go.Proofs.YtpmephcfamcbjaaGreat
open Go.RowKit

def LeftP (l : List T) : Prop := ∀ (m : Int) (I : Nat → Prop) (A : Option Addr) (c : Nat) (w : World), RdI I w l A c →
  Calls Tryz.prog 98 #[.slice A l.length c, .int .i64 m] w fun e w' => (∃ n, e = .returned (.int .i64 n)) ∧ Below w.heap.size w w'

set_option maxRecDepth 100000 in
set_option maxHeartbeats 1000000 in
theorem left_list (l : List T) (H : ∀ x ∈ l, LeftP x.items) : LeftP l := by
  intro m I A c w h
  have hc := h.cap
  have hl := h.len
  have ht : ∀ k, k < l.length → ∃ x, l[k]? = some x := fun k hk => getElem?_of_lt hk
  have HH := Lib.hid H; have Hh := Lib.hid h; have Ht := Lib.hid ht
  generalize hn : l.length = n at *
  clear H h ht hn
  go_enter Tryz.func98, Tryz.ntmps98
  go_wp2_with fail
  go_loopw [1, 5] (fun mv i wr => ∃ (k : Nat) (m : Int), k ≤ n ∧ mv = .int .i64 m ∧ i = .int .i64 k ∧ Below w.heap.size w wr) (fun _ i _ => n - (intOf i).toNat)
  case atStart => exact ⟨0, m, Nat.zero_le _, rfl, rfl, Below.refl _ _⟩
  case round =>
    obtain ⟨k, m, hk, rfl, rfl, hb⟩ := hrel
    by_cases hlt : k < n
    · obtain ⟨x, hx⟩ := Ht.out k hlt
      obtain ⟨b, o, A1, c1, rfl, _, h9, _, hr⟩ := Hh.out.at hx
      obtain ⟨F0, F1, F2, F3, F4, F5, F6, F7, F8⟩ := h9.below hb
      have hcall := Lib.hid (HH.out x (List.mem_of_getElem? hx))
      have Hr := Lib.hid hr
      clear hx h9 hr
      by_cases hm : m < 0
      · go_wp2
        go_ret
        exact ⟨⟨_, rfl⟩, hb⟩
      · go_wp2_with (first | (go_at_call 98; refine (hcall.out _ I A1 c1 _ ((Hr.out.below hb).below (by repeat' (first | (with_reducible exact Below.refl _ _) | (with_reducible refine Below.drew ?_) | (with_reducible refine below_drewN ?_ _) | (with_reducible refine Below.alloc ?_ ?_ _) | (with_reducible refine Below.setCell ?_ ?_ _) | (with_reducible exact Nat.le_refl _) | (simp; done) | omega | (simp; omega))))).mono ?_; rintro e w' ⟨⟨m', rfl⟩, hbb⟩))
        all_goals first
          | (go_ret; exact ⟨⟨_, rfl⟩, hb.trans (Below.mono (B := wr.heap.size) (by repeat' (first | (with_reducible exact Below.refl _ _) | (with_reducible refine Below.drew ?_) | (with_reducible refine below_drewN ?_ _) | (with_reducible refine Below.alloc ?_ ?_ _) | (with_reducible refine Below.setCell ?_ ?_ _) | (with_reducible exact Nat.le_refl _) | (simp; done) | omega | (simp; omega))) hb.size)⟩)
          | (go_roundw
             case rel => exact ⟨k + 1, m', by omega, rfl, by go_num, hb.trans (Below.mono (B := wr.heap.size) (Below.trans (by repeat' (first | (with_reducible exact Below.refl _ _) | (with_reducible refine Below.drew ?_) | (with_reducible refine below_drewN ?_ _) | (with_reducible refine Below.alloc ?_ ?_ _) | (with_reducible refine Below.setCell ?_ ?_ _) | (with_reducible exact Nat.le_refl _) | (simp; done) | omega | (simp; omega))) (hbb.mono (by simp))) hb.size)⟩
             case measure => simp [intOf]; omega)
    · obtain rfl : k = n := by omega
      go_wp2
      go_ret
      exact ⟨⟨_, rfl⟩, hb⟩
theorem left_any (l : List T) : LeftP l := left_list l fun x _ => T.induct (p := fun t => LeftP t.items) (fun _ ih => left_list _ ih) x
theorem kit_great (l : List T) (m : Int) (I : Nat → Prop) (A : Option Addr) (c : Nat) (w : World) (h : RdI I w l A c) :
    Calls Tryz.prog 31 #[.slice A l.length c, .int .i64 m] w fun e w' => (∃ b, e = .returned (.bool b)) ∧ Below w.heap.size w w' := by
  have hcall := Lib.hid (left_any l m I A c w h)
  clear h
  go_enter Tryz.func31, Tryz.ntmps31
  go_wp2_with (first | (go_at_call 98; refine hcall.out.mono ?_; rintro e w' ⟨⟨m', rfl⟩, hbb⟩))
  go_ret
  exact ⟨⟨_, rfl⟩, hbb⟩
end Go.Proofs.YtpmephcfamcbjaaGreat
