/- What the form of claims reads as a term is a term in memory; it is within what memory holds. -/
import Derived.Test.YtpmephcfamcbjaaGreatMem
import Derived.Test.YtpmephcfamcbjaaGreatChecked
import Derived.OpenShut
import Derived.ProofKit
import Derived.Carry
namespace Go.Proofs.YtpmephcfamcbjaaGreat
open Go.RowKit Go.ChangeShapes

theorem cells_T : Tryz.prog.cellsOf 38 = 9 := by kernel_rfl
theorem bytes_T : Tryz.prog.bytesOf 38 = 112 := by kernel_rfl
theorem cells_L : Tryz.prog.cellsOf 36 = 1 := by kernel_rfl
theorem cells_S : Tryz.prog.cellsOf 9 = 1 := by kernel_rfl
theorem cells_I : Tryz.prog.cellsOf 3 = 1 := by kernel_rfl
theorem cells_64 : Tryz.prog.cellsOf 2 = 1 := by kernel_rfl
theorem laidOut : laidOutB Tryz.prog = true := by kernel_rfl

theorem list_of {α : Type} {p : Nat → α → Prop} : ∀ n, (∀ i, i < n → ∃ t, p i t) → ∃ l : List α, l.length = n ∧ ∀ i t, l[i]? = some t → p i t
  | 0, _ => ⟨[], rfl, fun i t h => by simp at h⟩
  | n + 1, h => by
    obtain ⟨l, hl, hp⟩ := list_of n fun i hi => h i (by omega)
    obtain ⟨t, ht⟩ := h n (by omega)
    refine ⟨l ++ [t], by simp [hl], fun i u hu => ?_⟩
    rcases Nat.lt_or_ge i n with hi | hi
    · rw [List.getElem?_append_left (by omega)] at hu; exact hp i u hu
    · rw [List.getElem?_append_right (by omega)] at hu
      have : i - l.length = 0 := by
        rcases Nat.eq_zero_or_pos (i - l.length) with h0 | h0
        · exact h0
        · rw [List.getElem?_eq_none (by simp; omega)] at hu; cases hu
      rw [this] at hu
      simp at hu
      subst hu
      rw [show i = n by omega]
      exact ht
theorem rdL_of {I : Nat → Prop} {w : World} {b : Nat} : ∀ (l : List T) (o : Nat), (∀ k t, l[k]? = some t → ∃ A c, At9 w b (o + k * 9) t A c ∧ t.wfh ∧ RdI I w t.items A c) → RdL I w l b o
  | [], _, _ => by rw [RdL]; trivial
  | t :: l, o, h => by
    rw [RdL]
    obtain ⟨A, c, h1, h2, h3⟩ := h 0 t rfl
    refine ⟨⟨A, c, by simpa using h1, h2, rdT_iff.2 h3⟩, rdL_of l (o + 9) fun k u hu => ?_⟩
    obtain ⟨A, c, h1, h2, h3⟩ := h (k + 1) u (by simpa using hu)
    exact ⟨A, c, by rw [show o + 9 + k * 9 = o + (k + 1) * 9 by omega]; exact h1, h2, h3⟩
theorem i64_wf {n : Int} (h : (Lit.int .i64 n).wf = true) : -9223372036854775808 ≤ n ∧ n ≤ 9223372036854775807 := bounds_i64 h
theorem str_size (s : ByteArray) : s.data.toList.length = s.size := by rw [Array.length_toList]; rfl

theorem add_eq (a : Addr) (n : Nat) : (a.add n).block = a.block ∧ (a.add n).off = a.off + n := by
  unfold Addr.add; split <;> simp_all
theorem add_spot {a : Addr} {n : Nat} (h : a.spot = none) : a.add n = ⟨a.block, a.off + n, none⟩ := by
  obtain ⟨b, o, s⟩ := a
  simp only at h; subst h
  unfold Addr.add; split <;> simp_all
section
variable {H : Type} {enc : TypeId × Value → H} {W : World}
def RdOk (enc : TypeId × Value → H) (W : World) (fuel : Nat) : Prop := ∀ (cs : List Value) (d : DataW H) (ps : List MemPlace), DataW.trod enc Tryz.prog W 0 (fun _ => true) true fuel 38 cs = some (d, ps) →
  (DataW.weights Tryz.prog 38 d).all (· ≤ reachBytes) = true →
  ∃ (t : T) (A : Option Addr) (c : Nat), cs = [.int .i64 t.kind, .int .i64 t.int, .int .i64 t.gen, .string t.name, .string t.func, .int .i64 t.arity, .slice A t.items.length c, .string t.bytes, .int .i64 t.bits] ∧ t.wfh ∧ RdI (fun b => b < W.heap.size) W t.items A c
theorem all_of_mem {l : List (DataW H)} {d : DataW H} {e : TypeId} (h : (DataW.weightsAll Tryz.prog e l).all (· ≤ reachBytes) = true) (hd : d ∈ l) : (DataW.weights Tryz.prog e d).all (· ≤ reachBytes) = true := by
  induction l with
  | nil => cases hd
  | cons x l ih =>
    rw [DataW.weightsAll, List.all_append, Bool.and_eq_true] at h
    rcases List.mem_cons.1 hd with rfl | hd
    · exact h.1
    · exact ih h.2 hd
/-- a list of terms, if its elements read -/
theorem rd_list (n : Nat) (ih : ∀ m, m < n → RdOk enc W m) {cs : List Value} {x : DataW H × List MemPlace} (h : DataW.trod enc Tryz.prog W 0 (fun _ => true) true n 36 cs = some x) (hw : (DataW.weights Tryz.prog 36 x.1).all (· ≤ reachBytes) = true) :
    ∃ (its : List T) (A : Option Addr) (c : Nat), cs = [.slice A its.length c] ∧ RdI (fun b => b < W.heap.size) W its A c := by
  rcases DataW.trod_slice Tryz.underlying36 h with ⟨rfl, _⟩ | ⟨a, len, cap, elems, rest, m, rfl, rfl, rfl, _, hlc, _, hel, hat, hsp, _⟩
  · exact ⟨[], none, 0, rfl, RdI.nil _⟩
  · obtain ⟨hr, _⟩ := hsp rfl
    simp only [DataW.weights, Tryz.underlying36, List.all_cons, List.all_append, Bool.and_eq_true, decide_eq_true_eq, bytes_T, List.length_map] at hw
    obtain ⟨hw1, hw2, _⟩ := hw
    have hcap : cap * 112 ≤ 140737488351232 := by
      have : elems.length + rest.length = cap := by omega
      rw [this] at hw1; exact hw1
    have each : ∀ i, i < len → ∃ t : T, ∃ (A : Option Addr) (c : Nat), At9 W a.block (a.off + i * 9) t A c ∧ t.wfh ∧ RdI (fun b => b < W.heap.size) W t.items A c ∧ (a.add (i * 9)).spot = none := fun i hi => by
      have h1 := hat i hi
      rw [cells_T] at h1
      obtain ⟨y, hy⟩ : ∃ y, elems[i]? = some y := ⟨elems[i], by simp [hel, hi]⟩
      rw [hy, Option.bind_eq_some_iff] at h1
      obtain ⟨cs', hc', ht'⟩ := h1
      obtain ⟨t, A, c, rfl, hwf, hrd⟩ := ih m (by omega) cs' y.1 y.2 ht' (all_of_mem hw2 (List.mem_map.2 ⟨y, List.mem_of_getElem? hy, rfl⟩))
      obtain ⟨_, _, hcell⟩ := World.cells?_some hc'
      obtain ⟨hb, ho⟩ := add_eq a (i * 9)
      have hs : (a.add (i * 9)).spot = none := by
        have h2 := hcell 0 (by omega)
        simpa [Addr.add] using World.cell?_spot h2
      have key : ∀ j, j < 9 → W.cell? ⟨a.block, a.off + i * 9 + j, none⟩ = [Value.int .i64 t.kind, .int .i64 t.int, .int .i64 t.gen, .string t.name, .string t.func, .int .i64 t.arity, .slice A t.items.length c, .string t.bytes, .int .i64 t.bits][j]? := fun j hj => by
        rw [← hcell j hj, add_spot hs, hb, ho]
      exact ⟨t, A, c, ⟨key 0 (by omega), key 1 (by omega), key 2 (by omega), key 3 (by omega), key 4 (by omega), key 5 (by omega), key 6 (by omega), key 7 (by omega), key 8 (by omega)⟩, hwf, hrd, hs⟩
    obtain ⟨its, hl, hp⟩ := list_of (p := fun i t => ∃ (A : Option Addr) (c : Nat), At9 W a.block (a.off + i * 9) t A c ∧ t.wfh ∧ RdI (fun b => b < W.heap.size) W t.items A c ∧ (a.add (i * 9)).spot = none) len each
    refine ⟨its, some a, cap, by rw [hl], by omega, hcap, ?_⟩
    cases its with
    | nil => exact .inl rfl
    | cons t its =>
      obtain ⟨A, c, h9, _, _, hs⟩ := hp 0 t rfl
      have hs' : a.spot = none := by simpa [Addr.add] using hs
      refine .inr ⟨a.block, a.off, by rw [← hs'], World.block_lt_of_cell? W ⟨a.block, a.off + 0 * 9, none⟩ h9.1, rdL_of _ _ fun k u hu => ?_⟩
      obtain ⟨A, c, h1, h2, h3, _⟩ := hp k u hu
      exact ⟨A, c, h1, h2, h3⟩
theorem all_len {α : Type} : ∀ (n : Nat) (l : List α), l.length = n + 1 → ∃ x r, l = x :: r ∧ r.length = n
  | n, x :: r, h => ⟨x, r, rfl, by simpa using h⟩
theorem nine {α : Type} (l : List α) (h : l.length = 9) : ∃ a b c d e f g i j, l = [a, b, c, d, e, f, g, i, j] := by
  obtain ⟨c0, cs, rfl, h1⟩ := all_len 8 l h
  obtain ⟨c1, cs, rfl, h2⟩ := all_len 7 cs h1
  obtain ⟨c2, cs, rfl, h3⟩ := all_len 6 cs h2
  obtain ⟨c3, cs, rfl, h4⟩ := all_len 5 cs h3
  obtain ⟨c4, cs, rfl, h5⟩ := all_len 4 cs h4
  obtain ⟨c5, cs, rfl, h6⟩ := all_len 3 cs h5
  obtain ⟨c6, cs, rfl, h7⟩ := all_len 2 cs h6
  obtain ⟨c7, cs, rfl, h8⟩ := all_len 1 cs h7
  obtain ⟨c8, cs, rfl, h9⟩ := all_len 0 cs h8
  obtain rfl := List.eq_nil_of_length_eq_zero h9
  exact ⟨_, _, _, _, _, _, _, _, _, rfl⟩
theorem rd_fuel : ∀ n, RdOk enc W n := by
  intro n
  induction n using Nat.strongRecOn with
  | ind n ih =>
    intro cs d ps h hw
    obtain ⟨xs, m, rfl, hx, hlen, hxl, hf⟩ := DataW.trod_struct Tryz.underlying38 h
    rw [cells_T] at hlen
    have hxl' : xs.length = 9 := hxl
    obtain ⟨c0, c1, c2, c3, c4, c5, c6, c7, c8, rfl⟩ := nine cs hlen
    obtain ⟨x0, x1, x2, x3, x4, x5, x6, x7, x8, rfl⟩ := nine xs hxl'
    have f0 : DataW.trod enc Tryz.prog W 0 (fun _ => true) true m 3 (([c0, c1, c2, c3, c4, c5, c6, c7, c8].drop 0).take (Tryz.prog.cellsOf 3)) = some x0 := hf 0 _ rfl
    rw [cells_I] at f0
    simp only [List.drop_zero, List.drop_succ_cons, List.take_succ_cons, List.take_zero] at f0
    have f1 : DataW.trod enc Tryz.prog W 0 (fun _ => true) true m 2 (([c0, c1, c2, c3, c4, c5, c6, c7, c8].drop 1).take (Tryz.prog.cellsOf 2)) = some x1 := hf 1 _ rfl
    rw [cells_64] at f1
    simp only [List.drop_zero, List.drop_succ_cons, List.take_succ_cons, List.take_zero] at f1
    have f2 : DataW.trod enc Tryz.prog W 0 (fun _ => true) true m 2 (([c0, c1, c2, c3, c4, c5, c6, c7, c8].drop 2).take (Tryz.prog.cellsOf 2)) = some x2 := hf 2 _ rfl
    rw [cells_64] at f2
    simp only [List.drop_zero, List.drop_succ_cons, List.take_succ_cons, List.take_zero] at f2
    have f3 : DataW.trod enc Tryz.prog W 0 (fun _ => true) true m 9 (([c0, c1, c2, c3, c4, c5, c6, c7, c8].drop 3).take (Tryz.prog.cellsOf 9)) = some x3 := hf 3 _ rfl
    rw [cells_S] at f3
    simp only [List.drop_zero, List.drop_succ_cons, List.take_succ_cons, List.take_zero] at f3
    have f4 : DataW.trod enc Tryz.prog W 0 (fun _ => true) true m 9 (([c0, c1, c2, c3, c4, c5, c6, c7, c8].drop 4).take (Tryz.prog.cellsOf 9)) = some x4 := hf 4 _ rfl
    rw [cells_S] at f4
    simp only [List.drop_zero, List.drop_succ_cons, List.take_succ_cons, List.take_zero] at f4
    have f5 : DataW.trod enc Tryz.prog W 0 (fun _ => true) true m 3 (([c0, c1, c2, c3, c4, c5, c6, c7, c8].drop 5).take (Tryz.prog.cellsOf 3)) = some x5 := hf 5 _ rfl
    rw [cells_I] at f5
    simp only [List.drop_zero, List.drop_succ_cons, List.take_succ_cons, List.take_zero] at f5
    have f6 : DataW.trod enc Tryz.prog W 0 (fun _ => true) true m 36 (([c0, c1, c2, c3, c4, c5, c6, c7, c8].drop 6).take (Tryz.prog.cellsOf 36)) = some x6 := hf 6 _ rfl
    rw [cells_L] at f6
    simp only [List.drop_zero, List.drop_succ_cons, List.take_succ_cons, List.take_zero] at f6
    have f7 : DataW.trod enc Tryz.prog W 0 (fun _ => true) true m 9 (([c0, c1, c2, c3, c4, c5, c6, c7, c8].drop 7).take (Tryz.prog.cellsOf 9)) = some x7 := hf 7 _ rfl
    rw [cells_S] at f7
    simp only [List.drop_zero, List.drop_succ_cons, List.take_succ_cons, List.take_zero] at f7
    have f8 : DataW.trod enc Tryz.prog W 0 (fun _ => true) true m 3 (([c0, c1, c2, c3, c4, c5, c6, c7, c8].drop 8).take (Tryz.prog.cellsOf 3)) = some x8 := hf 8 _ rfl
    rw [cells_I] at f8
    simp only [List.drop_zero, List.drop_succ_cons, List.take_succ_cons, List.take_zero] at f8
    obtain ⟨i0, e0, y0, w0⟩ := DataW.trod_int Tryz.underlying3 f0
    obtain ⟨i1, e1, y1, w1⟩ := DataW.trod_int Tryz.underlying2 f1
    obtain ⟨i2, e2, y2, w2⟩ := DataW.trod_int Tryz.underlying2 f2
    obtain ⟨s3, e3, y3, w3⟩ := DataW.trod_string Tryz.underlying9 f3
    obtain ⟨s4, e4, y4, w4⟩ := DataW.trod_string Tryz.underlying9 f4
    obtain ⟨i5, e5, y5, w5⟩ := DataW.trod_int Tryz.underlying3 f5
    obtain ⟨s7, e7, y7, w7⟩ := DataW.trod_string Tryz.underlying9 f7
    obtain ⟨i8, e8, y8, w8⟩ := DataW.trod_int Tryz.underlying3 f8
    simp only [Prod.mk.injEq] at hx
    obtain ⟨rfl, _⟩ := hx
    subst y0 y1 y2 y3 y4 y5 y7 y8
    simp only [DataW.weights, Tryz.underlying38, DataW.weightsEach, List.map_cons, List.all_append, List.all_cons, List.all_nil, Bool.and_eq_true, decide_eq_true_eq, str_size, Bool.and_true, List.nil_append] at hw
    obtain ⟨a3, a4, a6, a7⟩ := hw
    simp only [List.cons.injEq, and_true] at e0 e1 e2 e3 e4 e5 e7 e8
    subst e0 e1 e2 e3 e4 e5 e7 e8
    obtain ⟨its, A, c, e6, hr⟩ := rd_list m (fun k hk => ih k (by omega)) f6 a6
    simp only [List.cons.injEq, and_true] at e6
    subst e6
    refine ⟨T.mk i0 i1 i2 s3 s4 i5 its s7 i8, A, c, rfl, ?_, hr⟩
    have b0 := i64_wf w0
    have b1 := i64_wf w1
    have b2 := i64_wf w2
    have b5 := i64_wf w5
    have b8 := i64_wf w8
    exact ⟨a3, a4, a7.1, b0.1, b0.2, b1.1, b1.2, b2.1, b2.2, b5.1, b5.2, b8.1, b8.2⟩
theorem formed_cells {v : Value} {cs : Array Value} (h : v.cells.toList = cs.toList) (h2 : cs.size ≠ 1) : v = .agg cs := by
  have h3 : v.cells = cs := Array.toList_inj.1 h
  subst h3
  cases v <;> first | rfl | exact absurd rfl h2
/-- a term, as it is passed -/
theorem rd_term {v : Value} {d : DataW H} {ps : List MemPlace} (h : DataW.Trod enc Tryz.prog W 0 (fun _ => true) true 38 v d ps) (hw : (DataW.weights Tryz.prog 38 d).all (· ≤ reachBytes) = true) :
    ∃ (t : T) (A : Option Addr) (c : Nat), v = t.val A c ∧ t.wfh ∧ RdI (fun b => b < W.heap.size) W t.items A c := by
  obtain ⟨n, hn⟩ := h
  obtain ⟨t, A, c, h1, h2, h3⟩ := rd_fuel n _ _ _ hn hw
  exact ⟨t, A, c, formed_cells h1 (by simp), h2, h3⟩
end
end Go.Proofs.YtpmephcfamcbjaaGreat
