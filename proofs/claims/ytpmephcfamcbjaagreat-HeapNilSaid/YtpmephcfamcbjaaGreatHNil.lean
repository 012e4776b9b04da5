/- What the methods of a heap return at a nil receiver; New out of its range. -/
import Derived.Test.YtpmephcfamcbjaaGreatEvLa
import Derived.Test.YtpmephcfamcbjaaGreatEvLb
import Derived.Test.YtpmephcfamcbjaaGreatMem
namespace Go.Proofs.YtpmephcfamcbjaaGreat
open Go Go.RowKit Go.Proofs.YtpmephcfamcbjaaGreat.Ev

theorem allOk_append {P : Program} : ∀ {l r : List (Nat × DFun)}, AllOk P l → AllOk P r → AllOk P (l ++ r)
  | [], _, _, h => h
  | _ :: _, _, ⟨h1, h2⟩, h => ⟨h1, allOk_append h2 h⟩
def nilTab : List (Nat × DFun) := EvLa.tab ++ EvLb.tab
theorem nilTab_ok : AllOk Tryz.prog nilTab := allOk_append EvLa.tab_ok EvLb.tab_ok
def opqs : Nat → List Nat → List DV
  | _, [] => []
  | i, _ :: l => .opq i :: opqs (i + 1) l
def tup2 : DV → Bool
  | .tup [_, .int .i64 1] => true
  | _ => false
theorem tup2_iff {σ : Nat → Value} {ρ : Ren} {dv : DV} {v : Value} (h : tup2 dv = true) (hv : VRel σ ρ dv v) : ∃ x, v = .tuple #[x, .int .i64 1] := by
  unfold tup2 at h
  split at h
  · simp only [VRel, VRels] at hv
    obtain ⟨cs, rfl, y, ys, h1, _, z, zs, rfl, rfl, rfl⟩ := hv
    refine ⟨y, ?_⟩
    congr 1
    exact Array.toList_inj.1 h1
  · cases h
/-- the values that a run does not look into -/
def sg (l : List Value) (i : Nat) : Value := l.getD i (.bool true)
theorem oq {ρ : Ren} {l : List Value} {i : Nat} {v : Value} (h : l[i]? = some v) (h1 : v.oneCell' = true) : VRel (sg l) ρ (.opq i) v := by
  simp [VRel, sg, List.getD, h, h1]

theorem vnil {σ : Nat → Value} {ρ : Ren} : VRels σ ρ [] [] := by simp [VRels]
theorem vcons {σ : Nat → Value} {ρ : Ren} {x : DV} {v : Value} {xs : List DV} {vs : List Value} (h : VRel σ ρ x v) (k : VRels σ ρ xs vs) : VRels σ ρ (x :: xs) (v :: vs) := by
  rw [VRels]; exact ⟨v, vs, rfl, h, k⟩
theorem vagg {σ : Nat → Value} {ρ : Ren} {l : List DV} {cs : Array Value} (h : VRels σ ρ l cs.toList) : VRel σ ρ (.agg l) (.agg cs) := by
  rw [VRel]; exact ⟨cs, rfl, h⟩
theorem vstr {σ : Nat → Value} {ρ : Ren} {s : ByteArray} {l : List Nat} (h : s.data.toList.map UInt8.toNat = l) : VRel σ ρ (.str l) (.string s) := by
  rw [VRel]; exact ⟨s, rfl, h⟩
def isI (k : IntKind) (n : Int) : DV → Bool
  | .int k' m => decide (k = k') && decide (m = n)
  | _ => false
theorem isI_iff {σ : Nat → Value} {ρ : Ren} {dv : DV} {v : Value} {k : IntKind} {n : Int} (h : isI k n dv = true) (hv : VRel σ ρ dv v) : v = .int k n := by
  unfold isI at h
  split at h
  · simp only [Bool.and_eq_true, decide_eq_true_eq] at h
    rw [VRel] at hv
    rw [hv, h.1, h.2]
  · cases h
def is0 : DV → Bool
  | .tup [] => true
  | _ => false
theorem is0_iff {σ : Nat → Value} {ρ : Ren} {dv : DV} {v : Value} (h : is0 dv = true) (hv : VRel σ ρ dv v) : v = .tuple #[] := by
  unfold is0 at h
  split at h
  · simp only [VRel, VRels] at hv
    obtain ⟨cs, rfl, h⟩ := hv
    rw [show cs = #[] from Array.toList_inj.1 h]
  · cases h

theorem put_nil (t : T) (A : Option Addr) (c : Nat) (w : World) : Calls Tryz.prog 19 #[.pointer none, t.val A c] w fun e w' => ∃ x, e = .returned (.tuple #[x, .int .i64 1]) ∧ Below w.heap.size w w' := by
  refine (run_chk (σ := sg [.int .i64 t.kind, .int .i64 t.int, .int .i64 t.gen, .string t.name, .string t.func, .int .i64 t.arity, .slice A t.items.length c, .string t.bytes, .int .i64 t.bits]) nilTab nilTab_ok 300 19 [.nilp, .agg [.opq 0, .opq 1, .opq 2, .opq 3, .opq 4, .opq 5, .opq 6, .opq 7, .opq 8]] tup2 (by decide +kernel) _ ?_ w).mono ?_
  · repeat' (first | exact vnil | refine vcons ?_ ?_ | refine vagg ?_ | exact oq rfl rfl | (simp [VRel]; done))
  · rintro e w' ⟨dv, ρ', v, rfl, h1, h2, _, h3⟩
    obtain ⟨x, rfl⟩ := tup2_iff h1 h2
    exact ⟨x, rfl, h3⟩
theorem number_nil (u : Int) (w : World) : Calls Tryz.prog 41 #[.pointer none, .int .i64 u] w fun e w' => ∃ x, e = .returned (.tuple #[x, .int .i64 1]) ∧ Below w.heap.size w w' := by
  refine (run_chk (σ := sg [.int .i64 u]) nilTab nilTab_ok 300 41 [.nilp, .opq 0] tup2 (by decide +kernel) _ ?_ w).mono ?_
  · repeat' (first | exact vnil | refine vcons ?_ ?_ | refine vagg ?_ | exact oq rfl rfl | (simp [VRel]; done))
  · rintro e w' ⟨dv, ρ', v, rfl, h1, h2, _, h3⟩
    obtain ⟨x, rfl⟩ := tup2_iff h1 h2
    exact ⟨x, rfl, h3⟩
theorem cons_nil (u : Int) (w : World) : Calls Tryz.prog 42 #[.pointer none, .int .u64 u, .int .u64 u] w fun e w' => ∃ x, e = .returned (.tuple #[x, .int .i64 1]) ∧ Below w.heap.size w w' := by
  refine (run_chk (σ := sg [.int .u64 u]) nilTab nilTab_ok 300 42 [.nilp, .opq 0, .opq 0] tup2 (by decide +kernel) _ ?_ w).mono ?_
  · repeat' (first | exact vnil | refine vcons ?_ ?_ | refine vagg ?_ | exact oq rfl rfl | (simp [VRel]; done))
  · rintro e w' ⟨dv, ρ', v, rfl, h1, h2, _, h3⟩
    obtain ⟨x, rfl⟩ := tup2_iff h1 h2
    exact ⟨x, rfl, h3⟩
theorem tuple_nil (A : Option Addr) (n c : Nat) (w : World) : Calls Tryz.prog 43 #[.pointer none, .slice A n c] w fun e w' => ∃ x, e = .returned (.tuple #[x, .int .i64 1]) ∧ Below w.heap.size w w' := by
  refine (run_chk (σ := sg [.slice A n c]) nilTab nilTab_ok 300 43 [.nilp, .opq 0] tup2 (by decide +kernel) _ ?_ w).mono ?_
  · repeat' (first | exact vnil | refine vcons ?_ ?_ | refine vagg ?_ | exact oq rfl rfl | (simp [VRel]; done))
  · rintro e w' ⟨dv, ρ', v, rfl, h1, h2, _, h3⟩
    obtain ⟨x, rfl⟩ := tup2_iff h1 h2
    exact ⟨x, rfl, h3⟩
theorem closure_nil (s : ByteArray) (w : World) : Calls Tryz.prog 44 #[.pointer none, .string s, .int .i64 1, .int .i64 0, .int .i64 0, .slice none 0 0] w fun e w' => ∃ x, e = .returned (.tuple #[x, .int .i64 1]) ∧ Below w.heap.size w w' := by
  refine (run_chk (σ := sg [.string s]) nilTab nilTab_ok 300 44 [.nilp, .opq 0, .int .i64 1, .int .i64 0, .int .i64 0, .nils] tup2 (by decide +kernel) _ ?_ w).mono ?_
  · repeat' (first | exact vnil | refine vcons ?_ ?_ | refine vagg ?_ | exact oq rfl rfl | (simp [VRel]; done))
  · rintro e w' ⟨dv, ρ', v, rfl, h1, h2, _, h3⟩
    obtain ⟨x, rfl⟩ := tup2_iff h1 h2
    exact ⟨x, rfl, h3⟩
theorem bits_nil (s : ByteArray) (w : World) : Calls Tryz.prog 23 #[.pointer none, .agg #[.string s, .int .i64 0]] w fun e w' => ∃ x, e = .returned (.tuple #[x, .int .i64 1]) ∧ Below w.heap.size w w' := by
  refine (run_chk (σ := sg [.string s]) nilTab nilTab_ok 300 23 [.nilp, .agg [.opq 0, .int .i64 0]] tup2 (by decide +kernel) _ ?_ w).mono ?_
  · repeat' (first | exact vnil | refine vcons ?_ ?_ | refine vagg ?_ | exact oq rfl rfl | (simp [VRel]; done))
  · rintro e w' ⟨dv, ρ', v, rfl, h1, h2, _, h3⟩
    obtain ⟨x, rfl⟩ := tup2_iff h1 h2
    exact ⟨x, rfl, h3⟩
theorem part_nil (u : Int) (w : World) : Calls Tryz.prog 25 #[.pointer none, .int .u64 u, .int .i64 0, .int .i64 0] w fun e w' => ∃ x, e = .returned (.tuple #[x, .int .i64 1]) ∧ Below w.heap.size w w' := by
  refine (run_chk (σ := sg [.int .u64 u]) nilTab nilTab_ok 300 25 [.nilp, .opq 0, .int .i64 0, .int .i64 0] tup2 (by decide +kernel) _ ?_ w).mono ?_
  · repeat' (first | exact vnil | refine vcons ?_ ?_ | refine vagg ?_ | exact oq rfl rfl | (simp [VRel]; done))
  · rintro e w' ⟨dv, ρ', v, rfl, h1, h2, _, h3⟩
    obtain ⟨x, rfl⟩ := tup2_iff h1 h2
    exact ⟨x, rfl, h3⟩
def isT : DV → Bool
  | .tup [.agg [.int .i64 _, .int .i64 _, .int .i64 _, .str _, .str _, .int .i64 _, .nils, .str _, .int .i64 _], .int .i64 1] => true
  | _ => false
theorem isT_iff {σ : Nat → Value} {ρ : Ren} {dv : DV} {v : Value} (h : isT dv = true) (hv : VRel σ ρ dv v) :
    ∃ k i g n f a s b, v = .tuple #[.agg #[.int .i64 k, .int .i64 i, .int .i64 g, .string n, .string f, .int .i64 a, .slice none 0 0, .string s, .int .i64 b], .int .i64 1] := by
  unfold isT at h
  split at h
  · rename_i k i g l1 l2 a l3 b
    rw [VRel] at hv
    obtain ⟨cs, rfl, hv⟩ := hv
    rw [VRels] at hv
    obtain ⟨y, ys, h1, h2, h3⟩ := hv
    rw [VRels] at h3
    obtain ⟨z, zs, rfl, h4, h5⟩ := h3
    rw [VRels] at h5
    rw [VRel] at h4
    subst h4 h5
    rw [VRel] at h2
    obtain ⟨ds, rfl, h2⟩ := h2
    simp only [VRels, VRel] at h2
    obtain ⟨_, _, e, rfl, _, _, rfl, rfl, _, _, rfl, rfl, _, _, rfl, ⟨s1, rfl, _⟩, _, _, rfl, ⟨s2, rfl, _⟩, _, _, rfl, rfl, _, _, rfl, rfl, _, _, rfl, ⟨s3, rfl, _⟩, _, _, rfl, rfl, rfl⟩ := h2
    refine ⟨k, i, g, s1, s2, a, s3, b, ?_⟩
    rw [show cs = #[_, _] from Array.toList_inj.1 h1, show ds = _ from Array.toList_inj.1 e]
  · cases h
theorem get_nil (u : Int) (w : World) : Calls Tryz.prog 30 #[.pointer none, .int .u64 u] w fun e w' => (∃ k i g n f a s b, e = .returned (.tuple #[.agg #[.int .i64 k, .int .i64 i, .int .i64 g, .string n, .string f, .int .i64 a, .slice none 0 0, .string s, .int .i64 b], .int .i64 1])) ∧ Below w.heap.size w w' := by
  refine (run_chk (σ := sg [.int .u64 u]) nilTab nilTab_ok 300 30 [.nilp, .opq 0] isT (by decide +kernel) _ ?_ w).mono ?_
  · repeat' (first | exact vnil | refine vcons ?_ ?_ | refine vagg ?_ | exact oq rfl rfl | (simp [VRel]; done))
  · rintro e w' ⟨dv, ρ', v, rfl, h1, h2, _, h3⟩
    obtain ⟨k, i, g, n, f, a, s, b, rfl⟩ := isT_iff h1 h2
    exact ⟨⟨k, i, g, n, f, a, s, b, rfl⟩, h3⟩
theorem load_nil (w : World) : Calls Tryz.prog 45 #[.pointer none, .agg #[.slice none 0 0, .slice none 0 0, .int .i64 0], .int .i64 1] w fun e w' => e = .returned (.int .i64 1) ∧ Below w.heap.size w w' := by
  refine (run_chk (σ := sg []) nilTab nilTab_ok 300 45 [.nilp, .agg [.nils, .nils, .int .i64 0], .int .i64 1] (isI .i64 1) (by decide +kernel) _ ?_ w).mono ?_
  · repeat' (first | exact vnil | refine vcons ?_ ?_ | refine vagg ?_ | exact oq rfl rfl | (simp [VRel]; done))
  · rintro e w' ⟨dv, ρ', v, rfl, h1, h2, _, h3⟩
    exact ⟨by rw [isI_iff h1 h2], h3⟩
theorem close_nil (w : World) : Calls Tryz.prog 46 #[.pointer none] w fun e w' => e = .returned (.tuple #[]) ∧ Below w.heap.size w w' := by
  refine (run_chk (σ := sg []) nilTab nilTab_ok 300 46 [.nilp] is0 (by decide +kernel) _ ?_ w).mono ?_
  · repeat' (first | exact vnil | refine vcons ?_ ?_ | refine vagg ?_ | exact oq rfl rfl | (simp [VRel]; done))
  · rintro e w' ⟨dv, ρ', v, rfl, h1, h2, _, h3⟩
    exact ⟨by rw [is0_iff h1 h2], h3⟩
theorem kind_nil (u : Int) (w : World) : Calls Tryz.prog 47 #[.pointer none, .int .u64 u] w fun e w' => e = .returned (.int .i64 0) ∧ Below w.heap.size w w' := by
  refine (run_chk (σ := sg [.int .u64 u]) nilTab nilTab_ok 300 47 [.nilp, .opq 0] (isI .i64 0) (by decide +kernel) _ ?_ w).mono ?_
  · repeat' (first | exact vnil | refine vcons ?_ ?_ | refine vagg ?_ | exact oq rfl rfl | (simp [VRel]; done))
  · rintro e w' ⟨dv, ρ', v, rfl, h1, h2, _, h3⟩
    exact ⟨by rw [isI_iff h1 h2], h3⟩
theorem room_nil  (w : World) : Calls Tryz.prog 40 #[.pointer none] w fun e w' => e = .returned (.int .i64 0) ∧ Below w.heap.size w w' := by
  refine (run_chk (σ := sg []) nilTab nilTab_ok 300 40 [.nilp] (isI .i64 0) (by decide +kernel) _ ?_ w).mono ?_
  · repeat' (first | exact vnil | refine vcons ?_ ?_ | refine vagg ?_ | exact oq rfl rfl | (simp [VRel]; done))
  · rintro e w' ⟨dv, ρ', v, rfl, h1, h2, _, h3⟩
    exact ⟨by rw [isI_iff h1 h2], h3⟩
theorem used_nil  (w : World) : Calls Tryz.prog 20 #[.pointer none] w fun e w' => e = .returned (.int .i64 0) ∧ Below w.heap.size w w' := by
  refine (run_chk (σ := sg []) nilTab nilTab_ok 300 20 [.nilp] (isI .i64 0) (by decide +kernel) _ ?_ w).mono ?_
  · repeat' (first | exact vnil | refine vcons ?_ ?_ | refine vagg ?_ | exact oq rfl rfl | (simp [VRel]; done))
  · rintro e w' ⟨dv, ρ', v, rfl, h1, h2, _, h3⟩
    exact ⟨by rw [isI_iff h1 h2], h3⟩
theorem size_nil (u : Int) (w : World) : Calls Tryz.prog 48 #[.pointer none, .int .u64 u] w fun e w' => e = .returned (.int .i64 0) ∧ Below w.heap.size w w' := by
  refine (run_chk (σ := sg [.int .u64 u]) nilTab nilTab_ok 300 48 [.nilp, .opq 0] (isI .i64 0) (by decide +kernel) _ ?_ w).mono ?_
  · repeat' (first | exact vnil | refine vcons ?_ ?_ | refine vagg ?_ | exact oq rfl rfl | (simp [VRel]; done))
  · rintro e w' ⟨dv, ρ', v, rfl, h1, h2, _, h3⟩
    exact ⟨by rw [isI_iff h1 h2], h3⟩
theorem cmp_nil (u : Int) (w : World) : Calls Tryz.prog 49 #[.pointer none, .int .u64 u, .int .u64 u] w fun e w' => e = .returned (.int .i64 0) ∧ Below w.heap.size w w' := by
  refine (run_chk (σ := sg [.int .u64 u]) nilTab nilTab_ok 300 49 [.nilp, .opq 0, .opq 0] (isI .i64 0) (by decide +kernel) _ ?_ w).mono ?_
  · repeat' (first | exact vnil | refine vcons ?_ ?_ | refine vagg ?_ | exact oq rfl rfl | (simp [VRel]; done))
  · rintro e w' ⟨dv, ρ', v, rfl, h1, h2, _, h3⟩
    exact ⟨by rw [isI_iff h1 h2], h3⟩
def isP : DV → Bool
  | .ptr _ 0 => true
  | _ => false
theorem isP_iff {σ : Nat → Value} {ρ : Ren} {dv : DV} {v : Value} {n m : Nat} (h : isP dv = true) (hv : VRel σ ρ dv v) (hb : ∀ b x, ρ b = some x → n ≤ x.1 ∧ x.1 < m) : ∃ B o, v = .pointer (some ⟨B, o, none⟩) ∧ n ≤ B ∧ B < m := by
  unfold isP at h
  split at h
  · rw [VRel] at hv
    obtain ⟨B, d, N, h1, h2⟩ := hv
    exact ⟨B, _, h2, (hb _ _ h1).1, (hb _ _ h1).2⟩
  · cases h
theorem names_new (w : World) : Calls Tryz.prog 15 #[] w fun e w' => ∃ B o, e = .returned (.pointer (some ⟨B, o, none⟩)) ∧ Below w.heap.size w w' := by
  refine (run_chk (σ := sg []) nilTab nilTab_ok 300 15 [] isP (by decide +kernel) _ vnil w).mono ?_
  rintro e w' ⟨dv, ρ', v, rfl, h1, h2, h4, h3⟩
  obtain ⟨B, o, rfl, _⟩ := isP_iff h1 h2 h4
  exact ⟨B, o, rfl, h3⟩
theorem blobs_new (w : World) : Calls Tryz.prog 16 #[] w fun e w' => ∃ B o, e = .returned (.pointer (some ⟨B, o, none⟩)) ∧ Below w.heap.size w w' := by
  refine (run_chk (σ := sg []) nilTab nilTab_ok 300 16 [] isP (by decide +kernel) _ vnil w).mono ?_
  rintro e w' ⟨dv, ρ', v, rfl, h1, h2, h4, h3⟩
  obtain ⟨B, o, rfl, _⟩ := isP_iff h1 h2 h4
  exact ⟨B, o, rfl, h3⟩
end Go.Proofs.YtpmephcfamcbjaaGreat
