/- HeapNil: New without a table or a store, or with a capacity out of range, returns nil; the methods of a nil heap return ErrNil and zero values: the law returns true for every term, word and number. No condition. -/
import Derived.Test.YtpmephcfamcbjaaGreatNilW
import Derived.Test.YtpmephcfamcbjaaGreatRead
import Derived.Test.YtpmephcfamcbjaaGreatClose
namespace Go.Proofs.YtpmephcfamcbjaaGreat
open Go.ChangeShapes Go.WideShapes Go.ChangeAt Go.RowKit

set_option maxRecDepth 100000 in
theorem heapNil_contract (H : Type) (enc : TypeId × Value → H) (W : World) (base : Nat) (args : Array Value) (ds gs : List (DataW H)) (before : List MemPlace)
    (hval : ∀ (j : Nat) t v, Tryz.f6.params[j]? = some t → args[j]? = some v → Value.okWide Tryz.prog W .any base t v)
    (hW : DataW.Whole enc Tryz.prog Tryz.f6.params.toList Rows.heapNilSpec.vars false W args.toList ds gs before)
    (hsz : (DataW.weightsEach Tryz.prog (Tryz.f6.params.toList ++ Rows.heapNilSpec.plain.varTypes Tryz.prog) (ds ++ gs)).all (· ≤ reachBytes) = true) :
    Calls Tryz.prog 6 args W fun e W' => ∃ v, e = .returned v ∧ Rows.heapNilSpec.post enc Tryz.prog Tryz.f6 false true false false W args v W' := by
  have hW' := hW
  obtain ⟨p, q, hA0, hV, rfl, hfz, hnd⟩ := hW
  have hA : DataW.TrodAll enc Tryz.prog W 0 (fun _ => true) true Tryz.f6.params.toList args.toList ds p := hA0
  rw [Tryz.params6] at hA hval hsz
  obtain ⟨v0, vs0, d0, ds0, p0, q0, hargs, rfl, rfl, h0, r0⟩ := trodAll_cons hA
  obtain ⟨v1, vs1, d1, ds1, p1, q1, rfl, rfl, rfl, h1, r1⟩ := trodAll_cons r0
  obtain ⟨v2, vs2, d2, ds2, p2, q2, rfl, rfl, rfl, h2, r2⟩ := trodAll_cons r1
  obtain ⟨rfl, rfl, rfl⟩ := trodAll_nil r2
  obtain rfl : args = #[v0, v1, v2] := by cases args; simp_all
  have hs0 : (DataW.weights Tryz.prog 38 d0).all (· ≤ reachBytes) = true := by
    simp only [List.cons_append, DataW.weightsEach, List.all_append, Bool.and_eq_true] at hsz
    exact hsz.1
  obtain ⟨t, A, c, rfl, hwf, hrd⟩ := rd_term h0 hs0
  obtain ⟨u, rfl, rfl, rfl, _⟩ := open_int Tryz.underlying40 (hval 1 40 v1 rfl rfl) h1
  obtain ⟨n, rfl, rfl, rfl, _⟩ := open_int Tryz.underlying3 (hval 2 3 v2 rfl rfl) h2
  clear hA0
  refine (heap_nil t A c u n W hrd hwf).mono fun e W' ⟨he, hb⟩ => ?_
  subst he
  obtain ⟨rfl, _⟩ := trodVars_none hV
  refine ⟨_, rfl, Cl.post_true rfl rfl rfl ?_ hW' hb⟩
  intro t ht
  rw [Tryz.params6] at ht
  have hall : ([38, 40, 3] : List TypeId).all (fun t => Tryz.prog.readableRec t && decide (t < Tryz.prog.types.size)) = true := by kernel_rfl
  have := List.all_eq_true.1 hall t ht
  simpa using this

set_option maxRecDepth 100000 in
theorem heapNil_lifted (os : Os) (started : os.Started) (H : Type) (enc : TypeId × Value → H) :
    ReturnsInHanded {} Tryz.checked os 6 .any (Rows.heapNilSpec.pre6 enc Tryz.prog Tryz.f6 Rows.heapNilRow.domain false) (Rows.heapNilSpec.post enc Tryz.prog Tryz.f6 false true false false) := by
  refine returnsInHanded_of_change_sized (C := Tryz.checked) Cl.own started (by kernel_rfl) Tryz.func6
    (ChangeSpec.witness6 (enc := enc) (C := Tryz.checked) false ⟨#[], #[.agg #[.int .i64 0, .int .i64 0, .int .i64 0, .string ⟨#[]⟩, .string ⟨#[]⟩, .int .i64 0, .slice none 0 0, .string ⟨#[]⟩, .int .i64 0], .int .u64 0, .int .i64 0], []⟩ 8 (by kernel_rfl) (by kernel_rfl) (by kernel_rfl) (by kernel_rfl)) ?_
  intro W base args ds gs before hval hW _ hsz _
  exact heapNil_contract H enc W base args ds gs before hval hW hsz

theorem heapNil_f1 : (Rows.heapNilRow.inPlace == Tryz.pinned.checked.prog.inPlace 6) = true := by kernel_rfl
theorem heapNil_f2 : (Rows.heapNilRow.unfollowed == Tryz.pinned.checked.prog.unfollowed 6) = true := by kernel_rfl
theorem heapNil_f3 : (Rows.heapNilRow.recurses == Tryz.pinned.checked.prog.recurses 6) = true := by kernel_rfl
theorem heapNil_f4 : (Rows.heapNilRow.named == Tryz.pinned.checked.prog.varsNamed 6) = true := by kernel_rfl
theorem heapNil_facts : joinedFacts Tryz.pinned.checked.prog 6 Tryz.f6 Rows.heapNilSpec Rows.heapNilRow = true := by
  unfold joinedFacts
  rw [heapNil_f1, heapNil_f2, heapNil_f3, heapNil_f4, Cl.laidP, Cl.rowedP]
  kernel_rfl
theorem heapNil_holds : Rows.HeapNilSaid :=
  OpenClaim.holds_of_wide 6 Tryz.f6 rfl rfl rfl rfl rfl rfl rfl ⟨rfl, rfl, rfl, rfl, rfl⟩ rfl rfl rfl rfl rfl (by kernel_rfl) Tryz.func6 heapNil_facts
    (of_decide_eq_true (by kernel_rfl)) (by unfold Func.isWrapper; first | (rw [if_pos (by decide +kernel)]; kernel_rfl) | (rw [if_neg (by decide +kernel)]; exact ⟨rfl, rfl⟩))
    (fun os started H enc _ => heapNil_lifted os started H enc)
#print axioms heapNil_holds
end Go.Proofs.YtpmephcfamcbjaaGreat
