/-
  For every entry, round and age QueuesEffective returns true, and the arguments read as before. No condition.
-/
import Derived.Test.YtkmaaddlimgdoaaRowB
import Derived.Test.YtkmaaddlimgdoaaQC
import Derived.Test.YtkmaaddlimgdoaaQLives
import Derived.Test.YtkmaaddlimgdoaaQok
set_option linter.unusedVariables false
set_option linter.unusedSimpArgs false
set_option linter.unusedSectionVars false
set_option maxRecDepth 100000
namespace Go.V
open Go.Proofs

theorem envC : EnvOk Try.prog E35c := ⟨fun _ _ _ _ _ h => (by cases h), fns_ok, fun _ _ h => (by cases h)⟩
theorem extC : PrimsExt E35c := fun _ _ h => (by cases h)

theorem isTrue_elim {x : Option (Val × Heap)} (h : isTrue x = true) : ∃ h1, x = some (.bool true, h1) := by
  unfold isTrue at h
  split at h
  · rename_i h1; exact ⟨h1, rfl⟩
  · cases h

theorem lives_is : ∃ h1, run E35c 400 8 [] heap0 = some (.bool true, h1) := isTrue_elim lives_run

theorem ext35 : PrimsExt E35 := by
  intro f p h args h0 v h' e
  simp only [E35] at h
  split at h
  · cases h; exact whole_ext e
  · cases h

theorem env35 : EnvOk Try.prog E35 := by
  refine ⟨fun _ _ _ _ _ h => (by cases h), fns_ok, ?_⟩
  intro f p h
  simp only [E35] at h
  split at h
  · rename_i hf
    cases h
    subst hf
    obtain ⟨h1, e⟩ := lives_is
    exact whole_sound envC extC e
  · cases h

end Go.V
namespace Go.Proofs.Ytkmaaddlimgdoaa.effective
open Go.ChangeShapes Go.WideShapes Go.ChangeAt Go.RowKit Go.V

theorem own : ownKnob Try.prog.godebug = none := by kernel_rfl
theorem flat0 : flatT Try.prog 4 40 = some [.i64, .i64, .i64] := by kernel_rfl
theorem flat1 : flatT Try.prog 4 25 = some [.i64, .i64] := by kernel_rfl

theorem contract (H : Type) (enc : TypeId × Value → H) (W : World) (base : Nat) (args : Array Value) (ds gs : List (DataW H)) (before : List MemPlace)
    (hval : ∀ (j : Nat) t v, Try.f4.params[j]? = some t → args[j]? = some v → Value.okWide Try.prog W .any base t v)
    (hW : DataW.Whole enc Try.prog Try.f4.params.toList Rows.queuesEffectiveSpec.vars false W args.toList ds gs before) :
    Calls Try.prog 4 args W fun e W' => ∃ v, e = .returned v ∧ Rows.queuesEffectiveSpec.post enc Try.prog Try.f4 false true false false W args v W' := by
  have hW' := hW
  obtain ⟨p, q, hA0, hV, rfl, hfz, hnd⟩ := hW
  have hA : DataW.TrodAll enc Try.prog W 0 (fun _ => true) true Try.f4.params.toList args.toList ds p := hA0
  rw [Try.params4] at hA hval
  obtain ⟨v0, vs0, d0, ds0, p0, q0, hargs, rfl, rfl, ⟨n0, h0⟩, r0⟩ := trodAll_cons hA
  obtain ⟨v1, vs1, d1, ds1, p1, q1, rfl, rfl, rfl, ⟨n1, h1⟩, r1⟩ := trodAll_cons r0
  obtain ⟨rfl, rfl, rfl⟩ := trodAll_nil r1
  obtain rfl : args = #[v0, v1] := by cases args; simp_all
  obtain ⟨rfl, rfl⟩ := trodVars_none hV
  obtain ⟨c0, rfl, _⟩ := okWide_struct Try.underlying40 (hval 0 40 v0 rfl rfl)
  obtain ⟨c1, rfl, _⟩ : ∃ cs, v1 = .agg cs ∧ cs.size = Try.prog.cellsOf 25 := by
    have := hval 1 25 v1 rfl rfl
    unfold Value.okWide at this
    rw [Try.underlying25] at this
    obtain ⟨cs, a, b, _⟩ := this
    exact ⟨cs, a, b⟩
  obtain ⟨i0, _⟩ := flat_trod 4 40 _ n0 _ _ flat0 h0
  obtain ⟨i1, _⟩ := flat_trod 4 25 _ n1 _ _ flat1 h1
  have j0 : Ints [.i64, .i64, .i64] c0.toList := by simpa [Value.cells] using i0
  have j1 : Ints [.i64, .i64] c1.toList := by simpa [Value.cells] using i1
  obtain ⟨a, b, c, hl0, _⟩ := ints3 j0
  obtain ⟨d, e, hl1, _⟩ := ints2 j1
  obtain ⟨n, v, h', er, _, rfl⟩ := lawEff_ok (h := heap0) ⟨wf0.1, wf0.2.1, wf0.2.2⟩ (id := a) (cl := b) (si := c) (z0 := d) (z1 := e)
  have hr : VRels (fun _ => none) [ent a b c, .agg [.int .i64 d, .int .i64 e]] #[Value.agg c0, Value.agg c1].toList := by
    refine .cons ?_ (.cons ?_ .nil)
    · simp only [VRel]; exact ⟨c0, rfl, by rw [hl0]; exact .cons (by simp only [VRel]) (.cons (by simp only [VRel]) (.cons (by simp only [VRel]) .nil))⟩
    · simp only [VRel]; exact ⟨c1, rfl, by rw [hl1]; exact .cons (by simp only [VRel]) (.cons (by simp only [VRel]) .nil)⟩
  refine (law_closed env35 ext35 hr er W).mono ?_
  rintro en W' ⟨he, hs, ho, hp⟩
  exact ⟨_, he, post_law (by kernel_rfl) hW' rfl (by rfl) Try.underlying4 rfl hs ho hp⟩

set_option maxRecDepth 1000000 in
theorem lifted (os : Os) (started : os.Started) (H : Type) (enc : TypeId × Value → H) :
    ReturnsInHanded {} Try.checked os 4 .any (Rows.queuesEffectiveSpec.pre6 enc Try.prog Try.f4 Rows.queuesEffectiveRow.domain false) (Rows.queuesEffectiveSpec.post enc Try.prog Try.f4 false true false false) := by
  refine returnsInHanded_of_change (C := Try.checked) own started ?_ Try.func4 ?_ ?_
  · kernel_rfl
  · refine ChangeSpec.witness6 (enc := enc) (C := Try.checked) false ⟨#[], #[.agg #[.int .i64 0, .int .i64 0, .int .i64 0], .agg #[.int .i64 0, .int .i64 0]], []⟩ 8 ?_ ?_ ?_ ?_
    · kernel_rfl
    · kernel_rfl
    · kernel_rfl
    · kernel_rfl
  intro W base args ds gs before hval hW _ _
  exact contract H enc W base args ds gs before hval hW

theorem effective_holds : Rows.QueuesEffectiveSaid :=
  OpenClaim.holds_of_wide 4 Try.f4 rfl rfl rfl rfl rfl rfl rfl ⟨rfl, rfl, rfl, rfl, rfl⟩ rfl rfl rfl rfl rfl (by kernel_rfl) Try.func4 (by kernel_rfl)
    (of_decide_eq_true (by kernel_rfl)) (by unfold Func.isWrapper; first | (rw [if_pos (by decide +kernel)]; kernel_rfl) | (rw [if_neg (by decide +kernel)]; exact ⟨rfl, rfl⟩))
    (fun os started H enc _ => lifted os started H enc)
end Go.Proofs.Ytkmaaddlimgdoaa.effective
