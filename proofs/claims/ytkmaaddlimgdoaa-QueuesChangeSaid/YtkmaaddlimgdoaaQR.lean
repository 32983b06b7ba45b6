/-
  For every queue, entry and numbers QueuesChange returns true, and the arguments read as before. No condition.
-/
import Derived.Test.YtkmaaddlimgdoaaRowC
import Derived.Test.YtkmaaddlimgdoaaQQ
import Derived.Test.YtkmaaddlimgdoaaQEnv
set_option linter.unusedVariables false
set_option linter.unusedSimpArgs false
set_option linter.unusedSectionVars false
set_option maxRecDepth 100000
namespace Go.V
open Go.Proofs

theorem ents_of : ∀ (n : Nat) (l : List Value), Ints (List.replicate n [.i64, .i64, .i64]).flatten l → ∃ es : List Ent, es.length = n ∧ ∀ ρ, VRels ρ (es.flatMap Ent.cells) l
  | 0, [], _ => ⟨[], rfl, fun _ => .nil⟩
  | 0, _ :: _, h => h.elim
  | n + 1, l, h => by
    rw [List.replicate_succ, List.flatten_cons] at h
    match l, h with
    | _ :: _ :: _ :: l, ⟨⟨a, h1, _⟩, ⟨b, h2, _⟩, ⟨c, h3, _⟩, h4⟩ =>
      obtain ⟨es, e1, e2⟩ := ents_of n l h4
      refine ⟨⟨a, b, c⟩ :: es, by simp [e1], fun ρ => ?_⟩
      rw [List.flatMap_cons]
      subst h1 h2 h3
      exact .cons (by simp only [VRel]) (.cons (by simp only [VRel]) (.cons (by simp only [VRel]) (e2 ρ)))
    | [], h => exact h.elim
    | [_], h => exact h.2.elim
    | [_, _], h => exact h.2.2.elim

/-- The argument's slice, as the abstract machine has it. -/
theorem arg_ents {W : World} {v : Value} (h : SliceArg W 3 [.i64, .i64, .i64] v) : ∃ (ρ : Ren) (h0 : Heap) (s : Val) (es : List Ent), HRel ρ h0 W ∧ Wf h0 ∧ (∀ b x, h0.get b = some x → b < h0.floor) ∧ VRel ρ s v ∧ Es h0 s es := by
  have w0 : Wf heap0 := ⟨wf0.1, wf0.2.1, wf0.2.2⟩
  have r0 : ∀ b x, heap0.get b = some x → b < heap0.floor := fun b x e => by rw [heap0_get] at e; cases e
  rcases h with rfl | ⟨a, len, cap, rfl, hle, hmax, h⟩
  · exact ⟨_, heap0, .nils, [], hrel0 W, w0, r0, by simp only [VRel], ⟨rfl, .inl ⟨rfl, rfl⟩⟩⟩
  · by_cases h0 : cap = 0
    · obtain rfl : len = 0 := by omega
      subst h0
      refine ⟨_, heap0, .slice 0 0 0 0 0, [], hrel0 W, w0, r0, ?_, ⟨rfl, .inr ⟨0, 0, 0, 0, rfl, .inl rfl, Nat.le_refl _, .inl rfl⟩⟩⟩
      simp only [VRel]
      exact ⟨a, 0, rfl, Nat.le_refl _, Nat.le_refl _, fun _ => rfl, .inl rfl⟩
    · rcases h with h | ⟨g, o, arr, et, lo, hi, rfl, hheap, hsize, hfz, hints⟩
      · exact absurd h h0
      · obtain ⟨es, e1, e2⟩ := ents_of len _ hints
        have hcl : (es.flatMap Ent.cells).length = len * 3 := by rw [cells_len, e1]
        refine ⟨argRen ⟨g, o, 0⟩, argHeap (es.flatMap Ent.cells), .slice 0 0 len cap 0, es, argHrel ⟨arr, et, lo, hi, hheap, ?_, ?_, Nat.zero_le _, ?_⟩, argHeap_wf _, ?_, ?_, ?_⟩
        · intro j h1 h2
          rw [hcl] at h2
          exact hfz j h1 (by rcases h2 with h2 | h2 <;> simp only at h1 h2 <;> omega)
        · rw [hcl]; exact hsize
        · rw [hcl]; exact e2 _
        · intro b x e
          rw [argHeap_get] at e
          split at e
          · show b < 1; omega
          · cases e
        · simp only [VRel]
          exact ⟨⟨g, o, none⟩, cap, rfl, hle, Nat.le_refl _, fun _ => rfl, .inr ⟨⟨g, o, 0⟩, by simp [argRen], by simp, fun q => absurd rfl q⟩⟩
        · refine ⟨by rw [cells_len], .inr ⟨0, 0, cap, 0, by rw [e1], .inl rfl, by omega, .inr ?_⟩⟩
          have hg : (argHeap (es.flatMap Ent.cells)).get 0 = some (.cells (es.flatMap Ent.cells)) := by rw [argHeap_get]; rfl
          rw [load_get hg (by rw [cells_len]; omega), List.drop_zero, ← cells_len, List.take_length]

end Go.V
namespace Go.Proofs.Ytkmaaddlimgdoaa.change
open Go.ChangeShapes Go.WideShapes Go.ChangeAt Go.RowKit Go.V

theorem own : ownKnob Try.prog.godebug = none := by kernel_rfl
theorem flatE : flatT Try.prog 4 40 = some [.i64, .i64, .i64] := by kernel_rfl
theorem flatZ : flatT Try.prog 4 63 = some [.i64, .i64] := by kernel_rfl
theorem size40 : Try.prog.cellsOf 40 = 3 := by kernel_rfl
theorem size22 : Try.prog.cellsOf 22 = 1 := by kernel_rfl
theorem flatE' : flatT Try.prog 4 40 = some [.i64, .i64, .i64] := flatE

theorem contract (H : Type) (enc : TypeId × Value → H) (W : World) (base : Nat) (args : Array Value) (ds gs : List (DataW H)) (before : List MemPlace)
    (hval : ∀ (j : Nat) t v, Try.f7.params[j]? = some t → args[j]? = some v → Value.okWide Try.prog W .any base t v)
    (hW : DataW.Whole enc Try.prog Try.f7.params.toList Rows.queuesChangeSpec.vars false W args.toList ds gs before) :
    Calls Try.prog 7 args W fun e W' => ∃ v, e = .returned v ∧ Rows.queuesChangeSpec.post enc Try.prog Try.f7 false true false false W args v W' := by
  have hW' := hW
  obtain ⟨p, q, hA0, hV, rfl, hfz, hnd⟩ := hW
  have hA : DataW.TrodAll enc Try.prog W 0 (fun _ => true) true Try.f7.params.toList args.toList ds p := hA0
  rw [Try.params7] at hA hval
  obtain ⟨v0, vs0, d0, ds0, p0, q0, hargs, rfl, rfl, ⟨n0, h0⟩, r0⟩ := trodAll_cons hA
  obtain ⟨v1, vs1, d1, ds1, p1, q1, rfl, rfl, rfl, ⟨n1, h1⟩, r1⟩ := trodAll_cons r0
  obtain ⟨v2, vs2, d2, ds2, p2, q2, rfl, rfl, rfl, ⟨n2, h2⟩, r2⟩ := trodAll_cons r1
  obtain ⟨rfl, rfl, rfl⟩ := trodAll_nil r2
  obtain rfl : args = #[v0, v1, v2] := by cases args; simp_all
  obtain ⟨rfl, rfl⟩ := trodVars_none hV
  obtain ⟨c0, rfl, hc0⟩ := okWide_struct Try.underlying24 (hval 0 24 v0 rfl rfl)
  obtain ⟨c1, rfl, _⟩ := okWide_struct Try.underlying40 (hval 1 40 v1 rfl rfl)
  obtain ⟨c2, rfl, _⟩ : ∃ cs, v2 = .agg cs ∧ cs.size = Try.prog.cellsOf 63 := by
    have := hval 2 63 v2 rfl rfl
    unfold Value.okWide at this
    rw [Try.underlying63] at this
    obtain ⟨cs, a, b, _⟩ := this
    exact ⟨cs, a, b⟩
  obtain ⟨i1, _⟩ := flat_trod 4 40 _ n1 _ _ flatE h1
  obtain ⟨i2, _⟩ := flat_trod 4 63 _ n2 _ _ flatZ h2
  have j1 : Ints [.i64, .i64, .i64] c1.toList := by simpa [Value.cells] using i1
  have j2 : Ints [.i64, .i64] c2.toList := by simpa [Value.cells] using i2
  obtain ⟨a, b, c, hl1, _⟩ := ints3 j1
  obtain ⟨d, e, hl2, _⟩ := ints2 j2
  obtain ⟨y0, m0, hy, hlen, ht⟩ := trod_struct1 Try.underlying24 h0
  have hs24 : Try.prog.cellsOf 24 = 1 := by kernel_rfl
  rw [hs24] at hc0
  obtain ⟨sv, hsv⟩ : ∃ sv, c0.toList = [sv] := by
    have : c0.toList.length = 1 := by simpa using hc0
    exact List.length_eq_one_iff.1 this
  have ht' : DataW.trod enc Try.prog W 0 (fun _ => true) true m0 22 [sv] = some y0 := by
    have e1 : (Value.agg c0).cells.toList = [sv] := by simpa [Value.cells] using hsv
    rw [e1] at ht
    simp only [List.drop_zero, size22] at ht
    exact ht
  have hps : ∀ x ∈ y0.2, x ∈ p0 := by
    intro x hx
    have : p0 = y0.2 := by have := congrArg Prod.snd hy; simpa using this
    rw [this]; exact hx
  have hsa := slice_arg Try.underlying22 flatE (by rw [size40]; rfl) (by rw [size40]; omega) ht' fun bb off hx => hfz bb off (by simp only [List.append_nil, List.mem_append]; exact .inl (hps _ hx))
  rw [size40] at hsa
  obtain ⟨ρ, hp0, s, es, hr, hwf, hro, hv, hes⟩ := arg_ents hsa
  obtain ⟨n, v, h', er, _, rfl⟩ := lawChg_ok hwf (x := ⟨a, b, c⟩) (z0 := d) (z1 := e) hes
  have hvr : VRels ρ [.agg [s], .agg (Ent.cells ⟨a, b, c⟩), .agg [.int .i64 d, .int .i64 e]] #[Value.agg c0, Value.agg c1, Value.agg c2].toList := by
    refine .cons ?_ (.cons ?_ (.cons ?_ .nil))
    · simp only [VRel]; exact ⟨c0, rfl, by rw [hsv]; exact .cons hv .nil⟩
    · simp only [VRel]; exact ⟨c1, rfl, by rw [hl1]; exact .cons (by simp only [VRel]) (.cons (by simp only [VRel]) (.cons (by simp only [VRel]) .nil))⟩
    · simp only [VRel]; exact ⟨c2, rfl, by rw [hl2]; exact .cons (by simp only [VRel]) (.cons (by simp only [VRel]) .nil)⟩
  refine (law_args env35 ext35 hr hro hvr er).mono ?_
  rintro en W' ⟨he, hs, ho, hp⟩
  exact ⟨_, he, post_law (by kernel_rfl) hW' rfl (by rfl) Try.underlying4 rfl hs ho hp⟩

theorem lifted (os : Os) (started : os.Started) (H : Type) (enc : TypeId × Value → H) :
    ReturnsInHanded {} Try.checked os 7 .any (Rows.queuesChangeSpec.pre6 enc Try.prog Try.f7 Rows.queuesChangeRow.domain false) (Rows.queuesChangeSpec.post enc Try.prog Try.f7 false true false false) := by
  refine returnsInHanded_of_change (C := Try.checked) own started ?_ Try.func7 ?_ ?_
  · kernel_rfl
  · refine ChangeSpec.witness6 (enc := enc) (C := Try.checked) false ⟨#[], #[.agg #[.slice none 0 0], .agg #[.int .i64 0, .int .i64 0, .int .i64 0], .agg #[.int .i64 0, .int .i64 0]], []⟩ 8 ?_ ?_ ?_ ?_
    · kernel_rfl
    · kernel_rfl
    · kernel_rfl
    · kernel_rfl
  intro W base args ds gs before hval hW _ _
  exact contract H enc W base args ds gs before hval hW

theorem change_holds : Rows.QueuesChangeSaid :=
  OpenClaim.holds_of_wide 7 Try.f7 rfl rfl rfl rfl rfl rfl rfl ⟨rfl, rfl, rfl, rfl, rfl⟩ rfl rfl rfl rfl rfl (by kernel_rfl) Try.func7 (by kernel_rfl)
    (of_decide_eq_true (by kernel_rfl)) (by unfold Func.isWrapper; first | (rw [if_pos (by decide +kernel)]; kernel_rfl) | (rw [if_neg (by decide +kernel)]; exact ⟨rfl, rfl⟩))
    (fun os started H enc _ => lifted os started H enc)
end Go.Proofs.Ytkmaaddlimgdoaa.change
