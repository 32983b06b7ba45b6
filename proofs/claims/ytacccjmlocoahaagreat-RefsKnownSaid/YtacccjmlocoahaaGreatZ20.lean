/-
  RefsKnown returns true, and nothing is asked. No condition.
-/
import Derived.Test.YtacccjmlocoahaaGreatRows
import Derived.Test.YtacccjmlocoahaaGreatChecked
import Derived.Test.YtacccjmlocoahaaGreatZ19

set_option linter.unusedVariables false
set_option linter.unusedSimpArgs false
set_option linter.unusedSectionVars false
section
set_option maxRecDepth 100000
namespace Go.Proofs.YtacccjmlocoahaaGreat.known
open Go.ChangeShapes Go.WideShapes Go.ChangeAt Go.RowKit Go.V
theorem name_ok:nameB prog NF=true:=by kernel_rfl
theorem law_ok: ∃ n h2,run EN n 3 [] heap0=some (.bool true,h2):=law_run o3 (by rw [law_true];rfl)
theorem own:ownKnob Tryz.prog.godebug=none:=by kernel_rfl
theorem contract (H:Type) (enc:TypeId×Value→H) (W:World) (base:Nat) (args:Array Value) (ds gs:List (DataW H)) (before:List MemPlace)
  (hval: ∀ (j:Nat) t v,Tryz.f3.params[j]? =some t→args[j]? =some v→Value.okWide Tryz.prog W .any base t v)
  (hW:DataW.Whole enc Tryz.prog Tryz.f3.params.toList Rows.refsKnownSpec.vars false W args.toList ds gs before):
  Calls Tryz.prog 3 args W fun e W'=> ∃ v,e=.returned v∧Rows.refsKnownSpec.post enc Tryz.prog Tryz.f3 false true false false W args v W':=by
 have hW':=hW
 obtain ⟨p,q,hA0,hV,rfl,hfz,hnd⟩:=hW
 have hA:DataW.TrodAll enc Tryz.prog W 0 (fun _=>true) true Tryz.f3.params.toList args.toList ds p:=hA0
 rw [Tryz.params3] at hA
 obtain ⟨hnil,rfl,rfl⟩:=trodAll_nil hA
 obtain ⟨rfl,rfl⟩:=trodVars_none hV
 obtain rfl:args= #[]:=by cases args;simp_all
 obtain ⟨n,h2,er⟩:=law_ok
 letI:Gd:=gdOf prog EN
 have hr:VRels (fun _=>none) [] (#[]:Array Value).toList :=.nil
 refine (law_closed (envW prog NF (Nat.le_of_ble_eq_true rfl) name_ok) (fun f p e=>by cases e) (Nat.le_of_ble_eq_true rfl) hr er W).mono ?_
 rintro en W' ⟨he,hs,ho,hp⟩
 exact ⟨_,he,post_law (by as_aux_lemma=>kernel_rfl) hW' rfl (by rfl) Tryz.underlying4 rfl hs ho hp⟩
theorem lifted (os:Os) (started:os.Started) (H:Type) (enc:TypeId×Value→H):
  ReturnsInHanded {} Tryz.checked os 3 .any (Rows.refsKnownSpec.pre6 enc Tryz.prog Tryz.f3 Rows.refsKnownRow.domain false) (Rows.refsKnownSpec.post enc Tryz.prog Tryz.f3 false true false false):=by
 refine returnsInHanded_of_change (C:=Tryz.checked) own started ?_ Tryz.func3 ?_ ?_
 ·as_aux_lemma=>kernel_rfl
 ·refine ChangeSpec.witness6 (enc:=enc) (C:=Tryz.checked) false ⟨#[],#[],[]⟩ 8 ?_ ?_ ?_ ?_
  ·as_aux_lemma=>kernel_rfl
  ·as_aux_lemma=>kernel_rfl
  ·as_aux_lemma=>kernel_rfl
  ·as_aux_lemma=>kernel_rfl
 intro W base args ds gs before hval hW _ _
 exact contract H enc W base args ds gs before hval hW
theorem named:Tryz.pinned.checked.prog.funcNamed Rows.refsKnownRow.func=some 3:=by kernel_rfl
set_option maxHeartbeats 4000000 in
theorem facts:joinedFacts Tryz.pinned.checked.prog 3 Tryz.f3 Rows.refsKnownSpec Rows.refsKnownRow=true:=by
 unfold joinedFacts
 simp only [Bool.and_eq_true]
 repeat' apply And.intro
 all_goals (as_aux_lemma=>kernel_rfl)
theorem inst:decide (Tryz.f3.isInstance Tryz.pinned.checked.prog Rows.refsKnownRow.origin Rows.refsKnownRow.targs)=true:=by kernel_rfl
theorem known_holds:Rows.RefsKnownSaid:=
 OpenClaim.holds_of_wide 3 Tryz.f3 rfl rfl rfl rfl rfl rfl rfl ⟨rfl,rfl,rfl,rfl,rfl⟩ rfl rfl rfl rfl rfl named Tryz.func3 facts
  (of_decide_eq_true inst) (by unfold Func.isWrapper;first|(rw [if_pos (by decide+kernel)];kernel_rfl)|(rw [if_neg (by decide+kernel)];exact ⟨rfl,rfl⟩))
  (fun os started H enc _=>lifted os started H enc)
end Go.Proofs.YtacccjmlocoahaaGreat.known
end
