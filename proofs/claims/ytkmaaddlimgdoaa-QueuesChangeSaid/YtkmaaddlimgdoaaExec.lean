/-
  Code of the abstract machine against the model's; calls.
-/
import Derived.Test.YtkmaaddlimgdoaaRun
import Derived.Test.YtkmaaddlimgdoaaExt
set_option linter.unusedVariables false
set_option linter.unusedSimpArgs false
set_option linter.unusedSectionVars false
namespace Go.V

/-- A region that draws its order. -/
def DrawOk (P : Program) : Prop :=
  ∀ (meth : TypeId → Val → String → Option (FuncId × Val)) (_ : MethSound P meth) (call : CallT) (_ : CallSound P call) (_ : CallExt call) (id : Nat) (ops : Array Oper) (vl : List VOper) (fr fr' : List Val) (h h' : Heap) (ρ : Ren) (w : World) (a : Act) (Q : Exit → Act → World → Prop),
    cRegion P ops true = some (.draw vl) → runDraw meth call vl [] fr h = some (fr', h') → HRel ρ h w → FRel ρ fr a →
    (∀ a' w' ρ', Post ρ h w ρ' h' w' → FRel ρ' fr' a' → a'.defers = a.defers → Q .normal a' w') → (Code.region id ops true).wp P Q a w

theorem cRegion_draw {P : Program} {ops : Array Oper} {draw : Bool} {vc : VC} (h : cRegion P ops draw = some vc) : (draw = true ∧ ∃ vl, vc = .draw vl) ∨ (draw = false ∧ ∃ vl, vc = .region vl ∧ OpsRel P ops (List.range ops.size) vl) := by
  unfold cRegion at h
  split at h
  · cases h
  · rename_i vs hvs
    simp only at h
    split at h
    · rename_i hd
      split at h
      · split at h
        · cases h
          exact .inl ⟨hd, _, rfl⟩
        · cases h
      · cases h
    · rename_i hd
      simp only [Option.map_eq_some_iff] at h
      obtain ⟨vl, hvl, rfl⟩ := h
      refine .inr ⟨by simpa using hd, vl, rfl, ?_⟩
      have := cOpers_rel hvs ops.toList vs 0 vl rfl rfl hvl
      rw [List.range_eq_range']
      simpa using this

theorem exec_sound {P : Program} (hdraw : DrawOk P) {E : Env} (hE : EnvOk P E) (hpe : PrimsExt E) : ∀ (n : Nat),
    (∀ (c : Code) (vc : VC) (fr fr' : List Val) (h h' : Heap) (ex : Ex), cCode P c = some vc → exec E n vc fr h = some (ex, fr', h') → ∀ (ρ : Ren) (w : World) (a : Act) (Q : Exit → Act → World → Prop), HRel ρ h w → FRel ρ fr a →
      (∀ a' w' ρ', Post ρ h w ρ' h' w' → FRel ρ' fr' a' → a'.defers = a.defers → Q ex.conv a' w') → c.wp P Q a w) ∧
    CallSound P (callF E (exec E n)) := by
  have calls : ∀ (n : Nat), (∀ (c : Code) (vc : VC) (fr fr' : List Val) (h h' : Heap) (ex : Ex), cCode P c = some vc → exec E n vc fr h = some (ex, fr', h') → ∀ (ρ : Ren) (w : World) (a : Act) (Q : Exit → Act → World → Prop), HRel ρ h w → FRel ρ fr a →
      (∀ a' w' ρ', Post ρ h w ρ' h' w' → FRel ρ' fr' a' → a'.defers = a.defers → Q ex.conv a' w') → c.wp P Q a w) → CallSound P (callF E (exec E n)) := by
    intro n ih f args h v h' hcall
    unfold callF at hcall
    split at hcall
    · rename_i p hp
      obtain ⟨⟨fn, hfn⟩, hs⟩ := hE.prims f p hp
      exact ⟨⟨fn, hfn.at_, hfn.body, hfn.name⟩, hs args h v h' hcall⟩
    · split at hcall
      · cases hcall
      · rename_i vf hvf
        obtain ⟨fn, hfn, hcf⟩ := hE.fns f vf hvf
        refine ⟨⟨fn, hfn.at_, hfn.body, hfn.name⟩, ?_⟩
        intro ρ w cargs hr hargs
        unfold cFn at hcf
        split at hcf
        · cases hcf
        · rename_i c hb
          split at hcf
          · rename_i hres
            simp only [Option.map_eq_some_iff] at hcf
            obtain ⟨vc, hvc, rfl⟩ := hcf
            have hfr : FRel ρ (enter fn.ntmps args) { tmps := cargs ++ Array.replicate (fn.ntmps - cargs.size) Go.undef, defers := [] } := by
              unfold FRel enter
              simp only [Array.toList_append, Array.toList_replicate]
              have hl := hargs.length
              simp only [Array.length_toList] at hl
              rw [hl]
              exact hargs.append (VRels.replicate rel_undef _)
            split at hcall
            · cases hcall
            · rename_i ex fr h2 hne hex
              split at hcall
              · rename_i l hl
                cases hcall
                refine calls_of_wp hfn.at_ hb (ih c vc _ fr _ _ ex hvc hex ρ w _ _ hr hfr ?_)
                intro a' w' ρ' hp hf hd
                obtain ⟨m, hm, hrel⟩ := results_rel (P := P) hp.hrel hf fn.results.toList l hres hl
                have hmA : (results fn a'.tmps).run P w' = .ok (if h : m.toArray.size = 1 then m.toArray[0] else .tuple m.toArray) w' := by
                  unfold results
                  rw [Array.mapM_eq_mapM_toList]
                  simp only [Sem.run_bind, Sem.run_map]
                  have hm2 := congrArg (fun r => (r.andThen fun (a : List Value) w' => Result.ok a.toArray w').andThen fun a w' => Sem.run P (Pure.pure (if h : a.size = 1 then a[0] else Value.tuple a)) w') hm
                  exact hm2
                have hv : VRel ρ' (resultOf l) (if h : m.toArray.size = 1 then m.toArray[0] else .tuple m.toArray) := by
                  cases l with
                  | nil => 
                    simp only [VRels] at hrel; subst hrel
                    simp only [resultOf, VRel]; exact ⟨_, rfl, .nil⟩
                  | cons x l =>
                    simp only [VRels] at hrel
                    obtain ⟨y, s, rfl, hx, hs⟩ := hrel
                    cases l with
                    | nil => simp only [VRels] at hs; subst hs; simpa [resultOf] using hx
                    | cons x2 l =>
                      have hs' := hs
                      simp only [VRels] at hs
                      obtain ⟨y2, s2, rfl, hx2, hs2⟩ := hs
                      simp only [resultOf, VRel]
                      exact ⟨_, by simp, .cons hx hs'⟩
                have hpost : ∃ v, (results fn a'.tmps).run P w' = .ok v w' ∧ (∃ cv ρ'', Ending.returned v = .returned cv ∧ Post ρ h w ρ'' h' w' ∧ VRel ρ'' (resultOf l) cv) := ⟨_, hmA, _, ρ', rfl, hp, hv⟩
                cases ex with
                | normal => exact ⟨hd, hpost⟩
                | ret => exact ⟨hd, hpost⟩
                | exit i => exact (hne i rfl).elim
              · cases hcall
            · cases hcall
          · cases hcf
  intro n
  induction n using Nat.strongRecOn with
  | _ n ihs =>
  cases n with
  | zero =>
    have h0 : ∀ (c : Code) (vc : VC) (fr fr' : List Val) (h h' : Heap) (ex : Ex), cCode P c = some vc → exec E 0 vc fr h = some (ex, fr', h') → ∀ (ρ : Ren) (w : World) (a : Act) (Q : Exit → Act → World → Prop), HRel ρ h w → FRel ρ fr a →
      (∀ a' w' ρ', Post ρ h w ρ' h' w' → FRel ρ' fr' a' → a'.defers = a.defers → Q ex.conv a' w') → c.wp P Q a w := by
      intro c vc fr fr' h h' ex _ he
      simp [exec] at he
    exact ⟨h0, calls 0 h0⟩
  | succ n =>
    obtain ⟨ihx, ihc⟩ := ihs n (Nat.lt_succ_self n)
    have hx : ∀ (c : Code) (vc : VC) (fr fr' : List Val) (h h' : Heap) (ex : Ex), cCode P c = some vc → exec E (n + 1) vc fr h = some (ex, fr', h') → ∀ (ρ : Ren) (w : World) (a : Act) (Q : Exit → Act → World → Prop), HRel ρ h w → FRel ρ fr a →
      (∀ a' w' ρ', Post ρ h w ρ' h' w' → FRel ρ' fr' a' → a'.defers = a.defers → Q ex.conv a' w') → c.wp P Q a w := by
      intro c
      induction c with
      | skip =>
        intro vc fr fr' h h' ex hc he ρ w a Q hr hf k
        simp only [cCode, Option.some.injEq] at hc; subst hc
        simp only [exec, Option.some.injEq, Prod.mk.injEq] at he
        obtain ⟨rfl, rfl, rfl⟩ := he
        exact wp_skip (k a w ρ (.refl hr) hf rfl)
      | region id ops draw =>
        intro vc fr fr' h h' ex hc he ρ w a Q hr hf k
        simp only [cCode] at hc
        rcases cRegion_draw hc with ⟨rfl, vl, rfl⟩ | ⟨rfl, vl, rfl, hrel⟩
        · simp only [exec] at he
          split at he
          · rename_i f2 h2 hrun
            cases he
            exact hdraw E.meth hE.meth _ ihc (exec_ext hpe n).2 id ops vl fr _ h _ ρ w a Q hc hrun hr hf k
          · cases he
        · simp only [exec] at he
          split at he
          · rename_i f2 h2 hrun
            cases he
            exact wp_region (runOps_wp hE.meth ihc _ vl fr _ h _ ρ w a hrel hrun hr hf k)
          · cases he
      | seq x y ihx' ihy' =>
        intro vc fr fr' h h' ex hc he ρ w a Q hr hf k
        simp only [cCode] at hc
        split at hc
        · rename_i vx vy hvx hvy
          cases hc
          simp only [exec] at he
          refine wp_seq ?_
          split at he
          · rename_i f1 h1 he1
            refine ihx x vx fr f1 h h1 .normal hvx he1 ρ w a _ hr hf fun a1 w1 ρ1 hp1 hf1 hd1 => ?_
            exact ihx y vy f1 fr' h1 h' ex hvy he ρ1 w1 a1 Q hp1.hrel hf1 fun a2 w2 ρ2 hp2 hf2 hd2 => k a2 w2 ρ2 (hp1.trans hp2 hr) hf2 (hd2.trans hd1)
          · rename_i hne
            refine ihx x vx fr fr' h h' ex hvx he ρ w a _ hr hf fun a1 w1 ρ1 hp1 hf1 hd1 => ?_
            have := k a1 w1 ρ1 hp1 hf1 hd1
            cases ex with
            | normal => exact absurd he (hne _ _)
            | exit i => exact this
            | ret => exact this
        · cases hc
      | cond cnd x y ihx' ihy' =>
        intro vc fr fr' h h' ex hc he ρ w a Q hr hf k
        simp only [cCode] at hc
        split at hc
        · rename_i vcn vx vy hvc hvx hvy
          cases hc
          simp only [exec] at he
          have hv := hf.ev hvc
          split at he
          · rename_i e1
            rw [e1] at hv
            simp only [VRel] at hv
            exact wp_cond_true hv (ihx x vx fr fr' h h' ex hvx he ρ w a Q hr hf k)
          · rename_i e1
            rw [e1] at hv
            simp only [VRel] at hv
            exact wp_cond_false hv (ihx y vy fr fr' h h' ex hvy he ρ w a Q hr hf k)
          · cases he
        · cases hc
      | block id x ihx' =>
        intro vc fr fr' h h' ex hc he ρ w a Q hr hf k
        simp only [cCode, Option.map_eq_some_iff] at hc
        obtain ⟨vx, hvx, rfl⟩ := hc
        simp only [exec] at he
        refine wp_block ?_
        split at he
        · rename_i i f1 h1 he1
          refine ihx x vx fr f1 h h1 (.exit i) hvx he1 ρ w a _ hr hf fun a1 w1 ρ1 hp1 hf1 hd1 => ?_
          simp only [Ex.conv, Exit.inBlock]
          split at he
          · rename_i hi
            cases he
            rw [if_pos hi]
            exact k a1 w1 ρ1 hp1 hf1 hd1
          · rename_i hi
            cases he
            rw [if_neg hi]
            exact k a1 w1 ρ1 hp1 hf1 hd1
        · rename_i hne
          refine ihx x vx fr fr' h h' ex hvx he ρ w a _ hr hf fun a1 w1 ρ1 hp1 hf1 hd1 => ?_
          have := k a1 w1 ρ1 hp1 hf1 hd1
          cases ex with
          | normal => exact this
          | exit i => exact absurd he (hne _ _ _)
          | ret => exact this
      | loop x ihx' =>
        intro vc fr fr' h h' ex hc he ρ w a Q hr hf k
        simp only [cCode, Option.map_eq_some_iff] at hc
        obtain ⟨vx, hvx, rfl⟩ := hc
        -- as many rounds as the fuel lets
        have rounds : ∀ (m : Nat), m ≤ n + 1 → ∀ (fr fr' : List Val) (h h' : Heap) (ex : Ex), exec E m (.loop vx) fr h = some (ex, fr', h') → ∀ (ρ : Ren) (w : World) (a : Act), HRel ρ h w → FRel ρ fr a →
            (∀ a' w' ρ', Post ρ h w ρ' h' w' → FRel ρ' fr' a' → a'.defers = a.defers → Q ex.conv a' w') → Code.rounds P x Q m a w := by
          intro m
          induction m with
          | zero => intro _ fr fr' h h' ex he; simp [exec] at he
          | succ m ihm =>
            intro hm fr fr' h h' ex he ρ w a hr hf k
            rw [rounds_succ]
            simp only [exec] at he
            have ihb := (ihs m (by omega)).1
            split at he
            · rename_i f1 h1 he1
              refine ihb x vx fr f1 h h1 .normal hvx he1 ρ w a _ hr hf fun a1 w1 ρ1 hp1 hf1 hd1 => ?_
              exact ihm (by omega) f1 fr' h1 h' ex he ρ1 w1 a1 hp1.hrel hf1 fun a2 w2 ρ2 hp2 hf2 hd2 => k a2 w2 ρ2 (hp1.trans hp2 hr) hf2 (hd2.trans hd1)
            · rename_i hne
              refine ihb x vx fr fr' h h' ex hvx he ρ w a _ hr hf fun a1 w1 ρ1 hp1 hf1 hd1 => ?_
              have := k a1 w1 ρ1 hp1 hf1 hd1
              cases ex with
              | normal => exact absurd he (hne _ _)
              | exit i => exact this
              | ret => exact this
        exact wp_loop_rounds (n + 1) (rounds (n + 1) (Nat.le_refl _) fr fr' h h' ex he ρ w a hr hf k)
      | exit id =>
        intro vc fr fr' h h' ex hc he ρ w a Q hr hf k
        simp only [cCode, Option.some.injEq] at hc; subst hc
        simp only [exec, Option.some.injEq, Prod.mk.injEq] at he
        obtain ⟨rfl, rfl, rfl⟩ := he
        exact wp_exit (k a w ρ (.refl hr) hf rfl)
      | ret =>
        intro vc fr fr' h h' ex hc he ρ w a Q hr hf k
        simp only [cCode, Option.some.injEq] at hc; subst hc
        simp only [exec, Option.some.injEq, Prod.mk.injEq] at he
        obtain ⟨rfl, rfl, rfl⟩ := he
        exact wp_ret (k a w ρ (.refl hr) hf rfl)
      | label l =>
        intro vc fr fr' h h' ex hc he ρ w a Q hr hf k
        simp only [cCode, Option.some.injEq] at hc; subst hc
        simp only [exec, Option.some.injEq, Prod.mk.injEq] at he
        obtain ⟨rfl, rfl, rfl⟩ := he
        exact wp_label (k a w ρ (.refl hr) hf rfl)
      | scope x ihx' =>
        intro vc fr fr' h h' ex hc he ρ w a Q hr hf k
        simp only [cCode] at hc
        refine wp_scope_straight (ihx' vc fr fr' h h' ex hc he ρ w a _ hr hf fun a1 w1 ρ1 hp1 hf1 hd1 => ?_)
        have := k a1 w1 ρ1 hp1 hf1 hd1
        cases ex <;> exact this
      | rangeFunc => intro vc fr fr' h h' ex hc; simp [cCode] at hc
      | goto => intro vc fr fr' h h' ex hc; simp [cCode] at hc
      | refuse => intro vc fr fr' h h' ex hc; simp [cCode] at hc
    exact ⟨hx, calls (n + 1) hx⟩

end Go.V
