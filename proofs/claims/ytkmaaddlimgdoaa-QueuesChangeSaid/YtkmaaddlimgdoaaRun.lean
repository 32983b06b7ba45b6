/-
  Operations with calls; lists of operations; code.
-/
import Derived.Test.YtkmaaddlimgdoaaOps
set_option linter.unusedVariables false
set_option linter.unusedSimpArgs false
set_option linter.unusedSectionVars false
namespace Go.V

theorem op_wp {P : Program} {ρ : Ren} {h h' : Heap} {w : World} (hr : HRel ρ h w) {fr : List Val} {a a0 : Act} (hf : FRel ρ fr a0) {meth : TypeId → Val → String → Option (FuncId × Val)} (hms : MethSound P meth) {call : CallT} (hcs : CallSound P call)
    {o : Oper} {vo : VOp} (hex : execOp a.eval o = execOp a0.eval o) (hc : cOp P o = some vo) {v : Val} (hs : step meth call fr h vo = some (v, h')) {next : Act → World → Prop} {Q : Exit → Act → World → Prop}
    (k : ∀ cv w' ρ', Post ρ h w ρ' h' w' → VRel ρ' v cv → next (a.put o.dst cv) w') : o.wp P a w next Q := by
  by_cases hcb : ∀ c, o.op = .call c → ∃ b, c.callee = .builtin b
  · have := s_op hr hf meth call hc hcb hs
    rw [← hex] at this
    exact this.wp k
  · obtain ⟨dst, op, type, pos, after, guard⟩ := o
    have hcall : ∃ c, op = .call c := by
      cases op <;> first | exact ⟨_, rfl⟩ | exact absurd (fun c h => by cases h) hcb
    obtain ⟨c, rfl⟩ := hcall
    obtain ⟨callee, args, argTypes⟩ := c
    simp only [cOp] at hc
    split at hc
    · cases hc
    · rename_i ys hys
      have hargs := hf.evs hys
      have fin : ∀ (f : FuncId) (l : List Val) (cargs : Array Value), call f l h = some (v, h') → VRels ρ l cargs.toList → (execOp a0.eval ⟨dst, .call ⟨callee, args, argTypes⟩, type, pos, after, guard⟩).run P w = (callFunc f cargs).run P w →
          Oper.wp P ⟨dst, .call ⟨callee, args, argTypes⟩, type, pos, after, guard⟩ a w next Q := by
        intro f l cargs h1 h2 h3
        obtain ⟨⟨fn, hfn, hb, hn⟩, hcalls⟩ := hcs f l h v h' h1
        unfold Oper.wp
        rw [hex, h3, run_callFunc hfn hb hn]
        exact (hcalls ρ w cargs hr h2).mono fun e w' ⟨cv, ρ', he, hp, hv⟩ => by subst he; exact k cv w' ρ' hp hv
      have viaval : ∀ (x : Operand) (y : Opd), callee = .value x → cOpd x = some y → step meth call fr h (.callv y ys) = some (v, h') → Oper.wp P ⟨dst, .call ⟨callee, args, argTypes⟩, type, pos, after, guard⟩ a w next Q := by
        intro x y hx hy hst
        subst hx
        simp only [step] at hst
        split at hst
        · rename_i f fi ca e1
          have hv := hf.ev hy
          rw [e1] at hv
          simp only [VRel] at hv
          obtain ⟨a', c', hev, r1, r2⟩ := hv
          refine fin f _ (a' ++ Array.map a0.eval args ++ c') hst ?_ ?_
          · simp only [Array.toList_append, Array.toList_map]
            exact (r1.append hargs).append r2
          · simp [execOp, resolve, hev, Deferred.ofValue, invoke]
        · cases hst
      cases callee with
      | value x =>
        cases x with
        | func f =>
          simp only at hc
          split at hc
          · rename_i fn hfn
            split at hc
            · cases hc
            · split at hc
              · cases hc
                simp only [step] at hs
                refine fin f _ (Array.map a0.eval args) hs ?_ ?_
                · simpa using hargs
                · simp [execOp, resolve, Act.eval, Deferred.ofValue, invoke]
              · cases hc
          · cases hc
        | tmp t =>
          simp only [Option.map_eq_some_iff] at hc
          obtain ⟨y, hy, rfl⟩ := hc
          exact viaval _ y rfl hy hs
        | const t =>
          simp only [Option.map_eq_some_iff] at hc
          obtain ⟨y, hy, rfl⟩ := hc
          exact viaval _ y rfl hy hs
        | global t =>
          simp only [Option.map_eq_some_iff] at hc
          obtain ⟨y, hy, rfl⟩ := hc
          exact viaval _ y rfl hy hs
      | invoke r name =>
        simp only [Option.map_eq_some_iff] at hc
        obtain ⟨y, hy, rfl⟩ := hc
        simp only [step] at hs
        split at hs
        · rename_i t x e1
          have hv := hf.ev hy
          rw [e1] at hv
          simp only [VRel] at hv
          obtain ⟨xv, hev, rx⟩ := hv
          split at hs
          · rename_i f r0 hm
            obtain ⟨rv, hrun, rr⟩ := hms t x name f r0 hm ρ xv w rx
            refine fin f _ (#[rv] ++ Array.map a0.eval args) hs ?_ ?_
            · simp only [Array.toList_append, Array.toList_map]
              exact .cons rr hargs
            · simp only [execOp, resolve, Sem.run_bind, Sem.run_pure, Result.andThen_ok, invoke, hev]
              have hex : (Array.map a0.eval args).extract 0 args.size = Array.map a0.eval args := by
                have := Array.extract_size (xs := Array.map a0.eval args)
                simp at this ⊢
              simp only [List.getElem?_toArray, Array.getElem?_append, Array.size_append]
              simp [callMethod]
              rw [hrun, hex]
              simp
          · cases hs
        · cases hs
      | builtin b => exact absurd (fun c h => ⟨b, by cases h; rfl⟩) hcb

theorem FRel.put {ρ : Ren} {fr : List Val} {a : Act} (h : FRel ρ fr a) (dst : Option Tmp) {v : Val} {cv : Value} (hv : VRel ρ v cv) : FRel ρ (setDst fr dst v) (a.put dst cv) := by
  cases dst with
  | none => exact h
  | some d =>
    unfold FRel setDst Act.put
    simp only [Array.toList_setIfInBounds]
    exact VRels.set h d hv

theorem wanted_rel {ρ : Ren} {fr : List Val} {a : Act} (hf : FRel ρ fr a) {ops : Array Oper} {o : Oper} {g : Option (Nat × Bool)} (hg : cGuard ops o.guard = some g) {b : Bool} (e : wanted fr g = some b) : Region.wanted o (yielded ops a.tmps) = b := by
  unfold Region.wanted
  cases ho : o.guard with
  | none =>
    rw [ho] at hg
    simp only [cGuard, Option.some.injEq] at hg; subst hg
    simp only [wanted, Option.some.injEq] at e; subst e; rfl
  | some jw =>
    obtain ⟨j, want⟩ := jw
    rw [ho] at hg
    simp only [cGuard] at hg
    split at hg
    · rename_i t ht
      simp only [Option.some.injEq] at hg; subst hg
      simp only [wanted] at e
      have hv := hf.getD t
      simp only [yielded, ht, Option.bind_some]
      have hsz : fr.length = a.tmps.size := by have := hf.length; simpa using this.symm
      split at e
      · rename_i b' hb
        simp only [Option.some.injEq] at e; subst e
        rw [hb] at hv
        simp only [VRel] at hv
        have hlt : t < a.tmps.size := by
          rcases Nat.lt_or_ge t a.tmps.size with h | h
          · exact h
          · rw [List.getD_eq_getElem?_getD, List.getElem?_eq_none (by omega)] at hb; cases hb
        rw [Array.getD_eq_getD_getElem?] at hv
        rw [Array.getElem?_eq_getElem hlt] at hv ⊢
        simp only [Option.getD_some] at hv
        rw [hv]
        cases b' <;> cases want <;> rfl
      · rename_i hb
        simp only [Option.some.injEq] at e; subst e
        rw [hb] at hv
        simp only [VRel] at hv
        rw [Array.getD_eq_getD_getElem?] at hv
        cases hq : a.tmps[t]? with
        | none => cases want <;> rfl
        | some q =>
          rw [hq] at hv
          simp only [Option.getD_some] at hv
          subst hv
          cases want <;> rfl
      · cases e
    · cases hg

/-- A region's operations, in some order, beside the machine's. -/
def OpsRel (P : Program) (ops : Array Oper) : List Nat → List VOper → Prop
  | [], [] => True
  | i :: r, vo :: vr => (∃ o, ops[i]? = some o ∧ cOp P o = some vo.op ∧ vo.dst = o.dst ∧ cGuard ops o.guard = some vo.guard) ∧ OpsRel P ops r vr
  | _, _ => False

theorem runOps_wp {P : Program} {meth : TypeId → Val → String → Option (FuncId × Val)} (hms : MethSound P meth) {call : CallT} (hcs : CallSound P call) {ops : Array Oper} {Q : Exit → Act → World → Prop} :
    ∀ (l : List Nat) (vl : List VOper) (fr fr' : List Val) (h h' : Heap) (ρ : Ren) (w : World) (a : Act), OpsRel P ops l vl → runOps meth call vl fr h = some (fr', h') → HRel ρ h w → FRel ρ fr a →
      (∀ a' w' ρ', Post ρ h w ρ' h' w' → FRel ρ' fr' a' → a'.defers = a.defers → Q .normal a' w') → wpOps P ops Q l a w
  | [], [], fr, fr', h, h', ρ, w, a, _, hrun, hr, hf, k => by
    simp only [runOps, Option.some.injEq, Prod.mk.injEq] at hrun
    obtain ⟨rfl, rfl⟩ := hrun
    exact k a w ρ (.refl hr) hf rfl
  | i :: r, vo :: vr, fr, fr', h, h', ρ, w, a, hrel, hrun, hr, hf, k => by
    obtain ⟨⟨o, ho, hc, hd, hg⟩, hrel'⟩ := hrel
    simp only [runOps] at hrun
    simp only [wpOps, ho]
    split at hrun
    · cases hrun
    · rename_i hw
      rw [wanted_rel hf hg hw]
      simp only [Bool.false_eq_true, if_false]
      rw [← hd]
      exact runOps_wp hms hcs r vr _ fr' h h' ρ w _ hrel' hrun hr (hf.put vo.dst rel_undef) (fun a' w' ρ' h1 h2 h3 => k a' w' ρ' h1 h2 (h3.trans (by cases vo.dst <;> rfl)))
    · rename_i hw
      rw [wanted_rel hf hg hw]
      simp only [if_true]
      split at hrun
      · rename_i v h1 hst
        refine .inl (op_wp hr hf hms hcs rfl hc hst fun cv w' ρ' hp hv => ?_)
        rw [← hd]
        exact runOps_wp hms hcs r vr _ fr' h1 h' ρ' w' _ hrel' hrun hp.hrel ((hf.mono hp.ext).put vo.dst hv) (fun a' w'' ρ'' h1 h2 h3 => k a' w'' ρ'' (hp.trans h1 hr) h2 (h3.trans (by cases vo.dst <;> rfl)))
      · cases hrun
  | [], _ :: _, _, _, _, _, _, _, _, hrel, _, _, _, _ => by cases hrel
  | _ :: _, [], _, _, _, _, _, _, _, hrel, _, _, _, _ => by cases hrel

theorem cOps_get {P : Program} : ∀ {l : List Oper} {vs : List VOp}, cOps P l = some vs → ∀ (i : Nat) (o : Oper) (v : VOp), l[i]? = some o → vs[i]? = some v → cOp P o = some v
  | [], vs, h, i, o, v, h1, _ => by simp at h1
  | x :: l, vs, h, i, o, v, h1, h2 => by
    simp only [cOps] at h
    split at h
    · rename_i a r ha hr
      cases h
      cases i with
      | zero => simp at h1 h2; subst h1 h2; exact ha
      | succ i => exact cOps_get hr i o v (by simpa using h1) (by simpa using h2)
    · cases h

theorem cOpers_rel {P : Program} {ops : Array Oper} {b : Array Nat} {ts : List Nat} {vs : List VOp} (hvs : cOps P ops.toList = some vs) : ∀ (l : List Oper) (v : List VOp) (i : Nat) (vl : List VOper), ops.toList.drop i = l → vs.drop i = v → cOpers ops b ts l v i = some vl → OpsRel P ops (List.range' i l.length) vl
  | [], [], i, vl, _, _, h => by
    simp only [cOpers, Option.some.injEq] at h; subst h
    simp [OpsRel]
  | o :: r, v :: rv, i, vl, h1, h2, h => by
    simp only [cOpers] at h
    split at h
    · rename_i g l hg hl
      cases h
      have e1 : ops.toList[i]? = some o := by
        have : (ops.toList.drop i)[0]? = some o := by rw [h1]; rfl
        simpa using this
      have e2 : vs[i]? = some v := by
        have : (vs.drop i)[0]? = some v := by rw [h2]; rfl
        simpa using this
      simp only [List.length_cons, List.range'_succ, OpsRel]
      refine ⟨⟨o, by rw [← Array.getElem?_toList]; exact e1, cOps_get hvs i o v e1 e2, rfl, hg⟩, ?_⟩
      refine cOpers_rel hvs r rv (i + 1) l ?_ ?_ hl
      · rw [← List.drop_drop, h1]; rfl
      · rw [← List.drop_drop, h2]; rfl
    · cases h
  | [], _ :: _, _, _, _, _, h => by simp [cOpers] at h
  | _ :: _, [], _, _, _, _, h => by simp [cOpers] at h

/-- How the machine's exits read. -/
def Ex.conv : Ex → Exit
  | .normal => .normal
  | .exit i => .exit i
  | .ret => .ret

structure FnOk (P : Program) (f : FuncId) (fn : Func) : Prop where
  at_ : P.funcs[f]? = some fn
  body : fn.body.isSome = true
  name : (fn.name == "runtime.NumGoroutine") = false

structure EnvOk (P : Program) (E : Env) : Prop where
  meth : MethSound P E.meth
  fns : ∀ f vf, E.fns f = some vf → ∃ fn, FnOk P f fn ∧ cFn P fn = some vf
  prims : ∀ f p, E.prims f = some p → (∃ fn, FnOk P f fn) ∧ ∀ args h v h', p args h = some (v, h') →
    ∀ ρ w (cargs : Array Value), HRel ρ h w → VRels ρ args cargs.toList → Calls P f cargs w (fun e w' => ∃ cv ρ', e = .returned cv ∧ Post ρ h w ρ' h' w' ∧ VRel ρ' v cv)

theorem run_loadVar_rel {P : Program} {ρ : Ren} {h : Heap} {w : World} (hr : HRel ρ h w) {t : TypeId} {d : TypeDesc} (ht : P.underlying t = some d) {b o : Nat} {c : List Val} (e : h.load b o (P.cellsOf t) = some c) {l : Loc} (hl : ρ b = some l) {x : Val}
    (hx : (aggType P t = true ∧ x = .agg c) ∨ (aggType P t = false ∧ c = [x])) : ∃ cv, (loadVar t ⟨l.c, l.s + o, none⟩).run P w = .ok cv w ∧ VRel ρ x cv := by
  obtain ⟨m, hm, hcell⟩ := hr.load e hl
  obtain ⟨i, hi⟩ := info_of_underlying ht
  have hlen : m.length = P.cellsOf t := by
    rw [hm.length]
    obtain ⟨cs, _, h2, rfl⟩ := Heap.load_some e
    simp; omega
  rcases hx with ⟨ha, rfl⟩ | ⟨ha, rfl⟩
  · have hrun := run_loadCells_of (P := P) hcell
    rw [hlen] at hrun
    exact ⟨.agg m.toArray, by simp only [loadVar, Sem.run_bind, Sem.run_pure, Result.andThen_ok, run_isAgg_of ht, ha, if_true, run_sizeOf_of hi, hrun], by simp only [VRel]; exact ⟨_, rfl, hm⟩⟩
  · cases m with
    | nil => exact absurd hm.length (by simp)
    | cons v m =>
      have h0 := hcell 0 v (by simp)
      simp only [Addr.add_none, Nat.add_zero] at h0
      simp only [VRels] at hm
      obtain ⟨y, s, he, hy, _⟩ := hm
      cases he
      exact ⟨v, by simp only [loadVar, Sem.run_bind, Result.andThen_ok, run_isAgg_of ht, ha, Bool.false_eq_true, if_false, run_load, h0], hy⟩

theorem results_rel {P : Program} {ρ : Ren} {h : Heap} {w : World} (hr : HRel ρ h w) {fr : List Val} {a : Act} (hf : FRel ρ fr a) : ∀ (rs : List ResultVar) (l : List Val), (rs.all fun r => match r with | .tmp _ => true | .cell _ t => (P.underlying t).isSome) = true → readResults fr h (cResults P rs) = some l →
    ∃ m : List Value, (rs.mapM (m := Sem) fun
      | .tmp t => pure (a.tmps.getD t Go.undef)
      | .cell x t => do loadVar t (← asAddr (a.tmps.getD x Go.undef))).run P w = .ok m w ∧ VRels ρ l m
  | [], l, _, h => by
    simp only [cResults, readResults, Option.some.injEq] at h; subst h
    exact ⟨[], by simp, .nil⟩
  | .tmp t :: r, l, hall, h => by
    simp only [List.all_cons, Bool.true_and] at hall
    simp only [cResults, readResults] at h
    split at h
    · rename_i l' hl
      cases h
      obtain ⟨m, h1, h2⟩ := results_rel hr hf r l' hall hl
      exact ⟨_ :: m, by rw [List.mapM_cons]; simp only [Sem.run_bind, Sem.run_pure, Result.andThen_ok]; rw [h1]; rfl, .cons (hf.getD t) h2⟩
    · cases h
  | .cell x t :: r, l, hall, h => by
    simp only [List.all_cons, Bool.and_eq_true] at hall
    obtain ⟨d, hd⟩ := Option.isSome_iff_exists.1 hall.1
    simp only [cResults, readResults] at h
    split at h
    · rename_i b o hb
      have hv := hf.getD x
      rw [hb] at hv
      simp only [VRel] at hv
      obtain ⟨L, hL, hev⟩ := hv
      split at h
      · rename_i c l' hc hl
        obtain ⟨m, h1, h2⟩ := results_rel hr hf r l' hall.2 hl
        have hone : ∀ y, ((aggType P t = true ∧ y = .agg c) ∨ (aggType P t = false ∧ c = [y])) → ∃ m : List Value, (( .cell x t :: r).mapM (m := Sem) fun
            | .tmp t => pure (a.tmps.getD t Go.undef)
            | .cell x t => do loadVar t (← asAddr (a.tmps.getD x Go.undef))).run P w = .ok m w ∧ VRels ρ (y :: l') m := by
          intro y hy
          obtain ⟨cv, hrun, rel⟩ := run_loadVar_rel (P := P) hr hd hc hL hy
          refine ⟨cv :: m, ?_, .cons rel h2⟩
          have hA : (asAddr (a.tmps.getD x Go.undef)).run P w = .ok ⟨L.c, L.s + o, none⟩ w := by rw [hev]; rfl
          rw [List.mapM_cons]
          simp only [Sem.run_bind, hA, Sem.run_pure, Result.andThen_ok, hrun]
          rw [h1]; rfl
        split at h
        · rename_i ha
          cases h
          exact hone _ (.inl ⟨ha, rfl⟩)
        · rename_i ha
          split at h
          · cases h
            exact hone _ (.inr ⟨by simpa using ha, rfl⟩)
          · cases h
      · cases h
    · cases h

end Go.V
