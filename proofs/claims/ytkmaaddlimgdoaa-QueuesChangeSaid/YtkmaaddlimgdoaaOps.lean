/-
  One operation of the abstract machine against the model's: all of them.
-/
import Derived.Test.YtkmaaddlimgdoaaOpsG
set_option linter.unusedVariables false
set_option linter.unusedSimpArgs false
set_option linter.unusedSectionVars false
namespace Go.V

theorem Sound.wp {P : Program} {o : Oper} {a : Act} {ρ : Ren} {h h' : Heap} {w : World} {v : Val} {next : Act → World → Prop} {Q : Exit → Act → World → Prop} (hs : Sound P (execOp a.eval o) ρ h w v h')
    (k : ∀ cv w' ρ', Post ρ h w ρ' h' w' → VRel ρ' v cv → next (a.put o.dst cv) w') : o.wp P a w next Q := by
  obtain ⟨nx, w', cv, ρ', hrun, hnx, hp, hv⟩ := hs
  unfold Oper.wp
  rw [hrun]
  rcases hnx with rfl | ⟨rfl, rfl⟩
  · exact k cv w' ρ' hp hv
  · exact k _ w' ρ' hp hv

def MethSound (P : Program) (meth : TypeId → Val → String → Option (FuncId × Val)) : Prop :=
  ∀ t v name f r, meth t v name = some (f, r) → ∀ ρ vv w, VRel ρ v vv → ∃ rv, (method (P.types.size + Made.depth) t vv name).run P w = .ok (f, rv) w ∧ VRel ρ r rv

def CallSound (P : Program) (call : CallT) : Prop :=
  ∀ f args h v h', call f args h = some (v, h') → (∃ fn, P.funcs[f]? = some fn ∧ fn.body.isSome = true ∧ (fn.name == "runtime.NumGoroutine") = false) ∧
    ∀ ρ w (cargs : Array Value), HRel ρ h w → VRels ρ args cargs.toList → Calls P f cargs w (fun e w' => ∃ cv ρ', e = .returned cv ∧ Post ρ h w ρ' h' w' ∧ VRel ρ' v cv)

theorem run_callFunc {P : Program} {f : FuncId} {fn : Func} (hf : P.funcs[f]? = some fn) (hb : fn.body.isSome = true) (hn : (fn.name == "runtime.NumGoroutine") = false) (args : Array Value) (w : World) :
    (callFunc f args).run P w = .ok (.enter f args) w := by
  have hb' : fn.body.isNone = false := by cases h : fn.body <;> simp_all
  simp only [callFunc, Sem.run_bind, run_program, Result.andThen_ok, hf, hn, hb', Bool.false_eq_true, if_false, Sem.run_pure]

theorem s_op {P : Program} {ρ : Ren} {h h' : Heap} {w : World} (hr : HRel ρ h w) {fr : List Val} {a : Act} (hf : FRel ρ fr a) (meth : TypeId → Val → String → Option (FuncId × Val)) (call : CallT) {o : Oper} {vo : VOp} (hc : cOp P o = some vo)
    (hcb : ∀ c, o.op = .call c → ∃ b, c.callee = .builtin b) {v : Val} (hs : step meth call fr h vo = some (v, h')) : Sound P (execOp a.eval o) ρ h w v h' := by
  obtain ⟨dst, op, type, pos, after, guard⟩ := o
  cases op <;> simp only [cOp] at hc <;> (try (cases hc; done))
  case panic x =>
    cases hc
    cases hs
  case move x =>
    simp only [Option.map_eq_some_iff] at hc
    obtain ⟨y, hy, rfl⟩ := hc
    simp only [step, Option.some.injEq, Prod.mk.injEq] at hs
    obtain ⟨rfl, rfl⟩ := hs
    exact s_value hr (hf.ev hy)
  case assign x =>
    simp only [Option.map_eq_some_iff] at hc
    obtain ⟨y, hy, rfl⟩ := hc
    simp only [step, Option.some.injEq, Prod.mk.injEq] at hs
    obtain ⟨rfl, rfl⟩ := hs
    exact s_value hr (hf.ev hy)
  case pick c x y =>
    split at hc
    · rename_i c' x' y' h1 h2 h3
      cases hc
      simp only [step] at hs
      split at hs
      · rename_i hb
        cases hs
        exact s_pick hr (hf.ev h1) (hf.ev h2) (hf.ev h3) (b := true) hb
      · rename_i hb
        cases hs
        exact s_pick hr (hf.ev h1) (hf.ev h2) (hf.ev h3) (b := false) hb
      · cases hs
    · cases hc
  case alloc e =>
    simp only [Option.map_eq_some_iff] at hc
    obtain ⟨z, hz, rfl⟩ := hc
    simp only [step, Option.some.injEq, Prod.mk.injEq] at hs
    obtain ⟨rfl, rfl⟩ := hs
    exact s_alloc hr hz
  case box e x =>
    split at hc
    · rename_i y hy
      cases hc
      simp only [step] at hs
      split at hs
      · cases hs
        exact s_box hr (hf.ev hy)
      · cases hs
    · cases hc
  case build t parts =>
    split at hc
    · rename_i z fs hz hu
      split at hc
      · rename_i hfs
        simp only [Option.map_eq_some_iff] at hc
        obtain ⟨ps, hps, rfl⟩ := hc
        simp only [step] at hs
        split at hs
        · rename_i c hfill
          cases hs
          exact s_build_struct hr hf hu hz hps hfs hfill
        · cases hs
      · cases hc
    · rename_i z n e hz hu
      split at hc
      · rename_i hi
        simp only [Option.map_eq_some_iff] at hc
        obtain ⟨ps, hps, rfl⟩ := hc
        obtain ⟨i, hi⟩ := Option.isSome_iff_exists.1 hi
        simp only [step] at hs
        split at hs
        · rename_i c hfill
          cases hs
          exact s_build_array hr hf hu hz hi hps hfill
        · cases hs
      · cases hc
    · cases hc
  case buildSlice t len parts =>
    split at hc
    · rename_i e hu
      split at hc
      · rename_i z hz
        split at hc
        · rename_i hh
          simp only [Option.map_eq_some_iff] at hc
          obtain ⟨ps, hps, rfl⟩ := hc
          simp only [step] at hs
          split at hs
          · rename_i c hfill
            cases hs
            exact s_bslice hr hf hu hz hh.1 hh.2 hps hfill
          · cases hs
        · cases hc
      · cases hc
    · cases hc
  case load t x =>
    split at hc
    · rename_i d y hd hy
      cases hc
      simp only [step] at hs
      split at hs
      · rename_i b o hb
        have hv := hf.ev hy
        rw [hb] at hv
        split at hs
        · rename_i l hl
          split at hs
          · rename_i ha
            cases hs
            exact s_load hr hd hl hv (.inl ⟨ha, rfl⟩)
          · rename_i ha
            split at hs
            · cases hs
              exact s_load hr hd hl hv (.inr ⟨by simpa using ha, rfl⟩)
            · cases hs
        · cases hs
      · cases hs
    · cases hc
  case store t x y =>
    split at hc
    · rename_i i x' y' hi hx hy
      cases hc
      simp only [step] at hs
      split at hs
      · rename_i b o hb
        have hv := hf.ev hx
        rw [hb] at hv
        split at hs
        · rename_i hn
          split at hs
          · rename_i h1 hst
            cases hs
            exact s_store hr hi hn hst (hf.ev hy) hv
          · cases hs
        · cases hs
      · cases hs
    · cases hc
  case nilCheck x =>
    simp only [Option.map_eq_some_iff] at hc
    obtain ⟨y, hy, rfl⟩ := hc
    simp only [step] at hs
    split at hs
    · rename_i hok
      cases hs
      exact s_nilCheck hr rfl (hf.ev hy) hok
    · cases hs
  case binOp op t x y t2 =>
    split at hc
    · rename_i x' y' hx hy
      split at hc
      · rename_i hop
        split at hc
        · rename_i hnil
          simp only [Option.map_eq_some_iff] at hc
          obtain ⟨k, hk, rfl⟩ := hc
          simp only [step] at hs
          split at hs
          · rename_i p hp
            cases hs
            exact s_eqnil hr hop hnil hk (hf.ev hx) (hf.ev hy) hp
          · cases hs
        · split at hc
          · cases hc
          · rename_i hg
            simp only [Option.map_eq_some_iff] at hc
            obtain ⟨os, hos, rfl⟩ := hc
            simp only [step] at hs
            split at hs
            · rename_i p hp
              cases hs
              exact s_eql hr hop (by simpa using hg) hos (hf.ev hx) (hf.ev hy) hp
            · cases hs
      · rename_i hop
        cases hc
        simp only [step, pureV] at hs
        split at hs
        · rename_i r hr'
          cases hs
          exact s_arith hr hop (hf.ev hx) (hf.ev hy) hr'
        · cases hs
    · cases hc
  case unOp op t x =>
    simp only [Option.map_eq_some_iff] at hc
    obtain ⟨y, hy, rfl⟩ := hc
    simp only [step, pureV] at hs
    split at hs
    · rename_i r hr'
      cases hs
      exact s_un hr (hf.ev hy) hr'
    · cases hs
  case convert s t x =>
    split at hc
    · rename_i k0 k y hs1 ht1 hy
      cases hc
      simp only [step] at hs
      split at hs
      · rename_i k' n hv
        cases hs
        exact s_convInt hr hs1 ht1 (hf.ev hy) hv
      · cases hs
    · rename_i y hs1 ht1 hy
      cases hc
      simp only [step] at hs
      split at hs
      · rename_i l hv
        cases hs
        exact s_convSame hr hs1 ht1 (hf.ev hy) hv
      · cases hs
    · cases hc
  case makeInterface t x =>
    split at hc
    · cases hc
    · rename_i d hn hd
      simp only [Option.map_eq_some_iff] at hc
      obtain ⟨y, hy, rfl⟩ := hc
      simp only [step] at hs
      split at hs
      · cases hs
      · cases hs
        exact s_mkiface hr hd (fun m hm => hn m hm) (hf.ev hy)
    · cases hc
  case makeFunc fn first captured =>
    split at hc
    · rename_i x y hx hy
      cases hc
      simp only [step, Option.some.injEq, Prod.mk.injEq] at hs
      obtain ⟨rfl, rfl⟩ := hs
      have := s_mkfunc (P := P) hr (f := fn) (hf.evs hx) (hf.evs hy)
      have e1 : (List.map a.eval first.toList).toArray = Array.map a.eval first := Array.ext' (by simp)
      have e2 : (List.map a.eval captured.toList).toArray = Array.map a.eval captured := Array.ext' (by simp)
      rw [e1, e2] at this
      exact this
    · cases hc
  case makeSlice t l c =>
    split at hc
    · rename_i e l' c' hu hl hcc
      split at hc
      · rename_i z hz
        split at hc
        · rename_i hzl
          cases hc
          simp only [step] at hs
          split at hs
          · rename_i k1 n1 k2 n2 e1 e2
            split at hs
            · rename_i hb
              cases hs
              have h1 := hf.ev hl
              have h2 := hf.ev hcc
              rw [e1] at h1
              rw [e2] at h2
              exact s_mkslice hr hu hz hzl h1 h2 ⟨hb.1, hb.2.1, hb.2.2.1, hb.2.2.2.1⟩
            · cases hs
          · cases hs
        · cases hc
      · cases hc
    · cases hc
  case slice t x lo hi mx =>
    split at hc
    · rename_i x' lo' hi' hu hx hlo hhi hmx
      cases hc
      have hm0 : mx = none := by cases mx with
        | none => rfl
        | some m => simp [cOpt] at hmx
      subst hm0
      simp only [step] at hs
      split at hs
      · rename_i s e1
        split at hs
        · rename_i l k m hb
          cases hs
          exact s_sliceStr hr hf hu (hf.ev hx) e1 hlo hhi hb
        · cases hs
      · cases hs
    · rename_i e x' lo' hi' mx' hu hx hlo hhi hmx
      split at hc
      · rename_i hi0
        obtain ⟨i, hi0⟩ := Option.isSome_iff_exists.1 hi0
        cases hc
        simp only [step, pureV] at hs
        split at hs
        · rename_i r hrr
          cases hs
          exact s_slice hr hf hu hi0 (hf.ev hx) hlo hhi hmx hrr
        · cases hs
      · cases hc
    · rename_i n e x' lo' hi' mx' hu hx hlo hhi hmx
      split at hc
      · rename_i hi0
        obtain ⟨i, hi0⟩ := Option.isSome_iff_exists.1 hi0
        cases hc
        simp only [step] at hs
        split at hs
        · rename_i b o e1
          have hv := hf.ev hx
          rw [e1] at hv
          split at hs
          · rename_i l k m hb
            cases hs
            exact s_sliceArr hr hf hu hi0 hv hlo hhi hmx hb
          · cases hs
        · cases hs
      · cases hc
    · cases hc
  case fieldAddr t x f =>
    split at hc
    · rename_i fs x' hu hx
      split at hc
      · rename_i fl hfl
        split at hc
        · rename_i hh
          obtain ⟨j, hj⟩ := Option.isSome_iff_exists.1 hh.1
          cases hc
          simp only [step] at hs
          split at hs
          · rename_i b o e1
            have hv := hf.ev hx
            rw [e1] at hv
            cases hs
            exact s_faddr hr hu hfl hj hh.2 hv
          · cases hs
        · cases hc
      · cases hc
    · cases hc
  case field t x f =>
    split at hc
    · rename_i fs x' hu hx
      split at hc
      · rename_i fl hfl
        split at hc
        · rename_i hh
          obtain ⟨d, hd⟩ := Option.isSome_iff_exists.1 hh
          cases hc
          simp only [step] at hs
          split at hs
          · rename_i l e1
            have hv := hf.ev hx
            rw [e1] at hv
            split at hs
            · split at hs
              · rename_i ha
                cases hs
                exact s_field hr hu hfl hd hv (.inl ⟨ha, rfl⟩)
              · rename_i ha
                split at hs
                · rename_i x0 hx0
                  cases hs
                  exact s_field hr hu hfl hd hv (.inr ⟨by simpa using ha, hx0⟩)
                · cases hs
            · cases hs
          · cases hs
        · cases hc
      · cases hc
    · cases hc
  case indexAddr t x i =>
    split at hc
    · rename_i e x' i' hu hx hi
      split at hc
      · rename_i hh
        obtain ⟨j, hj⟩ := Option.isSome_iff_exists.1 hh
        cases hc
        simp only [step] at hs
        split at hs
        · rename_i b o len cap ls k n e1 e2
          have hv := hf.ev hx
          have hn := hf.ev hi
          rw [e1] at hv
          rw [e2] at hn
          split at hs
          · rename_i h0
            cases hs
            exact s_iaddr hr hu hj hv hn h0
          · cases hs
        · cases hs
      · cases hc
    · rename_i n0 e x' i' hu hx hi
      split at hc
      · rename_i hh
        obtain ⟨j, hj⟩ := Option.isSome_iff_exists.1 hh
        cases hc
        simp only [step] at hs
        split at hs
        · rename_i b o k n e1 e2
          have hv := hf.ev hx
          have hn := hf.ev hi
          rw [e1] at hv
          rw [e2] at hn
          split at hs
          · rename_i h0
            cases hs
            exact s_iaddrArr hr hu hj hv hn h0
          · cases hs
        · cases hs
      · cases hc
    · cases hc
  case index t x i =>
    split at hc
    · rename_i x' i' hu hx hi
      cases hc
      simp only [step] at hs
      split at hs
      · rename_i s k n e1 e2
        have hv := hf.ev hx
        have hn := hf.ev hi
        rw [e1] at hv
        rw [e2] at hn
        split at hs
        · rename_i h0
          split at hs
          · rename_i c hcc
            cases hs
            exact s_index hr hu hv hn h0 hcc
          · cases hs
        · cases hs
      · cases hs
    · rename_i n0 e x' i' hu hx hi
      split at hc
      · rename_i hh
        obtain ⟨d, hd⟩ := Option.isSome_iff_exists.1 hh
        cases hc
        simp only [step] at hs
        split at hs
        · rename_i l k n e1 e2
          have hv := hf.ev hx
          have hn := hf.ev hi
          rw [e1] at hv
          rw [e2] at hn
          split at hs
          · rename_i h0
            split at hs
            · rename_i ha
              cases hs
              exact s_indexArr hr hu hd hv hn h0 (.inl ⟨ha, rfl⟩)
            · rename_i ha
              split at hs
              · rename_i x0 hx0
                cases hs
                exact s_indexArr hr hu hd hv hn h0 (.inr ⟨by simpa using ha, hx0⟩)
              · cases hs
          · cases hs
        · cases hs
      · cases hc
    · cases hc
  case extract x i =>
    simp only [Option.map_eq_some_iff] at hc
    obtain ⟨y, hy, rfl⟩ := hc
    simp only [step] at hs
    split at hs
    · rename_i l e1
      split at hs
      · rename_i v0 hv0
        cases hs
        exact s_ext hr (hf.ev hy) e1 hv0
      · cases hs
    · cases hs
  case call c =>
    obtain ⟨callee, args, argTypes⟩ := c
    split at hc
    · cases hc
    · rename_i ys hys
      have hargs := hf.evs hys
      have hb : ∀ b, execOp a.eval ⟨dst, .call ⟨.builtin b, args, argTypes⟩, type, pos, after, guard⟩ = builtin b argTypes type (args.map fun | .const _ => true | _ => false) (args.map a.eval) := fun b => rfl
      obtain ⟨b, hbb⟩ := hcb _ rfl
      simp only at hbb
      subst hbb
      · rw [hb b]
        have one : ∀ {y : Opd}, ys = [y] → ∃ xv, args.map a.eval = #[xv] ∧ VRel ρ (V.ev fr y) xv := by
          intro y hy
          subst hy
          simp only [V.evs] at hargs
          simp only [VRels] at hargs
          obtain ⟨xv, s, he, h1, rfl⟩ := hargs
          exact ⟨xv, Array.ext' (by simpa using he), h1⟩
        have two : ∀ {y z : Opd}, ys = [y, z] → ∃ xv yv, args.map a.eval = #[xv, yv] ∧ VRel ρ (V.ev fr y) xv ∧ VRel ρ (V.ev fr z) yv := by
          intro y z hy
          subst hy
          simp only [V.evs] at hargs
          simp only [VRels] at hargs
          obtain ⟨xv, s, he, h1, yv, s', rfl, h2, rfl⟩ := hargs
          exact ⟨xv, yv, Array.ext' (by simpa using he), h1, h2⟩
        have arr1 : ∀ {t : TypeId}, argTypes.toList = [t] → argTypes = #[t] := fun h => Array.ext' (by simpa using h)
        have arr2 : ∀ {t u : TypeId}, argTypes.toList = [t, u] → argTypes = #[t, u] := fun h => Array.ext' (by simpa using h)
        cases b <;> simp only at hc <;> (try (cases hc; done))
        case append =>
          split at hc
          · rename_i t u x y hat
            have := arr2 hat; subst this
            obtain ⟨xv, yv, hav, hx, hy⟩ := two rfl
            rw [hav]
            split at hc
            · rename_i e d hu1 hu2
              split at hc
              · rename_i z hz
                obtain ⟨i, zv, hi, hiz, hzc, hzr⟩ := cZero_rel (ρ := ρ) hz
                split at hc
                · rename_i hzl
                  have hzs : zv.cells.size = P.cellsOf e := by have := hzc.length; simp at this; omega
                  split at hc
                  · rename_i k0
                    cases hc
                    simp only [step] at hs
                    split at hs
                    · rename_i k n e1
                      rw [e1] at hy
                      simp only [VRel] at hy; subst hy
                      split at hs
                      · rename_i hh
                        refine s_appendN hr hu1 (appends_zeros hu1 hu2 hi hiz hzs hh.1 hh.2.1 hh.2.2.1) (new := repeatL z n.toNat) (repeatL_rel hzc n.toNat) ?_ hx hs type
                        simp [hzs]
                      · cases hs
                    · cases hs
                  · cases hc
                    simp only [step, append] at hs
                    split at hs
                    · cases hs
                    · rename_i n hn
                      split at hs
                      · cases hs
                      · rename_i new hnew
                        obtain ⟨m, hm, hml, hrun⟩ := firstCells_rel (P := P) hr hy hnew
                        exact s_appendN hr hu1 (appends_cells hu1 hu2 (by simp) hi hiz hzs (fun w => lenOf_rel hy hn w) hrun) hm hml hx hs type
                  · cases hc
                    simp only [step, append] at hs
                    split at hs
                    · cases hs
                    · rename_i n hn
                      split at hs
                      · cases hs
                      · rename_i new hnew
                        obtain ⟨m, hm, hml, hrun⟩ := firstCells_rel (P := P) hr hy hnew
                        exact s_appendN hr hu1 (appends_cells hu1 hu2 (by simp) hi hiz hzs (fun w => lenOf_rel hy hn w) hrun) hm hml hx hs type
                  · cases hc
                · cases hc
              · cases hc
            · cases hc
          · cases hc
        case cap =>
          split at hc
          · rename_i t x hat
            have := arr1 hat; subst this
            obtain ⟨xv, hav, hx⟩ := one rfl
            rw [hav]
            split at hc
            · rename_i e hu
              cases hc
              simp only [step] at hs
              split at hs
              · rename_i e1
                cases hs
                exact s_cap hr hu hx (.inl ⟨e1, rfl⟩) type
              · rename_i b o n c e1
                cases hs
                exact s_cap hr hu hx (.inr ⟨_, _, _, e1⟩) type
              · cases hs
            · rename_i n e hu
              cases hc
              simp only [step] at hs
              cases hs
              exact s_cap_array hr hu xv type
            · cases hc
          · cases hc
        case clear =>
          split at hc
          · rename_i t x hat
            have := arr1 hat; subst this
            obtain ⟨xv, hav, hx⟩ := one rfl
            rw [hav]
            split at hc
            · rename_i e hu
              simp only [Option.map_eq_some_iff] at hc
              obtain ⟨z, hz, rfl⟩ := hc
              simp only [step] at hs
              split at hs
              · rename_i e1
                rw [e1] at hx
                cases hs
                exact s_clear_nil hr hu hx type
              · rename_i b o len cap ls e1
                rw [e1] at hx
                split at hs
                · rename_i h0
                  cases hs
                  exact s_clear hr hu hz hx (.inl ⟨h0, rfl⟩) type
                · rename_i h0
                  split at hs
                  · rename_i h1 hst
                    cases hs
                    exact s_clear hr hu hz hx (.inr ⟨h0, hst⟩) type
                  · cases hs
              · cases hs
            · cases hc
          · cases hc
        case copy =>
          split at hc
          · rename_i t u x y hat
            have := arr2 hat; subst this
            obtain ⟨xv, yv, hav, hx, hy⟩ := two rfl
            rw [hav]
            split at hc
            · rename_i e hu
              split at hc
              · rename_i hi
                obtain ⟨i, hi⟩ := Option.isSome_iff_exists.1 hi
                cases hc
                simp only [step] at hs
                split at hs
                · cases hs
                · rename_i m hm
                  split at hs
                  · rename_i e1
                    rw [e1] at hx
                    cases hs
                    exact s_copy_nil hr hu hi hx hy hm type
                  · rename_i b o len cap ls e1
                    rw [e1] at hx
                    split at hs
                    · cases hs
                    · rename_i c hcc
                      split at hs
                      · rename_i h0
                        cases hs
                        exact s_copy hr hu hi hx hy hm hcc (.inl ⟨h0, rfl⟩) type
                      · rename_i h0
                        split at hs
                        · rename_i h1 hst
                          cases hs
                          exact s_copy hr hu hi hx hy hm hcc (.inr ⟨h0, hst⟩) type
                        · cases hs
                  · cases hs
              · cases hc
            · cases hc
          · cases hc
        case len =>
          split at hc
          · rename_i t x hat
            have := arr1 hat; subst this
            obtain ⟨xv, hav, hx⟩ := one rfl
            rw [hav]
            split at hc
            · rename_i hu
              cases hc
              simp only [step] at hs
              split at hs
              · rename_i s e1
                rw [e1] at hx
                cases hs
                exact s_len_str hr hu hx type
              · cases hs
            · rename_i e hu
              cases hc
              simp only [step] at hs
              split at hs
              · rename_i e1
                rw [e1] at hx
                cases hs
                exact s_len_slice hr hu hx (n := 0) rfl (by simp) type
              · rename_i b o n cap ls e1
                rw [e1] at hx
                cases hs
                exact s_len_slice hr hu hx (n := n) rfl (by simp) type
              · cases hs
            · rename_i n e hu
              cases hc
              simp only [step] at hs
              cases hs
              exact s_len_array hr hu xv type
            · rename_i p hu
              split at hc
              · rename_i n e hu2
                cases hc
                simp only [step] at hs
                cases hs
                exact s_len_ptr hr hu hu2 xv type
              · cases hc
            · cases hc
          · cases hc
        case max =>
          cases hc
          simp only [step, pureV] at hs
          split at hs
          · cases hs
          · rename_i x r hev
            rw [hev] at hargs
            simp only [VRels] at hargs
            obtain ⟨xv, m, hm, hx, hr2⟩ := hargs
            split at hs
            · rename_i r0 hr0
              cases hs
              have := s_minmax (P := P) hr hx hr2 hr0 argTypes type
              have e1 : (xv :: m).toArray = Array.map a.eval args := Array.ext' (by simpa using hm.symm)
              rw [e1] at this
              exact this
            · cases hs
        case min =>
          cases hc
          simp only [step, pureV] at hs
          split at hs
          · cases hs
          · rename_i x r hev
            rw [hev] at hargs
            simp only [VRels] at hargs
            obtain ⟨xv, m, hm, hx, hr2⟩ := hargs
            split at hs
            · rename_i r0 hr0
              cases hs
              have := s_minmax (P := P) hr hx hr2 hr0 argTypes type
              have e1 : (xv :: m).toArray = Array.map a.eval args := Array.ext' (by simpa using hm.symm)
              rw [e1] at this
              exact this
            · cases hs

end Go.V
