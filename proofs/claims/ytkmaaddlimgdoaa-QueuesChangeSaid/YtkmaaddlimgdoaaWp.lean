/-
  What code of the abstract machine comes to: rules.
-/
import Derived.Test.YtkmaaddlimgdoaaSound
set_option linter.unusedVariables false
set_option linter.unusedSimpArgs false
set_option linter.unusedSectionVars false
namespace Go.V

def CallLe (c d : CallT) : Prop := ∀ f a h r, c f a h = some r → d f a h = some r

theorem step_mono {meth : TypeId → Val → String → Option (FuncId × Val)} {c d : CallT} (hcd : CallLe c d) {fr : List Val} {h : Heap} {o : VOp} {r : Val × Heap} (e : step meth c fr h o = some r) : step meth d fr h o = some r := by
  cases o
  case call f l => simp only [step] at e ⊢; exact hcd _ _ _ _ e
  case callv x l =>
    simp only [step] at e ⊢
    split at e
    · exact hcd _ _ _ _ e
    · cases e
  case invoke x n l =>
    simp only [step] at e ⊢
    generalize ev fr x = y at e ⊢
    cases y with
    | iface t v =>
      simp only at e ⊢
      cases hm : meth t v n with
      | none => rw [hm] at e; cases e
      | some p => rw [hm] at e; exact hcd _ _ _ _ e
    | _ => cases e
  all_goals exact e

theorem runOps_mono {meth : TypeId → Val → String → Option (FuncId × Val)} {c d : CallT} (hcd : CallLe c d) : ∀ (l : List VOper) (fr : List Val) (h : Heap) (r : List Val × Heap), runOps meth c l fr h = some r → runOps meth d l fr h = some r
  | [], fr, h, r, e => e
  | o :: l, fr, h, r, e => by
    simp only [runOps] at e ⊢
    split at e
    · cases e
    · exact runOps_mono hcd l _ _ r e
    · split at e
      · rename_i hs
        rw [step_mono hcd hs]
        exact runOps_mono hcd l _ _ r e
      · cases e

theorem runDraw_mono {meth : TypeId → Val → String → Option (FuncId × Val)} {c d : CallT} (hcd : CallLe c d) : ∀ (l : List VOper) (rs : List (Nat × Nat)) (fr : List Val) (h : Heap) (r : List Val × Heap), runDraw meth c l rs fr h = some r → runDraw meth d l rs fr h = some r
  | [], rs, fr, h, r, e => e
  | o :: l, rs, fr, h, r, e => by
    simp only [runDraw] at e ⊢
    split at e
    · cases e
    · exact runDraw_mono hcd l _ _ _ r e
    · split at e
      · rename_i hk
        rw [if_pos hk]
        split at e
        · rename_i hs
          rw [step_mono hcd hs]
          exact runDraw_mono hcd l _ _ _ r e
        · cases e
      · rename_i hk
        rw [if_neg hk]
        split at e
        · rename_i hk2
          rw [if_pos hk2]
          split at e
          · rename_i hs
            rw [step_mono hcd hs]
            exact runDraw_mono hcd l _ _ _ r e
          · cases e
        · cases e

def ExecLe (c d : VC → List Val → Heap → Option (Ex × List Val × Heap)) : Prop := ∀ vc fr h r, c vc fr h = some r → d vc fr h = some r

theorem callF_mono {E : Env} {c d : VC → List Val → Heap → Option (Ex × List Val × Heap)} (hcd : ExecLe c d) : CallLe (callF E c) (callF E d) := by
  intro f a h r e
  unfold callF at e ⊢
  split at e
  · exact e
  · split at e
    · cases e
    · rename_i vf _
      cases hx : c vf.body (enter vf.ntmps a) h with
      | none => rw [hx] at e; cases e
      | some q =>
        rw [hx] at e
        rw [hcd _ _ _ _ hx]
        exact e

theorem exec_mono1 (E : Env) : ∀ n, ExecLe (exec E n) (exec E (n + 1))
  | 0 => by intro vc fr h r e; simp [exec] at e
  | n + 1 => by
    have ih := exec_mono1 E n
    intro vc fr h r e
    have hc := callF_mono (E := E) ih
    cases vc with
    | skip => exact e
    | exit => exact e
    | ret => exact e
    | region ops =>
      rw [exec] at e ⊢
      split at e
      · rename_i hx
        rw [runOps_mono hc _ _ _ _ hx]; exact e
      · cases e
    | draw ops =>
      rw [exec] at e ⊢
      split at e
      · rename_i hx
        rw [runDraw_mono hc _ _ _ _ _ hx]; exact e
      · cases e
    | seq a b =>
      rw [exec] at e ⊢
      split at e
      · rename_i hx
        rw [ih _ _ _ _ hx]
        exact ih _ _ _ _ e
      · rename_i hx
        have h1 := ih _ _ _ _ e
        rw [h1]
        obtain ⟨ex, fr', h'⟩ := r
        cases ex with
        | normal => exact absurd e (hx _ _)
        | _ => rfl
    | cond c a b =>
      rw [exec] at e ⊢
      split at e
      · exact ih _ _ _ _ e
      · exact ih _ _ _ _ e
      · cases e
    | block id a =>
      rw [exec] at e ⊢
      split at e
      · rename_i hx
        rw [ih _ _ _ _ hx]; exact e
      · rename_i hx
        have h1 := ih _ _ _ _ e
        rw [h1]
        obtain ⟨ex, fr', h'⟩ := r
        cases ex with
        | exit i => exact absurd e (hx _ _ _)
        | _ => rfl
    | loop a =>
      rw [exec] at e ⊢
      split at e
      · rename_i hx
        rw [ih _ _ _ _ hx]
        exact ih _ _ _ _ e
      · rename_i hx
        have h1 := ih _ _ _ _ e
        rw [h1]
        obtain ⟨ex, fr', h'⟩ := r
        cases ex with
        | normal => exact absurd e (hx _ _)
        | _ => rfl

theorem exec_mono {E : Env} {n m : Nat} (hnm : n ≤ m) : ExecLe (exec E n) (exec E m) := by
  induction m with
  | zero => have : n = 0 := by omega
            subst this; exact fun _ _ _ _ e => e
  | succ m ih =>
    by_cases h : n = m + 1
    · subst h; exact fun _ _ _ _ e => e
    · exact fun vc fr h r e => exec_mono1 E m vc fr h r (ih (by omega) vc fr h r e)

theorem run_mono {E : Env} {n m : Nat} (hnm : n ≤ m) : CallLe (run E n) (run E m) := callF_mono (exec_mono hnm)

/- THE RULES. -/
inductive WE (E : Env) (vc : VC) (fr : List Val) (h : Heap) (Q : Ex → List Val → Heap → Prop) : Prop
  | mk (n : Nat) (ex : Ex) (fr' : List Val) (h' : Heap) (e : exec E n vc fr h = some (ex, fr', h')) (q : Q ex fr' h')
inductive WO (E : Env) (l : List VOper) (fr : List Val) (h : Heap) (Q : List Val → Heap → Prop) : Prop
  | mk (n : Nat) (fr' : List Val) (h' : Heap) (e : runOps E.meth (run E n) l fr h = some (fr', h')) (q : Q fr' h')
inductive WD (E : Env) (l : List VOper) (rs : List (Nat × Nat)) (fr : List Val) (h : Heap) (Q : List Val → Heap → Prop) : Prop
  | mk (n : Nat) (fr' : List Val) (h' : Heap) (e : runDraw E.meth (run E n) l rs fr h = some (fr', h')) (q : Q fr' h')
inductive WC (E : Env) (f : FuncId) (args : List Val) (h : Heap) (Q : Val → Heap → Prop) : Prop
  | mk (n : Nat) (v : Val) (h' : Heap) (e : run E n f args h = some (v, h')) (q : Q v h')

variable {E : Env} {fr : List Val} {h : Heap} {Q : Ex → List Val → Heap → Prop}

theorem WE.mono {vc : VC} {Q' : Ex → List Val → Heap → Prop} (w : WE E vc fr h Q) (k : ∀ ex fr h, Q ex fr h → Q' ex fr h) : WE E vc fr h Q' := by
  obtain ⟨n, ex, fr', h', e, q⟩ := w
  exact ⟨n, ex, fr', h', e, k _ _ _ q⟩

theorem WC.mono {f : FuncId} {args : List Val} {R R' : Val → Heap → Prop} (w : WC E f args h R) (k : ∀ v h, R v h → R' v h) : WC E f args h R' := by
  obtain ⟨n, v, h', e, q⟩ := w
  exact ⟨n, v, h', e, k _ _ q⟩

theorem WE.skip (k : Q .normal fr h) : WE E .skip fr h Q := ⟨1, _, _, _, rfl, k⟩
theorem WE.exit {i : Nat} (k : Q (.exit i) fr h) : WE E (.exit i) fr h Q := ⟨1, _, _, _, rfl, k⟩
theorem WE.ret (k : Q .ret fr h) : WE E .ret fr h Q := ⟨1, _, _, _, rfl, k⟩

theorem WE.region {l : List VOper} (w : WO E l fr h (Q .normal)) : WE E (.region l) fr h Q := by
  obtain ⟨n, fr', h', e, q⟩ := w
  refine ⟨n + 1, .normal, fr', h', ?_, q⟩
  simp only [exec]
  rw [show callF E (exec E n) = run E n from rfl, e]

theorem WE.draw {l : List VOper} (w : WD E l [] fr h (Q .normal)) : WE E (.draw l) fr h Q := by
  obtain ⟨n, fr', h', e, q⟩ := w
  refine ⟨n + 1, .normal, fr', h', ?_, q⟩
  simp only [exec]
  rw [show callF E (exec E n) = run E n from rfl, e]

def seqQ (E : Env) (b : VC) (Q : Ex → List Val → Heap → Prop) : Ex → List Val → Heap → Prop
  | .normal, fr, h => WE E b fr h Q
  | ex, fr, h => Q ex fr h

theorem WE.seq {a b : VC} (w : WE E a fr h (seqQ E b Q)) : WE E (.seq a b) fr h Q := by
  obtain ⟨n, ex, fr', h', e, q⟩ := w
  cases ex with
  | normal =>
    obtain ⟨m, ex2, fr2, h2, e2, q2⟩ := q
    refine ⟨max n m + 1, ex2, fr2, h2, ?_, q2⟩
    rw [exec, exec_mono (Nat.le_max_left n m) _ _ _ _ e]
    exact exec_mono (Nat.le_max_right n m) _ _ _ _ e2
  | exit i => exact ⟨n + 1, _, fr', h', by rw [exec, e], q⟩
  | ret => exact ⟨n + 1, _, fr', h', by rw [exec, e], q⟩

theorem WE.cond {c : Opd} {a b : VC} {t : Bool} (hc : ev fr c = .bool t) (w : WE E (if t then a else b) fr h Q) : WE E (.cond c a b) fr h Q := by
  obtain ⟨n, ex, fr', h', e, q⟩ := w
  refine ⟨n + 1, ex, fr', h', ?_, q⟩
  rw [exec, hc]
  cases t <;> exact e

def blockQ (id : Nat) (Q : Ex → List Val → Heap → Prop) : Ex → List Val → Heap → Prop
  | .exit i, fr, h => if i = id then Q .normal fr h else Q (.exit i) fr h
  | ex, fr, h => Q ex fr h

theorem WE.block {id : Nat} {a : VC} (w : WE E a fr h (blockQ id Q)) : WE E (.block id a) fr h Q := by
  obtain ⟨n, ex, fr', h', e, q⟩ := w
  cases ex with
  | exit i =>
    simp only [blockQ] at q
    split at q
    · rename_i hi; exact ⟨n + 1, _, fr', h', by rw [exec, e]; simp [hi], q⟩
    · rename_i hi; exact ⟨n + 1, _, fr', h', by rw [exec, e]; simp [hi], q⟩
  | normal => exact ⟨n + 1, _, fr', h', by rw [exec, e], q⟩
  | ret => exact ⟨n + 1, _, fr', h', by rw [exec, e], q⟩

/-- A loop that an invariant holds, with a measure. -/
theorem WE.loop {a : VC} (I : Nat → List Val → Heap → Prop) (hs : ∀ k fr h, I k fr h → WE E a fr h fun ex fr' h' => match ex with | .normal => ∃ k', k' < k ∧ I k' fr' h' | ex => Q ex fr' h') :
    ∀ k fr h, I k fr h → WE E (.loop a) fr h Q := by
  intro k
  induction k using Nat.strongRecOn with
  | ind k ih =>
    intro fr h hi
    obtain ⟨n, ex, fr', h', e, q⟩ := hs k fr h hi
    cases ex with
    | normal =>
      obtain ⟨k', hk, hi'⟩ := q
      obtain ⟨m, ex2, fr2, h2, e2, q2⟩ := ih k' hk fr' h' hi'
      refine ⟨max n m + 1, ex2, fr2, h2, ?_, q2⟩
      rw [exec, exec_mono (Nat.le_max_left n m) _ _ _ _ e]
      exact exec_mono (Nat.le_max_right n m) _ _ _ _ e2
    | exit i => exact ⟨n + 1, _, fr', h', by rw [exec, e], q⟩
    | ret => exact ⟨n + 1, _, fr', h', by rw [exec, e], q⟩

theorem WO.nil {R : List Val → Heap → Prop} (k : R fr h) : WO E [] fr h R := ⟨0, _, _, rfl, k⟩

theorem WO.op {o : VOper} {l : List VOper} {R : List Val → Heap → Prop} (hg : wanted fr o.guard = some true) {n : Nat} {v : Val} {h' : Heap} (hs : step E.meth (run E n) fr h o.op = some (v, h')) (k : WO E l (setDst fr o.dst v) h' R) : WO E (o :: l) fr h R := by
  obtain ⟨m, fr2, h2, e, q⟩ := k
  refine ⟨max n m, fr2, h2, ?_, q⟩
  rw [runOps, hg]
  simp only
  rw [step_mono (run_mono (Nat.le_max_left n m)) hs]
  exact runOps_mono (run_mono (Nat.le_max_right n m)) _ _ _ _ e

theorem WO.not {o : VOper} {l : List VOper} {R : List Val → Heap → Prop} (hg : wanted fr o.guard = some false) (k : WO E l (setDst fr o.dst .undef) h R) : WO E (o :: l) fr h R := by
  obtain ⟨m, fr2, h2, e, q⟩ := k
  refine ⟨m, fr2, h2, ?_, q⟩
  rw [runOps, hg]
  exact e

theorem WO.call {d : Option Nat} {f : FuncId} {args : List Opd} {g : Option (Nat × Bool)} {fu : Bool} {hd : List Nat} {l : List VOper} {R : List Val → Heap → Prop} (hg : wanted fr g = some true) (w : WC E f (evs fr args) h fun v h' => WO E l (setDst fr d v) h' R) : WO E (⟨d, .call f args, g, fu, hd⟩ :: l) fr h R := by
  obtain ⟨n, v, h', e, q⟩ := w
  exact WO.op (o := ⟨d, .call f args, g, fu, hd⟩) hg (n := n) (by simp only [step]; exact e) q

/-- A function's call. -/
theorem WC.fn {f : FuncId} {vf : VFn} {args : List Val} {R : Val → Heap → Prop} (hp : E.prims f = none) (hf : E.fns f = some vf) (w : WE E vf.body (enter vf.ntmps args) h fun ex fr h' => match ex with | .exit _ => False | _ => ∃ l, readResults fr h' vf.results = some l ∧ R (resultOf l) h') : WC E f args h R := by
  obtain ⟨n, ex, fr', h', e, q⟩ := w
  cases ex with
  | exit i => exact q.elim
  | normal =>
    obtain ⟨l, h1, h2⟩ := q
    refine ⟨n, resultOf l, h', ?_, h2⟩
    unfold run callF
    rw [hp]; simp only; rw [hf]; simp only; rw [e]; simp only; rw [h1]
  | ret =>
    obtain ⟨l, h1, h2⟩ := q
    refine ⟨n, resultOf l, h', ?_, h2⟩
    unfold run callF
    rw [hp]; simp only; rw [hf]; simp only; rw [e]; simp only; rw [h1]

end Go.V
