/-
  Parts of the proof:
  Machine K: calls; regions whose order is that of the text.
  Machine K: regions that draw their order.
  Loops over functions, in the judgements over explicit states.
  Machine K: contents; freezing.
  Machine K: code.
  Machine K: functions.
  The program's own code as the machine's environment.
  Machine K: calls by contents that are not remembered.
  The functions of the program: each is what its residual program computes.
  YtepmmbbfladciaaGreatZmc
-/
import Derived.Test.YtepmmbbfladciaaGreatProg
import Derived.KernelRfl
import Derived.Test.YtepmmbbfladciaaGreatZ2

section
set_option linter.unusedVariables false
set_option linter.unusedSimpArgs false
set_option linter.unusedSectionVars false
namespace Go.V
noncomputable section
abbrev ifS (b : Bool) (k : AN) : AN := Bool.rec (motive := fun _ => AN) .no k b
theorem ifS_inv {b : Bool} {k : AN} (h : ifS b k ≠ .no) : b = true ∧ ifS b k = k := by
  cases b
  · exact absurd rfl h
  · exact ⟨rfl, rfl⟩
abbrev CK := Heap → List Val → (Val → Heap → AN) → AN
structure Ce where
  f : FuncId
  c : CK
def SimC (E : Env) (f : FuncId) (args : List Val) (p : Heap) (v : Val) (p' : Heap) : Prop := ∀ (h : Heap) (F : Nat → Prop) (σ : Sg) (args' : List Val), HR p h F σ → Rs h F σ args args' → ∃ n v' h' F' σ', run E n f args' h = some (v', h') ∧ Sim p h F σ p' h' F' σ' ∧ Rv h' F' σ' v v'
def CallOk (E : Env) (f : FuncId) (c : CK) : Prop := ∀ (p : Heap) (args : List Val) (k : Val → Heap → AN), c p args k ≠ .no → ∃ v p', c p args k = k v p' ∧ SimC E f args p v p'
def TOk (E : Env) (T : List Ce) : Prop := ∀ e ∈ T, CallOk E e.f e.c
def getC (f : FuncId) (T : List Ce) : Ce := List.rec (motive := fun _ => Ce) ⟨f, fun _ _ _ => .no⟩ (fun e _ ih => Bool.rec (motive := fun _ => Ce) ih e (Nat.beq f e.f)) T
theorem getC_spec (f : FuncId) : ∀ (T : List Ce), getC f T = ⟨f, fun _ _ _ => .no⟩ ∨ (getC f T ∈ T ∧ (getC f T).f = f)
  | [] => .inl rfl
  | e :: r => by
    have ih := getC_spec f r
    have e0 : getC f (e :: r) = Bool.rec (motive := fun _ => Ce) (getC f r) e (Nat.beq f e.f) := rfl
    rw [e0, beq_rec]
    by_cases h : f = e.f
    · rw [if_pos h]; exact .inr ⟨List.mem_cons_self .., h.symm⟩
    · rw [if_neg h]
      rcases ih with q | q
      · exact .inl q
      · exact .inr ⟨List.mem_cons_of_mem _ q.1, q.2⟩
theorem TOk.call {E : Env} {T : List Ce} (hT : TOk E T) {f : FuncId} : CallOk E f (getC f T).c := by
  rcases getC_spec f T with q | ⟨q1, q2⟩
  · rw [q]; intro p args k h; exact absurd rfl h
  · have := hT _ q1
    rw [q2] at this
    exact this
def fcatK (a b c : List Val) (k : List Val → AN) : AN := catK b c (fun t => catK a t k)
theorem fcatK_eq (a b c : List Val) (k : List Val → AN) : fcatK a b c k = k (a ++ b ++ c) := by
  unfold fcatK; rw [catK_eq, catK_eq, List.append_assoc]
def kcv (T : List Ce) (p : Heap) (x : Val) (args : List Val) (k : Val → Heap → AN) : AN := fnK x (fun f a c => match f with
  | .func g => fcatK a args c (fun l => (getC g T).c p l k)
  | .yield r => catK c (.tup args :: a) (fun l => (getC (big + r) T).c p l k)
  | _ => .no)
def CvOk (x : Val) (args : List Val) (g : FuncId) (l : List Val) : Prop := (∃ a c, x = .func (.func g) a c ∧ l = a ++ args ++ c) ∨ ∃ r a c, x = .func (.yield r) a c ∧ g = big + r ∧ l = c ++ .tup args :: a
theorem kcv_inv {T : List Ce} {p : Heap} {x : Val} {args : List Val} {k : Val → Heap → AN} (h : kcv T p x args k ≠ .no) : ∃ g l, CvOk x args g l ∧ kcv T p x args k = (getC g T).c p l k := by
  unfold kcv at h ⊢
  obtain ⟨f, a, c, rfl, e2⟩ := fnK_inv h
  rw [e2] at h ⊢
  cases f with
  | func g => exact ⟨g, _, .inl ⟨a, c, rfl, rfl⟩, fcatK_eq _ _ _ _⟩
  | yield r => exact ⟨big + r, _, .inr ⟨r, a, c, rfl, rfl, rfl⟩, catK_eq _ _ _⟩
  | _ => exact absurd rfl h
inductive JV where
  | y (t : TypeId) (v : Val)
  | z
def jfC : Val → JV := Val.rec (motive_1 := fun _ => JV) (motive_2 := fun _ => Unit) .z (fun _ => .z) (fun _ _ => .z) (fun _ => .z) .z (fun _ _ => .z) .z (fun _ _ _ _ _ => .z) .z (fun _ => .z) .z (fun _ _ _ _ _ => .z) .z (fun t v _ => .y t v) (fun _ _ => .z) (fun _ _ => .z) (fun _ _ _ => .z) (fun _ _ _ _ => .z) (fun _ _ _ _ => .z) .z .z () (fun _ _ _ _ => ())
def kiv (m : TypeId → Val → String → Option (FuncId × Val)) (T : List Ce) (p : Heap) (x : Val) (n : String) (args : List Val) (k : Val → Heap → AN) : AN := JV.rec (motive := fun _ => AN) (fun t v => Option.rec (motive := fun _ => AN) .no (fun r => (getC r.1 T).c p (r.2 :: args) k) (m t v n)) .no (jfC x)
theorem kiv_inv {m : TypeId → Val → String → Option (FuncId × Val)} {T : List Ce} {p : Heap} {x : Val} {n : String} {args : List Val} {k : Val → Heap → AN} (h : kiv m T p x n args k ≠ .no) : ∃ t v f r, x = .iface t v ∧ m t v n = some (f, r) ∧ kiv m T p x n args k = (getC f T).c p (r :: args) k := by
  cases x with
  | iface t v =>
    have e0 : kiv m T p (.iface t v) n args k = Option.rec (motive := fun _ => AN) .no (fun r => (getC r.1 T).c p (r.2 :: args) k) (m t v n) := rfl
    rw [e0] at h ⊢
    cases e : m t v n with
    | none => rw [e] at h; exact absurd rfl h
    | some q =>
      obtain ⟨f, r⟩ := q
      exact ⟨t, v, f, r, rfl, e, rfl⟩
  | _ => exact absurd rfl h
section
variable (m : TypeId → Val → String → Option (FuncId × Val)) (T : List Ce) (N : Nat)
def oneX (o : VOp) (env : List (Nat × Val)) (p : Heap) (k : Val → Heap → AN) : AN := match o with
  | .call f args => (getC f T).c p (evsE N env args) k
  | .callv x args => kcv T p (evE N env x) (evsE N env args) k
  | .invoke x n args => kiv m T p (evE N env x) n (evsE N env args) k
  | o => opX m N env p k o
def upd (env : List (Nat × Val)) (d : Option Nat) (v : Val) : List (Nat × Val) := match d with
  | none => env
  | some d => (d, v) :: env
def XL (l : List VOper) : List (Nat × Val) → Heap → (List (Nat × Val) → Heap → AN) → AN := List.rec (motive := fun _ => List (Nat × Val) → Heap → (List (Nat × Val) → Heap → AN) → AN) (fun env p K => K env p) (fun o _ ih env p K => oneX m T N o.op env p (fun v p' => ih (upd env o.dst v) p' K)) l
def undE (l : List VOper) : List (Nat × Val) → List (Nat × Val) := List.rec (motive := fun _ => List (Nat × Val) → List (Nat × Val)) (fun env => env) (fun o _ ih env => ih (upd env o.dst .undef)) l
def FnT (n : Nat) : Type := Nat.rec (motive := fun _ => Type) (Heap → AN) (fun _ ih => Val → ih) n
abbrev appL (D : List Nat) : FnT D.length → List (Nat × Val) → Heap → AN := List.rec (motive := fun D => FnT D.length → List (Nat × Val) → Heap → AN) (fun j _ p => j p) (fun t _ ih j env p => ih (j (lkF t env)) env p) D
abbrev lamL (D : List Nat) : (List (Nat × Val) → Heap → AN) → FnT D.length := List.rec (motive := fun D => (List (Nat × Val) → Heap → AN) → FnT D.length) (fun f p => f [] p) (fun t _ ih f v => ih (fun vals p => f ((t, v) :: vals) p)) D
def jn (n : Nat) (F : FnT n → AN) (B : FnT n) : AN := F B
def zipE (D : List Nat) (env : List (Nat × Val)) : List (Nat × Val) := D.map fun t => (t, lk t env)
theorem appL_lamL : ∀ (D : List Nat) (f : List (Nat × Val) → Heap → AN) (env : List (Nat × Val)) (p : Heap), appL D (lamL D f) env p = f (zipE D env) p
  | [], f, env, p => rfl
  | t :: D, f, env, p => by
    have ih := appL_lamL D (fun vals p => f ((t, lkF t env) :: vals) p) env p
    show appL D (lamL D (fun vals p => f ((t, lkF t env) :: vals) p)) env p = _
    rw [ih, lkF_eq]; rfl
def apE (a b : List (Nat × Val)) : List (Nat × Val) := List.rec (motive := fun _ => List (Nat × Val)) b (fun x _ ih => x :: ih) a
theorem apE_eq (b : List (Nat × Val)) : ∀ a : List (Nat × Val), apE a b = a ++ b
  | [] => rfl
  | x :: a => congrArg (x :: ·) (apE_eq b a)
def dsts : List VOper → List Nat
  | [] => []
  | o :: r => match o.dst with
    | none => dsts r
    | some d => d :: dsts r
def Agree (D : List Nat) (env env' : List (Nat × Val)) : Prop := ∀ t, t ∉ D → lk t env' = lk t env
theorem Agree.refl (D : List Nat) (env : List (Nat × Val)) : Agree D env env := fun _ _ => rfl
theorem Agree.trans {D D' D2 : List Nat} {a b c : List (Nat × Val)} (x : Agree D a b) (y : Agree D' b c) (h1 : ∀ t ∈ D, t ∈ D2) (h2 : ∀ t ∈ D', t ∈ D2) : Agree D2 a c := fun t ht => (y t fun q => ht (h2 t q)).trans (x t fun q => ht (h1 t q))
theorem lk_app (a b : List (Nat × Val)) (t : Nat) : lk t (a ++ b) = if t ∈ a.map (·.1) then lk t a else lk t b := by
  induction a with
  | nil => simp
  | cons x a ih =>
    obtain ⟨d, v⟩ := x
    rw [List.cons_append, lk, lk, ih]
    by_cases h : t = d
    · subst h; simp
    · have : (t ∈ ((d, v) :: a).map (·.1)) = (t ∈ a.map (·.1)) := by simp [h]
      rw [if_neg h, if_neg h]
      simp only [this]
theorem lk_zip (D : List Nat) (env : List (Nat × Val)) {t : Nat} (h : t ∈ D) : lk t (zipE D env) = lk t env := by
  induction D with
  | nil => cases h
  | cons d D ih =>
    show lk t ((d, lk d env) :: zipE D env) = _
    rw [lk]
    by_cases e : t = d
    · subst e; rw [if_pos rfl]
    · rw [if_neg e]
      exact ih (by simpa [e] using h)
theorem zip_keys (D : List Nat) (env : List (Nat × Val)) : (zipE D env).map (·.1) = D := by
  simp [zipE, Function.comp_def]
theorem upd_eq {N : Nat} {env : List (Nat × Val)} {d : Option Nat} {v : Val} : setDst (V.mk N env) d v = V.mk N (upd env d v) := by
  cases d with
  | none => rfl
  | some d => exact setDst_mk N d env v
end
section
variable {E : Env} {T : List Ce} {N : Nat} {env : List (Nat × Val)} {p : Heap}
theorem Rs.lessE {h : Heap} {F : Nat → Prop} {σ : Sg} {e e2 : List (Nat × Val)} {fr' : List Val} (ha : ∀ t, lk t e2 = .junk ∨ lk t e2 = lk t e) (hf : Rs h F σ (V.mk N e) fr') : Rs h F σ (V.mk N e2) fr' := by
  refine .of_getD (by rw [hf.length, mk_length, mk_length]) fun t => ?_
  have hg := hf.getD t
  by_cases ht : t < N
  · rw [mk_getD ht] at hg ⊢
    rcases ha t with e | e
    · rw [e]; simp only [Rv]
    · rw [e]; exact hg
  · have e1 : ∀ e : List (Nat × Val), (V.mk N e).getD t .undef = .undef := fun e => by simp [V.mk, List.getD_eq_getElem?_getD, ht]
    rw [e1] at hg ⊢
    exact hg
def SimS (E : Env) (fr : List Val) (o : VOp) (p : Heap) (v : Val) (p' : Heap) : Prop := ∀ (h : Heap) (F : Nat → Prop) (σ : Sg) (fr' : List Val), HR p h F σ → fr'.length = fr.length → (∀ t ∈ o.tmps, Rv h F σ (fr.getD t .undef) (fr'.getD t .undef)) → ∃ n v' h' F' σ', step E.meth (run E n) fr' h o = some (v', h') ∧ Sim p h F σ p' h' F' σ' ∧ Rv h' F' σ' v v'
theorem opX_sim (hm : MethSim E.meth) {k : Val → Heap → AN} {o : VOp} (ho : o.ok = true) (h : opX E.meth N env p k o ≠ .no) : ∃ v p', opX E.meth N env p k o = k v p' ∧ step E.meth dead (V.mk N env) p o = some (v, p') ∧ nojunk (V.mk N env) o = true ∧ SimS E (V.mk N env) o p v p' := by
  obtain ⟨h1, v, p', h2, h3⟩ := opX_ok h
  refine ⟨v, p', h3, h2, h1, fun h F σ fr' a hl ht => ?_⟩
  have hfr := Rs.patch hl ht
  rw [← step_patch] at h2
  obtain ⟨v', q', F1, σ1, e1, s1, r1⟩ := step_sim (d := dead) hm (dead_sim _) a hfr ho (nojunk_patch h1) h2
  rw [step_patch] at e1
  exact ⟨0, v', q', F1, σ1, step_mono (fun f a h r e => by cases e) e1, s1, r1⟩
theorem oneX_sim (hm : MethSim E.meth) (hT : TOk E T) {k : Val → Heap → AN} {o : VOp} (ho : o.ok = true) (h : oneX E.meth T N o env p k ≠ .no) : ∃ v p', oneX E.meth T N o env p k = k v p' ∧ SimS E (V.mk N env) o p v p' := by
  have other : oneX E.meth T N o env p k = opX E.meth N env p k o → ∃ v p', oneX E.meth T N o env p k = k v p' ∧ SimS E (V.mk N env) o p v p' := by
    intro e
    rw [e] at h ⊢
    obtain ⟨v, p', h1, _, _, h2⟩ := opX_sim hm ho h
    exact ⟨v, p', h1, h2⟩
  cases o with
  | call f args =>
    have hao : args.all Opd.ok = true := by
      simp only [VOp.ok, VOp.opds, Bool.and_eq_true] at ho
      exact ho.1
    have e0 : oneX E.meth T N (.call f args) env p k = (getC f T).c p (evsE N env args) k := rfl
    rw [e0] at h ⊢
    rw [evsE_eq] at h ⊢
    obtain ⟨v, p', h1, h2⟩ := hT.call p _ k h
    refine ⟨v, p', h1, fun h F σ fr' a hl ht => ?_⟩
    have hargs := (Rs.patch hl ht).evs hao
    have q1 : ∀ fr : List Val, evs (patchF (VOp.call f args).tmps fr) args = evs fr args := fun fr => evs_congr fun t ht => patchF_getD ht
    rw [q1, q1] at hargs
    obtain ⟨n, v', h', F', σ', e1, s, r⟩ := h2 h F σ _ a hargs
    exact ⟨n, v', h', F', σ', e1, s, r⟩
  | callv x args =>
    have e0 : oneX E.meth T N (.callv x args) env p k = kcv T p (evE N env x) (evsE N env args) k := rfl
    rw [e0] at h ⊢
    rw [evsE_eq, evE_eq] at h ⊢
    simp only [VOp.ok, VOp.opds, Bool.and_eq_true, List.all_cons] at ho
    obtain ⟨f, l, hcv, e1⟩ := kcv_inv h
    rw [e1] at h ⊢
    obtain ⟨v, p', h1, h2⟩ := hT.call p _ k h
    refine ⟨v, p', h1, fun hh F σ fr' ha hl ht => ?_⟩
    have hb := Rs.patch hl ht
    have hargs := hb.evs ho.1.2
    have hx' := hb.ev ho.1.1
    have q1 : ∀ fr : List Val, evs (patchF (VOp.callv x args).tmps fr) args = evs fr args := fun fr => evs_congr fun t ht => patchF_getD (by
      show t ∈ x.tmp ++ args.flatMap Opd.tmp
      exact List.mem_append_right _ ht)
    have q2 : ∀ fr : List Val, V.ev (patchF (VOp.callv x args).tmps fr) x = V.ev fr x := fun fr => ev_congr fun t ht => patchF_getD (by
      show t ∈ x.tmp ++ args.flatMap Opd.tmp
      exact List.mem_append_left _ ht)
    rw [q1, q1] at hargs
    rw [q2, q2] at hx'
    rcases hcv with ⟨a, c, hx, rfl⟩ | ⟨r, a, c, hx, rfl, rfl⟩
    · rw [hx] at hx'
      simp only [Rv] at hx'
      obtain ⟨a', c', hx', r1, r2⟩ := hx'
      obtain ⟨n, v', h', F', σ', e1, s, r⟩ := h2 hh F σ _ ha ((r1.append hargs).append r2)
      exact ⟨n, v', h', F', σ', by simp only [step]; rw [hx']; exact e1, s, r⟩
    · rw [hx] at hx'
      simp only [Rv] at hx'
      obtain ⟨a', c', hx', r1, r2⟩ := hx'
      obtain ⟨n, v', h', F', σ', e1, s, r⟩ := h2 hh F σ (c' ++ .tup (evs fr' args) :: a') ha (r2.append (.cons (by simp only [Rv]; exact ⟨_, rfl, hargs⟩) r1))
      exact ⟨n, v', h', F', σ', by simp only [step]; rw [hx']; exact e1, s, r⟩
  | invoke x n args =>
    have e0 : oneX E.meth T N (.invoke x n args) env p k = kiv E.meth T p (evE N env x) n (evsE N env args) k := rfl
    rw [e0] at h ⊢
    rw [evsE_eq, evE_eq] at h ⊢
    simp only [VOp.ok, VOp.opds, Bool.and_eq_true, List.all_cons] at ho
    obtain ⟨t, v, f, r, hx, hq, e1⟩ := kiv_inv h
    rw [e1] at h ⊢
    obtain ⟨w, p', h1, h2⟩ := hT.call p _ k h
    refine ⟨w, p', h1, fun hh F σ fr' ha hl ht => ?_⟩
    have hb := Rs.patch hl ht
    have hargs := hb.evs ho.1.2
    have hx' := hb.ev ho.1.1
    have q1 : ∀ fr : List Val, evs (patchF (VOp.invoke x n args).tmps fr) args = evs fr args := fun fr => evs_congr fun t ht => patchF_getD (by
      show t ∈ x.tmp ++ args.flatMap Opd.tmp
      exact List.mem_append_right _ ht)
    have q2 : ∀ fr : List Val, V.ev (patchF (VOp.invoke x n args).tmps fr) x = V.ev fr x := fun fr => ev_congr fun t ht => patchF_getD (by
      show t ∈ x.tmp ++ args.flatMap Opd.tmp
      exact List.mem_append_left _ ht)
    rw [q1, q1] at hargs
    rw [q2, q2] at hx'
    rw [hx] at hx'
    simp only [Rv] at hx'
    obtain ⟨v', hx', rv⟩ := hx'
    obtain ⟨r', g1, g2⟩ := hm _ _ _ _ _ _ _ _ _ rv hq
    obtain ⟨n', v2, h', F', σ', e2, s, rr⟩ := h2 hh F σ _ ha (.cons g2 hargs)
    exact ⟨n', v2, h', F', σ', by simp only [step]; rw [hx']; simp only; rw [g1]; exact e2, s, rr⟩
  | _ => exact other rfl
theorem wanted_upd {g : Nat} {w : Bool} {d : Option Nat} {v : Val} (hd : d ≠ some g) : wanted (V.mk N (upd env d v)) (some (g, w)) = wanted (V.mk N env) (some (g, w)) := by
  have : (V.mk N (upd env d v)).getD g .undef = (V.mk N env).getD g .undef := by
    by_cases hg : g < N
    · rw [mk_getD hg, mk_getD hg]
      cases d with
      | none => rfl
      | some d => exact lk_ne (by simp; rintro rfl; exact hd rfl)
    · simp [V.mk, List.getD_eq_getElem?_getD, hg]
  simp only [wanted, this]
def gOk (gd : Option (Nat × Bool)) (l : List VOper) : Bool := l.all fun o => decide (o.guard = gd) && (match gd with
  | none => true
  | some (g, _) => decide (o.dst ≠ some g))
theorem dsts_cons {o : VOper} {l : List VOper} : ∀ t, t ∈ dsts (o :: l) ↔ o.dst = some t ∨ t ∈ dsts l := by
  intro t
  rw [dsts]
  cases h : o.dst with
  | none => simp
  | some d => simp [eq_comm]
theorem upd_lk {d : Option Nat} {v : Val} {t : Nat} (h : d ≠ some t) : lk t (upd env d v) = lk t env := by
  cases d with
  | none => rfl
  | some d => exact lk_ne (by simp; rintro rfl; exact h rfl)
inductive GV where
  | y (b : Bool)
  | u
  | z
def gdC : Val → GV := Val.rec (motive_1 := fun _ => GV) (motive_2 := fun _ => Unit) .u .y (fun _ _ => .z) (fun _ => .z) .z (fun _ _ => .z) .z (fun _ _ _ _ _ => .z) .z (fun _ => .z) .z (fun _ _ _ _ _ => .z) .z (fun _ _ _ => .z) (fun _ _ => .z) (fun _ _ => .z) (fun _ _ _ => .z) (fun _ _ _ _ => .z) (fun _ _ _ _ => .z) .z .z () (fun _ _ _ _ => ())
def gdK (v : Val) (w : Bool) (a b : AN) : AN := GV.rec (motive := fun _ => AN) (fun t => Bool.rec (motive := fun _ => AN) (Bool.rec (motive := fun _ => AN) a b w) (Bool.rec (motive := fun _ => AN) b a w) t) b .no (gdC v)
theorem gdK_inv {g : Nat} {w : Bool} {a b : AN} (h : gdK (evE N env (.t g)) w a b ≠ .no) : (wanted (V.mk N env) (some (g, w)) = some true ∧ gdK (evE N env (.t g)) w a b = a) ∨ (wanted (V.mk N env) (some (g, w)) = some false ∧ gdK (evE N env (.t g)) w a b = b) := by
  rw [evE_eq] at h ⊢
  have e0 : V.ev (V.mk N env) (.t g) = (V.mk N env).getD g .undef := rfl
  rw [e0] at h ⊢
  simp only [wanted]
  revert h
  generalize (V.mk N env).getD g .undef = v
  intro h
  cases v with
  | bool t => cases t <;> cases w <;> first | exact .inl ⟨rfl, rfl⟩ | exact .inr ⟨rfl, rfl⟩
  | undef => exact .inr ⟨rfl, rfl⟩
  | _ => exact absurd rfl h
inductive Gp where
  | pl (l : List VOper)
  | gd (g : Nat) (w : Bool) (l : List VOper)
def Gp.ops : Gp → List VOper
  | .pl l => l
  | .gd _ _ l => l
def Gp.ok : Gp → Bool
  | .pl l => gOk none l && l.all fun o => o.op.ok
  | .gd g w l => gOk (some (g, w)) l && l.all fun o => o.op.ok
def XG (m : TypeId → Val → String → Option (FuncId × Val)) (T : List Ce) (N : Nat) (G : Gp) (env : List (Nat × Val)) (p : Heap) (K : List (Nat × Val) → Heap → AN) : AN := match G with
  | .pl l => XL m T N l env p K
  | .gd g w l => jn (dsts l).length (fun j => gdK (evE N env (.t g)) w (XL m T N l env p (fun env' p' => appL (dsts l) j env' p')) (appL (dsts l) j (undE l env) p)) (lamL (dsts l) (fun vals p => K (apE vals env) p))
def dstG (G : Gp) : List Nat := dsts G.ops
theorem join_env {D : List Nat} {env env' : List (Nat × Val)} (ha : Agree D env env') (t : Nat) : lk t (zipE D env' ++ env) = lk t env' := by
  rw [lk_app, zip_keys]
  by_cases h : t ∈ D
  · rw [if_pos h, lk_zip D env' h]
  · rw [if_neg h]; exact (ha t h).symm
theorem join_agree {D : List Nat} {env env' : List (Nat × Val)} : Agree D env (zipE D env' ++ env) := by
  intro t h
  rw [lk_app, zip_keys, if_neg h]
def SimO (E : Env) (l : List VOper) (fr : List Val) (p : Heap) (fr2 : List Val) (p2 : Heap) : Prop := ∀ (h : Heap) (F : Nat → Prop) (σ : Sg) (fr' : List Val), HR p h F σ → Rs h F σ fr fr' → ∃ n fr2' h2 F2 σ2, runOps E.meth (run E n) l fr' h = some (fr2', h2) ∧ Sim p h F σ p2 h2 F2 σ2 ∧ Rs h2 F2 σ2 fr2 fr2'
theorem SimO.nil {fr : List Val} : SimO E [] fr p fr p := fun h F σ fr' a b => ⟨0, fr', h, F, σ, rfl, .refl a, b⟩
theorem SimO.cons {o : VOper} {l : List VOper} {v : Val} {p1 : Heap} {fr2 : List Val} {p2 : Heap} (hg : wanted (V.mk N env) o.guard = some true) (s : SimS E (V.mk N env) o.op p v p1) (w : SimO E l (V.mk N (upd env o.dst v)) p1 fr2 p2) : SimO E (o :: l) (V.mk N env) p fr2 p2 := by
  intro h F σ fr' a b
  obtain ⟨n, v', h1, F1, σ1, e1, s1, r1⟩ := s h F σ fr' a b.length fun t _ => b.getD t
  have hb := (s1.rs b).setDst o.dst r1
  rw [upd_eq] at hb
  obtain ⟨m, fr2', h2, F2, σ2, e2, s2, r2⟩ := w h1 F1 σ1 _ s1.hr hb
  refine ⟨max n m, fr2', h2, F2, σ2, ?_, s1.trans s2, r2⟩
  rw [runOps, wantedR b hg]
  simp only
  rw [step_mono (run_mono (Nat.le_max_left n m)) e1]
  exact runOps_mono (run_mono (Nat.le_max_right n m)) _ _ _ _ e2
theorem SimO.not {o : VOper} {l : List VOper} {fr2 : List Val} {p2 : Heap} (hg : wanted (V.mk N env) o.guard = some false) (w : SimO E l (V.mk N (upd env o.dst .undef)) p fr2 p2) : SimO E (o :: l) (V.mk N env) p fr2 p2 := by
  intro h F σ fr' a b
  have hb := b.setDst o.dst (x := .undef) (y := .undef) (by simp only [Rv])
  rw [upd_eq] at hb
  obtain ⟨m, fr2', h2, F2, σ2, e2, s2, r2⟩ := w h F σ _ a hb
  refine ⟨m, fr2', h2, F2, σ2, ?_, s2, r2⟩
  rw [runOps, wantedR b hg]
  exact e2
theorem XL_ok (hm : MethSim E.meth) (hT : TOk E T) {gd : Option (Nat × Bool)} : ∀ (l : List VOper) {env : List (Nat × Val)} {p : Heap} {K : List (Nat × Val) → Heap → AN}, (l.all fun o => o.op.ok) = true → gOk gd l = true → wanted (V.mk N env) gd = some true → XL E.meth T N l env p K ≠ .no →
    ∃ env' p', Agree (dsts l) env env' ∧ XL E.meth T N l env p K = K env' p' ∧ ∀ l2 fr2 p2, SimO E l2 (V.mk N env') p' fr2 p2 → SimO E (l ++ l2) (V.mk N env) p fr2 p2
  | [], env, p, K, _, _, _, _ => ⟨env, p, .refl _ _, rfl, fun _ _ _ w => w⟩
  | o :: r, env, p, K, ho, hg, hw, h => by
    simp only [List.all_cons, Bool.and_eq_true] at ho
    simp only [gOk, List.all_cons, Bool.and_eq_true, decide_eq_true_eq] at hg
    obtain ⟨⟨hg1, hg2⟩, hg3⟩ := hg
    have e0 : XL E.meth T N (o :: r) env p K = oneX E.meth T N o.op env p (fun v p' => XL E.meth T N r (upd env o.dst v) p' K) := rfl
    rw [e0] at h ⊢
    obtain ⟨v, p1, h1, h2⟩ := oneX_sim hm hT ho.1 h
    rw [h1] at h ⊢
    have hw' : wanted (V.mk N (upd env o.dst v)) gd = some true := by
      cases gd with
      | none => rfl
      | some gw =>
        obtain ⟨g, w'⟩ := gw
        rw [wanted_upd (by simpa using hg2)]; exact hw
    obtain ⟨env', p', ha, h3, h4⟩ := XL_ok hm hT r ho.2 hg3 hw' h
    refine ⟨env', p', ?_, h3, fun l2 fr2 p2 w => .cons (by rw [hg1]; exact hw) h2 (h4 l2 fr2 p2 w)⟩
    intro t ht
    rw [dsts_cons, not_or] at ht
    rw [ha t ht.2, upd_lk ht.1]
theorem undE_ok {g : Nat} {w : Bool} : ∀ (l : List VOper) {env : List (Nat × Val)}, gOk (some (g, w)) l = true → wanted (V.mk N env) (some (g, w)) = some false →
    Agree (dsts l) env (undE l env) ∧ ∀ l2 fr2 p2, SimO E l2 (V.mk N (undE l env)) p fr2 p2 → SimO E (l ++ l2) (V.mk N env) p fr2 p2
  | [], env, _, _ => ⟨.refl _ _, fun _ _ _ w => w⟩
  | o :: r, env, hg, hw => by
    simp only [gOk, List.all_cons, Bool.and_eq_true, decide_eq_true_eq] at hg
    obtain ⟨⟨hg1, hg2⟩, hg3⟩ := hg
    obtain ⟨ha, h4⟩ := undE_ok r (env := upd env o.dst .undef) hg3 (by rw [wanted_upd hg2]; exact hw)
    refine ⟨?_, fun l2 fr2 p2 w => .not (by rw [hg1]; exact hw) (h4 l2 fr2 p2 w)⟩
    intro t ht
    rw [dsts_cons, not_or] at ht
    show lk t (undE r (upd env o.dst .undef)) = _
    rw [ha t ht.2, upd_lk ht.1]
theorem SimO.weak {l : List VOper} {e e2 : List (Nat × Val)} {fr2 : List Val} {p2 : Heap} (ha : ∀ t, lk t e2 = .junk ∨ lk t e2 = lk t e) (w : SimO E l (V.mk N e2) p fr2 p2) : SimO E l (V.mk N e) p fr2 p2 := fun h F σ fr' a b => w h F σ fr' a (b.lessE ha)
theorem XG_ok (hm : MethSim E.meth) (hT : TOk E T) {G : Gp} {K : List (Nat × Val) → Heap → AN} (ho : G.ok = true) (h : XG E.meth T N G env p K ≠ .no) :
    ∃ env' p', Agree (dstG G) env env' ∧ XG E.meth T N G env p K = K env' p' ∧ ∀ l2 fr2 p2, SimO E l2 (V.mk N env') p' fr2 p2 → SimO E (G.ops ++ l2) (V.mk N env) p fr2 p2 := by
  cases G with
  | pl l =>
    simp only [Gp.ok, Bool.and_eq_true] at ho
    exact XL_ok hm hT l ho.2 ho.1 rfl h
  | gd g wt l =>
    simp only [Gp.ok, Bool.and_eq_true] at ho
    let K' : List (Nat × Val) → Heap → AN := fun env' p' => appL (dsts l) (lamL (dsts l) (fun vals p => K (apE vals env) p)) env' p'
    have hK : ∀ env' p', K' env' p' = K (zipE (dsts l) env' ++ env) p' := fun env' p' => by
      show appL _ _ _ _ = _
      rw [appL_lamL, apE_eq]
    have e0 : XG E.meth T N (.gd g wt l) env p K = gdK (evE N env (.t g)) wt (XL E.meth T N l env p K') (K' (undE l env) p) := rfl
    rw [e0] at h ⊢
    rcases gdK_inv h with ⟨h1, h2⟩ | ⟨h1, h2⟩
    · rw [h2] at h ⊢
      obtain ⟨env', p', ha, h3, h4⟩ := XL_ok hm hT l ho.2 ho.1 h1 h
      exact ⟨_, p', join_agree (D := dsts l) (env' := env'), by rw [h3, hK], fun l2 fr2 p2 w => h4 l2 fr2 p2 (w.weak fun t => .inr (join_env ha t))⟩
    · rw [h2]
      obtain ⟨ha, h4⟩ := undE_ok (E := E) (p := p) l ho.1 h1
      exact ⟨_, p, join_agree (D := dsts l) (env' := undE l env), hK _ _, fun l2 fr2 p2 w => h4 l2 fr2 p2 (w.weak fun t => .inr (join_env ha t))⟩
def XR (m : TypeId → Val → String → Option (FuncId × Val)) (T : List Ce) (N : Nat) (Gs : List Gp) : List (Nat × Val) → Heap → (List (Nat × Val) → Heap → AN) → AN := List.rec (motive := fun _ => List (Nat × Val) → Heap → (List (Nat × Val) → Heap → AN) → AN) (fun env p K => K env p) (fun G _ ih env p K => XG m T N G env p (fun env' p' => ih env' p' K)) Gs
def opsG (Gs : List Gp) : List VOper := Gs.flatMap Gp.ops
theorem mem_dsts_app {a b : List VOper} {t : Nat} : t ∈ dsts (a ++ b) ↔ t ∈ dsts a ∨ t ∈ dsts b := by
  induction a with
  | nil => simp [dsts]
  | cons o a ih => rw [List.cons_append, dsts_cons, dsts_cons, ih, or_assoc]
theorem XR_ok (hm : MethSim E.meth) (hT : TOk E T) : ∀ (Gs : List Gp) {env : List (Nat × Val)} {p : Heap} {K : List (Nat × Val) → Heap → AN}, (Gs.all Gp.ok) = true → XR E.meth T N Gs env p K ≠ .no →
    ∃ env' p', Agree (dsts (opsG Gs)) env env' ∧ XR E.meth T N Gs env p K = K env' p' ∧ SimO E (opsG Gs) (V.mk N env) p (V.mk N env') p'
  | [], env, p, K, _, _ => ⟨env, p, .refl _ _, rfl, .nil⟩
  | G :: r, env, p, K, ho, h => by
    simp only [List.all_cons, Bool.and_eq_true] at ho
    have e0 : XR E.meth T N (G :: r) env p K = XG E.meth T N G env p (fun env' p' => XR E.meth T N r env' p' K) := rfl
    rw [e0] at h ⊢
    obtain ⟨env1, p1, ha, h1, h2⟩ := XG_ok hm hT ho.1 h
    rw [h1] at h ⊢
    obtain ⟨env', p', hb, h3, h4⟩ := XR_ok hm hT r ho.2 h
    refine ⟨env', p', ?_, h3, h2 _ _ _ h4⟩
    exact ha.trans hb (fun t ht => mem_dsts_app.2 (.inl ht)) fun t ht => mem_dsts_app.2 (.inr ht)
end
end
end Go.V
end

section
set_option linter.unusedVariables false
set_option linter.unusedSimpArgs false
set_option linter.unusedSectionVars false
namespace Go.V
noncomputable section
def noBlk (o : VOp) : Bool := match o with
  | .load .. | .faddrZ _ | .b2s _ | .outer .. | .lenMap _ | .lookup .. => true
  | o => decide (o.kind = 0)
theorem noBlk_same {meth : TypeId → Val → String → Option (FuncId × Val)} {call : CallT} {fr : List Val} {h h' : Heap} {o : VOp} {v : Val} (hn : noBlk o = true) (hs : step meth call fr h o = some (v, h')) : h' = h := by
  cases o <;> simp only [noBlk, VOp.kind, decide_eq_true_eq] at hn <;> first | (exact absurd hn (by decide)) | skip
  all_goals
    simp only [step, pureV] at hs
    repeat' (first | (cases hs; rfl) | split at hs | contradiction)
def hideS (all : List VOper) (L : List Nat) : List Nat := L.filter fun i => match all[i]? with
  | some o => !noBlk o.op
  | none => true
theorem hiddenOf_filter {rs : List (Nat × Nat)} {p : Nat → Bool} : ∀ {L : List Nat}, (∀ i ∈ L, p i = false → ¬ (rs.getD i (0, 0)).1 < (rs.getD i (0, 0)).2) → hiddenOf rs (L.filter p) = hiddenOf rs L
  | [], _ => rfl
  | i :: L, h => by
    have ih := hiddenOf_filter (p := p) fun j hj => h j (List.mem_cons_of_mem _ hj)
    cases q : p i with
    | true => rw [List.filter_cons_of_pos q, hiddenOf, hiddenOf, ih]
    | false => rw [List.filter_cons_of_neg (by simp [q]), ih, hiddenOf, if_neg (h i List.mem_cons_self q)]
def NoB (all : List VOper) (rs : List (Nat × Nat)) : Prop := ∀ i o, i < rs.length → all[i]? = some o → noBlk o.op = true → (rs.getD i (0, 0)).1 = (rs.getD i (0, 0)).2
theorem NoB.hide {all : List VOper} {rs : List (Nat × Nat)} (hi : NoB all rs) (L : List Nat) : hiddenOf rs (hideS all L) = hiddenOf rs L := by
  refine hiddenOf_filter fun i _ hp => ?_
  rcases Nat.lt_or_ge i rs.length with h | h
  · cases e : all[i]? with
    | none => rw [e] at hp; cases hp
    | some o =>
      rw [e] at hp
      simp only [Bool.not_eq_false'] at hp
      have := hi i o h e hp
      omega
  · rw [List.getD_eq_getElem?_getD, List.getElem?_eq_none h]; simp
theorem NoB.snoc {all : List VOper} {rs : List (Nat × Nat)} (hi : NoB all rs) {a b : Nat} {o : VOper} (ho : all[rs.length]? = some o) (hq : noBlk o.op = true → a = b) : NoB all (rs ++ [(a, b)]) := by
  intro i o' h1 h2 h3
  rcases Nat.lt_or_ge i rs.length with h | h
  · have := hi i o' h h2 h3
    rw [List.getD_eq_getElem?_getD, List.getElem?_append_left h, ← List.getD_eq_getElem?_getD]
    exact this
  · have : i = rs.length := by simp at h1; omega
    subst this
    rw [ho] at h2; cases h2
    rw [List.getD_eq_getElem?_getD, List.getElem?_append_right (Nat.le_refl _)]
    simp [hq h3]
theorem NoB.nil {all : List VOper} : NoB all [] := fun i o h => absurd h (by simp)
theorem NoB.zero {all : List VOper} {n : Nat} : NoB all (List.replicate n (0, 0)) := fun i o _ _ _ => by
  rw [List.getD_eq_getElem?_getD, List.getElem?_replicate]
  split <;> rfl
def blkAt (all : List VOper) (i : Nat) : Bool := match all[i]? with
  | some o => notB (noBlk o.op)
  | none => true
def hideX (all : List VOper) (rs : List (Nat × Nat)) (hd : List Nat) : List (Nat × Nat) := List.rec (motive := fun _ => List (Nat × Nat)) [] (fun i _ ih => Bool.rec (motive := fun _ => List (Nat × Nat)) ih (rs.getD i (0, 0) :: ih) (blkAt all i)) hd
def dropE (hs : List (Nat × Nat)) : List (Nat × Nat) := List.rec (motive := fun _ => List (Nat × Nat)) [] (fun x _ ih => Bool.rec (motive := fun _ => List (Nat × Nat)) ih (x :: ih) (Nat.ble (Nat.succ x.1) x.2)) hs
def appR (a b : List (Nat × Nat)) : List (Nat × Nat) := List.rec (motive := fun _ => List (Nat × Nat)) b (fun x _ ih => x :: ih) a
theorem appR_eq (b : List (Nat × Nat)) : ∀ a : List (Nat × Nat), appR a b = a ++ b
  | [] => rfl
  | x :: a => congrArg (x :: ·) (appR_eq b a)
def prt (hs : List (Nat × Nat)) (p : Heap) : Heap := ⟨p.next, p.t, appR (dropE hs) p.hid, p.next, p.base⟩
theorem dropE_eq (all : List VOper) (rs : List (Nat × Nat)) : ∀ hd : List Nat, dropE (hideX all rs hd) = hiddenOf rs (hideS all hd)
  | [] => rfl
  | i :: hd => by
    have ih := dropE_eq all rs hd
    have e0 : hideX all rs (i :: hd) = Bool.rec (motive := fun _ => List (Nat × Nat)) (hideX all rs hd) (rs.getD i (0, 0) :: hideX all rs hd) (blkAt all i) := rfl
    have e1 : hideS all (i :: hd) = if blkAt all i = true then i :: hideS all hd else hideS all hd := by
      unfold hideS
      rw [List.filter_cons]
      congr 1
      unfold blkAt
      cases all[i]? with
      | none => rfl
      | some o => simp only [notB_eq]
    rw [e0, e1]
    cases blkAt all i with
    | false => exact ih
    | true =>
      have e2 : dropE (rs.getD i (0, 0) :: hideX all rs hd) = Bool.rec (motive := fun _ => List (Nat × Nat)) (dropE (hideX all rs hd)) (rs.getD i (0, 0) :: dropE (hideX all rs hd)) (Nat.ble (Nat.succ (rs.getD i (0, 0)).1) (rs.getD i (0, 0)).2) := rfl
      show dropE (rs.getD i (0, 0) :: hideX all rs hd) = hiddenOf rs (i :: hideS all hd)
      rw [e2, hiddenOf, ih, ble_rec]
      rfl
theorem prt_eq {all : List VOper} {rs : List (Nat × Nat)} (hv : NoB all rs) (hd : List Nat) (p : Heap) : prt (hideX all rs hd) p = part rs hd p := by
  unfold prt part view
  rw [appR_eq, dropE_eq, hv.hide]
def unpK (p p' : Heap) (k : Heap → AN) : AN := Heap.rec (motive := fun _ => AN) (fun next t _ _ base => Heap.rec (motive := fun _ => AN) (fun _ _ hid floor _ => k ⟨next, t, hid, floor, base⟩) p) p'
theorem unpK_eq (p p' : Heap) (k : Heap → AN) : unpK p p' k = k (unpart p p') := by cases p; cases p'; rfl
theorem unpart_part (rs : List (Nat × Nat)) (hd : List Nat) (p : Heap) : unpart p (part rs hd p) = p := by cases p; rfl
abbrev DK := List (Nat × Nat) → Val → Heap → AN
def unsV (bs : List Nat) : Val → Bool
  | .ptr c _ => !bs.contains c
  | .ref _ _ => true
  | _ => false
def unsC (all : List VOper) (fr : List Val) (bs : List Nat) (i : Nat) : Bool := match all[i]? with
  | some q => decide (q.op.kind ≤ 1) || (match q.op with
    | .load _ _ (.t t) => q.guard.isNone && (all.drop i).all (fun z => decide (z.dst ≠ some t)) && unsV bs (fr.getD t .undef)
    | _ => false)
  | none => false
def hidN (rs : List (Nat × Nat)) (hd : List Nat) (b : Nat) : Bool := hd.all fun i => !(Nat.ble (rs.getD i (0, 0)).1 b && Nat.blt b (rs.getD i (0, 0)).2)
theorem hidN_spec {rs : List (Nat × Nat)} {hd : List Nat} {b : Nat} (e : hidN rs hd b = true) : ∀ i ∈ hd, ¬ inR rs i b := by
  intro i hi hb
  have := List.all_eq_true.1 e i hi
  unfold inR at hb
  have h1 : Nat.ble (rs.getD i (0, 0)).1 b = true := Nat.ble_eq_true_of_le hb.1
  have h2 : Nat.blt b (rs.getD i (0, 0)).2 = true := Nat.ble_eq_true_of_le hb.2
  rw [h1, h2] at this
  cases this
def usV (b : Nat) (v : Val) : Bool := View.rec (motive := fun _ => Bool) (fun _ => false) (fun _ _ => false) (fun _ => false) (fun c _ => notB (Nat.beq c b)) (fun _ _ => true) (fun _ _ _ _ _ => false) (fun _ _ _ => false) false (fun _ _ _ => false) (fun _ => false) (fun _ => false) false false false (viewC v)
def usA (b : Nat) (us : List Val) : Bool := List.rec (motive := fun _ => Bool) true (fun v _ ih => Bool.rec (motive := fun _ => Bool) false ih (usV b v)) us
theorem usV_eq (b : Nat) (v : Val) : usV b v = unsV [b] v := by
  cases v <;> try rfl
  rename_i c o
  show notB (Nat.beq c b) = _
  simp only [unsV, notB_eq, List.contains_cons, List.contains_nil, Bool.or_false]
  congr 1
  rw [Bool.eq_iff_iff]
  simp
theorem usA_spec (b : Nat) : ∀ us : List Val, usA b us = true → ∀ v ∈ us, unsV [b] v = true
  | [], _, v, h => by cases h
  | u :: us, e, v, h => by
    have e0 : usA b (u :: us) = Bool.rec (motive := fun _ => Bool) false (usA b us) (usV b u) := rfl
    rw [e0] at e
    cases hu : usV b u with
    | false => rw [hu] at e; cases e
    | true =>
      rw [hu] at e
      rcases List.mem_cons.1 h with rfl | h
      · rw [← usV_eq]; exact hu
      · exact usA_spec b us e v h
def usX (all : List VOper) (N : Nat) (env : List (Nat × Val)) : List Nat → Option (List Val)
  | [] => some []
  | i :: r => match all[i]? with
    | some q => if q.op.kind ≤ 1 then usX all N env r else match q.op with
      | .load _ _ (.t t) => if (q.guard.isNone && (all.drop i).all (fun z => decide (z.dst ≠ some t))) = true then (match usX all N env r with
        | some l => some (evE N env (.t t) :: l)
        | none => none) else none
      | _ => none
    | none => none
theorem usX_spec {all : List VOper} {N : Nat} {env : List (Nat × Val)} {b : Nat} : ∀ {hd : List Nat} {us : List Val}, usX all N env hd = some us → usA b us = true → hd.all (unsC all (V.mk N env) [b]) = true
  | [], us, _, _ => rfl
  | i :: r, us, e, h => by
    rw [List.all_cons, Bool.and_eq_true]
    simp only [usX] at e
    split at e
    · rename_i q hq
      split at e
      · rename_i hk
        refine ⟨?_, usX_spec e h⟩
        unfold unsC; rw [hq]; simp [hk]
      · split at e
        · rename_i t hop
          split at e
          · rename_i hc
            split at e
            · rename_i l hl
              cases e
              have e0 : usA b (evE N env (.t t) :: l) = Bool.rec (motive := fun _ => Bool) false (usA b l) (usV b (evE N env (.t t))) := rfl
              have h0 := h
              rw [e0] at h
              have hl2 : usA b l = true := by
                cases hu : usV b (evE N env (.t t)) with
                | false => rw [hu] at h; cases h
                | true => rw [hu] at h; exact h
              have hv := usA_spec b _ h0 _ (List.mem_cons_self ..)
              refine ⟨?_, usX_spec hl hl2⟩
              unfold unsC
              rw [hq]
              simp only [hop, Bool.or_eq_true, decide_eq_true_eq]
              right
              rw [Bool.and_eq_true]
              refine ⟨hc, ?_⟩
              rw [evE_eq] at hv
              exact hv
            · cases e
          · cases e
        · cases e
    · cases e
theorem hidF_dropE (b : Nat) : ∀ hs : List (Nat × Nat), hidF b hs = true ↔ hidF b (dropE hs) = true
  | [] => Iff.rfl
  | x :: r => by
    have ih := hidF_dropE b r
    have e0 : dropE (x :: r) = Bool.rec (motive := fun _ => List (Nat × Nat)) (dropE r) (x :: dropE r) (Nat.ble (Nat.succ x.1) x.2) := rfl
    have e1 : ∀ (y : Nat × Nat) l, hidF b (y :: l) = Bool.rec (motive := fun _ => Bool) (hidF b l) (Bool.rec (motive := fun _ => Bool) (hidF b l) true (Nat.ble (Nat.succ b) y.2)) (Nat.ble y.1 b) := fun y l => rfl
    rw [e0, ble_rec, e1, ble_rec, ble_rec]
    by_cases h : Nat.succ x.1 ≤ x.2
    · rw [if_pos h, e1, ble_rec, ble_rec]
      by_cases h1 : x.1 ≤ b
      · by_cases h2 : Nat.succ b ≤ x.2
        · simp [h1, h2]
        · simp only [if_pos h1, if_neg h2]; exact ih
      · simp only [if_neg h1]; exact ih
    · rw [if_neg h]
      by_cases h1 : x.1 ≤ b
      · rw [if_pos h1, if_neg (by omega)]; exact ih
      · rw [if_neg h1]; exact ih
theorem hidN_of {all : List VOper} {rs : List (Nat × Nat)} {hd : List Nat} {b : Nat} (hv : NoB all rs) (h : hidF b (hideX all rs hd) = false) : hidN rs hd b = true := by
  have h1 : hidF b (hiddenOf rs hd) = false := by
    rw [← hv.hide, ← dropE_eq all]
    cases e : hidF b (dropE (hideX all rs hd)) with
    | false => rfl
    | true => rw [(hidF_dropE b _).2 e] at h; cases h
  rw [hidF_eq] at h1
  unfold hidN
  rw [List.all_eq_true]
  intro i hi
  rw [Bool.not_eq_true', Bool.and_eq_false_iff]
  by_cases q : (rs.getD i (0, 0)).1 < (rs.getD i (0, 0)).2
  · have hm : rs.getD i (0, 0) ∈ hiddenOf rs hd := by
      clear h h1 hv
      induction hd with
      | nil => cases hi
      | cons j r ih =>
        rw [hiddenOf]
        rcases List.mem_cons.1 hi with rfl | hi
        · rw [if_pos q]; exact List.mem_cons_self ..
        · split
          · exact List.mem_cons_of_mem _ (ih hi)
          · exact ih hi
    rw [List.any_eq_false] at h1
    have := h1 _ hm
    simp only [Bool.and_eq_true, decide_eq_true_eq, not_and] at this
    by_cases q2 : (rs.getD i (0, 0)).1 ≤ b
    · right
      have := this q2
      cases e : Nat.blt b (rs.getD i (0, 0)).2 with
      | false => rfl
      | true => exact absurd (Nat.lt_of_lt_of_le (Nat.lt_succ_self b) (Nat.le_of_ble_eq_true e)) this
    · left
      cases e : Nat.ble (rs.getD i (0, 0)).1 b with
      | false => rfl
      | true => exact absurd (Nat.le_of_ble_eq_true e) q2
  · by_cases q2 : (rs.getD i (0, 0)).1 ≤ b
    · right
      cases e : Nat.blt b (rs.getD i (0, 0)).2 with
      | false => rfl
      | true => have := Nat.le_of_ble_eq_true e; exact absurd (Nat.lt_of_le_of_lt q2 this) q
    · left
      cases e : Nat.ble (rs.getD i (0, 0)).1 b with
      | false => rfl
      | true => exact absurd (Nat.le_of_ble_eq_true e) q2
def looK (v : Val) : Bool := View.rec (motive := fun _ => Bool) (fun _ => true) (fun _ _ => true) (fun _ => true) (fun _ _ => true) (fun _ _ => true) (fun _ _ _ _ ls => notB (Nat.beq ls (nat_lit 0))) (fun _ _ x => notB (Nat.ble x (nat_lit 1))) false (fun _ _ _ => true) (fun _ => true) (fun _ => true) true true true (viewC v)
theorem looK_no {v : Val} (h : looK v = false) : ∀ {h : Heap} {F : Nat → Prop} {σ : Sg} {y : Val}, Rv h F σ v y → isLoose y = false := by
  cases v with
  | slice b o n c ls =>
    have e0 : looK (.slice b o n c ls) = notB (Nat.beq ls 0) := rfl
    rw [e0, notB_eq, Bool.not_eq_false'] at h
    have := Nat.eq_of_beq_eq_true h
    subst this
    intro h F σ y r
    simp only [Rv] at r
    obtain ⟨b', _, rfl, _⟩ := r
    rfl
  | list c n x =>
    have e0 : looK (.list c n x) = notB (Nat.ble x 1) := rfl
    rw [e0, notB_eq, Bool.not_eq_false'] at h
    have h1 := Nat.le_of_ble_eq_true h
    intro h F σ y r
    simp only [Rv] at r
    obtain ⟨b, o, cap, ls, rfl, hm, _⟩ := r
    have : ls = 0 := by
      rcases hm.2 with ⟨_, q, _⟩ | ⟨_, q⟩ | ⟨q, _⟩
      · exact q
      · exact q
      · omega
    subst this
    rfl
  | nils => intro h F σ y r; simp only [Rv] at r; subst r; rfl
  | _ => cases h
theorem looK_yes {b o n c ls : Nat} (h : looK (.slice b o n c ls) = true) : ls ≠ 0 := by
  have e0 : looK (.slice b o n c ls) = notB (Nat.beq ls 0) := rfl
  rw [e0, notB_eq] at h
  rintro rfl
  exact absurd h (by decide)
def kps (p : Heap) (hs : List (Nat × Nat)) (us : List Val) (n : Nat) (a v : Val) (k : Nat → Heap → AN) : AN := ptrK a (fun b o => cellsK v (fun c => ifB (Nat.beq (lenF c) n) (ifB (notB (hidF b hs)) (ifB (usA b us) (stC p b o c (fun q => k b q)))))) n2
def wpK (p : Heap) (hs : List (Nat × Nat)) (us : List Val) (b s : Nat) (k : AN) : AN := ifB (notB (Nat.beq b s)) (ifB (notB (hidF b hs)) (ifB (notB (hidF s hs)) (ifB (usA b us) (ifB (usA s us) (ifB (Nat.ble p.floor b) (ifB (Nat.ble p.floor s) (hCells p b (fun _ => hCells p s (fun _ => k)))))))))
def kpa (p : Heap) (hs : List (Nat × Nat)) (us : List Val) (size bytes : Nat) (a v : Val) (k : Nat → Val → Heap → AN) : AN := Bool.rec (motive := fun _ => AN)
  (kap (prt hs p) size bytes a v (fun v q => unpK p q (fun u => k q.next v u)))
  (slcK a (fun b _ _ _ _ => slcK v (fun s _ _ _ _ => wpK p hs us b s (kap p size bytes a v (fun v q => putK q b none (fun q => putK q s none (fun q => k q.next v q))))) n3 .no) n3 .no)
  (looK a)
def tgK (v : Val) (k : AN) : AN := View.rec (motive := fun _ => AN) n1 n2 n1 n2 n2 (fun _ _ _ _ ls => ifB (Nat.beq ls (nat_lit 0)) k) (fun _ _ x => ifB (Nat.ble x (nat_lit 1)) k) k n3 n1 n1 .no .no .no (viewC v)
theorem tgK_inv {v : Val} {k : AN} (h : tgK v k ≠ .no) : (∀ {h : Heap} {F : Nat → Prop} {σ : Sg} {y : Val}, Rv h F σ v y → isLoose y = false) ∧ tgK v k = k := by
  cases v with
  | slice b o n c ls =>
    have e0 : tgK (.slice b o n c ls) k = ifB (Nat.beq ls 0) k := rfl
    rw [e0] at h ⊢
    obtain ⟨h1, h2⟩ := beq_inv h
    subst h1
    refine ⟨fun r => ?_, h2⟩
    simp only [Rv] at r
    obtain ⟨b', _, rfl, _⟩ := r
    rfl
  | list c n x =>
    have e0 : tgK (.list c n x) k = ifB (Nat.ble x 1) k := rfl
    rw [e0] at h ⊢
    obtain ⟨h1, h2⟩ := ble_inv h
    refine ⟨fun r => ?_, h2⟩
    simp only [Rv] at r
    obtain ⟨b, o, cap, ls, rfl, hm, _⟩ := r
    have : ls = 0 := by
      rcases hm.2 with ⟨_, q, _⟩ | ⟨_, q⟩ | ⟨q, _⟩
      · exact q
      · exact q
      · omega
    subst this
    rfl
  | nils => exact ⟨fun r => by simp only [Rv] at r; subst r; rfl, rfl⟩
  | _ => exact absurd rfl h
section
variable (m : TypeId → Val → String → Option (FuncId × Val)) (T : List Ce) (N : Nat)
def wholeB (o : VOper) : Bool := o.full || decide (o.op.kind ≤ 1)
def isCallB (o : VOp) : Bool := match o with
  | .call .. | .callv .. => true
  | _ => false
def prtX (all : List VOper) (k : Nat) (rs : List (Nat × Nat)) (o : VOper) (env : List (Nat × Val)) (p : Heap) (c : DK) : AN := match o.op with
  | .store n a v => Option.rec (motive := fun _ => AN) .no (fun us => kps p (hideX all rs o.hide) us n (evE N env a) (evE N env v) (fun b q => c (rs ++ [(b, Nat.succ b)]) .undef q)) (usX all N env o.hide)
  | .append s b a v => Option.rec (motive := fun _ => AN) (tgK (evE N env a) (kap (prt (hideX all rs o.hide) p) s b (evE N env a) (evE N env v) (fun v q => unpK p q (fun u => c (rs ++ [(p.next, q.next)]) v u)))) (fun us => kpa p (hideX all rs o.hide) us s b (evE N env a) (evE N env v) (fun n v u => c (rs ++ [(p.next, n)]) v u)) (usX all N env o.hide)
  | _ => .no
def oneD (all : List VOper) (k : Nat) (rs : List (Nat × Nat)) (o : VOper) (env : List (Nat × Val)) (p : Heap) (c : DK) : AN := Bool.rec (motive := fun _ => AN)
  (Bool.rec (motive := fun _ => AN)
    (Bool.rec (motive := fun _ => AN) (prtX N all k rs o env p c) (oneX m T N o.op env (prt (hideX all rs o.hide) p) (fun v q => unpK p q (fun u => c (rs ++ [(p.next, q.next)]) v u))) (isCallB o.op))
    (oneX m T N o.op env p (fun v p' => c (rs ++ [(p.next, p'.next)]) v p')) (wholeB o))
  (Bool.rec (motive := fun _ => AN) (opX m N env (prt (hideX all rs o.hide) p) (fun v _ => c (rs ++ [(p.next, p.next)]) v p) o.op) (opX m N env p (fun v _ => c (rs ++ [(p.next, p.next)]) v p) o.op) (wholeB o)) (noBlk o.op)
def XDL (all : List VOper) (l : List VOper) : Nat → List (Nat × Nat) → List (Nat × Val) → Heap → (List (Nat × Nat) → List (Nat × Val) → Heap → AN) → AN := List.rec (motive := fun _ => Nat → List (Nat × Nat) → List (Nat × Val) → Heap → (List (Nat × Nat) → List (Nat × Val) → Heap → AN) → AN) (fun _ rs env p K => K rs env p) (fun o _ ih k rs env p K => oneD m T N all k rs o env p (fun rs v p => ih (Nat.succ k) rs (upd env o.dst v) p K)) l
end
theorem Heap.store_eq {p : Heap} {b o : Nat} {vs : List Val} {q : Heap} (e : p.store b o vs = some q) : p.floor ≤ b ∧ ∃ c, p.get b = some (.cells c) ∧ q = p.put b (some (.cells (splice c o vs))) ∧ o + vs.length ≤ c.length ∧ vs.all Val.one = true := by
  unfold Heap.store at e
  split at e
  · rename_i hf
    split at e
    · rename_i c hc
      split at e
      · rename_i h2
        cases e
        exact ⟨hf, c, hc, rfl, h2⟩
      · cases e
    · cases e
  · cases e
section
variable {E : Env} {T : List Ce} {N : Nat} {env : List (Nat × Val)} {p h : Heap} {all : List VOper} {k : Nat} {rs rs' : List (Nat × Nat)} {fr fr' : List Val} {F : Nat → Prop} {σ : Sg}
theorem unsR {bs bs' : List Nat} (hf : Rs h F σ fr fr') (hinj : ∀ a b c, σ a = some c → σ b = some c → a = b) (hb : ∀ z' ∈ bs', ¬ F z' ∧ ∃ z ∈ bs, σ z = some z') {i : Nat} (e : unsC all fr bs i = true) : unseen all fr' bs' i = true := by
  unfold unsC at e
  unfold unseen
  split at e
  · rename_i q hq
    rw [hq]
    simp only [Bool.or_eq_true] at e ⊢
    rcases e with e | e
    · exact .inl e
    · right
      split at e
      · rename_i a n t hop
        rw [hop]
        simp only [Bool.and_eq_true] at e ⊢
        refine ⟨e.1, ?_⟩
        have hv := hf.getD t
        have he := e.2
        unfold unsV at he
        split at he
        · rename_i c o hc
          rw [hc] at hv
          simp only [Rv] at hv
          obtain ⟨c', h1, h2⟩ := hv
          rw [h2]
          simp only [Bool.not_eq_true', List.contains_eq_mem, decide_eq_false_iff_not] at he ⊢
          intro hm
          obtain ⟨_, z, hz, hz2⟩ := hb c' hm
          have := hinj _ _ _ h1 hz2
          subst this
          exact he hz
        · rename_i c o hc
          rw [hc] at hv
          simp only [Rv] at hv
          obtain ⟨b, o1, cs, h1, h2, _⟩ := hv
          rw [h1]
          simp only [Bool.not_eq_true', List.contains_eq_mem, decide_eq_false_iff_not]
          intro hm
          exact (hb _ hm).1 h2
        · cases he
      · cases e
  · cases e
def SimD (E : Env) (all : List VOper) (k : Nat) (rs : List (Nat × Nat)) (fr : List Val) (p : Heap) (fr2 : List Val) (p2 : Heap) : Prop := ∀ (rs' : List (Nat × Nat)) (h : Heap) (F : Nat → Prop) (σ : Sg) (fr' : List Val), DI all k rs rs' p h F σ fr fr' → ∃ n fr2' h2 F2 σ2, runDraw E.meth (run E n) all (all.drop k) rs' fr' h = some (fr2', h2) ∧ Sim p h F σ p2 h2 F2 σ2 ∧ Rs h2 F2 σ2 fr2 fr2'
section
variable {fr2 : List Val} {p2 : Heap} {o : VOper}
theorem SimD.nil (hk : all.drop k = []) : SimD E all k rs fr p fr p := fun rs' h F σ fr' D => ⟨0, fr', h, F, σ, by rw [hk]; rfl, .refl D.hr, D.frm⟩
theorem SimD.not (hok : drawOkL all = true) (ho : all[k]? = some o) (hg : wanted fr o.guard = some false) (w : SimD E all (k + 1) (rs ++ [(p.next, p.next)]) (setDst fr o.dst .undef) p fr2 p2) : SimD E all k rs fr p fr2 p2 := by
  intro rs' h F σ fr' D
  obtain ⟨n, fr2', h2, F3, σ3, e, f⟩ := w _ h F σ _ (D.idle (v := .undef) (v' := .undef) ho hok (by simp only [Rv]) fun _ _ _ => by simp only [Rv])
  refine ⟨n, fr2', h2, F3, σ3, ?_, f⟩
  rw [drop_at ho, runDraw, wantedR D.frm hg]
  exact e
theorem SimD.op0 (hm : MethSim E.meth) (hok : drawOkL all = true) (ho : all[k]? = some o) (hk0 : o.op.kind = 0) (hg : wanted fr o.guard = some true) {v : Val} {q0 : Heap} (hs : step E.meth dead fr p o.op = some (v, q0)) (hj : nojunk fr o.op = true) (w : SimD E all (k + 1) (rs ++ [(p.next, p.next)]) (setDst fr o.dst v) p fr2 p2) : SimD E all k rs fr p fr2 p2 := by
  intro rs' h F σ fr' D
  have he : HR ({ p with t := .leaf, hid := (V.view rs o.hide p).hid } : Heap) (V.view rs' o.hide h) F σ := by
    have hno : ∀ b, ({ p with t := Tr.leaf, hid := (V.view rs o.hide p).hid } : Heap).t.get b = none := fun b => rfl
    refine ⟨fun b kb e => (by rw [hno] at e; cases e), fun b kb e => (by have e' := Heap.get_t e; rw [hno] at e'; cases e'), D.hr.inj, D.hr.dom, ?_, D.hr.flo, D.hr.fro, fun _ _ => rfl, ?_, D.hr.hflo⟩
    · intro b b' hs hh
      have hh' : (V.view rs o.hide p).hidden b = false := hh
      rw [view_hidden] at hh' ⊢
      exact ⟨fun i hi hb => hh'.1 i hi (D.rng k o i (Nat.le_refl _) ho hi b b' hs hb), D.hr.vis b b' hs hh'.2⟩
    · intro b hb
      rw [view_hidden]
      exact ⟨fun i _ hi => by have := D.top i b hi; have hb' : h.next ≤ b := hb; omega, D.hr.hhid b hb⟩
  have hlen := D.frm.length
  have hfr : Rs (V.view rs' o.hide h) F σ (patchF o.op.tmps fr) (patchF o.op.tmps fr') := Rs.patch hlen fun t ht => D.tmp k o (Nat.le_refl _) ho t ht
  have hs2 := (step_idle hk0 hs { p with t := .leaf, hid := (V.view rs o.hide p).hid }).1
  rw [← step_patch] at hs2
  obtain ⟨v', q', F1, σ1, e1, s1, r1⟩ := step_sim (d := dead) hm (dead_sim _) he hfr (ok_of hok ho) (nojunk_patch hj) hs2
  rw [step_patch] at e1
  obtain ⟨e3, hq'⟩ := step_idle hk0 e1 h
  subst hq'
  have fsub : ∀ b, F1 b → F b := by
    intro b hb
    rcases s1.newF b hb with z | z | ⟨a, _, z, _⟩
    · exact z
    · have := s1.hr.fro b hb
      have h1 : h.next ≤ b := z
      have h2 : b < h.next := this
      omega
    · exact absurd rfl z
  have ssub : σ1.le σ := by
    intro a b hab
    rcases s1.newS a b hab with z | ⟨z, _⟩
    · exact z
    · have h1 : a < p.next := (s1.hr.dom a b hab).1
      have h2 : p.next ≤ a := z
      omega
  have back : ∀ {hx : Heap}, hx.t = h.t → (∀ b, (V.view rs' o.hide h).hidden b = false → hx.hidden b = false) → Fix (V.view rs' o.hide h) hx F1 F :=
    fun e1 e2 => ⟨fsub, fun b _ => by rw [e1]; rfl, fun b _ hh => e2 b hh⟩
  have D2 := D.idle ho hok (Rv.mono (back rfl fun b hh => (view_hidden.1 hh).2) ssub _ _ r1) fun L h1 h2 => Rv.mono (back (hx := V.view rs' L h) rfl fun b hh => by
    rw [view_hidden] at hh ⊢
    refine ⟨fun i hi hb => ?_, hh.2⟩
    rcases Nat.lt_or_ge i k with z | z
    · exact hh.1 i (h2 i hi z) hb
    · exact inR_out (by rw [D.len.2]; exact z) hb) ssub _ _ r1
  obtain ⟨n, fr2', h2, F3, σ3, e, f⟩ := w _ h F σ _ D2
  refine ⟨n, fr2', h2, F3, σ3, ?_, f⟩
  rw [drop_at ho, runDraw, wantedR D.frm hg]
  simp only
  rw [if_pos (.inl (by omega)), step_mono (d := run E n) (fun f a h r e => by cases e) e3]
  exact e
theorem SimD.inPart (hok : drawOkL all = true) (ho : all[k]? = some o) (hk0 : o.op.kind ≠ 0) (hg : wanted fr o.guard = some true) {v : Val} {p' : Heap}
    (hs : SimS E fr o.op (part rs o.hide p) v p')
    (hk : o.op.kind = 1 ∨ ((o.op.kind = 2 ∨ (2 ≤ o.op.kind ∧ ∀ (h : Heap) (F : Nat → Prop) (σ : Sg) (fr' : List Val), Rs h F σ fr fr' → isApp fr' o.op = true)) ∧ o.full = false)) (w : SimD E all (k + 1) (rs ++ [(p.next, p'.next)]) (setDst fr o.dst v) (unpart p p') fr2 p2) : SimD E all k rs fr p fr2 p2 := by
  intro rs' h F σ fr' D
  have hv := D.vw k o (Nat.le_refl _) ho hk0
  have fxv : Fix (V.view rs' o.hide h) (part rs' o.hide h) F F := ⟨fun _ x => x, fun _ _ => rfl, fun _ _ x => x⟩
  have hv2 : HR (part rs o.hide p) (part rs' o.hide h) F σ := by
    refine ⟨hv.blk, fun b kb e => ?_, hv.inj, hv.dom, hv.vis, ?_, hv.fro, hv.plow, hv.hhid, Nat.le_refl _⟩
    · obtain ⟨b', k', g1, g2, g3⟩ := hv.rel b kb e
      exact ⟨b', k', g1, g2, Rb.mono fxv (.refl _) g3⟩
    · intro b b' hsb hb
      have h1 := (D.hr.dom b b' hsb).1
      have h2 : p.next ≤ b := hb
      omega
  obtain ⟨m, v', q', F1, σ1, e1, s1, r1⟩ := hs _ F σ fr' hv2 D.frm.length fun t ht => Rv.mono fxv (.refl _) _ _ (D.tmp k o (Nat.le_refl _) ho t ht)
  obtain ⟨D', S'⟩ := D.part ho hok hk0 s1 r1
  obtain ⟨n, fr2', h2, F3, σ3, e, f, r⟩ := w _ _ F1 σ1 _ D'
  refine ⟨max m n, fr2', h2, F3, σ3, ?_, S'.trans f, r⟩
  have e2 := runDraw_mono (run_mono (Nat.le_max_right m n)) _ _ _ _ _ e
  have e3 := step_mono (run_mono (Nat.le_max_left m n)) e1
  rw [drop_at ho, runDraw, wantedR D.frm hg]
  simp only
  rcases hk with hk1 | ⟨hk2, hfu⟩
  · have e4 : step E.meth (run E (max m n)) fr' h o.op = some (v', { q' with hid := h.hid, floor := h.floor }) := step_blind (by omega) e3 h.hid h.floor
    rw [if_pos (.inl (by omega)), e4]
    exact e2
  · rw [if_neg (by rw [hfu]; rintro (z | z)
                   · rcases hk2 with z2 | ⟨z2, _⟩ <;> omega
                   · cases z), if_pos (hk2.imp id fun z => z.2 _ _ _ _ D.frm)]
    have e4 : step E.meth (run E (max m n)) fr' { h with hid := hiddenOf rs' o.hide ++ h.hid, floor := h.next } o.op = some (v', q') := e3
    rw [e4]
    exact e2
theorem SimD.whole (hok : drawOkL all = true) (ho : all[k]? = some o) (hk : 2 ≤ o.op.kind) (hfu : o.full = true) (hg : wanted fr o.guard = some true) {v : Val} {p' : Heap} (hs : SimS E fr o.op p v p')
    (w : SimD E all (k + 1) (rs ++ [(p.next, p'.next)]) (setDst fr o.dst v) p' fr2 p2) : SimD E all k rs fr p fr2 p2 := by
  intro rs' h F σ fr' D
  obtain ⟨m, v', q', F1, σ1, e1, s1, r1⟩ := hs _ F σ fr' D.hr D.frm.length fun t _ => D.frm.getD t
  obtain ⟨n, fr2', h2, F3, σ3, e, f, r⟩ := w _ _ F1 σ1 _ (D.whole ho hok hk hfu s1 r1)
  refine ⟨max m n, fr2', h2, F3, σ3, ?_, s1.trans f, r⟩
  rw [drop_at ho, runDraw, wantedR D.frm hg]
  simp only
  rw [if_pos (.inr hfu), step_mono (run_mono (Nat.le_max_left m n)) e1]
  exact runDraw_mono (run_mono (Nat.le_max_right m n)) _ _ _ _ _ e
theorem SimD.pst {d : Option Nat} {n : Nat} {x y : Opd} {g : Option (Nat × Bool)} {hd : List Nat} {b o1 : Nat} {q : Heap} (ho : all[k]? = some ⟨d, .store n x y, g, false, hd⟩) (hok : drawOkL all = true) (hg : wanted fr g = some true) (hx : V.ev fr x = .ptr b o1) (hlen : (V.ev fr y).cells.length = n) (hst : p.store b o1 (V.ev fr y).cells = some q) (hN : hidN rs hd b = true) (hU : hd.all (unsC all fr [b]) = true) (hJ : V.ev fr y ≠ .junk)
    (w : SimD E all (k + 1) (rs ++ [(b, b + 1)]) (setDst fr d .undef) q fr2 p2) : SimD E all k rs fr p fr2 p2 := by
  intro rs' h F σ fr' D
  have hkk : (VOp.store n x y).kind ≠ 0 := by simp [VOp.kind]
  have hv := D.vw k _ (Nat.le_refl _) ho hkk
  have hoo : x.ok = true ∧ y.ok = true := by
    have := ok_of hok ho
    simp only [VOp.ok, VOp.opds, List.all_cons, List.all_nil, Bool.and_eq_true, Bool.and_true] at this
    exact this
  obtain ⟨hfl, cc, hg1, rfl, hfit, hone⟩ := Heap.store_eq hst
  have hx' := D.frm.ev hoo.1
  rw [hx] at hx'
  simp only [Rv] at hx'
  obtain ⟨b', hs, hx2⟩ := hx'
  have hNo := hidN_spec hN
  have hph := Heap.get_nh hg1
  have hg1t := Heap.get_t hg1
  have hvg : (V.view rs hd p).get b = some (.cells cc) := Heap.get_of hg1t (view_hidden.2 ⟨hNo, hph⟩)
  have hstv : (V.view rs hd p).store b o1 (V.ev fr y).cells = some ((V.view rs hd p).put b (some (.cells (splice cc o1 (V.ev fr y).cells)))) := by
    unfold Heap.store
    rw [if_pos (show (V.view rs hd p).floor ≤ b from hfl), hvg]
    simp only
    rw [if_pos ⟨hfit, hone⟩]
  have hfr : Rs (V.view rs' hd h) F σ (patchF (VOp.store n x y).tmps fr) (patchF (VOp.store n x y).tmps fr') := Rs.patch D.frm.length fun t ht => D.tmp k _ (Nat.le_refl _) ho t ht
  have e1 : V.ev (patchF (VOp.store n x y).tmps fr) y = V.ev fr y := ev_congr fun t ht => patchF_getD (opds_tmps (.store n x y) y (by simp [VOp.opds]) t ht)
  have e2 : V.ev (patchF (VOp.store n x y).tmps fr') y = V.ev fr' y := ev_congr fun t ht => patchF_getD (opds_tmps (.store n x y) y (by simp [VOp.opds]) t ht)
  have hyv := hfr.ev hoo.2
  rw [e1, e2] at hyv
  have hcl := hyv.cells hJ
  obtain ⟨h2v, hs1, S⟩ := Sim.store hv hs hcl hstv
  obtain ⟨hfl', cc', hg2, rfl, hfit', hone'⟩ := Heap.store_eq hs1
  obtain ⟨_, hg0, _, hnF⟩ := D.hr.get hs hg1
  have hlen' : (V.ev fr' y).cells.length = n := by rw [← hlen]; exact hcl.length
  have hbn : b < p.next := (D.hr.dom _ _ hs).1
  have hbn' : b' < h.next := (D.hr.dom _ _ hs).2
  have hput : ∀ (q : Heap) (x : Option Blk) (z : Nat), (q.put b x).t.get z = if z = b then x else q.t.get z := fun q x z => put_get' q b x z
  have hxo : (V.view rs' hd h).hidden b' = false := Heap.get_nh hg2
  obtain ⟨D', fx, hle, own, newS⟩ := D.wr (r := (b, b + 1)) (r' := (b', b' + 1)) (bs := [b]) (bs' := [b']) (dp := false) (p2 := p.put b (some (.cells (splice cc o1 (V.ev fr y).cells)))) (h2 := h.put b' (some (.cells (splice cc' o1 (V.ev fr' y).cells)))) (v := .undef) (v' := .undef) ho hok (by simp [VOp.kind]) S (by simp only [Rv])
    (fun z _ hz => by rw [put_get', if_neg (by simpa using hz)]; rfl) (fun z _ hz => by rw [put_get', if_neg (by simpa using hz)]; rfl)
    (fun z z' e => by
      simp only [List.mem_cons, List.not_mem_nil, or_false]
      constructor
      · rintro rfl; rw [hs] at e; cases e; rfl
      · rintro rfl; exact D.hr.inj _ _ _ e hs)
    (fun z' hz => by
      simp only [List.mem_cons, List.not_mem_nil, or_false] at hz
      subst hz; exact ⟨hnF, b, hs⟩)
    (fun z hz => by
      simp only [List.mem_cons, List.not_mem_nil, or_false] at hz
      subst hz; exact view_hidden.2 ⟨hNo, hph⟩)
    (fun z => by rw [if_neg (by simp), put_get', put_get']; rfl) (fun z => by rw [if_neg (by simp), put_get', put_get']; rfl)
    ⟨rfl, rfl, rfl⟩ ⟨rfl, rfl, rfl⟩
    (fun z z' e q1 q2 => by
      have : z' = b' := by simp only at q1 q2; omega
      subst this
      have := D.hr.inj _ _ _ e hs
      subst this
      exact ⟨Nat.le_refl _, Nat.lt_succ_self _⟩)
    (fun _ z hz => by
      simp only [List.mem_cons, List.not_mem_nil, or_false] at hz
      subst hz; exact ⟨Nat.le_refl _, Nat.lt_succ_self _⟩)
    (fun z q1 q2 => by have q2' : z < p.next := q2; omega)
    (fun z q1 q2 => by show z < h.next; simp only at q1 q2; omega) (fun z q1 q2 => by show z < p.next; simp only at q1 q2; omega)
    (fun z hz q => by
      have : z = b' := by simp only at q; omega
      exact hnF (this ▸ hz))
    (HExt.put _ (D.hr.flo _ _ hs hfl) (.inl (by rw [Heap.get_t hg0]; simp)))
  have hcl0 := (D.frm.ev hoo.2).cells hJ
  obtain ⟨h2s, hs2, S0⟩ := Sim.store D.hr hs hcl0 hst
  obtain ⟨_, cc2, hg3, rfl, _, _⟩ := Heap.store_eq hs2
  have hcc : cc' = cc2 := by
    have e1 : (V.view rs' hd h).get b' = some (.cells cc') := hg2
    have := Heap.get_t e1
    have e2 := Heap.get_t hg3
    have e3 : (V.view rs' hd h).t = h.t := rfl
    rw [e3] at this
    rw [this] at e2
    injection e2 with e2
    injection e2 with e2
  subst hcc
  obtain ⟨m, fr2', h2, F3, σ3, e, f, r⟩ := w _ _ F σ _ D'
  refine ⟨m, fr2', h2, F3, σ3, ?_, S0.trans f, r⟩
  rw [drop_at ho, runDraw, wantedR D.frm hg]
  simp only
  rw [if_neg (by rintro (z | z)
                 · simp [VOp.kind] at z
                 · cases z), if_neg (by rintro (z | z)
                                        · simp [VOp.kind] at z
                                        · simp [isApp] at z)]
  have hwb : wrBlocks fr' (.store n x y) = some [b'] := by simp only [wrBlocks]; rw [hx2]
  rw [hwb]
  simp only
  rw [if_pos]
  · have hse : step E.meth (run E m) fr' { h with hid := hiddenOf rs' hd ++ h.hid } (.store n x y) = some (.undef, { (h.put b' (some (.cells (splice cc' o1 (V.ev fr' y).cells)))) with hid := hiddenOf rs' hd ++ h.hid }) := by
      simp only [step]
      rw [hx2]
      simp only
      rw [if_pos hlen']
      have : ({ h with hid := hiddenOf rs' hd ++ h.hid } : Heap).store b' o1 (V.ev fr' y).cells = some ((V.view rs' hd h).put b' (some (.cells (splice cc' o1 (V.ev fr' y).cells)))) := hs1
      rw [this]; rfl
    rw [hse]
    exact e
  · unfold wrOk
    simp only [List.all_cons, List.all_nil, Bool.and_true, Bool.and_eq_true, decide_eq_true_eq]
    refine ⟨⟨D.hr.flo _ _ hs hfl, ?_⟩, ?_⟩
    · have : ({ h with hid := hiddenOf rs' hd ++ h.hid } : Heap).get b' = some (.cells cc') := hg2
      rw [this]; rfl
    · rw [List.all_eq_true] at hU ⊢
      intro i hi
      refine unsR D.frm D.hr.inj (fun z' hz => ?_) (hU i hi)
      simp only [List.mem_cons, List.not_mem_nil, or_false] at hz
      subst hz; exact ⟨hnF, b, List.mem_cons_self .., hs⟩
end
theorem wr_mem {size bytes : Nat} {x y : Opd} {b o len cap ls s o2 len2 cap2 ls2 : Nat} (hx : V.ev fr x = .slice b o len cap ls) (hy : V.ev fr y = .slice s o2 len2 cap2 ls2) (hn : b ≠ s) : ∃ bs, wrBlocks fr (.append size bytes x y) = some bs ∧ ∀ z, z ∈ bs ↔ z = b ∨ z = s := by
  simp only [wrBlocks, hx, hy]
  rcases Nat.lt_trichotomy b s with q | q | q
  · rw [if_pos q]; exact ⟨_, rfl, fun z => by simp⟩
  · exact absurd q hn
  · rw [if_neg (by omega), if_pos q]
    exact ⟨_, rfl, fun z => by simp only [List.mem_cons, List.not_mem_nil, or_false]; exact Or.comm⟩
theorem dead_ext : CallExt dead := fun f a h v h' e => by cases e
theorem hiddenOf_no {rs : List (Nat × Nat)} {hd : List Nat} {b : Nat} (hn : ∀ i ∈ hd, ¬ inR rs i b) : ((hiddenOf rs hd).any fun r => r.1 ≤ b && b < r.2) = false := by
  rw [List.any_eq_false]
  intro r hr
  obtain ⟨j, hj, rfl⟩ := hiddenOf_mem' hr
  simp only [Bool.and_eq_true, decide_eq_true_eq]
  exact hn j hj
theorem unsC2 {fr : List Val} {b s i : Nat} (h1 : unsC all fr [b] i = true) (h2 : unsC all fr [s] i = true) : unsC all fr [b, s] i = true := by
  unfold unsC at *
  cases q : all[i]? with
  | none => rw [q] at h1; cases h1
  | some o =>
    rw [q] at h1 h2
    simp only [Bool.or_eq_true] at h1 h2 ⊢
    rcases h1 with h1 | h1
    · exact .inl h1
    · rcases h2 with h2 | h2
      · exact .inl h2
      · right
        split at h1
        · rename_i a n t hop
          rw [hop] at h2
          simp only [Bool.and_eq_true] at h1 h2 ⊢
          refine ⟨h1.1, ?_⟩
          have a1 := h1.2
          have a2 := h2.2
          revert a1 a2
          cases fr.getD t .undef <;> simp [unsV]
          intro q1 q2
          exact ⟨q1, q2⟩
        · cases h1
theorem SimD.papp {fr2 : List Val} {p2 : Heap} {d : Option Nat} {size bytes : Nat} {x y : Opd} {g : Option (Nat × Bool)} {hd : List Nat} {M o1 n c1 l1 s o2 m c2 l2 : Nat} {v : Val} {p' : Heap} (ho : all[k]? = some ⟨d, .append size bytes x y, g, false, hd⟩) (hok : drawOkL all = true) (hg : wanted fr g = some true)
    (hx0 : V.ev fr x = .slice M o1 n c1 l1) (hl1 : l1 ≠ 0) (hy : V.ev fr y = .slice s o2 m c2 l2) (hMs' : M ≠ s) (hst0 : step E.meth dead fr p (.append size bytes x y) = some (v, p')) (hN1 : hidN rs hd M = true) (hN2 : hidN rs hd s = true) (hU : hd.all (unsC all fr [M, s]) = true)
    (hkM : ∃ kb, p.get M = some kb) (hkS : ∃ kb, p.get s = some kb) (hf1 : p.floor ≤ M) (hf2 : p.floor ≤ s)
    (w : SimD E all (k + 1) (rs ++ [(p.next, p'.next)]) (setDst fr d v) ((p'.put M none).put s none) fr2 p2) : SimD E all k rs fr p fr2 p2 := by
  intro rs' h F σ fr' D
  obtain ⟨kbM, hkM⟩ := hkM
  obtain ⟨kbS, hkS⟩ := hkS
  have hoo : x.ok = true ∧ y.ok = true := by
    have := ok_of hok ho
    simp only [VOp.ok, VOp.opds, List.all_cons, List.all_nil, Bool.and_eq_true, Bool.and_true] at this
    exact this
  have hs2 := hiddenOf_no (hidN_spec hN2)
  have hs1 := hiddenOf_no (hidN_spec hN1)
  have hkk : (VOp.append size bytes x y).kind ≠ 0 := by simp [VOp.kind]
  have hv := D.vw k _ (Nat.le_refl _) ho hkk
  obtain ⟨bs, hw1, hbs⟩ := wr_mem (size := size) (bytes := bytes) hx0 hy hMs'
  have hst := wr_narrow hw1 hst0 (A := hiddenOf rs hd) (fun b hb => by
    rcases (hbs b).1 hb with rfl | rfl
    · exact hs1
    · exact hs2)
  have hpx := step_ext dead_ext hst0
  have hfr : Rs (V.view rs' hd h) F σ (patchF (VOp.append size bytes x y).tmps fr) (patchF (VOp.append size bytes x y).tmps fr') := Rs.patch D.frm.length fun t ht => D.tmp k _ (Nat.le_refl _) ho t ht
  have px : ∀ f : List Val, V.ev (patchF (VOp.append size bytes x y).tmps f) x = V.ev f x := fun f => ev_congr fun t ht => patchF_getD (opds_tmps (.append size bytes x y) x (by simp [VOp.opds]) t ht)
  have py : ∀ f : List Val, V.ev (patchF (VOp.append size bytes x y).tmps f) y = V.ev f y := fun f => ev_congr fun t ht => patchF_getD (opds_tmps (.append size bytes x y) y (by simp [VOp.opds]) t ht)
  have hxv := hfr.ev hoo.1
  have hyv := hfr.ev hoo.2
  rw [px, px] at hxv
  rw [py, py] at hyv
  simp only [step, append] at hst
  rw [hy] at hst hyv
  simp only [lenVal] at hst
  split at hst
  · cases hst
  rename_i new0 hnew0
  obtain ⟨new', g1, g2⟩ := firstCellsR hv hyv hnew0
  obtain ⟨v', h2v, σ2, g3, S, g5⟩ := appendNR hv hxv g2 hst
  rw [hx0] at hxv
  simp only [Rv] at hxv hyv
  obtain ⟨M', hM1, hM2, _⟩ := hxv
  obtain ⟨s', hS1, hS2, _⟩ := hyv
  have hne : M' ≠ s' := fun q => hMs' (D.hr.inj _ _ _ hM1 (q ▸ hS1))
  obtain ⟨bs', hw2, hbs'⟩ := wr_mem (size := size) (bytes := bytes) hM2 hS2 hne
  have hstc : step E.meth dead fr' (V.view rs' hd h) (.append size bytes x y) = some (v', h2v) := by
    simp only [step, append]
    rw [hS2] at g1 ⊢
    simp only [lenVal]
    rw [g1]
    exact g3
  obtain ⟨kM', gM1, _, nFM⟩ := D.hr.get hM1 hkM
  obtain ⟨kS', gS1, _, nFS⟩ := D.hr.get hS1 hkS
  have hfM := D.hr.flo _ _ hM1 hf1
  have hfS := D.hr.flo _ _ hS1 hf2
  have hflo : ∀ b ∈ bs', h.floor ≤ b := fun b hb => by
    rcases (hbs' b).1 hb with rfl | rfl
    · exact hfM
    · exact hfS
  have hphM := Heap.get_nh hkM
  have hphS := Heap.get_nh hkS
  have visV : ∀ a a', σ a = some a' → (∀ i ∈ hd, ¬ inR rs i a) → p.hidden a = false → (V.view rs' hd h).hidden a' = false := fun a a' e hno hph => hv.vis a a' e (view_hidden.2 ⟨hno, hph⟩)
  have vgM : (V.view rs' hd h).get M' = some kM' := Heap.get_of (show h.t.get M' = _ from Heap.get_t gM1) (visV _ _ hM1 (hidN_spec hN1) hphM)
  have vgS : (V.view rs' hd h).get s' = some kS' := Heap.get_of (show h.t.get s' = _ from Heap.get_t gS1) (visV _ _ hS1 (hidN_spec hN2) hphS)
  let h2 : Heap := wrEnd (.append size bytes x y) bs' { h2v with hid := h.hid }
  have h2n : h2.next = h2v.next := wrEnd_same.1
  have hex : HExt h h2 := by
    have := (step_ext dead_ext hstc).rehid (h := h)
    refine this.trans (wrEnd_ext fun b hb => ?_)
    rw [this.floor]; exact hflo b hb
  have pex : HExt p ((p'.put M none).put s none) := by
    refine hpx.trans (wrEnd_ext (o := .append size bytes x y) (bs := [M, s]) fun b hb => ?_)
    rw [hpx.floor]
    simp only [List.mem_cons, List.not_mem_nil, or_false] at hb
    rcases hb with rfl | rfl
    · exact hf1
    · exact hf2
  have keepc := fun z (hz : z < p.next) (hb : z ∉ bs) => wr_keeps hw1 hst0 z hz hb
  obtain ⟨D', fx, hle, own, newS⟩ := D.wr (r := (p.next, p'.next)) (r' := (h.next, h2.next)) (bs := bs) (bs' := bs') (dp := true) (p2 := (p'.put M none).put s none) (h2 := h2) ho hok (by simp [VOp.kind]) S g5
    (fun z hz hb => keepc z hz hb) (fun z hz hb => wr_keeps hw2 hstc z hz hb)
    (fun z z' e => by
      rw [hbs, hbs']
      constructor
      · rintro (rfl | rfl)
        · rw [hM1] at e; cases e; exact .inl rfl
        · rw [hS1] at e; cases e; exact .inr rfl
      · rintro (rfl | rfl)
        · exact .inl (D.hr.inj _ _ _ e hM1)
        · exact .inr (D.hr.inj _ _ _ e hS1))
    (fun z' hz => by
      rcases (hbs' z').1 hz with rfl | rfl
      · exact ⟨nFM, M, hM1⟩
      · exact ⟨nFS, s, hS1⟩)
    (fun z hz => by
      rcases (hbs z).1 hz with rfl | rfl
      · exact view_hidden.2 ⟨hidN_spec hN1, hphM⟩
      · exact view_hidden.2 ⟨hidN_spec hN2, hphS⟩)
    (fun z => by
      rw [put_get', put_get']
      by_cases hz : z ∈ bs
      · rw [if_pos (c := true = true ∧ z ∈ bs) ⟨rfl, hz⟩]
        rcases (hbs z).1 hz with rfl | rfl
        · rw [if_neg hMs', if_pos rfl]
        · rw [if_pos rfl]
      · rw [if_neg (c := true = true ∧ z ∈ bs) (fun q => hz q.2), if_neg (fun q => hz ((hbs z).2 (.inr q))), if_neg (fun q => hz ((hbs z).2 (.inl q)))])
    (fun z => by
      show (dropL bs' { h2v with hid := h.hid }).t.get z = _
      rw [dropL_get]
      by_cases hz : z ∈ bs'
      · rw [if_pos hz, if_pos ⟨rfl, hz⟩]
      · rw [if_neg hz, if_neg (fun q => hz q.2)])
    ⟨rfl, pex.hid, pex.floor⟩ ⟨h2n, wrEnd_same.2.1, by rw [hex.floor]⟩
    (fun z z' e q1 q2 => by
      rcases S.newS z z' e with q | q
      · have := (D.hr.dom _ _ q).2; simp only at q1; omega
      · exact ⟨q.1, (S.hr.dom _ _ e).1⟩)
    (fun q => by cases q) (fun z q1 q2 => ⟨q1, q2⟩) (fun z q1 q2 => q2) (fun z q1 q2 => q2)
    (fun z hz q => by have := D.hr.fro z hz; simp only at q; omega) hex
  have S0 : Sim p h F σ ((p'.put M none).put s none) h2 F σ2 := ⟨D'.hr, hle, fx, own, fun _ x => .inl x, fun a b e => S.newS a b e, pex, hex, fun a b e => (D.hr.dom a b e).1⟩
  obtain ⟨mm, fr2', h3, F3, σ3, e, f, r⟩ := w _ _ F σ2 _ D'
  refine ⟨mm, fr2', h3, F3, σ3, ?_, S0.trans f, r⟩
  rw [drop_at ho, runDraw, wantedR D.frm hg]
  simp only
  rw [if_neg (by rintro (z | z)
                 · simp [VOp.kind] at z
                 · cases z), if_neg (by rintro (z | z)
                                        · simp [VOp.kind] at z
                                        · simp [isApp, hM2, isLoose] at z; exact hl1 z)]
  rw [hw2]
  simp only
  rw [if_pos]
  · have hse : step E.meth (run E mm) fr' { h with hid := hiddenOf rs' hd ++ h.hid } (.append size bytes x y) = some (v', h2v) := step_mono (fun f a h r e => by cases e) hstc
    rw [hse]
    exact e
  · unfold wrOk
    simp only [Bool.and_eq_true, List.all_eq_true, decide_eq_true_eq]
    refine ⟨fun b hb => ⟨hflo b hb, ?_⟩, fun i hi => ?_⟩
    · rcases (hbs' b).1 hb with rfl | rfl
      · have : ({ h with hid := hiddenOf rs' hd ++ h.hid } : Heap).get b = some kM' := vgM
        rw [this]; rfl
      · have : ({ h with hid := hiddenOf rs' hd ++ h.hid } : Heap).get b = some kS' := vgS
        rw [this]; rfl
    · rw [List.all_eq_true] at hU
      refine unsR D.frm D.hr.inj (fun z' hz => ?_) (hU i hi)
      rcases (hbs' z').1 hz with rfl | rfl
      · exact ⟨nFM, M, by simp, hM1⟩
      · exact ⟨nFS, s, by simp, hS1⟩
theorem sim_of (hm : MethSim E.meth) {q : Heap} {o : VOp} {v : Val} {p' : Heap} (ho : o.ok = true) (h2 : step E.meth dead (V.mk N env) q o = some (v, p')) (h1 : nojunk (V.mk N env) o = true) : SimS E (V.mk N env) o q v p' := by
  intro h F σ fr' a hl ht
  have hfr := Rs.patch hl ht
  rw [← step_patch] at h2
  obtain ⟨v', q', F1, σ1, e1, s1, r1⟩ := step_sim (d := dead) hm (dead_sim _) a hfr ho (nojunk_patch h1) h2
  rw [step_patch] at e1
  exact ⟨0, v', q', F1, σ1, step_mono (fun f a h r e => by cases e) e1, s1, r1⟩
def NextD (all : List VOper) (k : Nat) (rs : List (Nat × Nat)) (p : Heap) (o : VOper) (rs' : List (Nat × Nat)) (p' : Heap) : Prop := rs'.length = k + 1 ∧ NoB all rs' ∧ (noBlk o.op = true → p' = p ∧ rs' = rs ++ [(p.next, p.next)])
theorem GD1 (hm : MethSim E.meth) (hT : TOk E T) (hok : drawOkL all = true) {o : VOper} (ho : all[k]? = some o) (hv : NoB all rs) (hl : rs.length = k) {c : DK} (hg : wanted (V.mk N env) o.guard = some true) (h : oneD E.meth T N all k rs o env p c ≠ .no) :
    ∃ rs' v p', NextD all k rs p o rs' p' ∧ oneD E.meth T N all k rs o env p c = c rs' v p' ∧ ∀ fr2 p2, SimD E all (k + 1) rs' (V.mk N (upd env o.dst v)) p' fr2 p2 → SimD E all k rs (V.mk N env) p fr2 p2 := by
  have hopk := ok_of hok ho
  have hde : CallExt dead := fun f a h v h' e => by cases e
  have sameN : NextD all k rs p o (rs ++ [(p.next, p.next)]) p := ⟨by simp [hl], hv.snoc (by rw [hl]; exact ho) (fun _ => rfl), fun _ => ⟨rfl, rfl⟩⟩
  have hcp : ∀ (f : List Opd) (x : VOp), (∀ y ∈ f, y ∈ x.opds) → evs (patchF x.tmps (V.mk N env)) f = evs (V.mk N env) f := fun f x hx => evs_congr fun t ht => by
    refine patchF_getD ?_
    obtain ⟨y, hy, hyt⟩ := List.mem_flatMap.1 ht
    exact opds_tmps x y (hx y hy) t hyt
  unfold oneD at h ⊢
  cases hn : noBlk o.op with
  | false =>
    have blkN : ∀ {a b : Nat} {p' : Heap}, NextD all k rs p o (rs ++ [(a, b)]) p' := fun {a b p'} => ⟨by simp [hl], hv.snoc (by rw [hl]; exact ho) (fun q => by rw [hn] at q; cases q), fun q => by rw [hn] at q; cases q⟩
    rw [hn] at h
    simp only at h ⊢
    cases hw : wholeB o with
    | true =>
      rw [hw] at h
      simp only at h ⊢
      have hw' := hw
      simp only [wholeB, Bool.or_eq_true, decide_eq_true_eq] at hw
      by_cases hk2 : 2 ≤ o.op.kind
      · obtain ⟨v, p', h1, h2⟩ := oneX_sim hm hT hopk h
        exact ⟨_, v, p', blkN, h1, fun fr2 p2 w => SimD.whole hok ho hk2 (hw.resolve_right (by omega)) hg h2 (by rw [upd_eq]; exact w)⟩
      · have hk1 : o.op.kind = 1 := by
          have : o.op.kind ≠ 0 := fun q => by
            have : noBlk o.op = true := by cases ho : o.op <;> rw [ho] at q <;> simp_all [noBlk, VOp.kind]
            rw [hn] at this; cases this
          omega
        have e0 : oneX E.meth T N o.op env p (fun v p' => c (rs ++ [(p.next, p'.next)]) v p') = opX E.meth N env p (fun v p' => c (rs ++ [(p.next, p'.next)]) v p') o.op := by
          cases ho : o.op <;> rw [ho] at hk1 <;> first | rfl | simp [VOp.kind] at hk1
        rw [e0] at h ⊢
        obtain ⟨v, p', h1, h4, h3, _⟩ := opX_sim hm hopk h
        have hext := step_ext hde h4
        have h6 := step_blind (by omega) h4 (part rs o.hide p).hid (part rs o.hide p).floor
        have e6 : ({ p with hid := (part rs o.hide p).hid, floor := (part rs o.hide p).floor } : Heap) = part rs o.hide p := rfl
        rw [e6] at h6
        refine ⟨_, v, p', blkN, h1, fun fr2 p2 w => ?_⟩
        refine SimD.inPart (p' := { p' with hid := (part rs o.hide p).hid, floor := (part rs o.hide p).floor }) hok ho (by omega) hg (sim_of hm hopk h6 h3) (.inl hk1) ?_
        · have e7 : unpart p { p' with hid := (part rs o.hide p).hid, floor := (part rs o.hide p).floor } = p' := by
            have a1 := hext.hid
            have a2 := hext.floor
            cases p'
            simp only [unpart] at a1 a2 ⊢
            rw [← a1, ← a2]
          rw [e7, upd_eq]
          exact w
    | false =>
      rw [hw] at h
      simp only at h ⊢
      simp only [wholeB, Bool.or_eq_false_iff, decide_eq_false_iff_not] at hw
      cases hc : isCallB o.op with
      | true =>
        rw [hc] at h
        simp only at h ⊢
        rw [prt_eq hv] at h ⊢
        obtain ⟨v, q, h1, h2⟩ := oneX_sim hm hT hopk h
        refine ⟨_, v, unpart p q, blkN, by rw [h1, unpK_eq], fun fr2 p2 w => ?_⟩
        have hkk : o.op.kind = 2 := by cases ho : o.op <;> rw [ho] at hc <;> first | rfl | cases hc
        exact SimD.inPart (p' := q) hok ho (by omega) hg h2 (.inr ⟨.inl hkk, hw.1⟩) (by rw [upd_eq]; exact w)
      | false =>
        rw [hc] at h
        simp only at h ⊢
        unfold prtX at h ⊢
        split at h
        · rename_i n a v hop
          revert h
          cases hu : usX all N env o.hide with
          | none => intro h; exact absurd rfl h
          | some us =>
            intro h
            simp only at h ⊢
            unfold kps at h ⊢
            simp only [evE_eq] at h ⊢
            rcases ptrK_inv h with ⟨b, o1, e1, e2⟩ | ⟨_, _, e1, e2⟩
            · rw [e2] at h ⊢
              obtain ⟨e3, e4⟩ := cellsK_inv h
              rw [e4] at h ⊢
              obtain ⟨e5, e6⟩ := beq_inv h
              rw [e6] at h ⊢
              obtain ⟨e7, e8⟩ := ifB_inv h
              rw [e8] at h ⊢
              obtain ⟨e9, e10⟩ := ifB_inv h
              rw [e10] at h ⊢
              obtain ⟨q, e11, e12⟩ := stC_inv h
              rw [lenF_eq] at e5
              have hh : hidF b (hideX all rs o.hide) = false := by
                rw [notB_eq] at e7
                simpa using e7
              refine ⟨_, .undef, q, blkN, e12, fun fr2 p2 w => ?_⟩
              obtain ⟨d, op, g, fu, hd⟩ := o
              simp only at hop hw hu hh w
              subst hop
              have hfu : fu = false := hw.1
              subst hfu
              refine SimD.pst (b := b) (o1 := o1) (q := q) ho hok hg e1 e5 e11 (hidN_of hv hh) (usX_spec hu e9) e3 ?_
              rw [upd_eq]
              exact w
            · rw [e2] at h; exact absurd rfl h
        · rename_i s b a v hop
          have hao : a.ok = true := by
            rw [hop] at hopk
            simp only [VOp.ok, VOp.opds, List.all_cons, Bool.and_eq_true] at hopk
            exact hopk.1.1
          have hkk : o.op.kind = 3 := by rw [hop]; rfl
          revert h
          cases hu : usX all N env o.hide with
          | none =>
            intro h
            simp only at h ⊢
            obtain ⟨t1, t2⟩ := tgK_inv h
            rw [t2] at h ⊢
            rw [prt_eq hv] at h ⊢
            have e0 : kap (part rs o.hide p) s b (evE N env a) (evE N env v) (fun v q => unpK p q (fun u => c (rs ++ [(p.next, q.next)]) v u)) = opX E.meth N env (part rs o.hide p) (fun v q => unpK p q (fun u => c (rs ++ [(p.next, q.next)]) v u)) o.op := by rw [hop]; rfl
            rw [e0] at h ⊢
            obtain ⟨v', q, h1, h4, h3, h2⟩ := opX_sim hm hopk h
            refine ⟨_, v', unpart p q, blkN, by rw [h1, unpK_eq], fun fr2 p2 w => ?_⟩
            refine SimD.inPart (p' := q) hok ho (by omega) hg h2 (.inr ⟨.inr ⟨by omega, fun h F σ fr' hb => ?_⟩, hw.1⟩) (by rw [upd_eq]; exact w)
            rw [hop]
            have hx := hb.ev hao
            rw [evE_eq] at t1
            simp only [isApp]
            rw [t1 hx]
            rfl
          | some us =>
            intro h
            simp only at h ⊢
            unfold kpa at h ⊢
            cases hlo : looK (evE N env a) with
            | false =>
              rw [hlo] at h
              simp only at h ⊢
              rw [prt_eq hv] at h ⊢
              have e0 : kap (part rs o.hide p) s b (evE N env a) (evE N env v) (fun v q => unpK p q (fun u => c (rs ++ [(p.next, q.next)]) v u)) = opX E.meth N env (part rs o.hide p) (fun v q => unpK p q (fun u => c (rs ++ [(p.next, q.next)]) v u)) o.op := by rw [hop]; rfl
              rw [e0] at h ⊢
              obtain ⟨v', q, h1, h4, h3, h2⟩ := opX_sim hm hopk h
              refine ⟨_, v', unpart p q, blkN, by rw [h1, unpK_eq], fun fr2 p2 w => ?_⟩
              refine SimD.inPart (p' := q) hok ho (by omega) hg h2 (.inr ⟨.inr ⟨by omega, fun h F σ fr' hb => ?_⟩, hw.1⟩) (by rw [upd_eq]; exact w)
              rw [hop]
              have hx := hb.ev hao
              rw [evE_eq] at hlo
              simp only [isApp]
              rw [looK_no hlo hx]
              rfl
            | true =>
              rw [hlo] at h
              simp only at h ⊢
              rcases slcK_inv h with ⟨b1, o1, n1, c1, l1, e1, e2⟩ | ⟨c1, n1, x1, e1, e2⟩ | ⟨e1, e2⟩
              · rw [e2] at h ⊢
                rcases slcK_inv h with ⟨s1, o2, n2, c2, l2, f1, f2⟩ | ⟨c2, n2, x2, f1, f2⟩ | ⟨f1, f2⟩
                · rw [f2] at h ⊢
                  unfold wpK at h ⊢
                  obtain ⟨a1, a2⟩ := ifB_inv h
                  rw [a2] at h ⊢
                  obtain ⟨a3, a4⟩ := ifB_inv h
                  rw [a4] at h ⊢
                  obtain ⟨a5, a6⟩ := ifB_inv h
                  rw [a6] at h ⊢
                  obtain ⟨a7, a8⟩ := ifB_inv h
                  rw [a8] at h ⊢
                  obtain ⟨a9, a10⟩ := ifB_inv h
                  rw [a10] at h ⊢
                  obtain ⟨a11, a12⟩ := ble_inv h
                  rw [a12] at h ⊢
                  obtain ⟨a13, a14⟩ := ble_inv h
                  rw [a14] at h ⊢
                  obtain ⟨cb, a15, a16⟩ := hCells_inv h
                  rw [a16] at h ⊢
                  obtain ⟨cs, a17, a18⟩ := hCells_inv h
                  rw [a18] at h ⊢
                  have e0 : ∀ kk : Val → Heap → AN, kap p s b (evE N env a) (evE N env v) kk = opX E.meth N env p kk o.op := fun kk => by rw [hop]; rfl
                  rw [e0] at h ⊢
                  obtain ⟨v', q, h1, h4, h3, h2⟩ := opX_sim hm hopk h
                  rw [h1]
                  refine ⟨_, v', (q.put b1 none).put s1 none, blkN, by rw [putK_eq, putK_eq], fun fr2 p2 w => ?_⟩
                  rw [e1] at hlo
                  rw [evE_eq] at e1 f1
                  have hh1 : hidF b1 (hideX all rs o.hide) = false := by
                    rw [notB_eq] at a3
                    simpa using a3
                  have hh2 : hidF s1 (hideX all rs o.hide) = false := by
                    rw [notB_eq] at a5
                    simpa using a5
                  have hbs : b1 ≠ s1 := by
                    rintro rfl
                    rw [notB_eq, Nat.beq_refl] at a1
                    cases a1
                  obtain ⟨d, op, g, fu, hd⟩ := o
                  simp only at hop hw hu hh1 hh2 w h4
                  subst hop
                  have hfu : fu = false := hw.1
                  subst hfu
                  refine SimD.papp ho hok hg e1 (looK_yes hlo) f1 hbs h4 (hidN_of hv hh1) (hidN_of hv hh2) ?_ ⟨_, a15⟩ ⟨_, a17⟩ a11 a13 ?_
                  · have u1 := usX_spec hu a7
                    have u2 := usX_spec hu a9
                    rw [List.all_eq_true] at u1 u2 ⊢
                    exact fun i hi => unsC2 (u1 i hi) (u2 i hi)
                  · rw [upd_eq]
                    exact w
                · rw [f2] at h; exact absurd rfl h
                · rw [f2] at h; exact absurd rfl h
              · rw [e2] at h; exact absurd rfl h
              · rw [e2] at h; exact absurd rfl h
        · exact absurd rfl h
  | true =>
    rw [hn] at h
    simp only at h ⊢
    cases hw : wholeB o with
    | true =>
      rw [hw] at h
      simp only at h ⊢
      obtain ⟨v, p', h5, h4, h3, h2⟩ := opX_sim hm hopk h
      have hsame := noBlk_same hn h4
      simp only [wholeB, Bool.or_eq_true, decide_eq_true_eq] at hw
      refine ⟨_, v, p, sameN, h5, fun fr2 p2 w => ?_⟩
      by_cases hk0 : o.op.kind = 0
      · exact SimD.op0 hm hok ho hk0 hg h4 h3 (by rw [upd_eq]; exact w)
      · have hk2 : 2 ≤ o.op.kind := by
          have : o.op.kind ≠ 1 := fun q => by cases ho : o.op <;> rw [ho] at hn q <;> simp [noBlk, VOp.kind] at hn q
          omega
        refine SimD.whole (p' := p') hok ho hk2 (hw.resolve_right (by omega)) hg h2 ?_
        rw [upd_eq, hsame]; exact w
    | false =>
      rw [hw] at h
      simp only at h ⊢
      rw [prt_eq hv] at h ⊢
      obtain ⟨v, p', h5, h4, h3, h2⟩ := opX_sim hm hopk h
      have hsame := noBlk_same hn h4
      simp only [wholeB, Bool.or_eq_false_iff, decide_eq_false_iff_not] at hw
      have hk2 : o.op.kind = 2 := by
        have h0 := hw.2
        cases ho : o.op <;> rw [ho] at hn h0 <;> simp [noBlk, VOp.kind] at hn h0 ⊢
      refine ⟨_, v, p, sameN, h5, fun fr2 p2 w => ?_⟩
      refine SimD.inPart (p' := p') hok ho (by omega) hg h2 (.inr ⟨.inl hk2, hw.1⟩) ?_
      rw [hsame, unpart_part, upd_eq]
      exact w
theorem SimD.weak {e e2 : List (Nat × Val)} {fr2 : List Val} {p2 : Heap} (ha : ∀ t, lk t e2 = .junk ∨ lk t e2 = lk t e) (w : SimD E all k rs (V.mk N e2) p fr2 p2) : SimD E all k rs (V.mk N e) p fr2 p2 := by
  intro rs' h F σ fr' D
  refine w rs' h F σ fr' ⟨D.hr, D.frm.lessE ha, D.len, D.rng, D.top, D.ptop, fun j o hj ho t ht => ?_, D.vw⟩
  have hg := D.tmp j o hj ho t ht
  by_cases htn : t < N
  · rw [mk_getD htn] at hg ⊢
    rcases ha t with e | e
    · rw [e]; simp only [Rv]
    · rw [e]; exact hg
  · have e1 : ∀ e : List (Nat × Val), (V.mk N e).getD t .undef = .undef := fun e => by simp [V.mk, List.getD_eq_getElem?_getD, htn]
    rw [e1] at hg ⊢
    exact hg
theorem SimD.reset {fr fr2 : List Val} {p2 : Heap} (hc : cutOk all k = true) (hl : rs.length = k + 1) (w : SimD E all (k + 1) (List.replicate (k + 1) (0, 0)) fr p fr2 p2) : SimD E all (k + 1) rs fr p fr2 p2 := by
  intro rs' h F σ fr' D
  refine w rs' h F σ fr' (DI.cut hc D.hr D.frm (by simp) D.len.2 D.top fun i b hb => ?_)
  unfold inR at hb
  simp only [List.getD_eq_getElem?_getD, List.getElem?_replicate] at hb
  split at hb <;> simp at hb
theorem all_tail {o : VOper} {l : List VOper} (h : all.drop k = o :: l) : all[k]? = some o ∧ all.drop (k + 1) = l := by
  refine ⟨?_, ?_⟩
  · have := congrArg List.head? h
    simpa [List.head?_drop] using this
  · have := congrArg List.tail h
    simpa [List.tail_drop] using this
def PartD (all : List VOper) (l : List VOper) (k : Nat) (rs : List (Nat × Nat)) (p : Heap) (rs' : List (Nat × Nat)) (p' : Heap) : Prop := rs'.length = k + l.length ∧ NoB all rs' ∧ ((l.all fun o => noBlk o.op) = true → p' = p ∧ rs' = rs ++ List.replicate l.length (p.next, p.next))
theorem rep_app {a : Nat × Nat} {n : Nat} : [a] ++ List.replicate n a = List.replicate (n + 1) a := rfl
theorem XDL_ok (hm : MethSim E.meth) (hT : TOk E T) (hok : drawOkL all = true) {gd : Option (Nat × Bool)} {l2 : List VOper} : ∀ (l : List VOper) {k : Nat} {rs : List (Nat × Nat)} {env : List (Nat × Val)} {p : Heap} {K : List (Nat × Nat) → List (Nat × Val) → Heap → AN}, all.drop k = l ++ l2 → NoB all rs → rs.length = k → gOk gd l = true → wanted (V.mk N env) gd = some true → XDL E.meth T N all l k rs env p K ≠ .no →
    ∃ rs' env' p', PartD all l k rs p rs' p' ∧ Agree (dsts l) env env' ∧ XDL E.meth T N all l k rs env p K = K rs' env' p' ∧ ∀ fr2 p2, SimD E all (k + l.length) rs' (V.mk N env') p' fr2 p2 → SimD E all k rs (V.mk N env) p fr2 p2
  | [], k, rs, env, p, K, hd, hv, hl, _, _, _ => ⟨rs, env, p, ⟨hl, hv, fun _ => ⟨rfl, by simp⟩⟩, .refl _ _, rfl, fun _ _ w => w⟩
  | o :: r, k, rs, env, p, K, hd, hv, hl, hg, hw, h => by
    simp only [gOk, List.all_cons, Bool.and_eq_true, decide_eq_true_eq] at hg
    obtain ⟨⟨hg1, hg2⟩, hg3⟩ := hg
    obtain ⟨ho, hd2⟩ := all_tail hd
    have e0 : XDL E.meth T N all (o :: r) k rs env p K = oneD E.meth T N all k rs o env p (fun rs v p => XDL E.meth T N all r (k + 1) rs (upd env o.dst v) p K) := rfl
    rw [e0] at h ⊢
    obtain ⟨rs1, v, p1, hx, e, s1⟩ := GD1 hm hT hok ho hv hl (by rw [hg1]; exact hw) h
    rw [e] at h ⊢
    have hw' : wanted (V.mk N (upd env o.dst v)) gd = some true := by
      cases gd with
      | none => rfl
      | some gw =>
        obtain ⟨g, w'⟩ := gw
        rw [wanted_upd (by simpa using hg2)]; exact hw
    obtain ⟨rs2, env', p2, hy, ha, e2, s2⟩ := XDL_ok hm hT hok r hd2 hx.2.1 hx.1 hg3 hw' h
    refine ⟨rs2, env', p2, ⟨by rw [hy.1, List.length_cons]; omega, hy.2.1, fun hb => ?_⟩, ?_, e2, fun fr2 p3 w => s1 _ _ (s2 _ _ ?_)⟩
    · simp only [List.all_cons, Bool.and_eq_true] at hb
      obtain ⟨q1, q2⟩ := hx.2.2 hb.1
      obtain ⟨q3, q4⟩ := hy.2.2 hb.2
      subst q1
      refine ⟨q3, ?_⟩
      rw [q4, q2, List.append_assoc]
      rfl
    · intro t ht
      rw [dsts_cons, not_or] at ht
      rw [ha t ht.2, upd_lk ht.1]
    · rw [List.length_cons] at w
      rw [show k + 1 + r.length = k + (r.length + 1) by omega]
      exact w
theorem undD_ok (hok : drawOkL all = true) {g : Nat} {w : Bool} {l2 : List VOper} : ∀ (l : List VOper) {k : Nat} {rs : List (Nat × Nat)} {env : List (Nat × Val)}, all.drop k = l ++ l2 → NoB all rs → rs.length = k → gOk (some (g, w)) l = true → wanted (V.mk N env) (some (g, w)) = some false →
    NoB all (rs ++ List.replicate l.length (p.next, p.next)) ∧ Agree (dsts l) env (undE l env) ∧ ∀ fr2 p2, SimD E all (k + l.length) (rs ++ List.replicate l.length (p.next, p.next)) (V.mk N (undE l env)) p fr2 p2 → SimD E all k rs (V.mk N env) p fr2 p2
  | [], k, rs, env, _, hv, _, _, _ => by
    simp only [List.length_nil, List.replicate_zero, List.append_nil, Nat.add_zero]
    exact ⟨hv, .refl _ _, fun _ _ w => w⟩
  | o :: r, k, rs, env, hd, hv, hl, hg, hw => by
    simp only [gOk, List.all_cons, Bool.and_eq_true, decide_eq_true_eq] at hg
    obtain ⟨⟨hg1, hg2⟩, hg3⟩ := hg
    obtain ⟨ho, hd2⟩ := all_tail hd
    obtain ⟨h1, ha, h2⟩ := undD_ok hok r hd2 (hv.snoc (a := p.next) (b := p.next) (by rw [hl]; exact ho) fun _ => rfl) (by simp [hl]) hg3 (env := upd env o.dst .undef) (by rw [wanted_upd hg2]; exact hw)
    rw [List.append_assoc, rep_app] at h1 h2
    rw [show k + 1 + r.length = k + (r.length + 1) by omega] at h2
    refine ⟨h1, ?_, fun fr2 p2 w => .not hok ho (by rw [hg1]; exact hw) (by rw [upd_eq]; exact h2 fr2 p2 w)⟩
    intro t ht
    rw [dsts_cons, not_or] at ht
    show lk t (undE r (upd env o.dst .undef)) = _
    rw [ha t ht.2, upd_lk ht.1]
def XDG (m : TypeId → Val → String → Option (FuncId × Val)) (T : List Ce) (N : Nat) (all : List VOper) (G : Gp) (k : Nat) (rs : List (Nat × Nat)) (env : List (Nat × Val)) (p : Heap) (K : List (Nat × Nat) → List (Nat × Val) → Heap → AN) : AN := match G with
  | .pl l => XDL m T N all l k rs env p K
  | .gd g w l => Bool.rec (motive := fun _ => AN)
    (ifS (cutOk all (k + l.length - 1)) (ifS (Nat.ble 1 l.length) (jn (dsts l).length (fun j => gdK (evE N env (.t g)) w (XDL m T N all l k rs env p (fun _ env' p' => appL (dsts l) j env' p')) (appL (dsts l) j (undE l env) p)) (lamL (dsts l) (fun vals q => K (List.replicate (k + l.length) (0, 0)) (apE vals env) q)))))
    (jn (dsts l).length (fun j => gdK (evE N env (.t g)) w (XDL m T N all l k rs env p (fun _ env' p' => appL (dsts l) j env' p')) (appL (dsts l) j (undE l env) p)) (lamL (dsts l) (fun vals _ => K (rs ++ List.replicate l.length (p.next, p.next)) (apE vals env) p))) (l.all fun o => noBlk o.op)
def Gp.gok : Gp → Bool
  | .pl l => gOk none l
  | .gd g w l => gOk (some (g, w)) l
theorem XDG_ok (hm : MethSim E.meth) (hT : TOk E T) (hok : drawOkL all = true) {G : Gp} {l2 : List VOper} {K : List (Nat × Nat) → List (Nat × Val) → Heap → AN} (hd : all.drop k = G.ops ++ l2) (hv : NoB all rs) (hl : rs.length = k) (ho : G.gok = true) (h : XDG E.meth T N all G k rs env p K ≠ .no) :
    ∃ rs' env' p', rs'.length = k + G.ops.length ∧ NoB all rs' ∧ Agree (dstG G) env env' ∧ XDG E.meth T N all G k rs env p K = K rs' env' p' ∧ ∀ fr2 p2, SimD E all (k + G.ops.length) rs' (V.mk N env') p' fr2 p2 → SimD E all k rs (V.mk N env) p fr2 p2 := by
  cases G with
  | pl l =>
    obtain ⟨rs', env', p', h1, h2, h3, h4⟩ := XDL_ok hm hT hok l hd hv hl ho rfl h
    exact ⟨rs', env', p', h1.1, h1.2.1, h2, h3, h4⟩
  | gd g wt l =>
    have ho' : gOk (some (g, wt)) l = true := ho
    cases hb : (l.all fun o => noBlk o.op) with
    | true =>
      let K' : List (Nat × Val) → Heap → AN := fun env' p' => appL (dsts l) (lamL (dsts l) (fun vals _ => K (rs ++ List.replicate l.length (p.next, p.next)) (apE vals env) p)) env' p'
      have hK : ∀ env' p', K' env' p' = K (rs ++ List.replicate l.length (p.next, p.next)) (zipE (dsts l) env' ++ env) p := fun env' p' => by
        show appL _ _ _ _ = _
        rw [appL_lamL, apE_eq]
      have e0 : XDG E.meth T N all (.gd g wt l) k rs env p K = gdK (evE N env (.t g)) wt (XDL E.meth T N all l k rs env p (fun _ => K')) (K' (undE l env) p) := by
        unfold XDG
        simp only [hb]
        rfl
      rw [e0] at h ⊢
      rcases gdK_inv h with ⟨h1, h2⟩ | ⟨h1, h2⟩
      · rw [h2] at h ⊢
        obtain ⟨rs', env', p', hx, ha, e, s⟩ := XDL_ok hm hT hok l hd hv hl ho' h1 h
        obtain ⟨q1, q2⟩ := hx.2.2 hb
        subst q1
        exact ⟨rs', zipE (dsts l) env' ++ env, p', hx.1, hx.2.1, join_agree, by rw [e, hK, q2], fun fr2 p2 w => s fr2 p2 (w.weak fun t => .inr (join_env ha t))⟩
      · rw [h2]
        obtain ⟨hv', ha, s⟩ := undD_ok (E := E) (p := p) hok l hd hv hl ho' h1
        exact ⟨_, zipE (dsts l) (undE l env) ++ env, p, by simp [hl, Gp.ops], hv', join_agree, hK _ _, fun fr2 p2 w => s fr2 p2 (w.weak fun t => .inr (join_env ha t))⟩
    | false =>
      let K' : List (Nat × Val) → Heap → AN := fun env' p' => appL (dsts l) (lamL (dsts l) (fun vals q => K (List.replicate (k + l.length) (0, 0)) (apE vals env) q)) env' p'
      have hK : ∀ env' p', K' env' p' = K (List.replicate (k + l.length) (0, 0)) (zipE (dsts l) env' ++ env) p' := fun env' p' => by
        show appL _ _ _ _ = _
        rw [appL_lamL, apE_eq]
      have e0 : XDG E.meth T N all (.gd g wt l) k rs env p K = ifS (cutOk all (k + l.length - 1)) (ifS (Nat.ble 1 l.length) (gdK (evE N env (.t g)) wt (XDL E.meth T N all l k rs env p (fun _ => K')) (K' (undE l env) p))) := by
        unfold XDG
        simp only [hb]
        rfl
      rw [e0] at h ⊢
      obtain ⟨c1, c2⟩ := ifS_inv h
      rw [c2] at h ⊢
      obtain ⟨c3', c4⟩ := ifS_inv h
      have c3 : 1 ≤ l.length := Nat.le_of_ble_eq_true c3'
      rw [c4] at h ⊢
      have hkl : k + l.length = (k + l.length - 1) + 1 := by omega
      have fin : ∀ {rs' : List (Nat × Nat)} {env' : List (Nat × Val)} {p' : Heap} {fr2 : List Val} {p2 : Heap}, rs'.length = k + l.length → Agree (dsts l) env env' → SimD E all (k + l.length) (List.replicate (k + l.length) (0, 0)) (V.mk N (zipE (dsts l) env' ++ env)) p' fr2 p2 → SimD E all (k + l.length) rs' (V.mk N env') p' fr2 p2 := by
        intro rs' env' p' fr2 p2 hlen ha w
        refine SimD.weak (fun t => .inr (join_env ha t)) ?_
        rw [hkl] at w hlen ⊢
        exact SimD.reset c1 hlen w
      rcases gdK_inv h with ⟨h1, h2⟩ | ⟨h1, h2⟩
      · rw [h2] at h ⊢
        obtain ⟨rs', env', p', hx, ha, e, s⟩ := XDL_ok hm hT hok l hd hv hl ho' h1 h
        exact ⟨List.replicate (k + l.length) (0, 0), zipE (dsts l) env' ++ env, p', by simp [Gp.ops], .zero, join_agree, by rw [e, hK], fun fr2 p2 w => s fr2 p2 (fin hx.1 ha w)⟩
      · rw [h2]
        obtain ⟨hv', ha, s⟩ := undD_ok (E := E) (p := p) hok l hd hv hl ho' h1
        exact ⟨List.replicate (k + l.length) (0, 0), zipE (dsts l) (undE l env) ++ env, p, by simp [Gp.ops], .zero, join_agree, hK _ _, fun fr2 p2 w => s fr2 p2 (fin (by simp [hl]) ha w)⟩
def XD (m : TypeId → Val → String → Option (FuncId × Val)) (T : List Ce) (N : Nat) (all : List VOper) (Gs : List Gp) : Nat → List (Nat × Nat) → List (Nat × Val) → Heap → (List (Nat × Val) → Heap → AN) → AN := List.rec (motive := fun _ => Nat → List (Nat × Nat) → List (Nat × Val) → Heap → (List (Nat × Val) → Heap → AN) → AN) (fun _ _ env p K => K env p) (fun G _ ih k rs env p K => XDG m T N all G k rs env p (fun rs env p => ih (k + G.ops.length) rs env p K)) Gs
theorem XD_ok (hm : MethSim E.meth) (hT : TOk E T) (hok : drawOkL all = true) : ∀ (Gs : List Gp) {k : Nat} {rs : List (Nat × Nat)} {env : List (Nat × Val)} {p : Heap} {K : List (Nat × Val) → Heap → AN}, all.drop k = opsG Gs → NoB all rs → rs.length = k → (Gs.all Gp.gok) = true → XD E.meth T N all Gs k rs env p K ≠ .no →
    ∃ env' p', Agree (dsts (opsG Gs)) env env' ∧ XD E.meth T N all Gs k rs env p K = K env' p' ∧ SimD E all k rs (V.mk N env) p (V.mk N env') p'
  | [], k, rs, env, p, K, hd, _, _, _, _ => ⟨env, p, .refl _ _, rfl, .nil hd⟩
  | G :: r, k, rs, env, p, K, hd, hv, hl, ho, h => by
    simp only [List.all_cons, Bool.and_eq_true] at ho
    have e0 : XD E.meth T N all (G :: r) k rs env p K = XDG E.meth T N all G k rs env p (fun rs env p => XD E.meth T N all r (k + G.ops.length) rs env p K) := rfl
    rw [e0] at h ⊢
    have hd' : all.drop k = G.ops ++ opsG r := hd
    obtain ⟨rs', env1, p1, h1, h2, ha, e, s⟩ := XDG_ok hm hT hok hd' hv hl ho.1 h
    rw [e] at h ⊢
    have hd2 : all.drop (k + G.ops.length) = opsG r := by
      rw [← List.drop_drop, hd', List.drop_left]
    obtain ⟨env', p', hb, e2, s2⟩ := XD_ok hm hT hok r hd2 h2 h1 ho.2 h
    refine ⟨env', p', ?_, e2, s _ _ s2⟩
    exact ha.trans hb (fun t ht => mem_dsts_app.2 (.inl ht)) fun t ht => mem_dsts_app.2 (.inr ht)
end
end
end Go.V
end

section
set_option linter.unusedVariables false
set_option linter.unusedSimpArgs false
set_option linter.unusedSectionVars false
namespace Go.V
section
variable {E : Env} {fr : List Val} {ks : List (List Val)} {p : Heap}
theorem HR.rnd {p h : Heap} {F : Nat → Prop} {σ : Sg} (hr : HR p h F σ) {j j' st : Nat} (hs : σ j = some j') (hf : p.floor ≤ j) (hg : p.get j = some (.rnd st)) (st' : Nat) : h.get j' = some (.rnd st) ∧ h.floor ≤ j' ∧ Sim p h F σ (p.put j (some (.rnd st'))) (h.put j' (some (.rnd st'))) F σ := by
  obtain ⟨k', h1, h2, _⟩ := hr.get hs hg
  cases h2
  refine ⟨h1, hr.flo _ _ hs hf, Sim.put hr hs hf (by rw [Heap.get_t hg]; simp) (fun x hx => ?_) (fun e => by cases e)⟩
  cases hx
  exact ⟨_, rfl, rfl⟩
theorem setAllR {h : Heap} {F : Nat → Prop} {σ : Sg} : ∀ (ps : List Nat) {vs vs' fr fr' : List Val}, Rs h F σ vs vs' → Rs h F σ fr fr' → Rs h F σ (setAll fr (ps.zip vs)) (setAll fr' (ps.zip vs'))
  | [], vs, vs', fr, fr', _, hf => by simpa [setAll] using hf
  | t :: ps, [], vs', fr, fr', hv, hf => by simp only [Rs] at hv; subst hv; simpa [setAll] using hf
  | t :: ps, v :: vs, vs', fr, fr', hv, hf => by
    simp only [Rs] at hv
    obtain ⟨y, s, rfl, h1, h2⟩ := hv
    simp only [List.zip_cons_cons, setAll]
    exact setAllR ps h2 (hf.set t h1)
end
end Go.V
end

section
set_option linter.unusedVariables false
set_option linter.unusedSimpArgs false
set_option linter.unusedSectionVars false
namespace Go.V
noncomputable section
inductive CV where
  | s
  | ptr (b o : Nat)
  | slc (b o n cap ls : Nat)
  | map (b : Nat)
  | fn (f : Fn) (a c : List Val)
  | ifc (t : TypeId) (v : Val)
  | agg (l : List Val)
  | tup (l : List Val)
  | fz
def cvC (v : Val) : CV := Val.rec (motive_1 := fun _ => CV) (motive_2 := fun _ => Unit) .s (fun _ => .s) (fun _ _ => .s) (fun _ => .s) .s .ptr .s .slc .s .map .s (fun f a c _ _ => .fn f a c) .s (fun t v _ => .ifc t v) (fun l _ => .agg l) (fun l _ => .tup l) (fun _ _ _ => .fz) (fun _ _ _ _ => .fz) (fun _ _ _ _ => .fz) .s .s () (fun _ _ _ _ => ()) v
def apN (a b : List Nat) : List Nat := List.rec (motive := fun _ => List Nat) b (fun x _ ih => x :: ih) a
theorem apN_eq (b : List Nat) : ∀ a : List Nat, apN a b = a ++ b
  | [] => rfl
  | x :: a => congrArg (x :: ·) (apN_eq b a)
abbrev CT := (Val → List Nat → AN) → AN
def goK (f : Val → CT) (l : List Val) : (List Val → List Nat → AN) → AN := List.rec (motive := fun _ => (List Val → List Nat → AN) → AN) (fun k => k [] []) (fun x _ ih k => f x (fun y a => ih (fun ys b => k (y :: ys) (apN a b)))) l
def mapB (h : Heap) (b : Nat) (k : List (Val × Val) → AN) : AN := match h.get b with
  | some (.map es) => k es
  | _ => .no
def markK (n cap ls : Nat) (k : Nat → AN) : AN := Bool.rec (motive := fun _ => AN) (natK (Nat.mul (nat_lit 2) ls) k) (Bool.rec (motive := fun _ => AN) (k (nat_lit 1)) (k (nat_lit 0)) (Nat.beq cap n)) (Nat.beq ls (nat_lit 0))
theorem markK_eq (n cap ls : Nat) (k : Nat → AN) : markK n cap ls k = k (if ls = 0 then (if cap = n then 0 else 1) else 2 * ls) := by
  unfold markK
  rw [beq_rec, beq_rec, natK_eq]
  by_cases h : ls = 0
  · rw [if_pos h, if_pos h]; split <;> rfl
  · rw [if_neg h, if_neg h]; rfl
inductive FZ where
  | s
  | f
  | a (l : List Val)
  | o
def fzC : Val → FZ := Val.rec (motive_1 := fun _ => FZ) (motive_2 := fun _ => Unit) .s (fun _ => .s) (fun _ _ => .s) (fun _ => .s) .s (fun _ _ => .o) .s (fun _ _ _ _ _ => .o) .s (fun _ => .o) .s (fun _ _ _ _ _ => .o) .s (fun _ _ _ => .o) (fun l _ => .a l) (fun _ _ => .o) (fun _ _ _ => .f) (fun _ _ _ _ => .f) (fun _ _ _ _ => .f) .s .s () (fun _ _ _ _ => ())
def lfV (st : Bool) (v : Val) : Bool := FZ.rec (motive := fun _ => Bool) true (notB st) (fun _ => false) false (fzC v)
def lfL (st : Bool) : List Val → Bool := List.rec (motive := fun _ => Bool) true (fun v _ ih => Bool.rec (motive := fun _ => Bool) false ih (lfV st v))
def fzV (st : Bool) (v : Val) : Bool := FZ.rec (motive := fun _ => Bool) true (notB st) (fun l => lfL st l) false (fzC v)
def fzL (st : Bool) : List Val → Bool := List.rec (motive := fun _ => Bool) true (fun v _ ih => Bool.rec (motive := fun _ => Bool) false ih (fzV st v))
theorem lfV_res {h : Heap} {st : Bool} {n : Nat} {v : Val} (e : lfV st v = true) : resV h st (n + 1) v = some (v, []) := by
  cases v <;> cases st <;> first | rfl | cases e
theorem lfL_res {h : Heap} {st : Bool} {n : Nat} : ∀ {l : List Val}, lfL st l = true → resL h st (n + 1) l = some (l, [])
  | [], _ => rfl
  | v :: l, e => by
    have e0 : lfL st (v :: l) = Bool.rec (motive := fun _ => Bool) false (lfL st l) (lfV st v) := rfl
    rw [e0] at e
    cases h1 : lfV st v with
    | false => rw [h1] at e; cases e
    | true =>
      rw [h1] at e
      have h2 := lfL_res (h := h) (n := n) (l := l) e
      show (match resV h st (n + 1) v, resL h st (n + 1) l with
        | some (y, a), some (ys, b) => some (y :: ys, a ++ b)
        | _, _ => none) = _
      rw [lfV_res h1, h2]; rfl
theorem fzV_res {h : Heap} {st : Bool} {n : Nat} {v : Val} (e : fzV st v = true) : resV h st (n + 2) v = some (v, []) := by
  cases v with
  | agg l =>
    show (resL h st (n + 1) l).map _ = _
    rw [lfL_res (show lfL st l = true from e)]; rfl
  | _ => cases st <;> first | rfl | cases e
theorem fzL_res {h : Heap} {st : Bool} {n : Nat} : ∀ {l : List Val}, fzL st l = true → resL h st (n + 2) l = some (l, [])
  | [], _ => rfl
  | v :: l, e => by
    have e0 : fzL st (v :: l) = Bool.rec (motive := fun _ => Bool) false (fzL st l) (fzV st v) := rfl
    rw [e0] at e
    cases h1 : fzV st v with
    | false => rw [h1] at e; cases e
    | true =>
      rw [h1] at e
      have h2 := fzL_res (h := h) (n := n) (l := l) e
      show (match resV h st (n + 2) v, resL h st (n + 2) l with
        | some (y, a), some (ys, b) => some (y :: ys, a ++ b)
        | _, _ => none) = _
      rw [fzV_res h1, h2]; rfl
theorem fzL_out {st : Bool} {g : Heap} : ∀ {l : List Val} {h : Heap}, fzL st l = true → outL st g h l = some l
  | [], _, _ => rfl
  | v :: l, h, e => by
    have e0 : fzL st (v :: l) = Bool.rec (motive := fun _ => Bool) false (fzL st l) (fzV st v) := rfl
    rw [e0] at e
    cases h1 : fzV st v with
    | false => rw [h1] at e; cases e
    | true =>
      rw [h1] at e
      have h2 := fzL_out (g := g) (h := h) (l := l) e
      have h3 : resV g st deep v = some (v, []) := fzV_res (n := 62) h1
      cases v with
      | slice => cases h1
      | _ => simp only [outL, h3, h2]
def rsS (h : Heap) (st : Bool) (ih : Val → CT) (v : Val) (k : Val → List Nat → AN) : AN := CV.rec (motive := fun _ => AN) (k v [])
  (fun b o => hCells h b (fun c => goK ih c (fun l a => k (.ref l o) (b :: a))))
  (fun b o n cap ls => markK n cap ls (fun x => Bool.rec (motive := fun _ => AN) (hCells h b (fun c => natK (lenF c) (fun cl => ifB (Nat.ble o cl) (takeF (Nat.min (Nat.mul n (Nat.div (Nat.sub cl o) cap)) (Nat.sub cl o)) (drK o c) (fun l => goK ih l (fun l a => k (.list l n x) (b :: a))) .no)))) (k (.list [] (nat_lit 0) x) []) (Nat.beq n (nat_lit 0))))
  (fun b => mapB h b (fun es => goK ih (es.map (·.1)) (fun ks a => goK ih (es.map (·.2)) (fun vs c => k (.vmap ks vs) (b :: apN a c)))))
  (fun f a c => goK ih a (fun x u => goK ih c (fun y w => k (.func f x y) (apN u w))))
  (fun t x => ih x (fun y a => k (.iface t y) a))
  (fun l => goK ih l (fun l a => k (.agg l) a))
  (fun l => goK ih l (fun l a => k (.tup l) a))
  (Bool.rec (motive := fun _ => AN) (k v []) .no st) (cvC v)
def rsK (h : Heap) (st : Bool) (n : Nat) : Val → CT := Nat.rec (motive := fun _ => Val → CT) (fun _ _ => .no) (fun _ ih v k => Bool.rec (motive := fun _ => AN) (rsS h st ih v k) (k v []) (lfV st v)) n
theorem goK_inv {f : Val → CT} {g : Val → Option (Val × List Nat)} (hf : ∀ v k, f v k ≠ .no → ∃ y a, g v = some (y, a) ∧ f v k = k y a) : ∀ (l : List Val) {k : List Val → List Nat → AN}, goK f l k ≠ .no → ∃ ys az, l.foldr (fun x r => match g x, r with
      | some (y, a), some (ys, b) => some (y :: ys, a ++ b)
      | _, _ => none) (some ([], [])) = some (ys, az) ∧ goK f l k = k ys az
  | [], k, _ => ⟨[], [], rfl, rfl⟩
  | x :: l, k, h => by
    have e0 : goK f (x :: l) k = f x (fun y a => goK f l (fun ys b => k (y :: ys) (apN a b))) := rfl
    rw [e0] at h ⊢
    obtain ⟨y, a, h1, h2⟩ := hf _ _ h
    rw [h2] at h ⊢
    obtain ⟨ys, b, h3, h4⟩ := goK_inv hf l h
    refine ⟨y :: ys, a ++ b, ?_, by rw [h4, apN_eq]⟩
    rw [List.foldr_cons, h3, h1]
theorem rsK_inv (h : Heap) (st : Bool) : ∀ (n : Nat) (v : Val) (k : Val → List Nat → AN), rsK h st n v k ≠ .no → ∃ y a, resV h st n v = some (y, a) ∧ rsK h st n v k = k y a
  | 0, v, k, e => absurd rfl e
  | n + 1, v, k, e => by
    have ih := fun l (k : List Val → List Nat → AN) => goK_inv (rsK_inv h st n) l (k := k)
    have lst : ∀ l, l.foldr (fun x r => match resV h st n x, r with
      | some (y, a), some (ys, b) => some (y :: ys, a ++ b)
      | _, _ => none) (some ([], [])) = resL h st n l := fun l => rfl
    simp only [lst] at ih
    cases v with
    | ptr b o =>
      have e0 : rsK h st (n + 1) (.ptr b o) k = hCells h b (fun c => goK (rsK h st n) c (fun l a => k (.ref l o) (b :: a))) := rfl
      rw [e0] at e ⊢
      obtain ⟨c, h1, h2⟩ := hCells_inv e
      rw [h2] at e ⊢
      obtain ⟨ys, az, h3, h4⟩ := ih _ _ e
      refine ⟨_, _, ?_, h4⟩
      simp only [resV, h1]
      show (resL h st n c).map _ = _
      rw [h3]; rfl
    | slice b o len cap ls =>
      have e0 : rsK h st (n + 1) (.slice b o len cap ls) k = markK len cap ls (fun x => Bool.rec (motive := fun _ => AN) (hCells h b (fun c => natK (lenF c) (fun cl => ifB (Nat.ble o cl) (takeF (Nat.min (Nat.mul len (Nat.div (Nat.sub cl o) cap)) (Nat.sub cl o)) (drK o c) (fun l => goK (rsK h st n) l (fun l a => k (.list l len x) (b :: a))) .no)))) (k (.list [] 0 x) []) (Nat.beq len 0)) := rfl
      rw [e0, markK_eq, beq_rec] at e ⊢
      simp only [resV]
      by_cases hz : len = 0
      · rw [if_pos hz, if_pos hz]
        exact ⟨_, _, rfl, rfl⟩
      · rw [if_neg hz] at e ⊢
        rw [if_neg hz]
        obtain ⟨c, h1, h2⟩ := hCells_inv e
        rw [h2, natK_eq] at e ⊢
        rw [lenF_eq] at e ⊢
        obtain ⟨h3, h4⟩ := ble_inv e
        rw [h4] at e ⊢
        obtain ⟨h5, h6⟩ := takeF_inv e
        rw [h6] at e ⊢
        obtain ⟨ys, az, h7, h8⟩ := ih _ _ e
        refine ⟨_, _, ?_, h8⟩
        rw [h1]
        simp only
        rw [if_pos h3]
        have e9 : (c.drop o).take (len * ((c.length - o) / cap)) = (drK o c).take (Nat.min (Nat.mul len (Nat.div (Nat.sub c.length o) cap)) (Nat.sub c.length o)) := by
          rw [drK_eq]
          show _ = (c.drop o).take (min (len * ((c.length - o) / cap)) (c.length - o))
          have : c.length - o = (c.drop o).length := (List.length_drop ..).symm
          rw [this]
          generalize len * ((c.drop o).length / cap) = z
          rcases Nat.le_total z (c.drop o).length with q | q
          · rw [Nat.min_eq_left q]
          · rw [Nat.min_eq_right q, List.take_length, List.take_of_length_le q]
        rw [← e9] at h7
        show (resL h st n _).map _ = _
        rw [h7]; rfl
    | map b =>
      have e0 : rsK h st (n + 1) (.map b) k = mapB h b (fun es => goK (rsK h st n) (es.map (·.1)) (fun ks a => goK (rsK h st n) (es.map (·.2)) (fun vs c => k (.vmap ks vs) (b :: apN a c)))) := rfl
      rw [e0] at e ⊢
      unfold mapB at e ⊢
      simp only [resV]
      split at e
      · rename_i es h1
        rw [h1]
        simp only
        simp only at e
        obtain ⟨ks, a, h3, h4⟩ := ih _ _ e
        rw [h4] at e ⊢
        obtain ⟨vs, c, h5, h6⟩ := ih _ _ e
        rw [h6, apN_eq]
        refine ⟨.vmap ks vs, b :: (a ++ c), ?_, rfl⟩
        show (match resL h st n (es.map (·.1)), resL h st n (es.map (·.2)) with
          | some ks, some vs => some (Val.vmap ks.1 vs.1, b :: (ks.2 ++ vs.2))
          | _, _ => none) = _
        rw [h3, h5]
      · exact absurd rfl e
    | func f x y =>
      have e0 : rsK h st (n + 1) (.func f x y) k = goK (rsK h st n) x (fun x u => goK (rsK h st n) y (fun y w => k (.func f x y) (apN u w))) := rfl
      rw [e0] at e ⊢
      obtain ⟨xs, a, h3, h4⟩ := ih _ _ e
      rw [h4] at e ⊢
      obtain ⟨ys, c, h5, h6⟩ := ih _ _ e
      rw [h6, apN_eq]
      refine ⟨_, _, ?_, rfl⟩
      show (match resL h st n x, resL h st n y with
        | some x, some y => some (Val.func f x.1 y.1, x.2 ++ y.2)
        | _, _ => none) = _
      rw [h3, h5]
    | iface t x =>
      have e0 : rsK h st (n + 1) (.iface t x) k = rsK h st n x (fun y a => k (.iface t y) a) := rfl
      rw [e0] at e ⊢
      obtain ⟨y, a, h3, h4⟩ := rsK_inv h st n _ _ e
      exact ⟨_, _, by simp only [resV, h3]; rfl, h4⟩
    | agg l =>
      have e0 : rsK h st (n + 1) (.agg l) k = goK (rsK h st n) l (fun l a => k (.agg l) a) := rfl
      rw [e0] at e ⊢
      obtain ⟨ys, az, h3, h4⟩ := ih _ _ e
      refine ⟨_, _, ?_, h4⟩
      show (resL h st n l).map _ = _
      rw [h3]; rfl
    | tup l =>
      have e0 : rsK h st (n + 1) (.tup l) k = goK (rsK h st n) l (fun l a => k (.tup l) a) := rfl
      rw [e0] at e ⊢
      obtain ⟨ys, az, h3, h4⟩ := ih _ _ e
      refine ⟨_, _, ?_, h4⟩
      show (resL h st n l).map _ = _
      rw [h3]; rfl
    | ref c o => cases st <;> first | exact ⟨_, _, rfl, rfl⟩ | exact absurd rfl e
    | list c a b => cases st <;> first | exact ⟨_, _, rfl, rfl⟩ | exact absurd rfl e
    | vmap a b => cases st <;> first | exact ⟨_, _, rfl, rfl⟩ | exact absurd rfl e
    | _ => exact ⟨_, _, rfl, rfl⟩
def resK (h : Heap) (st : Bool) (l : List Val) (k : List Val → List Nat → AN) : AN := Bool.rec (motive := fun _ => AN) (goK (rsK h st (nat_lit 64)) l k) (k l []) (fzL st l)
theorem resK_inv {h : Heap} {st : Bool} {l : List Val} {k : List Val → List Nat → AN} (e : resK h st l k ≠ .no) : ∃ a u, resL h st deep l = some (a, u) ∧ resK h st l k = k a u := by
  unfold resK at e ⊢
  cases h1 : fzL st l with
  | false =>
    rw [h1] at e
    exact goK_inv (rsK_inv h st 64) l e
  | true => exact ⟨l, [], fzL_res (n := 62) h1, rfl⟩
inductive FR where
  | y (b n cap l : Nat)
  | z
def frC : Val → FR := Val.rec (motive_1 := fun _ => FR) (motive_2 := fun _ => Unit) .z (fun _ => .z) (fun _ _ => .z) (fun _ => .z) .z (fun _ _ => .z) .z (fun b o n cap ls => Nat.rec (motive := fun _ => FR) (Nat.rec (motive := fun _ => FR) .z (fun l _ => .y b n cap l) ls) (fun _ _ => .z) o) .z (fun _ => .z) .z (fun _ _ _ _ _ => .z) .z (fun _ _ _ => .z) (fun _ _ => .z) (fun _ _ => .z) (fun _ _ _ => .z) (fun _ _ _ _ => .z) (fun _ _ _ _ => .z) .z .z () (fun _ _ _ _ => ())
def freshK (v : Val) (k : Nat → Nat → Nat → Nat → AN) (d : AN) : AN := FR.rec (motive := fun _ => AN) k d (frC v)
def wthK (h : Heap) (l : List Val) : (Heap → AN) → AN := List.rec (motive := fun _ => Heap → (Heap → AN) → AN) (fun h k => k h) (fun v _ ih h k => freshK v (fun b _ _ _ => putK h b none (fun h => ih h k)) (ih h k)) l h
theorem wthK_eq : ∀ (l : List Val) (h : Heap) (k : Heap → AN), wthK h l k = k (without h (newOf l))
  | [], h, k => rfl
  | v :: l, h, k => by
    have ih := wthK_eq l
    have e0 : wthK h (v :: l) k = freshK v (fun b _ _ _ => putK h b none (fun h => wthK h l k)) (wthK h l k) := rfl
    rw [e0]
    cases v with
    | slice b o n cap ls =>
      cases o with
      | zero =>
        cases ls with
        | zero => exact ih h k
        | succ ls =>
          have e1 : freshK (.slice b 0 n cap (ls + 1)) (fun b _ _ _ => putK h b none (fun h => wthK h l k)) (wthK h l k) = putK h b none (fun h => wthK h l k) := rfl
          rw [e1, putK_eq, ih]
          rfl
      | succ o => exact ih h k
    | _ => exact ih h k
def outFK (st : Bool) (g : Heap) (l : List Val) : Heap → (List Val → AN) → AN := List.rec (motive := fun _ => Heap → (List Val → AN) → AN) (fun _ k => k []) (fun v _ ih h k => freshK v (fun b n cap ls => ifB (Nat.beq cap n) (ifB (Nat.ble (nat_lit 1) n) (hCells h b (fun c => resK g st c (fun q _ => putK h b none (fun h => ih h (fun l => natK (Nat.add (Nat.mul (nat_lit 2) (Nat.succ ls)) (nat_lit 1)) (fun x => k (.list q n x :: l))))))))) (rsK g st (nat_lit 64) v (fun y _ => ih h (fun l => k (y :: l))))) l
theorem outFK_inv {st : Bool} {g : Heap} : ∀ (l : List Val) {h : Heap} {k : List Val → AN}, outFK st g l h k ≠ .no → ∃ r, outL st g h l = some r ∧ outFK st g l h k = k r
  | [], h, k, _ => ⟨[], rfl, rfl⟩
  | v :: l, h, k, e => by
    have e0 : outFK st g (v :: l) h k = freshK v (fun b n cap ls => ifB (Nat.beq cap n) (ifB (Nat.ble 1 n) (hCells h b (fun c => resK g st c (fun q _ => putK h b none (fun h => outFK st g l h (fun l => natK (Nat.add (Nat.mul 2 (Nat.succ ls)) 1) (fun x => k (.list q n x :: l))))))))) (rsK g st 64 v (fun y _ => outFK st g l h (fun l => k (y :: l)))) := rfl
    rw [e0] at e ⊢
    have other : outL st g h (v :: l) = (match resV g st deep v, outL st g h l with
      | some (y, _), some l => some (y :: l)
      | _, _ => none) → freshK v (fun b n cap ls => ifB (Nat.beq cap n) (ifB (Nat.ble 1 n) (hCells h b (fun c => resK g st c (fun q _ => putK h b none (fun h => outFK st g l h (fun l => natK (Nat.add (Nat.mul 2 (Nat.succ ls)) 1) (fun x => k (.list q n x :: l))))))))) (rsK g st 64 v (fun y _ => outFK st g l h (fun l => k (y :: l)))) = rsK g st 64 v (fun y _ => outFK st g l h (fun l => k (y :: l))) → ∃ r, outL st g h (v :: l) = some r ∧ freshK v (fun b n cap ls => ifB (Nat.beq cap n) (ifB (Nat.ble 1 n) (hCells h b (fun c => resK g st c (fun q _ => putK h b none (fun h => outFK st g l h (fun l => natK (Nat.add (Nat.mul 2 (Nat.succ ls)) 1) (fun x => k (.list q n x :: l))))))))) (rsK g st 64 v (fun y _ => outFK st g l h (fun l => k (y :: l)))) = k r := by
      intro q1 q2
      rw [q2] at e ⊢
      obtain ⟨y, a, h1, h2⟩ := rsK_inv g st 64 v _ e
      rw [h2] at e ⊢
      obtain ⟨r, h3, h4⟩ := outFK_inv l e
      refine ⟨y :: r, ?_, h4⟩
      rw [q1, show resV g st deep v = some (y, a) from h1, h3]
    cases v with
    | slice b o n cap ls =>
      cases o with
      | succ o => exact other rfl rfl
      | zero =>
        cases ls with
        | zero => exact other rfl rfl
        | succ ls =>
          have e1 : freshK (.slice b 0 n cap (ls + 1)) (fun b n cap ls => ifB (Nat.beq cap n) (ifB (Nat.ble 1 n) (hCells h b (fun c => resK g st c (fun q _ => putK h b none (fun h => outFK st g l h (fun l => natK (Nat.add (Nat.mul 2 (Nat.succ ls)) 1) (fun x => k (.list q n x :: l))))))))) (rsK g st 64 (.slice b 0 n cap (ls + 1)) (fun y _ => outFK st g l h (fun l => k (y :: l)))) = ifB (Nat.beq cap n) (ifB (Nat.ble 1 n) (hCells h b (fun c => resK g st c (fun q _ => putK h b none (fun h => outFK st g l h (fun l => natK (Nat.add (Nat.mul 2 (Nat.succ ls)) 1) (fun x => k (.list q n x :: l)))))))) := rfl
          rw [e1] at e ⊢
          obtain ⟨h1, h2⟩ := beq_inv e
          rw [h2] at e ⊢
          obtain ⟨h3, h4⟩ := ble_inv e
          rw [h4] at e ⊢
          obtain ⟨c, h5, h6⟩ := hCells_inv e
          rw [h6] at e ⊢
          obtain ⟨q, u, h7, h8⟩ := resK_inv e
          rw [h8, putK_eq] at e ⊢
          obtain ⟨r, h9, h10⟩ := outFK_inv l e
          refine ⟨.list q n (2 * (ls + 1) + 1) :: r, ?_, by rw [h10, natK_eq]; rfl⟩
          simp only [outL]
          rw [if_pos ⟨h1, by omega⟩, h5]
          simp only [h7, h9]
    | _ => exact other rfl rfl
def outK (st : Bool) (h : Heap) (l : List Val) (k : List Val → AN) : AN := Bool.rec (motive := fun _ => AN) (wthK h l (fun g => outFK st g l h k)) (k l) (fzL st l)
theorem outK_inv {st : Bool} {h : Heap} {l : List Val} {k : List Val → AN} (e : outK st h l k ≠ .no) : ∃ r, outO st h l = some r ∧ outK st h l k = k r := by
  unfold outK at e ⊢
  cases h1 : fzL st l with
  | false =>
    rw [h1] at e
    have e' : wthK h l (fun g => outFK st g l h k) ≠ .no := e
    show ∃ r, _ ∧ wthK h l (fun g => outFK st g l h k) = k r
    rw [wthK_eq] at e' ⊢
    exact outFK_inv l e'
  | true => exact ⟨l, by unfold outO; exact fzL_out h1, rfl⟩
inductive IN where
  | y (c : List Val) (n x : Nat)
  | z
def inC : Val → IN := Val.rec (motive_1 := fun _ => IN) (motive_2 := fun _ => Unit) .z (fun _ => .z) (fun _ _ => .z) (fun _ => .z) .z (fun _ _ => .z) .z (fun _ _ _ _ _ => .z) .z (fun _ => .z) .z (fun _ _ _ _ _ => .z) .z (fun _ _ _ => .z) (fun _ _ => .z) (fun _ _ => .z) (fun _ _ _ => .z) (fun c n x _ => Bool.rec (motive := fun _ => IN) .z (.y c n x) (Bool.rec (motive := fun _ => Bool) false (Bool.rec (motive := fun _ => Bool) true false (Nat.beq x (nat_lit 1))) (Nat.beq (Nat.mod x (nat_lit 2)) (nat_lit 1)))) (fun _ _ _ _ => .z) .z .z () (fun _ _ _ _ => ())
def inS (l : List Val) : Heap → (List Val → Heap → AN) → AN := List.rec (motive := fun _ => Heap → (List Val → Heap → AN) → AN) (fun h k => k [] h) (fun v _ ih h k => IN.rec (motive := fun _ => AN) (fun c n x => newK h (.cells c) (fun b h => ih h (fun l h => natK (Nat.div x (nat_lit 2)) (fun ls => k (.slice b (nat_lit 0) n n ls :: l) h)))) (ih h (fun l h => k (v :: l) h)) (inC v)) l
theorem inS_eq : ∀ (l : List Val) (h : Heap) (k : List Val → Heap → AN), inS l h k = k (inL h l).1 (inL h l).2
  | [], h, k => rfl
  | v :: l, h, k => by
    have ih := inS_eq l
    cases v with
    | list c n x =>
      have e0 : inS (.list c n x :: l) h k = IN.rec (motive := fun _ => AN) (fun c n x => newK h (.cells c) (fun b h => inS l h (fun l h => natK (Nat.div x 2) (fun ls => k (.slice b 0 n n ls :: l) h)))) (inS l h (fun l h => k (.list c n x :: l) h)) (Bool.rec (motive := fun _ => IN) .z (.y c n x) (Bool.rec (motive := fun _ => Bool) false (Bool.rec (motive := fun _ => Bool) true false (Nat.beq x 1)) (Nat.beq (Nat.mod x 2) 1))) := rfl
      rw [e0, beq_rec, beq_rec]
      simp only [inL]
      by_cases h1 : x % 2 = 1
      · by_cases h2 : x = 1
        · rw [if_pos (show Nat.mod x 2 = 1 from h1), if_pos h2, if_neg (by simp [h2])]
          exact ih h _
        · rw [if_pos (show Nat.mod x 2 = 1 from h1), if_neg h2, if_pos ⟨h1, h2⟩]
          show newK h (.cells c) (fun b h => inS l h (fun l h => natK (Nat.div x 2) (fun ls => k (.slice b 0 n n ls :: l) h))) = _
          rw [newK_eq, ih, natK_eq]
          rfl
      · rw [if_neg (show ¬ Nat.mod x 2 = 1 from h1), if_neg (by simp [h1])]
        exact ih h _
    | _ => exact ih h _
def plL : List Val → Bool := List.rec (motive := fun _ => Bool) true (fun v _ ih => IN.rec (motive := fun _ => Bool) (fun _ _ _ => false) ih (inC v))
theorem plL_in : ∀ {l : List Val} {h : Heap}, plL l = true → inL h l = (l, h)
  | [], _, _ => rfl
  | v :: l, h, e => by
    have e0 : plL (v :: l) = IN.rec (motive := fun _ => Bool) (fun _ _ _ => false) (plL l) (inC v) := rfl
    rw [e0] at e
    cases v with
    | list c n x =>
      have e1 : inC (.list c n x) = Bool.rec (motive := fun _ => IN) .z (.y c n x) (Bool.rec (motive := fun _ => Bool) false (Bool.rec (motive := fun _ => Bool) true false (Nat.beq x 1)) (Nat.beq (Nat.mod x 2) 1)) := rfl
      rw [e1, beq_rec, beq_rec] at e
      simp only [inL]
      by_cases h1 : x % 2 = 1
      · by_cases h2 : x = 1
        · rw [if_pos (show Nat.mod x 2 = 1 from h1), if_pos h2] at e
          rw [if_neg (by simp [h2]), plL_in (show plL l = true from e)]
        · rw [if_pos (show Nat.mod x 2 = 1 from h1), if_neg h2] at e
          cases e
      · rw [if_neg (show ¬ Nat.mod x 2 = 1 from h1)] at e
        rw [if_neg (by simp [h1]), plL_in (show plL l = true from e)]
    | _ => simp only [inL, plL_in (show plL l = true from e)]
def inK (l : List Val) (h : Heap) (k : List Val → Heap → AN) : AN := Bool.rec (motive := fun _ => AN) (inS l h k) (k l h) (plL l)
theorem inK_eq (l : List Val) (h : Heap) (k : List Val → Heap → AN) : inK l h k = k (inL h l).1 (inL h l).2 := by
  unfold inK
  cases e : plL l with
  | false => exact inS_eq l h k
  | true => rw [plL_in e]
def drpK (u : List Nat) : Heap → (Heap → AN) → AN := List.rec (motive := fun _ => Heap → (Heap → AN) → AN) (fun h k => k h) (fun b _ ih h k => ifB (Nat.ble h.floor b) (putK h b none (fun h => ih h k))) u
theorem drpK_inv : ∀ (u : List Nat) {h : Heap} {k : Heap → AN}, drpK u h k ≠ .no → ∃ h', drops h u = some h' ∧ drpK u h k = k h'
  | [], h, k, _ => ⟨h, rfl, rfl⟩
  | b :: u, h, k, e => by
    have e0 : drpK (b :: u) h k = ifB (Nat.ble h.floor b) (putK h b none (fun h => drpK u h k)) := rfl
    rw [e0] at e ⊢
    obtain ⟨h1, h2⟩ := ble_inv e
    rw [h2, putK_eq] at e ⊢
    obtain ⟨h', h3, h4⟩ := drpK_inv u e
    exact ⟨h', by simp only [drops]; rw [if_pos h1]; exact h3, h4⟩
def resR (l : List Val) : Val := List.rec (motive := fun _ => Val) (.tup l) (fun v t _ => List.rec (motive := fun _ => Val) v (fun _ _ _ => .tup l) t) l
theorem resR_eq : ∀ l : List Val, resR l = resultOf l
  | [] => rfl
  | [_] => rfl
  | _ :: _ :: _ => rfl
def otcK (st : Bool) (l : List Val) (p : Heap) (u : List Nat) (k : Val → Heap → AN) : AN := Bool.rec (motive := fun _ => AN) (drpK u p (fun p => inK l p (fun l p => k (resR l) p))) (inK l p (fun l p => k (resR l) p)) st
theorem otcK_inv {st : Bool} {l : List Val} {p : Heap} {u : List Nat} {k : Val → Heap → AN} (e : otcK st l p u k ≠ .no) : ∃ v p', outcome st l p u = some (v, p') ∧ otcK st l p u k = k v p' := by
  cases st with
  | true =>
    have e0 : otcK true l p u k = inK l p (fun l p => k (resR l) p) := rfl
    rw [e0, inK_eq, resR_eq]
    exact ⟨_, _, rfl, rfl⟩
  | false =>
    have e0 : otcK false l p u k = drpK u p (fun p => inK l p (fun l p => k (resR l) p)) := rfl
    rw [e0] at e ⊢
    obtain ⟨p1, h1, h2⟩ := drpK_inv u e
    rw [h2, inK_eq, resR_eq]
    refine ⟨_, _, ?_, rfl⟩
    simp only [outcome, Bool.false_eq_true, if_false, h1]
def hd (l : List Val) (k : Val → List Val → AN) : AN := List.rec (motive := fun _ => AN) .no (fun v t _ => k v t) l
def nl (l : List Val) (k : AN) : AN := List.rec (motive := fun _ => AN) k (fun _ _ _ => .no) l
def psL (ps : List Nat) : List Val → List (Nat × Val) → (List (Nat × Val) → AN) → AN := List.rec (motive := fun _ => List Val → List (Nat × Val) → (List (Nat × Val) → AN) → AN) (fun vals env k => nl vals (k env)) (fun t _ ih vals env k => hd vals (fun v r => ih r ((t, v) :: env) k)) ps
theorem psL_agree : ∀ (ps : List Nat) (vals : List Val) (env : List (Nat × Val)) {k : List (Nat × Val) → AN}, psL ps vals env k ≠ .no → ∃ env', psL ps vals env k = k env' ∧ (∀ t, t ∉ ps → lk t env' = lk t env) ∧ vals.length = ps.length ∧ ∀ N, setAll (V.mk N env) (ps.zip vals) = V.mk N env'
  | [], [], env, k, _ => ⟨env, rfl, fun _ _ => rfl, rfl, fun _ => rfl⟩
  | [], _ :: _, env, k, h => absurd rfl h
  | t :: ps, [], env, k, h => absurd rfl h
  | t :: ps, v :: vals, env, k, h => by
    have e0 : psL (t :: ps) (v :: vals) env k = psL ps vals ((t, v) :: env) k := rfl
    rw [e0] at h ⊢
    obtain ⟨env', h2, h3, h5, h4⟩ := psL_agree ps vals ((t, v) :: env) h
    refine ⟨env', h2, fun t' ht => ?_, by simp [h5], fun N => ?_⟩
    · rw [h3 t' (fun q => ht (List.mem_cons_of_mem _ q)), lk, if_neg (fun q => ht (by rw [q]; exact List.mem_cons_self ..))]
    · rw [List.zip_cons_cons, setAll, mk_set]
      exact h4 N
theorem set_self (l : List Val) (t : Nat) (d : Val) : l.set t (l.getD t d) = l := by
  apply List.ext_getElem?
  intro i
  rw [List.getElem?_set]
  split
  · rename_i h
    subst h
    split
    · rename_i h
      rw [List.getD_eq_getElem?_getD, List.getElem?_eq_getElem h]; rfl
    · rename_i h
      rw [List.getElem?_eq_none (Nat.not_lt.1 h)]
  · rfl
theorem setAll_self (fr : List Val) : ∀ D : List Nat, setAll fr (D.zip (evs fr (D.map Opd.t))) = fr
  | [] => rfl
  | t :: D => by
    show setAll (fr.set t (fr.getD t .undef)) (D.zip (evs fr (D.map Opd.t))) = fr
    rw [set_self]
    exact setAll_self fr D
theorem HR.frz {p h : Heap} {F : Nat → Prop} {σ : Sg} (hr : HR p h F σ) {vals vals' q : List Val} {u : List Nat} {p2 : Heap} (ha : Rs h F σ vals vals') (e : resL p false deep vals = some (q, u)) (d : drops p u = some p2) :
    ∃ G, Sim p h F σ p2 h G σ ∧ Rs h G σ q vals' := by
  have hrl := resL_rel (resV_rel hr deep) vals vals' q u e ha
  have dg := drops_get u d
  have hx : HExt p p2 := .drops d
  have dn : ∀ (l : List Nat) {h h' : Heap}, drops h l = some h' → h'.next = h.next := by
    intro l
    induction l with
    | nil => intro h h' e; cases e; rfl
    | cons a r ih =>
      intro h h' e
      simp only [drops] at e
      split at e
      · exact ih (h := h.put a Option.none) e
      · cases e
  have hsub : ∀ b k, p2.t.get b = some k → p.t.get b = some k := fun b k hk => by
    rw [dg] at hk
    split at hk
    · cases hk
    · exact hk
  have hl : HR p2 h F σ := hr.less hsub hx.hid (dn u d) hx.floor
  have fx : Fix h h F (fun b => F b ∨ ∃ a ∈ u, σ a = some b) := ⟨fun _ x => .inl x, fun _ _ => rfl, fun _ _ x => x⟩
  refine ⟨fun b => F b ∨ ∃ a ∈ u, σ a = some b, ⟨⟨?_, ?_, hl.inj, hl.dom, hl.vis, hl.flo, ?_, hl.plow, hl.hhid, hl.hflo⟩, .refl _, fx, fun _ _ _ => rfl, ?_, fun _ _ x => .inl x, hx, .refl _, fun a b e => (hr.dom a b e).1⟩, ?_⟩
  · intro b k hk
    obtain ⟨c', k', g1, g2, g3⟩ := hl.blk b k hk
    refine ⟨c', k', g1, g2, ?_⟩
    rintro (z | ⟨a, ha2, z⟩)
    · exact g3 z
    · have := hr.inj _ _ _ g1 z
      subst this
      rw [dg, if_pos ha2] at hk
      cases hk
  · intro b k hk
    obtain ⟨c', k', g1, g2, g3⟩ := hl.rel b k hk
    exact ⟨c', k', g1, g2, g3.mono fx (.refl _)⟩
  · rintro b (z | ⟨a, _, z⟩)
    · exact hr.fro b z
    · exact (hr.dom _ _ z).2
  · rintro b (z | ⟨a, ha2, z⟩)
    · exact .inl z
    · refine .inr (.inr ⟨a, z, ?_, by rw [dg, if_pos ha2]⟩)
      obtain ⟨k, hk⟩ := Option.isSome_iff_exists.1 (hrl.1 a ha2)
      rw [Heap.get_t hk]; simp
  · exact Rs.mono (.refl _ _) (Sg.none_le σ) _ _ (hrl.2 _ (fun _ b hb => .inl hb) (fun a ha2 b hs => .inr ⟨a, ha2, hs⟩))
def frX (D : List Nat) (N : Nat) (env : List (Nat × Val)) (p : Heap) (K : List (Nat × Val) → Heap → AN) : AN := resK p false (evsE N env (D.map Opd.t)) (fun q u => drpK u p (fun p2 => psL D q env (fun env' => K env' p2)))
theorem frX_ok {D : List Nat} {N : Nat} {env : List (Nat × Val)} {p : Heap} {K : List (Nat × Val) → Heap → AN} (h : frX D N env p K ≠ .no) : ∃ env' p', Agree D env env' ∧ frX D N env p K = K env' p' ∧ ∀ (h : Heap) (F : Nat → Prop) (σ : Sg) (fr' : List Val), HR p h F σ → Rs h F σ (V.mk N env) fr' → ∃ G, Sim p h F σ p' h G σ ∧ Rs h G σ (V.mk N env') fr' := by
  unfold frX at h ⊢
  obtain ⟨q, u, h1, h2⟩ := resK_inv h
  rw [h2] at h ⊢
  obtain ⟨p2, h3, h4⟩ := drpK_inv u h
  rw [h4] at h ⊢
  obtain ⟨env', h5, h6, h7, h8⟩ := psL_agree D q env h
  refine ⟨env', p2, h6, h5, fun h F σ fr' hr hf => ?_⟩
  rw [evsE_eq] at h1
  obtain ⟨G, s, r⟩ := hr.frz (hf.evs (xs := D.map Opd.t) (by simp [Opd.ok])) h1 h3
  refine ⟨G, s, ?_⟩
  have := setAllR D r (s.rs hf)
  rw [setAll_self, h8] at this
  exact this
end
end Go.V
end

section
set_option linter.unusedVariables false
set_option linter.unusedSimpArgs false
set_option linter.unusedSectionVars false
namespace Go.V
noncomputable section
inductive AC where
  | skip
  | reg (Gs : List Gp)
  | drw (Gs : List Gp)
  | seq (a b : AC)
  | cnd (c : Opd) (J : Option (List Nat)) (a b : AC)
  | blk (id : Nat) (J : Option (List Nat)) (a : AC)
  | lop (L : List Nat) (a : AC)
  | exi (id : Nat)
  | ret
  | rng (x : Opd) (r : Nat) (L I ps : List Nat) (a b : VC)
  | fz (D : List Nat) (a : AC)
def AC.vc : AC → VC
  | .skip => .skip
  | .reg Gs => .region (opsG Gs)
  | .drw Gs => .draw (opsG Gs)
  | .seq a b => .seq a.vc b.vc
  | .cnd c _ a b => .cond c a.vc b.vc
  | .blk id _ a => .block id a.vc
  | .lop _ a => .loop a.vc
  | .exi id => .exit id
  | .ret => .ret
  | .rng x r _ _ ps a b => .range x r ps a b
  | .fz _ a => a.vc
def AC.ok : AC → Bool
  | .reg Gs => Gs.all Gp.ok
  | .drw Gs => drawOkL (opsG Gs) && Gs.all Gp.gok
  | .seq a b => a.ok && b.ok
  | .cnd c _ a b => c.ok && (a.ok && b.ok)
  | .blk _ _ a | .lop _ a | .fz _ a => a.ok
  | .rng x _ _ _ _ _ _ => x.ok
  | _ => true
def AC.asg : AC → List Nat
  | .reg Gs | .drw Gs => dsts (opsG Gs)
  | .seq a b | .cnd _ _ a b => a.asg ++ b.asg
  | .blk _ _ a | .lop _ a => a.asg
  | .fz D a => D ++ a.asg
  | _ => []
def memB (t : Nat) (l : List Nat) : Bool := List.rec (motive := fun _ => Bool) false (fun d _ ih => Bool.rec (motive := fun _ => Bool) ih true (Nat.beq t d)) l
theorem memB_iff (t : Nat) : ∀ l : List Nat, memB t l = true ↔ t ∈ l
  | [] => ⟨fun h => (by cases h), fun h => (by cases h)⟩
  | d :: l => by
    have ih := memB_iff t l
    have e0 : memB t (d :: l) = Bool.rec (motive := fun _ => Bool) (memB t l) true (Nat.beq t d) := rfl
    rw [e0, beq_rec]
    by_cases h : t = d
    · rw [if_pos h]; simp [h]
    · rw [if_neg h, ih]; simp [h]
def killE (A : List Nat) (env : List (Nat × Val)) : List (Nat × Val) := List.rec (motive := fun _ => List (Nat × Val)) [] (fun x _ ih => Bool.rec (motive := fun _ => List (Nat × Val)) (x :: ih) ih (memB x.1 A)) env
theorem lk_kill (A : List Nat) (t : Nat) : ∀ env : List (Nat × Val), lk t (killE A env) = if t ∈ A then .junk else lk t env
  | [] => by
    show lk t [] = _
    simp [lk]
  | (d, v) :: r => by
    have ih := lk_kill A t r
    have e0 : killE A ((d, v) :: r) = Bool.rec (motive := fun _ => List (Nat × Val)) ((d, v) :: killE A r) (killE A r) (memB d A) := rfl
    rw [e0]
    cases hm : memB d A with
    | true =>
      show lk t (killE A r) = _
      rw [ih]
      by_cases ht : t ∈ A
      · rw [if_pos ht, if_pos ht]
      · rw [if_neg ht, if_neg ht, lk, if_neg (by rintro rfl; exact ht ((memB_iff t A).1 hm))]
    | false =>
      show lk t ((d, v) :: killE A r) = _
      rw [lk, ih, lk]
      by_cases hd : t = d
      · subst hd
        have : ¬ t ∈ A := fun q => by rw [(memB_iff t A).2 q] at hm; cases hm
        rw [if_pos rfl, if_neg this, if_pos rfl]
      · rw [if_neg hd, if_neg hd]
def aftE (J A : List Nat) (vals env : List (Nat × Val)) : List (Nat × Val) := apE vals (killE A env)
theorem aft_weak {J A : List Nat} {env env' : List (Nat × Val)} (ha : Agree A env env') (t : Nat) : lk t (aftE J A (zipE J env') env) = .junk ∨ lk t (aftE J A (zipE J env') env) = lk t env' := by
  unfold aftE
  rw [apE_eq, lk_app, zip_keys, lk_kill]
  by_cases h : t ∈ J
  · rw [if_pos h, lk_zip J env' h]; exact .inr rfl
  · rw [if_neg h]
    by_cases h2 : t ∈ A
    · rw [if_pos h2]; exact .inl rfl
    · rw [if_neg h2]; exact .inr (ha t h2).symm
theorem aft_agree {J A : List Nat} {env env' : List (Nat × Val)} (hJ : ∀ t ∈ J, t ∈ A) : Agree A env (aftE J A (zipE J env') env) := by
  intro t h
  unfold aftE
  rw [apE_eq, lk_app, zip_keys, if_neg (fun q => h (hJ t q)), lk_kill, if_neg h]
def subB (J A : List Nat) : Bool := J.all fun t => memB t A
theorem subB_spec {J A : List Nat} (h : subB J A = true) : ∀ t ∈ J, t ∈ A := fun t ht => (memB_iff t A).1 (List.all_eq_true.1 h t ht)
def kif (c : Val) (a b : AN) : AN := boolK c (fun t => Bool.rec (motive := fun _ => AN) b a t)
theorem kif_inv {c : Val} {a b : AN} (h : kif c a b ≠ .no) : ∃ t, c = .bool t ∧ kif c a b = if t = true then a else b := by
  unfold kif at h ⊢
  obtain ⟨t, e1, e2⟩ := boolK_inv h
  refine ⟨t, e1, ?_⟩
  rw [e2]
  cases t <;> rfl
def botF (n : Nat) : FnT n := Nat.rec (motive := fun n => FnT n) (fun _ => .no) (fun _ ih _ => ih) n
def lp (n fu : Nat) (body : FnT n → FnT n) : FnT n := Nat.rec (motive := fun _ => FnT n) (botF n) (fun _ ih => body ih) fu
def rndK (h : Heap) (b : Nat) (k : Nat → AN) : AN := Heap.rec (motive := fun _ => AN) (fun _ t hid _ _ => Bool.rec (motive := fun _ => AN) (Option.rec (motive := fun _ => AN) .no (fun x => Blk.rec (motive := fun _ => AN) n1 n1 k x) (trGet t b)) .no (hidF b hid)) h
theorem rndK_inv {h : Heap} {b : Nat} {k : Nat → AN} (e : rndK h b k ≠ .no) : ∃ st, h.get b = some (.rnd st) ∧ rndK h b k = k st := by
  cases h with
  | mk next t hid floor base =>
    have e0 : rndK ⟨next, t, hid, floor, base⟩ b k = Bool.rec (motive := fun _ => AN) (Option.rec (motive := fun _ => AN) .no (fun x => Blk.rec (motive := fun _ => AN) n1 n1 k x) (trGet t b)) .no (hidF b hid) := rfl
    rw [e0, trGet_eq, hidF_eq] at e ⊢
    unfold Heap.get Heap.hidden
    simp only
    cases hh : hid.any fun r => r.1 ≤ b && b < r.2
    · rw [hh] at e
      simp only [Bool.false_eq_true, if_false] at e ⊢
      cases hb : t.get b with
      | none => rw [hb] at e; exact absurd rfl e
      | some x =>
        rw [hb] at e
        cases x with
        | rnd st => exact ⟨st, rfl, rfl⟩
        | _ => exact absurd rfl e
    · rw [hh] at e; exact absurd rfl e
def exL (i : Nat) (exs : List (Nat × (Heap → AN))) (p : Heap) : AN := List.rec (motive := fun _ => AN) .no (fun e _ ih => Bool.rec (motive := fun _ => AN) ih (e.2 p) (Nat.beq i e.1)) exs
def exS (st : Nat) (nor ret : Heap → AN) (exs : List (Nat × (Heap → AN))) (p : Heap) : AN := Nat.rec (motive := fun _ => AN) (nor p) (fun m _ => Nat.rec (motive := fun _ => AN) .no (fun m _ => Nat.rec (motive := fun _ => AN) (ret p) (fun i _ => exL i exs p) m) m) st
def krg (T : List Ce) (p : Heap) (r : Nat) (x : Val) (fr : List Val) (nor ret : Heap → AN) (exs : List (Nat × (Heap → AN))) : AN := fnK x (fun fn a c => match fn with
  | .func g => newK p (.rnd (nat_lit 0)) (fun j p1 => catK a (.func (.yield r) fr [.ptr j (nat_lit 0)] :: c) (fun l => (getC g T).c p1 l (fun _ p2 => ifB (Nat.ble p2.floor j) (rndK p2 j (fun st => putK p2 j (some (.rnd (nat_lit 1))) (fun p3 => exS st nor ret exs p3))))))
  | _ => .no)
abbrev EK := Ex → List (Nat × Val) → Heap → AN
section
variable (m : TypeId → Val → String → Option (FuncId × Val)) (T : List Ce) (N fu : Nat)
abbrev exK (nor : List (Nat × Val) → Heap → AN) (K : EK) : EK := fun ex env p => Ex.rec (motive := fun _ => AN) (nor env p) (fun i => K (.exit i) env p) (K .ret env p) ex
abbrev blkK (id : Nat) (nor : List (Nat × Val) → Heap → AN) (K : EK) : EK := fun ex env p => Ex.rec (motive := fun _ => AN) (nor env p) (fun i => Bool.rec (motive := fun _ => AN) (K (.exit i) env p) (nor env p) (Nat.beq i id)) (K .ret env p) ex
def jnX (J A : List Nat) (env : List (Nat × Val)) (K : EK) (F : (List (Nat × Val) → Heap → AN) → AN) : AN := ifS (subB J A) (jn J.length (fun j => F (fun env p => appL J j env p)) (lamL J (fun vals p => K .normal (aftE J A vals env) p)))
def zipX (L : List Nat) (env : List (Nat × Val)) : List (Nat × Val) := List.rec (motive := fun _ => List (Nat × Val)) [] (fun t _ ih => (t, lkF t env) :: ih) L
def exsX (I : List Nat) (env : List (Nat × Val)) (K : EK) : List (Nat × (Heap → AN)) := List.rec (motive := fun _ => List (Nat × (Heap → AN))) [] (fun i _ ih => (i, fun p => K (.exit i) env p) :: ih) I
def X (c : AC) : List (Nat × Val) → Heap → EK → AN := AC.rec (motive := fun _ => List (Nat × Val) → Heap → EK → AN)
  (fun env p K => K .normal env p)
  (fun Gs env p K => XR m T N Gs env p (fun env p => K .normal env p))
  (fun Gs env p K => XD m T N (opsG Gs) Gs 0 [] env p (fun env p => K .normal env p))
  (fun _ _ ia ib env p K => ia env p (exK (fun env p => ib env p K) K))
  (fun c J a b ia ib env p K => Option.rec (motive := fun _ => AN) (kif (evE N env c) (ia env p K) (ib env p K)) (fun J => jnX J (a.asg ++ b.asg) env K (fun nor => kif (evE N env c) (ia env p (exK nor K)) (ib env p (exK nor K)))) J)
  (fun id J a ia env p K => Option.rec (motive := fun _ => AN) (ia env p (blkK id (fun env p => K .normal env p) K)) (fun J => jnX J a.asg env K (fun nor => ia env p (blkK id nor K))) J)
  (fun L a ia env p K => ifS (subB L a.asg) (appL L (lp L.length fu (fun r => lamL L (fun vals p => ia (aftE L a.asg vals env) p (exK (fun env p => appL L r env p) K)))) env p))
  (fun id env p K => K (.exit id) env p)
  (fun env p K => K .ret env p)
  (fun x r L I _ _ _ env p K => krg T p r (evE N env x) (V.mk N (zipX L env)) (fun p => K .normal env p) (fun p => K .ret env p) (exsX I env K))
  (fun D _ ia env p K => frX D N env p (fun env' p' => ia env' p' K)) c
end
section
variable {E : Env} {T : List Ce} {N fu : Nat}
def SimE (E : Env) (vc : VC) (fr : List Val) (p : Heap) (ex : Ex) (fr2 : List Val) (p2 : Heap) : Prop := ∀ (h : Heap) (F : Nat → Prop) (σ : Sg) (fr' : List Val), HR p h F σ → Rs h F σ fr fr' → ∃ n fr2' h2 F2 σ2, exec E n vc fr' h = some (ex, fr2', h2) ∧ Sim p h F σ p2 h2 F2 σ2 ∧ Rs h2 F2 σ2 fr2 fr2'
section
variable {fr fr2 : List Val} {p p2 : Heap}
theorem SimE.region {l : List VOper} (w : SimO E l fr p fr2 p2) : SimE E (.region l) fr p .normal fr2 p2 := by
  intro h F σ fr' a b
  obtain ⟨n, fr2', h2, F2, σ2, e, r⟩ := w h F σ fr' a b
  refine ⟨n + 1, fr2', h2, F2, σ2, ?_, r⟩
  simp only [exec]
  rw [show callF E (exec E n) = run E n from rfl, e]
theorem SimE.draw {l : List VOper} (w : SimD E l 0 [] fr p fr2 p2) : SimE E (.draw l) fr p .normal fr2 p2 := by
  intro h F σ fr' a b
  obtain ⟨n, fr2', h2, F2, σ2, e, r⟩ := w [] h F σ fr' (.start a b)
  refine ⟨n + 1, fr2', h2, F2, σ2, ?_, r⟩
  rw [List.drop_zero] at e
  simp only [exec]
  rw [show callF E (exec E n) = run E n from rfl, e]
theorem SimE.seq {a b : VC} {ex : Ex} {fr1 : List Val} {p1 : Heap} (w : SimE E a fr p .normal fr1 p1) (w2 : SimE E b fr1 p1 ex fr2 p2) : SimE E (.seq a b) fr p ex fr2 p2 := by
  intro h F σ fr' ha hb
  obtain ⟨n, fr1', h1, F1, σ1, e1, s1, r1⟩ := w h F σ fr' ha hb
  obtain ⟨m, fr2', h2, F2, σ2, e2, s2, r2⟩ := w2 h1 F1 σ1 fr1' s1.hr r1
  refine ⟨max n m + 1, fr2', h2, F2, σ2, ?_, s1.trans s2, r2⟩
  rw [exec, exec_mono (Nat.le_max_left n m) _ _ _ _ e1]
  exact exec_mono (Nat.le_max_right n m) _ _ _ _ e2
theorem SimE.seqX {a b : VC} {ex : Ex} (hx : ex ≠ .normal) (w : SimE E a fr p ex fr2 p2) : SimE E (.seq a b) fr p ex fr2 p2 := by
  intro h F σ fr' ha hb
  obtain ⟨n, fr1', h1, F1, σ1, e1, s1, r1⟩ := w h F σ fr' ha hb
  refine ⟨n + 1, fr1', h1, F1, σ1, ?_, s1, r1⟩
  rw [exec, e1]
  cases ex with
  | normal => exact absurd rfl hx
  | _ => rfl
theorem SimE.cond {c : Opd} {a b : VC} {t : Bool} {ex : Ex} (hc : V.ev fr c = .bool t) (hk : c.ok = true) (w : SimE E (if t = true then a else b) fr p ex fr2 p2) : SimE E (.cond c a b) fr p ex fr2 p2 := by
  intro h F σ fr' ha hb
  obtain ⟨n, fr1', h1, F1, σ1, e1, s1, r1⟩ := w h F σ fr' ha hb
  refine ⟨n + 1, fr1', h1, F1, σ1, ?_, s1, r1⟩
  have := hb.ev hk
  rw [hc] at this
  rw [exec, this.bool_eq]
  cases t <;> exact e1
theorem SimE.block {id : Nat} {a : VC} {ex : Ex} (w : SimE E a fr p ex fr2 p2) : SimE E (.block id a) fr p (if ex = .exit id then .normal else ex) fr2 p2 := by
  intro h F σ fr' ha hb
  obtain ⟨n, fr1', h1, F1, σ1, e1, s1, r1⟩ := w h F σ fr' ha hb
  refine ⟨n + 1, fr1', h1, F1, σ1, ?_, s1, r1⟩
  rw [exec, e1]
  cases ex with
  | normal => rfl
  | ret => rfl
  | exit i =>
    by_cases hi : i = id
    · subst hi; simp
    · simp [hi]
theorem SimE.loop {a : VC} {ex : Ex} {fr1 : List Val} {p1 : Heap} (w : SimE E a fr p .normal fr1 p1) (w2 : SimE E (.loop a) fr1 p1 ex fr2 p2) : SimE E (.loop a) fr p ex fr2 p2 := by
  intro h F σ fr' ha hb
  obtain ⟨n, fr1', h1, F1, σ1, e1, s1, r1⟩ := w h F σ fr' ha hb
  obtain ⟨m, fr2', h2, F2, σ2, e2, s2, r2⟩ := w2 h1 F1 σ1 fr1' s1.hr r1
  refine ⟨max n m + 1, fr2', h2, F2, σ2, ?_, s1.trans s2, r2⟩
  rw [exec, exec_mono (Nat.le_max_left n m) _ _ _ _ e1]
  exact exec_mono (Nat.le_max_right n m) _ _ _ _ e2
theorem SimE.loopX {a : VC} {ex : Ex} (hx : ex ≠ .normal) (w : SimE E a fr p ex fr2 p2) : SimE E (.loop a) fr p ex fr2 p2 := by
  intro h F σ fr' ha hb
  obtain ⟨n, fr1', h1, F1, σ1, e1, s1, r1⟩ := w h F σ fr' ha hb
  refine ⟨n + 1, fr1', h1, F1, σ1, ?_, s1, r1⟩
  rw [exec, e1]
  cases ex with
  | normal => exact absurd rfl hx
  | _ => rfl
theorem SimE.less {vc : VC} {ex : Ex} {e e2 : List (Nat × Val)} (ha : ∀ t, lk t e2 = .junk ∨ lk t e2 = lk t e) (w : SimE E vc fr p ex (V.mk N e) p2) : SimE E vc fr p ex (V.mk N e2) p2 := by
  intro h F σ fr' a b
  obtain ⟨n, fr1', h1, F1, σ1, e1, s1, r1⟩ := w h F σ fr' a b
  exact ⟨n, fr1', h1, F1, σ1, e1, s1, r1.lessE ha⟩
theorem SimE.weak {vc : VC} {ex : Ex} {e e2 : List (Nat × Val)} (ha : ∀ t, lk t e2 = .junk ∨ lk t e2 = lk t e) (w : SimE E vc (V.mk N e2) p ex fr2 p2) : SimE E vc (V.mk N e) p ex fr2 p2 := fun h F σ fr' a b => w h F σ fr' a (b.lessE ha)
end
def Said (E : Env) (T : List Ce) (N : Nat) (vc : VC) (A : List Nat) (env : List (Nat × Val)) (p : Heap) (K : EK) (r : AN) : Prop := ∃ ex env' p', Agree A env env' ∧ r = K ex env' p' ∧ SimE E vc (V.mk N env) p ex (V.mk N env') p'
theorem jnX_ok {c : VC} {J A : List Nat} {env : List (Nat × Val)} {p : Heap} {K : EK} {F : (List (Nat × Val) → Heap → AN) → AN} (h : jnX J A env K F ≠ .no)
    (g : ∀ nor : List (Nat × Val) → Heap → AN, F nor ≠ .no → ∃ ex env' p', Agree A env env' ∧ F nor = exK nor K ex env' p' ∧ SimE E c (V.mk N env) p ex (V.mk N env') p') : Said E T N c A env p K (jnX J A env K F) := by
  unfold jnX at h ⊢
  obtain ⟨h1, h2⟩ := ifS_inv h
  rw [h2] at h ⊢
  have hsub := subB_spec h1
  let nor : List (Nat × Val) → Heap → AN := fun env' p' => appL J (lamL J (fun vals p => K .normal (aftE J A vals env) p)) env' p'
  have hn : ∀ env' p', nor env' p' = K .normal (aftE J A (zipE J env') env) p' := fun env' p' => appL_lamL _ _ _ _
  have e0 : jn J.length (fun j => F (fun env p => appL J j env p)) (lamL J (fun vals p => K .normal (aftE J A vals env) p)) = F nor := rfl
  rw [e0] at h ⊢
  obtain ⟨ex, env', p', ha, e, s⟩ := g nor h
  cases ex with
  | normal =>
    refine ⟨.normal, aftE J A (zipE J env') env, p', aft_agree hsub, ?_, s.less fun t => aft_weak ha t⟩
    rw [e, ← hn]
  | exit i => exact ⟨.exit i, env', p', ha, e, s⟩
  | ret => exact ⟨.ret, env', p', ha, e, s⟩
theorem zipX_eq (env : List (Nat × Val)) : ∀ L : List Nat, zipX L env = zipE L env
  | [] => rfl
  | t :: L => by
    have ih := zipX_eq env L
    show (t, lkF t env) :: zipX L env = _
    rw [ih, lkF_eq]; rfl
theorem zip_weak (L : List Nat) (env : List (Nat × Val)) (t : Nat) : lk t (zipE L env) = .junk ∨ lk t (zipE L env) = lk t env := by
  by_cases h : t ∈ L
  · exact .inr (lk_zip L env h)
  · left
    induction L with
    | nil => rfl
    | cons d L ih =>
      show lk t ((d, lk d env) :: zipE L env) = _
      rw [lk, if_neg (fun q => h (by rw [q]; exact List.mem_cons_self ..))]
      exact ih fun q => h (List.mem_cons_of_mem _ q)
theorem exL_inv {i : Nat} {env : List (Nat × Val)} {K : EK} {p : Heap} : ∀ {I : List Nat}, exL i (exsX I env K) p ≠ .no → exL i (exsX I env K) p = K (.exit i) env p
  | [], h => absurd rfl h
  | d :: I, h => by
    have e0 : exL i (exsX (d :: I) env K) p = Bool.rec (motive := fun _ => AN) (exL i (exsX I env K) p) (K (.exit d) env p) (Nat.beq i d) := rfl
    rw [e0, beq_rec] at h ⊢
    by_cases q : i = d
    · rw [if_pos q, q]
    · rw [if_neg q] at h ⊢; exact exL_inv h
theorem rng_ok (hT : TOk E T) {x : Opd} {r : Nat} {L I ps : List Nat} {a b : VC} {env : List (Nat × Val)} {p : Heap} {K : EK} (hx : x.ok = true) (h : krg T p r (evE N env x) (V.mk N (zipX L env)) (fun p => K .normal env p) (fun p => K .ret env p) (exsX I env K) ≠ .no) :
    ∃ ex p', krg T p r (evE N env x) (V.mk N (zipX L env)) (fun p => K .normal env p) (fun p => K .ret env p) (exsX I env K) = K ex env p' ∧ SimE E (.range x r ps a b) (V.mk N env) p ex (V.mk N env) p' := by
  rw [zipX_eq, evE_eq] at h ⊢
  unfold krg at h ⊢
  obtain ⟨fn, a0, c0, hv, e2⟩ := fnK_inv h
  rw [e2] at h ⊢
  cases fn with
  | func g =>
    simp only [newK_eq, catK_eq] at h ⊢
    obtain ⟨v, p2, h1, h2⟩ := hT.call _ _ _ h
    rw [h1] at h ⊢
    obtain ⟨h3, h4⟩ := ble_inv h
    rw [h4] at h ⊢
    obtain ⟨st, h5, h6⟩ := rndK_inv h
    rw [h6, putK_eq] at h ⊢
    have fin : ∀ ex, (∀ (fr : List Val) (j' : Nat) (h1 : Heap), h1.get j' = some (.rnd st) → endRange fr j' h1 = some (ex, fr, h1.put j' (some (.rnd 1)))) → SimE E (.range x r ps a b) (V.mk N env) p ex (V.mk N env) (p2.put p.next (some (.rnd 1))) := by
      intro ex hex h F σ fr' ha hb
      have hx' := hb.ev hx
      rw [hv] at hx'
      simp only [Rv] at hx'
      obtain ⟨a', c', hx', r1, r2⟩ := hx'
      have s0 : Sim p h F σ (p.new (.rnd 0)).2 (h.new (.rnd 0)).2 F (σ.upd p.next h.next) := Sim.new ha (k := .rnd 0) (k' := .rnd 0) rfl
      have hj : (σ.upd p.next h.next) p.next = some h.next := by simp [Sg.upd]
      have hjr : Rv (h.new (.rnd 0)).2 F (σ.upd p.next h.next) (.ptr p.next 0) (.ptr h.next 0) := by simp only [Rv]; exact ⟨_, hj, rfl⟩
      have hargs : Rs (h.new (.rnd 0)).2 F (σ.upd p.next h.next) (a0 ++ .func (.yield r) (V.mk N (zipE L env)) [.ptr p.next 0] :: c0) (a' ++ .func (.yield r) fr' [.ptr h.next 0] :: c') := by
        refine (s0.rs r1).append (.cons ?_ (s0.rs r2))
        simp only [Rv]
        exact ⟨_, _, rfl, s0.rs (hb.lessE (zip_weak L env)), .cons hjr .nil⟩
      obtain ⟨n, v', h1, F3, σ3, e, s1, rv⟩ := h2 _ F _ _ s0.hr hargs
      have hj3 : σ3 p.next = some h.next := s1.sg _ _ hj
      obtain ⟨g1, g2, s2⟩ := s1.hr.rnd hj3 h3 h5 1
      refine ⟨n + 1, fr', _, F3, σ3, ?_, (s0.trans s1).trans s2, s2.rs (s1.rs (s0.rs hb))⟩
      rw [exec, hx']
      simp only
      rw [show callF E (exec E n) = run E n from rfl, e]
      simp only
      rw [if_pos g2, hex _ _ _ g1]
    match st, h, fin with
    | 0, h, fin => exact ⟨.normal, _, rfl, fin .normal fun fr j' h1 g1 => by simp only [endRange, g1]⟩
    | 1, h, fin => exact absurd rfl h
    | 2, h, fin => exact ⟨.ret, _, rfl, fin .ret fun fr j' h1 g1 => by simp only [endRange, g1]⟩
    | i + 3, h, fin =>
      have e0 : exS (i + 3) (fun p => K .normal env p) (fun p => K .ret env p) (exsX I env K) (p2.put (p.new (.rnd 0)).1 (some (.rnd 1))) = exL i (exsX I env K) (p2.put (p.new (.rnd 0)).1 (some (.rnd 1))) := rfl
      have h' : exL i (exsX I env K) (p2.put (p.new (.rnd 0)).1 (some (.rnd 1))) ≠ .no := h
      exact ⟨.exit i, _, exL_inv h', fin (.exit i) fun fr j' h1 g1 => by simp only [endRange, g1]⟩
  | _ => exact absurd rfl h
theorem agree_l {A B : List Nat} {env env' : List (Nat × Val)} (ha : Agree A env env') : Agree (A ++ B) env env' := fun t ht => ha t fun q => ht (List.mem_append_left _ q)
theorem agree_r {A B : List Nat} {env env' : List (Nat × Val)} (ha : Agree B env env') : Agree (A ++ B) env env' := fun t ht => ha t fun q => ht (List.mem_append_right _ q)
theorem blk_ex {id : Nat} {nor : List (Nat × Val) → Heap → AN} {K : EK} (ex : Ex) (env : List (Nat × Val)) (p : Heap) : blkK id nor K ex env p = exK nor K (if ex = .exit id then .normal else ex) env p := by
  cases ex with
  | normal => rfl
  | ret => rfl
  | exit i =>
    show Bool.rec (motive := fun _ => AN) (K (.exit i) env p) (nor env p) (Nat.beq i id) = _
    rw [beq_rec]
    by_cases hi : i = id
    · subst hi; simp
    · simp [hi]
theorem X_ok (hm : MethSim E.meth) (hT : TOk E T) : ∀ (c : AC) {env : List (Nat × Val)} {p : Heap} {K : EK}, c.ok = true → X E.meth T N fu c env p K ≠ .no → Said E T N c.vc c.asg env p K (X E.meth T N fu c env p K)
  | .skip, env, p, K, _, _ => ⟨.normal, env, p, .refl _ _, rfl, fun h F σ fr' a b => ⟨1, fr', h, F, σ, rfl, .refl a, b⟩⟩
  | .exi id, env, p, K, _, _ => ⟨.exit id, env, p, .refl _ _, rfl, fun h F σ fr' a b => ⟨1, fr', h, F, σ, rfl, .refl a, b⟩⟩
  | .ret, env, p, K, _, _ => ⟨.ret, env, p, .refl _ _, rfl, fun h F σ fr' a b => ⟨1, fr', h, F, σ, rfl, .refl a, b⟩⟩
  | .rng x r L I ps a b, env, p, K, ho, h => by
    obtain ⟨ex, p', e, s⟩ := rng_ok (a := a) (b := b) (ps := ps) hT ho h
    exact ⟨ex, env, p', .refl _ _, e, s⟩
  | .fz D a, env, p, K, ho, h => by
    have e0 : X E.meth T N fu (.fz D a) env p K = frX D N env p (fun env' p' => X E.meth T N fu a env' p' K) := rfl
    rw [e0] at h ⊢
    obtain ⟨env1, p1, ha, e, s⟩ := frX_ok h
    rw [e] at h ⊢
    obtain ⟨ex, env', p', hb, e2, s2⟩ := X_ok hm hT a ho h
    refine ⟨ex, env', p', ha.trans hb (fun t ht => List.mem_append_left _ ht) (fun t ht => List.mem_append_right _ ht), e2, fun h F σ fr' hr hf => ?_⟩
    obtain ⟨G, s1, r1⟩ := s h F σ fr' hr hf
    obtain ⟨n, fr2', h2, F2, σ2, x1, x2, x3⟩ := s2 h G σ fr' s1.hr r1
    exact ⟨n, fr2', h2, F2, σ2, x1, s1.trans x2, x3⟩
  | .reg Gs, env, p, K, ho, h => by
    obtain ⟨env', p', ha, e, s⟩ := XR_ok hm hT Gs ho h
    exact ⟨.normal, env', p', ha, e, .region s⟩
  | .drw Gs, env, p, K, ho, h => by
    simp only [AC.ok, Bool.and_eq_true] at ho
    obtain ⟨env', p', ha, e, s⟩ := XD_ok hm hT ho.1 Gs (List.drop_zero) .nil rfl ho.2 h
    exact ⟨.normal, env', p', ha, e, .draw s⟩
  | .seq a b, env, p, K, ho, h => by
    simp only [AC.ok, Bool.and_eq_true] at ho
    have e0 : X E.meth T N fu (.seq a b) env p K = X E.meth T N fu a env p (exK (fun env p => X E.meth T N fu b env p K) K) := rfl
    rw [e0] at h ⊢
    obtain ⟨ex, env1, p1, ha, e, s⟩ := X_ok hm hT a ho.1 h
    cases ex with
    | normal =>
      have e1 : X E.meth T N fu a env p (exK (fun env p => X E.meth T N fu b env p K) K) = X E.meth T N fu b env1 p1 K := e
      rw [e1] at h ⊢
      obtain ⟨ex, env', p', hb, e2, s2⟩ := X_ok hm hT b ho.2 h
      exact ⟨ex, env', p', ha.trans hb (fun t ht => List.mem_append_left _ ht) fun t ht => List.mem_append_right _ ht, e2, s.seq s2⟩
    | exit i => exact ⟨.exit i, env1, p1, agree_l ha, e, s.seqX (by intro q; cases q)⟩
    | ret => exact ⟨.ret, env1, p1, agree_l ha, e, s.seqX (by intro q; cases q)⟩
  | .cnd c none a b, env, p, K, ho, h => by
    simp only [AC.ok, Bool.and_eq_true] at ho
    have e0 : X E.meth T N fu (.cnd c none a b) env p K = kif (evE N env c) (X E.meth T N fu a env p K) (X E.meth T N fu b env p K) := rfl
    rw [e0] at h ⊢
    obtain ⟨t, h1, h2⟩ := kif_inv h
    rw [evE_eq] at h1
    rw [h2] at h ⊢
    cases t with
    | true =>
      obtain ⟨ex, env', p', ha, e, s⟩ := X_ok hm hT a ho.2.1 h
      exact ⟨ex, env', p', agree_l ha, e, .cond h1 ho.1 s⟩
    | false =>
      obtain ⟨ex, env', p', ha, e, s⟩ := X_ok hm hT b ho.2.2 h
      exact ⟨ex, env', p', agree_r ha, e, .cond h1 ho.1 s⟩
  | .cnd c (some J) a b, env, p, K, ho, h => by
    simp only [AC.ok, Bool.and_eq_true] at ho
    refine jnX_ok (F := fun nor => kif (evE N env c) (X E.meth T N fu a env p (exK nor K)) (X E.meth T N fu b env p (exK nor K))) h fun nor h' => ?_
    obtain ⟨t, h1, h2⟩ := kif_inv h'
    rw [evE_eq] at h1
    rw [h2] at h' ⊢
    cases t with
    | true =>
      obtain ⟨ex, env', p', ha, e, s⟩ := X_ok hm hT a ho.2.1 h'
      exact ⟨ex, env', p', agree_l ha, e, .cond h1 ho.1 s⟩
    | false =>
      obtain ⟨ex, env', p', ha, e, s⟩ := X_ok hm hT b ho.2.2 h'
      exact ⟨ex, env', p', agree_r ha, e, .cond h1 ho.1 s⟩
  | .blk id none a, env, p, K, ho, h => by
    have e0 : X E.meth T N fu (.blk id none a) env p K = X E.meth T N fu a env p (blkK id (fun env p => K .normal env p) K) := rfl
    rw [e0] at h ⊢
    obtain ⟨ex, env', p', ha, e, s⟩ := X_ok hm hT a ho h
    refine ⟨_, env', p', ha, ?_, s.block⟩
    rw [e, blk_ex]
    split
    · rfl
    · cases ex <;> rfl
  | .blk id (some J) a, env, p, K, ho, h => by
    refine jnX_ok (F := fun nor => X E.meth T N fu a env p (blkK id nor K)) h fun nor h' => ?_
    obtain ⟨ex, env', p', ha, e, s⟩ := X_ok hm hT a ho h'
    exact ⟨_, env', p', ha, by rw [e, blk_ex], s.block⟩
  | .lop L a, env, p, K, ho, h => by
    have e00 : X E.meth T N fu (.lop L a) env p K = ifS (subB L a.asg) (appL L (lp L.length fu (fun r => lamL L (fun vals p => X E.meth T N fu a (aftE L a.asg vals env) p (exK (fun env p => appL L r env p) K)))) env p) := rfl
    rw [e00] at h ⊢
    obtain ⟨h1, h2⟩ := ifS_inv h
    rw [h2] at h ⊢
    have hsub := subB_spec h1
    let body : FnT L.length → FnT L.length := fun r => lamL L (fun vals p => X E.meth T N fu a (aftE L a.asg vals env) p (exK (fun env p => appL L r env p) K))
    have bot : ∀ (D : List Nat) (env : List (Nat × Val)) (p : Heap), appL D (botF D.length) env p = .no := by
      intro D
      induction D with
      | nil => intro env p; rfl
      | cons t D ih => intro env p; exact ih env p
    have main : ∀ (n : Nat) (env1 : List (Nat × Val)) (p1 : Heap), Agree a.asg env env1 → appL L (lp L.length n body) env1 p1 ≠ .no → ∃ ex env' p', Agree a.asg env env' ∧ appL L (lp L.length n body) env1 p1 = K ex env' p' ∧ SimE E (.loop a.vc) (V.mk N env1) p1 ex (V.mk N env') p' := by
      intro n
      induction n with
      | zero => intro env1 p1 _ h3; exact absurd (bot L env1 p1) h3
      | succ n ih =>
        intro env1 p1 ha h3
        have e1 : appL L (lp L.length (n + 1) body) env1 p1 = X E.meth T N fu a (aftE L a.asg (zipE L env1) env) p1 (exK (fun env p => appL L (lp L.length n body) env p) K) := by
          have : lp L.length (n + 1) body = body (lp L.length n body) := rfl
          rw [this]
          exact appL_lamL _ _ _ _
        rw [e1] at h3 ⊢
        obtain ⟨ex, env2, p2, hb, e2, s⟩ := X_ok hm hT a ho h3
        have s' := s.weak fun t => aft_weak (J := L) ha t
        have hag : Agree a.asg env env2 := (aft_agree (env' := env1) hsub).trans hb (fun t ht => ht) fun t ht => ht
        cases ex with
        | normal =>
          have e2' : X E.meth T N fu a (aftE L a.asg (zipE L env1) env) p1 (exK (fun env p => appL L (lp L.length n body) env p) K) = appL L (lp L.length n body) env2 p2 := e2
          rw [e2'] at h3 ⊢
          obtain ⟨ex, env', p', hc, e3, s3⟩ := ih env2 p2 hag h3
          exact ⟨ex, env', p', hc, e3, s'.loop s3⟩
        | exit i => exact ⟨.exit i, env2, p2, hag, e2, s'.loopX (by intro q; cases q)⟩
        | ret => exact ⟨.ret, env2, p2, hag, e2, s'.loopX (by intro q; cases q)⟩
    exact main fu env p (.refl _ _) h
end
end
end Go.V
end

section
set_option linter.unusedVariables false
set_option linter.unusedSimpArgs false
set_option linter.unusedSectionVars false
namespace Go.V
noncomputable section
abbrev FT := Heap → List Val → (List Val → Heap → AN) → AN
def FO (E : Env) (f : FuncId) (F : FT) : Prop := ∀ (p : Heap) (args : List Val) (k : List Val → Heap → AN), F p args k ≠ .no → ∃ r p', F p args k = k r p' ∧ SimC E f args p (resultOf r) p'
def heapK : Heap := ⟨nat_lit 0, .leaf, [], nat_lit 0, nat_lit 0⟩
def C0 (F : FT) (a : List Val) : AN := F heapK a (fun r p => outK false p r (fun l => .ok false l))
def orA (a b : AN) : AN := AN.rec (motive := fun _ => AN) b (fun st l => .ok st l) a
def C1 (F : FT) (a : List Val) : AN := F heapK a (fun r p => orA (outK true p r (fun l => .ok true l)) (outK false p r (fun l => .ok false l)))
def anK (a : AN) (k : Bool → List Val → AN) : AN := AN.rec (motive := fun _ => AN) .no k a
theorem pc_of {E : Env} {f : FuncId} {F : FT} (hF : FO E f F) {a : List Val} {st : Bool} {l : List Val} {k : List Val → Heap → AN} (e : F heapK a k = .ok st l) (w : ∀ r p', k r p' = .ok st l → outO st p' r = some l) : PC E f a st l := by
  have hn : F heapK a k ≠ .no := by rw [e]; intro q; cases q
  obtain ⟨r, p', h1, h2⟩ := hF heapK a k hn
  refine ⟨⟨fun h F' σ args' ks' hr ha hk => ?_⟩⟩
  obtain ⟨n, v', h', F2, σ2, e2, s, rv⟩ := h2 h F' σ args' hr ha
  exact ⟨n, v', h', _, [], p', F2, σ2, e2, s.far, s.hr, rv, hk, r, rfl, w r p' (by rw [← h1]; exact e)⟩
theorem C0_pc {E : Env} {f : FuncId} {F : FT} (hF : FO E f F) {a : List Val} {st : Bool} {l : List Val} (e : C0 F a = .ok st l) : PC E f a st l := by
  refine pc_of hF e fun r p' h2 => ?_
  obtain ⟨l', h3, h4⟩ := outK_inv (k := fun l => .ok false l) (by rw [h2]; intro q; cases q)
  rw [h4] at h2
  cases h2
  exact h3
theorem C1_pc {E : Env} {f : FuncId} {F : FT} (hF : FO E f F) {a : List Val} {st : Bool} {l : List Val} (e : C1 F a = .ok st l) : PC E f a st l := by
  refine pc_of hF e fun r p' h2 => ?_
  have key : ∀ s : Bool, outK s p' r (fun l => .ok s l) = .ok st l → outO st p' r = some l := by
    intro s h3
    obtain ⟨l', h4, h5⟩ := outK_inv (k := fun l => .ok s l) (by rw [h3]; intro q; cases q)
    rw [h5] at h3
    cases h3
    exact h4
  cases h3 : outK true p' r (fun l => .ok true l) with
  | no =>
    rw [h3] at h2
    exact key false h2
  | ok s' l' =>
    rw [h3] at h2
    have h4 : AN.ok s' l' = .ok st l := h2
    cases h4
    exact key true h3
def ci (F : FT) : CK := fun p args k => F p args (fun r p => k (resR r) p)
def cc (F : FT) : CK := fun p args k => resK p false args (fun a u => List.rec (motive := fun _ => AN) (anK (C0 F a) (fun st l => otcK st l p [] k)) (fun _ _ _ => anK (C1 F a) (fun st l => otcK st l p u k)) u)
theorem anK_inv {a : AN} {k : Bool → List Val → AN} (h : anK a k ≠ .no) : ∃ st l, a = .ok st l ∧ anK a k = k st l := by
  cases a with
  | no => exact absurd rfl h
  | ok st l => exact ⟨st, l, rfl, rfl⟩
theorem ci_ok {E : Env} {f : FuncId} {F : FT} (hF : FO E f F) : CallOk E f (ci F) := by
  intro p args k h
  obtain ⟨r, p', h1, h2⟩ := hF p args _ h
  exact ⟨_, p', by show F p args _ = _; rw [h1, resR_eq], h2⟩
theorem cc_ok {E : Env} {f : FuncId} {F : FT} (hF : FO E f F) : CallOk E f (cc F) := by
  intro p args k h
  unfold cc at h ⊢
  obtain ⟨a, u, h1, h2⟩ := resK_inv h
  rw [h2] at h ⊢
  cases u with
  | nil =>
    have h' : anK (C0 F a) (fun st l => otcK st l p [] k) ≠ .no := h
    obtain ⟨st, l, h3, h4⟩ := anK_inv h'
    have h'' := h'
    rw [h4] at h''
    obtain ⟨v, p', h5, h6⟩ := otcK_inv h''
    exact ⟨v, p', h4.trans h6, fun h F' σ args' hr ha => (C0_pc hF h3).sim hr ha h1 h5⟩
  | cons b u =>
    have h' : anK (C1 F a) (fun st l => otcK st l p (b :: u) k) ≠ .no := h
    obtain ⟨st, l, h3, h4⟩ := anK_inv h'
    have h'' := h'
    rw [h4] at h''
    obtain ⟨v, p', h5, h6⟩ := otcK_inv h''
    exact ⟨v, p', h4.trans h6, fun h F' σ args' hr ha => (C1_pc hF h3).sim hr ha h1 h5⟩
def agX (n : Nat) : Nat → List Val → (List (Nat × Val) → AN) → AN := Nat.rec (motive := fun _ => Nat → List Val → (List (Nat × Val) → AN) → AN) (fun _ l k => nl l (k [])) (fun _ ih i l k => hd l (fun v t => ih (Nat.succ i) t (fun env => k ((i, v) :: env)))) n
theorem agX_inv : ∀ (n i : Nat) (l : List Val) {k : List (Nat × Val) → AN}, agX n i l k ≠ .no → l.length = n ∧ agX n i l k = k (argsL i l)
  | 0, i, [], k, _ => ⟨rfl, rfl⟩
  | 0, i, _ :: _, k, h => absurd rfl h
  | n + 1, i, [], k, h => absurd rfl h
  | n + 1, i, v :: l, k, h => by
    have e0 : agX (n + 1) i (v :: l) k = agX n (i + 1) l (fun env => k ((i, v) :: env)) := rfl
    rw [e0] at h ⊢
    obtain ⟨h1, h2⟩ := agX_inv n (i + 1) l h
    exact ⟨by simp [h1], h2⟩
def kr1 (p : Heap) (a : Val) (k : Val → AN) : AN := ptrK a (fun b o => hCells p b (fun c => hdK (drK o c) k)) n2
def kra (p : Heap) (n : Nat) (a : Val) (k : Val → AN) : AN := ptrK a (fun b o => ldC p b o n (fun l => k (.agg l))) n2
def krz (p : Heap) (a : Val) (k : Val → AN) : AN := ptrK a (fun b o => hCells p b (fun c => ifB (Nat.ble o (lenF c)) (k (.agg [])))) n2
def rdX (N : Nat) (rs : List (Nat × Option (Bool × Nat))) : List (Nat × Val) → Heap → (List Val → AN) → AN := List.rec (motive := fun _ => List (Nat × Val) → Heap → (List Val → AN) → AN) (fun _ _ k => k []) (fun x _ ih env p k => Option.rec (motive := fun _ => AN) (ih env p (fun l => k (evE N env (.t x.1) :: l))) (fun y => Bool.rec (motive := fun _ => AN) (ifS (Nat.beq y.2 1) (kr1 p (evE N env (.t x.1)) (fun v => ih env p (fun l => k (v :: l))))) (Bool.rec (motive := fun _ => AN) (krz p (evE N env (.t x.1)) (fun v => ih env p (fun l => k (v :: l)))) (kra p y.2 (evE N env (.t x.1)) (fun v => ih env p (fun l => k (v :: l)))) (Nat.ble 1 y.2)) y.1) x.2) rs
theorem rdX_inv {N : Nat} {env : List (Nat × Val)} {p : Heap} : ∀ (rs : List (Nat × Option (Bool × Nat))) {k : List Val → AN}, rdX N rs env p k ≠ .no → ∃ l, readResults (V.mk N env) p rs = some l ∧ rdX N rs env p k = k l
  | [], k, _ => ⟨[], rfl, rfl⟩
  | (t, none) :: rs, k, h => by
    have e0 : rdX N ((t, none) :: rs) env p k = rdX N rs env p (fun l => k (evE N env (.t t) :: l)) := rfl
    rw [e0] at h ⊢
    obtain ⟨l, h1, h2⟩ := rdX_inv rs h
    exact ⟨(V.mk N env).getD t .undef :: l, by simp only [readResults, h1], by rw [h2, evE_eq]; rfl⟩
  | (t, some (false, n)) :: rs, k, h => by
    have e0 : rdX N ((t, some (false, n)) :: rs) env p k = ifS (Nat.beq n 1) (kr1 p (evE N env (.t t)) (fun v => rdX N rs env p (fun l => k (v :: l)))) := rfl
    rw [e0] at h ⊢
    obtain ⟨h1, h2⟩ := ifS_inv h
    rw [h2] at h ⊢
    have h1 := Nat.eq_of_beq_eq_true h1
    subst h1
    unfold kr1 at h ⊢
    rcases ptrK_inv h with ⟨b, o, e1, e2⟩ | ⟨c, o, e1, e2⟩
    · rw [e2] at h ⊢
      obtain ⟨c, h3, h4⟩ := hCells_inv h
      rw [h4] at h ⊢
      obtain ⟨v, h5, h6⟩ := hdK_inv h
      rw [h6] at h ⊢
      obtain ⟨l, h7, h8⟩ := rdX_inv rs h
      refine ⟨v :: l, ?_, h8⟩
      have q1 : o < c.length := (List.getElem?_eq_some_iff.1 h5).1
      have q2 : (c.drop o).take 1 = [v] := by rw [List.take_one, List.head?_drop, h5]; rfl
      have q3 : (V.mk N env).getD t .undef = .ptr b o := by rw [evE_eq] at e1; exact e1
      have q4 : p.load b o 1 = some [v] := by
        unfold Heap.load
        rw [h3]
        simp only
        rw [if_pos (show o + 1 ≤ c.length from q1), q2]
      simp only [readResults, q3, q4, h7, Bool.false_eq_true, if_false]
    · rw [e2] at h; exact absurd rfl h
  | (t, some (true, n)) :: rs, k, h => by
    have e0 : rdX N ((t, some (true, n)) :: rs) env p k = Bool.rec (motive := fun _ => AN) (krz p (evE N env (.t t)) (fun v => rdX N rs env p (fun l => k (v :: l)))) (kra p n (evE N env (.t t)) (fun v => rdX N rs env p (fun l => k (v :: l)))) (Nat.ble 1 n) := rfl
    rw [e0, ble_rec] at h ⊢
    by_cases h1 : 1 ≤ n
    · rw [if_pos h1] at h ⊢
      unfold kra at h ⊢
      rcases ptrK_inv h with ⟨b, o, e1, e2⟩ | ⟨c, o, e1, e2⟩
      · rw [e2] at h ⊢
        obtain ⟨c, h3, h4⟩ := ldC_inv (by omega) h
        rw [h4] at h ⊢
        obtain ⟨l, h7, h8⟩ := rdX_inv rs h
        refine ⟨_, ?_, h8⟩
        have q3 : (V.mk N env).getD t .undef = .ptr b o := by rw [evE_eq] at e1; exact e1
        simp only [readResults, q3, h3, h7, if_true]
      · rw [e2] at h; exact absurd rfl h
    · rw [if_neg h1] at h ⊢
      have h0 : n = 0 := by omega
      subst h0
      unfold krz at h ⊢
      rcases ptrK_inv h with ⟨b, o, e1, e2⟩ | ⟨c, o, e1, e2⟩
      · rw [e2] at h ⊢
        obtain ⟨c, h3, h4⟩ := hCells_inv h
        rw [h4] at h ⊢
        obtain ⟨h5, h6⟩ := ble_inv h
        rw [h6] at h ⊢
        rw [lenF_eq] at h5
        obtain ⟨l, h7, h8⟩ := rdX_inv rs h
        refine ⟨.agg [] :: l, ?_, h8⟩
        have q3 : (V.mk N env).getD t .undef = .ptr b o := by rw [evE_eq] at e1; exact e1
        have q4 : p.load b o 0 = some [] := by
          unfold Heap.load
          rw [h3]
          simp only
          rw [if_pos (by omega), List.take_zero]
        simp only [readResults, q3, q4, h7, if_true]
      · rw [e2] at h; exact absurd rfl h
def endX (N : Nat) (rs : List (Nat × Option (Bool × Nat))) (k : List Val → Heap → AN) : EK := fun ex env p => Ex.rec (motive := fun _ => AN) (rdX N rs env p (fun l => k l p)) (fun _ => .no) (rdX N rs env p (fun l => k l p)) ex
theorem Rs.enter {h : Heap} {F : Nat → Prop} {σ : Sg} {n : Nat} {args args' : List Val} (hn : args.length ≤ n) (r : Rs h F σ args args') : Rs h F σ (V.mk n (argsL 0 args)) (V.enter n args') := by
  have r1 := enterR r n
  refine .of_getD (by rw [r1.length, mk_length]; simp [V.enter]; omega) fun t => ?_
  have hg := r1.getD t
  have key : (V.mk n (argsL 0 args)).getD t .undef = .junk ∨ (V.mk n (argsL 0 args)).getD t .undef = (V.enter n args).getD t .undef := by
    by_cases ht : t < n
    · rw [mk_getD ht, lk_args]
      by_cases h : t < args.length
      · right
        rw [if_pos (by omega)]
        simp [V.enter, List.getD_eq_getElem?_getD, List.getElem?_append, h]
      · left; rw [if_neg (by omega)]
    · right
      simp [mk, V.enter, List.getD_eq_getElem?_getD, List.getElem?_append, ht]
      split
      · omega
      · rw [List.getElem?_eq_none (by simp; omega)]; rfl
  rcases key with e | e
  · rw [e]; simp only [Rv]
  · rw [e]; exact hg
theorem FO.fn {E : Env} {f : FuncId} {vf : VFn} {T : List Ce} {fu np : Nat} {F : FT} (hm : MethSim E.meth) (hT : TOk E T) (hf : E.fns f = some vf) (hp : E.prims f = none) (c : AC) (hc : c.vc = vf.body) (ho : c.ok = true) (hn : np ≤ vf.ntmps)
    (hF : ∀ p args k, F p args k = agX np 0 args (fun env => X E.meth T vf.ntmps fu c env p (endX vf.ntmps vf.results k))) : FO E f F := by
  intro p args k h
  rw [hF] at h ⊢
  obtain ⟨h1, h2⟩ := agX_inv np 0 args h
  rw [h2] at h ⊢
  obtain ⟨ex, env', p', _, e, s⟩ := X_ok hm hT c ho h
  rw [e] at h ⊢
  rw [hc] at s
  have fin : ∀ l, (∀ i, ex ≠ .exit i) → readResults (V.mk vf.ntmps env') p' vf.results = some l → SimC E f args p (resultOf l) p' := by
    intro l hne hl h F' σ args' hr ha
    obtain ⟨n, fr2', h2, F2, σ2, e2, s2, r2⟩ := s h F' σ _ hr (ha.enter (by omega))
    obtain ⟨l', hl', rl⟩ := readResultsR s2.hr r2 vf.results hl
    exact ⟨n, _, h2, F2, σ2, callF_of hp hf e2 hne hl', s2, resultOfR rl⟩
  cases ex with
  | exit i => exact absurd rfl h
  | normal =>
    have h' : rdX vf.ntmps vf.results env' p' (fun l => k l p') ≠ .no := h
    obtain ⟨l, h3, h4⟩ := rdX_inv _ h'
    exact ⟨l, p', h4, fin l (fun i q => by cases q) h3⟩
  | ret =>
    have h' : rdX vf.ntmps vf.results env' p' (fun l => k l p') ≠ .no := h
    obtain ⟨l, h3, h4⟩ := rdX_inv _ h'
    exact ⟨l, p', h4, fin l (fun i q => by cases q) h3⟩
def rcF (d : Nat) (body : FT → FT) : FT := Nat.rec (motive := fun _ => FT) (fun _ _ _ => .no) (fun _ ih => body ih) d
theorem FO.rc {E : Env} {f : FuncId} {body : FT → FT} (w : ∀ F, FO E f F → FO E f (body F)) : ∀ d, FO E f (rcF d body)
  | 0 => fun _ _ _ h => absurd rfl h
  | d + 1 => w _ (FO.rc w d)
def rcM (d : Nat) (body : (Nat → FT) → Nat → FT) : Nat → FT := Nat.rec (motive := fun _ => Nat → FT) (fun _ _ _ _ => .no) (fun _ ih => body ih) d
def bth (a b : (Nat → FT) → FT) (s : Nat → FT) (i : Nat) : FT := Nat.rec (motive := fun _ => FT) (a s) (fun _ _ => b s) i
theorem FO.rm {E : Env} {f g : FuncId} {A B : (Nat → FT) → FT} (wA : ∀ S, FO E f (S 0) → FO E g (S 1) → FO E f (A S)) (wB : ∀ S, FO E f (S 0) → FO E g (S 1) → FO E g (B S)) : ∀ d, FO E f (rcM d (bth A B) 0) ∧ FO E g (rcM d (bth A B) 1)
  | 0 => ⟨fun _ _ _ h => absurd rfl h, fun _ _ _ h => absurd rfl h⟩
  | d + 1 => ⟨wA _ (FO.rm wA wB d).1 (FO.rm wA wB d).2, wB _ (FO.rm wA wB d).1 (FO.rm wA wB d).2⟩
def grp (l : List VOper) : List Gp := List.rec (motive := fun _ => List Gp) [] (fun o _ ih => match o.guard, ih with
  | none, .pl l :: gs => .pl (o :: l) :: gs
  | none, gs => .pl [o] :: gs
  | some (g, w), .gd g' w' l :: gs => Bool.rec (motive := fun _ => List Gp) (.gd g w [o] :: .gd g' w' l :: gs) (Bool.rec (motive := fun _ => List Gp) (.gd g w [o] :: .gd g' w' l :: gs) (.gd g w (o :: l) :: gs) (Bool.rec (motive := fun _ => Bool) (notB w') w' w)) (Nat.beq g g')
  | some (g, w), gs => .gd g w [o] :: gs) l
theorem grp_ops : ∀ l : List VOper, opsG (grp l) = l
  | [] => rfl
  | o :: l => by
    have ih := grp_ops l
    have e0 : grp (o :: l) = (match o.guard, grp l with
      | none, .pl l :: gs => .pl (o :: l) :: gs
      | none, gs => .pl [o] :: gs
      | some (g, w), .gd g' w' l :: gs => Bool.rec (motive := fun _ => List Gp) (.gd g w [o] :: .gd g' w' l :: gs) (Bool.rec (motive := fun _ => List Gp) (.gd g w [o] :: .gd g' w' l :: gs) (.gd g w (o :: l) :: gs) (Bool.rec (motive := fun _ => Bool) (notB w') w' w)) (Nat.beq g g')
      | some (g, w), gs => .gd g w [o] :: gs) := rfl
    rw [e0]
    revert ih
    cases grp l with
    | nil =>
      intro ih
      cases hg : o.guard with
      | none => show o :: opsG [] = _; rw [ih]
      | some gw => show o :: opsG [] = _; rw [ih]
    | cons G gs =>
      intro ih
      have i2 : o :: (G.ops ++ opsG gs) = o :: l := by rw [← ih]; rfl
      cases hg : o.guard with
      | none => cases G <;> exact i2
      | some gw =>
        obtain ⟨g, w⟩ := gw
        cases G with
        | pl l' => exact i2
        | gd g' w' l' =>
          show opsG (Bool.rec (motive := fun _ => List Gp) _ _ (Nat.beq g g')) = _
          cases Nat.beq g g' with
          | false => exact i2
          | true => cases w <;> cases w' <;> exact i2
abbrev Nts := List (Option (List Nat))
def nxt (l : Nts) : Option (List Nat) := List.rec (motive := fun _ => Option (List Nat)) none (fun x _ _ => x) l
def rst (l : Nts) : Nts := List.rec (motive := fun _ => Nts) [] (fun _ t _ => t) l
def nxtL (l : Nts) : List Nat := Option.rec (motive := fun _ => List Nat) [] (fun x => x) (nxt l)
def ann (v : VC) : Nts → AC × Nts := VC.rec (motive := fun _ => Nts → AC × Nts)
  (fun s => (.skip, s))
  (fun l s => (.reg (grp l), s))
  (fun l s => (.drw (grp l), s))
  (fun _ _ ia ib s => (.seq (ia s).1 (ib (ia s).2).1, (ib (ia s).2).2))
  (fun c _ _ ia ib s => (.cnd c (nxt s) (ia (rst s)).1 (ib (ia (rst s)).2).1, (ib (ia (rst s)).2).2))
  (fun id _ ia s => (.blk id (nxt s) (ia (rst s)).1, (ia (rst s)).2))
  (fun _ ia s => (.lop (nxtL s) (ia (rst s)).1, (ia (rst s)).2))
  (fun x r ps a b _ _ s => (.rng x r (nxtL s) (nxtL (rst s)) ps a b, rst (rst s)))
  (fun id s => (.exi id, s))
  (fun s => (.ret, s)) v
theorem ann_vc : ∀ (v : VC) (s : Nts), (ann v s).1.vc = v
  | .skip, _ | .exit _, _ | .ret, _ | .range .., _ => rfl
  | .region l, s => congrArg VC.region (grp_ops l)
  | .draw l, s => congrArg VC.draw (grp_ops l)
  | .seq a b, s => by
    show VC.seq (ann a s).1.vc (ann b (ann a s).2).1.vc = _
    rw [ann_vc a, ann_vc b]
  | .cond c a b, s => by
    show VC.cond c (ann a (rst s)).1.vc (ann b (ann a (rst s)).2).1.vc = _
    rw [ann_vc a, ann_vc b]
  | .block id a, s => by
    show VC.block id (ann a (rst s)).1.vc = _
    rw [ann_vc a]
  | .loop a, s => by
    show VC.loop (ann a (rst s)).1.vc = _
    rw [ann_vc a]
def fzW (S : List (Nat × List Nat)) (c : AC) (n : Nat) : AC × Nat := (List.rec (motive := fun _ => AC) c (fun x _ ih => Bool.rec (motive := fun _ => AC) ih (.fz x.2 c) (Nat.beq x.1 n)) S, Nat.succ n)
theorem fzW_vc (c : AC) (n : Nat) : ∀ S : List (Nat × List Nat), (fzW S c n).1.vc = c.vc
  | [] => rfl
  | x :: S => by
    have ih := fzW_vc c n S
    show (Bool.rec (motive := fun _ => AC) (fzW S c n).1 (.fz x.2 c) (Nat.beq x.1 n)).vc = _
    cases Nat.beq x.1 n
    · exact ih
    · rfl
def fzA (S : List (Nat × List Nat)) (c : AC) : Nat → AC × Nat := AC.rec (motive := fun _ => Nat → AC × Nat)
  (fun n => (.skip, n))
  (fun Gs n => fzW S (.reg Gs) n)
  (fun Gs n => fzW S (.drw Gs) n)
  (fun _ _ ia ib n => (.seq (ia n).1 (ib (ia n).2).1, (ib (ia n).2).2))
  (fun c J _ _ ia ib n => (.cnd c J (ia n).1 (ib (ia n).2).1, (ib (ia n).2).2))
  (fun id J _ ia n => (.blk id J (ia n).1, (ia n).2))
  (fun L _ ia n => (.lop L (ia n).1, (ia n).2))
  (fun id n => (.exi id, n))
  (fun n => (.ret, n))
  (fun x r L I ps a b n => (.rng x r L I ps a b, n))
  (fun D _ ia n => (.fz D (ia n).1, (ia n).2)) c
theorem fzA_vc (S : List (Nat × List Nat)) : ∀ (c : AC) (n : Nat), (fzA S c n).1.vc = c.vc
  | .skip, _ | .exi _, _ | .ret, _ | .rng .., _ => rfl
  | .reg Gs, n => fzW_vc _ _ S
  | .drw Gs, n => fzW_vc _ _ S
  | .seq a b, n => by
    show VC.seq (fzA S a n).1.vc (fzA S b (fzA S a n).2).1.vc = VC.seq a.vc b.vc
    rw [fzA_vc S a, fzA_vc S b]
  | .cnd c J a b, n => by
    show VC.cond c (fzA S a n).1.vc (fzA S b (fzA S a n).2).1.vc = VC.cond c a.vc b.vc
    rw [fzA_vc S a, fzA_vc S b]
  | .blk id J a, n => by
    show VC.block id (fzA S a n).1.vc = VC.block id a.vc
    rw [fzA_vc S a]
  | .lop L a, n => by
    show VC.loop (fzA S a n).1.vc = VC.loop a.vc
    rw [fzA_vc S a]
  | .fz D a, n => fzA_vc S a n
def unL (fr : List Val) (L : List Nat) : (List (Nat × Val) → AN) → AN := List.rec (motive := fun _ => (List (Nat × Val) → AN) → AN) (fun k => k []) (fun t _ ih k => hdK (drK t fr) (fun v => ih (fun env => k ((t, v) :: env)))) L
theorem psL_inv {N : Nat} : ∀ (ps : List Nat) (vals : List Val) (env : List (Nat × Val)) {k : List (Nat × Val) → AN}, psL ps vals env k ≠ .no → vals.length = ps.length ∧ ∃ env', psL ps vals env k = k env' ∧ setAll (V.mk N env) (ps.zip vals) = V.mk N env'
  | [], [], env, k, _ => ⟨rfl, env, rfl, rfl⟩
  | [], _ :: _, env, k, h => absurd rfl h
  | t :: ps, [], env, k, h => absurd rfl h
  | t :: ps, v :: vals, env, k, h => by
    have e0 : psL (t :: ps) (v :: vals) env k = psL ps vals ((t, v) :: env) k := rfl
    rw [e0] at h ⊢
    obtain ⟨h1, env', h2, h3⟩ := psL_inv ps vals ((t, v) :: env) h
    refine ⟨by simp [h1], env', h2, ?_⟩
    rw [List.zip_cons_cons, setAll, mk_set]
    exact h3
theorem unL_inv {fr : List Val} : ∀ (L : List Nat) {k : List (Nat × Val) → AN}, unL fr L k ≠ .no → ∃ env, unL fr L k = k env ∧ ∀ t, lk t env = .junk ∨ lk t env = fr.getD t .undef
  | [], k, _ => ⟨[], rfl, fun t => .inl rfl⟩
  | t :: L, k, h => by
    have e0 : unL fr (t :: L) k = hdK (drK t fr) (fun v => unL fr L (fun env => k ((t, v) :: env))) := rfl
    rw [e0] at h ⊢
    obtain ⟨v, h1, h2⟩ := hdK_inv h
    rw [h2] at h ⊢
    obtain ⟨env, h3, h4⟩ := unL_inv L h
    refine ⟨(t, v) :: env, h3, fun t' => ?_⟩
    rw [lk]
    by_cases e : t' = t
    · subst e
      rw [if_pos rfl]
      right
      rw [List.getD_eq_getElem?_getD, h1]; rfl
    · rw [if_neg e]; exact h4 t'
def isR0 (p : Heap) (j : Nat) (k : AN) : AN := rndK p j (fun st => ifB (Nat.beq st (nat_lit 0)) k)
theorem isR0_inv {p : Heap} {j : Nat} {k : AN} (h : isR0 p j k ≠ .no) : p.get j = some (.rnd 0) ∧ isR0 p j k = k := by
  unfold isR0 at h ⊢
  obtain ⟨st, h1, h2⟩ := rndK_inv h
  rw [h2] at h ⊢
  obtain ⟨h3, h4⟩ := beq_inv h
  subst h3
  exact ⟨h1, h4⟩
def endR (j : Nat) (k : List Val → Heap → AN) : EK := fun ex _ p => rndK p j (fun _ => Ex.rec (motive := fun _ => AN) (putK p j (some (.rnd (nat_lit 0))) (fun p => k [.bool true] p)) (fun i => putK p j (some (.rnd (Nat.add i (nat_lit 3)))) (fun p => k [.bool false] p)) (putK p j (some (.rnd (nat_lit 2))) (fun p => k [.bool false] p)) ex)
def rdF (m : TypeId → Val → String → Option (FuncId × Val)) (T : List Ce) (N fu : Nat) (ps L : List Nat) (ca cb : AC) : FT := fun p args k => hd args (fun pj s => ptrK pj (fun j _ => hd s (fun tv fr => tupK tv (fun vals => ifB (Nat.beq (lenF fr) N) (ifB (Nat.ble p.floor j) (isR0 p j (unL fr L (fun env0 => psL ps vals env0 (fun env1 => X m T N fu ca env1 p (fun ex env p1 => Ex.rec (motive := fun _ => AN) (isR0 p1 j (putK p1 j (some (.rnd (nat_lit 1))) (fun p2 => X m T N fu cb env p2 (endR j k)))) n1 .no ex))))))))) n2)
theorem setAllR' {h : Heap} {F : Nat → Prop} {σ : Sg} (ps : List Nat) {vs vs' fr fr' : List Val} (a : Rs h F σ vs vs') (b : Rs h F σ fr fr') : Rs h F σ (setAll fr (ps.zip vs)) (setAll fr' (ps.zip vs')) := setAllR ps a b
theorem FO.rd {E : Env} {r : Nat} {rd : Rnd} {T : List Ce} {fu N : Nat} {L : List Nat} {F : FT} (hm : MethSim E.meth) (hT : TOk E T) (hrd : E.rnd r = some rd) (hp : E.prims (big + r) = none) (hf : E.fns (big + r) = none) (ca cb : AC) (hca : ca.vc = rd.a) (hcb : cb.vc = rd.b) (hoa : ca.ok = true) (hob : cb.ok = true)
    (hF : ∀ p args k, F p args k = rdF E.meth T N fu rd.ps L ca cb p args k) : FO E (big + r) F := by
  intro p args k h
  rw [hF] at h ⊢
  unfold rdF at h ⊢
  cases args with
  | nil => exact absurd rfl h
  | cons pj s =>
  have h' : ptrK pj (fun j _ => hd s (fun tv fr => tupK tv (fun vals => ifB (Nat.beq (lenF fr) N) (ifB (Nat.ble p.floor j) (isR0 p j (unL fr L (fun env0 => psL rd.ps vals env0 (fun env1 => X E.meth T N fu ca env1 p (fun ex env p1 => Ex.rec (motive := fun _ => AN) (isR0 p1 j (putK p1 j (some (.rnd (nat_lit 1))) (fun p2 => X E.meth T N fu cb env p2 (endR j k)))) n1 .no ex))))))))) n2 ≠ .no := h
  rcases ptrK_inv h' with ⟨j, o, rfl, e2⟩ | ⟨_, _, _, e2⟩
  rotate_left
  · rw [e2] at h'; exact absurd rfl h'
  have goal : ∀ z, (∃ r_1 p', z = k r_1 p' ∧ SimC E (big + r) (.ptr j o :: s) p (resultOf r_1) p') → ptrK (Val.ptr j o) (fun j _ => hd s (fun tv fr => tupK tv (fun vals => ifB (Nat.beq (lenF fr) N) (ifB (Nat.ble p.floor j) (isR0 p j (unL fr L (fun env0 => psL rd.ps vals env0 (fun env1 => X E.meth T N fu ca env1 p (fun ex env p1 => Ex.rec (motive := fun _ => AN) (isR0 p1 j (putK p1 j (some (.rnd (nat_lit 1))) (fun p2 => X E.meth T N fu cb env p2 (endR j k)))) n1 .no ex))))))))) n2 = z → ∃ r_1 p', ptrK (Val.ptr j o) (fun j _ => hd s (fun tv fr => tupK tv (fun vals => ifB (Nat.beq (lenF fr) N) (ifB (Nat.ble p.floor j) (isR0 p j (unL fr L (fun env0 => psL rd.ps vals env0 (fun env1 => X E.meth T N fu ca env1 p (fun ex env p1 => Ex.rec (motive := fun _ => AN) (isR0 p1 j (putK p1 j (some (.rnd (nat_lit 1))) (fun p2 => X E.meth T N fu cb env p2 (endR j k)))) n1 .no ex))))))))) n2 = k r_1 p' ∧ SimC E (big + r) (.ptr j o :: s) p (resultOf r_1) p' := fun z hz he => by rw [he]; exact hz
  refine goal _ ?_ e2
  rw [e2] at h'
  cases s with
  | nil => exact absurd rfl h'
  | cons tv fr =>
  have h2 : tupK tv (fun vals => ifB (Nat.beq (lenF fr) N) (ifB (Nat.ble p.floor j) (isR0 p j (unL fr L (fun env0 => psL rd.ps vals env0 (fun env1 => X E.meth T N fu ca env1 p (fun ex env p1 => Ex.rec (motive := fun _ => AN) (isR0 p1 j (putK p1 j (some (.rnd (nat_lit 1))) (fun p2 => X E.meth T N fu cb env p2 (endR j k)))) n1 .no ex))))))) ≠ .no := h'
  show ∃ r_1 p', tupK tv (fun vals => ifB (Nat.beq (lenF fr) N) (ifB (Nat.ble p.floor j) (isR0 p j (unL fr L (fun env0 => psL rd.ps vals env0 (fun env1 => X E.meth T N fu ca env1 p (fun ex env p1 => Ex.rec (motive := fun _ => AN) (isR0 p1 j (putK p1 j (some (.rnd (nat_lit 1))) (fun p2 => X E.meth T N fu cb env p2 (endR j k)))) n1 .no ex))))))) = k r_1 p' ∧ _
  obtain ⟨vals, rfl, e3⟩ := tupK_inv h2
  rw [e3] at h2 ⊢
  obtain ⟨hN, e4⟩ := beq_inv h2
  rw [e4] at h2 ⊢
  rw [lenF_eq] at hN
  obtain ⟨hfl, e5⟩ := ble_inv h2
  rw [e5] at h2 ⊢
  obtain ⟨hg, e6⟩ := isR0_inv h2
  rw [e6] at h2 ⊢
  obtain ⟨env0, e7, hun⟩ := unL_inv L h2
  rw [e7] at h2 ⊢
  obtain ⟨hlen, env1, e8, hset⟩ := psL_inv (N := N) rd.ps vals env0 h2
  rw [e8] at h2 ⊢
  obtain ⟨ex, env2, p1, _, e9, s1⟩ := X_ok hm hT ca hoa h2
  rw [e9] at h2 ⊢
  cases ex with
  | exit i => exact absurd rfl h2
  | ret => exact absurd rfl h2
  | normal =>
  have h3 : isR0 p1 j (putK p1 j (some (.rnd 1)) (fun p2 => X E.meth T N fu cb env2 p2 (endR j k))) ≠ .no := h2
  show ∃ r_1 p', isR0 p1 j (putK p1 j (some (.rnd 1)) (fun p2 => X E.meth T N fu cb env2 p2 (endR j k))) = k r_1 p' ∧ _
  obtain ⟨hg1, e10⟩ := isR0_inv h3
  rw [e10, putK_eq] at h3 ⊢
  obtain ⟨ex, env3, p3, _, e11, s3⟩ := X_ok hm hT cb hob h3
  rw [e11] at h3 ⊢
  unfold endR at h3 ⊢
  obtain ⟨st, hg3, e12⟩ := rndK_inv h3
  rw [e12]
  have hend : (Ex.rec (motive := fun _ => AN) (putK p3 j (some (.rnd 0)) (fun p => k [.bool true] p)) (fun i => putK p3 j (some (.rnd (Nat.add i 3))) (fun p => k [.bool false] p)) (putK p3 j (some (.rnd 2)) (fun p => k [.bool false] p)) ex) = k [.bool ex.isNormal] (p3.put j (some (.rnd ex.code))) := by
    cases ex <;> exact putK_eq _ _ _ _
  rw [hend]
  refine ⟨_, _, rfl, fun h F' σ args' hr ha => ?_⟩
  simp only [Rs] at ha
  obtain ⟨_, _, rfl, b1, _, fr', rfl, b2, b3⟩ := ha
  simp only [Rv] at b1 b2
  obtain ⟨j', hj, rfl⟩ := b1
  obtain ⟨vals', rfl, b2⟩ := b2
  obtain ⟨g1, g2, _⟩ := hr.rnd hj hfl hg 1
  have hlen' : vals'.length = rd.ps.length := by rw [b2.length]; exact hlen
  have hfr : Rs h F' σ (V.mk N env0) fr' := by
    refine .of_getD (by rw [b3.length, mk_length, hN]) fun t => ?_
    have hgt := b3.getD t
    by_cases ht : t < N
    · rw [mk_getD ht]
      rcases hun t with e | e
      · rw [e]; simp only [Rv]
      · rw [e]; exact hgt
    · have e1 : (V.mk N env0).getD t .undef = fr.getD t .undef := by
        simp [V.mk, List.getD_eq_getElem?_getD, ht, List.getElem?_eq_none (show fr.length ≤ t by omega)]
      rw [e1]; exact hgt
  have hst := setAllR' rd.ps b2 hfr
  rw [hset] at hst
  obtain ⟨n, fr1', h1, F1, σ1, x1, t1, r1⟩ := s1 h F' σ _ hr hst
  rw [hca] at x1
  have hj1 : σ1 j = some j' := t1.sg _ _ hj
  have hfl1 : p1.floor ≤ j := by rw [t1.pe.floor]; exact hfl
  obtain ⟨g3, _, t2⟩ := t1.hr.rnd hj1 hfl1 hg1 1
  obtain ⟨m, fr2', h2', F2, σ2, x2, t3, r2⟩ := s3 _ F1 σ1 fr1' t2.hr (t2.rs r1)
  rw [hcb] at x2
  have hj2 : σ2 j = some j' := t3.sg _ _ hj1
  have hfl3 : p3.floor ≤ j := by rw [t3.pe.floor, t2.pe.floor]; exact hfl1
  obtain ⟨g4, _, t4⟩ := t3.hr.rnd hj2 hfl3 hg3 ex.code
  refine ⟨max n m, .bool ex.isNormal, _, F2, σ2, ?_, ((t1.trans t2).trans t3).trans t4, by simp only [resultOf, Rv]⟩
  unfold run callF
  rw [hp]; simp only; rw [hf]; simp only
  rw [if_neg (Nat.not_lt.2 (Nat.le_add_right big r)), Nat.add_sub_cancel_left, hrd]
  simp only
  unfold roundF
  rw [if_pos ⟨hlen', g2⟩, g1]
  simp only
  rw [exec_mono (Nat.le_max_left n m) _ _ _ _ x1]
  simp only
  rw [g3]
  simp only
  rw [exec_mono (Nat.le_max_right n m) _ _ _ _ x2]
  simp only
  rw [g4]
abbrev fnS (v : Val) (g : FuncId) (k : List Val → List Val → AN) : AN := View.rec (motive := fun _ => AN) n1 n2 n1 n2 n2 n5 n3 .no (fun f a c => match f with
  | .func x => ifS (Nat.beq x g) (k a c)
  | _ => .no) n1 n1 .no .no .no (viewC v)
theorem fnS_inv {v : Val} {g : FuncId} {k : List Val → List Val → AN} (h : fnS v g k ≠ .no) : ∃ a c, v = .func (.func g) a c ∧ fnS v g k = k a c := by
  cases v with
  | func f a c =>
    cases f with
    | func x =>
      have h' : ifS (Nat.beq x g) (k a c) ≠ .no := h
      obtain ⟨h1, h2⟩ := ifS_inv h'
      have := Nat.eq_of_beq_eq_true h1
      subst this
      exact ⟨a, c, rfl, h2⟩
    | _ => exact absurd rfl h
  | _ => exact absurd rfl h
def apV (a b : List Val) : List Val := List.rec (motive := fun _ => List Val) b (fun x _ ih => x :: ih) a
theorem apV_eq (b : List Val) : ∀ a : List Val, apV a b = a ++ b
  | [] => rfl
  | x :: a => congrArg (x :: ·) (apV_eq b a)
abbrev dfK (nor : List (Nat × Val) → Heap → AN) : EK := fun ex env p => Ex.rec (motive := fun _ => AN) (nor env p) n1 (nor env p) ex
theorem dfK_inv {nor : List (Nat × Val) → Heap → AN} {ex : Ex} {env : List (Nat × Val)} {p : Heap} (h : dfK nor ex env p ≠ .no) : (∀ i, ex ≠ .exit i) ∧ dfK nor ex env p = nor env p := by
  cases ex with
  | exit i => exact absurd rfl h
  | normal => exact ⟨fun i q => (by cases q), rfl⟩
  | ret => exact ⟨fun i q => (by cases q), rfl⟩
theorem FO.dfr {E : Env} {f g : FuncId} {df : DFn} {vg : VFn} {T : List Ce} {fu np ng : Nat} {F : FT} (hm : MethSim E.meth) (hT : TOk E T) (hd : E.dfr f = some df) (hp : E.prims f = none) (hf : E.fns f = none) (hb : f < big) (hpg : E.prims g = none) (hvg : E.fns g = some vg) (hpl : vg.body.plain = true) (c1 c2 c3 : AC) (h1c : c1.vc = df.pre) (h2c : c2.vc = df.body) (h3c : c3.vc = vg.body) (ho : (c1.ok && (c2.ok && c3.ok)) = true) (hn : np ≤ df.ntmps) (hng : ng ≤ vg.ntmps)
    (hF : ∀ p args k, F p args k = agX np 0 args (fun env => X E.meth T df.ntmps fu c1 env p (fun ex env1 p1 => Ex.rec (motive := fun _ => AN) (fnS (evE df.ntmps env1 (.t df.t)) g (fun a c => X E.meth T df.ntmps fu c2 env1 p1 (dfK (fun env2 p2 => agX ng 0 (apV a c) (fun env3 => X E.meth T vg.ntmps fu c3 env3 p2 (dfK (fun env4 p3 => rdX vg.ntmps vg.results env4 p3 (fun _ => rdX df.ntmps df.results env2 p3 (fun l => k l p3)))))))) ) n1 .no ex))) : FO E f F := by
  intro p args k h
  rw [hF] at h ⊢
  simp only [Bool.and_eq_true] at ho
  obtain ⟨hl, e1⟩ := agX_inv np 0 args h
  rw [e1] at h ⊢
  obtain ⟨ex, env1, p1, _, e2, s1⟩ := X_ok hm hT c1 ho.1 h
  rw [e2] at h ⊢
  cases ex with
  | exit i => exact absurd rfl h
  | ret => exact absurd rfl h
  | normal =>
  obtain ⟨a, c, hv, e3⟩ := fnS_inv h
  have h0 := fun q => h (e3.trans q)
  obtain ⟨ex2, env2, p2, _, e4, s2⟩ := X_ok hm hT c2 ho.2.1 h0
  rw [e4] at h0
  obtain ⟨hx2, e5⟩ := dfK_inv h0
  rw [e5, apV_eq] at h0
  obtain ⟨hlg, e6⟩ := agX_inv ng 0 (a ++ c) h0
  rw [e6] at h0
  obtain ⟨ex3, env4, p3, _, e7, s3⟩ := X_ok hm hT c3 ho.2.2 h0
  rw [e7] at h0
  obtain ⟨hx3, e8⟩ := dfK_inv h0
  rw [e8] at h0
  obtain ⟨l1, hl1, e9⟩ := rdX_inv vg.results h0
  rw [e9] at h0
  obtain ⟨l2, hl2, e10⟩ := rdX_inv df.results h0
  refine ⟨l2, p3, ?_, fun h F' σ args' hr ha => ?_⟩
  · refine e3.trans (e4.trans (e5.trans ?_))
    rw [apV_eq]
    exact e6.trans (e7.trans (e8.trans (e9.trans e10)))
  obtain ⟨n, fr1', h1, F1, σ1, x1, t1, r1⟩ := s1 h F' σ _ hr (ha.enter (by omega))
  have hcl := r1.getD df.t
  have hv' : (V.mk df.ntmps env1).getD df.t .undef = .func (.func g) a c := by rw [evE_eq] at hv; exact hv
  rw [hv'] at hcl
  simp only [Rv] at hcl
  obtain ⟨fi, ca, hcl, rf, rc⟩ := hcl
  obtain ⟨m, fr2', h2, F2, σ2, x2, t2, r2⟩ := s2 h1 F1 σ1 fr1' t1.hr r1
  obtain ⟨q, fr3', h3, F3, σ3, x3, t3, r3⟩ := s3 h2 F2 σ2 _ t2.hr (((t2.rs rf).append (t2.rs rc)).enter (by omega))
  obtain ⟨l1', hl1', _⟩ := readResultsR t3.hr r3 vg.results hl1
  obtain ⟨l2', hl2', rl⟩ := readResultsR t3.hr (t3.rs r2) df.results hl2
  rw [h1c] at x1
  rw [h2c] at x2
  rw [h3c] at x3
  refine ⟨max n (max m q), _, h3, F3, σ3, ?_, (t1.trans t2).trans t3, resultOfR rl⟩
  unfold run callF
  rw [hp]; simp only; rw [hf]; simp only
  rw [if_pos hb, hd]
  simp only
  unfold deferF
  rw [exec_mono (Nat.le_max_left n _) _ _ _ _ x1]
  simp only
  rw [hcl]
  simp only
  rw [hpg, hvg]
  simp only
  have x2' := exec_mono (Nat.le_trans (Nat.le_max_left m q) (Nat.le_max_right n _)) _ _ _ _ x2
  have x3' := exec_mono (Nat.le_trans (Nat.le_max_right m q) (Nat.le_max_right n _)) _ _ _ _ x3
  rw [x2']
  have main : (match exec E (max n (max m q)) vg.body (enter vg.ntmps (fi ++ ca)) h2 with
      | some (.exit _, _, _) => none
      | some (_, fr3, h3) => match vg.body.plain, readResults fr3 h3 vg.results, readResults fr2' h3 df.results with
        | true, some _, some l => some (resultOf l, h3)
        | _, _, _ => none
      | none => none) = some (resultOf l2', h3) := by
    rw [x3']
    cases ex3 with
    | exit i => exact absurd rfl (hx3 i)
    | normal => simp only; rw [hpl, hl1', hl2']
    | ret => simp only; rw [hpl, hl1', hl2']
  cases ex2 with
  | exit i => exact absurd rfl (hx2 i)
  | normal => exact main
  | ret => exact main
theorem tnil {E : Env} : TOk E [] := fun e h => by cases h
theorem tcons {E : Env} {e : Ce} {T : List Ce} (h : CallOk E e.f e.c) (t : TOk E T) : TOk E (e :: T) := fun x hx => by
  rcases List.mem_cons.1 hx with rfl | hx
  · exact h
  · exact t x hx
def fuel : Nat := nat_lit 1000000
def depth : Nat := nat_lit 10000
end
end Go.V
end

section
set_option linter.unusedVariables false
set_option linter.unusedSimpArgs false
set_option linter.unusedSectionVars false
namespace Go.V
def rndsL : VC → List (Nat × Rnd)
  | .seq a b => rndsL a ++ rndsL b
  | .cond _ a b => rndsL a ++ rndsL b
  | .block _ a => rndsL a
  | .loop a => rndsL a
  | .range _ r ps a b => [(r, ⟨ps, a, b⟩)]
  | _ => []
def lookR (r : Nat) : List (Nat × Rnd) → Option Rnd
  | [] => none
  | (i, x) :: l => if i = r then some x else lookR r l
def uniqR : List (Nat × Rnd) → Bool
  | [] => true
  | (i, _) :: l => l.all (fun y => decide (y.1 ≠ i)) && uniqR l
theorem lookR_mem : ∀ {l : List (Nat × Rnd)} {r : Nat} {x : Rnd}, uniqR l = true → (r, x) ∈ l → lookR r l = some x
  | [], _, _, _, h => by cases h
  | (i, y) :: l, r, x, u, h => by
    simp only [uniqR, Bool.and_eq_true, List.all_eq_true, decide_eq_true_eq] at u
    rcases List.mem_cons.1 h with h | h
    · cases h; simp [lookR]
    · have := u.1 _ h
      simp only [lookR]
      rw [if_neg (fun q => this q.symm)]
      exact lookR_mem u.2 h
theorem known_of {E : Env} : ∀ c : VC, (∀ r x, (r, x) ∈ rndsL c → E.rnd r = some x) → c.known E
  | .seq a b, h => ⟨known_of a fun r x q => h r x (List.mem_append.2 (.inl q)), known_of b fun r x q => h r x (List.mem_append.2 (.inr q))⟩
  | .cond _ a b, h => ⟨known_of a fun r x q => h r x (List.mem_append.2 (.inl q)), known_of b fun r x q => h r x (List.mem_append.2 (.inr q))⟩
  | .block _ a, h => known_of a h
  | .loop a, h => known_of a h
  | .range _ r ps a b, h => h r _ (List.mem_singleton.2 rfl)
  | .skip, _ => trivial
  | .exit _, _ => trivial
  | .region _, _ => trivial
  | .draw _, _ => trivial
  | .ret, _ => trivial
noncomputable def fnP (P : Program) (n : Nat) (f : FuncId) : Option VFn := if f < n then match P.funcs[f]? with
  | some fn => match cFn P (some (1000 * f)) fn with
    | some vf => if (uniqR (rndsL vf.body) && (rndsL vf.body).all (fun y => decide (y.1 / 1000 = f))) = true then some vf else none
    | none => none
  | none => none else none
noncomputable def rnP (P : Program) (n : Nat) (r : Nat) : Option Rnd := match fnP P n (r / 1000) with
  | some vf => lookR r (rndsL vf.body)
  | none => none
noncomputable def dfP (P : Program) (n : Nat) (f : FuncId) : Option DFn := if f < n then match P.funcs[f]? with
  | some fn => match fnP P n f with
    | some _ => none
    | none => cDfn P fn
  | none => none else none
noncomputable def mtP (P : Program) (n : Nat) (t : TypeId) (name : String) : Option FuncId := match P.info? t with
  | some i => match i.methods.find? (·.name == name) with
    | some m => match m.func, P.underlying t with
      | some (_, true), _ => none
      | some (_, false), none => none
      | some (_, false), some (.pointer _) => none
      | some (f, false), some _ => if (m.path.toList.isEmpty && Nat.ble (Nat.succ f) n) = true then some f else none
      | none, _ => none
    | none => none
  | none => none
noncomputable def mtW (P : Program) (n : Nat) (t : TypeId) (v : Val) (name : String) : Option (FuncId × Val) := match mtP P n t name with
  | some f => some (f, v)
  | none => none
theorem mtP_spec {P : Program} {n : Nat} {t : TypeId} {name : String} {f : FuncId} (h : mtP P n t name = some f) : f < n ∧ ∃ i m d, P.info? t = some i ∧ i.methods.find? (·.name == name) = some m ∧ m.func = some (f, false) ∧ P.underlying t = some d ∧ (∀ e, d ≠ .pointer e) ∧ m.path.toList = [] := by
  unfold mtP at h
  split at h
  · rename_i i hi
    split at h
    · rename_i m hm
      split at h
      · cases h
      · cases h
      · cases h
      · rename_i f' d hnp hf hd
        split at h
        · rename_i hc
          cases h
          simp only [Bool.and_eq_true, List.isEmpty_iff] at hc
          exact ⟨Nat.le_of_ble_eq_true hc.2, i, m, d, hi, hm, hf, hd, fun e q => hnp e (by rw [q]), hc.1⟩
        · cases h
      · cases h
    · cases h
  · cases h
theorem mtW_sound [Gd] {P : Program} {n : Nat} (hn : n ≤ big) : MethSound P (mtW P n) := by
  intro t v name f r h
  unfold mtW at h
  split at h
  · rename_i f' hq
    cases h
    obtain ⟨h1, i, m, d, hi, hm, hf, hd, hp, hpa⟩ := mtP_spec hq
    refine ⟨Nat.lt_of_lt_of_le h1 hn, fun ρ vv w hv => ⟨⟨vv, ?_, hv⟩, ?_⟩⟩
    · obtain ⟨k, hk⟩ : ∃ k, P.types.size + Made.depth = k + 1 := ⟨P.types.size + 99, rfl⟩
      rw [hk]
      generalize k = k
      cases d with
      | pointer e => exact absurd rfl (hp e)
      | _ => simp [method, run_typeInfo_of hi, hm, hpa, follow, hf, receiverAt, run_underlying hd, Place.get]
    · obtain ⟨k, hk⟩ : ∃ k, P.types.size + Made.depth = k + 1 := ⟨P.types.size + 99, rfl⟩
      rw [hk]
      generalize k = k
      cases d with
      | pointer e => exact absurd rfl (hp e)
      | _ => simp [nilAhead, run_typeInfo_of hi, hm, hpa, followBlind, hf, run_underlying hd]
  · cases h
theorem mtW_sim {P : Program} {n : Nat} : MethSim (mtW P n) := by
  intro h F σ t v v' name f r hv e
  unfold mtW at e ⊢
  split at e
  · rename_i f' hq
    cases e
    exact ⟨v', rfl, hv⟩
  · cases e
noncomputable def EW (P : Program) (n : Nat) : Env := ⟨fnP P n, fun _ => none, mtW P n, rnP P n, dfP P n⟩
noncomputable def nameB (P : Program) (n : Nat) : Bool := (List.range n).all fun f => match P.funcs[f]? with
  | some fn => !(fn.name == "runtime.NumGoroutine")
  | none => true
theorem fnP_spec {P : Program} {n f : Nat} {vf : VFn} (h : fnP P n f = some vf) : f < n ∧ ∃ fn, P.funcs[f]? = some fn ∧ cFn P (some (1000 * f)) fn = some vf ∧ uniqR (rndsL vf.body) = true ∧ ∀ y ∈ rndsL vf.body, y.1 / 1000 = f := by
  unfold fnP at h
  split at h
  · rename_i hf
    split at h
    · rename_i fn h1
      split at h
      · rename_i v h2
        split at h
        · rename_i h3
          cases h
          simp only [Bool.and_eq_true, List.all_eq_true, decide_eq_true_eq] at h3
          exact ⟨hf, fn, h1, h2, h3.1, h3.2⟩
        · cases h
      · cases h
    · cases h
  · cases h
theorem nameB_spec {P : Program} {n f : Nat} {fn : Func} (h : nameB P n = true) (hf : f < n) (e : P.funcs[f]? = some fn) : (fn.name == "runtime.NumGoroutine") = false := by
  unfold nameB at h
  rw [List.all_eq_true] at h
  have := h f (List.mem_range.2 hf)
  rw [e] at this
  simpa using this
theorem envW (P : Program) (n : Nat) (hn : n ≤ big) (hk : nameB P n = true) : @EnvOk (gdOf P (EW P n)) P (EW P n) := by
  letI := gdOf P (EW P n)
  refine ⟨mtW_sound hn, ?_, fun f p h => (by cases h), ?_, fun e => Iff.rfl, fun r ps x y => Iff.rfl⟩
  · intro f vf h
    obtain ⟨h1, fn, h2, h3, h4, h5⟩ := fnP_spec h
    have hb : fn.body.isSome = true := by
      unfold cFn at h3
      cases e : fn.body with
      | none => rw [e] at h3; cases h3
      | some c => rfl
    refine ⟨Nat.lt_of_lt_of_le h1 hn, fn, _, ⟨h2, hb, nameB_spec hk h1 h2⟩, h3, known_of _ fun r x hr => ?_⟩
    show rnP P n r = some x
    unfold rnP
    have := h5 _ hr
    simp only at this
    rw [this, show fnP P n f = some vf from h]
    exact lookR_mem h4 hr
  · intro f df h
    have h' : dfP P n f = some df := h
    unfold dfP at h'
    split at h'
    · rename_i hf
      split at h'
      · rename_i fn h2
        split at h'
        · cases h'
        · have hb : fn.body.isSome = true := by
            unfold cDfn at h'
            cases e : fn.body with
            | none => rw [e] at h'; cases h'
            | some c => rfl
          exact ⟨Nat.lt_of_lt_of_le hf hn, fn, ⟨h2, hb, nameB_spec hk hf h2⟩, h'⟩
      · cases h'
    · cases h'
noncomputable section
def tru (v : Val) : Bool := View.rec (motive := fun _ => Bool) (fun b => b) (fun _ _ => false) (fun _ => false) (fun _ _ => false) (fun _ _ => false) (fun _ _ _ _ _ => false) (fun _ _ _ => false) false (fun _ _ _ => false) (fun _ => false) (fun _ => false) false false false (viewC v)
theorem tru_eq {v : Val} (h : tru v = true) : v = .bool true := by
  cases v with
  | bool b => cases b with
    | true => rfl
    | false => cases h
  | _ => cases h
def lawK (F : FT) : AN := F heapK [] (fun r _ => .ok false r)
def isT (a : AN) : Bool := AN.rec (motive := fun _ => Bool) false (fun _ l => List.rec (motive := fun _ => Bool) false (fun v r _ => List.rec (motive := fun _ => Bool) (tru v) (fun _ _ _ => false) r) l) a
theorem isT_eq {a : AN} (h : isT a = true) : ∃ s, a = .ok s [.bool true] := by
  cases a with
  | no => cases h
  | ok s l => cases l with
    | nil => cases h
    | cons v r => cases r with
      | cons _ _ => cases h
      | nil => exact ⟨s, by rw [tru_eq (show tru v = true from h)]⟩
theorem law_run {E : Env} {f : FuncId} {F : FT} (hF : FO E f F) (h : isT (lawK F) = true) : ∃ n h2, run E n f [] heap0 = some (.bool true, h2) := by
  obtain ⟨s, e⟩ := isT_eq h
  obtain ⟨r, p', h1, h2⟩ := hF heapK [] (fun r _ => .ok false r) (by rw [show F heapK [] _ = _ from e]; intro q; cases q)
  have e' : lawK F = .ok false r := h1
  rw [e] at e'
  cases e'
  obtain ⟨n, v', h', F2, σ2, e2, _, rv⟩ := h2 heap0 _ _ [] (HR.self (fun b _ => by cases b <;> rfl) (fun b _ => rfl) (Nat.le_refl _) (fun b k q => by rw [show heapK = heap0 from rfl, heap0_get] at q; cases q)) (.self [] (by simp [Val.liesL]))
  exact ⟨n, h', by rw [e2, Rv.bool_eq rv]⟩
end
end Go.V
end

section
set_option linter.unusedVariables false
set_option linter.unusedSimpArgs false
set_option linter.unusedSectionVars false
namespace Go.V
noncomputable section
def outA (u : List Nat) (p : Heap) (r : List Val) : AN := List.rec (motive := fun _ => AN) (outK false p r (fun l => .ok false l)) (fun _ _ _ => orA (outK true p r (fun l => .ok true l)) (outK false p r (fun l => .ok false l))) u
theorem outA_inv {u : List Nat} {p : Heap} {r : List Val} {st : Bool} {l : List Val} (e : outA u p r = .ok st l) : outO st p r = some l := by
  have key : ∀ s : Bool, outK s p r (fun l => .ok s l) = .ok st l → outO st p r = some l := by
    intro s h3
    obtain ⟨l', h4, h5⟩ := outK_inv (k := fun l => .ok s l) (by rw [h3]; intro q; cases q)
    rw [h5] at h3
    cases h3
    exact h4
  cases u with
  | nil => exact key false e
  | cons b u =>
    have e' : orA (outK true p r (fun l => .ok true l)) (outK false p r (fun l => .ok false l)) = .ok st l := e
    cases h3 : outK true p r (fun l => .ok true l) with
    | no =>
      rw [h3] at e'
      exact key false e'
    | ok s' l' =>
      rw [h3] at e'
      have h4 : AN.ok s' l' = .ok st l := e'
      cases h4
      exact key true h3
def cn1 (p : Heap) (k : Val → Heap → AN) (u : List Nat) (r : List Val) (p' : Heap) : AN := List.rec (motive := fun _ => AN) (outK false p' r (fun l => otcK false l p [] k)) (fun _ _ _ => anK (outA u p' r) (fun st l => otcK st l p u k)) u
def cn (F : FT) : CK := fun p args k => resK p false args (fun a u => F heapK a (cn1 p k u))
theorem cn1_inv {p : Heap} {k : Val → Heap → AN} {u : List Nat} {r : List Val} {p' : Heap} (h : cn1 p k u r p' ≠ .no) : ∃ st l, outO st p' r = some l ∧ cn1 p k u r p' = otcK st l p u k := by
  cases u with
  | nil =>
    have e : cn1 p k [] r p' = outK false p' r (fun l => otcK false l p [] k) := rfl
    rw [e] at h ⊢
    obtain ⟨l, h1, h2⟩ := outK_inv h
    exact ⟨false, l, h1, h2⟩
  | cons b u =>
    have e : cn1 p k (b :: u) r p' = anK (outA (b :: u) p' r) (fun st l => otcK st l p (b :: u) k) := rfl
    rw [e] at h ⊢
    obtain ⟨st, l, h1, h2⟩ := anK_inv h
    exact ⟨st, l, outA_inv h1, h2⟩
theorem cn_ok {E : Env} {f : FuncId} {F : FT} (hF : FO E f F) : CallOk E f (cn F) := by
  intro p args k h
  unfold cn at h ⊢
  obtain ⟨a, u, h1, h2⟩ := resK_inv h
  rw [h2] at h ⊢
  obtain ⟨r, p', h3, h4⟩ := hF heapK a _ h
  rw [h3] at h ⊢
  obtain ⟨st, l, h5, h6⟩ := cn1_inv h
  rw [h6] at h ⊢
  obtain ⟨v, q', h7, h8⟩ := otcK_inv h
  have pc : PC E f a st l := by
    refine ⟨⟨fun h F' σ args' ks' hr ha hk => ?_⟩⟩
    obtain ⟨n, v', h', F2, σ2, e2, s, rv⟩ := h4 h F' σ args' hr ha
    exact ⟨n, v', h', _, [], p', F2, σ2, e2, s.far, s.hr, rv, hk, r, rfl, h5⟩
  exact ⟨v, q', h8, fun h F' σ args' hr ha => pc.sim hr ha h1 h7⟩
end
end Go.V
end

section
set_option linter.unusedVariables false
set_option linter.unusedSimpArgs false
set_option linter.unusedSectionVars false
set_option maxRecDepth 100000
namespace Go.V
open Go.Proofs
noncomputable section
noncomputable def prog : Program := Tryz.prog
noncomputable def NF : Nat := nat_lit 400
noncomputable def EN : Env := EW prog NF
theorem msP : MethSim EN.meth := mtW_sim
noncomputable def mth := EN.meth
noncomputable def vv (f : Nat) : VFn := (fnP prog NF f).getD ⟨nat_lit 0, [], .skip⟩
noncomputable def rr (r : Nat) : Rnd := (rnP prog NF r).getD ⟨[], .skip, .skip⟩
noncomputable def dd (f : Nat) : DFn := (dfP prog NF f).getD ⟨nat_lit 0, [], .skip, nat_lit 0, .skip⟩
theorem some_getD {α : Type} {o : Option α} {d : α} (h : o.isSome = true) : o = some (o.getD d) := by
  cases o with
  | none => cases h
  | some x => rfl
noncomputable def okV (f np : Nat) (nt : Nts) : Bool := (fnP prog NF f).isSome && ((ann (vv f).body nt).1.ok && Nat.ble np (vv f).ntmps)
theorem tc {f : FuncId} {c : CK} {T : List Ce} (h : CallOk EN f c) (t : TOk EN T) : TOk EN (⟨f, c⟩ :: T) := tcons h t
theorem fe {f : Nat} (np : Nat) {T : List Ce} {F : FT} (hT : TOk EN T) (nt : Nts) (h : okV f np nt = true) (hF : ∀ p args k, F p args k = agX np 0 args (fun env => X EN.meth T (vv f).ntmps fuel (ann (vv f).body nt).1 env p (endX (vv f).ntmps (vv f).results k))) : FO EN f F := by
  simp only [okV, Bool.and_eq_true] at h
  exact FO.fn msP hT (some_getD h.1) rfl _ (ann_vc _ _) h.2.1 (Nat.le_of_ble_eq_true h.2.2) hF
noncomputable def okF (f np : Nat) (S : List (Nat × List Nat)) (nt : Nts) : Bool := (fnP prog NF f).isSome && ((fzA S (ann (vv f).body nt).1 0).1.ok && Nat.ble np (vv f).ntmps)
theorem ff {f : Nat} (np : Nat) (S : List (Nat × List Nat)) {T : List Ce} {F : FT} (hT : TOk EN T) (nt : Nts) (h : okF f np S nt = true) (hF : ∀ p args k, F p args k = agX np 0 args (fun env => X EN.meth T (vv f).ntmps fuel (fzA S (ann (vv f).body nt).1 0).1 env p (endX (vv f).ntmps (vv f).results k))) : FO EN f F := by
  simp only [okF, Bool.and_eq_true] at h
  exact FO.fn msP hT (some_getD h.1) rfl _ ((fzA_vc _ _ _).trans (ann_vc _ _)) h.2.1 (Nat.le_of_ble_eq_true h.2.2) hF
noncomputable def okR (r : Nat) (na nb : Nts) : Bool := (rnP prog NF r).isSome && ((ann (rr r).a na).1.ok && (ann (rr r).b nb).1.ok)
theorem fnP_big (r : Nat) : EN.fns (big + r) = none := by
  show fnP prog NF (big + r) = none
  unfold fnP
  rw [if_neg]
  have h : NF ≤ big := Nat.le_of_ble_eq_true rfl
  exact fun q => absurd (Nat.lt_of_lt_of_le q h) (Nat.not_lt.2 (Nat.le_add_right big r))
theorem re {r N : Nat} {T : List Ce} {L : List Nat} {F : FT} (hT : TOk EN T) (na nb : Nts) (h : okR r na nb = true) (hF : ∀ p args k, F p args k = rdF EN.meth T N fuel (rr r).ps L (ann (rr r).a na).1 (ann (rr r).b nb).1 p args k) : FO EN (big + r) F := by
  simp only [okR, Bool.and_eq_true] at h
  exact FO.rd msP hT (some_getD h.1) rfl (fnP_big r) _ _ (ann_vc _ _) (ann_vc _ _) h.2.1 h.2.2 hF
noncomputable def okD (f g np ng : Nat) (n1 n2 n3 : Nts) : Bool := (dfP prog NF f).isSome && ((fnP prog NF f).isNone && ((fnP prog NF g).isSome && ((vv g).body.plain && (((ann (dd f).pre n1).1.ok && ((ann (dd f).body n2).1.ok && (ann (vv g).body n3).1.ok)) && (Nat.ble np (dd f).ntmps && (Nat.ble ng (vv g).ntmps && Nat.ble (Nat.succ f) big))))))
theorem de {f g np ng : Nat} {T : List Ce} {F : FT} (hT : TOk EN T) (m1 m2 m3 : Nts) (h : okD f g np ng m1 m2 m3 = true)
    (hF : ∀ p args k, F p args k = agX np 0 args (fun env => X EN.meth T (dd f).ntmps fuel (ann (dd f).pre m1).1 env p (fun ex env1 p1 => Ex.rec (motive := fun _ => AN) (fnS (evE (dd f).ntmps env1 (.t (dd f).t)) g (fun a c => X EN.meth T (dd f).ntmps fuel (ann (dd f).body m2).1 env1 p1 (dfK (fun env2 p2 => agX ng 0 (apV a c) (fun env3 => X EN.meth T (vv g).ntmps fuel (ann (vv g).body m3).1 env3 p2 (dfK (fun env4 p3 => rdX (vv g).ntmps (vv g).results env4 p3 (fun _ => rdX (dd f).ntmps (dd f).results env2 p3 (fun l => k l p3)))))))) ) n1 .no ex))) : FO EN f F := by
  simp only [okD, Bool.and_eq_true] at h
  obtain ⟨h1, h2, h3, h4, ⟨h5, h6, h7⟩, h8, h9, h10⟩ := h
  have hf : EN.fns f = none := by
    show fnP prog NF f = none
    cases e : fnP prog NF f with
    | none => rfl
    | some x => rw [e] at h2; cases h2
  exact FO.dfr msP hT (some_getD h1) rfl hf (Nat.le_of_ble_eq_true h10) rfl (some_getD h3) h4 _ _ _ (ann_vc _ _) (ann_vc _ _) (ann_vc _ _) (Bool.and_eq_true_iff.2 ⟨h5, Bool.and_eq_true_iff.2 ⟨h6, h7⟩⟩) (Nat.le_of_ble_eq_true h8) (Nat.le_of_ble_eq_true h9) hF
end
end Go.V
end

section
set_option maxRecDepth 100000
set_option linter.unusedVariables false
namespace Go.V
noncomputable section
def q0 : Val := (.int .i64 (.ofNat (nat_lit 0)))
def q1 : Val := (.int .u64 (.ofNat (nat_lit 4294967296)))
def q2 : Val := (.int .u64 (.ofNat (nat_lit 32)))
def q3 : Val := (.int .i64 (.ofNat (nat_lit 32)))
def q4 : Val := (.int .u64 (.ofNat (nat_lit 65536)))
def q5 : Val := (.int .u64 (.ofNat (nat_lit 16)))
def q6 : Val := (.int .i64 (.ofNat (nat_lit 16)))
def q7 : Val := (.int .u64 (.ofNat (nat_lit 256)))
def q8 : Val := (.int .u64 (.ofNat (nat_lit 8)))
def q9 : Val := (.int .i64 (.ofNat (nat_lit 8)))
def q10 : Val := (.str [0, 1, 2, 2, 3, 3, 3, 3, 4, 4, 4, 4, 4, 4, 4, 4, 5, 5, 5, 5, 5, 5, 5, 5, 5, 5, 5, 5, 5, 5, 5, 5, 6, 6, 6, 6, 6, 6, 6, 6, 6, 6, 6, 6, 6, 6, 6, 6, 6, 6, 6, 6, 6, 6, 6, 6, 6, 6, 6, 6, 6, 6, 6, 6, 7, 7, 7, 7, 7, 7, 7, 7, 7, 7, 7, 7, 7, 7, 7, 7, 7, 7, 7, 7, 7, 7, 7, 7, 7, 7, 7, 7, 7, 7, 7, 7, 7, 7, 7, 7, 7, 7, 7, 7, 7, 7, 7, 7, 7, 7, 7, 7, 7, 7, 7, 7, 7, 7, 7, 7, 7, 7, 7, 7, 7, 7, 7, 7, 8, 8, 8, 8, 8, 8, 8, 8, 8, 8, 8, 8, 8, 8, 8, 8, 8, 8, 8, 8, 8, 8, 8, 8, 8, 8, 8, 8, 8, 8, 8, 8, 8, 8, 8, 8, 8, 8, 8, 8, 8, 8, 8, 8, 8, 8, 8, 8, 8, 8, 8, 8, 8, 8, 8, 8, 8, 8, 8, 8, 8, 8, 8, 8, 8, 8, 8, 8, 8, 8, 8, 8, 8, 8, 8, 8, 8, 8, 8, 8, 8, 8, 8, 8, 8, 8, 8, 8, 8, 8, 8, 8, 8, 8, 8, 8, 8, 8, 8, 8, 8, 8, 8, 8, 8, 8, 8, 8, 8, 8, 8, 8, 8, 8, 8, 8, 8, 8, 8, 8, 8, 8, 8, 8, 8, 8, 8, 8])
def q11 : Val := (.bool false)
def q12 : Val := (.int .i64 (.ofNat (nat_lit 1)))
def q13 : List Val := [(.int .i64 (.ofNat (nat_lit 0))), (.int .i64 (.ofNat (nat_lit 0)))]
def q14 : List Val := [(.int .i64 (.ofNat (nat_lit 0)))]
def q15 : Val := (.int .i64 (.ofNat (nat_lit 4)))
def q16 : Val := (.int .i64 (.ofNat (nat_lit 2)))
def q17 : Val := (.int .i64 (.ofNat (nat_lit 3)))
def q18 : Val := (.int .i64 (.ofNat (nat_lit 50)))
def q19 : Val := (.int .i64 (.ofNat (nat_lit 12)))
def q20 : Val := (.int .i64 (.ofNat (nat_lit 5)))
def q21 : Val := (.bool true)
def q22 : List Val := [(.str []), (.str []), (.str []), (.str []), (.str []), (.str [])]
def q23 : Val := (.func (.func 36) [] [])
def q24 : Val := (.int .i64 (.ofNat (nat_lit 6)))
def q25 : Val := (.int .u8 (.ofNat (nat_lit 97)))
def q26 : Val := (.int .u8 (.ofNat (nat_lit 122)))
def q27 : Val := (.int .u8 (.ofNat (nat_lit 48)))
def q28 : Val := (.int .u8 (.ofNat (nat_lit 57)))
def q29 : List Val := [(.str []), (.str []), (.str [])]
def q30 : List Val := [(.str []), (.str [])]
def q31 : Val := (.str [])
def q32 : List Val := [.nilf, .nilp]
def q33 : List Val := [(.str []), (.str []), (.str []), (.str []), (.str []), (.str []), .nilp, .nilp, (.int .i64 (.ofNat (nat_lit 0))), (.int .i64 (.ofNat (nat_lit 0)))]
def q34 : Val := (.int .i64 (.negSucc (nat_lit 0)))
def q35 : List Val := [.nilf, .nilp, .nilf, .nilp]
def q36 : Val := (.int .i64 (.ofNat (nat_lit 4096)))
def q37 : Val := (.func (.func 79) [] [])
def q38 : List Val := [(.str []), (.str []), (.str []), (.str []), (.str []), (.str []), (.bool false)]
def q39 : Val := (.str [110, 97, 109, 101, 115, 112, 97, 99, 101])
def q40 : Val := (.str [114, 101, 108, 97, 116, 105, 111, 110])
def q41 : Val := (.str [116, 104, 105, 115])
def q42 : List Val := [(.int .u8 (.ofNat (nat_lit 0))), (.str []), (.int .i64 (.ofNat (nat_lit 0)))]
def q43 : Val := (.int .u8 (.ofNat (nat_lit 2)))
def q44 : Val := (.int .u8 (.ofNat (nat_lit 1)))
def q45 : Val := (.int .u8 (.ofNat (nat_lit 3)))
def q46 : Val := (.int .u8 (.ofNat (nat_lit 45)))
def q47 : Val := (.int .u8 (.ofNat (nat_lit 123)))
def q48 : Val := (.int .u8 (.ofNat (nat_lit 125)))
def q49 : Val := (.int .u8 (.ofNat (nat_lit 91)))
def q50 : Val := (.int .u8 (.ofNat (nat_lit 93)))
def q51 : Val := (.int .u8 (.ofNat (nat_lit 40)))
def q52 : Val := (.int .u8 (.ofNat (nat_lit 41)))
def q53 : Val := (.int .u8 (.ofNat (nat_lit 58)))
def q54 : Val := (.int .u8 (.ofNat (nat_lit 44)))
def q55 : Val := (.int .u8 (.ofNat (nat_lit 59)))
def q56 : Val := (.int .u8 (.ofNat (nat_lit 61)))
def q57 : Val := (.int .u8 (.ofNat (nat_lit 124)))
def q58 : Val := (.int .u8 (.ofNat (nat_lit 38)))
def q59 : Val := (.int .u8 (.ofNat (nat_lit 35)))
def q60 : Val := (.int .i64 (.ofNat (nat_lit 10)))
def q61 : List Val := [(.bool false), (.bool false)]
def q62 : Val := (.int .u8 (.ofNat (nat_lit 4)))
def q63 : Val := (.int .u8 (.ofNat (nat_lit 5)))
def q64 : Val := (.int .u8 (.ofNat (nat_lit 6)))
def q65 : List Val := [(.int .u8 (.ofNat (nat_lit 0))), (.str []), (.str []), .nils, (.bool false)]
def q66 : List Val := [.nils]
def q67 : List Val := [.nilf]
def q68 : List Val := [(.str []), .nils]
def q69 : List Val := [(.str []), .nils, (.int .u8 (.ofNat (nat_lit 0))), (.str []), (.str []), .nils]
def q70 : List Val := [.nils, .nilm, .nilm, .nils, .nils]
def q71 : List Val := [.nilp]
def q72 : List Val := [(.str [])]
def q73 : Val := (.int .i64 (.ofNat (nat_lit 7)))
def q74 : Val := (.int .i64 (.ofNat (nat_lit 11)))
def q75 : List Val := [(.bool false)]
def q76 : List Val := [.nilf, .nilf, .nilf, .nilf]
def q77 : List Val := [(.int .i64 (.ofNat (nat_lit 0))), (.int .i64 (.ofNat (nat_lit 0))), (.int .i64 (.ofNat (nat_lit 0)))]
def q78 : List Val := [(.int .i64 (.ofNat (nat_lit 0))), (.int .i64 (.ofNat (nat_lit 0))), (.bool false)]
def q79 : Val := (.func (.func 209) [] [])
def q80 : List Val := [(.int .i64 (.ofNat (nat_lit 0))), .nils]
def q81 : List Val := [.nilm]
def q82 : Val := (.int .i64 (.ofNat (nat_lit 256)))
def q83 : Val := (.int .i64 (.ofNat (nat_lit 18)))
def q84 : List Val := [.nils, .nils, .nils, .nils, .nils, .nils, .nils, .nils, .nils, .nils, .nils, .nils, .nils, .nils, .nils, .nils, .nils, .nils, .nils, .nils, .nils, .nils, .nils, .nils, .nils, .nils, .nils, .nils, .nils, .nils, .nils, .nils, .nils, .nils, .nils, .nils, .nils, .nils, .nils, .nils, .nils, .nils, .nils, .nils, .nils, .nils, .nils, .nils, .nils, .nils, .nils, .nils, .nils, .nils, .nils, .nils, .nils, .nils, .nils, .nils, .nils, .nils, .nils, .nils, .nils, .nils, .nils, .nils, .nils, .nils, .nils, .nils, .nils, .nils, .nils, .nils, .nils, .nils, .nils, .nils, .nils, .nils, .nils, .nils, .nils, .nils, .nils, .nils, .nils, .nils, .nils, .nils, .nils, .nils, .nils, .nils, .nils, .nils, .nils, .nils, .nils, .nils, .nils, .nils, .nils, .nils, .nils, .nils, .nils, .nils, .nils, .nils, .nils, .nils, .nils, .nils, .nils, .nils, .nils, .nils, .nils, .nils, .nils, .nils, .nils, .nils, .nils, .nils, .nils, .nils, .nils, .nils, .nils, .nils, .nils, .nils, .nils, .nils, .nils, .nils, .nils, .nils, .nils, .nils, .nils, .nils, .nils, .nils, .nils, .nils, .nils, .nils, .nils, .nils, .nils, .nils, .nils, .nils, .nils, .nils, .nils, .nils, .nils, .nils, .nils, .nils, .nils, .nils, .nils, .nils, .nils, .nils, .nils, .nils, .nils, .nils, .nils, .nils, .nils, .nils, .nils, .nils, .nils, .nils, .nils, .nils, .nils, .nils, .nils, .nils, .nils, .nils, .nils, .nils, .nils, .nils, .nils, .nils, .nils, .nils, .nils, .nils, .nils, .nils, .nils, .nils, .nils, .nils, .nils, .nils, .nils, .nils, .nils, .nils, .nils, .nils, .nils, .nils, .nils, .nils, .nils, .nils, .nils, .nils, .nils, .nils, .nils, .nils, .nils, .nils, .nils, .nils, .nils, .nils, .nils, .nils, .nils, .nils, .nils, .nils, .nils, .nils, .nils, .nils, .nils, .nils, .nils, .nils, .nils, .nils, .nils, .nils, .nils, .nils, .nils, .nils, (.int .i64 (.ofNat (nat_lit 0))), (.int .i64 (.ofNat (nat_lit 0))), (.int .i64 (.ofNat (nat_lit 0))), (.int .i64 (.ofNat (nat_lit 0))), (.int .i64 (.ofNat (nat_lit 0))), (.int .i64 (.ofNat (nat_lit 0))), (.int .i64 (.ofNat (nat_lit 0))), (.int .i64 (.ofNat (nat_lit 0))), (.int .i64 (.ofNat (nat_lit 0))), (.int .i64 (.ofNat (nat_lit 0))), (.int .i64 (.ofNat (nat_lit 0))), (.int .i64 (.ofNat (nat_lit 0))), (.int .i64 (.ofNat (nat_lit 0))), (.int .i64 (.ofNat (nat_lit 0))), (.int .i64 (.ofNat (nat_lit 0))), (.int .i64 (.ofNat (nat_lit 0))), (.int .i64 (.ofNat (nat_lit 0))), (.int .i64 (.ofNat (nat_lit 0))), (.int .i64 (.ofNat (nat_lit 0))), (.int .i64 (.ofNat (nat_lit 0))), (.int .i64 (.ofNat (nat_lit 0))), (.int .i64 (.ofNat (nat_lit 0))), (.int .i64 (.ofNat (nat_lit 0))), (.int .i64 (.ofNat (nat_lit 0))), (.int .i64 (.ofNat (nat_lit 0))), (.int .i64 (.ofNat (nat_lit 0))), (.int .i64 (.ofNat (nat_lit 0))), (.int .i64 (.ofNat (nat_lit 0))), (.int .i64 (.ofNat (nat_lit 0))), (.int .i64 (.ofNat (nat_lit 0))), (.int .i64 (.ofNat (nat_lit 0))), (.int .i64 (.ofNat (nat_lit 0))), (.int .i64 (.ofNat (nat_lit 0))), (.int .i64 (.ofNat (nat_lit 0))), (.int .i64 (.ofNat (nat_lit 0))), (.int .i64 (.ofNat (nat_lit 0))), (.int .i64 (.ofNat (nat_lit 0))), (.int .i64 (.ofNat (nat_lit 0))), (.int .i64 (.ofNat (nat_lit 0))), (.int .i64 (.ofNat (nat_lit 0))), (.int .i64 (.ofNat (nat_lit 0))), (.int .i64 (.ofNat (nat_lit 0))), (.int .i64 (.ofNat (nat_lit 0))), (.int .i64 (.ofNat (nat_lit 0))), (.int .i64 (.ofNat (nat_lit 0))), (.int .i64 (.ofNat (nat_lit 0))), (.int .i64 (.ofNat (nat_lit 0))), (.int .i64 (.ofNat (nat_lit 0))), (.int .i64 (.ofNat (nat_lit 0))), (.int .i64 (.ofNat (nat_lit 0))), (.int .i64 (.ofNat (nat_lit 0))), (.int .i64 (.ofNat (nat_lit 0))), (.int .i64 (.ofNat (nat_lit 0))), (.int .i64 (.ofNat (nat_lit 0))), (.int .i64 (.ofNat (nat_lit 0))), (.int .i64 (.ofNat (nat_lit 0))), (.int .i64 (.ofNat (nat_lit 0))), (.int .i64 (.ofNat (nat_lit 0))), (.int .i64 (.ofNat (nat_lit 0))), (.int .i64 (.ofNat (nat_lit 0))), (.int .i64 (.ofNat (nat_lit 0))), (.int .i64 (.ofNat (nat_lit 0))), (.int .i64 (.ofNat (nat_lit 0))), (.int .i64 (.ofNat (nat_lit 0))), (.int .i64 (.ofNat (nat_lit 0))), (.int .i64 (.ofNat (nat_lit 0))), (.int .i64 (.ofNat (nat_lit 0))), (.int .i64 (.ofNat (nat_lit 0))), (.int .i64 (.ofNat (nat_lit 0))), (.int .i64 (.ofNat (nat_lit 0))), (.int .i64 (.ofNat (nat_lit 0))), (.int .i64 (.ofNat (nat_lit 0))), (.int .i64 (.ofNat (nat_lit 0))), (.int .i64 (.ofNat (nat_lit 0))), (.int .i64 (.ofNat (nat_lit 0))), (.int .i64 (.ofNat (nat_lit 0))), (.int .i64 (.ofNat (nat_lit 0))), (.int .i64 (.ofNat (nat_lit 0))), (.int .i64 (.ofNat (nat_lit 0))), (.int .i64 (.ofNat (nat_lit 0))), (.int .i64 (.ofNat (nat_lit 0))), (.int .i64 (.ofNat (nat_lit 0))), (.int .i64 (.ofNat (nat_lit 0))), (.int .i64 (.ofNat (nat_lit 0))), (.int .i64 (.ofNat (nat_lit 0))), (.int .i64 (.ofNat (nat_lit 0))), (.int .i64 (.ofNat (nat_lit 0))), (.int .i64 (.ofNat (nat_lit 0))), (.int .i64 (.ofNat (nat_lit 0))), (.int .i64 (.ofNat (nat_lit 0))), (.int .i64 (.ofNat (nat_lit 0))), (.int .i64 (.ofNat (nat_lit 0))), (.int .i64 (.ofNat (nat_lit 0))), (.int .i64 (.ofNat (nat_lit 0))), (.int .i64 (.ofNat (nat_lit 0))), (.int .i64 (.ofNat (nat_lit 0))), (.int .i64 (.ofNat (nat_lit 0))), (.int .i64 (.ofNat (nat_lit 0))), (.int .i64 (.ofNat (nat_lit 0))), (.int .i64 (.ofNat (nat_lit 0))), (.int .i64 (.ofNat (nat_lit 0))), (.int .i64 (.ofNat (nat_lit 0))), (.int .i64 (.ofNat (nat_lit 0))), (.int .i64 (.ofNat (nat_lit 0))), (.int .i64 (.ofNat (nat_lit 0))), (.int .i64 (.ofNat (nat_lit 0))), (.int .i64 (.ofNat (nat_lit 0))), (.int .i64 (.ofNat (nat_lit 0))), (.int .i64 (.ofNat (nat_lit 0))), (.int .i64 (.ofNat (nat_lit 0))), (.int .i64 (.ofNat (nat_lit 0))), (.int .i64 (.ofNat (nat_lit 0))), (.int .i64 (.ofNat (nat_lit 0))), (.int .i64 (.ofNat (nat_lit 0))), (.int .i64 (.ofNat (nat_lit 0))), (.int .i64 (.ofNat (nat_lit 0))), (.int .i64 (.ofNat (nat_lit 0))), (.int .i64 (.ofNat (nat_lit 0))), (.int .i64 (.ofNat (nat_lit 0))), (.int .i64 (.ofNat (nat_lit 0))), (.int .i64 (.ofNat (nat_lit 0))), (.int .i64 (.ofNat (nat_lit 0))), (.int .i64 (.ofNat (nat_lit 0))), (.int .i64 (.ofNat (nat_lit 0))), (.int .i64 (.ofNat (nat_lit 0))), (.int .i64 (.ofNat (nat_lit 0))), (.int .i64 (.ofNat (nat_lit 0))), (.int .i64 (.ofNat (nat_lit 0))), (.int .i64 (.ofNat (nat_lit 0))), (.int .i64 (.ofNat (nat_lit 0))), (.int .i64 (.ofNat (nat_lit 0))), (.int .i64 (.ofNat (nat_lit 0))), (.int .i64 (.ofNat (nat_lit 0))), (.int .i64 (.ofNat (nat_lit 0))), (.int .i64 (.ofNat (nat_lit 0))), (.int .i64 (.ofNat (nat_lit 0))), (.int .i64 (.ofNat (nat_lit 0))), (.int .i64 (.ofNat (nat_lit 0))), (.int .i64 (.ofNat (nat_lit 0))), (.int .i64 (.ofNat (nat_lit 0))), (.int .i64 (.ofNat (nat_lit 0))), (.int .i64 (.ofNat (nat_lit 0))), (.int .i64 (.ofNat (nat_lit 0))), (.int .i64 (.ofNat (nat_lit 0))), (.int .i64 (.ofNat (nat_lit 0))), (.int .i64 (.ofNat (nat_lit 0))), (.int .i64 (.ofNat (nat_lit 0))), (.int .i64 (.ofNat (nat_lit 0))), (.int .i64 (.ofNat (nat_lit 0))), (.int .i64 (.ofNat (nat_lit 0))), (.int .i64 (.ofNat (nat_lit 0))), (.int .i64 (.ofNat (nat_lit 0))), (.int .i64 (.ofNat (nat_lit 0))), (.int .i64 (.ofNat (nat_lit 0))), (.int .i64 (.ofNat (nat_lit 0))), (.int .i64 (.ofNat (nat_lit 0))), (.int .i64 (.ofNat (nat_lit 0))), (.int .i64 (.ofNat (nat_lit 0))), (.int .i64 (.ofNat (nat_lit 0))), (.int .i64 (.ofNat (nat_lit 0))), (.int .i64 (.ofNat (nat_lit 0))), (.int .i64 (.ofNat (nat_lit 0))), (.int .i64 (.ofNat (nat_lit 0))), (.int .i64 (.ofNat (nat_lit 0))), (.int .i64 (.ofNat (nat_lit 0))), (.int .i64 (.ofNat (nat_lit 0))), (.int .i64 (.ofNat (nat_lit 0))), (.int .i64 (.ofNat (nat_lit 0))), (.int .i64 (.ofNat (nat_lit 0))), (.int .i64 (.ofNat (nat_lit 0))), (.int .i64 (.ofNat (nat_lit 0))), (.int .i64 (.ofNat (nat_lit 0))), (.int .i64 (.ofNat (nat_lit 0))), (.int .i64 (.ofNat (nat_lit 0))), (.int .i64 (.ofNat (nat_lit 0))), (.int .i64 (.ofNat (nat_lit 0))), (.int .i64 (.ofNat (nat_lit 0))), (.int .i64 (.ofNat (nat_lit 0))), (.int .i64 (.ofNat (nat_lit 0))), (.int .i64 (.ofNat (nat_lit 0))), (.int .i64 (.ofNat (nat_lit 0))), (.int .i64 (.ofNat (nat_lit 0))), (.int .i64 (.ofNat (nat_lit 0))), (.int .i64 (.ofNat (nat_lit 0))), (.int .i64 (.ofNat (nat_lit 0))), (.int .i64 (.ofNat (nat_lit 0))), (.int .i64 (.ofNat (nat_lit 0))), (.int .i64 (.ofNat (nat_lit 0))), (.int .i64 (.ofNat (nat_lit 0))), (.int .i64 (.ofNat (nat_lit 0))), (.int .i64 (.ofNat (nat_lit 0))), (.int .i64 (.ofNat (nat_lit 0))), (.int .i64 (.ofNat (nat_lit 0))), (.int .i64 (.ofNat (nat_lit 0))), (.int .i64 (.ofNat (nat_lit 0))), (.int .i64 (.ofNat (nat_lit 0))), (.int .i64 (.ofNat (nat_lit 0))), (.int .i64 (.ofNat (nat_lit 0))), (.int .i64 (.ofNat (nat_lit 0))), (.int .i64 (.ofNat (nat_lit 0))), (.int .i64 (.ofNat (nat_lit 0))), (.int .i64 (.ofNat (nat_lit 0))), (.int .i64 (.ofNat (nat_lit 0))), (.int .i64 (.ofNat (nat_lit 0))), (.int .i64 (.ofNat (nat_lit 0))), (.int .i64 (.ofNat (nat_lit 0))), (.int .i64 (.ofNat (nat_lit 0))), (.int .i64 (.ofNat (nat_lit 0))), (.int .i64 (.ofNat (nat_lit 0))), (.int .i64 (.ofNat (nat_lit 0))), (.int .i64 (.ofNat (nat_lit 0))), (.int .i64 (.ofNat (nat_lit 0))), (.int .i64 (.ofNat (nat_lit 0))), (.int .i64 (.ofNat (nat_lit 0))), (.int .i64 (.ofNat (nat_lit 0))), (.int .i64 (.ofNat (nat_lit 0))), (.int .i64 (.ofNat (nat_lit 0))), (.int .i64 (.ofNat (nat_lit 0))), (.int .i64 (.ofNat (nat_lit 0))), (.int .i64 (.ofNat (nat_lit 0))), (.int .i64 (.ofNat (nat_lit 0))), (.int .i64 (.ofNat (nat_lit 0))), (.int .i64 (.ofNat (nat_lit 0))), (.int .i64 (.ofNat (nat_lit 0))), (.int .i64 (.ofNat (nat_lit 0))), (.int .i64 (.ofNat (nat_lit 0))), (.int .i64 (.ofNat (nat_lit 0))), (.int .i64 (.ofNat (nat_lit 0))), (.int .i64 (.ofNat (nat_lit 0))), (.int .i64 (.ofNat (nat_lit 0))), (.int .i64 (.ofNat (nat_lit 0))), (.int .i64 (.ofNat (nat_lit 0))), (.int .i64 (.ofNat (nat_lit 0))), (.int .i64 (.ofNat (nat_lit 0))), (.int .i64 (.ofNat (nat_lit 0))), (.int .i64 (.ofNat (nat_lit 0))), (.int .i64 (.ofNat (nat_lit 0))), (.int .i64 (.ofNat (nat_lit 0))), (.int .i64 (.ofNat (nat_lit 0))), (.int .i64 (.ofNat (nat_lit 0))), (.int .i64 (.ofNat (nat_lit 0))), (.int .i64 (.ofNat (nat_lit 0))), (.int .i64 (.ofNat (nat_lit 0))), (.int .i64 (.ofNat (nat_lit 0))), (.int .i64 (.ofNat (nat_lit 0))), (.int .i64 (.ofNat (nat_lit 0))), (.int .i64 (.ofNat (nat_lit 0))), (.int .i64 (.ofNat (nat_lit 0))), (.int .i64 (.ofNat (nat_lit 0))), (.int .i64 (.ofNat (nat_lit 0))), (.int .i64 (.ofNat (nat_lit 0))), (.int .i64 (.ofNat (nat_lit 0))), (.int .i64 (.ofNat (nat_lit 0))), (.int .i64 (.ofNat (nat_lit 0))), (.int .i64 (.ofNat (nat_lit 0))), (.int .i64 (.ofNat (nat_lit 0))), (.int .i64 (.ofNat (nat_lit 0))), (.int .i64 (.ofNat (nat_lit 0))), (.int .i64 (.ofNat (nat_lit 0))), (.int .i64 (.ofNat (nat_lit 0))), (.int .i64 (.ofNat (nat_lit 0))), (.int .i64 (.ofNat (nat_lit 0))), (.int .i64 (.ofNat (nat_lit 0))), (.int .i64 (.ofNat (nat_lit 0))), (.int .i64 (.ofNat (nat_lit 0))), (.int .i64 (.ofNat (nat_lit 0))), (.int .i64 (.ofNat (nat_lit 0))), (.int .i64 (.ofNat (nat_lit 0))), (.int .i64 (.ofNat (nat_lit 0))), (.int .i64 (.ofNat (nat_lit 0))), (.int .i64 (.ofNat (nat_lit 0))), (.int .i64 (.ofNat (nat_lit 0))), (.int .i64 (.ofNat (nat_lit 0))), (.int .i64 (.ofNat (nat_lit 0))), (.int .i64 (.ofNat (nat_lit 0))), (.int .i64 (.ofNat (nat_lit 0))), (.int .i64 (.ofNat (nat_lit 0))), (.int .i64 (.ofNat (nat_lit 0))), (.int .i64 (.ofNat (nat_lit 0))), (.int .i64 (.ofNat (nat_lit 0))), (.int .i64 (.ofNat (nat_lit 0))), (.int .i64 (.ofNat (nat_lit 0))), (.int .i64 (.ofNat (nat_lit 0))), (.int .i64 (.ofNat (nat_lit 0))), (.int .i64 (.ofNat (nat_lit 0))), (.int .i64 (.ofNat (nat_lit 0))), (.int .i64 (.ofNat (nat_lit 0))), (.int .i64 (.ofNat (nat_lit 0))), (.int .i64 (.ofNat (nat_lit 0))), (.int .i64 (.ofNat (nat_lit 0))), (.int .i64 (.ofNat (nat_lit 0))), (.int .i64 (.ofNat (nat_lit 0))), (.int .i64 (.ofNat (nat_lit 0))), (.int .i64 (.ofNat (nat_lit 0))), (.int .i64 (.ofNat (nat_lit 0))), (.int .i64 (.ofNat (nat_lit 0))), (.int .i64 (.ofNat (nat_lit 0))), (.int .i64 (.ofNat (nat_lit 0))), (.int .i64 (.ofNat (nat_lit 0))), (.int .i64 (.ofNat (nat_lit 0))), (.int .i64 (.ofNat (nat_lit 0))), (.int .i64 (.ofNat (nat_lit 0))), (.int .i64 (.ofNat (nat_lit 0))), (.int .i64 (.ofNat (nat_lit 0))), (.int .i64 (.ofNat (nat_lit 0))), (.int .i64 (.ofNat (nat_lit 0))), (.int .i64 (.ofNat (nat_lit 0))), (.int .i64 (.ofNat (nat_lit 0))), (.int .i64 (.ofNat (nat_lit 0))), (.int .i64 (.ofNat (nat_lit 0))), (.int .i64 (.ofNat (nat_lit 0))), (.int .i64 (.ofNat (nat_lit 0))), (.int .i64 (.ofNat (nat_lit 0))), (.int .i64 (.ofNat (nat_lit 0))), (.int .i64 (.ofNat (nat_lit 0))), (.int .i64 (.ofNat (nat_lit 0))), (.int .i64 (.ofNat (nat_lit 0))), (.int .i64 (.ofNat (nat_lit 0))), (.int .i64 (.ofNat (nat_lit 0))), (.int .i64 (.ofNat (nat_lit 0))), (.int .i64 (.ofNat (nat_lit 0))), (.int .i64 (.ofNat (nat_lit 0))), (.int .i64 (.ofNat (nat_lit 0))), (.int .i64 (.ofNat (nat_lit 0))), (.int .i64 (.ofNat (nat_lit 0))), (.int .i64 (.ofNat (nat_lit 0))), (.int .i64 (.ofNat (nat_lit 0))), (.int .i64 (.ofNat (nat_lit 0))), (.int .i64 (.ofNat (nat_lit 0))), (.int .i64 (.ofNat (nat_lit 0))), (.int .i64 (.ofNat (nat_lit 0))), (.int .i64 (.ofNat (nat_lit 0))), (.int .i64 (.ofNat (nat_lit 0))), (.int .i64 (.ofNat (nat_lit 0))), (.int .i64 (.ofNat (nat_lit 0))), (.int .i64 (.ofNat (nat_lit 0))), (.int .i64 (.ofNat (nat_lit 0))), (.int .i64 (.ofNat (nat_lit 0))), (.int .i64 (.ofNat (nat_lit 0))), (.int .i64 (.ofNat (nat_lit 0))), (.int .i64 (.ofNat (nat_lit 0))), (.int .i64 (.ofNat (nat_lit 0))), (.int .i64 (.ofNat (nat_lit 0))), (.int .i64 (.ofNat (nat_lit 0))), (.int .i64 (.ofNat (nat_lit 0))), (.int .i64 (.ofNat (nat_lit 0))), (.int .i64 (.ofNat (nat_lit 0))), (.int .i64 (.ofNat (nat_lit 0))), (.int .i64 (.ofNat (nat_lit 0))), (.int .i64 (.ofNat (nat_lit 0))), (.int .i64 (.ofNat (nat_lit 0))), (.int .i64 (.ofNat (nat_lit 0))), (.int .i64 (.ofNat (nat_lit 0))), (.int .i64 (.ofNat (nat_lit 0))), (.int .i64 (.ofNat (nat_lit 0))), (.int .i64 (.ofNat (nat_lit 0))), (.int .i64 (.ofNat (nat_lit 0))), (.int .i64 (.ofNat (nat_lit 0))), (.int .i64 (.ofNat (nat_lit 0))), (.int .i64 (.ofNat (nat_lit 0))), (.int .i64 (.ofNat (nat_lit 0))), (.int .i64 (.ofNat (nat_lit 0))), (.int .i64 (.ofNat (nat_lit 0))), (.int .i64 (.ofNat (nat_lit 0))), (.int .i64 (.ofNat (nat_lit 0))), (.int .i64 (.ofNat (nat_lit 0))), (.int .i64 (.ofNat (nat_lit 0))), (.int .i64 (.ofNat (nat_lit 0))), (.int .i64 (.ofNat (nat_lit 0))), (.int .i64 (.ofNat (nat_lit 0))), (.int .i64 (.ofNat (nat_lit 0))), (.int .i64 (.ofNat (nat_lit 0))), (.int .i64 (.ofNat (nat_lit 0))), (.int .i64 (.ofNat (nat_lit 0))), (.int .i64 (.ofNat (nat_lit 0))), (.int .i64 (.ofNat (nat_lit 0))), (.int .i64 (.ofNat (nat_lit 0))), (.int .i64 (.ofNat (nat_lit 0))), (.int .i64 (.ofNat (nat_lit 0))), (.int .i64 (.ofNat (nat_lit 0))), (.int .i64 (.ofNat (nat_lit 0))), (.int .i64 (.ofNat (nat_lit 0))), (.int .i64 (.ofNat (nat_lit 0))), (.int .i64 (.ofNat (nat_lit 0))), (.int .i64 (.ofNat (nat_lit 0))), (.int .i64 (.ofNat (nat_lit 0))), (.int .i64 (.ofNat (nat_lit 0))), (.int .i64 (.ofNat (nat_lit 0))), (.int .i64 (.ofNat (nat_lit 0))), (.int .i64 (.ofNat (nat_lit 0))), (.int .i64 (.ofNat (nat_lit 0))), (.int .i64 (.ofNat (nat_lit 0))), (.int .i64 (.ofNat (nat_lit 0))), (.int .i64 (.ofNat (nat_lit 0))), (.int .i64 (.ofNat (nat_lit 0))), (.int .i64 (.ofNat (nat_lit 0))), (.int .i64 (.ofNat (nat_lit 0))), (.int .i64 (.ofNat (nat_lit 0))), (.int .i64 (.ofNat (nat_lit 0))), (.int .i64 (.ofNat (nat_lit 0))), (.int .i64 (.ofNat (nat_lit 0))), (.int .i64 (.ofNat (nat_lit 0))), (.int .i64 (.ofNat (nat_lit 0))), (.int .i64 (.ofNat (nat_lit 0))), (.int .i64 (.ofNat (nat_lit 0))), (.int .i64 (.ofNat (nat_lit 0))), (.int .i64 (.ofNat (nat_lit 0))), (.int .i64 (.ofNat (nat_lit 0))), (.int .i64 (.ofNat (nat_lit 0))), (.int .i64 (.ofNat (nat_lit 0))), (.int .i64 (.ofNat (nat_lit 0))), (.int .i64 (.ofNat (nat_lit 0))), (.int .i64 (.ofNat (nat_lit 0))), (.int .i64 (.ofNat (nat_lit 0))), (.int .i64 (.ofNat (nat_lit 0))), (.int .i64 (.ofNat (nat_lit 0))), (.int .i64 (.ofNat (nat_lit 0))), (.int .i64 (.ofNat (nat_lit 0))), (.int .i64 (.ofNat (nat_lit 0))), (.int .i64 (.ofNat (nat_lit 0))), (.int .i64 (.ofNat (nat_lit 0))), (.int .i64 (.ofNat (nat_lit 0))), (.int .i64 (.ofNat (nat_lit 0))), (.int .i64 (.ofNat (nat_lit 0))), (.int .i64 (.ofNat (nat_lit 0))), (.int .i64 (.ofNat (nat_lit 0))), (.int .i64 (.ofNat (nat_lit 0))), (.int .i64 (.ofNat (nat_lit 0))), (.int .i64 (.ofNat (nat_lit 0))), (.int .i64 (.ofNat (nat_lit 0))), (.int .i64 (.ofNat (nat_lit 0))), (.int .i64 (.ofNat (nat_lit 0))), (.int .i64 (.ofNat (nat_lit 0))), (.int .i64 (.ofNat (nat_lit 0))), (.int .i64 (.ofNat (nat_lit 0))), (.int .i64 (.ofNat (nat_lit 0))), (.int .i64 (.ofNat (nat_lit 0))), (.int .i64 (.ofNat (nat_lit 0))), (.int .i64 (.ofNat (nat_lit 0))), (.int .i64 (.ofNat (nat_lit 0))), (.int .i64 (.ofNat (nat_lit 0))), (.int .i64 (.ofNat (nat_lit 0))), (.int .i64 (.ofNat (nat_lit 0))), (.int .i64 (.ofNat (nat_lit 0))), (.int .i64 (.ofNat (nat_lit 0))), (.int .i64 (.ofNat (nat_lit 0))), (.int .i64 (.ofNat (nat_lit 0))), (.int .i64 (.ofNat (nat_lit 0))), (.int .i64 (.ofNat (nat_lit 0))), (.int .i64 (.ofNat (nat_lit 0))), (.int .i64 (.ofNat (nat_lit 0))), (.int .i64 (.ofNat (nat_lit 0))), (.int .i64 (.ofNat (nat_lit 0))), (.int .i64 (.ofNat (nat_lit 0))), (.int .i64 (.ofNat (nat_lit 0))), (.int .i64 (.ofNat (nat_lit 0))), (.int .i64 (.ofNat (nat_lit 0))), (.int .i64 (.ofNat (nat_lit 0))), (.int .i64 (.ofNat (nat_lit 0))), (.int .i64 (.ofNat (nat_lit 0))), (.int .i64 (.ofNat (nat_lit 0))), (.int .i64 (.ofNat (nat_lit 0))), (.int .i64 (.ofNat (nat_lit 0))), (.int .i64 (.ofNat (nat_lit 0))), (.int .i64 (.ofNat (nat_lit 0))), (.int .i64 (.ofNat (nat_lit 0))), (.int .i64 (.ofNat (nat_lit 0))), (.int .i64 (.ofNat (nat_lit 0))), (.int .i64 (.ofNat (nat_lit 0))), (.int .i64 (.ofNat (nat_lit 0))), (.int .i64 (.ofNat (nat_lit 0))), (.int .i64 (.ofNat (nat_lit 0))), (.int .i64 (.ofNat (nat_lit 0))), (.int .i64 (.ofNat (nat_lit 0))), (.int .i64 (.ofNat (nat_lit 0))), (.int .i64 (.ofNat (nat_lit 0))), (.int .i64 (.ofNat (nat_lit 0))), (.int .i64 (.ofNat (nat_lit 0))), (.int .i64 (.ofNat (nat_lit 0))), (.int .i64 (.ofNat (nat_lit 0))), (.int .i64 (.ofNat (nat_lit 0))), (.int .i64 (.ofNat (nat_lit 0))), (.int .i64 (.ofNat (nat_lit 0))), (.int .i64 (.ofNat (nat_lit 0))), (.int .i64 (.ofNat (nat_lit 0))), (.int .i64 (.ofNat (nat_lit 0))), (.int .i64 (.ofNat (nat_lit 0))), (.int .i64 (.ofNat (nat_lit 0))), (.int .i64 (.ofNat (nat_lit 0))), (.int .i64 (.ofNat (nat_lit 0))), (.int .i64 (.ofNat (nat_lit 0))), (.int .i64 (.ofNat (nat_lit 0))), (.int .i64 (.ofNat (nat_lit 0))), (.int .i64 (.ofNat (nat_lit 0))), (.int .i64 (.ofNat (nat_lit 0))), (.int .i64 (.ofNat (nat_lit 0))), (.int .i64 (.ofNat (nat_lit 0))), (.int .i64 (.ofNat (nat_lit 0))), (.int .i64 (.ofNat (nat_lit 0))), (.int .i64 (.ofNat (nat_lit 0))), (.int .i64 (.ofNat (nat_lit 0))), (.int .i64 (.ofNat (nat_lit 0))), (.int .i64 (.ofNat (nat_lit 0))), (.int .i64 (.ofNat (nat_lit 0))), (.int .i64 (.ofNat (nat_lit 0))), (.int .i64 (.ofNat (nat_lit 0))), (.int .i64 (.ofNat (nat_lit 0))), (.int .i64 (.ofNat (nat_lit 0))), (.int .i64 (.ofNat (nat_lit 0))), (.int .i64 (.ofNat (nat_lit 0))), (.int .i64 (.ofNat (nat_lit 0))), (.int .i64 (.ofNat (nat_lit 0))), (.bool false), (.bool false), (.bool false), (.bool false), (.bool false), (.bool false), (.bool false), (.bool false), (.bool false), (.bool false), (.bool false), (.bool false), (.bool false), (.bool false), (.bool false), (.bool false), (.bool false), (.bool false), (.bool false), (.bool false), (.bool false), (.bool false), (.bool false), (.bool false), (.bool false), (.bool false), (.bool false), (.bool false), (.bool false), (.bool false), (.bool false), (.bool false), (.bool false), (.bool false), (.bool false), (.bool false), (.bool false), (.bool false), (.bool false), (.bool false), (.bool false), (.bool false), (.bool false), (.bool false), (.bool false), (.bool false), (.bool false), (.bool false), (.bool false), (.bool false), (.bool false), (.bool false), (.bool false), (.bool false), (.bool false), (.bool false), (.bool false), (.bool false), (.bool false), (.bool false), (.bool false), (.bool false), (.bool false), (.bool false), (.bool false), (.bool false), (.bool false), (.bool false), (.bool false), (.bool false), (.bool false), (.bool false), (.bool false), (.bool false), (.bool false), (.bool false), (.bool false), (.bool false), (.bool false), (.bool false), (.bool false), (.bool false), (.bool false), (.bool false), (.bool false), (.bool false), (.bool false), (.bool false), (.bool false), (.bool false), (.bool false), (.bool false), (.bool false), (.bool false), (.bool false), (.bool false), (.bool false), (.bool false), (.bool false), (.bool false), (.bool false), (.bool false), (.bool false), (.bool false), (.bool false), (.bool false), (.bool false), (.bool false), (.bool false), (.bool false), (.bool false), (.bool false), (.bool false), (.bool false), (.bool false), (.bool false), (.bool false), (.bool false), (.bool false), (.bool false), (.bool false), (.bool false), (.bool false), (.bool false), (.bool false), (.bool false), (.bool false), (.bool false), (.bool false), (.bool false), (.bool false), (.bool false), (.bool false), (.bool false), (.bool false), (.bool false), (.bool false), (.bool false), (.bool false), (.bool false), (.bool false), (.bool false), (.bool false), (.bool false), (.bool false), (.bool false), (.bool false), (.bool false), (.bool false), (.bool false), (.bool false), (.bool false), (.bool false), (.bool false), (.bool false), (.bool false), (.bool false), (.bool false), (.bool false), (.bool false), (.bool false), (.bool false), (.bool false), (.bool false), (.bool false), (.bool false), (.bool false), (.bool false), (.bool false), (.bool false), (.bool false), (.bool false), (.bool false), (.bool false), (.bool false), (.bool false), (.bool false), (.bool false), (.bool false), (.bool false), (.bool false), (.bool false), (.bool false), (.bool false), (.bool false), (.bool false), (.bool false), (.bool false), (.bool false), (.bool false), (.bool false), (.bool false), (.bool false), (.bool false), (.bool false), (.bool false), (.bool false), (.bool false), (.bool false), (.bool false), (.bool false), (.bool false), (.bool false), (.bool false), (.bool false), (.bool false), (.bool false), (.bool false), (.bool false), (.bool false), (.bool false), (.bool false), (.bool false), (.bool false), (.bool false), (.bool false), (.bool false), (.bool false), (.bool false), (.bool false), (.bool false), (.bool false), (.bool false), (.bool false), (.bool false), (.bool false), (.bool false), (.bool false), (.bool false), (.bool false), (.bool false), (.bool false), (.bool false), (.bool false), (.bool false), (.bool false), (.bool false), (.bool false), (.bool false), (.bool false), (.bool false), (.bool false), (.bool false), (.bool false), (.bool false), (.bool false), (.bool false), (.bool false), (.bool false), (.bool false), (.bool false), (.bool false), (.bool false), (.bool false), (.bool false), (.bool false), .nils, (.int .i64 (.ofNat (nat_lit 0))), .nils]
def q85 : Val := (.func (.func 240) [] [])
def q86 : List Val := [.nils, .nils]
def q87 : List Val := [(.str []), (.str []), (.int .i64 (.ofNat (nat_lit 0)))]
def q88 : List Val := [(.int .u8 (.ofNat (nat_lit 0))), (.str []), (.str []), .nils]
def q89 : List Val := [(.int .u8 (.ofNat (nat_lit 0))), (.str []), (.str []), .nils, .nils, (.int .i64 (.ofNat (nat_lit 0)))]
def q90 : List Val := [(.bool false), .nils, .nilm, (.int .i64 (.ofNat (nat_lit 0)))]
def q91 : List Val := [(.str []), (.str []), (.int .i64 (.ofNat (nat_lit 0))), (.int .i64 (.ofNat (nat_lit 0))), .nils, .nils]
def q92 : List Val := [.nilp, .nilf, .nilp, .nilf, .nilp]
def q93 : List Val := [.nils, .nils, .nils, .nils, .nils]
def q94 : Val := (.func (.func 101) [] [])
def q95 : Val := (.func (.func 73) [] [])
def q96 : List Val := [(.int .i64 (.ofNat (nat_lit 0))), (.str []), (.str []), (.str []), .nilp, .nilp, (.int .i64 (.ofNat (nat_lit 0))), (.int .i64 (.ofNat (nat_lit 0)))]
def q97 : List Val := [(.int .i64 (.ofNat (nat_lit 0))), (.str []), (.str []), (.str [])]
def q98 : List Val := [(.str []), (.str []), (.str []), (.int .i64 (.ofNat (nat_lit 0))), .nilp, .nilp, (.int .i64 (.ofNat (nat_lit 0))), (.int .i64 (.ofNat (nat_lit 0)))]
def q99 : List Val := [(.str []), (.str []), (.str []), (.int .i64 (.ofNat (nat_lit 0)))]
def q100 : Val := (.int .i64 (.ofNat (nat_lit 131072)))
def q101 : List Val := [(.int .u8 (.ofNat (nat_lit 0))), .nils, .nils]
def q102 : Val := (.int .i64 (.ofNat (nat_lit 9)))
def q103 : List Val := [.nilf, .nilp, .nilf, .nilp, .nils, .nils, (.int .i64 (.ofNat (nat_lit 0))), (.int .i64 (.ofNat (nat_lit 0))), (.bool false), (.int .i64 (.ofNat (nat_lit 0)))]
def q104 : Val := (.int .i64 (.ofNat (nat_lit 4611686018427387904)))
def q108 : Val := (.func (.func 364) [] [])
def q112 : List Val := [.nilf, .nilf, .nilf]
def q115 : Val := (.int .i64 (.ofNat (nat_lit 9223372036854775807)))
def q116 : Val := (.str [117, 115, 101, 114])
def q117 : Val := (.str [111, 119, 110, 101, 114])
def q118 : Val := (.str [112, 97, 114, 101, 110, 116])
def q119 : Val := (.str [118, 105, 101, 119, 101, 114])
def q120 : List Val := [(.int .u8 (.ofNat (nat_lit 0))), (.str []), (.str []), .nils, (.int .u8 (.ofNat (nat_lit 0))), (.str []), (.str []), .nils, (.int .u8 (.ofNat (nat_lit 0))), (.str []), (.str []), .nils]
def q121 : Val := (.str [98, 97, 110, 110, 101, 100])
def q122 : List Val := [(.int .u8 (.ofNat (nat_lit 0))), (.str []), (.str []), .nils, (.int .u8 (.ofNat (nat_lit 0))), (.str []), (.str []), .nils]
def q123 : Val := (.str [102, 111, 108, 100, 101, 114])
def q124 : Val := (.str [103, 114, 111, 117, 112])
def q125 : Val := (.str [109, 101, 109, 98, 101, 114])
def q126 : List Val := [(.str []), (.str []), (.str []), (.str [])]
def q127 : List Val := [(.str []), .nils, (.int .u8 (.ofNat (nat_lit 0))), (.str []), (.str []), .nils, (.str []), .nils, (.int .u8 (.ofNat (nat_lit 0))), (.str []), (.str []), .nils, (.str []), .nils, (.int .u8 (.ofNat (nat_lit 0))), (.str []), (.str []), .nils, (.str []), .nils, (.int .u8 (.ofNat (nat_lit 0))), (.str []), (.str []), .nils]
def q128 : Val := (.str [100, 111, 99])
def q129 : List Val := [(.str []), .nils, (.str []), .nils, (.str []), .nils, (.str []), .nils]
def q130 : Val := (.str [120])
def q131 : Val := (.str [102])
def q132 : Val := (.str [97])
def q133 : Val := (.str [103])
def q134 : Val := (.str [98])
def q135 : List Val := [(.str []), (.str []), (.str []), (.str []), (.str []), (.str []), (.str []), (.str []), (.str []), (.str []), (.str []), (.str []), (.str []), (.str []), (.str []), (.str []), (.str []), (.str []), (.str []), (.str []), (.str []), (.str []), (.str []), (.str [])]
def q136 : Val := (.int .i64 (.ofNat (nat_lit 100)))
def q137 : List Val := [(.bool false), (.bool false), (.bool false), (.bool false), (.bool false)]
def q138 : List Val := [(.str []), .nils, (.str []), .nils]
def q143 : Val := (.func (.func 357) [] [])
def q144 : Val := (.func (.func 358) [] [])
def q145 : Val := (.func (.func 359) [] [])
def q146 : List Val := [(.int .i64 (.ofNat (nat_lit 0))), (.int .i64 (.ofNat (nat_lit 0))), (.int .i64 (.ofNat (nat_lit 0))), (.int .i64 (.ofNat (nat_lit 0)))]
def q147 : Val := (.str [99])
def q148 : List Val := [.nils, .nils, .nils]
def q149 : Val := (.str [97, 98, 99, 100, 101, 102, 103, 104, 105, 106])
def q150 : Val := (.str [117])
def q151 : Val := (.int .i64 (.ofNat (nat_lit 60)))
def q152 : Val := (.int .i64 (.ofNat (nat_lit 59)))
def q153 : Val := (.int .i64 (.ofNat (nat_lit 3660)))
def q154 : Val := (.int .i64 (.ofNat (nat_lit 120)))
end
end Go.V
end
