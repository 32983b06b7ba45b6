/-
  Symbolic steps, with less to look up.
-/
import Derived.Test.YtkmaaddlimgdoaaWpH
import Derived.Test.YtkmaaddlimgdoaaSound
set_option linter.unusedVariables false
set_option linter.unusedSimpArgs false
set_option linter.unusedSectionVars false
namespace Go.V

def lenI : Val → Option Nat
  | .nils => some 0
  | .slice _ _ n _ _ => some n
  | _ => none

def eltI (sz : Nat) : Val → Val → Option Val
  | .slice b o n _ _, .int _ i => if 0 ≤ i ∧ i < n then some (.ptr b (o + i.toNat * sz)) else none
  | _, _ => none

theorem step_lenOf (m : TypeId → Val → String → Option (FuncId × Val)) (c : CallT) (fr : List Val) (h : Heap) (x : Opd) : step m c fr h (.lenOf x) = match lenI (V.ev fr x) with
    | some n => some (.int .i64 n, h)
    | none => none := by
  simp only [step]
  cases V.ev fr x <;> rfl

theorem step_iaddr (m : TypeId → Val → String → Option (FuncId × Val)) (c : CallT) (fr : List Val) (h : Heap) (sz : Nat) (x i : Opd) : step m c fr h (.iaddr sz x i) = match eltI sz (V.ev fr x) (V.ev fr i) with
    | some v => some (v, h)
    | none => none := by
  simp only [step]
  cases V.ev fr x <;> cases V.ev fr i <;> simp only [eltI]
  split <;> rfl

theorem getD_ne {l : List Val} {i j : Nat} {v : Val} (h : (i = j) = False) : (l.set i v).getD j .undef = l.getD j .undef := by
  have h' : i ≠ j := by simpa using h
  simp only [List.getD_eq_getElem?_getD, List.getElem?_set, h', if_false]

theorem getD_eq {l : List Val} {i : Nat} {v : Val} (hi : i < l.length) : (l.set i v).getD i .undef = v := by
  simp [List.getD_eq_getElem?_getD, hi]

theorem len_set {l : List Val} {i n : Nat} {v : Val} (h : l.length = n) : (l.set i v).length = n := by simpa using h

theorem pickK {E : Env} {fr : List Val} {h : Heap} {c a b : Opd} {t : Bool} (hc : V.ev fr c = .bool t) {K : Val → Heap → Prop} (k : K (if t then V.ev fr a else V.ev fr b) h) : stepK E fr h (.pick c a b) K := by
  unfold stepK
  cases t <;> simp only [step, hc] <;> exact k

/-- A guard that is not known: both ways. -/
theorem WO.guard {E : Env} {fr : List Val} {h : Heap} {d : Option Nat} {op : VOp} {t : Nat} {want : Bool} {fu : Bool} {hd : List Nat} {l : List VOper} {R : List Val → Heap → Prop} {b : Bool} (hb : fr.getD t .undef = .bool b)
    (h1 : b = want → WO E (⟨d, op, none, fu, hd⟩ :: l) fr h R) (h2 : b = (!want) → WO E l (setDst fr d .undef) h R) : WO E (⟨d, op, some (t, want), fu, hd⟩ :: l) fr h R := by
  by_cases hw : b = want
  · obtain ⟨n, fr2, hh2, e, q⟩ := h1 hw
    refine ⟨n, fr2, hh2, ?_, q⟩
    rw [runOps] at e ⊢
    simp only [wanted] at e ⊢
    rw [hb]
    subst hw
    simpa using e
  · have h2' := h2 (by cases b <;> cases want <;> simp_all)
    exact WO.not (by simp only [wanted, hb]; cases b <;> cases want <;> simp_all) h2'

theorem WE.cond2 {E : Env} {fr : List Val} {h : Heap} {Q : Ex → List Val → Heap → Prop} {c : Opd} {a b : VC} {t : Bool} (hc : V.ev fr c = .bool t) (h1 : t = true → WE E a fr h Q) (h2 : t = false → WE E b fr h Q) : WE E (.cond c a b) fr h Q := by
  cases t with
  | true => exact WE.cond hc (h1 rfl)
  | false => exact WE.cond hc (h2 rfl)

theorem WE.seqR {E : Env} {fr : List Val} {h : Heap} {Q : Ex → List Val → Heap → Prop} {l : List VOper} {b : VC} (w : WO E l fr h fun fr h => WE E b fr h Q) : WE E (.seq (.region l) b) fr h Q := WE.seq (WE.region w)
theorem WE.seqD {E : Env} {fr : List Val} {h : Heap} {Q : Ex → List Val → Heap → Prop} {l : List VOper} {b : VC} (w : WD E l [] fr h fun fr h => WE E b fr h Q) : WE E (.seq (.draw l) b) fr h Q := WE.seq (WE.draw w)

theorem WE.assoc {E : Env} {fr : List Val} {h : Heap} {Q : Ex → List Val → Heap → Prop} {a b c : VC} (w : WE E (.seq a (.seq b c)) fr h Q) : WE E (.seq (.seq a b) c) fr h Q := by
  obtain ⟨n, ex, fr', h', e, q⟩ := w
  cases n with
  | zero => simp [exec] at e
  | succ n =>
    rw [exec] at e
    cases ha : exec E n a fr h with
    | none => rw [ha] at e; cases e
    | some r =>
      obtain ⟨x, fr1, h1⟩ := r
      rw [ha] at e
      cases x with
      | normal =>
        cases n with
        | zero => simp [exec] at e
        | succ n =>
          simp only at e
          rw [exec] at e
          cases hb : exec E n b fr1 h1 with
          | none => rw [hb] at e; cases e
          | some r2 =>
            obtain ⟨y, fr2, h2⟩ := r2
            rw [hb] at e
            have hsb : exec E (n + 1) b fr1 h1 = some (y, fr2, h2) := exec_mono1 E n _ _ _ _ hb
            cases y with
            | normal =>
              refine ⟨n + 3, ex, fr', h', ?_, q⟩
              have hs : exec E (n + 2) (.seq a b) fr h = some (.normal, fr2, h2) := by rw [exec, ha]; exact hsb
              rw [exec, hs]
              exact exec_mono (by omega) _ _ _ _ e
            | exit i =>
              cases e
              refine ⟨n + 3, _, _, _, ?_, q⟩
              have hs : exec E (n + 2) (.seq a b) fr h = some (.exit i, fr', h') := by rw [exec, ha]; exact hsb
              rw [exec, hs]
            | ret =>
              cases e
              refine ⟨n + 3, _, _, _, ?_, q⟩
              have hs : exec E (n + 2) (.seq a b) fr h = some (.ret, fr', h') := by rw [exec, ha]; exact hsb
              rw [exec, hs]
      | exit i =>
        cases e
        refine ⟨n + 2, _, _, _, ?_, q⟩
        rw [exec, show exec E (n + 1) (.seq a b) fr h = some (.exit i, fr', h') by rw [exec, ha]]
      | ret =>
        cases e
        refine ⟨n + 2, _, _, _, ?_, q⟩
        rw [exec, show exec E (n + 1) (.seq a b) fr h = some (.ret, fr', h') by rw [exec, ha]]

theorem WE.seqSkip {E : Env} {fr : List Val} {h : Heap} {Q : Ex → List Val → Heap → Prop} {b : VC} (w : WE E b fr h Q) : WE E (.seq .skip b) fr h Q := WE.seq (WE.skip w)
theorem WE.seqRet {E : Env} {fr : List Val} {h : Heap} {Q : Ex → List Val → Heap → Prop} {b : VC} (w : Q .ret fr h) : WE E (.seq .ret b) fr h Q := WE.seq (WE.ret w)
theorem WE.seqExit {E : Env} {fr : List Val} {h : Heap} {Q : Ex → List Val → Heap → Prop} {i : Nat} {b : VC} (w : Q (.exit i) fr h) : WE E (.seq (.exit i) b) fr h Q := WE.seq (WE.exit w)
theorem WE.seqCond {E : Env} {fr : List Val} {h : Heap} {Q : Ex → List Val → Heap → Prop} {c : Opd} {a b k : VC} {t : Bool} (hc : V.ev fr c = .bool t) (h1 : t = true → WE E (.seq a k) fr h Q) (h2 : t = false → WE E (.seq b k) fr h Q) : WE E (.seq (.cond c a b) k) fr h Q := by
  have un : ∀ x, WE E (.seq x k) fr h Q → WE E x fr h (seqQ E k Q) := by
    intro x w
    obtain ⟨n, ex, fr', h', e, q⟩ := w
    cases n with
    | zero => simp [exec] at e
    | succ n =>
      rw [exec] at e
      cases hx : exec E n x fr h with
      | none => rw [hx] at e; cases e
      | some r =>
        obtain ⟨y, fr1, h1⟩ := r
        rw [hx] at e
        cases y with
        | normal => exact ⟨n, _, _, _, hx, n, _, _, _, e, q⟩
        | exit i => cases e; exact ⟨n, _, _, _, hx, q⟩
        | ret => cases e; exact ⟨n, _, _, _, hx, q⟩
  exact WE.seq (WE.cond2 hc (fun e => un _ (h1 e)) (fun e => un _ (h2 e)))

/-- A call's first step. -/
theorem WC.fn1 {E : Env} {f : FuncId} {vf : VFn} {args : List Val} {h : Heap} {R : Val → Heap → Prop} (hp : E.prims f = none) (hf : E.fns f = some vf) {n : Nat} (hn : (enter vf.ntmps args).length = n)
    (w : ∀ fr : List Val, fr.length = n → (∀ j, fr.getD j .undef = args.getD j .undef) → WE E vf.body fr h fun ex fr h' => match ex with | .exit _ => False | _ => ∃ l, readResults fr h' vf.results = some l ∧ R (resultOf l) h') : WC E f args h R :=
  WC.fn hp hf (w _ hn fun _ => getD_enter)

def lenK (h : Heap) (K : Val → Heap → Prop) : Option Nat → Prop
  | some n => K (.int .i64 n) h
  | none => False

def elK (h : Heap) (K : Val → Heap → Prop) : Option Val → Prop
  | some v => K v h
  | none => False

/-- Contracts keep what a base heap has. -/
theorem WC.grow {E : Env} {f : FuncId} {args : List Val} {h0 h : Heap} {P : Val → Prop} (g : Grow h0 h) (w : WC E f args h fun v h' => Grow h h' ∧ P v) : WC E f args h fun v h' => Grow h0 h' ∧ P v :=
  w.mono fun _ _ ⟨a, b⟩ => ⟨g.trans a, b⟩

/-- What a block of the base heap has, it has later. -/
theorem Grow.part {h h' : Heap} (g : Grow h h') {b : Nat} {c : List Val} (e : h.get b = some (.cells c)) {o n : Nat} (hn : o + n ≤ c.length) : h'.load b o n = some ((c.drop o).take n) := load_get (g.keep _ _ e) hn

/-- A heap of which a part is not seen, and nothing that was there is written. -/
def Heap.veil (h : Heap) (A : List (Nat × Nat)) : Heap := { h with hid := A ++ h.hid, floor := h.next }
def Heap.unveil (h h' : Heap) : Heap := { h' with hid := h.hid, floor := h.floor }

theorem unveil_veil (h : Heap) (A : List (Nat × Nat)) : h.unveil (h.veil A) = h := rfl
theorem veil_next (h : Heap) (A : List (Nat × Nat)) : (h.veil A).next = h.next := rfl
theorem unveil_next (h h' : Heap) : (h.unveil h').next = h'.next := rfl

/-- What is read where nothing is hidden. -/
theorem below_nil (h : Heap) (b o n : Nat) : (h.veil []).load b o n = h.load b o n := load_same (A := []) (by simp) b o n
theorem below_cons (h : Heap) (a : Nat) (A : List (Nat × Nat)) (b o n : Nat) : (h.veil ((a, a) :: A)).load b o n = (h.veil A).load b o n := by
  have : ∀ j, (h.veil ((a, a) :: A)).hidden j = (h.veil A).hidden j := by
    intro j
    simp only [Heap.hidden, Heap.veil, List.cons_append, List.any_cons]
    have : (decide (a ≤ j) && decide (j < a)) = false := by simp
    rw [this, Bool.false_or]
  have : ∀ j, (h.veil ((a, a) :: A)).get j = (h.veil A).get j := by
    intro j
    unfold Heap.get
    rw [this j]
    rfl
  unfold Heap.load
  rw [this]

def opV (E : Env) (rs : List (Nat × Nat)) (fr : List Val) (h : Heap) (o : VOper) (K : List (Nat × Nat) → List Val → Heap → Prop) : Prop := match wanted fr o.guard with
  | some true => if o.op.kind ≤ 1 ∨ o.full = true then stepK E fr h o.op fun v h' => K (rs ++ [(h.next, h'.next)]) (setDst fr o.dst v) h'
    else o.op.kind = 2 ∧ stepK E fr (h.veil (hiddenOf rs o.hide)) o.op fun v h' => K (rs ++ [(h.next, h'.next)]) (setDst fr o.dst v) (h.unveil h')
  | some false => K (rs ++ [(h.next, h.next)]) (setDst fr o.dst .undef) h
  | none => False

theorem WD.op2 {E : Env} {rs : List (Nat × Nat)} {fr : List Val} {h : Heap} {o : VOper} {l : List VOper} {R : List Val → Heap → Prop} (w : opV E rs fr h o fun rs fr h => WD E l rs fr h R) : WD E (o :: l) rs fr h R := WD.op1 w

theorem WD.nil2 {E : Env} {rs : List (Nat × Nat)} {fr : List Val} {h : Heap} {R : List Val → Heap → Prop} (k : R fr h) : WD E [] rs fr h R := WD.nil k

/-- A guard that is not known: both ways. -/
theorem WD.guard {E : Env} {rs : List (Nat × Nat)} {fr : List Val} {h : Heap} {d : Option Nat} {op : VOp} {t : Nat} {want : Bool} {fu : Bool} {hd : List Nat} {l : List VOper} {R : List Val → Heap → Prop} {b : Bool} (hb : fr.getD t .undef = .bool b)
    (h1 : b = want → WD E (⟨d, op, none, fu, hd⟩ :: l) rs fr h R) (h2 : b = (!want) → WD E l (rs ++ [(h.next, h.next)]) (setDst fr d .undef) h R) : WD E (⟨d, op, some (t, want), fu, hd⟩ :: l) rs fr h R := by
  by_cases hw : b = want
  · obtain ⟨n, fr2, hh2, e, q⟩ := h1 hw
    refine ⟨n, fr2, hh2, ?_, q⟩
    rw [runDraw] at e ⊢
    simp only [wanted] at e ⊢
    rw [hb]
    subst hw
    simpa using e
  · obtain ⟨n, fr2, hh2, e, q⟩ := h2 (by cases b <;> cases want <;> simp_all)
    refine ⟨n, fr2, hh2, ?_, q⟩
    have : wanted fr (some (t, want)) = some false := by simp only [wanted, hb]; cases b <;> cases want <;> simp_all
    rw [runDraw]
    simp only [this]
    exact e

theorem WE.seqCondE {E : Env} {fr : List Val} {h : Heap} {Q : Ex → List Val → Heap → Prop} {c : Opd} {a b k : VC} (hc : ∃ t, V.ev fr c = .bool t ∧ (t = true → WE E (.seq a k) fr h Q) ∧ (t = false → WE E (.seq b k) fr h Q)) : WE E (.seq (.cond c a b) k) fr h Q := by
  obtain ⟨t, h1, h2, h3⟩ := hc
  exact WE.seqCond h1 h2 h3

theorem WO.guardE {E : Env} {fr : List Val} {h : Heap} {d : Option Nat} {op : VOp} {t : Nat} {want : Bool} {fu : Bool} {hd : List Nat} {l : List VOper} {R : List Val → Heap → Prop}
    (hb : ∃ b, fr.getD t .undef = .bool b ∧ (b = want → WO E (⟨d, op, none, fu, hd⟩ :: l) fr h R) ∧ (b = (!want) → WO E l (setDst fr d .undef) h R)) : WO E (⟨d, op, some (t, want), fu, hd⟩ :: l) fr h R := by
  obtain ⟨t, h1, h2, h3⟩ := hb
  exact WO.guard h1 h2 h3

theorem WD.guardE {E : Env} {rs : List (Nat × Nat)} {fr : List Val} {h : Heap} {d : Option Nat} {op : VOp} {t : Nat} {want : Bool} {fu : Bool} {hd : List Nat} {l : List VOper} {R : List Val → Heap → Prop}
    (hb : ∃ b, fr.getD t .undef = .bool b ∧ (b = want → WD E (⟨d, op, none, fu, hd⟩ :: l) rs fr h R) ∧ (b = (!want) → WD E l (rs ++ [(h.next, h.next)]) (setDst fr d .undef) h R)) : WD E (⟨d, op, some (t, want), fu, hd⟩ :: l) rs fr h R := by
  obtain ⟨t, h1, h2, h3⟩ := hb
  exact WD.guard h1 h2 h3

/-- What was there is there. -/
def Keep (h h' : Heap) : Prop := ∀ b x, h.get b = some x → h'.get b = some x

theorem Grow.kp {h h' : Heap} (g : Grow h h') : Keep h h' := g.keep
theorem Keep.refl (h : Heap) : Keep h h := fun _ _ e => e
theorem Keep.trans {a b c : Heap} (x : Keep a b) (y : Keep b c) : Keep a c := fun _ _ e => y _ _ (x _ _ e)

theorem Keep.load {h h' : Heap} (g : Keep h h') {b o n : Nat} {l : List Val} (e : h.load b o n = some l) : h'.load b o n = some l := by
  obtain ⟨cs, h1, h2, rfl⟩ := Heap.load_some e
  unfold Heap.load
  rw [g _ _ h1]
  simp [h2]

theorem Keep.u64s {h h' : Heap} (g : Keep h h') {s : Val} {xs : List Int} (e : U64s h s xs) : U64s h' s xs := by
  rcases e with e | ⟨b, o, cap, ls, e1, e2⟩
  · exact .inl e
  · exact .inr ⟨b, o, cap, ls, e1, g.load e2⟩

/-- A call whose contract keeps the heap. -/
theorem WO.callG {E : Env} {fr : List Val} {h0 h : Heap} {d : Option Nat} {f : FuncId} {args : List Opd} {g : Option (Nat × Bool)} {fu : Bool} {hd : List Nat} {l : List VOper} {R : List Val → Heap → Prop} (w0 : Wf h0) (g0 : Grow h0 h) (P : Val → Prop)
    (hg : wanted fr g = some true) (hw : ∀ h1, Wf h1 → Keep h0 h1 → WC E f (evs fr args) h1 fun v h' => Grow h1 h' ∧ P v) (k : ∀ v h', Grow h0 h' → P v → WO E l (setDst fr d v) h' R) : WO E (⟨d, .call f args, g, fu, hd⟩ :: l) fr h R :=
  WO.call hg ((hw h (g0.wf w0) g0.kp).mono fun v h' ⟨a, b⟩ => k v h' (g0.trans a) b)

theorem WO.known {E : Env} {fr : List Val} {h : Heap} {d : Option Nat} {op : VOp} {g : Nat × Bool} {fu : Bool} {hd : List Nat} {l : List VOper} {R : List Val → Heap → Prop}
    (hg : wanted fr (some g) = some true) (k : WO E (⟨d, op, none, fu, hd⟩ :: l) fr h R) : WO E (⟨d, op, some g, fu, hd⟩ :: l) fr h R := by
  obtain ⟨n, fr2, hh2, e, q⟩ := k
  refine ⟨n, fr2, hh2, ?_, q⟩
  rw [runOps] at e ⊢
  simp only [hg]
  simpa only [wanted] using e

theorem WD.known {E : Env} {rs : List (Nat × Nat)} {fr : List Val} {h : Heap} {d : Option Nat} {op : VOp} {g : Nat × Bool} {fu : Bool} {hd : List Nat} {l : List VOper} {R : List Val → Heap → Prop}
    (hg : wanted fr (some g) = some true) (k : WD E (⟨d, op, none, fu, hd⟩ :: l) rs fr h R) : WD E (⟨d, op, some g, fu, hd⟩ :: l) rs fr h R := by
  obtain ⟨n, fr2, hh2, e, q⟩ := k
  refine ⟨n, fr2, hh2, ?_, q⟩
  rw [runDraw] at e ⊢
  simp only [hg]
  simpa only [wanted] using e

/-- The ranges lie behind what was there at first. -/
def Late (h0 h : Heap) : List (Nat × Nat) → Prop
  | [] => True
  | p :: r => (p.2 ≤ p.1 ∨ (h0.next ≤ p.1 ∧ p.2 ≤ h.next)) ∧ Late h0 h r

theorem late_hid {h0 h : Heap} {j : Nat} (hj : j < h0.next ∨ h.next ≤ j) : ∀ {A : List (Nat × Nat)}, Late h0 h A → (A.any fun r => decide (r.1 ≤ j) && decide (j < r.2)) = false
  | [], _ => rfl
  | p :: r, l => by
    simp only [List.any_cons, Bool.or_eq_false_iff]
    refine ⟨?_, late_hid hj l.2⟩
    rcases l.1 with k | ⟨k1, k2⟩
    · simp; omega
    · simp; omega

theorem veil_hidden {h0 h : Heap} {A : List (Nat × Nat)} (l : Late h0 h A) {j : Nat} (hj : j < h0.next ∨ h.next ≤ j) : (h.veil A).hidden j = h.hidden j := by
  simp only [Heap.hidden, Heap.veil, List.any_append]
  rw [late_hid hj l, Bool.false_or]

theorem lt_of_get {h : Heap} (w : Wf h) {b : Nat} {x : Blk} (e : h.get b = some x) : b < h.next := by
  rcases Nat.lt_or_ge b h.next with k | k
  · exact k
  · have := w.t b k
    rw [Heap.get_t e] at this; cases this

theorem veil_keep {h0 h : Heap} (w0 : Wf h0) (g0 : Grow h0 h) {A : List (Nat × Nat)} (l : Late h0 h A) : Keep h0 (h.veil A) := by
  intro b x e
  have h1 := g0.keep _ _ e
  have := veil_hidden l (.inl (lt_of_get w0 e))
  unfold Heap.get at h1 ⊢
  rw [this]
  exact h1

theorem veil_wf {h0 h : Heap} (w : Wf h) {A : List (Nat × Nat)} (l : Late h0 h A) : Wf (h.veil A) :=
  ⟨fun b hb => (veil_hidden l (.inr hb)).trans (w.hid b hb), w.t, Nat.le_refl _⟩

theorem unveil_grow {h0 h h' : Heap} (w0 : Wf h0) (g0 : Grow h0 h) {A : List (Nat × Nat)} (l : Late h0 h A) (g : Grow (h.veil A) h') : Grow h0 (h.unveil h') := by
  have hn : h.next ≤ h'.next := g.next
  have hun : ∀ b, b < h0.next → (h.unveil h').get b = h'.get b := by
    intro b hb
    unfold Heap.get
    have : (h.unveil h').hidden b = h'.hidden b := by
      simp only [Heap.hidden, Heap.unveil, g.hid]
      show _ = (A ++ h.hid).any _
      rw [List.any_append, late_hid (.inl hb) l, Bool.false_or]
    rw [this]; rfl
  refine ⟨Nat.le_trans g0.next hn, ?_, g0.hid, g0.floor, fun w => ?_⟩
  · intro b x e
    rw [hun b (lt_of_get w0 e)]
    exact g.keep _ _ (veil_keep w0 g0 l _ _ e)
  · have w1 := g0.wf w
    have w2 := g.wf (veil_wf w1 l)
    refine ⟨fun b hb => ?_, w2.t, Nat.le_trans w1.fl hn⟩
    have := w1.hid b (Nat.le_trans hn hb)
    exact this

/-- A call in a region that draws its order. -/
theorem WD.callG {E : Env} {rs : List (Nat × Nat)} {fr : List Val} {h0 h : Heap} {d : Option Nat} {f : FuncId} {args : List Opd} {fu : Bool} {hd : List Nat} {l : List VOper} {R : List Val → Heap → Prop} (w0 : Wf h0) (g0 : Grow h0 h) (P : Val → Prop)
    (hl : Late h0 h (hiddenOf rs hd)) (hw : ∀ h1, Wf h1 → Keep h0 h1 → WC E f (evs fr args) h1 fun v h' => Grow h1 h' ∧ P v) (k : ∀ v h', Grow h0 h' → h.next ≤ h'.next → P v → WD E l (rs ++ [(h.next, h'.next)]) (setDst fr d v) h' R) : WD E (⟨d, .call f args, none, fu, hd⟩ :: l) rs fr h R := by
  cases fu with
  | true =>
    obtain ⟨n, v, h', e, a, b⟩ := hw h (g0.wf w0) g0.kp
    obtain ⟨m, fr2, h2, e2, q⟩ := k v h' (g0.trans a) a.next b
    refine ⟨max n m, fr2, h2, ?_, q⟩
    rw [runDraw]
    simp only [wanted]
    rw [if_pos (.inr trivial)]
    simp only [step]
    rw [run_mono (Nat.le_max_left n m) _ _ _ _ e]
    exact runDraw_mono (run_mono (Nat.le_max_right n m)) _ _ _ _ _ e2
  | false =>
    obtain ⟨n, v, h', e, a, b⟩ := hw (h.veil (hiddenOf rs hd)) (veil_wf (g0.wf w0) hl) (veil_keep w0 g0 hl)
    obtain ⟨m, fr2, h2, e2, q⟩ := k v (h.unveil h') (unveil_grow w0 g0 hl a) a.next b
    refine ⟨max n m, fr2, h2, ?_, q⟩
    rw [runDraw]
    simp only [wanted]
    rw [if_neg (by simp [VOp.kind]), if_pos (show (VOp.call f args).kind = 2 from rfl)]
    simp only [step]
    have := run_mono (Nat.le_max_left n m) _ _ _ _ e
    unfold Heap.veil at this
    rw [this]
    exact runDraw_mono (run_mono (Nat.le_max_right n m)) _ _ _ _ _ e2

theorem WE.seqBlock {E : Env} {fr : List Val} {h : Heap} {Q : Ex → List Val → Heap → Prop} {i : Nat} {a b : VC} (w : WE E a fr h (blockQ i (seqQ E b Q))) : WE E (.seq (.block i a) b) fr h Q := WE.seq (WE.block w)

theorem stepK_mono {E : Env} {fr : List Val} {h : Heap} {o : VOp} {K K' : Val → Heap → Prop} (k : ∀ v h, K v h → K' v h) (w : stepK E fr h o K) : stepK E fr h o K' := by
  unfold stepK at w ⊢
  split at w
  · exact k _ _ w
  · exact w

/-- A step that leaves the heap as it is. -/
theorem WO.op1s {E : Env} {fr : List Val} {h : Heap} {o : VOper} {l : List VOper} {R : List Val → Heap → Prop} (w : opK E fr h o fun fr' h' => h' = h ∧ WO E l fr' h R) : WO E (o :: l) fr h R := by
  refine WO.op1 ?_
  unfold opK at w ⊢
  split at w
  · exact stepK_mono (fun v h' ⟨e, q⟩ => by subst e; exact q) w
  · exact w.2
  · exact w

theorem WD.op2s {E : Env} {rs : List (Nat × Nat)} {fr : List Val} {h : Heap} {o : VOper} {l : List VOper} {R : List Val → Heap → Prop} (w : opV E rs fr h o fun rs fr' h' => h' = h ∧ WD E l rs fr' h R) : WD E (o :: l) rs fr h R := by
  refine WD.op2 ?_
  unfold opV at w ⊢
  split at w
  · split at w
    · rename_i hc
      rw [if_pos hc]
      exact stepK_mono (fun v h' ⟨e, q⟩ => by subst e; exact q) w
    · rename_i hc
      rw [if_neg hc]
      exact ⟨w.1, stepK_mono (fun v h' ⟨e, q⟩ => by rw [e]; exact q) w.2⟩
  · exact w.2
  · exact w

theorem WO.lenOfE {E : Env} {fr : List Val} {h : Heap} {d : Option Nat} {x : Opd} {fu : Bool} {hd : List Nat} {l : List VOper} {R : List Val → Heap → Prop}
    (k : ∃ n, lenI (V.ev fr x) = some n ∧ WO E l (setDst fr d (.int .i64 (n : Nat))) h R) : WO E (⟨d, .lenOf x, none, fu, hd⟩ :: l) fr h R := by
  obtain ⟨n, h1, h2⟩ := k
  exact WO.op (o := ⟨d, .lenOf x, none, fu, hd⟩) rfl (n := 0) (by rw [step_lenOf, h1]) h2

theorem WO.iaddrE {E : Env} {fr : List Val} {h : Heap} {d : Option Nat} {sz : Nat} {x i : Opd} {fu : Bool} {hd : List Nat} {l : List VOper} {R : List Val → Heap → Prop}
    (k : ∃ v, eltI sz (V.ev fr x) (V.ev fr i) = some v ∧ WO E l (setDst fr d v) h R) : WO E (⟨d, .iaddr sz x i, none, fu, hd⟩ :: l) fr h R := by
  obtain ⟨n, h1, h2⟩ := k
  exact WO.op (o := ⟨d, .iaddr sz x i, none, fu, hd⟩) rfl (n := 0) (by rw [step_iaddr, h1]) h2

theorem WD.pureE {E : Env} {rs : List (Nat × Nat)} {fr : List Val} {h : Heap} {d : Option Nat} {op : VOp} {fu : Bool} {hd : List Nat} {l : List VOper} {R : List Val → Heap → Prop} {v : Val} (hk : op.kind = 0) (hs : step E.meth (run E 0) fr h op = some (v, h))
    (k : WD E l (rs ++ [(h.next, h.next)]) (setDst fr d v) h R) : WD E (⟨d, op, none, fu, hd⟩ :: l) rs fr h R := by
  refine WD.op2s ?_
  simp only [opV, wanted, hk, Nat.zero_le, true_or, if_true, stepK, hs]
  exact ⟨trivial, k⟩

theorem WD.lenOfE {E : Env} {rs : List (Nat × Nat)} {fr : List Val} {h : Heap} {d : Option Nat} {x : Opd} {fu : Bool} {hd : List Nat} {l : List VOper} {R : List Val → Heap → Prop}
    (k : ∃ n, lenI (V.ev fr x) = some n ∧ WD E l (rs ++ [(h.next, h.next)]) (setDst fr d (.int .i64 (n : Nat))) h R) : WD E (⟨d, .lenOf x, none, fu, hd⟩ :: l) rs fr h R := by
  obtain ⟨n, h1, h2⟩ := k
  exact WD.pureE rfl (by rw [step_lenOf, h1]) h2

theorem WD.iaddrE {E : Env} {rs : List (Nat × Nat)} {fr : List Val} {h : Heap} {d : Option Nat} {sz : Nat} {x i : Opd} {fu : Bool} {hd : List Nat} {l : List VOper} {R : List Val → Heap → Prop}
    (k : ∃ v, eltI sz (V.ev fr x) (V.ev fr i) = some v ∧ WD E l (rs ++ [(h.next, h.next)]) (setDst fr d v) h R) : WD E (⟨d, .iaddr sz x i, none, fu, hd⟩ :: l) rs fr h R := by
  obtain ⟨n, h1, h2⟩ := k
  exact WD.pureE rfl (by rw [step_iaddr, h1]) h2

theorem WE.condE {E : Env} {fr : List Val} {h : Heap} {Q : Ex → List Val → Heap → Prop} {c : Opd} {a b : VC} (hc : ∃ t, V.ev fr c = .bool t ∧ (t = true → WE E a fr h Q) ∧ (t = false → WE E b fr h Q)) : WE E (.cond c a b) fr h Q := by
  obtain ⟨t, h1, h2, h3⟩ := hc
  exact WE.cond2 h1 h2 h3

end Go.V
