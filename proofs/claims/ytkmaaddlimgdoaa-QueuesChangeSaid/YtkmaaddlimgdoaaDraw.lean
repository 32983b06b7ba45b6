/-
  A region that draws its order: whatever order is drawn, it comes to what the order of the text comes to.
-/
import Derived.Test.YtkmaaddlimgdoaaDrawA
set_option linter.unusedVariables false
set_option linter.unusedSimpArgs false
set_option linter.unusedSectionVars false
namespace Go.V

def Ren.cut (ρ : Ren) (k : Nat) : Ren := fun b => if b < k then ρ b else none

theorem Ren.cut_le (ρ : Ren) (k : Nat) : (ρ.cut k).le ρ := by
  intro b l h
  unfold Ren.cut at h
  split at h
  · exact h
  · cases h

theorem Ren.cut_mono {ρ ρ' : Ren} {k k' : Nat} (h : ρ.le ρ') (hk : k ≤ k') : (ρ.cut k).le (ρ'.cut k') := by
  intro b l e
  unfold Ren.cut at e ⊢
  split at e
  · rw [if_pos (by omega)]; exact h _ _ e
  · cases e

def Modif (vo : VOper) : Prop := 2 ≤ vo.op.kind ∧ vo.full = true

def Bef (ops : Array Oper) (i j : Nat) : Prop := ((Region.before ops).getD i 0).testBit j = true

structure Ctx (P : Program) (meth : TypeId → Val → String → Option (FuncId × Val)) (call : CallT) (ops : Array Oper) (vl : List VOper) (F : Nat → List Val) (H : Nat → Heap) : Prop where
  ms : MethSound P meth
  cs : CallSound P call
  ce : CallExt call
  len : vl.length = ops.size
  get : ∀ i, i < ops.size → ∃ o vo, ops[i]? = some o ∧ vl[i]? = some vo ∧ cOp P o = some vo.op ∧ vo.dst = o.dst ∧ cGuard ops o.guard = some vo.guard ∧ notSelect o.op = true
  full : ∀ i vo, vl[i]? = some vo → vo.full = true → ∀ j wo, vl[j]? = some wo → wo.op.kind ≠ 0 → j = i ∨ (j < i ∧ Bef ops i j) ∨ (i < j ∧ Bef ops j i)
  hide : ∀ i vo, vl[i]? = some vo → ∀ j wo, vl[j]? = some wo → wo.op.kind ≠ 0 → j < i → ¬ Bef ops i j → j ∈ vo.hide
  names : ∀ i o vo, ops[i]? = some o → vl[i]? = some vo → ∀ t ∈ namesOf o vo, ∀ j wo, vl[j]? = some wo → wo.dst = some t → j = i ∨ Bef ops (max j i) (min j i)
  edges : ∀ i o, ops[i]? = some o → ∀ e ∈ o.after, Region.binds .any e = true → e.on < i
  trace : ∀ i vo, vl[i]? = some vo → StepAt meth call (rangesTo H i) vo (F i) (H i) (F (i + 1)) (H (i + 1))
  low0 : ∀ b, (H 0).next ≤ b → (H 0).t.get b = none

section
variable {P : Program} {meth : TypeId → Val → String → Option (FuncId × Val)} {call : CallT} {ops : Array Oper} {vl : List VOper} {F : Nat → List Val} {H : Nat → Heap}

theorem StepAt.ext (hce : CallExt call) {rs : List (Nat × Nat)} {vo : VOper} {fr fr1 : List Val} {h h1 : Heap} (s : StepAt meth call rs vo fr h fr1 h1) : HExt h h1 := by
  rcases s with ⟨_, _, rfl⟩ | ⟨_, v, _, ⟨_, hs⟩ | ⟨_, _, h2, hs, rfl⟩⟩
  · exact .refl _
  · exact step_ext hce hs
  · exact (step_ext hce hs).free

theorem StepAt.length {rs : List (Nat × Nat)} {vo : VOper} {fr fr1 : List Val} {h h1 : Heap} (s : StepAt meth call rs vo fr h fr1 h1) : fr1.length = fr.length := by
  have : ∀ v, (setDst fr vo.dst v).length = fr.length := by intro v; cases vo.dst <;> simp [setDst]
  rcases s with ⟨_, rfl, _⟩ | ⟨_, v, rfl, _⟩ <;> exact this _

theorem StepAt.other {rs : List (Nat × Nat)} {vo : VOper} {fr fr1 : List Val} {h h1 : Heap} (s : StepAt meth call rs vo fr h fr1 h1) {t : Nat} (ht : vo.dst ≠ some t) : fr1.getD t .undef = fr.getD t .undef := by
  have : ∀ v, (setDst fr vo.dst v).getD t .undef = fr.getD t .undef := by
    intro v
    cases hd : vo.dst with
    | none => rfl
    | some d =>
      have : d ≠ t := fun e => ht (by rw [hd, e])
      simp [setDst, List.getD_eq_getElem?_getD, this]
  rcases s with ⟨_, rfl, _⟩ | ⟨_, v, rfl, _⟩ <;> exact this _

/-- What is not a step that may write leaves the old blocks. -/
theorem StepAt.keeps (hce : CallExt call) {rs : List (Nat × Nat)} {vo : VOper} {fr fr1 : List Val} {h h1 : Heap} (s : StepAt meth call rs vo fr h fr1 h1) (hm : ¬ Modif vo) {b : Nat} (hb : b < h.next) : h1.t.get b = h.t.get b := by
  rcases s with ⟨_, _, rfl⟩ | ⟨_, v, _, ⟨hk, hs⟩ | ⟨_, _, h2, hs, rfl⟩⟩
  · rfl
  · have hk1 : vo.op.kind ≤ 1 := by
      rcases hk with hk | hk
      · exact hk
      · rcases Nat.lt_or_ge 1 vo.op.kind with h | h
        · exact absurd ⟨h, hk⟩ hm
        · exact h
    have := step_ext hce (step_blind hk1 hs h.hid h.next)
    exact this.keep b hb hb
  · exact (step_ext hce hs).keep b hb hb

/-- What does not touch the heap makes no block. -/
theorem StepAt.idle {rs : List (Nat × Nat)} {vo : VOper} {fr fr1 : List Val} {h h1 : Heap} (s : StepAt meth call rs vo fr h fr1 h1) (hk : vo.op.kind = 0) : h1 = h := by
  rcases s with ⟨_, _, rfl⟩ | ⟨_, v, _, ⟨_, hs⟩ | ⟨hk2, _⟩⟩
  · rfl
  · generalize vo.op = x at hk hs
    cases x <;> simp only [VOp.kind] at hk <;> (try omega) <;> simp only [step, pureV] at hs <;> (repeat' split at hs) <;> (try (cases hs; done)) <;> cases hs <;> rfl
  · omega

variable (C : Ctx P meth call ops vl F H)
include C

theorem Ctx.vo {i : Nat} (h : i < ops.size) : ∃ vo, vl[i]? = some vo := by
  obtain ⟨_, vo, _, h2, _⟩ := C.get i h
  exact ⟨vo, h2⟩

theorem Ctx.ext {i j : Nat} (hij : i ≤ j) (hj : j ≤ ops.size) : HExt (H i) (H j) := by
  induction j with
  | zero => have : i = 0 := by omega
            subst this; exact .refl _
  | succ j ih =>
    by_cases h : i = j + 1
    · subst h; exact .refl _
    · obtain ⟨vo, hvo⟩ := C.vo (i := j) (by omega)
      exact (ih (by omega) (by omega)).trans ((C.trace j vo hvo).ext C.ce)

theorem Ctx.flen {j : Nat} (hj : j ≤ ops.size) : (F j).length = (F 0).length := by
  induction j with
  | zero => rfl
  | succ j ih =>
    obtain ⟨vo, hvo⟩ := C.vo (i := j) (by omega)
    rw [(C.trace j vo hvo).length, ih (by omega)]

theorem Ctx.fstable {m i t : Nat} (hmi : m ≤ i) (hi : i ≤ ops.size) (hn : ∀ j wo, m ≤ j → j < i → vl[j]? = some wo → wo.dst ≠ some t) : (F i).getD t .undef = (F m).getD t .undef := by
  induction i with
  | zero => have : m = 0 := by omega
            subst this; rfl
  | succ i ih =>
    by_cases h : m = i + 1
    · subst h; rfl
    · obtain ⟨vo, hvo⟩ := C.vo (i := i) (by omega)
      rw [(C.trace i vo hvo).other (hn i vo (by omega) (by omega) hvo)]
      exact ih (by omega) (by omega) fun j wo h1 h2 => hn j wo h1 (by omega)

theorem Ctx.hstable {m i b : Nat} (hmi : m ≤ i) (hi : i ≤ ops.size) (hb : b < (H m).next) (hn : ∀ j wo, m ≤ j → j < i → vl[j]? = some wo → ¬ Modif wo) : (H i).t.get b = (H m).t.get b := by
  induction i with
  | zero => have : m = 0 := by omega
            subst this; rfl
  | succ i ih =>
    by_cases h : m = i + 1
    · subst h; rfl
    · obtain ⟨vo, hvo⟩ := C.vo (i := i) (by omega)
      have hlt : b < (H i).next := Nat.lt_of_lt_of_le hb (C.ext (show m ≤ i by omega) (by omega)).next
      rw [(C.trace i vo hvo).keeps C.ce (hn i vo (by omega) (by omega) hvo) hlt]
      exact ih (by omega) (by omega) fun j wo h1 h2 => hn j wo h1 (by omega)

/-- Where a block was made. -/
theorem Ctx.maker {i b : Nat} (hi : i ≤ ops.size) (h0 : (H 0).next ≤ b) (hb : b < (H i).next) : ∃ j wo, j < i ∧ vl[j]? = some wo ∧ wo.op.kind ≠ 0 ∧ (H j).next ≤ b ∧ b < (H (j + 1)).next := by
  induction i with
  | zero => omega
  | succ i ih =>
    by_cases h : b < (H i).next
    · obtain ⟨j, wo, h1, h2⟩ := ih (by omega) h
      exact ⟨j, wo, by omega, h2⟩
    · obtain ⟨vo, hvo⟩ := C.vo (i := i) (by omega)
      refine ⟨i, vo, by omega, hvo, ?_, by omega, hb⟩
      intro hk
      have := (C.trace i vo hvo).idle hk
      rw [this] at hb; omega

theorem Ctx.ranges {i j b : Nat} (hi : i < ops.size) (hj : j < ops.size) (h1 : (H i).next ≤ b) (h2 : b < (H (i + 1)).next) (h3 : (H j).next ≤ b) (h4 : b < (H (j + 1)).next) : i = j := by
  rcases Nat.lt_trichotomy i j with h | h | h
  · have := (C.ext (show i + 1 ≤ j by omega) (by omega)).next; omega
  · exact h
  · have := (C.ext (show j + 1 ≤ i by omega) (by omega)).next; omega

theorem Ctx.lowi {i : Nat} (hi : i ≤ ops.size) : ∀ b, (H i).next ≤ b → (H i).t.get b = none := (C.ext (Nat.zero_le i) hi).low C.low0

end

/-- Blocks that are there when some operations have run. -/
def Pres (H : Nat → Heap) (In : Nat → Prop) (b : Nat) : Prop := b < (H 0).next ∨ ∃ j, In j ∧ (H j).next ≤ b ∧ b < (H (j + 1)).next

/-- What holds whenever some of the operations have run. -/
structure Inv (ops : Array Oper) (vl : List VOper) (F : Nat → List Val) (H : Nat → Heap) (ρ0 : Ren) (w0 : World) (a0 : Act) (In : Nat → Prop) (a : Act) (w : World) (ρ : Ren) (T M : Nat → Nat) : Prop where
  clo : ∀ k, In k → ∀ j, Bef ops k j → In j
  lt : ∀ k, In k → k < ops.size
  pres : ∀ b l, ρ b = some l → Pres H In b
  ext : ρ0.le ρ
  old : ∀ b l, b < (H 0).next → ρ b = some l → ρ0 b = some l
  tsz : a.tmps.size = (F 0).length
  dfr : a.defers = a0.defers
  tmp : ∀ t, t < (F 0).length → T t ≤ ops.size ∧ (T t = 0 ∨ ∃ k wo, T t = k + 1 ∧ In k ∧ vl[k]? = some wo ∧ wo.dst = some t) ∧ (∀ j wo, T t ≤ j → In j → vl[j]? = some wo → wo.dst ≠ some t) ∧
    VRel (ρ.cut (H (T t)).next) ((F (T t)).getD t .undef) (a.tmps.getD t Go.undef)
  blk : ∀ b, Pres H In b → M b ≤ ops.size ∧ b < (H (M b)).next ∧ (M b = 0 ∨ ∃ k wo, M b = k + 1 ∧ In k ∧ vl[k]? = some wo ∧ (Modif wo ∨ ((H k).next ≤ b ∧ b < (H (k + 1)).next))) ∧
    (∀ j wo, M b ≤ j → In j → vl[j]? = some wo → ¬ Modif wo) ∧ ∀ x, (H (M b)).get b = some x → ∃ l, ρ b = some l ∧ BRel (ρ.cut (H (M b)).next) w l x
  inj : ∀ b b' x x' l l', Pres H In b → Pres H In b' → (H (M b)).get b = some x → (H (M b')).get b' = some x' → ρ b = some l → ρ b' = some l' → l.c = l'.c → b = b' ∨ (b < (H 0).base ∧ b' < (H 0).base)
  os : w.os = w0.os
  tape : w.tape = w0.tape
  output : w.output = w0.output
  size : w0.heap.size ≤ w.heap.size
  frame : ∀ c, c < w0.heap.size → (∀ b x l, (H 0).get b = some x → (H 0).floor ≤ b → ρ0 b = some l → l.c ≠ c) → w.heap[c]? = w0.heap[c]?
  fresh : ∀ b l, ρ b = some l → ρ0 b = none → w0.heap.size ≤ l.c ∨ ∃ b0 x0 l0, (H 0).get b0 = some x0 ∧ (H 0).floor ≤ b0 ∧ ρ0 b0 = some l0 ∧ l0.c = l.c

/-- How an operation is run: in which heap, and what that leaves. -/
structure How (H : Nat → Heap) (In : Nat → Prop) (i : Nat) (vo : VOper) (hi hi' : Heap) : Prop where
  t : hi.t = (H i).t
  next : hi.next = (H i).next
  t' : hi'.t = (H (i + 1)).t
  next' : hi'.next = (H (i + 1)).next
  kind : (hi = H i ∧ hi' = H (i + 1) ∧ Modif vo) ∨ (¬ Modif vo ∧ hi.floor = (H i).next)
  hid : ∀ b, hi.hidden b = false → (H i).hidden b = false
  hid' : ∀ b, (H i).next ≤ b → (H i).hidden b = false → hi'.hidden b = false
  vis : ∀ b x, hi.get b = some x → vo.op.kind ≠ 0 ∧ Pres H In b
  base : hi.base = (H i).base

section
variable {P : Program} {meth : TypeId → Val → String → Option (FuncId × Val)} {call : CallT} {ops : Array Oper} {vl : List VOper} {F : Nat → List Val} {H : Nat → Heap}
  (C : Ctx P meth call ops vl F H) {ρ0 : Ren} {w0 : World} {a0 : Act} {In : Nat → Prop} {a : Act} {w : World} {ρ : Ren} {T M : Nat → Nat} (I : Inv ops vl F H ρ0 w0 a0 In a w ρ T M)
  {i : Nat} (hin : ¬ In i) (hi0 : i < ops.size) (hbef : ∀ j, Bef ops i j → In j) {vo : VOper} (hvo : vl[i]? = some vo)
include C I hin hi0 hbef hvo

/-- A step that may write, and one that touches the heap, run in a known order. -/
theorem modif_before (hk : vo.op.kind ≠ 0) {k : Nat} {wo : VOper} (hwo : vl[k]? = some wo) (hm : Modif wo) : (In k → k < i) ∧ (k < i → In k) := by
  rcases C.full k wo hwo hm.2 i vo hvo hk with h | ⟨h1, h2⟩ | ⟨h1, h2⟩
  · subst h
    exact ⟨fun h => absurd h hin, fun h => absurd h (Nat.lt_irrefl _)⟩
  · exact ⟨fun h => absurd (I.clo k h i h2) hin, fun h => by omega⟩
  · exact ⟨fun _ => h1, fun _ => hbef k h2⟩

/-- What an operation sees is as the text's order has it. -/
theorem seen {hi hi' : Heap} (W : How H In i vo hi hi') {b : Nat} {x : Blk} (hg : hi.get b = some x) : M b ≤ i ∧ (H (M b)).get b = some x ∧ b < (H i).next := by
  obtain ⟨hk, hp⟩ := W.vis b x hg
  obtain ⟨m1, m2, m3, m4, m5⟩ := I.blk b hp
  have ht : (H i).t.get b = some x := by rw [← W.t]; exact Heap.get_t hg
  have hb : b < (H i).next := by
    rcases Nat.lt_or_ge b (H i).next with h | h
    · exact h
    · rw [C.lowi (by omega) b h] at ht; cases ht
  have hMi : M b ≤ i := by
    rcases m3 with m3 | ⟨k, wo, e, hIk, hwo, hmod | ⟨r1, r2⟩⟩
    · omega
    · have := (modif_before C I hin hi0 hbef hvo hk hwo hmod).1 hIk; omega
    · have hkn := I.lt k hIk
      rcases Nat.lt_trichotomy k i with h | h | h
      · omega
      · subst h; exact absurd hIk hin
      · have := (C.ext (show i ≤ k by omega) (by omega)).next; omega
  refine ⟨hMi, ?_, hb⟩
  have hst := C.hstable hMi (by omega) m2 fun j wo h1 h2 hwo hmod => m4 j wo h1 ((modif_before C I hin hi0 hbef hvo hk hwo hmod).2 h2) hwo hmod
  have hh : (H (M b)).hidden b = false := by
    have e1 := (C.ext (Nat.zero_le (M b)) m1).hid
    have e2 := (C.ext (Nat.zero_le i) (show i ≤ ops.size by omega)).hid
    have := W.hid b (Heap.get_nh hg)
    unfold Heap.hidden at this ⊢
    rw [e1, ← e2]; exact this
  unfold Heap.get
  rw [hh, ← hst, ht]; rfl

theorem base_eq {hi hi' : Heap} (W : How H In i vo hi hi') : hi.base = (H 0).base := W.base.trans (C.ext (Nat.zero_le i) (by omega)).base

theorem inv_hrel (hr0 : HRel ρ0 (H 0) w0) {hi hi' : Heap} (W : How H In i vo hi hi') : HRel (ρ.cut (H i).next) hi w := by
  have hbe := base_eq C I hin hi0 hbef hvo W
  have hx0 := C.ext (Nat.zero_le i) (show i ≤ ops.size by omega)
  refine ⟨?_, ?_, ?_, ?_, ?_⟩
  · intro b x hg
    obtain ⟨s1, s2, s3⟩ := seen C I hin hi0 hbef hvo W hg
    obtain ⟨l, h1, h2⟩ := (I.blk b (W.vis b x hg).2).2.2.2.2 x s2
    exact ⟨l, by simp [Ren.cut, s3, h1], h2.mono (Ren.cut_mono (Ren.le_refl _) (C.ext s1 (by omega)).next) rfl⟩
  · intro b b' x x' l l' hg hg' r r' hc
    obtain ⟨s1, s2, s3⟩ := seen C I hin hi0 hbef hvo W hg
    obtain ⟨s1', s2', s3'⟩ := seen C I hin hi0 hbef hvo W hg'
    rw [hbe]
    exact I.inj b b' x x' l l' (W.vis b x hg).2 (W.vis b' x' hg').2 s2 s2' (Ren.cut_le _ _ _ _ r) (Ren.cut_le _ _ _ _ r') hc
  · intro b hb
    rw [W.next] at hb
    unfold Ren.cut; rw [if_neg (by omega)]
  · intro b x hg
    rw [W.t] at hg
    rw [W.next]
    rcases Nat.lt_or_ge b (H i).next with h | h
    · exact h
    · rw [C.lowi (by omega) b h] at hg; cases hg
  · rw [hbe, W.next]
    have h1 := hr0.bs
    have h2 := hx0.next
    refine ⟨?_, by omega⟩
    rcases W.kind with ⟨e, _, _⟩ | ⟨_, e⟩
    · rw [e, hx0.floor]; exact h1.1
    · rw [e]; omega

/-- What an operation names is as the text's order has it. -/
theorem named {o : Oper} (ho : ops[i]? = some o) {t : Nat} (ht : t ∈ namesOf o vo) (htl : t < (F 0).length) : VRel (ρ.cut (H i).next) ((F i).getD t .undef) (a.tmps.getD t Go.undef) := by
  obtain ⟨t1, t2, t3, t4⟩ := I.tmp t htl
  have hT : T t ≤ i := by
    rcases t2 with t2 | ⟨k, wo, e, hIk, hwo, hd⟩
    · omega
    · rcases C.names i o vo ho hvo t ht k wo hwo hd with h | h
      · subst h; exact absurd hIk hin
      · rcases Nat.lt_trichotomy k i with h' | h' | h'
        · omega
        · subst h'; exact absurd hIk hin
        · rw [Nat.max_eq_left (by omega), Nat.min_eq_right (by omega)] at h
          exact absurd (I.clo k hIk i h) hin
  have hst := C.fstable hT (show i ≤ ops.size by omega) (t := t) fun j wo h1 h2 hwo hd => by
    rcases C.names i o vo ho hvo t ht j wo hwo hd with h | h
    · omega
    · rw [Nat.max_eq_right (by omega), Nat.min_eq_left (by omega)] at h
      exact t3 j wo h1 (hbef j h) hwo hd
  rw [hst]
  exact VRel.mono (Ren.cut_mono (Ren.le_refl _) (C.ext hT (by omega)).next) _ _ t4

/-- What may have been written is what could be written at the start. -/
theorem written (hr0 : HRel ρ0 (H 0) w0) {hi hi' : Heap} (W : How H In i vo hi hi') {b : Nat} {x : Blk} {l : Loc} (hg : hi.get b = some x) (hf : hi.floor ≤ b) (hl : (ρ.cut (H i).next) b = some l) :
    w0.heap.size ≤ l.c ∨ ∃ b0 x0 l0, (H 0).get b0 = some x0 ∧ (H 0).floor ≤ b0 ∧ ρ0 b0 = some l0 ∧ l0.c = l.c := by
  have hlt : b < (H i).next := by
    unfold Ren.cut at hl
    split at hl
    · assumption
    · cases hl
  have hl' := Ren.cut_le _ _ _ _ hl
  rcases W.kind with ⟨e, _, hm⟩ | ⟨_, e⟩
  · subst e
    have hx := C.ext (Nat.zero_le i) (show i ≤ ops.size by omega)
    cases h0 : ρ0 b with
    | none => exact I.fresh b l hl' h0
    | some l0 =>
      have := I.ext _ _ h0
      rw [hl'] at this; cases this
      have hb0 : b < (H 0).next := by
        rcases Nat.lt_or_ge b (H 0).next with h | h
        · exact h
        · rw [hr0.top b h] at h0; cases h0
      have hh : (H 0).hidden b = false := by
        have := Heap.get_nh hg
        unfold Heap.hidden at this ⊢
        rw [← hx.hid]; exact this
      cases ht : (H 0).t.get b with
      | none =>
        have := hx.live b hb0 ht
        rw [Heap.get_t hg] at this; cases this
      | some x0 =>
        exact .inr ⟨b, x0, l, by unfold Heap.get; rw [hh, ht]; rfl, by rw [← hx.floor]; exact hf, h0, rfl⟩
  · omega

theorem inv_step (hr0 : HRel ρ0 (H 0) w0) {o : Oper} (ho : ops[i]? = some o) (hdst : vo.dst = o.dst) {hi hi' : Heap} (W : How H In i vo hi hi') {ρ' : Ren} {w' : World} (p : Post (ρ.cut (H i).next) hi w ρ' hi' w') {v : Val} {cv : Value} (hv : VRel ρ' v cv) (hF : F (i + 1) = setDst (F i) vo.dst v) :
    ∃ ρn T' M', Inv ops vl F H ρ0 w0 a0 (fun k => k = i ∨ In k) (a.put vo.dst cv) w' ρn T' M' := by
  have hnx : (H i).next ≤ (H (i + 1)).next := (C.ext (Nat.le_succ i) (by omega)).next
  have h0x : (H 0).next ≤ (H i).next := (C.ext (Nat.zero_le i) (by omega)).next
  let R : Nat → Prop := fun b => (H i).next ≤ b ∧ b < (H (i + 1)).next
  have hdec : ∀ b, Decidable (R b) := fun b => inferInstanceAs (Decidable (_ ∧ _))
  let ρn : Ren := fun b => if (H i).next ≤ b ∧ b < (H (i + 1)).next then ρ' b else ρ b
  have rn_in : ∀ b, R b → ρn b = ρ' b := fun b h => if_pos h
  have rn_out : ∀ b, ¬ R b → ρn b = ρ b := fun b h => if_neg h
  have pres_out : ∀ b, Pres H In b → ¬ R b := by
    rintro b (h | ⟨j, hj, h1, h2⟩) ⟨r1, r2⟩
    · omega
    · have := C.ranges hi0 (I.lt j hj) r1 r2 h1 h2
      subst this; exact hin hj
  have f1 : ρ.le ρn := by
    intro b l e
    rw [rn_out b (pres_out b (I.pres b l e))]; exact e
  have born : ∀ b l, ρ' b = some l → (ρ.cut (H i).next) b = none → R b := by
    intro b l e hn
    refine ⟨by rw [← W.next]; exact p.born b l e hn, ?_⟩
    rcases Nat.lt_or_ge b (H (i + 1)).next with h | h
    · exact h
    · rw [p.hrel.top b (by rw [W.next']; exact h)] at e; cases e
  have f2 : ρ'.le ρn := by
    intro b l e
    cases hc : (ρ.cut (H i).next) b with
    | none => rw [rn_in b (born b l e hc)]; exact e
    | some l2 =>
      have := p.ext _ _ hc
      rw [e] at this; cases this
      exact f1 _ _ (Ren.cut_le _ _ _ _ hc)
  have top' : ∀ b l, ρ' b = some l → b < (H (i + 1)).next := by
    intro b l e
    rcases Nat.lt_or_ge b (H (i + 1)).next with h | h
    · exact h
    · rw [p.hrel.top b (by rw [W.next']; exact h)] at e; cases e
  have f2' : ρ'.le (ρn.cut (H (i + 1)).next) := by
    intro b l e
    unfold Ren.cut
    rw [if_pos (top' b l e)]; exact f2 _ _ e
  have pres' : ∀ b, Pres H (fun k => k = i ∨ In k) b → R b ∨ Pres H In b := by
    rintro b (h | ⟨j, rfl | hj, h1, h2⟩)
    · exact .inr (.inl h)
    · exact .inl ⟨h1, h2⟩
    · exact .inr (.inr ⟨j, hj, h1, h2⟩)
  have presR : ∀ b, R b → Pres H (fun k => k = i ∨ In k) b := fun b h => .inr ⟨i, .inl rfl, h.1, h.2⟩
  have presI : ∀ b, Pres H In b → Pres H (fun k => k = i ∨ In k) b := by
    rintro b (h | ⟨j, hj, h⟩)
    · exact .inl h
    · exact .inr ⟨j, .inr hj, h⟩
  have kindR : ∀ b, R b → vo.op.kind ≠ 0 := by
    rintro b ⟨r1, r2⟩ hk
    have := (C.trace i vo hvo).idle hk
    rw [this] at r2; omega
  have ho' : ∃ o, ops[i]? = some o := ⟨o, ho⟩
  -- where nothing may be written
  have still : ¬ Modif vo → ∀ c, c < w.heap.size → w'.heap[c]? = w.heap[c]? := by
    intro hnm c hc
    refine p.frame c hc fun b x l _ hf hl _ => ?_
    rcases W.kind with ⟨_, _, hm⟩ | ⟨_, e⟩
    · exact hnm hm
    · unfold Ren.cut at hl
      split at hl
      · omega
      · cases hl
  have newloc : ¬ Modif vo → ∀ b l, R b → ρ' b = some l → w.heap.size ≤ l.c := by
    intro hnm b l hR e
    have hc : (ρ.cut (H i).next) b = none := by unfold Ren.cut; rw [if_neg (by have := hR.1; omega)]
    rcases p.fresh b l e hc with h | ⟨b0, x0, l0, _, hf, hl, _⟩
    · exact h
    · rcases W.kind with ⟨_, _, hm⟩ | ⟨_, e⟩
      · exact absurd hm hnm
      · unfold Ren.cut at hl
        split at hl
        · omega
        · cases hl
  have hidS : (H (i + 1)).hid = (H i).hid := (C.ext (Nat.le_succ i) (by omega)).hid
  have getR : ∀ b x, R b → (H (i + 1)).get b = some x → hi'.get b = some x := by
    intro b x hR hg
    have hh : (H i).hidden b = false := by
      have := Heap.get_nh hg
      unfold Heap.hidden at this ⊢
      rw [← hidS]; exact this
    unfold Heap.get
    rw [W.hid' b hR.1 hh, W.t', Heap.get_t hg]; rfl
  refine ⟨ρn, fun t => if vo.dst = some t then i + 1 else T t, fun b => open Classical in if Modif vo ∨ R b then i + 1 else M b, ?_⟩
  constructor
  case clo =>
    rintro k (rfl | hk) j hj
    · exact .inr (hbef j hj)
    · exact .inr (I.clo k hk j hj)
  case lt =>
    rintro k (rfl | hk)
    · exact hi0
    · exact I.lt k hk
  case pres =>
    intro b l e
    by_cases hR : R b
    · exact presR b hR
    · rw [rn_out b hR] at e
      exact presI b (I.pres b l e)
  case ext => exact I.ext.trans f1
  case old =>
    intro b l hb e
    rw [rn_out b (fun hR => by have := hR.1; omega)] at e
    exact I.old b l hb e
  case tsz =>
    have : (a.put vo.dst cv).tmps.size = a.tmps.size := by cases vo.dst <;> simp [Act.put]
    rw [this]; exact I.tsz
  case dfr =>
    have : (a.put vo.dst cv).defers = a.defers := by cases vo.dst <;> rfl
    rw [this]; exact I.dfr
  case tmp =>
    intro t ht
    by_cases hd : vo.dst = some t
    · simp only [hd, if_true]
      refine ⟨by omega, .inr ⟨i, vo, rfl, .inl rfl, hvo, hd⟩, ?_, ?_⟩
      · rintro j wo hj (rfl | hIj) hwo hwd
        · omega
        · rcases C.names i o vo ho hvo t (by simp [namesOf, hd]) j wo hwo hwd with h | h
          · subst h; exact hin hIj
          · rw [Nat.max_eq_left (by omega), Nat.min_eq_right (by omega)] at h
            exact hin (I.clo j hIj i h)
      · have e1 : (F (i + 1)).getD t .undef = v := by
          rw [hF, hd]
          have : t < (F i).length := by rw [C.flen (by omega)]; exact ht
          simp [setDst, List.getD_eq_getElem?_getD, this]
        have e2 : (a.put (some t) cv).tmps.getD t Go.undef = cv := by
          have : t < a.tmps.size := by rw [I.tsz]; exact ht
          simp [Act.put, this]
        rw [e1, e2]
        exact VRel.mono f2' _ _ hv
    · simp only [hd, if_false]
      obtain ⟨t1, t2, t3, t4⟩ := I.tmp t ht
      refine ⟨t1, ?_, ?_, ?_⟩
      · rcases t2 with t2 | ⟨k, wo, h1, h2, h3⟩
        · exact .inl t2
        · exact .inr ⟨k, wo, h1, .inr h2, h3⟩
      · rintro j wo hj (rfl | hIj) hwo
        · rw [hvo] at hwo; cases hwo; exact hd
        · exact t3 j wo hj hIj hwo
      · have e2 : (a.put vo.dst cv).tmps.getD t Go.undef = a.tmps.getD t Go.undef := by
          cases hq : vo.dst with
          | none => rfl
          | some d =>
            have : d ≠ t := fun e => hd (by rw [hq, e])
            simp [Act.put, Array.getElem?_setIfInBounds_ne this]
        rw [e2]
        exact VRel.mono (Ren.cut_mono f1 (Nat.le_refl _)) _ _ t4
  case blk =>
    intro b hp
    by_cases hm : Modif vo
    · have hk : vo.op.kind ≠ 0 := by have := hm.1; omega
      rw [if_pos (Or.inl hm)]
      have hlt : b < (H (i + 1)).next := by
        rcases pres' b hp with hR | (h | ⟨j, hj, h1, h2⟩)
        · exact hR.2
        · omega
        · obtain ⟨wo, hwo⟩ := C.vo (I.lt j hj)
          have hkj : wo.op.kind ≠ 0 := by
            intro hk0
            have := (C.trace j wo hwo).idle hk0
            rw [this] at h2; omega
          rcases C.full i vo hvo hm.2 j wo hwo hkj with h | ⟨h, _⟩ | ⟨h, hb⟩
          · subst h; exact absurd hj hin
          · have := (C.ext (show j + 1 ≤ i + 1 by omega) (by omega)).next; omega
          · exact absurd (I.clo j hj i hb) hin
      refine ⟨by omega, hlt, .inr ⟨i, vo, rfl, .inl rfl, hvo, .inl hm⟩, ?_, ?_⟩
      · rintro j wo hj (rfl | hIj) hwo hmj
        · omega
        · have := (modif_before C I hin hi0 hbef hvo hk hwo hmj).1 hIj; omega
      · intro x hx
        rcases W.kind with ⟨_, e, _⟩ | ⟨hnm, _⟩
        · obtain ⟨l, h1, h2⟩ := p.hrel.blk b x (by rw [e]; exact hx)
          exact ⟨l, f2 _ _ h1, h2.mono f2' rfl⟩
        · exact absurd hm hnm
    · by_cases hR : R b
      · rw [if_pos (Or.inr hR)]
        refine ⟨by omega, hR.2, .inr ⟨i, vo, rfl, .inl rfl, hvo, .inr hR⟩, ?_, ?_⟩
        · rintro j wo hj (rfl | hIj) hwo hmj
          · omega
          · have := (modif_before C I hin hi0 hbef hvo (kindR b hR) hwo hmj).1 hIj; omega
        · intro x hx
          obtain ⟨l, h1, h2⟩ := p.hrel.blk b x (getR b x hR hx)
          exact ⟨l, f2 _ _ h1, h2.mono f2' rfl⟩
      · rw [if_neg (by rintro (h | h); exact hm h; exact hR h)]
        have hpI := (pres' b hp).resolve_left hR
        obtain ⟨m1, m2, m3, m4, m5⟩ := I.blk b hpI
        refine ⟨m1, m2, ?_, ?_, ?_⟩
        · rcases m3 with m3 | ⟨k, wo, h1, h2, h3⟩
          · exact .inl m3
          · exact .inr ⟨k, wo, h1, .inr h2, h3⟩
        · rintro j wo hj (rfl | hIj) hwo
          · rw [hvo] at hwo; cases hwo; exact hm
          · exact m4 j wo hj hIj hwo
        · intro x hx
          obtain ⟨l, h1, h2⟩ := m5 x hx
          exact ⟨l, f1 _ _ h1, h2.mono (Ren.cut_mono f1 (Nat.le_refl _)) (still hm _ h2.lt)⟩
  case inj =>
    intro b b' x x' l l' hp hp' hg hg' r r' hc
    by_cases hm : Modif vo
    · rw [if_pos (Or.inl hm)] at hg hg'
      rcases W.kind with ⟨_, e, _⟩ | ⟨hnm, _⟩
      · rw [← e] at hg hg'
        obtain ⟨l2, h1, _⟩ := p.hrel.blk b x hg
        obtain ⟨l2', h1', _⟩ := p.hrel.blk b' x' hg'
        have q1 := f2 _ _ h1
        rw [r] at q1; cases q1
        have q2 := f2 _ _ h1'
        rw [r'] at q2; cases q2
        have := p.hrel.inj b b' x x' l l' hg hg' h1 h1' hc
        rw [p.base, base_eq C I hin hi0 hbef hvo W] at this
        exact this
      · exact absurd hm hnm
    · have old : ∀ b x l, Pres H In b → (H (M b)).get b = some x → ρ b = some l → l.c < w.heap.size := by
        intro b x l hp hg r
        obtain ⟨l2, h1, h2⟩ := (I.blk b hp).2.2.2.2 x hg
        rw [r] at h1; cases h1
        exact h2.lt
      by_cases hR : R b <;> by_cases hR' : R b'
      · rw [if_pos (Or.inr hR)] at hg
        rw [if_pos (Or.inr hR')] at hg'
        rw [rn_in b hR] at r
        rw [rn_in b' hR'] at r'
        have := p.hrel.inj b b' x x' l l' (getR b x hR hg) (getR b' x' hR' hg') r r' hc
        rw [p.base, base_eq C I hin hi0 hbef hvo W] at this
        exact this
      · rw [if_neg (by rintro (h | h); exact hm h; exact hR' h)] at hg'
        rw [rn_in b hR] at r
        rw [rn_out b' hR'] at r'
        have h1 := newloc hm b l hR r
        have h2 := old b' x' l' ((pres' b' hp').resolve_left hR') hg' r'
        omega
      · rw [if_neg (by rintro (h | h); exact hm h; exact hR h)] at hg
        rw [rn_in b' hR'] at r'
        rw [rn_out b hR] at r
        have h1 := newloc hm b' l' hR' r'
        have h2 := old b x l ((pres' b hp).resolve_left hR) hg r
        omega
      · rw [if_neg (by rintro (h | h); exact hm h; exact hR h)] at hg
        rw [if_neg (by rintro (h | h); exact hm h; exact hR' h)] at hg'
        rw [rn_out b hR] at r
        rw [rn_out b' hR'] at r'
        exact I.inj b b' x x' l l' ((pres' b hp).resolve_left hR) ((pres' b' hp').resolve_left hR') hg hg' r r' hc
  case os => exact p.os.trans I.os
  case tape => exact p.tape.trans I.tape
  case output => exact p.output.trans I.output
  case size => exact Nat.le_trans I.size p.size
  case frame =>
    intro c hc hk
    rw [p.frame c (Nat.lt_of_lt_of_le hc I.size) ?_]
    · exact I.frame c hc hk
    · intro b x l hg hf hl hcc
      rcases written C I hin hi0 hbef hvo hr0 W hg hf hl with h | ⟨b0, x0, l0, h1, h2, h3, h4⟩
      · omega
      · exact hk b0 x0 l0 h1 h2 h3 (by omega)
  case fresh =>
    intro b l e hn
    by_cases hR : R b
    · rw [rn_in b hR] at e
      have hc : (ρ.cut (H i).next) b = none := by unfold Ren.cut; rw [if_neg (by have := hR.1; omega)]
      rcases p.fresh b l e hc with h | ⟨b0, x0, l0, h1, h2, h3, h4⟩
      · exact .inl (Nat.le_trans I.size h)
      · rcases written C I hin hi0 hbef hvo hr0 W h1 h2 h3 with h | ⟨b1, x1, l1, q1, q2, q3, q4⟩
        · exact .inl (by omega)
        · exact .inr ⟨b1, x1, l1, q1, q2, q3, by omega⟩
    · rw [rn_out b hR] at e
      exact I.fresh b l e hn

end

end Go.V
