/-
  What a step of the abstract machine leaves of its heap.
-/
import Derived.Test.YtkmaaddlimgdoaaRel
set_option linter.unusedVariables false
set_option linter.unusedSimpArgs false
set_option linter.unusedSectionVars false
namespace Go.V

structure HExt (h h' : Heap) : Prop where
  hid : h'.hid = h.hid
  floor : h'.floor = h.floor
  base : h'.base = h.base
  next : h.next ≤ h'.next
  live : ∀ b, b < h.next → h.t.get b = none → h'.t.get b = none
  keep : ∀ b, b < h.floor → b < h.next → h'.t.get b = h.t.get b
  low : (∀ b, h.next ≤ b → h.t.get b = none) → ∀ b, h'.next ≤ b → h'.t.get b = none

theorem HExt.refl (h : Heap) : HExt h h := ⟨rfl, rfl, rfl, Nat.le_refl _, fun _ _ h => h, fun _ _ _ => rfl, fun h => h⟩

theorem HExt.trans {a b c : Heap} (x : HExt a b) (y : HExt b c) : HExt a c :=
  ⟨y.hid.trans x.hid, y.floor.trans x.floor, y.base.trans x.base, Nat.le_trans x.next y.next,
   fun i hi h => y.live i (Nat.lt_of_lt_of_le hi x.next) (x.live i hi h),
   fun i hi hn => (y.keep i (by rw [x.floor]; exact hi) (Nat.lt_of_lt_of_le hn x.next)).trans (x.keep i hi hn),
   fun h => y.low (x.low h)⟩

theorem HExt.new (h : Heap) (x : Blk) : HExt h (h.new x).2 := by
  have hg : ∀ b, (h.new x).2.t.get b = if b = h.next then some x else h.t.get b := by
    intro b
    show (h.t.set (h.next + 1) h.next (some x)).get b = _
    rw [Tr.get_set _ _ _ _ _ (by omega)]
  refine ⟨rfl, rfl, rfl, by simp [Heap.new, Heap.put], ?_, ?_, ?_⟩
  · intro b hb e; rw [hg, if_neg (by omega)]; exact e
  · intro b _ hn; rw [hg, if_neg (by omega)]
  · intro hl b hb
    simp only [Heap.new, Heap.put] at hb
    rw [hg, if_neg (by omega)]
    exact hl b (by omega)

theorem HExt.put {h : Heap} {b : Nat} (x : Option Blk) (hf : h.floor ≤ b) (hg : h.t.get b ≠ none ∨ x = none) : HExt h (h.put b x) := by
  have hq : ∀ j, (h.put b x).t.get j = if j = b then x else h.t.get j := by
    intro j
    show (h.t.set (b + 1) b x).get j = _
    rw [Tr.get_set _ _ _ _ _ (by omega)]
  refine ⟨rfl, rfl, rfl, Nat.le_refl _, ?_, ?_, ?_⟩
  · intro j hj e
    rw [hq]
    split
    · subst j
      rcases hg with hg | hg
      · exact absurd e hg
      · exact hg
    · exact e
  · intro j hj _; rw [hq, if_neg (by omega)]
  · intro hl j hj
    rw [hq]
    split
    · subst j
      rcases hg with hg | hg
      · exact absurd (hl b hj) hg
      · exact hg
    · exact hl j hj

theorem HExt.store {h h' : Heap} {b o : Nat} {vs : List Val} (e : h.store b o vs = some h') : HExt h h' := by
  unfold Heap.store at e
  split at e
  · rename_i hf
    split at e
    · rename_i cs hg
      split at e
      · cases e
        exact .put _ hf (.inl (by rw [Heap.get_t hg]; simp))
      · cases e
    · cases e
  · cases e

theorem HExt.appendN {h h' : Heap} {size bytes n : Nat} {x v : Val} {new : List Val} (e : appendN h size bytes x n new = some (v, h')) : HExt h h' := by
  unfold V.appendN at e
  split at e
  · split at e
    · cases e; exact .refl _
    · split at e
      · cases e; exact .new _ _
      · cases e
  · split at e
    · split at e
      · cases e; exact .refl _
      · split at e
        · rename_i hs; cases e; exact .store hs
        · cases e
    · split at e
      · split at e
        · cases e
        · split at e
          · cases e; exact .new _ _
          · split at e
            · rename_i hk
              cases e
              exact (HExt.put (h := h) none hk.1 (.inr rfl)).trans (.new _ _)
            · cases e
      · cases e
  · cases e

def CallExt (call : CallT) : Prop := ∀ f args h v h', call f args h = some (v, h') → HExt h h'

theorem step_ext {meth : TypeId → Val → String → Option (FuncId × Val)} {call : CallT} (hce : CallExt call) {fr : List Val} {h h' : Heap} {vo : VOp} {v : Val} (e : step meth call fr h vo = some (v, h')) : HExt h h' := by
  cases vo <;> simp only [step, pureV] at e
  case call f args => exact hce _ _ _ _ _ e
  case callv x args =>
    split at e
    · exact hce _ _ _ _ _ e
    · cases e
  case invoke r n args =>
    split at e
    · split at e
      · exact hce _ _ _ _ _ e
      · cases e
    · cases e
  case append size bytes x y =>
    unfold append at e
    split at e
    · cases e
    · split at e
      · cases e
      · exact .appendN e
  case appendZ size bytes z x y =>
    split at e
    · split at e
      · exact .appendN e
      · cases e
    · cases e
  case mapUpdate es m k v =>
    split at e
    · split at e
      · rename_i hf
        split at e
        · rename_i es' hg
          split at e
          · cases e
            exact .put _ hf (.inl (by rw [Heap.get_t hg]; simp))
          · cases e
        · cases e
      · cases e
    · cases e
  all_goals
    (repeat' split at e) <;> first
      | (cases e; done)
      | (cases e; exact .refl _)
      | (cases e; exact .new _ _)
      | (rename_i hs; cases e; exact .store hs)

theorem HExt.free {h h' : Heap} {A : List (Nat × Nat)} (x : HExt { h with hid := A, floor := h.next } h') : HExt h { h' with hid := h.hid, floor := h.floor } := by
  refine ⟨rfl, rfl, x.base, x.next, x.live, ?_, x.low⟩
  intro b _ hn
  exact x.keep b hn hn

theorem runOps_ext {meth : TypeId → Val → String → Option (FuncId × Val)} {call : CallT} (hce : CallExt call) : ∀ (l : List VOper) (fr fr' : List Val) (h h' : Heap), runOps meth call l fr h = some (fr', h') → HExt h h'
  | [], fr, fr', h, h', e => by
    simp only [runOps, Option.some.injEq, Prod.mk.injEq] at e
    rw [← e.2]; exact .refl _
  | o :: r, fr, fr', h, h', e => by
    simp only [runOps] at e
    split at e
    · cases e
    · exact runOps_ext hce r _ _ _ _ e
    · split at e
      · rename_i hs
        exact (step_ext hce hs).trans (runOps_ext hce r _ _ _ _ e)
      · cases e

theorem runDraw_ext {meth : TypeId → Val → String → Option (FuncId × Val)} {call : CallT} (hce : CallExt call) : ∀ (l : List VOper) (rs : List (Nat × Nat)) (fr fr' : List Val) (h h' : Heap), runDraw meth call l rs fr h = some (fr', h') → HExt h h'
  | [], rs, fr, fr', h, h', e => by
    simp only [runDraw, Option.some.injEq, Prod.mk.injEq] at e
    rw [← e.2]; exact .refl _
  | o :: r, rs, fr, fr', h, h', e => by
    simp only [runDraw] at e
    split at e
    · cases e
    · exact runDraw_ext hce r _ _ _ _ _ e
    · split at e
      · split at e
        · rename_i hs
          exact (step_ext hce hs).trans (runDraw_ext hce r _ _ _ _ _ e)
        · cases e
      · split at e
        · split at e
          · rename_i hs
            exact (step_ext hce hs).free.trans (runDraw_ext hce r _ _ _ _ _ e)
          · cases e
        · cases e

def PrimsExt (E : Env) : Prop := ∀ f p, E.prims f = some p → ∀ args h v h', p args h = some (v, h') → HExt h h'

theorem exec_ext {E : Env} (hp : PrimsExt E) : ∀ (n : Nat), (∀ (c : VC) (fr fr' : List Val) (h h' : Heap) (ex : Ex), exec E n c fr h = some (ex, fr', h') → HExt h h') ∧ CallExt (callF E (exec E n)) := by
  have calls : ∀ n, (∀ (c : VC) (fr fr' : List Val) (h h' : Heap) (ex : Ex), exec E n c fr h = some (ex, fr', h') → HExt h h') → CallExt (callF E (exec E n)) := by
    intro n ih f args h v h' e
    unfold callF at e
    split at e
    · rename_i p hpp
      exact hp f p hpp args h v h' e
    · split at e
      · cases e
      · split at e
        · cases e
        · rename_i hex
          split at e
          · cases e; exact ih _ _ _ _ _ _ hex
          · cases e
        · cases e
  intro n
  induction n with
  | zero =>
    have h0 : ∀ (c : VC) (fr fr' : List Val) (h h' : Heap) (ex : Ex), exec E 0 c fr h = some (ex, fr', h') → HExt h h' := by
      intro c fr fr' h h' ex e; simp [exec] at e
    exact ⟨h0, calls 0 h0⟩
  | succ n ih =>
    obtain ⟨ihx, ihc⟩ := ih
    have hx : ∀ (c : VC) (fr fr' : List Val) (h h' : Heap) (ex : Ex), exec E (n + 1) c fr h = some (ex, fr', h') → HExt h h' := by
      intro c fr fr' h h' ex e
      cases c <;> simp only [exec] at e
      case skip => cases e; exact .refl _
      case region ops =>
        split at e
        · rename_i hr; cases e; exact runOps_ext ihc _ _ _ _ _ hr
        · cases e
      case draw ops =>
        split at e
        · rename_i hr; cases e; exact runDraw_ext ihc _ _ _ _ _ _ hr
        · cases e
      case seq a b =>
        split at e
        · rename_i h1; exact (ihx _ _ _ _ _ _ h1).trans (ihx _ _ _ _ _ _ e)
        · exact ihx _ _ _ _ _ _ e
      case cond c a b =>
        split at e
        · exact ihx _ _ _ _ _ _ e
        · exact ihx _ _ _ _ _ _ e
        · cases e
      case block i a =>
        split at e
        · rename_i h1
          split at e <;> cases e <;> exact ihx _ _ _ _ _ _ h1
        · exact ihx _ _ _ _ _ _ e
      case loop a =>
        split at e
        · rename_i h1; exact (ihx _ _ _ _ _ _ h1).trans (ihx _ _ _ _ _ _ e)
        · exact ihx _ _ _ _ _ _ e
      case exit i => cases e; exact .refl _
      case ret => cases e; exact .refl _
    exact ⟨hx, calls (n + 1) hx⟩

/-- An operation that does not read does not mind what is hidden. -/
theorem step_blind {meth : TypeId → Val → String → Option (FuncId × Val)} {call : CallT} {fr : List Val} {h h' : Heap} {vo : VOp} {v : Val} (hk : vo.kind ≤ 1) (e : step meth call fr h vo = some (v, h')) (A : List (Nat × Nat)) (F : Nat) :
    step meth call fr { h with hid := A, floor := F } vo = some (v, { h' with hid := A, floor := F }) := by
  cases vo <;> simp only [VOp.kind] at hk <;> (try omega) <;> simp only [step, pureV] at e ⊢ <;> (repeat' split at e) <;> (try (cases e; done)) <;> cases e <;> simp_all [Heap.new, Heap.put]

end Go.V
