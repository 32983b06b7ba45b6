/-
  What the abstract machine answers, the program answers.
-/
import Derived.Test.YtkmaaddlimgdoaaDrawC
set_option linter.unusedVariables false
set_option linter.unusedSimpArgs false
set_option linter.unusedSectionVars false
namespace Go.V

theorem run_sound {P : Program} {E : Env} (hE : EnvOk P E) (hpe : PrimsExt E) (n : Nat) : CallSound P (run E n) := (exec_sound (draw_ok P) hE hpe n).2

def heap0 : Heap := { next := 0, t := .leaf, hid := [], floor := 0, base := 0 }

theorem heap0_get (b : Nat) : heap0.get b = none := by
  unfold heap0 Heap.get
  split
  · rfl
  · cases b <;> rfl

theorem heap0_t (b : Nat) : heap0.t.get b = none := by
  have := heap0_get b
  unfold Heap.get at this
  rw [if_neg (by simp [Heap.hidden, heap0])] at this
  exact this

theorem hrel0 (w : World) : HRel (fun _ => none) heap0 w :=
  ⟨fun b x h => (by rw [heap0_get] at h; cases h), fun b _ x _ _ _ h => (by rw [heap0_get] at h; cases h), fun _ _ => rfl, fun b x h => (by rw [heap0_t] at h; cases h), ⟨Nat.le_refl _, Nat.le_refl _⟩⟩

/-- A call without arguments: what it answers, and that it leaves what was there. -/
theorem run_closed {P : Program} {E : Env} (hE : EnvOk P E) (hpe : PrimsExt E) {n : Nat} {f : FuncId} {v : Val} {h' : Heap} (e : run E n f [] heap0 = some (v, h')) (w : World) :
    Calls P f #[] w (fun en w' => ∃ cv ρ', en = .returned cv ∧ VRel ρ' v cv ∧ HRel ρ' h' w' ∧ w'.os = w.os ∧ w'.tape = w.tape ∧ w'.output = w.output ∧ w.heap.size ≤ w'.heap.size ∧ ∀ c, c < w.heap.size → w'.heap[c]? = w.heap[c]?) := by
  refine ((run_sound hE hpe n f [] heap0 v h' e).2 _ w #[] (hrel0 w) .nil).mono ?_
  rintro en w' ⟨cv, ρ', he, p, hv⟩
  exact ⟨cv, ρ', he, hv, p.hrel, p.os, p.tape, p.output, p.size, fun c hc => p.frame c hc fun b x l hg => by rw [heap0_get] at hg; cases hg⟩

theorem wf0 : (∀ b, heap0.next ≤ b → heap0.hidden b = false) ∧ (∀ b, heap0.next ≤ b → heap0.t.get b = none) ∧ heap0.floor ≤ heap0.next :=
  ⟨fun _ _ => rfl, fun b _ => heap0_t b, Nat.le_refl _⟩

/-- A law over arguments without memory: it answers true, and leaves what was there. -/
theorem law_closed {P : Program} {E : Env} (hE : EnvOk P E) (hpe : PrimsExt E) {n : Nat} {f : FuncId} {args : List Val} {cargs : Array Value} (ha : VRels (fun _ => none) args cargs.toList) {h' : Heap} (e : run E n f args heap0 = some (.bool true, h')) (w : World) :
    Calls P f cargs w (fun en w' => en = .returned (.bool true) ∧ (∀ c, c < w.heap.size → w'.heap[c]? = w.heap[c]?) ∧ w'.os = w.os ∧ w'.output = w.output) := by
  refine ((run_sound hE hpe n f args heap0 _ h' e).2 _ w cargs (hrel0 w) ha).mono ?_
  rintro en w' ⟨cv, ρ', he, p, hv⟩
  simp only [VRel] at hv
  subst hv
  exact ⟨he, fun c hc => p.frame c hc (fun b x l hg => by rw [heap0_get] at hg; cases hg), p.os, p.output⟩

/-- A closed function as a whole: what it answers, in any heap. -/
def wholeP (v : Val) : List Val → Heap → Option (Val × Heap) := fun args h => match args with
  | [] => some (v, h)
  | _ => none

theorem whole_ext {v : Val} {args : List Val} {h h' : Heap} {x : Val} (e : wholeP v args h = some (x, h')) : HExt h h' := by
  unfold wholeP at e
  split at e
  · cases e; exact .refl _
  · cases e

/-- A closed function that answers true: sound as a whole. -/
theorem whole_sound {P : Program} {E : Env} (hE : EnvOk P E) (hpe : PrimsExt E) {n : Nat} {f : FuncId} {h1 : Heap} (e : run E n f [] heap0 = some (.bool true, h1)) : (∃ fn, FnOk P f fn) ∧ ∀ args h v h', wholeP (.bool true) args h = some (v, h') →
    ∀ ρ w (cargs : Array Value), HRel ρ h w → VRels ρ args cargs.toList → Calls P f cargs w (fun e w' => ∃ cv ρ', e = .returned cv ∧ Post ρ h w ρ' h' w' ∧ VRel ρ' v cv) := by
  refine ⟨?_, ?_⟩
  · obtain ⟨⟨fn, h1, h2, h3⟩, _⟩ := run_sound hE hpe n f [] heap0 _ h1 e
    exact ⟨fn, h1, h2, h3⟩
  · intro args h v h' ew ρ w cargs hr ha
    unfold wholeP at ew
    split at ew
    · cases ew
      simp only [VRels] at ha
      obtain rfl : cargs = #[] := Array.ext' (by simpa using ha)
      refine (run_closed hE hpe e w).mono ?_
      rintro en w' ⟨cv, ρ', he, hv, _, h3, h4, h5, h6, h7⟩
      simp only [VRel] at hv
      refine ⟨cv, ρ, he, ?_, by simp only [VRel]; exact hv⟩
      refine ⟨Ren.le_refl _, ⟨?_, hr.inj, hr.top, hr.low, hr.bs⟩, rfl, rfl, rfl, Nat.le_refl _, fun _ _ h => h, h3, h4, h5, h6, fun c hc _ => h7 c hc, fun b l h1 h2 => (by rw [h1] at h2; cases h2), fun b l h1 h2 => (by rw [h1] at h2; cases h2)⟩
      intro b x eb
      obtain ⟨l, h1, h2⟩ := hr.blk b x eb
      exact ⟨l, h1, h2.mono (Ren.le_refl _) (h7 _ h2.lt)⟩
    · cases ew

end Go.V
