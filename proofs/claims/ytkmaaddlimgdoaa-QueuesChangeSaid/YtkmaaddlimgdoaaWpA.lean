/-
  Symbolic steps.
-/
import Derived.Test.YtkmaaddlimgdoaaWp
set_option linter.unusedVariables false
set_option linter.unusedSimpArgs false
set_option linter.unusedSectionVars false
namespace Go.V

def stepK (E : Env) (fr : List Val) (h : Heap) (o : VOp) (K : Val → Heap → Prop) : Prop := match step E.meth (run E 0) fr h o with
  | some (v, h') => K v h'
  | none => False

def opK (E : Env) (fr : List Val) (h : Heap) (o : VOper) (K : List Val → Heap → Prop) : Prop := match wanted fr o.guard with
  | some true => stepK E fr h o.op fun v h' => K (setDst fr o.dst v) h'
  | some false => K (setDst fr o.dst .undef) h
  | none => False

theorem WO.op1 {E : Env} {fr : List Val} {h : Heap} {o : VOper} {l : List VOper} {R : List Val → Heap → Prop} (w : opK E fr h o fun fr h => WO E l fr h R) : WO E (o :: l) fr h R := by
  unfold opK at w
  split at w
  · rename_i hg
    unfold stepK at w
    split at w
    · rename_i hs
      exact WO.op hg hs w
    · exact w.elim
  · rename_i hg
    exact WO.not hg w
  · exact w.elim

theorem getD_set {l : List Val} {i j : Nat} {v : Val} (hi : i < l.length) : (l.set i v).getD j .undef = if i = j then v else l.getD j .undef := by
  simp only [List.getD_eq_getElem?_getD, List.getElem?_set]
  split
  · simp [hi]
  · rfl

theorem getD_enter {n : Nat} {args : List Val} {j : Nat} : (enter n args).getD j .undef = args.getD j .undef := by
  unfold enter
  simp only [List.getD_eq_getElem?_getD]
  rcases Nat.lt_or_ge j args.length with h | h
  · rw [List.getElem?_append_left h]
  · rw [List.getElem?_append_right h, List.getElem?_eq_none h, List.getElem?_replicate]
    split <;> rfl

theorem length_enter {n : Nat} {args : List Val} : (enter n args).length = args.length + (n - args.length) := by simp [enter]

theorem load_at {h : Heap} {b o n : Nat} {l : List Val} (e : h.load b o n = some l) {i : Nat} (hi : i < n) : h.load b (o + i) 1 = some [l.getD i .undef] := by
  unfold Heap.load at e ⊢
  split at e
  · rename_i c hc
    split at e
    · rename_i hl
      cases e
      rw [if_pos (by omega)]
      congr 1
      have h1 : (c.drop (o + i)).take 1 = [c[o + i]'(by omega)] := by
        rw [List.take_one]
        simp [List.head?_drop, List.getElem?_eq_getElem (show o + i < c.length by omega)]
      rw [h1]
      simp [List.getD_eq_getElem?_getD, hi, List.getElem?_drop, List.getElem?_eq_getElem (show o + i < c.length by omega)]
    · cases e
  · cases e

theorem wrap_i64 {n : Int} (h1 : -9223372036854775808 ≤ n) (h2 : n < 9223372036854775808) : IntKind.i64.wrap n = n := by
  unfold IntKind.wrap
  simp (decide := true) [IntKind.signed, IntKind.bits]
  omega

/-- What is read as a list of numbers. -/
def U64s (h : Heap) (s : Val) (xs : List Int) : Prop := (s = .nils ∧ xs = []) ∨ ∃ b o cap ls, s = .slice b o xs.length cap ls ∧ h.load b o xs.length = some (xs.map (Val.int .u64))

theorem U64s.len {E : Env} {fr : List Val} {h : Heap} {s : Val} {xs : List Int} (hs : U64s h s xs) {x : Opd} (hx : V.ev fr x = s) {K : Val → Heap → Prop} (k : K (.int .i64 xs.length) h) : stepK E fr h (.lenOf x) K := by
  unfold stepK
  rcases hs with ⟨rfl, rfl⟩ | ⟨b, o, cap, ls, rfl, _⟩
  · simp only [step, hx]; exact k
  · simp only [step, hx]; exact k

theorem U64s.at {E : Env} {fr : List Val} {h : Heap} {s : Val} {xs : List Int} (hs : U64s h s xs) {x y : Opd} (hx : V.ev fr x = s) {i : Nat} {ik : IntKind} (hy : V.ev fr y = .int ik (i : Int)) (hi : i < xs.length) {K : Val → Heap → Prop}
    (k : ∀ b o, h.load b o 1 = some [.int .u64 xs[i]] → K (.ptr b o) h) : stepK E fr h (.iaddr 1 x y) K := by
  unfold stepK
  rcases hs with ⟨rfl, rfl⟩ | ⟨b, o, cap, ls, rfl, hl⟩
  · simp at hi
  · simp only [step, hx, hy]
    rw [if_pos ⟨by omega, by omega⟩]
    refine k b _ ?_
    have := load_at hl hi
    simp only [List.getD_eq_getElem?_getD, List.getElem?_map, List.getElem?_eq_getElem hi, Option.map_some, Option.getD_some] at this
    simpa using this


end Go.V
