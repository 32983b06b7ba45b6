/-
  Slices, as lists of cells.
-/
import Derived.Test.YtkmaaddlimgdoaaWpB
set_option linter.unusedVariables false
set_option linter.unusedSimpArgs false
set_option linter.unusedSectionVars false
namespace Go.V

/-- What is read as n elements of sz cells. -/
def Sl (h : Heap) (s : Val) (sz n : Nat) (cs : List Val) : Prop := cs.length = n * sz ∧ ((s = .nils ∧ n = 0) ∨ ∃ b o cap ls, s = .slice b o n cap ls ∧ (ls = 0 ∨ ls = sz) ∧ n ≤ cap ∧ (n * sz = 0 ∨ h.load b o (n * sz) = some cs))

theorem Sl.lenI {h : Heap} {s : Val} {sz n : Nat} {cs : List Val} (e : Sl h s sz n cs) : lenI s = some n := by
  rcases e.2 with ⟨rfl, rfl⟩ | ⟨b, o, cap, ls, rfl, _⟩ <;> rfl

theorem Keep.sl {h h' : Heap} (g : Keep h h') {s : Val} {sz n : Nat} {cs : List Val} (e : Sl h s sz n cs) : Sl h' s sz n cs := by
  refine ⟨e.1, ?_⟩
  rcases e.2 with e | ⟨b, o, cap, ls, e1, e2⟩
  · exact .inl e
  · exact .inr ⟨b, o, cap, ls, e1, e2.1, e2.2.1, e2.2.2.imp id g.load⟩

theorem load_sub {h : Heap} {b o n : Nat} {l : List Val} (e : h.load b o n = some l) {i m : Nat} (hi : i + m ≤ n) : h.load b (o + i) m = some ((l.drop i).take m) := by
  obtain ⟨cs, h1, h2, rfl⟩ := Heap.load_some e
  rw [load_get h1 (by omega)]
  congr 1
  rw [List.drop_take, List.take_take, List.drop_drop, Nat.min_eq_left (by omega)]

theorem Sl.elt {h : Heap} {s : Val} {sz n : Nat} {cs : List Val} (e : Sl h s sz n cs) {k : IntKind} {i : Nat} (hi : i < n) (hz : 0 < sz) :
    ∃ b o, eltI sz s (.int k (i : Int)) = some (.ptr b o) ∧ ∀ h', Keep h h' → ∀ j m, j + m ≤ sz → h'.load b (o + j) m = some ((cs.drop (i * sz + j)).take m) := by
  rcases e.2 with ⟨rfl, rfl⟩ | ⟨b, o, cap, ls, rfl, _, _, e2⟩
  · omega
  · refine ⟨b, o + i * sz, by simp only [eltI]; rw [if_pos ⟨by omega, by omega⟩]; simp, fun h' g j m hj => ?_⟩
    have hn : i * sz + sz ≤ n * sz := by
      have := Nat.mul_le_mul_right sz (show i + 1 ≤ n by omega)
      rw [Nat.add_mul] at this; omega
    rcases e2 with e2 | e2
    · omega
    · have := load_sub (g.load e2) (i := i * sz + j) (m := m) (by omega)
      rw [← Nat.add_assoc] at this
      exact this

theorem flat_drop {α : Type} {f : α → List Val} {sz : Nat} (hf : ∀ x, (f x).length = sz) : ∀ (es : List α) (i : Nat) (hi : i < es.length), (es.flatMap f).drop (i * sz) = f es[i] ++ (es.drop (i + 1)).flatMap f
  | [], i, hi => by simp at hi
  | e :: es, 0, _ => by simp
  | e :: es, i + 1, hi => by
    have := flat_drop hf es i (by simpa using hi)
    have e1 : ((e :: es).flatMap f).drop ((i + 1) * sz) = (es.flatMap f).drop (i * sz) := by
      rw [Nat.succ_mul, List.flatMap_cons, Nat.add_comm, ← List.drop_drop]
      congr 1
      rw [List.drop_append_of_le_length (by rw [hf]; omega)]
      have : (f e).drop sz = [] := List.drop_eq_nil_of_le (by rw [hf]; omega)
      rw [this, List.nil_append]
    rw [e1, this]
    rfl

theorem flat_len {α : Type} {f : α → List Val} {sz : Nat} (hf : ∀ x, (f x).length = sz) : ∀ (es : List α), (es.flatMap f).length = es.length * sz
  | [] => by simp
  | e :: es => by rw [List.flatMap_cons, List.length_append, hf, flat_len hf es, List.length_cons, Nat.succ_mul, Nat.add_comm]

/- Entries. -/
structure Ent where
  id : Int
  cl : Int
  si : Int
  deriving DecidableEq

def Ent.cells (e : Ent) : List Val := [.int .i64 e.id, .int .i64 e.cl, .int .i64 e.si]

def Es (h : Heap) (s : Val) (es : List Ent) : Prop := Sl h s 3 es.length (es.flatMap Ent.cells)

theorem Keep.es {h h' : Heap} (g : Keep h h') {s : Val} {es : List Ent} (e : Es h s es) : Es h' s es := Keep.sl g e

theorem Es.elt {h : Heap} {s : Val} {es : List Ent} (e : Es h s es) {k : IntKind} {i : Nat} (hi : i < es.length) :
    ∃ b o, eltI 3 s (.int k (i : Int)) = some (.ptr b o) ∧ (∀ h', Grow h h' → h'.load b o 3 = some es[i].cells) ∧ (∀ h', Grow h h' → h'.load b o 1 = some [.int .i64 es[i].id]) ∧
      (∀ h', Grow h h' → h'.load b (o + 1) 1 = some [.int .i64 es[i].cl]) ∧ (∀ h', Grow h h' → h'.load b (o + 2) 1 = some [.int .i64 es[i].si]) := by
  obtain ⟨b, o, h1, h2⟩ := Sl.elt e (k := k) hi (by omega)
  have hd := flat_drop (f := Ent.cells) (sz := 3) (fun _ => rfl) es i hi
  refine ⟨b, o, h1, fun h' g => ?_, fun h' g => ?_, fun h' g => ?_, fun h' g => ?_⟩
  · have := h2 h' g.kp 0 3 (by omega)
    rw [Nat.add_zero, Nat.add_zero, hd] at this
    simpa [Ent.cells] using this
  · have := h2 h' g.kp 0 1 (by omega)
    rw [Nat.add_zero, Nat.add_zero, hd] at this
    simpa [Ent.cells] using this
  · have := h2 h' g.kp 1 1 (by omega)
    rw [← List.drop_drop, hd] at this
    simpa [Ent.cells] using this
  · have := h2 h' g.kp 2 1 (by omega)
    rw [← List.drop_drop, hd] at this
    simpa [Ent.cells] using this

/-- A block that is made and then written whole. -/
theorem fresh_store {h h1 h2 : Heap} (w : Wf h) (g : Grow h h1) {b : Nat} {cs : List Val} (hb : h.next ≤ b) (k : Wrote h1 b cs h2) : Grow h h2 := g.wrote hb w k

/-- A call of a function value. -/
theorem WO.callvG {E : Env} {fr : List Val} {h0 h : Heap} {d : Option Nat} {x : Opd} {f : FuncId} {a c : List Val} {args : List Opd} {fu : Bool} {hd : List Nat} {l : List VOper} {R : List Val → Heap → Prop} (w0 : Wf h0) (g0 : Grow h0 h) (P : Val → Prop)
    (hx : V.ev fr x = .func (.func f) a c) (hw : ∀ h1, Wf h1 → Grow h0 h1 → WC E f (a ++ evs fr args ++ c) h1 fun v h' => Grow h1 h' ∧ P v) (k : ∀ v h', Grow h0 h' → P v → WO E l (setDst fr d v) h' R) : WO E (⟨d, .callv x args, none, fu, hd⟩ :: l) fr h R := by
  obtain ⟨n, v, h', e, a1, b1⟩ := hw h (g0.wf w0) g0
  exact WO.op (o := ⟨d, .callv x args, none, fu, hd⟩) rfl (n := n) (by simp only [step, hx]; exact e) (k v h' (g0.trans a1) b1)

theorem load_none {h : Heap} {s : Val} {sz n : Nat} {cs : List Val} (e : Sl h s sz n cs) (h0 : n * sz = 0) : cs = [] := List.eq_nil_of_length_eq_zero (by rw [e.1, h0])

/-- s[:k] -/
theorem stepK_hi {E : Env} {fr : List Val} {h : Heap} {x y : Opd} {s : Val} {sz n k : Nat} {ik : IntKind} {cs : List Val} (hx : V.ev fr x = s) (hy : V.ev fr y = .int ik (k : Int)) (e : Sl h s sz n cs) (hk : k ≤ n) {K : Val → Heap → Prop}
    (kk : ∀ s', Sl h s' sz k (cs.take (k * sz)) → K s' h) : stepK E fr h (.slice sz x none (some y) none) K := by
  unfold stepK
  have hkn := Nat.mul_le_mul_right sz hk
  have hlen : (cs.take (k * sz)).length = k * sz := by rw [List.length_take, e.1]; omega
  rcases e.2 with ⟨rfl, rfl⟩ | ⟨b, o, cap, ls, rfl, h1, h2, h3⟩
  · obtain rfl : k = 0 := by omega
    simp [step, hx, sliceVal, bounds, bnd, hy, pureV]
    exact kk _ ⟨by simp, .inl ⟨rfl, rfl⟩⟩
  · have hb : bounds fr n cap none (some y) none = some (0, k, cap) := by
      simp only [bounds, bnd, hy]
      rw [if_pos ⟨by omega, by omega⟩]
      simp
    simp only [step, hx, sliceVal, hb, pureV, if_pos h1, Option.isSome_none, Bool.false_eq_true, if_false, Nat.zero_mul, Nat.add_zero, Nat.sub_zero]
    refine kk _ ⟨hlen, .inr ⟨b, o, cap, ls, rfl, h1, by omega, ?_⟩⟩
    rcases h3 with h3 | h3
    · exact .inl (by omega)
    · right
      have := load_sub h3 (i := 0) (m := k * sz) (by omega)
      simpa using this

/-- s[l:] -/
theorem stepK_lo {E : Env} {fr : List Val} {h : Heap} {x y : Opd} {s : Val} {sz n l : Nat} {ik : IntKind} {cs : List Val} (hx : V.ev fr x = s) (hy : V.ev fr y = .int ik (l : Int)) (e : Sl h s sz n cs) (hk : l ≤ n) {K : Val → Heap → Prop}
    (kk : ∀ s', Sl h s' sz (n - l) (cs.drop (l * sz)) → K s' h) : stepK E fr h (.slice sz x (some y) none none) K := by
  unfold stepK
  have hkn := Nat.mul_le_mul_right sz hk
  have hlen : (cs.drop (l * sz)).length = (n - l) * sz := by rw [List.length_drop, e.1, Nat.sub_mul]
  rcases e.2 with ⟨rfl, rfl⟩ | ⟨b, o, cap, ls, rfl, h1, h2, h3⟩
  · obtain rfl : l = 0 := by omega
    simp [step, hx, sliceVal, bounds, bnd, hy, pureV]
    exact kk _ ⟨by simpa using hlen, .inl ⟨rfl, rfl⟩⟩
  · have hb : bounds fr n cap (some y) none none = some (l, n, cap) := by
      simp only [bounds, bnd, hy, Option.isSome_none, Bool.false_eq_true, if_false]
      rw [if_pos ⟨by omega, by omega⟩]
      simp
    simp only [step, hx, sliceVal, hb, pureV, if_pos h1, Option.isSome_none, Bool.false_eq_true, if_false]
    refine kk _ ⟨hlen, .inr ⟨b, o + l * sz, cap - l, ls, rfl, h1, by omega, ?_⟩⟩
    rcases h3 with h3 | h3
    · left
      have := Nat.mul_le_mul_right sz (Nat.sub_le n l); omega
    · right
      have := load_sub h3 (i := l * sz) (m := (n - l) * sz) (by rw [Nat.sub_mul]; omega)
      rw [this]
      congr 1
      exact List.take_of_length_le (by rw [hlen]; exact Nat.le_refl _)

end Go.V
