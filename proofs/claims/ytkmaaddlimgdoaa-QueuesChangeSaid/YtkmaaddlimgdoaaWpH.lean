/-
  Heaps that grow.
-/
import Derived.Test.YtkmaaddlimgdoaaWpD
set_option linter.unusedVariables false
set_option linter.unusedSimpArgs false
set_option linter.unusedSectionVars false
namespace Go.V

/-- Nothing is there, and nothing hidden, that has not been made. -/
structure Wf (h : Heap) : Prop where
  hid : ∀ b, h.next ≤ b → h.hidden b = false
  t : ∀ b, h.next ≤ b → h.t.get b = none
  fl : h.floor ≤ h.next

/-- What was there is there; what is new may be written. -/
structure Grow (h h' : Heap) : Prop where
  next : h.next ≤ h'.next
  keep : ∀ b x, h.get b = some x → h'.get b = some x
  hid : h'.hid = h.hid
  floor : h'.floor = h.floor
  wf : Wf h → Wf h'

theorem Grow.refl (h : Heap) : Grow h h := ⟨Nat.le_refl _, fun _ _ e => e, rfl, rfl, fun w => w⟩
theorem Grow.trans {a b c : Heap} (x : Grow a b) (y : Grow b c) : Grow a c := ⟨Nat.le_trans x.next y.next, fun _ _ e => y.keep _ _ (x.keep _ _ e), y.hid.trans x.hid, y.floor.trans x.floor, fun w => y.wf (x.wf w)⟩

theorem Grow.load {h h' : Heap} (g : Grow h h') {b o n : Nat} {l : List Val} (e : h.load b o n = some l) : h'.load b o n = some l := by
  obtain ⟨cs, h1, h2, rfl⟩ := Heap.load_some e
  unfold Heap.load
  rw [g.keep _ _ h1]
  simp [h2]

theorem Grow.u64s {h h' : Heap} (g : Grow h h') {s : Val} {xs : List Int} (e : U64s h s xs) : U64s h' s xs := by
  rcases e with e | ⟨b, o, cap, ls, e1, e2⟩
  · exact .inl e
  · exact .inr ⟨b, o, cap, ls, e1, g.load e2⟩

theorem new_next (h : Heap) (x : Blk) : (h.new x).2.next = h.next + 1 := rfl
theorem new_floor (h : Heap) (x : Blk) : (h.new x).2.floor = h.floor := rfl
theorem new_hid (h : Heap) (x : Blk) : (h.new x).2.hid = h.hid := rfl

theorem new_self {h : Heap} (w : Wf h) (x : Blk) : (h.new x).2.get h.next = some x := by
  rw [Heap.new_get, w.hid _ (Nat.le_refl _)]; simp

theorem Grow.new {h : Heap} (w : Wf h) (x : Blk) : Grow h (h.new x).2 := by
  have hx := HExt.new h x
  refine ⟨hx.next, ?_, hx.hid, hx.floor, ?_⟩
  · intro b y e
    rw [Heap.new_get, Heap.get_nh e]
    have : b ≠ h.next := by
      rintro rfl
      have := w.t _ (Nat.le_refl h.next)
      rw [Heap.get_t e] at this; cases this
    simp [this, Heap.get_t e]
  · intro _
    refine ⟨?_, hx.low w.t, ?_⟩
    · intro b hb
      have := w.hid b (Nat.le_trans hx.next hb)
      unfold Heap.hidden at this ⊢
      rw [hx.hid]; exact this
    · rw [hx.floor]; exact Nat.le_trans w.fl hx.next

/-- A block that is made, and then read. -/
theorem new_load {h : Heap} (w : Wf h) (c : List Val) {o n : Nat} (hn : o + n ≤ c.length) : (h.new (.cells c)).2.load h.next o n = some ((c.drop o).take n) := by
  unfold Heap.load
  rw [new_self w]
  simp [hn]

theorem stepK_box {E : Env} {fr : List Val} {h : Heap} (w : Wf h) {x : Opd} {n : Nat} {c : List Val} (hx : (V.ev fr x).cells = c) (hn : c.length = n) {K : Val → Heap → Prop}
    (k : ∀ b h', Grow h h' → h.next ≤ b → h'.get b = some (.cells c) → h'.next = b + 1 → K (.ptr b 0) h') : stepK E fr h (.box x n) K := by
  unfold stepK
  simp only [step, hx, hn, if_true]
  exact k h.next _ (Grow.new w _) (Nat.le_refl _) (new_self w _) rfl

theorem stepK_alloc {E : Env} {fr : List Val} {h : Heap} (w : Wf h) {c : List Val} {K : Val → Heap → Prop}
    (k : ∀ b h', Grow h h' → h.next ≤ b → h'.get b = some (.cells c) → h'.next = b + 1 → K (.ptr b 0) h') : stepK E fr h (.alloc c) K := by
  unfold stepK
  simp only [step]
  exact k h.next _ (Grow.new w _) (Nat.le_refl _) (new_self w _) rfl

/-- What a write leaves. -/
structure Wrote (h : Heap) (b : Nat) (cs : List Val) (h' : Heap) : Prop where
  at_ : h'.get b = some (.cells cs)
  else_ : ∀ b', b' ≠ b → h'.get b' = h.get b'
  next : h'.next = h.next
  hid : h'.hid = h.hid
  floor : h'.floor = h.floor
  wf : Wf h → Wf h'

theorem put_wrote {h : Heap} {b : Nat} {x : Blk} (hg : h.get b = some x) (cs : List Val) : Wrote h b cs (h.put b (some (.cells cs))) := by
  have hh := Heap.get_nh hg
  refine ⟨by rw [Heap.get_put, hh]; simp, ?_, rfl, rfl, rfl, ?_⟩
  · intro b' hb
    rw [Heap.get_put]
    unfold Heap.get
    simp [hb]
  · intro w
    refine ⟨w.hid, ?_, w.fl⟩
    intro j hj
    have hj' : h.next ≤ j := hj
    have hne : j ≠ b := by
      rintro rfl
      have := w.t j hj'
      rw [Heap.get_t hg] at this; cases this
    have h1 := w.hid j hj'
    have := Heap.get_put h b j (some (.cells cs))
    rw [h1] at this
    unfold Heap.get at this
    have h2 : (h.put b (some (.cells cs))).hidden j = false := h1
    rw [h2] at this
    simp [hne] at this
    rw [this]; exact w.t j hj'

theorem Grow.wrote {h h1 h2 : Heap} (g : Grow h h1) {b : Nat} {cs : List Val} (hb : h.next ≤ b) (w : Wf h) (k : Wrote h1 b cs h2) : Grow h h2 := by
  refine ⟨by rw [k.next]; exact g.next, ?_, k.hid.trans g.hid, k.floor.trans g.floor, fun w => k.wf (g.wf w)⟩
  intro b' x e
  have hne : b' ≠ b := by
    rintro rfl
    have := w.t b' hb
    rw [Heap.get_t e] at this; cases this
  rw [k.else_ b' hne]
  exact g.keep _ _ e

theorem stepK_store {E : Env} {fr : List Val} {h : Heap} {a v : Opd} {b o n : Nat} {cs us : List Val} (ha : V.ev fr a = .ptr b o) (hv : (V.ev fr v).cells = us) (hn : us.length = n) (hg : h.get b = some (.cells cs)) (hf : h.floor ≤ b) (hlen : o + n ≤ cs.length) (hone : us.all Val.one = true) {K : Val → Heap → Prop}
    (k : ∀ h', Wrote h b (splice cs o us) h' → K .undef h') : stepK E fr h (.store n a v) K := by
  unfold stepK
  simp only [step, ha, hv, hn, if_true, Heap.store, hf, hg]
  rw [if_pos ⟨by omega, hone⟩]
  exact k _ (put_wrote hg _)

theorem load_get {h : Heap} {b o n : Nat} {c : List Val} (e : h.get b = some (.cells c)) (hn : o + n ≤ c.length) : h.load b o n = some ((c.drop o).take n) := by
  unfold Heap.load
  rw [e]; simp [hn]

end Go.V
