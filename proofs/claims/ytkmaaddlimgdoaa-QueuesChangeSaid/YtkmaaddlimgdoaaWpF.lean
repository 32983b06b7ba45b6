/-
  Lists that a function owns: append, make, copy.
-/
import Derived.Test.YtkmaaddlimgdoaaWpE
set_option linter.unusedVariables false
set_option linter.unusedSimpArgs false
set_option linter.unusedSectionVars false
namespace Go.V

theorem maxB : maxBytes = 70368744177664 := by decide

theorem firstCells_sl {h : Heap} {s : Val} {sz n : Nat} {cs : List Val} (e : Sl h s sz n cs) : lenVal s = some n ∧ firstCells h sz n s = some cs := by
  rcases e.2 with ⟨rfl, rfl⟩ | ⟨b, o, cap, ls, rfl, _, _, e2⟩
  · have : cs = [] := List.eq_nil_of_length_eq_zero (by have := e.1; omega)
    subst this; exact ⟨rfl, rfl⟩
  · refine ⟨rfl, ?_⟩
    simp only [firstCells, Nat.le_refl, if_true]
    by_cases h0 : n * sz = 0
    · have : cs = [] := List.eq_nil_of_length_eq_zero (by have := e.1; omega)
      rw [if_pos h0, this]
    · rw [if_neg h0]
      rcases e2 with e2 | e2
      · exact absurd e2 h0
      · exact e2

/-- What a function has made for itself. 'h0': the heap at its start. -/
def Own (h0 h : Heap) (v : Val) (sz : Nat) (cs : List Val) : Prop := (v = .nils ∧ cs = []) ∨ ∃ b n cap ls cells, v = .slice b 0 n cap ls ∧ (ls = 0 ∨ ls = sz) ∧ h0.next ≤ b ∧ h.get b = some (.cells cells) ∧ n ≤ cap ∧ cells.length = cap * sz ∧ cs.length = n * sz ∧ cells.take (n * sz) = cs

theorem Own.sl {h0 h : Heap} {v : Val} {sz : Nat} {cs : List Val} (hz : 0 < sz) (o : Own h0 h v sz cs) : ∃ n, cs.length = n * sz ∧ Sl h v sz n cs := by
  rcases o with ⟨rfl, rfl⟩ | ⟨b, n, cap, ls, cells, rfl, _, _, hg, hn, hl, hc, ht⟩
  · exact ⟨0, by simp, by simp, .inl ⟨rfl, rfl⟩⟩
  · rename_i hls _
    refine ⟨n, hc, hc, .inr ⟨b, 0, cap, ls, rfl, hls, hn, .inr ?_⟩⟩
    have := Nat.mul_le_mul_right sz hn
    rw [load_get hg (by omega), List.drop_zero, ht]

theorem Own.keep {h0 h h' : Heap} {v : Val} {sz : Nat} {cs : List Val} (o : Own h0 h v sz cs) (g : Keep h h') : Own h0 h' v sz cs := by
  rcases o with ⟨rfl, rfl⟩ | ⟨b, n, cap, ls, cells, rfl, h1, h2, hg, hn, hl, hc, ht⟩
  · exact .inl ⟨rfl, rfl⟩
  · exact .inr ⟨b, n, cap, ls, cells, rfl, h1, h2, g _ _ hg, hn, hl, hc, ht⟩

theorem Own.down {h0 h1 h : Heap} {v : Val} {sz : Nat} {cs : List Val} (o : Own h1 h v sz cs) (g : h0.next ≤ h1.next) : Own h0 h v sz cs := by
  rcases o with ⟨rfl, rfl⟩ | ⟨b, n, cap, ls, cells, rfl, h1, h2, hg, hn, hl, hc, ht⟩
  · exact .inl ⟨rfl, rfl⟩
  · exact .inr ⟨b, n, cap, ls, cells, rfl, h1, Nat.le_trans g h2, hg, hn, hl, hc, ht⟩

theorem splice_take {c vs : List Val} {o : Nat} (h : o + vs.length ≤ c.length) : (splice c o vs).take (o + vs.length) = c.take o ++ vs := by
  unfold splice
  rw [List.take_left']
  simp; omega

theorem splice_length {c vs : List Val} {o : Nat} (h : o + vs.length ≤ c.length) : (splice c o vs).length = c.length := by
  unfold splice; simp; omega

/-- A block that is dropped, and a new one. -/
theorem Grow.move {h h1 : Heap} (g : Grow h h1) (w : Wf h) {b : Nat} (hb : h.next ≤ b) (x : Blk) : Grow h ((h1.put b none).new x).2 ∧ ((h1.put b none).new x).2.get h1.next = some x := by
  have w1 := g.wf w
  have hp : ∀ j, (h1.put b none).get j = if j = b then none else h1.get j := by
    intro j
    rw [Heap.get_put]
    unfold Heap.get
    split
    · split <;> rfl
    · rfl
  have wp : Wf (h1.put b none) := by
    refine ⟨w1.hid, fun j hj => ?_, w1.fl⟩
    have hj' : h1.next ≤ j := hj
    have : (h1.put b none).t = h1.t.set (b + 1) b none := rfl
    rw [this, Tr.get_set _ _ _ _ _ (by omega)]
    split
    · rfl
    · exact w1.t j hj'
  have gn := Grow.new wp x
  refine ⟨⟨Nat.le_trans g.next gn.next, ?_, gn.hid.trans g.hid, gn.floor.trans g.floor, fun _ => gn.wf wp⟩, ?_⟩
  · intro j y e
    refine gn.keep j y ?_
    rw [hp, if_neg]
    · exact g.keep j y e
    · have := lt_of_get w e; omega
  · exact new_self wp x

/-- append to an owned list. -/
theorem stepK_append {E : Env} {fr : List Val} {h0 h : Heap} (w0 : Wf h0) (g : Grow h0 h) {x y : Opd} {v s : Val} {sz bytes n : Nat} {cs new : List Val} (hx : V.ev fr x = v) (hy : V.ev fr y = s) (ho : Own h0 h v sz cs) (hs : Sl h s sz n new) (hz : 0 < sz)
    (hone : new.all Val.one = true) (hb : (cs.length + new.length) * bytes ≤ maxBytes) (hb1 : cs.length + new.length ≤ maxBytes) (hby : 0 < bytes) {K : Val → Heap → Prop} (k : ∀ v' h', Grow h0 h' → Own h0 h' v' sz (cs ++ new) → K v' h') : stepK E fr h (.append sz bytes x y) K := by
  unfold stepK
  obtain ⟨l1, l2⟩ := firstCells_sl hs
  have hnl := hs.1
  have hnle : n ≤ new.length := by rw [hnl]; exact Nat.le_mul_of_pos_right _ hz
  simp only [step, append, hx, hy, l1, l2]
  have fl : ∀ b, h0.next ≤ b → h.floor ≤ b := fun b hb => by rw [g.floor]; have := w0.fl; omega
  have w := g.wf w0
  rcases ho with ⟨rfl, rfl⟩ | ⟨b, m, cap, ls, cells, rfl, hls, hbn, hg, hm, hcl, hcc, hct⟩
  · simp only [appendN]
    by_cases h0' : n = 0
    · subst h0'
      have : new = [] := List.eq_nil_of_length_eq_zero (by omega)
      subst this
      rw [if_pos rfl]
      exact k _ _ g (.inl ⟨rfl, rfl⟩)
    · rw [if_neg h0', if_pos ⟨by
        have := Nat.mul_le_mul_right bytes hnle
        simp only [List.length_nil, Nat.zero_add] at hb; omega, by simp only [List.length_nil, Nat.zero_add] at hb1; omega, hz⟩]
      refine k _ _ (g.trans (Grow.new w _)) (.inr ⟨h.next, n, n, sz, new, rfl, .inr rfl, g.next, new_self w _, Nat.le_refl _, hnl, hnl, ?_⟩)
      rw [← hnl, List.take_length]; rfl
  · have hmc : m ≤ cs.length := by rw [hcc]; exact Nat.le_mul_of_pos_right _ hz
    have hkey : (cs ++ new).length = (m + n) * sz := by rw [List.length_append, hcc, hnl, Nat.add_mul]
    simp only [appendN]
    by_cases hfit : m + n ≤ cap
    · rw [if_pos hfit]
      have hle := Nat.mul_le_mul_right sz hfit
      rw [Nat.add_mul] at hle
      by_cases h0' : n * sz = 0
      · rw [if_pos h0']
        have : new = [] := List.eq_nil_of_length_eq_zero (by omega)
        subst this
        have hn0 : n = 0 := by
          rcases Nat.mul_eq_zero.1 h0' with q | q
          · exact q
          · omega
        subst hn0
        exact k _ _ g (.inr ⟨b, m, cap, ls, cells, rfl, hls, hbn, hg, hm, hcl, by simpa using hcc, by simpa using hct⟩)
      · rw [if_neg h0']
        have hlen : m * sz + new.length ≤ cells.length := by omega
        simp only [Heap.store]
        rw [if_pos (fl b hbn), hg]
        simp only [Nat.zero_add]
        rw [if_pos ⟨hlen, hone⟩]
        have kw := put_wrote hg (splice cells (m * sz) new)
        refine k _ _ (g.wrote hbn w0 kw) (.inr ⟨b, m + n, cap, ls, _, rfl, hls, hbn, kw.at_, hfit, by rw [splice_length hlen, hcl], hkey, ?_⟩)
        rw [Nat.add_mul, ← hnl, splice_take hlen, hct]
    · rw [if_neg hfit]
      have hold : firstCells h sz m (.slice b 0 m cap ls) = some cs := by
        have : Sl h (.slice b 0 m cap ls) sz m cs := by
          refine ⟨hcc, .inr ⟨b, 0, cap, ls, rfl, hls, hm, .inr ?_⟩⟩
          have := Nat.mul_le_mul_right sz hm
          rw [load_get hg (by omega), List.drop_zero, hct]
        exact (firstCells_sl this).2
      rw [if_pos ⟨by
        have := Nat.mul_le_mul_right bytes (show m + n ≤ cs.length + new.length by omega)
        omega, by omega, hz⟩, hold]
      have hfin : ∀ h', Grow h0 h' → h'.get h.next = some (.cells (cs ++ new)) → Own h0 h' (.slice h.next 0 (m + n) (m + n) sz) sz (cs ++ new) := fun h' g' e =>
        .inr ⟨h.next, m + n, m + n, sz, cs ++ new, rfl, .inr rfl, g.next, e, Nat.le_refl _, hkey, hkey, by rw [← hkey, List.take_length]⟩
      simp only
      by_cases hl0 : ls = 0
      · rw [if_pos hl0]
        have gn := Grow.new w (.cells (cs ++ new))
        exact k _ _ (g.trans gn) (hfin _ (g.trans gn) (new_self w _))
      · rw [if_neg hl0]
        have hlz : ls = sz := hls.resolve_left hl0
        rw [if_pos ⟨fl b hbn, hlz, hone, by simp only [Heap.isCells, hg]⟩]
        obtain ⟨gm, em⟩ := g.move w0 hbn (.cells (cs ++ new))
        exact k _ _ gm (hfin _ gm em)

/-- make. -/
theorem stepK_make {E : Env} {fr : List Val} {h0 h : Heap} (w0 : Wf h0) (g : Grow h0 h) {x y : Opd} {ik ik' : IntKind} {n sz bytes : Nat} {zero : List Val} (hx : V.ev fr x = .int ik (n : Int)) (hy : V.ev fr y = .int ik' (n : Int)) (hz : sz = zero.length) (hb : n * bytes ≤ maxBytes) (hb1 : n ≤ maxBytes) {K : Val → Heap → Prop}
    (k : ∀ b h', Grow h0 h' → h0.next ≤ b → h'.get b = some (.cells (repeatL zero n)) → Keep h h' → K (.slice b 0 n n 0) h') : stepK E fr h (.mkslice sz bytes zero x y) K := by
  unfold stepK
  have w := g.wf w0
  simp only [step, hx, hy]
  rw [if_pos ⟨by omega, by omega, by omega, by simpa using hb, hz⟩]
  have gn := Grow.new w (.cells (repeatL zero n))
  simp only [Int.toNat_natCast]
  exact k _ _ (g.trans gn) g.next (new_self w _) gn.kp

theorem repeatL_length (z : List Val) : ∀ n, (repeatL z n).length = n * z.length
  | 0 => by simp [repeatL]
  | n + 1 => by rw [repeatL, List.length_append, repeatL_length z n, Nat.succ_mul, Nat.add_comm]

/-- copy into a block that is as long. -/
theorem stepK_copy {E : Env} {fr : List Val} {h0 h : Heap} (w0 : Wf h0) (g : Grow h0 h) {x y : Opd} {b n sz cap ls : Nat} {s : Val} {cells new : List Val} (hx : V.ev fr x = .slice b 0 n cap ls) (hy : V.ev fr y = s) (hs : Sl h s sz n new) (hbn : h0.next ≤ b) (hg : h.get b = some (.cells cells)) (hl : cells.length = n * sz) (hn : 0 < n * sz)
    (hone : new.all Val.one = true) {K : Val → Heap → Prop} (k : ∀ h', Grow h0 h' → h'.get b = some (.cells new) → K (.int .i64 n) h') : stepK E fr h (.copy sz x y) K := by
  unfold stepK
  obtain ⟨l1, l2⟩ := firstCells_sl hs
  simp only [step, hx, hy, l1, Nat.min_self, l2]
  rw [if_neg (by omega)]
  simp only [Heap.store]
  rw [if_pos (show h.floor ≤ b by rw [g.floor]; have := w0.fl; omega), hg]
  simp only [Nat.zero_add]
  rw [if_pos ⟨by rw [hs.1, hl]; exact Nat.le_refl _, hone⟩]
  have e : splice cells 0 new = new := by
    unfold splice
    rw [List.take_zero, List.nil_append, Nat.zero_add, List.drop_eq_nil_of_le (by rw [hs.1, hl]; exact Nat.le_refl _), List.append_nil]
  have kw := put_wrote hg (splice cells 0 new)
  refine k _ (g.wrote hbn w0 kw) ?_
  rw [kw.at_, e]

/-- s[:0] -/
theorem stepK_hi0 {E : Env} {fr : List Val} {h : Heap} {x y : Opd} {b o n sz cap ls : Nat} {ik : IntKind} (hx : V.ev fr x = .slice b o n cap ls) (hy : V.ev fr y = .int ik 0) (h1 : ls = 0 ∨ ls = sz) {K : Val → Heap → Prop}
    (kk : K (.slice b o 0 cap ls) h) : stepK E fr h (.slice sz x none (some y) none) K := by
  unfold stepK
  have hb : bounds fr n cap none (some y) none = some (0, 0, cap) := by
    simp [bounds, bnd, hy]
  simp only [step, hx, sliceVal, hb, pureV, if_pos h1, Option.isSome_none, Bool.false_eq_true, if_false, Nat.zero_mul, Nat.add_zero, Nat.sub_zero]
  exact kk

theorem stepK_hi_nil {E : Env} {fr : List Val} {h : Heap} {x y : Opd} {sz : Nat} {ik : IntKind} (hx : V.ev fr x = .nils) (hy : V.ev fr y = .int ik 0) {K : Val → Heap → Prop}
    (kk : K .nils h) : stepK E fr h (.slice sz x none (some y) none) K := by
  unfold stepK
  simp [step, hx, sliceVal, bounds, bnd, hy, pureV]
  exact kk

/-- append(nil, make(n)...) -/
theorem stepK_appendZ {E : Env} {fr : List Val} {h0 h : Heap} (w0 : Wf h0) (g : Grow h0 h) {x y : Opd} {ik : IntKind} {n sz bytes : Nat} {zero : List Val} (hx : V.ev fr x = .nils) (hy : V.ev fr y = .int ik (n : Int)) (hz : zero.length = sz) (hsz : 0 < sz) (hn : 0 < n) (hb : n * bytes ≤ maxBytes) (hb1 : n ≤ maxBytes) {K : Val → Heap → Prop}
    (k : ∀ b h', Grow h0 h' → h0.next ≤ b → h'.get b = some (.cells (repeatL zero n)) → K (.slice b 0 n n sz) h') : stepK E fr h (.appendZ sz bytes zero x y) K := by
  unfold stepK
  have w := g.wf w0
  simp only [step, hx, hy, Int.toNat_natCast]
  rw [if_pos ⟨by omega, by omega, hb, hz⟩]
  simp only [appendN]
  rw [if_neg (by omega), if_pos ⟨hb, hb1, hsz⟩]
  have gn := Grow.new w (.cells (repeatL zero n))
  exact k _ _ (g.trans gn) g.next (new_self w _)

theorem Sl.elt1 {h : Heap} {s : Val} {vals : List Val} (e : Sl h s 1 vals.length vals) {k : IntKind} {i : Nat} (hi : i < vals.length) : ∃ b o, eltI 1 s (.int k (i : Int)) = some (.ptr b o) ∧ ∀ h', Grow h h' → h'.load b o 1 = some [vals[i]] := by
  obtain ⟨b, o, h1, h2⟩ := Sl.elt e (k := k) hi (by omega)
  refine ⟨b, o, h1, fun h' g => ?_⟩
  have := h2 h' g.kp 0 1 (by omega)
  rw [Nat.add_zero, Nat.mul_one, Nat.add_zero, List.take_one] at this
  simpa [List.head?_drop, List.getElem?_eq_getElem hi] using this

/-- T{x}: a list of one element. -/
theorem stepK_one {E : Env} {fr : List Val} {h0 h : Heap} (w0 : Wf h0) (g : Grow h0 h) {x : Opd} {sz : Nat} {zero cs : List Val} (hx : (V.ev fr x).cells = cs) (hc : cs.length = sz) (hz : zero.length = sz) {K : Val → Heap → Prop}
    (k : ∀ v h', Grow h0 h' → Keep h h' → Sl h' v sz 1 cs → K v h') : stepK E fr h (.bslice 1 zero [(0, sz, x)]) K := by
  unfold stepK
  have w := g.wf w0
  have hf : fill fr zero [(0, sz, x)] = some cs := by
    simp only [fill, hx]
    rw [if_pos ⟨hc, by omega⟩]
    unfold splice
    rw [List.take_zero, List.nil_append, List.drop_eq_nil_of_le (by omega), List.append_nil]
  simp only [step, hf]
  have gn := Grow.new w (.cells cs)
  refine k _ _ (g.trans gn) gn.kp ⟨by omega, .inr ⟨h.next, 0, 1, 0, rfl, .inl rfl, Nat.le_refl _, .inr ?_⟩⟩
  rw [load_get (new_self w _) (by omega), List.drop_zero, ← hc]
  simp

/-- []T{x, y}: a list of two elements of one cell. -/
theorem stepK_two {E : Env} {fr : List Val} {h0 h : Heap} (w0 : Wf h0) (g : Grow h0 h) {x y : Opd} {u v z1 z2 : Val} (hx : (V.ev fr x).cells = [u]) (hy : (V.ev fr y).cells = [v]) {K : Val → Heap → Prop}
    (k : ∀ s h', Grow h0 h' → Keep h h' → Sl h' s 1 2 [u, v] → K s h') : stepK E fr h (.bslice 2 [z1, z2] [(0, 1, x), (1, 1, y)]) K := by
  unfold stepK
  have w := g.wf w0
  have hf : fill fr [z1, z2] [(0, 1, x), (1, 1, y)] = some [u, v] := by
    simp [fill, hx, hy, splice]
  simp only [step, hf]
  have gn := Grow.new w (.cells [u, v])
  refine k _ _ (g.trans gn) gn.kp ⟨rfl, .inr ⟨h.next, 0, 2, 0, rfl, .inl rfl, Nat.le_refl _, .inr ?_⟩⟩
  rw [load_get (new_self w _) (by simp)]
  rfl

theorem Sl.cells1 {h : Heap} {s : Val} {sz n : Nat} {cs : List Val} (e : Sl h s sz n cs) : s.cells = [s] ∧ Val.one s = true := by
  rcases e.2 with ⟨rfl, rfl⟩ | ⟨b, o, cap, ls, rfl, _⟩ <;> exact ⟨rfl, rfl⟩

/-- A struct of one cell. -/
theorem stepK_build1 {E : Env} {fr : List Val} {h : Heap} {x : Opd} {z v : Val} (hx : (V.ev fr x).cells = [v]) {K : Val → Heap → Prop} (k : K (.agg [v]) h) : stepK E fr h (.build [z] [(0, 1, x)]) K := by
  unfold stepK
  have hf : fill fr [z] [(0, 1, x)] = some [v] := by simp [fill, hx, splice]
  simp only [step, hf]
  exact k

/-- A call that runs in a known order, in a region that draws the rest. -/
theorem WD.callF {E : Env} {rs : List (Nat × Nat)} {fr : List Val} {h : Heap} {d : Option Nat} {f : FuncId} {args : List Opd} {hd : List Nat} {l : List VOper} {R : List Val → Heap → Prop}
    (w : WC E f (evs fr args) h fun v h' => WD E l (rs ++ [(h.next, h'.next)]) (setDst fr d v) h' R) : WD E (⟨d, .call f args, none, true, hd⟩ :: l) rs fr h R := by
  obtain ⟨n, v, h', e, q⟩ := w
  obtain ⟨m, fr2, h2, e2, q2⟩ := q
  refine ⟨max n m, fr2, h2, ?_, q2⟩
  rw [runDraw]
  simp only [wanted]
  rw [if_pos (.inr trivial)]
  simp only [step]
  rw [run_mono (Nat.le_max_left n m) _ _ _ _ e]
  exact runDraw_mono (run_mono (Nat.le_max_right n m)) _ _ _ _ _ e2

/-- A load where a part of the heap is not seen. -/
theorem WD.loadV {E : Env} {rs : List (Nat × Nat)} {fr : List Val} {h : Heap} {d : Option Nat} {agg : Bool} {n : Nat} {x : Opd} {hd : List Nat} {l : List VOper} {R : List Val → Heap → Prop} {b o : Nat} {cs : List Val} {v : Val}
    (hx : V.ev fr x = .ptr b o) (hl : (h.veil (hiddenOf rs hd)).load b o n = some cs) (hv : (agg = true ∧ v = .agg cs) ∨ (agg = false ∧ cs = [v])) (k : WD E l (rs ++ [(h.next, h.next)]) (setDst fr d v) h R) : WD E (⟨d, .load agg n x, none, false, hd⟩ :: l) rs fr h R := by
  refine WD.op2 ?_
  simp only [opV, wanted, VOp.kind, Nat.reduceLeDiff, Bool.false_eq_true, or_self, if_false, true_and]
  unfold stepK
  rcases hv with ⟨rfl, rfl⟩ | ⟨rfl, rfl⟩
  · simp only [step, hx, hl, if_true]; exact k
  · simp only [step, hx, hl, Bool.false_eq_true, if_false]; exact k

end Go.V
