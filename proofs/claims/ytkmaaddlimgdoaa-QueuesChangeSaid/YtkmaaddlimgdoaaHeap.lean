/-
  The heap's actions: a new block, cells read, cells written, a slice moved.
-/
import Derived.Test.YtkmaaddlimgdoaaRel
import Derived.Laws.AppendOwn
set_option linter.unusedVariables false
set_option linter.unusedSimpArgs false
set_option linter.unusedSectionVars false
namespace Go.V

def Ren.upd (ρ : Ren) (b : Nat) (l : Loc) : Ren := fun i => if i = b then some l else ρ i

theorem Ren.le_upd {ρ : Ren} {b : Nat} {l : Loc} (h : ρ b = none) : ρ.le (ρ.upd b l) := by
  intro i l' e
  unfold Ren.upd
  split
  · rename_i hi; subst hi; rw [h] at e; cases e
  · exact e

theorem Heap.new_get (h : Heap) (x : Blk) (j : Nat) : (h.new x).2.get j = if h.hidden j then none else if j = h.next then some x else h.t.get j := by
  exact Heap.get_put h h.next j (some x)

/-- A new block; the world may have drawn. -/
theorem Post.new {ρ : Ren} {h : Heap} {w : World} (hr : HRel ρ h w) (x : Blk) (o : Obj) (w' : World) (l : Loc) (hw : w'.heap = w.heap.push o) (hc : l.c = w.heap.size)
    (ho : w'.os = w.os) (ht : w'.tape = w.tape) (hp : w'.output = w.output) (hb : BRel (ρ.upd h.next l) w' l x) :
    Post ρ h w (ρ.upd h.next l) (h.new x).2 w' := by
  have hold : ∀ c, c < w.heap.size → w'.heap[c]? = w.heap[c]? := by
    intro c hcl
    rw [hw, Array.getElem?_push, if_neg (by omega)]
  have htop : ρ h.next = none := hr.top _ (Nat.le_refl _)
  have hle : ρ.le (ρ.upd h.next l) := Ren.le_upd htop
  have hget : ∀ j y, (h.new x).2.get j = some y → (j = h.next ∧ y = x) ∨ (j ≠ h.next ∧ h.get j = some y) := by
    intro j y e
    rw [Heap.new_get] at e
    split at e
    · cases e
    · rename_i hh
      split at e
      · rename_i hj; cases e; exact .inl ⟨hj, rfl⟩
      · rename_i hj; exact .inr ⟨hj, by simp [Heap.get, hh, e]⟩
  refine ⟨hle, ⟨?_, ?_, ?_, ?_, ⟨hr.bs.1, Nat.le_succ_of_le hr.bs.2⟩⟩, rfl, rfl, rfl, by simp [Heap.new, Heap.put], ?_, ho, ht, hp, by rw [hw]; simp, fun c hcl _ => hold c hcl, ?_, ?_⟩
  · intro b y e
    rcases hget b y e with ⟨rfl, rfl⟩ | ⟨hne, e'⟩
    · exact ⟨l, by simp [Ren.upd], hb⟩
    · obtain ⟨l', h1, h2⟩ := hr.blk b y e'
      exact ⟨l', hle _ _ h1, h2.mono hle (hold _ h2.lt)⟩
  · intro b b' y y' l1 l2 e e' r r' hcc
    rcases hget b y e with ⟨rfl, rfl⟩ | ⟨hne, e1⟩ <;> rcases hget b' y' e' with ⟨rfl, rfl⟩ | ⟨hne', e1'⟩
    · exact .inl rfl
    · simp only [Ren.upd, if_true, if_neg hne'] at r r'
      cases r
      obtain ⟨l', h1, h2⟩ := hr.blk b' y' e1'
      rw [r'] at h1; cases h1
      have := h2.lt; omega
    · simp only [Ren.upd, if_true, if_neg hne] at r r'
      cases r'
      obtain ⟨l', h1, h2⟩ := hr.blk b y e1
      rw [r] at h1; cases h1
      have := h2.lt; omega
    · simp only [Ren.upd, if_neg hne, if_neg hne'] at r r'
      exact hr.inj b b' y y' l1 l2 e1 e1' r r' hcc
  · intro b hb'
    simp only [Heap.new, Heap.put] at hb'
    simp only [Ren.upd, if_neg (show ¬ b = h.next by omega)]
    exact hr.top b (by omega)
  · intro b y e
    have : (h.new x).2.t = h.t.set (h.next + 1) h.next (some x) := rfl
    rw [this, Tr.get_set _ _ _ _ _ (by omega)] at e
    simp only [Heap.new, Heap.put]
    split at e
    · omega
    · have := hr.low b y e; omega
  · intro b hb' e
    obtain ⟨y, hy⟩ := Option.isSome_iff_exists.1 e
    rcases hget b y hy with ⟨rfl, rfl⟩ | ⟨_, e'⟩
    · omega
    · simp [e']
  · intro b l' r hn
    unfold Ren.upd at r
    split at r
    · cases r; exact .inl (by omega)
    · rw [hn] at r; cases r
  · intro b l' r hn
    unfold Ren.upd at r
    split at r
    · omega
    · rw [hn] at r; cases r

theorem Heap.load_some {h : Heap} {b o n : Nat} {c : List Val} (e : h.load b o n = some c) : ∃ cs, h.get b = some (.cells cs) ∧ o + n ≤ cs.length ∧ c = (cs.drop o).take n := by
  unfold Heap.load at e
  split at e
  · rename_i cs hg
    split at e
    · cases e; exact ⟨cs, hg, by assumption, rfl⟩
    · cases e
  · cases e

theorem Addr.add_none (g o i : Nat) : (⟨g, o, none⟩ : Addr).add i = ⟨g, o + i, none⟩ := by
  unfold Addr.add; split <;> simp_all

/-- What is read. -/
theorem HRel.load {ρ : Ren} {h : Heap} {w : World} (hr : HRel ρ h w) {b o n : Nat} {c : List Val} (e : h.load b o n = some c) {l : Loc} (hl : ρ b = some l) :
    ∃ m : List Value, VRels ρ c m ∧ ∀ j v, m[j]? = some v → w.cell? ((⟨l.c, l.s + o, none⟩ : Addr).add j) = some v := by
  obtain ⟨cs, hg, hn, rfl⟩ := Heap.load_some e
  obtain ⟨l', hl', arr, t, lo, hi, h1, h2, h3, h4, h5⟩ := hr.blk b _ hg
  rw [hl] at hl'; cases hl'
  refine ⟨_, (h5.drop o).take n, fun j v hv => ?_⟩
  rw [Addr.add_none]
  simp only [World.cell?, h1]
  rw [List.getElem?_take] at hv
  split at hv
  · rw [List.getElem?_drop, List.getElem?_take] at hv
    split at hv
    · rw [List.getElem?_drop] at hv
      simp only [Option.isSome_none, Bool.false_eq_true, if_false]
      rw [← Array.getElem?_toList, ← hv]
      congr 1
      omega
    · cases hv
  · cases hv

theorem run_loadCells_of {P : Program} {w : World} {a : Addr} {m : List Value} (h : ∀ j v, m[j]? = some v → w.cell? (a.add j) = some v) : (loadCells a m.length).run P w = .ok m.toArray w :=
  run_loadCells_list w a m h

theorem run_storeCells_fr (P : Program) (g o : Nat) (t : TypeId) (lo hi : Nat) : ∀ (vs : List Value) (i : Nat) (cur : Array Value) (w : World), w.heap[g]? = some (.cells cur t (lo, hi)) → (∀ j, o + i ≤ j → j < o + i + vs.length → ¬ (lo ≤ j ∧ j < hi)) → o + i + vs.length ≤ cur.size → (∀ v ∈ vs, v.oneCell' = true) →
    (storeCells ⟨g, o, none⟩ vs i).run P w = .ok () (w.setRow g (cur.toList.take (o + i) ++ vs ++ cur.toList.drop (o + i + vs.length)).toArray)
  | [], i, cur, w, hg, _, _, _ => by
    simp only [storeCells, List.append_nil, List.length_nil, Nat.add_zero, List.take_append_drop, Array.toArray_toList]
    rw [setRow_self w g cur t (lo, hi) hg]
    rfl
  | v :: rest, i, cur, w, hg, hf, hl, h1 => by
    have hi' : o + i < cur.size := by simp at hl; omega
    have hadd : (⟨g, o, none⟩ : Addr).add i = ⟨g, o + i, none⟩ := by unfold Addr.add; split <;> simp_all
    have hcell : w.cell? ⟨g, o + i, none⟩ = some cur[o + i] := by simp [World.cell?, hg, hi']
    have hfro : w.frozen? ⟨g, o + i, none⟩ = false := by
      have := hf (o + i) (Nat.le_refl _) (by simp)
      simp [World.frozen?, hg]; omega
    have hst : (store ((⟨g, o, none⟩ : Addr).add i) v).run P w = .ok () (w.setRow g (cur.setIfInBounds (o + i) v)) := by
      rw [hadd, run_store P w _ v _ (h1 v (by simp)), hcell]
      simp [hfro, setCell_eq_setRow w g (o + i) cur t (lo, hi) v hg]
    have ih := run_storeCells_fr P g o t lo hi rest (i + 1) (cur.setIfInBounds (o + i) v) (w.setRow g (cur.setIfInBounds (o + i) v)) (setRow_heap w g cur _ t _ hg) (fun j h1 h2 => hf j (by omega) (by simp only [List.length_cons]; omega)) (by simp at hl ⊢; omega) (fun x hx => h1 x (by simp [hx]))
    simp only [storeCells, Sem.run_bind, hst, Result.andThen_ok, ih, setRow_setRow]
    congr 3
    have e := list_seg_step cur.toList (o + i) v rest (by simp at hl ⊢; omega)
    simpa [Array.toList_setIfInBounds, Nat.add_assoc] using e

theorem VRel.one {ρ : Ren} {x : Val} {v : Value} (h : VRel ρ x v) (k : x.one = true) : v.oneCell' = true := by
  cases x <;> simp only [VRel, Val.one] at h k <;> first
    | (subst h; rfl)
    | (cases k; done)
    | (obtain ⟨_, _, h⟩ := h; subst h; rfl)
    | (obtain ⟨_, _, h, _⟩ := h; subst h; rfl)
    | (obtain ⟨_, h, _⟩ := h; subst h; rfl)

theorem VRels.ones {ρ : Ren} : ∀ {l : List Val} {m : List Value}, VRels ρ l m → l.all Val.one = true → ∀ v ∈ m, v.oneCell' = true
  | [], m, h, _, v, hv => by simp only [VRels] at h; subst h; cases hv
  | x :: l, m, h, k, v, hv => by
    simp only [VRels] at h
    obtain ⟨y, s, rfl, h1, h2⟩ := h
    simp only [List.all_cons, Bool.and_eq_true] at k
    cases hv with
    | head => exact h1.one k.1
    | tail _ hv => exact VRels.ones h2 k.2 v hv

theorem VRels.splice {ρ : Ren} {c vs : List Val} {m ms : List Value} (h : VRels ρ c m) (k : VRels ρ vs ms) (o : Nat) : VRels ρ (V.splice c o vs) (m.take o ++ ms ++ m.drop (o + ms.length)) := by
  unfold V.splice
  rw [k.length]
  exact ((h.take o).append k).append (h.drop _)

theorem length_splice {c vs : List Val} {o : Nat} (h : o + vs.length ≤ c.length) : (splice c o vs).length = c.length := by
  unfold splice; simp; omega

/-- A part of a row that is written into. -/
theorem drop_take_splice (arr ms : List Value) (s o n : Nat) (hn : o + ms.length ≤ n) (ha : s + n ≤ arr.length) :
    ((arr.take (s + o) ++ ms ++ arr.drop (s + o + ms.length)).drop s).take n = ((arr.drop s).take n).take o ++ ms ++ ((arr.drop s).take n).drop (o + ms.length) := by
  apply List.ext_getElem?
  intro i
  simp only [List.getElem?_take, List.getElem?_drop, List.getElem?_append, List.length_append, List.length_take, List.length_drop]
  by_cases h1 : i < n
  · simp only [h1, if_true]
    by_cases h2 : i < o
    · rw [if_pos (by omega), if_pos (by omega), if_pos (by omega), if_pos (by omega)]
      rw [if_pos (by omega), if_pos h2]
    · by_cases h3 : i < o + ms.length
      · rw [if_pos (by omega), if_neg (by omega), if_pos (by omega), if_neg (by omega)]
        congr 1; omega
      · rw [if_neg (by omega), if_neg (by omega)]
        rw [if_pos (by omega)]
        congr 1; omega
  · rw [if_neg h1]
    rw [if_neg (by omega)]
    rw [if_neg (by omega)]

theorem Heap.store_some {h h' : Heap} {b o : Nat} {vs : List Val} (e : h.store b o vs = some h') : h.floor ≤ b ∧ vs.all Val.one = true ∧ ∃ cs, h.get b = some (.cells cs) ∧ o + vs.length ≤ cs.length ∧ h' = h.put b (some (.cells (V.splice cs o vs))) := by
  unfold Heap.store at e
  split at e
  · rename_i hf
    split at e
    · rename_i cs hg
      split at e
      · rename_i hh
        cases e
        exact ⟨hf, hh.2, cs, hg, hh.1, rfl⟩
      · cases e
    · cases e
  · cases e

/-- A block that is there is written anew: the heap's part. -/
theorem Post.put {ρ : Ren} {h : Heap} {w w' : World} (hr : HRel ρ h w) {b : Nat} {x y : Blk} {l : Loc} (hg : h.get b = some x) (hf : h.floor ≤ b) (hl : ρ b = some l)
    (hw : ∀ c, c ≠ l.c → w'.heap[c]? = w.heap[c]?) (hs : w'.heap.size = w.heap.size) (ho : w'.os = w.os) (ht : w'.tape = w.tape) (hp : w'.output = w.output) (hb : BRel ρ w' l y) :
    Post ρ h w ρ (h.put b (some y)) w' := by
  have hget : ∀ j z, (h.put b (some y)).get j = some z → (j = b ∧ z = y) ∨ (j ≠ b ∧ h.get j = some z) := by
    intro j z e
    rw [Heap.get_put] at e
    split at e
    · cases e
    · rename_i hh
      split at e
      · cases e; exact .inl ⟨by assumption, rfl⟩
      · exact .inr ⟨by assumption, by simp [Heap.get, hh, e]⟩
  have hlow := hr.low b x (Heap.get_t hg)
  refine ⟨Ren.le_refl _, ⟨?_, ?_, ?_, ?_, hr.bs⟩, rfl, rfl, rfl, Nat.le_refl _, ?_, ho, ht, hp, by omega, ?_, ?_, ?_⟩
  · intro j z e
    rcases hget j z e with ⟨rfl, rfl⟩ | ⟨hne, e'⟩
    · exact ⟨l, hl, hb⟩
    · obtain ⟨l', h1, h2⟩ := hr.blk j z e'
      refine ⟨l', h1, h2.mono (Ren.le_refl _) (hw _ fun hc => hne ?_)⟩
      have := hr.bs.1
      rcases hr.inj j b z x l' l e' hg h1 hl hc with k | ⟨_, k⟩
      · exact k
      · omega
  · intro j j' z z' l1 l2 e e' r r' hc
    have q : ∀ j z, (h.put b (some y)).get j = some z → ∃ z', h.get j = some z' := by
      intro j z e
      rcases hget j z e with ⟨rfl, rfl⟩ | ⟨_, e'⟩
      · exact ⟨x, hg⟩
      · exact ⟨z, e'⟩
    obtain ⟨u, hu⟩ := q j z e
    obtain ⟨u', hu'⟩ := q j' z' e'
    exact hr.inj j j' u u' l1 l2 hu hu' r r' hc
  · exact hr.top
  · intro j z e
    have : (h.put b (some y)).t = h.t.set (b + 1) b (some y) := rfl
    rw [this, Tr.get_set _ _ _ _ _ (by omega)] at e
    split at e
    · subst j; exact hlow
    · exact hr.low j z e
  · intro j _ e
    obtain ⟨z, hz⟩ := Option.isSome_iff_exists.1 e
    rcases hget j z hz with ⟨rfl, rfl⟩ | ⟨_, e'⟩
    · simp [hg]
    · simp [e']
  · intro c hc k
    exact hw c fun hcc => k b x l hg hf hl hcc.symm
  · intro j l' r hn; rw [r] at hn; cases hn
  · intro j l' r hn; rw [r] at hn; cases hn

/-- What is written. -/
theorem HRel.store {P : Program} {ρ : Ren} {h h' : Heap} {w : World} (hr : HRel ρ h w) {b o : Nat} {vs : List Val} (e : h.store b o vs = some h') {l : Loc} (hl : ρ b = some l) {ms : List Value} (hm : VRels ρ vs ms) :
    ∃ w', (storeCells ⟨l.c, l.s + o, none⟩ ms).run P w = .ok () w' ∧ Post ρ h w ρ h' w' := by
  obtain ⟨hf, h1, cs, hg, hlen, rfl⟩ := Heap.store_some e
  obtain ⟨l', hl', arr, t, lo, hi, a1, a2, a3, a4, a5⟩ := hr.blk b _ hg
  rw [hl] at hl'; cases hl'
  have hml := hm.length
  have hst := run_storeCells_fr P l.c (l.s + o) t lo hi ms 0 arr w a1 (fun j h1 h2 => a2 j (by omega) (.inl (by omega))) (by omega) (hm.ones h1)
  refine ⟨_, hst, ?_⟩
  have hlt : l.c < w.heap.size := (Array.getElem?_eq_some_iff.1 a1).1
  refine Post.put hr hg hf hl (fun c hc => setRow_other w l.c c _ hc) (by simp [World.setRow]) rfl rfl rfl ?_
  refine ⟨_, t, lo, hi, setRow_heap w l.c arr _ t (lo, hi) a1, ?_, ?_, ?_, ?_⟩
  · rw [length_splice hlen]; exact a2
  · rw [length_splice hlen]; simp only [List.size_toArray, List.length_append, List.length_take, List.length_drop, Array.length_toList]; omega
  · simp only [List.size_toArray, List.length_append, List.length_take, List.length_drop, Array.length_toList]; omega
  · rw [length_splice hlen]
    simp only [Nat.add_zero]
    rw [drop_take_splice arr.toList ms l.s o cs.length (by omega) (by simpa using a3)]
    exact a5.splice hm o

end Go.V
