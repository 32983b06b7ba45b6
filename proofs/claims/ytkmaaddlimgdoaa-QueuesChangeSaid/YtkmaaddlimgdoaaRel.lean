/-
  How the abstract machine's values and heap stand to the model's: blocks by a renaming, capacities left open.
-/
import Derived.Test.YtkmaaddlimgdoaaComp
import Derived.Laws.Cells
import Derived.Laws.Append
import Derived.Laws.CopyRow
set_option linter.unusedVariables false
set_option linter.unusedSimpArgs false
set_option linter.unusedSectionVars false
namespace Go.V

/-- Where a block lies: its block, the first cell, the cells' end that may be used. -/
structure Loc where
  c : Nat
  s : Nat
  e : Nat

abbrev Ren := Nat → Option Loc

mutual
def VRel (ρ : Ren) : Val → Value → Prop
  | .undef, v => v = .tuple #[]
  | .bool b, v => v = .bool b
  | .int k n, v => v = .int k n
  | .str s, v => v = .string ⟨⟨s⟩⟩
  | .nilp, v => v = .pointer none
  | .ptr b o, v => ∃ l, ρ b = some l ∧ v = .pointer (some ⟨l.c, l.s + o, none⟩)
  | .nils, v => v = .slice none 0 0
  | .slice b o n cap ls, v => ∃ a cap', v = .slice (some a) n cap' ∧ n ≤ cap ∧ cap ≤ cap' ∧ (ls = 0 → cap' = cap) ∧
      (cap' = 0 ∨ ∃ l, ρ b = some l ∧ a = ⟨l.c, l.s + o, none⟩ ∧ (ls ≠ 0 → l.s + o + cap' * ls ≤ l.e))
  | .nilm, v => v = .map none
  | .map b, v => ∃ l, ρ b = some l ∧ v = .map (some l.c)
  | .nilf, v => v = .nilFunc
  | .func f a c, v => ∃ a' c', v = .func f a' c' ∧ VRels ρ a a'.toList ∧ VRels ρ c c'.toList
  | .nili, v => v = .nilIface
  | .iface t x, v => ∃ x', v = .iface t x' ∧ VRel ρ x x'
  | .agg l, v => ∃ a, v = .agg a ∧ VRels ρ l a.toList
  | .tup l, v => ∃ a, v = .tuple a ∧ VRels ρ l a.toList
def VRels (ρ : Ren) : List Val → List Value → Prop
  | [], l => l = []
  | x :: r, l => ∃ y s, l = y :: s ∧ VRel ρ x y ∧ VRels ρ r s
end

def Ren.le (ρ ρ' : Ren) : Prop := ∀ b l, ρ b = some l → ρ' b = some l

theorem Ren.le_refl (ρ : Ren) : ρ.le ρ := fun _ _ h => h
theorem Ren.le.trans {a b c : Ren} (h : a.le b) (k : b.le c) : a.le c := fun _ _ x => k _ _ (h _ _ x)

mutual
theorem VRel.mono {ρ ρ' : Ren} (h : ρ.le ρ') : ∀ (x : Val) (v : Value), VRel ρ x v → VRel ρ' x v
  | .undef, _, r | .bool _, _, r | .int _ _, _, r | .str _, _, r | .nilp, _, r | .nils, _, r | .nilm, _, r | .nilf, _, r | .nili, _, r => by
    simpa only [VRel] using r
  | .ptr b o, v, r => by
    simp only [VRel] at r ⊢
    obtain ⟨l, hl, e⟩ := r
    exact ⟨l, h _ _ hl, e⟩
  | .slice b o n cap ls, v, r => by
    simp only [VRel] at r ⊢
    obtain ⟨a, cap', e, h1, h2, h3, h4⟩ := r
    refine ⟨a, cap', e, h1, h2, h3, ?_⟩
    rcases h4 with h4 | ⟨l, hl, h5⟩
    · exact .inl h4
    · exact .inr ⟨l, h _ _ hl, h5⟩
  | .map b, v, r => by
    simp only [VRel] at r ⊢
    obtain ⟨l, hl, e⟩ := r
    exact ⟨l, h _ _ hl, e⟩
  | .func f a c, v, r => by
    simp only [VRel] at r ⊢
    obtain ⟨a', c', e, h1, h2⟩ := r
    exact ⟨a', c', e, VRels.mono h _ _ h1, VRels.mono h _ _ h2⟩
  | .iface t x, v, r => by
    simp only [VRel] at r ⊢
    obtain ⟨x', e, h1⟩ := r
    exact ⟨x', e, VRel.mono h _ _ h1⟩
  | .agg l, v, r => by
    simp only [VRel] at r ⊢
    obtain ⟨a, e, h1⟩ := r
    exact ⟨a, e, VRels.mono h _ _ h1⟩
  | .tup l, v, r => by
    simp only [VRel] at r ⊢
    obtain ⟨a, e, h1⟩ := r
    exact ⟨a, e, VRels.mono h _ _ h1⟩
theorem VRels.mono {ρ ρ' : Ren} (h : ρ.le ρ') : ∀ (x : List Val) (v : List Value), VRels ρ x v → VRels ρ' x v
  | [], _, r => by simpa only [VRels] using r
  | x :: r, v, q => by
    simp only [VRels] at q ⊢
    obtain ⟨y, s, e, h1, h2⟩ := q
    exact ⟨y, s, e, VRel.mono h _ _ h1, VRels.mono h _ _ h2⟩
end

theorem VRels.nil {ρ : Ren} : VRels ρ [] [] := by simp only [VRels]
theorem VRels.cons {ρ : Ren} {x : Val} {v : Value} {l : List Val} {m : List Value} (h : VRel ρ x v) (t : VRels ρ l m) : VRels ρ (x :: l) (v :: m) := by
  simp only [VRels]; exact ⟨_, _, rfl, h, t⟩

theorem VRels.length {ρ : Ren} : ∀ {l : List Val} {m : List Value}, VRels ρ l m → m.length = l.length
  | [], m, h => by simp only [VRels] at h; subst h; rfl
  | x :: l, m, h => by
    simp only [VRels] at h
    obtain ⟨y, s, rfl, _, h2⟩ := h
    simp [VRels.length h2]

theorem VRels.append {ρ : Ren} : ∀ {l l' : List Val} {m m' : List Value}, VRels ρ l m → VRels ρ l' m' → VRels ρ (l ++ l') (m ++ m')
  | [], _, m, _, h, k => by simp only [VRels] at h; subst h; simpa using k
  | x :: l, _, m, _, h, k => by
    simp only [VRels] at h
    obtain ⟨y, s, rfl, h1, h2⟩ := h
    exact .cons h1 (VRels.append h2 k)

theorem VRels.get {ρ : Ren} : ∀ {l : List Val} {m : List Value} (_ : VRels ρ l m) (i : Nat) (x : Val), l[i]? = some x → ∃ v, m[i]? = some v ∧ VRel ρ x v
  | [], m, _, i, x, e => by simp at e
  | y :: l, m, h, i, x, e => by
    simp only [VRels] at h
    obtain ⟨z, s, rfl, h1, h2⟩ := h
    cases i with
    | zero => simp at e; subst e; exact ⟨z, by simp, h1⟩
    | succ i => simpa using VRels.get h2 i x (by simpa using e)

theorem VRels.of_get {ρ : Ren} : ∀ {l : List Val} {m : List Value}, m.length = l.length → (∀ (i : Nat) (x : Val) (v : Value), l[i]? = some x → m[i]? = some v → VRel ρ x v) → VRels ρ l m
  | [], m, e, _ => by
    cases m with
    | nil => exact .nil
    | cons _ _ => simp at e
  | x :: l, m, e, h => by
    cases m with
    | nil => simp at e
    | cons v m => exact .cons (h 0 x v (by simp) (by simp)) (VRels.of_get (by simpa using e) fun i x v a b => h (i + 1) x v (by simpa using a) (by simpa using b))

theorem VRels.drop {ρ : Ren} {l : List Val} {m : List Value} (h : VRels ρ l m) (n : Nat) : VRels ρ (l.drop n) (m.drop n) := by
  refine .of_get (by simp [h.length]) fun i x v a b => ?_
  rw [List.getElem?_drop] at a b
  obtain ⟨v', hv, r⟩ := h.get _ _ a
  rw [b] at hv; cases hv; exact r

theorem VRels.take {ρ : Ren} {l : List Val} {m : List Value} (h : VRels ρ l m) (n : Nat) : VRels ρ (l.take n) (m.take n) := by
  refine .of_get (by simp [h.length]) fun i x v a b => ?_
  rw [List.getElem?_take] at a b
  split at a <;> simp_all
  obtain ⟨v', hv, r⟩ := h.get _ _ a
  rw [b] at hv; cases hv; exact r

theorem VRels.set {ρ : Ren} {l : List Val} {m : List Value} (h : VRels ρ l m) (n : Nat) {x : Val} {v : Value} (hx : VRel ρ x v) : VRels ρ (l.set n x) (m.set n v) := by
  refine .of_get (by simp [h.length]) fun i y w a b => ?_
  rw [List.getElem?_set] at a b
  by_cases hi : n = i
  · subst hi
    simp only [h.length] at b
    split at a <;> simp_all
  · simp [hi] at a b
    obtain ⟨v', hv, r⟩ := h.get _ _ a
    rw [b] at hv; cases hv; exact r

theorem VRels.replicate {ρ : Ren} {x : Val} {v : Value} (h : VRel ρ x v) (n : Nat) : VRels ρ (List.replicate n x) (List.replicate n v) := by
  refine .of_get (by simp) fun i y w a b => ?_
  rw [List.getElem?_replicate] at a b
  split at a <;> simp_all

/-- A block. -/
def BRel (ρ : Ren) (w : World) (l : Loc) : Blk → Prop
  | .cells c => ∃ (arr : Array Value) (e : TypeId) (lo hi : Nat), w.heap[l.c]? = some (.cells arr e (lo, hi)) ∧ (∀ j, l.s ≤ j → (j < l.s + c.length ∨ j < l.e) → ¬ (lo ≤ j ∧ j < hi)) ∧ l.s + c.length ≤ arr.size ∧ l.e ≤ arr.size ∧
      VRels ρ c ((arr.toList.drop l.s).take c.length)
  | .map es => ∃ (ent : Array MapEntry) (clock : Nat), w.heap[l.c]? = some (.map ent clock) ∧
      VRels ρ (es.map Prod.fst) (ent.toList.map (·.key)) ∧ VRels ρ (es.map Prod.snd) (ent.toList.map (·.val))

theorem BRel.lt {ρ : Ren} {w : World} {l : Loc} {x : Blk} (h : BRel ρ w l x) : l.c < w.heap.size := by
  cases x with
  | cells c =>
    obtain ⟨_, _, _, _, h, _⟩ := h
    exact (Array.getElem?_eq_some_iff.1 h).1
  | map es =>
    obtain ⟨_, _, h, _⟩ := h
    exact (Array.getElem?_eq_some_iff.1 h).1

theorem BRel.mono {ρ ρ' : Ren} {w w' : World} {l : Loc} {x : Blk} (h : BRel ρ w l x) (hr : ρ.le ρ') (hw : w'.heap[l.c]? = w.heap[l.c]?) : BRel ρ' w' l x := by
  cases x with
  | cells c =>
    obtain ⟨arr, e, lo, hi, h1, h2, h3, h4, h5⟩ := h
    exact ⟨arr, e, lo, hi, hw.trans h1, h2, h3, h4, VRels.mono hr _ _ h5⟩
  | map es =>
    obtain ⟨ent, clock, h1, h2, h3⟩ := h
    exact ⟨ent, clock, hw.trans h1, VRels.mono hr _ _ h2, VRels.mono hr _ _ h3⟩

/-- The heap. -/
structure HRel (ρ : Ren) (h : Heap) (w : World) : Prop where
  blk : ∀ b x, h.get b = some x → ∃ l, ρ b = some l ∧ BRel ρ w l x
  inj : ∀ b b' x x' l l', h.get b = some x → h.get b' = some x' → ρ b = some l → ρ b' = some l' → l.c = l'.c → b = b' ∨ (b < h.base ∧ b' < h.base)
  top : ∀ b, h.next ≤ b → ρ b = none
  low : ∀ b x, h.t.get b = some x → b < h.next
  bs : h.base ≤ h.floor ∧ h.base ≤ h.next

/-- What a step leaves. -/
structure Post (ρ : Ren) (h : Heap) (w : World) (ρ' : Ren) (h' : Heap) (w' : World) : Prop where
  ext : ρ.le ρ'
  hrel : HRel ρ' h' w'
  hid : h'.hid = h.hid
  floor : h'.floor = h.floor
  base : h'.base = h.base
  next : h.next ≤ h'.next
  live : ∀ b, b < h.next → (h'.get b).isSome = true → (h.get b).isSome = true
  os : w'.os = w.os
  tape : w'.tape = w.tape
  output : w'.output = w.output
  size : w.heap.size ≤ w'.heap.size
  frame : ∀ c, c < w.heap.size → (∀ b x l, h.get b = some x → h.floor ≤ b → ρ b = some l → l.c ≠ c) → w'.heap[c]? = w.heap[c]?
  fresh : ∀ b l, ρ' b = some l → ρ b = none → w.heap.size ≤ l.c ∨ ∃ b0 x0 l0, h.get b0 = some x0 ∧ h.floor ≤ b0 ∧ ρ b0 = some l0 ∧ l0.c = l.c
  born : ∀ b l, ρ' b = some l → ρ b = none → h.next ≤ b

theorem Post.refl {ρ : Ren} {h : Heap} {w : World} (hr : HRel ρ h w) : Post ρ h w ρ h w :=
  ⟨Ren.le_refl _, hr, rfl, rfl, rfl, Nat.le_refl _, fun _ _ h => h, rfl, rfl, rfl, Nat.le_refl _, fun _ _ _ => rfl, fun b l h1 h2 => (by rw [h1] at h2; cases h2), fun b l h1 h2 => (by rw [h1] at h2; cases h2)⟩

theorem Post.trans {ρ ρ1 ρ2 : Ren} {h h1 h2 : Heap} {w w1 w2 : World} (a : Post ρ h w ρ1 h1 w1) (b : Post ρ1 h1 w1 ρ2 h2 w2) (hr : HRel ρ h w) : Post ρ h w ρ2 h2 w2 := by
  have live1 : ∀ b x l, h1.get b = some x → ρ b = some l → ∃ x0, h.get b = some x0 := by
    intro b x l e r
    have hb : b < h.next := by
      rcases Nat.lt_or_ge b h.next with k | k
      · exact k
      · rw [hr.top b k] at r; cases r
    have := a.live b hb (by simp [e])
    exact Option.isSome_iff_exists.1 this
  -- a block that the second may write is one that the first may write, or a new one
  have back : ∀ c, c < w.heap.size → (∃ b x l, h1.get b = some x ∧ h1.floor ≤ b ∧ ρ1 b = some l ∧ l.c = c) → ∃ b x l, h.get b = some x ∧ h.floor ≤ b ∧ ρ b = some l ∧ l.c = c := by
    rintro c hc ⟨b, x, l, e, f, r, rfl⟩
    cases hb : ρ b with
    | some l' =>
      have := a.ext _ _ hb
      rw [r] at this; cases this
      obtain ⟨x0, hx0⟩ := live1 b x l e hb
      exact ⟨b, x0, l, hx0, by rw [← a.floor]; exact f, hb, rfl⟩
    | none =>
      rcases a.fresh b l r hb with k | ⟨b0, x0, l0, k1, k2, k3, k4⟩
      · omega
      · exact ⟨b0, x0, l0, k1, k2, k3, k4⟩
  refine ⟨a.ext.trans b.ext, b.hrel, b.hid.trans a.hid, b.floor.trans a.floor, b.base.trans a.base, Nat.le_trans a.next b.next, ?_, b.os.trans a.os, b.tape.trans a.tape, b.output.trans a.output, Nat.le_trans a.size b.size, ?_, ?_, ?_⟩
  · intro i hi k
    exact a.live i hi (b.live i (Nat.lt_of_lt_of_le hi a.next) k)
  · intro c hc k
    rw [b.frame c (Nat.lt_of_lt_of_le hc a.size) ?_, a.frame c hc k]
    intro b x l e f r hcc
    obtain ⟨b', x', l', k1, k2, k3, k4⟩ := back c hc ⟨b, x, l, e, f, r, hcc⟩
    exact k b' x' l' k1 k2 k3 k4
  · intro i l r hn
    cases hb : ρ1 i with
    | some l' =>
      have := b.ext _ _ hb
      rw [r] at this; cases this
      exact a.fresh i l hb hn
    | none =>
      rcases b.fresh i l r hb with k | ⟨b0, x0, l0, k1, k2, k3, k4⟩
      · exact .inl (Nat.le_trans a.size k)
      · by_cases hc : l.c < w.heap.size
        · obtain ⟨b', x', l', q1, q2, q3, q4⟩ := back l.c hc ⟨b0, x0, l0, k1, k2, k3, k4⟩
          exact .inr ⟨b', x', l', q1, q2, q3, q4⟩
        · exact .inl (by omega)
  · intro i l r hn
    cases hb : ρ1 i with
    | some l' =>
      have := b.ext _ _ hb
      rw [r] at this; cases this
      exact a.born i l hb hn
    | none => exact Nat.le_trans a.next (b.born i l r hb)

/-- The same worlds but for a draw. -/
theorem Post.draw {ρ : Ren} {h : Heap} {w w' : World} (hr : HRel ρ h w) (hh : w'.heap = w.heap) (ho : w'.os = w.os) (ht : w'.tape = w.tape) (hp : w'.output = w.output) : Post ρ h w ρ h w' := by
  refine ⟨Ren.le_refl _, ⟨?_, hr.inj, hr.top, hr.low, hr.bs⟩, rfl, rfl, rfl, Nat.le_refl _, fun _ _ h => h, ho, ht, hp, by rw [hh]; exact Nat.le_refl _, fun _ _ _ => by rw [hh], fun b l h1 h2 => (by rw [h1] at h2; cases h2), fun b l h1 h2 => (by rw [h1] at h2; cases h2)⟩
  intro b x e
  obtain ⟨l, h1, h2⟩ := hr.blk b x e
  exact ⟨l, h1, h2.mono (Ren.le_refl _) (by rw [hh])⟩

/- THE TRIE. -/
theorem Tr.get_leaf (k : Nat) : Tr.leaf.get k = none := rfl

theorem Tr.get_set : ∀ (f : Nat) (t : Tr) (k j : Nat) (x : Option Blk), k < f → (Tr.set f t k x).get j = if j = k then x else t.get j
  | 0, _, k, _, _, h => by omega
  | f + 1, .leaf, k, j, x, h => by
    unfold Tr.set
    by_cases h0 : k = 0
    · subst h0; simp only [if_true, Tr.get]
      by_cases hj : j = 0
      · simp [hj]
      · simp only [hj, if_false]; split <;> rfl
    · simp only [h0, if_false]
      by_cases h2 : k % 2 = 0
      · simp only [h2, if_true, Tr.get]
        by_cases hj : j = 0
        · subst hj; simp only [if_true]; rw [if_neg (by omega)]
        · simp only [hj, if_false]
          by_cases hj2 : j % 2 = 0
          · simp only [hj2, if_true]; rw [Tr.get_set f .leaf (k / 2 - 1) (j / 2 - 1) x (by omega)]
            by_cases e : j = k
            · subst e; simp
            · rw [if_neg (by omega), if_neg e]; rfl
          · simp only [hj2, if_false]; rw [if_neg (by omega)]
      · simp only [h2, if_false, Tr.get]
        by_cases hj : j = 0
        · subst hj; simp only [if_true]; rw [if_neg (by omega)]
        · simp only [hj, if_false]
          by_cases hj2 : j % 2 = 0
          · simp only [hj2, if_true]; rw [if_neg (by omega)]
          · simp only [hj2, if_false]; rw [Tr.get_set f .leaf (k / 2) (j / 2) x (by omega)]
            by_cases e : j = k
            · subst e; simp
            · rw [if_neg (by omega), if_neg e]; rfl
  | f + 1, .node l v r, k, j, x, h => by
    unfold Tr.set
    by_cases h0 : k = 0
    · subst h0; simp only [if_true, Tr.get]
      by_cases hj : j = 0
      · simp [hj]
      · simp [hj]
    · simp only [h0, if_false]
      by_cases h2 : k % 2 = 0
      · simp only [h2, if_true, Tr.get]
        by_cases hj : j = 0
        · subst hj; simp only [if_true]; rw [if_neg (by omega)]
        · simp only [hj, if_false]
          by_cases hj2 : j % 2 = 0
          · simp only [hj2, if_true]; rw [Tr.get_set f r (k / 2 - 1) (j / 2 - 1) x (by omega)]
            by_cases e : j = k
            · subst e; simp
            · rw [if_neg (by omega), if_neg e]
          · simp only [hj2, if_false]; rw [if_neg (by omega)]
      · simp only [h2, if_false, Tr.get]
        by_cases hj : j = 0
        · subst hj; simp only [if_true]; rw [if_neg (by omega)]
        · simp only [hj, if_false]
          by_cases hj2 : j % 2 = 0
          · simp only [hj2, if_true]; rw [if_neg (by omega)]
          · simp only [hj2, if_false]; rw [Tr.get_set f l (k / 2) (j / 2) x (by omega)]
            by_cases e : j = k
            · subst e; simp
            · rw [if_neg (by omega), if_neg e]

theorem Heap.get_put (h : Heap) (b j : Nat) (x : Option Blk) : (h.put b x).get j = if h.hidden j then none else if j = b then x else h.t.get j := by
  unfold Heap.get Heap.put Heap.hidden
  simp only []
  split
  · rfl
  · rw [Tr.get_set _ _ _ _ _ (by omega)]

theorem Heap.get_t {h : Heap} {b : Nat} {x : Blk} (e : h.get b = some x) : h.t.get b = some x := by
  unfold Heap.get at e
  split at e
  · cases e
  · exact e

theorem Heap.get_nh {h : Heap} {b : Nat} {x : Blk} (e : h.get b = some x) : h.hidden b = false := by
  unfold Heap.get at e
  split at e
  · cases e
  · simpa using ‹¬ h.hidden b = true›

end Go.V
