/-
  Rows: an argument that is a slice of plain elements.
-/
import Derived.Test.YtkmaaddlimgdoaaRowB
import Derived.Test.YtkmaaddlimgdoaaWpE
set_option linter.unusedVariables false
set_option linter.unusedSimpArgs false
set_option linter.unusedSectionVars false
namespace Go.V
open Go Go.ChangeShapes Go.WideShapes Go.ChangeAt Go.RowKit

variable {H : Type} {enc : TypeId × Value → H} {P : Program}

theorem mapM_get {f : Nat → Option Value} : ∀ (n s : Nat) (l : List Value), (List.range' s n).mapM f = some l → l.length = n ∧ ∀ j v, l[j]? = some v → f (s + j) = some v
  | 0, s, l, e => by
    simp at e; subst e; simp
  | n + 1, s, l, e => by
    rw [List.range'_succ, List.mapM_cons] at e
    cases h1 : f s with
    | none => rw [h1] at e; cases e
    | some y =>
      rw [h1] at e
      cases h2 : (List.range' (s + 1) n).mapM f with
      | none => simp [h2] at e
      | some ys =>
        simp only [h2, Option.pure_def, Option.bind_eq_bind, Option.bind_some, Option.some.injEq] at e
        subst e
        obtain ⟨h3, h4⟩ := mapM_get n (s + 1) ys h2
        refine ⟨by simp [h3], fun j v hj => ?_⟩
        cases j with
        | zero => simp at hj; subst hj; exact h1
        | succ j => have := h4 j v (by simpa using hj); rw [show s + (j + 1) = s + 1 + j by omega]; exact this

theorem cells_get {W : World} {base : Nat} {a : Addr} {n : Nat} {l : List Value} (e : W.cells? base a n = some l) : l.length = n ∧ ∀ j v, l[j]? = some v → W.cell? (a.add j) = some v := by
  unfold World.cells? at e
  split at e
  · rw [List.range_eq_range'] at e
    obtain ⟨h1, h2⟩ := mapM_get n 0 l e
    refine ⟨h1, fun j v hj => ?_⟩
    have := h2 j v hj
    simpa using this
  · cases e

theorem elems_ok {W : World} {base : Nat} {a : Addr} {sz : Nat} {ks : List IntKind} {tr : List Value → Option (DataW H × List MemPlace)} (ht : ∀ l x, tr l = some x → Ints ks l) (hk : ks.length = sz)
    (hadd : ∀ i j, (a.add i).add j = a.add (i + j)) : ∀ (n s : Nat) (xs : List (DataW H × List MemPlace)), (List.range' s n).mapM (fun i => (W.cells? base (a.add (i * sz)) sz).bind tr) = some xs →
    ∃ cells : List Value, cells.length = n * sz ∧ (∀ j v, cells[j]? = some v → W.cell? (a.add (s * sz + j)) = some v) ∧ Ints (List.replicate n ks).flatten cells
  | 0, s, xs, _ => ⟨[], by simp, by simp, by simp [Ints]⟩
  | n + 1, s, xs, e => by
    rw [List.range'_succ, List.mapM_cons] at e
    cases h1 : (W.cells? base (a.add (s * sz)) sz).bind tr with
    | none => rw [h1] at e; cases e
    | some y =>
      rw [h1] at e
      cases h2 : (List.range' (s + 1) n).mapM (fun i => (W.cells? base (a.add (i * sz)) sz).bind tr) with
      | none => simp [h2] at e
      | some ys =>
        obtain ⟨l, h3, h4⟩ := bind_imp h1
        obtain ⟨h5, h6⟩ := cells_get h3
        obtain ⟨cs, c1, c2, c3⟩ := elems_ok ht hk hadd n (s + 1) ys h2
        refine ⟨l ++ cs, by rw [List.length_append, h5, c1, Nat.succ_mul, Nat.add_comm], fun j v hj => ?_, ?_⟩
        · rw [List.getElem?_append] at hj
          split at hj
          · rename_i hlt
            have := h6 j v hj
            rw [hadd] at this; exact this
          · rename_i hge
            have := c2 _ v hj
            rw [h5] at this hge
            rw [show s * sz + j = (s + 1) * sz + (j - sz) by rw [Nat.succ_mul]; omega]
            exact this
        · rw [List.replicate_succ, List.flatten_cons]
          exact (ht _ _ h4).append c3

/-- An argument's memory, as the abstract machine has it: read only. -/
def argHeap (c : List Val) : Heap := { (heap0.new (.cells c)).2 with floor := 1, base := 1 }

theorem argHeap_get (c : List Val) (b : Nat) : (argHeap c).get b = if b = 0 then some (.cells c) else none := by
  have h1 : (argHeap c).get b = (heap0.new (.cells c)).2.get b := rfl
  rw [h1, Heap.new_get]
  have h2 : heap0.hidden b = false := rfl
  rw [h2]
  simp only [Bool.false_eq_true, if_false]
  have h3 : heap0.next = 0 := rfl
  rw [h3, heap0_t]

theorem argHeap_t (c : List Val) (b : Nat) : (argHeap c).t.get b = if b = 0 then some (.cells c) else none := by
  have := argHeap_get c b
  unfold Heap.get at this
  rw [if_neg (by simp [Heap.hidden, argHeap, Heap.new, Heap.put, heap0])] at this
  exact this

theorem argHeap_wf (c : List Val) : Wf (argHeap c) := by
  refine ⟨fun _ _ => rfl, fun b hb => ?_, Nat.le_refl _⟩
  have hb' : 1 ≤ b := hb
  rw [argHeap_t, if_neg (by omega)]

def argRen (l : Loc) : Ren := fun b => if b = 0 then some l else none

theorem argHrel {c : List Val} {l : Loc} {w : World} (h : BRel (argRen l) w l (.cells c)) : HRel (argRen l) (argHeap c) w := by
  refine ⟨fun b x e => ?_, fun b b' x x' l1 l2 e e' _ _ _ => ?_, fun b hb => ?_, fun b x e => ?_, ⟨Nat.le_refl _, Nat.le_refl _⟩⟩
  · rw [argHeap_get] at e
    split at e
    · rename_i hb; cases e; exact ⟨l, by simp [argRen, hb], h⟩
    · cases e
  · rw [argHeap_get] at e e'
    split at e
    · split at e'
      · left; omega
      · cases e'
    · cases e
  · have hb' : 1 ≤ b := hb
    simp only [argRen]; rw [if_neg (by omega)]
  · rw [argHeap_t] at e
    split at e
    · rename_i hb; subst hb; exact Nat.lt_succ_self _
    · cases e

/-- A law whose arguments' memory is only read. -/
theorem law_args {E : Env} (hE : EnvOk P E) (hpe : PrimsExt E) {n : Nat} {f : FuncId} {ρ : Ren} {h : Heap} {w : World} (hr : HRel ρ h w) (hro : ∀ b x, h.get b = some x → b < h.floor) {args : List Val} {cargs : Array Value} (ha : VRels ρ args cargs.toList) {h' : Heap} (e : run E n f args h = some (.bool true, h')) :
    Calls P f cargs w (fun en w' => en = .returned (.bool true) ∧ (∀ c, c < w.heap.size → w'.heap[c]? = w.heap[c]?) ∧ w'.os = w.os ∧ w'.output = w.output) := by
  refine ((run_sound hE hpe n f args h _ h' e).2 _ w cargs hr ha).mono ?_
  rintro en w' ⟨cv, ρ', he, p, hv⟩
  simp only [VRel] at hv
  subst hv
  exact ⟨he, fun c hc => p.frame c hc (fun b x l hg hf => by have := hro b x hg; omega), p.os, p.output⟩

theorem mapM_len {α β : Type} {f : α → Option β} : ∀ {l : List α} {r : List β}, l.mapM f = some r → r.length = l.length
  | [], r, h => by simp at h; subst h; rfl
  | a :: l, r, h => by
    rw [List.mapM_cons] at h
    cases ha : f a with
    | none => rw [ha] at h; cases h
    | some y =>
      rw [ha] at h
      cases hl : l.mapM f with
      | none => simp [hl] at h
      | some s =>
        simp only [hl, Option.pure_def, Option.bind_eq_bind, Option.bind_some, Option.some.injEq] at h
        subst h
        simp [mapM_len hl]

theorem addr_add (a : Addr) (i j : Nat) : (a.add i).add j = a.add (i + j) := by
  unfold Addr.add
  by_cases hi : i = 0
  · simp [hi]
  · by_cases hj : j = 0
    · simp [hj]
    · rw [if_neg hi, if_neg hj, if_neg (by omega)]
      simp [Nat.add_assoc]

theorem cell_at {W : World} {a : Addr} {v : Value} (h : W.cell? a = some v) : ∃ arr et lo hi, a.spot = none ∧ W.heap[a.block]? = some (.cells arr et (lo, hi)) ∧ arr[a.off]? = some v := by
  unfold World.cell? at h
  split at h
  · rename_i arr et fr hb
    obtain ⟨lo, hi⟩ := fr
    split at h
    · cases h
    · rename_i hs
      exact ⟨arr, et, lo, hi, by simpa using hs, hb, h⟩
  · cases h

/-- What an argument that is a slice of plain elements is. -/
def SliceArg (W : World) (sz : Nat) (ks : List IntKind) (v : Value) : Prop := v = .slice none 0 0 ∨ ∃ a len cap, v = .slice (some a) len cap ∧ len ≤ cap ∧ cap ≤ maxLen ∧
  (cap = 0 ∨ ∃ g o arr et lo hi, a = ⟨g, o, none⟩ ∧ W.heap[g]? = some (.cells arr et (lo, hi)) ∧ o + len * sz ≤ arr.size ∧ (∀ j, o ≤ j → j < o + len * sz → ¬ (lo ≤ j ∧ j < hi)) ∧ Ints (List.replicate len ks).flatten ((arr.toList.drop o).take (len * sz)))

theorem slice_arg {W : World} {fuel : Nat} {t e : TypeId} {ks : List IntKind} {v : Value} {x : DataW H × List MemPlace} (ht : P.underlying t = some (.slice e)) (hf : flatT P 4 e = some ks) (hk : ks.length = P.cellsOf e) (hsz : 0 < P.cellsOf e)
    (h : DataW.trod enc P W 0 (fun _ => true) true fuel t [v] = some x) (hfz : ∀ b off, MemPlace.cell b off ∈ x.2 → W.frozen? ⟨b, off, none⟩ = false) : SliceArg W (P.cellsOf e) ks v := by
  cases fuel with
  | zero => simp [DataW.trod] at h
  | succ fuel =>
    unfold DataW.trod at h
    generalize hu : P.underlying t = u at h
    generalize hcs : [v] = cs at h
    rw [ht] at hu
    split at h
    case h_7 =>
      left
      simpa using hcs
    case h_8 =>
      rename_i e0 a len cap
      simp only [Option.some.injEq, TypeDesc.slice.injEq] at hu
      subst hu
      simp only [List.cons.injEq, and_true] at hcs
      subst hcs
      split at h
      · rename_i hc
        right
        refine ⟨a, len, cap, rfl, hc.2.1, hc.2.2, ?_⟩
        by_cases h0 : cap = 0
        · exact .inl h0
        right
        obtain ⟨elems, e1, e2⟩ := bind_imp h
        simp only [Option.map_eq_some_iff, if_true] at e2
        obtain ⟨rest, e3, rfl⟩ := e2
        rw [List.range_eq_range'] at e1 e3
        obtain ⟨cells, c1, c2, c3⟩ := elems_ok (fun l x q => (flat_trod 4 e ks fuel l x hf q).1) hk (addr_add a) _ _ _ e1
        have first : ∃ v, W.cell? a = some v := by
          rcases Nat.eq_zero_or_pos len with hl | hl
          · subst hl
            have hr : (List.range' 0 (cap - 0)).mapM (fun i => (W.cells? 0 (a.add (i * P.cellsOf e)) (P.cellsOf e)).bind (DataW.trod enc P W 0 (fun _ => true) true fuel e)) = some rest := by simpa using e3
            obtain ⟨cs, d1, d2, _⟩ := elems_ok (fun l x q => (flat_trod 4 e ks fuel l x hf q).1) hk (addr_add a) _ _ _ hr
            have hpos : 0 < cs.length := by rw [d1]; exact Nat.mul_pos (by omega) hsz
            have := d2 0 cs[0] (List.getElem?_eq_getElem hpos)
            exact ⟨_, by simpa [Addr.add] using this⟩
          · have hpos : 0 < cells.length := by rw [c1]; exact Nat.mul_pos hl hsz
            have := c2 0 cells[0] (List.getElem?_eq_getElem hpos)
            exact ⟨_, by simpa [Addr.add] using this⟩
        obtain ⟨v0, hv0⟩ := first
        obtain ⟨arr, et, lo, hi, hspot, hheap, hat⟩ := cell_at hv0
        have ha : a = ⟨a.block, a.off, none⟩ := by cases a; simp at hspot; simp [hspot]
        have rd : ∀ j, j < len * P.cellsOf e → cells[j]? = arr[a.off + j]? := by
          intro j hj
          have := c2 j cells[j] (List.getElem?_eq_getElem (by omega))
          rw [Nat.zero_mul, Nat.zero_add, ha, Addr.add_none] at this
          obtain ⟨arr', et', lo', hi', _, hh', hat'⟩ := cell_at this
          simp only at hh' hat'
          rw [hheap] at hh'
          cases hh'
          rw [hat', List.getElem?_eq_getElem (by omega)]
        have hsize : a.off + len * P.cellsOf e ≤ arr.size := by
          rcases Nat.eq_zero_or_pos (len * P.cellsOf e) with q | q
          · have := (Array.getElem?_eq_some_iff.1 hat).1; omega
          · have := rd (len * P.cellsOf e - 1) (by omega)
            rw [List.getElem?_eq_getElem (by omega)] at this
            have := (Array.getElem?_eq_some_iff.1 this.symm).1
            omega
        refine ⟨a.block, a.off, arr, et, lo, hi, ha, hheap, hsize, fun j h1 h2 hbad => ?_, ?_⟩
        · have hmem : MemPlace.cell a.block j ∈ MemPlace.row a ((elems.length + rest.length) * P.cellsOf e) := by
            unfold MemPlace.row
            refine List.mem_map.2 ⟨j - a.off, ?_, by congr 1; omega⟩
            have hel : elems.length = len := (mapM_len e1).trans (by simp)
            rw [List.mem_range, hel, Nat.add_mul]
            omega
          have := hfz a.block j (by simp only [List.mem_append]; exact .inl hmem)
          simp only [World.frozen?, hheap] at this
          simp at this
          omega
        · have : (arr.toList.drop a.off).take (len * P.cellsOf e) = cells := by
            apply List.ext_getElem?
            intro j
            rw [List.getElem?_take]
            split
            · rename_i hj
              rw [List.getElem?_drop, rd j hj, Array.getElem?_toList]
            · rw [List.getElem?_eq_none (by omega)]
          rw [this]; exact c3
      · cases h
    all_goals first | (cases h; done) | (cases hu; done) | (exfalso; simp at *; done)

end Go.V
