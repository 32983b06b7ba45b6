/-
  Parts of the proof:
  A region that draws its order: the parts.
  A region that draws its order: whatever order is drawn, it comes to what the order of the text comes to.
  A region that draws its order: every order.
  A region that draws its order: start, all orders, end.
  What the abstract machine answers, the program answers.
  Rows: what was read before a call that writes nothing old reads so behind it.
  Rows: plain arguments, and what a law's call leaves.
  What code of the abstract machine comes to: rules.
  Symbolic steps.
  Symbolic steps of drawn regions.
  Heaps that grow.
  Symbolic steps, with less to look up.
  Slices, as lists of cells.
  Rows: an argument that is a slice of plain elements.
  Rows: several arguments that are slices of plain elements.
  Functions whose contracts leave the heap as it is, as wholes.
  A slice of loose capacity, made exact: its block takes in what lies behind it.
  What an operation on an exact slice left, told of the loose one: its block is gone, a new one holds the row.
  Lists that a function owns: append, make, copy.
  append, with what it leaves.
  Small laws for walks.
-/
import Derived.Orders
import Derived.Test.YtalokejcacejpaaRows
import Derived.WalkKit
import Derived.ProofKit
import Derived.OpenShut
import Derived.JoinedCond
import Derived.Test.YtalokejcacejpaaD0

section
set_option linter.unusedVariables false
set_option linter.unusedSimpArgs false
set_option linter.unusedSectionVars false
namespace Go.V

/- WHAT RUNS BEFORE. -/
theorem fold_bit (acc : Array Nat) (j : Nat) : ∀ (l : List Edge) (s : Nat), (l.foldl (fun s e => if Region.binds .any e then s ||| 2 ^ e.on ||| acc.getD e.on 0 else s) s).testBit j = true →
    s.testBit j = true ∨ ∃ e ∈ l, Region.binds .any e = true ∧ (e.on = j ∨ (acc.getD e.on 0).testBit j = true)
  | [], s, h => .inl (by simpa using h)
  | e :: l, s, h => by
    simp only [List.foldl_cons] at h
    rcases fold_bit acc j l _ h with h1 | ⟨e', h1, h2⟩
    · split at h1
      · rename_i hb
        simp only [Nat.testBit_or, Bool.or_eq_true] at h1
        rcases h1 with (h1 | h1) | h1
        · exact .inl h1
        · exact .inr ⟨e, by simp, hb, .inl (by rw [Nat.testBit_two_pow] at h1; simpa using h1)⟩
        · exact .inr ⟨e, by simp, hb, .inr h1⟩
      · exact .inl h1
    · exact .inr ⟨e', by simp [h1], h2⟩

def beforeStep (acc : Array Nat) (o : Oper) : Array Nat := acc.push (o.after.foldl (fun s e => if Region.binds .any e then s ||| 2 ^ e.on ||| acc.getD e.on 0 else s) 0)

theorem before_list : ∀ (l pre : List Oper) (acc : Array Nat), acc.size = pre.length →
    (∀ i j, (acc.getD i 0).testBit j = true → ∃ o, pre[i]? = some o ∧ ∃ e ∈ o.after, Region.binds .any e = true ∧ (e.on = j ∨ (acc.getD e.on 0).testBit j = true)) →
    ∀ i j, ((l.foldl beforeStep acc).getD i 0).testBit j = true → ∃ o, (pre ++ l)[i]? = some o ∧ ∃ e ∈ o.after, Region.binds .any e = true ∧ (e.on = j ∨ ((l.foldl beforeStep acc).getD e.on 0).testBit j = true)
  | [], pre, acc, _, h, i, j, hb => by simpa using h i j hb
  | o :: l, pre, acc, hs, h, i, j, hb => by
    have hacc : ∀ k v, (acc.getD k 0).testBit v = true → ((beforeStep acc o).getD k 0).testBit v = true := by
      intro k v hk
      have hlt : k < acc.size := by
        rcases Nat.lt_or_ge k acc.size with h1 | h1
        · exact h1
        · rw [Array.getD_eq_getD_getElem?, Array.getElem?_eq_none h1] at hk; simp at hk
      unfold beforeStep
      rw [Array.getD_eq_getD_getElem?, Array.getElem?_push, if_neg (by omega), ← Array.getD_eq_getD_getElem?]
      exact hk
    have := before_list l (pre ++ [o]) (beforeStep acc o) (by simp [beforeStep, hs]) ?_ i j hb
    · simpa using this
    · intro i j hb
      unfold beforeStep at hb
      rw [Array.getD_eq_getD_getElem?, Array.getElem?_push] at hb
      split at hb
      · rename_i hi
        simp only [Option.getD_some] at hb
        rw [← Array.foldl_toList] at hb
        rcases fold_bit acc j o.after.toList 0 hb with h1 | ⟨e, he, h1, h2⟩
        · simp at h1
        · refine ⟨o, by rw [List.getElem?_append_right (by omega)]; simp [hi, hs], e, by simpa using he, h1, ?_⟩
          rcases h2 with h2 | h2
          · exact .inl h2
          · exact .inr (hacc _ _ h2)
      · rename_i hi
        rw [← Array.getD_eq_getD_getElem?] at hb
        obtain ⟨o', h1, e, he, h2, h3⟩ := h i j hb
        refine ⟨o', by rw [List.getElem?_append_left (List.getElem?_eq_some_iff.1 h1).1]; exact h1, e, he, h2, ?_⟩
        rcases h3 with h3 | h3
        · exact .inl h3
        · exact .inr (hacc _ _ h3)

theorem before_spec (ops : Array Oper) (i j : Nat) (h : ((Region.before ops).getD i 0).testBit j = true) :
    ∃ o, ops[i]? = some o ∧ ∃ e ∈ o.after, Region.binds .any e = true ∧ (e.on = j ∨ ((Region.before ops).getD e.on 0).testBit j = true) := by
  have e : Region.before ops = ops.toList.foldl beforeStep #[] := by
    unfold Region.before
    rw [← Array.foldl_toList]
    rfl
  rw [e] at h ⊢
  have := before_list ops.toList [] #[] rfl (by intro i j h; simp at h) i j h
  simpa using this

theorem edgesOk_get : ∀ (l : List Oper) (k : Nat), edgesOk l k = true → ∀ i o, l[i]? = some o → ∀ e ∈ o.after, Region.binds .any e = true → e.on < k + i
  | [], k, _, i, o, h => by simp at h
  | x :: l, k, hok, i, o, h => by
    simp only [edgesOk, Bool.and_eq_true] at hok
    cases i with
    | zero =>
      simp at h; subst h
      intro e he hb
      have := List.all_eq_true.1 hok.1 e (by simpa using he)
      simp [hb] at this
      omega
    | succ i =>
      intro e he hb
      have := edgesOk_get l (k + 1) hok.2 i o (by simpa using h) e he hb
      omega

theorem writersOf_mem : ∀ (l : List VOper) (k i : Nat) (v : VOper) (d : Nat), l[i]? = some v → v.dst = some d → (d, k + i) ∈ writersOf l k
  | [], k, i, v, d, h, _ => by simp at h
  | x :: l, k, i, v, d, h, hd => by
    cases i with
    | zero =>
      simp at h; subst h
      simp [writersOf, hd]
    | succ i =>
      have := writersOf_mem l (k + 1) i v d (by simpa using h) hd
      have e : k + 1 + i = k + (i + 1) := by omega
      rw [e] at this
      simp only [writersOf]
      split
      · exact List.mem_cons_of_mem _ this
      · exact this

theorem tmpsOk_get {b : Array Nat} {ws : List (Nat × Nat)} : ∀ (l : List Oper) (vl : List VOper) (k : Nat), tmpsOk b ws l vl k = true → ∀ i o v, l[i]? = some o → vl[i]? = some v → ∀ t ∈ namesOf o v, ∀ d j, (d, j) ∈ ws → d = t → j = k + i ∨ (b.getD (max j (k + i)) 0).testBit (min j (k + i)) = true
  | [], vl, k, _, i, o, v, h, _ => by simp at h
  | x :: l, [], k, hok, _, _, _, _, h => by simp at h
  | x :: l, y :: vl, k, hok, i, o, v, h1, h2 => by
    simp only [tmpsOk, Bool.and_eq_true] at hok
    cases i with
    | zero =>
      simp at h1 h2; subst h1 h2
      intro t ht d j hj hd
      have h3 := List.all_eq_true.1 hok.1 t ht
      have h4 := List.all_eq_true.1 h3 (d, j) hj
      simp [hd] at h4
      rcases h4 with h4 | h4
      · exact .inl h4
      · exact .inr (by simpa using h4)
    | succ i =>
      intro t ht d j hj hd
      have := tmpsOk_get l vl (k + 1) hok.2 i o v (by simpa using h1) (by simpa using h2) t ht d j hj hd
      have e : k + 1 + i = k + (i + 1) := by omega
      rw [e] at this
      exact this

theorem touching_mem : ∀ (vs : List VOp) (k j : Nat), j ∈ touching vs k ↔ ∃ i v, vs[i]? = some v ∧ v.kind ≠ 0 ∧ j = k + i
  | [], k, j => by simp [touching]
  | x :: vs, k, j => by
    simp only [touching]
    have ih := touching_mem vs (k + 1) j
    constructor
    · intro h
      split at h
      · obtain ⟨i, v, h1, h2, h3⟩ := ih.1 h
        exact ⟨i + 1, v, by simpa using h1, h2, by omega⟩
      · rename_i hx
        cases h with
        | head => exact ⟨0, x, by simp, hx, by omega⟩
        | tail _ h =>
          obtain ⟨i, v, h1, h2, h3⟩ := ih.1 h
          exact ⟨i + 1, v, by simpa using h1, h2, by omega⟩
    · rintro ⟨i, v, h1, h2, h3⟩
      cases i with
      | zero =>
        simp at h1; subst h1
        rw [if_neg h2]
        simp at h3; subst h3; simp
      | succ i =>
        have := ih.2 ⟨i, v, by simpa using h1, h2, by omega⟩
        split
        · exact this
        · exact List.mem_cons_of_mem _ this

theorem cOpers_get {ops : Array Oper} {b : Array Nat} {ts : List Nat} : ∀ (l : List Oper) (vs : List VOp) (k : Nat) (vl : List VOper), cOpers ops b ts l vs k = some vl → l.length = vl.length ∧ vs.length = vl.length ∧ ∀ i o v, l[i]? = some o → vs[i]? = some v → ∃ vo, vl[i]? = some vo ∧ vo.op = v ∧ vo.dst = o.dst ∧ cGuard ops o.guard = some vo.guard ∧
      (vo.full = true → ∀ j ∈ ts, j = k + i ∨ (j < k + i ∧ (b.getD (k + i) 0).testBit j = true) ∨ (k + i < j ∧ (b.getD j 0).testBit (k + i) = true)) ∧
      (∀ j ∈ ts, j < k + i → (b.getD (k + i) 0).testBit j = false → j ∈ vo.hide)
  | [], [], k, vl, h => by simp only [cOpers, Option.some.injEq] at h; subst h; simp
  | o :: r, v :: rv, k, vl, h => by
    simp only [cOpers] at h
    split at h
    · rename_i g l hg hl
      cases h
      obtain ⟨h1, h2, h3⟩ := cOpers_get r rv (k + 1) l hl
      refine ⟨by simp [h1], by simp [h2], ?_⟩
      intro i o' v' e1 e2
      cases i with
      | zero =>
        simp at e1 e2; subst e1 e2
        refine ⟨_, by simp; rfl, rfl, rfl, hg, ?_, ?_⟩
        · intro hf j hj
          have := List.all_eq_true.1 hf j hj
          simp only [Nat.add_zero]
          by_cases hjk : j = k
          · exact .inl hjk
          · right
            simp only [beq_iff_eq, hjk, Bool.or_eq_true, false_or] at this
            split at this
            · rename_i hlt; exact .inl ⟨hlt, by simpa using this⟩
            · rename_i hlt; exact .inr ⟨by omega, by simpa using this⟩
        · intro j hj hlt hbit
          simp only [Nat.add_zero] at hlt hbit
          simp only [List.mem_filter, Bool.and_eq_true, decide_eq_true_eq, Bool.not_eq_true']
          exact ⟨hj, hlt, by simpa using hbit⟩
      | succ i =>
        obtain ⟨vo, q1, q2, q3, q4, q5, q6⟩ := h3 i o' v' (by simpa using e1) (by simpa using e2)
        have e : k + 1 + i = k + (i + 1) := by omega
        rw [e] at q5 q6
        exact ⟨vo, by simpa using q1, q2, q3, q4, q5, q6⟩
    · cases h
  | [], _ :: _, _, _, h => by simp [cOpers] at h
  | _ :: _, [], _, _, h => by simp [cOpers] at h

/- ONLY WHAT IS NAMED. -/
theorem ev_congr {fr fr' : List Val} {x : Opd} (h : ∀ t ∈ x.tmp, fr.getD t .undef = fr'.getD t .undef) : V.ev fr x = V.ev fr' x := by
  cases x with
  | t n => exact h n (by simp [Opd.tmp])
  | c v => rfl

theorem evs_congr {fr fr' : List Val} : ∀ {l : List Opd}, (∀ t ∈ l.flatMap Opd.tmp, fr.getD t .undef = fr'.getD t .undef) → V.evs fr l = V.evs fr' l
  | [], _ => rfl
  | x :: l, h => by
    simp only [List.flatMap_cons, List.mem_append] at h
    simp only [V.evs, ev_congr fun t ht => h t (.inl ht), evs_congr fun t ht => h t (.inr ht)]

theorem fill_congr {fr fr' : List Val} : ∀ {l : List (Nat × Nat × Opd)} {c : List Val}, (∀ t ∈ l.flatMap (fun p => p.2.2.tmp), fr.getD t .undef = fr'.getD t .undef) → V.fill fr c l = V.fill fr' c l
  | [], _, _ => rfl
  | (o, n, x) :: l, c, h => by
    simp only [List.flatMap_cons, List.mem_append] at h
    have e1 := ev_congr (x := x) fun t ht => h t (.inl ht)
    simp only [V.fill, e1, fill_congr fun t ht => h t (.inr ht)]

theorem bnd_congr {fr fr' : List Val} {x : Opd} (h : ∀ t ∈ x.tmp, fr.getD t .undef = fr'.getD t .undef) (y : Nat) : bnd fr y x = bnd fr' y x := by
  unfold bnd; rw [ev_congr h]

theorem bounds_congr {fr fr' : List Val} {lo hi mx : Option Opd} (h1 : ∀ t ∈ optTmp lo, fr.getD t .undef = fr'.getD t .undef) (h2 : ∀ t ∈ optTmp hi, fr.getD t .undef = fr'.getD t .undef) (h3 : ∀ t ∈ optTmp mx, fr.getD t .undef = fr'.getD t .undef) (n c : Nat) : bounds fr n c lo hi mx = bounds fr' n c lo hi mx := by
  unfold bounds
  cases lo <;> cases hi <;> cases mx <;> simp only [optTmp] at h1 h2 h3 <;> first
    | rfl
    | simp only [bnd_congr h1, bnd_congr h2, bnd_congr h3]
    | simp only [bnd_congr h1, bnd_congr h2]
    | simp only [bnd_congr h1, bnd_congr h3]
    | simp only [bnd_congr h2, bnd_congr h3]
    | simp only [bnd_congr h1]
    | simp only [bnd_congr h2]
    | simp only [bnd_congr h3]

theorem step_congr {meth : TypeId → Val → String → Option (FuncId × Val)} {call : CallT} {fr fr' : List Val} {h : Heap} {vo : VOp} (hh : ∀ t ∈ vo.tmps, fr.getD t .undef = fr'.getD t .undef) : step meth call fr h vo = step meth call fr' h vo := by
  cases vo <;> simp only [VOp.tmps, List.mem_append] at hh <;> simp only [step]
  case build z ps => rw [fill_congr hh]
  case bslice n z ps => rw [fill_congr hh]
  case mkfunc f a b => rw [evs_congr fun t ht => hh t (.inl ht), evs_congr fun t ht => hh t (.inr ht)]
  case call f l => rw [evs_congr hh]
  case outer f l => rw [evs_congr hh]
  case minmax f l => rw [evs_congr hh]
  case callv x l => rw [ev_congr fun t ht => hh t (.inl ht), evs_congr fun t ht => hh t (.inr ht)]
  case invoke x n l => rw [ev_congr fun t ht => hh t (.inl ht), evs_congr fun t ht => hh t (.inr ht)]
  case sliceStr x l k =>
    rw [ev_congr fun t ht => hh t (.inl (.inl ht))]
    have := fun n c => bounds_congr (fr := fr) (fr' := fr') (lo := l) (hi := k) (mx := none) (fun t ht => hh t (.inl (.inr ht))) (fun t ht => hh t (.inr ht)) (by simp [optTmp]) n c
    simp only [this]
  case slice n x l k m =>
    rw [ev_congr fun t ht => hh t (.inl (.inl (.inl ht)))]
    have := fun n c => bounds_congr (fr := fr) (fr' := fr') (lo := l) (hi := k) (mx := m) (fun t ht => hh t (.inl (.inl (.inr ht)))) (fun t ht => hh t (.inl (.inr ht))) (fun t ht => hh t (.inr ht)) n c
    simp only [sliceVal, this]
  case sliceArr n s x l k m =>
    rw [ev_congr fun t ht => hh t (.inl (.inl (.inl ht)))]
    have := fun n c => bounds_congr (fr := fr) (fr' := fr') (lo := l) (hi := k) (mx := m) (fun t ht => hh t (.inl (.inl (.inr ht)))) (fun t ht => hh t (.inl (.inr ht))) (fun t ht => hh t (.inr ht)) n c
    simp only [this]
  all_goals first
    | rfl
    | rw [ev_congr hh]
    | rw [ev_congr fun t ht => hh t (.inl ht), ev_congr fun t ht => hh t (.inr ht)]
    | rw [ev_congr fun t ht => hh t (.inl (.inl ht)), ev_congr fun t ht => hh t (.inl (.inr ht)), ev_congr fun t ht => hh t (.inr ht)]

/- THE RUN IN THE ORDER OF THE TEXT. -/
def StepAt (meth : TypeId → Val → String → Option (FuncId × Val)) (call : CallT) (rs : List (Nat × Nat)) (vo : VOper) (fr : List Val) (h : Heap) (fr1 : List Val) (h1 : Heap) : Prop :=
  (wanted fr vo.guard = some false ∧ fr1 = setDst fr vo.dst .undef ∧ h1 = h) ∨
  (wanted fr vo.guard = some true ∧ ∃ v, fr1 = setDst fr vo.dst v ∧
    (((vo.op.kind ≤ 1 ∨ vo.full = true) ∧ step meth call fr h vo.op = some (v, h1)) ∨
     (vo.op.kind = 2 ∧ vo.full = false ∧ ∃ h2, step meth call fr { h with hid := hiddenOf rs vo.hide ++ h.hid, floor := h.next } vo.op = some (v, h2) ∧ h1 = { h2 with hid := h.hid, floor := h.floor })))

def vo_full (o : VOper) : Bool := o.full

def rangesTo (H : Nat → Heap) (i : Nat) : List (Nat × Nat) := (List.range i).map fun j => ((H j).next, (H (j + 1)).next)

theorem draw_trace {meth : TypeId → Val → String → Option (FuncId × Val)} {call : CallT} : ∀ (l : List VOper) (rs : List (Nat × Nat)) (fr fr' : List Val) (h h' : Heap), runDraw meth call l rs fr h = some (fr', h') →
    ∃ (F : Nat → List Val) (H : Nat → Heap), F 0 = fr ∧ H 0 = h ∧ F l.length = fr' ∧ H l.length = h' ∧ ∀ i vo, l[i]? = some vo → StepAt meth call (rs ++ rangesTo H i) vo (F i) (H i) (F (i + 1)) (H (i + 1))
  | [], rs, fr, fr', h, h', e => by
    simp only [runDraw, Option.some.injEq, Prod.mk.injEq] at e
    exact ⟨fun _ => fr, fun _ => h, rfl, rfl, e.1, e.2, fun i vo hi => by simp at hi⟩
  | o :: r, rs, fr, fr', h, h', e => by
    have glue : ∀ (fr1 : List Val) (h1 : Heap), StepAt meth call rs o fr h fr1 h1 → runDraw meth call r (rs ++ [(h.next, h1.next)]) fr1 h1 = some (fr', h') →
        ∃ (F : Nat → List Val) (H : Nat → Heap), F 0 = fr ∧ H 0 = h ∧ F (o :: r).length = fr' ∧ H (o :: r).length = h' ∧ ∀ i vo, (o :: r)[i]? = some vo → StepAt meth call (rs ++ rangesTo H i) vo (F i) (H i) (F (i + 1)) (H (i + 1)) := by
      intro fr1 h1 hst hrun
      obtain ⟨F, H, f0, g0, fn, gn, hs⟩ := draw_trace r _ _ _ _ _ hrun
      refine ⟨fun i => match i with | 0 => fr | i + 1 => F i, fun i => match i with | 0 => h | i + 1 => H i, rfl, rfl, fn, gn, ?_⟩
      intro i vo hi
      cases i with
      | zero =>
        simp at hi; subst hi
        simp only [rangesTo, List.range_zero, List.map_nil, List.append_nil, f0, g0]
        exact hst
      | succ i =>
        have := hs i vo (by simpa using hi)
        have e : rs ++ [(h.next, h1.next)] ++ rangesTo H i = rs ++ rangesTo (fun i => match i with | 0 => h | i + 1 => H i) (i + 1) := by
          simp only [rangesTo, List.range_succ_eq_map, List.map_cons, List.map_map, List.append_assoc, List.singleton_append, g0]
          congr 2
        rw [e] at this
        exact this
    simp only [runDraw] at e
    split at e
    · cases e
    · rename_i hw
      exact glue _ _ (.inl ⟨hw, rfl, rfl⟩) e
    · rename_i hw
      split at e
      · rename_i hk
        split at e
        · rename_i v h1 hst
          exact glue _ _ (.inr ⟨hw, v, rfl, .inl ⟨hk, hst⟩⟩) e
        · cases e
      · rename_i hnf
        split at e
        · rename_i hk
          split at e
          · rename_i v h2 hst
            exact glue _ _ (.inr ⟨hw, v, rfl, .inr ⟨hk, by cases hf : vo_full o <;> simp_all [vo_full], h2, hst, rfl⟩⟩) e
          · cases e
        · cases e

end Go.V
end

section
set_option linter.unusedVariables false
set_option linter.unusedSimpArgs false
set_option linter.unusedSectionVars false
namespace Go.V

def Ren.cut (ρ : Ren) (k : Nat) : Ren := fun b => if b < k then ρ b else none

theorem Ren.cut_le (ρ : Ren) (k : Nat) : (ρ.cut k).le ρ := by
  intro b l h
  unfold Ren.cut at h
  split at h
  · exact h
  · cases h

theorem Ren.cut_mono {ρ ρ' : Ren} {k k' : Nat} (h : ρ.le ρ') (hk : k ≤ k') : (ρ.cut k).le (ρ'.cut k') := by
  intro b l e
  unfold Ren.cut at e ⊢
  split at e
  · rw [if_pos (by omega)]; exact h _ _ e
  · cases e

def Modif (vo : VOper) : Prop := 2 ≤ vo.op.kind ∧ vo.full = true

def Bef (ops : Array Oper) (i j : Nat) : Prop := ((Region.before ops).getD i 0).testBit j = true

structure Ctx (P : Program) (meth : TypeId → Val → String → Option (FuncId × Val)) (call : CallT) (ops : Array Oper) (vl : List VOper) (F : Nat → List Val) (H : Nat → Heap) : Prop where
  ms : MethSound P meth
  cs : CallSound P call
  ce : CallExt call
  len : vl.length = ops.size
  get : ∀ i, i < ops.size → ∃ o vo, ops[i]? = some o ∧ vl[i]? = some vo ∧ cOp P o = some vo.op ∧ vo.dst = o.dst ∧ cGuard ops o.guard = some vo.guard ∧ notSelect o.op = true
  full : ∀ i vo, vl[i]? = some vo → vo.full = true → ∀ j wo, vl[j]? = some wo → wo.op.kind ≠ 0 → j = i ∨ (j < i ∧ Bef ops i j) ∨ (i < j ∧ Bef ops j i)
  hide : ∀ i vo, vl[i]? = some vo → ∀ j wo, vl[j]? = some wo → wo.op.kind ≠ 0 → j < i → ¬ Bef ops i j → j ∈ vo.hide
  names : ∀ i o vo, ops[i]? = some o → vl[i]? = some vo → ∀ t ∈ namesOf o vo, ∀ j wo, vl[j]? = some wo → wo.dst = some t → j = i ∨ Bef ops (max j i) (min j i)
  edges : ∀ i o, ops[i]? = some o → ∀ e ∈ o.after, Region.binds .any e = true → e.on < i
  trace : ∀ i vo, vl[i]? = some vo → StepAt meth call (rangesTo H i) vo (F i) (H i) (F (i + 1)) (H (i + 1))
  low0 : ∀ b, (H 0).next ≤ b → (H 0).t.get b = none

section
variable {P : Program} {meth : TypeId → Val → String → Option (FuncId × Val)} {call : CallT} {ops : Array Oper} {vl : List VOper} {F : Nat → List Val} {H : Nat → Heap}

theorem StepAt.ext (hce : CallExt call) {rs : List (Nat × Nat)} {vo : VOper} {fr fr1 : List Val} {h h1 : Heap} (s : StepAt meth call rs vo fr h fr1 h1) : HExt h h1 := by
  rcases s with ⟨_, _, rfl⟩ | ⟨_, v, _, ⟨_, hs⟩ | ⟨_, _, h2, hs, rfl⟩⟩
  · exact .refl _
  · exact step_ext hce hs
  · exact (step_ext hce hs).free

theorem StepAt.length {rs : List (Nat × Nat)} {vo : VOper} {fr fr1 : List Val} {h h1 : Heap} (s : StepAt meth call rs vo fr h fr1 h1) : fr1.length = fr.length := by
  have : ∀ v, (setDst fr vo.dst v).length = fr.length := by intro v; cases vo.dst <;> simp [setDst]
  rcases s with ⟨_, rfl, _⟩ | ⟨_, v, rfl, _⟩ <;> exact this _

theorem StepAt.other {rs : List (Nat × Nat)} {vo : VOper} {fr fr1 : List Val} {h h1 : Heap} (s : StepAt meth call rs vo fr h fr1 h1) {t : Nat} (ht : vo.dst ≠ some t) : fr1.getD t .undef = fr.getD t .undef := by
  have : ∀ v, (setDst fr vo.dst v).getD t .undef = fr.getD t .undef := by
    intro v
    cases hd : vo.dst with
    | none => rfl
    | some d =>
      have : d ≠ t := fun e => ht (by rw [hd, e])
      simp [setDst, List.getD_eq_getElem?_getD, this]
  rcases s with ⟨_, rfl, _⟩ | ⟨_, v, rfl, _⟩ <;> exact this _

/-- What is not a step that may write leaves the old blocks. -/
theorem StepAt.keeps (hce : CallExt call) {rs : List (Nat × Nat)} {vo : VOper} {fr fr1 : List Val} {h h1 : Heap} (s : StepAt meth call rs vo fr h fr1 h1) (hm : ¬ Modif vo) {b : Nat} (hb : b < h.next) : h1.t.get b = h.t.get b := by
  rcases s with ⟨_, _, rfl⟩ | ⟨_, v, _, ⟨hk, hs⟩ | ⟨_, _, h2, hs, rfl⟩⟩
  · rfl
  · have hk1 : vo.op.kind ≤ 1 := by
      rcases hk with hk | hk
      · exact hk
      · rcases Nat.lt_or_ge 1 vo.op.kind with h | h
        · exact absurd ⟨h, hk⟩ hm
        · exact h
    have := step_ext hce (step_blind hk1 hs h.hid h.next)
    exact this.keep b hb hb
  · exact (step_ext hce hs).keep b hb hb

/-- What does not touch the heap makes no block. -/
theorem StepAt.idle {rs : List (Nat × Nat)} {vo : VOper} {fr fr1 : List Val} {h h1 : Heap} (s : StepAt meth call rs vo fr h fr1 h1) (hk : vo.op.kind = 0) : h1 = h := by
  rcases s with ⟨_, _, rfl⟩ | ⟨_, v, _, ⟨_, hs⟩ | ⟨hk2, _⟩⟩
  · rfl
  · generalize vo.op = x at hk hs
    cases x <;> simp only [VOp.kind] at hk <;> (try omega) <;> simp only [step, pureV] at hs <;> (repeat' split at hs) <;> (try (cases hs; done)) <;> cases hs <;> rfl
  · omega

variable (C : Ctx P meth call ops vl F H)
include C

theorem Ctx.vo {i : Nat} (h : i < ops.size) : ∃ vo, vl[i]? = some vo := by
  obtain ⟨_, vo, _, h2, _⟩ := C.get i h
  exact ⟨vo, h2⟩

theorem Ctx.ext {i j : Nat} (hij : i ≤ j) (hj : j ≤ ops.size) : HExt (H i) (H j) := by
  induction j with
  | zero => have : i = 0 := by omega
            subst this; exact .refl _
  | succ j ih =>
    by_cases h : i = j + 1
    · subst h; exact .refl _
    · obtain ⟨vo, hvo⟩ := C.vo (i := j) (by omega)
      exact (ih (by omega) (by omega)).trans ((C.trace j vo hvo).ext C.ce)

theorem Ctx.flen {j : Nat} (hj : j ≤ ops.size) : (F j).length = (F 0).length := by
  induction j with
  | zero => rfl
  | succ j ih =>
    obtain ⟨vo, hvo⟩ := C.vo (i := j) (by omega)
    rw [(C.trace j vo hvo).length, ih (by omega)]

theorem Ctx.fstable {m i t : Nat} (hmi : m ≤ i) (hi : i ≤ ops.size) (hn : ∀ j wo, m ≤ j → j < i → vl[j]? = some wo → wo.dst ≠ some t) : (F i).getD t .undef = (F m).getD t .undef := by
  induction i with
  | zero => have : m = 0 := by omega
            subst this; rfl
  | succ i ih =>
    by_cases h : m = i + 1
    · subst h; rfl
    · obtain ⟨vo, hvo⟩ := C.vo (i := i) (by omega)
      rw [(C.trace i vo hvo).other (hn i vo (by omega) (by omega) hvo)]
      exact ih (by omega) (by omega) fun j wo h1 h2 => hn j wo h1 (by omega)

theorem Ctx.hstable {m i b : Nat} (hmi : m ≤ i) (hi : i ≤ ops.size) (hb : b < (H m).next) (hn : ∀ j wo, m ≤ j → j < i → vl[j]? = some wo → ¬ Modif wo) : (H i).t.get b = (H m).t.get b := by
  induction i with
  | zero => have : m = 0 := by omega
            subst this; rfl
  | succ i ih =>
    by_cases h : m = i + 1
    · subst h; rfl
    · obtain ⟨vo, hvo⟩ := C.vo (i := i) (by omega)
      have hlt : b < (H i).next := Nat.lt_of_lt_of_le hb (C.ext (show m ≤ i by omega) (by omega)).next
      rw [(C.trace i vo hvo).keeps C.ce (hn i vo (by omega) (by omega) hvo) hlt]
      exact ih (by omega) (by omega) fun j wo h1 h2 => hn j wo h1 (by omega)

/-- Where a block was made. -/
theorem Ctx.maker {i b : Nat} (hi : i ≤ ops.size) (h0 : (H 0).next ≤ b) (hb : b < (H i).next) : ∃ j wo, j < i ∧ vl[j]? = some wo ∧ wo.op.kind ≠ 0 ∧ (H j).next ≤ b ∧ b < (H (j + 1)).next := by
  induction i with
  | zero => omega
  | succ i ih =>
    by_cases h : b < (H i).next
    · obtain ⟨j, wo, h1, h2⟩ := ih (by omega) h
      exact ⟨j, wo, by omega, h2⟩
    · obtain ⟨vo, hvo⟩ := C.vo (i := i) (by omega)
      refine ⟨i, vo, by omega, hvo, ?_, by omega, hb⟩
      intro hk
      have := (C.trace i vo hvo).idle hk
      rw [this] at hb; omega

theorem Ctx.ranges {i j b : Nat} (hi : i < ops.size) (hj : j < ops.size) (h1 : (H i).next ≤ b) (h2 : b < (H (i + 1)).next) (h3 : (H j).next ≤ b) (h4 : b < (H (j + 1)).next) : i = j := by
  rcases Nat.lt_trichotomy i j with h | h | h
  · have := (C.ext (show i + 1 ≤ j by omega) (by omega)).next; omega
  · exact h
  · have := (C.ext (show j + 1 ≤ i by omega) (by omega)).next; omega

theorem Ctx.lowi {i : Nat} (hi : i ≤ ops.size) : ∀ b, (H i).next ≤ b → (H i).t.get b = none := (C.ext (Nat.zero_le i) hi).low C.low0

end

/-- Blocks that are there when some operations have run. -/
def Pres (H : Nat → Heap) (In : Nat → Prop) (b : Nat) : Prop := b < (H 0).next ∨ ∃ j, In j ∧ (H j).next ≤ b ∧ b < (H (j + 1)).next

/-- What holds whenever some of the operations have run. -/
structure Inv (ops : Array Oper) (vl : List VOper) (F : Nat → List Val) (H : Nat → Heap) (ρ0 : Ren) (w0 : World) (a0 : Act) (In : Nat → Prop) (a : Act) (w : World) (ρ : Ren) (T M : Nat → Nat) : Prop where
  clo : ∀ k, In k → ∀ j, Bef ops k j → In j
  lt : ∀ k, In k → k < ops.size
  pres : ∀ b l, ρ b = some l → Pres H In b
  ext : ρ0.le ρ
  old : ∀ b l, b < (H 0).next → ρ b = some l → ρ0 b = some l
  tsz : a.tmps.size = (F 0).length
  dfr : a.defers = a0.defers
  tmp : ∀ t, t < (F 0).length → T t ≤ ops.size ∧ (T t = 0 ∨ ∃ k wo, T t = k + 1 ∧ In k ∧ vl[k]? = some wo ∧ wo.dst = some t) ∧ (∀ j wo, T t ≤ j → In j → vl[j]? = some wo → wo.dst ≠ some t) ∧
    VRel (ρ.cut (H (T t)).next) ((F (T t)).getD t .undef) (a.tmps.getD t Go.undef)
  blk : ∀ b, Pres H In b → M b ≤ ops.size ∧ b < (H (M b)).next ∧ (M b = 0 ∨ ∃ k wo, M b = k + 1 ∧ In k ∧ vl[k]? = some wo ∧ (Modif wo ∨ ((H k).next ≤ b ∧ b < (H (k + 1)).next))) ∧
    (∀ j wo, M b ≤ j → In j → vl[j]? = some wo → ¬ Modif wo) ∧ ∀ x, (H (M b)).get b = some x → ∃ l, ρ b = some l ∧ BRel (ρ.cut (H (M b)).next) w l x
  inj : ∀ b b' x x' l l', Pres H In b → Pres H In b' → (H (M b)).get b = some x → (H (M b')).get b' = some x' → ρ b = some l → ρ b' = some l' → l.c = l'.c → b = b' ∨ (b < (H 0).base ∧ b' < (H 0).base)
  tight : ∀ b l, (H 0).base ≤ b → ρ b = some l → l.t = true
  os : w.os = w0.os
  tape : w.tape = w0.tape
  output : w.output = w0.output
  size : w0.heap.size ≤ w.heap.size
  frame : ∀ c, c < w0.heap.size → (∀ b x l, (H 0).get b = some x → (H 0).floor ≤ b → ρ0 b = some l → l.c ≠ c) → w.heap[c]? = w0.heap[c]?
  fresh : ∀ b l, ρ b = some l → ρ0 b = none → w0.heap.size ≤ l.c ∨ ∃ b0 x0 l0, (H 0).get b0 = some x0 ∧ (H 0).floor ≤ b0 ∧ ρ0 b0 = some l0 ∧ l0.c = l.c

/-- How an operation is run: in which heap, and what that leaves. -/
structure How (H : Nat → Heap) (In : Nat → Prop) (i : Nat) (vo : VOper) (hi hi' : Heap) : Prop where
  t : hi.t = (H i).t
  next : hi.next = (H i).next
  t' : hi'.t = (H (i + 1)).t
  next' : hi'.next = (H (i + 1)).next
  kind : (hi = H i ∧ hi' = H (i + 1) ∧ Modif vo) ∨ (¬ Modif vo ∧ hi.floor = (H i).next)
  hid : ∀ b, hi.hidden b = false → (H i).hidden b = false
  hid' : ∀ b, (H i).next ≤ b → (H i).hidden b = false → hi'.hidden b = false
  vis : ∀ b x, hi.get b = some x → vo.op.kind ≠ 0 ∧ Pres H In b
  base : hi.base = (H i).base

section
variable {P : Program} {meth : TypeId → Val → String → Option (FuncId × Val)} {call : CallT} {ops : Array Oper} {vl : List VOper} {F : Nat → List Val} {H : Nat → Heap}
  (C : Ctx P meth call ops vl F H) {ρ0 : Ren} {w0 : World} {a0 : Act} {In : Nat → Prop} {a : Act} {w : World} {ρ : Ren} {T M : Nat → Nat} (I : Inv ops vl F H ρ0 w0 a0 In a w ρ T M)
  {i : Nat} (hin : ¬ In i) (hi0 : i < ops.size) (hbef : ∀ j, Bef ops i j → In j) {vo : VOper} (hvo : vl[i]? = some vo)
include C I hin hi0 hbef hvo

/-- A step that may write, and one that touches the heap, run in a known order. -/
theorem modif_before (hk : vo.op.kind ≠ 0) {k : Nat} {wo : VOper} (hwo : vl[k]? = some wo) (hm : Modif wo) : (In k → k < i) ∧ (k < i → In k) := by
  rcases C.full k wo hwo hm.2 i vo hvo hk with h | ⟨h1, h2⟩ | ⟨h1, h2⟩
  · subst h
    exact ⟨fun h => absurd h hin, fun h => absurd h (Nat.lt_irrefl _)⟩
  · exact ⟨fun h => absurd (I.clo k h i h2) hin, fun h => by omega⟩
  · exact ⟨fun _ => h1, fun _ => hbef k h2⟩

/-- What an operation sees is as the text's order has it. -/
theorem seen {hi hi' : Heap} (W : How H In i vo hi hi') {b : Nat} {x : Blk} (hg : hi.get b = some x) : M b ≤ i ∧ (H (M b)).get b = some x ∧ b < (H i).next := by
  obtain ⟨hk, hp⟩ := W.vis b x hg
  obtain ⟨m1, m2, m3, m4, m5⟩ := I.blk b hp
  have ht : (H i).t.get b = some x := by rw [← W.t]; exact Heap.get_t hg
  have hb : b < (H i).next := by
    rcases Nat.lt_or_ge b (H i).next with h | h
    · exact h
    · rw [C.lowi (by omega) b h] at ht; cases ht
  have hMi : M b ≤ i := by
    rcases m3 with m3 | ⟨k, wo, e, hIk, hwo, hmod | ⟨r1, r2⟩⟩
    · omega
    · have := (modif_before C I hin hi0 hbef hvo hk hwo hmod).1 hIk; omega
    · have hkn := I.lt k hIk
      rcases Nat.lt_trichotomy k i with h | h | h
      · omega
      · subst h; exact absurd hIk hin
      · have := (C.ext (show i ≤ k by omega) (by omega)).next; omega
  refine ⟨hMi, ?_, hb⟩
  have hst := C.hstable hMi (by omega) m2 fun j wo h1 h2 hwo hmod => m4 j wo h1 ((modif_before C I hin hi0 hbef hvo hk hwo hmod).2 h2) hwo hmod
  have hh : (H (M b)).hidden b = false := by
    have e1 := (C.ext (Nat.zero_le (M b)) m1).hid
    have e2 := (C.ext (Nat.zero_le i) (show i ≤ ops.size by omega)).hid
    have := W.hid b (Heap.get_nh hg)
    unfold Heap.hidden at this ⊢
    rw [e1, ← e2]; exact this
  unfold Heap.get
  rw [hh, ← hst, ht]; rfl

theorem base_eq {hi hi' : Heap} (W : How H In i vo hi hi') : hi.base = (H 0).base := W.base.trans (C.ext (Nat.zero_le i) (by omega)).base

theorem inv_hrel (hr0 : HRel ρ0 (H 0) w0) {hi hi' : Heap} (W : How H In i vo hi hi') : HRel (ρ.cut (H i).next) hi w := by
  have hbe := base_eq C I hin hi0 hbef hvo W
  have hx0 := C.ext (Nat.zero_le i) (show i ≤ ops.size by omega)
  refine ⟨?_, ?_, ?_, ?_, ?_, fun b l hb e => I.tight b l (by rw [← hbe]; exact hb) (Ren.cut_le _ _ _ _ e)⟩
  · intro b x hg
    obtain ⟨s1, s2, s3⟩ := seen C I hin hi0 hbef hvo W hg
    obtain ⟨l, h1, h2⟩ := (I.blk b (W.vis b x hg).2).2.2.2.2 x s2
    exact ⟨l, by simp [Ren.cut, s3, h1], h2.mono (Ren.cut_mono (Ren.le_refl _) (C.ext s1 (by omega)).next) rfl⟩
  · intro b b' x x' l l' hg hg' r r' hc
    obtain ⟨s1, s2, s3⟩ := seen C I hin hi0 hbef hvo W hg
    obtain ⟨s1', s2', s3'⟩ := seen C I hin hi0 hbef hvo W hg'
    rw [hbe]
    exact I.inj b b' x x' l l' (W.vis b x hg).2 (W.vis b' x' hg').2 s2 s2' (Ren.cut_le _ _ _ _ r) (Ren.cut_le _ _ _ _ r') hc
  · intro b hb
    rw [W.next] at hb
    unfold Ren.cut; rw [if_neg (by omega)]
  · intro b x hg
    rw [W.t] at hg
    rw [W.next]
    rcases Nat.lt_or_ge b (H i).next with h | h
    · exact h
    · rw [C.lowi (by omega) b h] at hg; cases hg
  · rw [hbe, W.next]
    have h1 := hr0.bs
    have h2 := hx0.next
    refine ⟨?_, by omega⟩
    rcases W.kind with ⟨e, _, _⟩ | ⟨_, e⟩
    · rw [e, hx0.floor]; exact h1.1
    · rw [e]; omega

/-- What an operation names is as the text's order has it. -/
theorem named {o : Oper} (ho : ops[i]? = some o) {t : Nat} (ht : t ∈ namesOf o vo) (htl : t < (F 0).length) : VRel (ρ.cut (H i).next) ((F i).getD t .undef) (a.tmps.getD t Go.undef) := by
  obtain ⟨t1, t2, t3, t4⟩ := I.tmp t htl
  have hT : T t ≤ i := by
    rcases t2 with t2 | ⟨k, wo, e, hIk, hwo, hd⟩
    · omega
    · rcases C.names i o vo ho hvo t ht k wo hwo hd with h | h
      · subst h; exact absurd hIk hin
      · rcases Nat.lt_trichotomy k i with h' | h' | h'
        · omega
        · subst h'; exact absurd hIk hin
        · rw [Nat.max_eq_left (by omega), Nat.min_eq_right (by omega)] at h
          exact absurd (I.clo k hIk i h) hin
  have hst := C.fstable hT (show i ≤ ops.size by omega) (t := t) fun j wo h1 h2 hwo hd => by
    rcases C.names i o vo ho hvo t ht j wo hwo hd with h | h
    · omega
    · rw [Nat.max_eq_right (by omega), Nat.min_eq_left (by omega)] at h
      exact t3 j wo h1 (hbef j h) hwo hd
  rw [hst]
  exact VRel.mono (Ren.cut_mono (Ren.le_refl _) (C.ext hT (by omega)).next) _ _ t4

/-- What may have been written is what could be written at the start. -/
theorem written (hr0 : HRel ρ0 (H 0) w0) {hi hi' : Heap} (W : How H In i vo hi hi') {b : Nat} {x : Blk} {l : Loc} (hg : hi.get b = some x) (hf : hi.floor ≤ b) (hl : (ρ.cut (H i).next) b = some l) :
    w0.heap.size ≤ l.c ∨ ∃ b0 x0 l0, (H 0).get b0 = some x0 ∧ (H 0).floor ≤ b0 ∧ ρ0 b0 = some l0 ∧ l0.c = l.c := by
  have hlt : b < (H i).next := by
    unfold Ren.cut at hl
    split at hl
    · assumption
    · cases hl
  have hl' := Ren.cut_le _ _ _ _ hl
  rcases W.kind with ⟨e, _, hm⟩ | ⟨_, e⟩
  · subst e
    have hx := C.ext (Nat.zero_le i) (show i ≤ ops.size by omega)
    cases h0 : ρ0 b with
    | none => exact I.fresh b l hl' h0
    | some l0 =>
      have := I.ext _ _ h0
      rw [hl'] at this; cases this
      have hb0 : b < (H 0).next := by
        rcases Nat.lt_or_ge b (H 0).next with h | h
        · exact h
        · rw [hr0.top b h] at h0; cases h0
      have hh : (H 0).hidden b = false := by
        have := Heap.get_nh hg
        unfold Heap.hidden at this ⊢
        rw [← hx.hid]; exact this
      cases ht : (H 0).t.get b with
      | none =>
        have := hx.live b hb0 ht
        rw [Heap.get_t hg] at this; cases this
      | some x0 =>
        exact .inr ⟨b, x0, l, by unfold Heap.get; rw [hh, ht]; rfl, by rw [← hx.floor]; exact hf, h0, rfl⟩
  · omega

theorem inv_step (hr0 : HRel ρ0 (H 0) w0) {o : Oper} (ho : ops[i]? = some o) (hdst : vo.dst = o.dst) {hi hi' : Heap} (W : How H In i vo hi hi') {ρ' : Ren} {w' : World} (p : Post (ρ.cut (H i).next) hi w ρ' hi' w') {v : Val} {cv : Value} (hv : VRel ρ' v cv) (hF : F (i + 1) = setDst (F i) vo.dst v) :
    ∃ ρn T' M', Inv ops vl F H ρ0 w0 a0 (fun k => k = i ∨ In k) (a.put vo.dst cv) w' ρn T' M' := by
  have hnx : (H i).next ≤ (H (i + 1)).next := (C.ext (Nat.le_succ i) (by omega)).next
  have h0x : (H 0).next ≤ (H i).next := (C.ext (Nat.zero_le i) (by omega)).next
  let R : Nat → Prop := fun b => (H i).next ≤ b ∧ b < (H (i + 1)).next
  have hdec : ∀ b, Decidable (R b) := fun b => inferInstanceAs (Decidable (_ ∧ _))
  let ρn : Ren := fun b => if (H i).next ≤ b ∧ b < (H (i + 1)).next then ρ' b else ρ b
  have rn_in : ∀ b, R b → ρn b = ρ' b := fun b h => if_pos h
  have rn_out : ∀ b, ¬ R b → ρn b = ρ b := fun b h => if_neg h
  have pres_out : ∀ b, Pres H In b → ¬ R b := by
    rintro b (h | ⟨j, hj, h1, h2⟩) ⟨r1, r2⟩
    · omega
    · have := C.ranges hi0 (I.lt j hj) r1 r2 h1 h2
      subst this; exact hin hj
  have f1 : ρ.le ρn := by
    intro b l e
    rw [rn_out b (pres_out b (I.pres b l e))]; exact e
  have born : ∀ b l, ρ' b = some l → (ρ.cut (H i).next) b = none → R b := by
    intro b l e hn
    refine ⟨by rw [← W.next]; exact p.born b l e hn, ?_⟩
    rcases Nat.lt_or_ge b (H (i + 1)).next with h | h
    · exact h
    · rw [p.hrel.top b (by rw [W.next']; exact h)] at e; cases e
  have f2 : ρ'.le ρn := by
    intro b l e
    cases hc : (ρ.cut (H i).next) b with
    | none => rw [rn_in b (born b l e hc)]; exact e
    | some l2 =>
      have := p.ext _ _ hc
      rw [e] at this; cases this
      exact f1 _ _ (Ren.cut_le _ _ _ _ hc)
  have top' : ∀ b l, ρ' b = some l → b < (H (i + 1)).next := by
    intro b l e
    rcases Nat.lt_or_ge b (H (i + 1)).next with h | h
    · exact h
    · rw [p.hrel.top b (by rw [W.next']; exact h)] at e; cases e
  have f2' : ρ'.le (ρn.cut (H (i + 1)).next) := by
    intro b l e
    unfold Ren.cut
    rw [if_pos (top' b l e)]; exact f2 _ _ e
  have pres' : ∀ b, Pres H (fun k => k = i ∨ In k) b → R b ∨ Pres H In b := by
    rintro b (h | ⟨j, rfl | hj, h1, h2⟩)
    · exact .inr (.inl h)
    · exact .inl ⟨h1, h2⟩
    · exact .inr (.inr ⟨j, hj, h1, h2⟩)
  have presR : ∀ b, R b → Pres H (fun k => k = i ∨ In k) b := fun b h => .inr ⟨i, .inl rfl, h.1, h.2⟩
  have presI : ∀ b, Pres H In b → Pres H (fun k => k = i ∨ In k) b := by
    rintro b (h | ⟨j, hj, h⟩)
    · exact .inl h
    · exact .inr ⟨j, .inr hj, h⟩
  have kindR : ∀ b, R b → vo.op.kind ≠ 0 := by
    rintro b ⟨r1, r2⟩ hk
    have := (C.trace i vo hvo).idle hk
    rw [this] at r2; omega
  have ho' : ∃ o, ops[i]? = some o := ⟨o, ho⟩
  -- where nothing may be written
  have still : ¬ Modif vo → ∀ c, c < w.heap.size → w'.heap[c]? = w.heap[c]? := by
    intro hnm c hc
    refine p.frame c hc fun b x l _ hf hl _ => ?_
    rcases W.kind with ⟨_, _, hm⟩ | ⟨_, e⟩
    · exact hnm hm
    · unfold Ren.cut at hl
      split at hl
      · omega
      · cases hl
  have newloc : ¬ Modif vo → ∀ b l, R b → ρ' b = some l → w.heap.size ≤ l.c := by
    intro hnm b l hR e
    have hc : (ρ.cut (H i).next) b = none := by unfold Ren.cut; rw [if_neg (by have := hR.1; omega)]
    rcases p.fresh b l e hc with h | ⟨b0, x0, l0, _, hf, hl, _⟩
    · exact h
    · rcases W.kind with ⟨_, _, hm⟩ | ⟨_, e⟩
      · exact absurd hm hnm
      · unfold Ren.cut at hl
        split at hl
        · omega
        · cases hl
  have hidS : (H (i + 1)).hid = (H i).hid := (C.ext (Nat.le_succ i) (by omega)).hid
  have getR : ∀ b x, R b → (H (i + 1)).get b = some x → hi'.get b = some x := by
    intro b x hR hg
    have hh : (H i).hidden b = false := by
      have := Heap.get_nh hg
      unfold Heap.hidden at this ⊢
      rw [← hidS]; exact this
    unfold Heap.get
    rw [W.hid' b hR.1 hh, W.t', Heap.get_t hg]; rfl
  refine ⟨ρn, fun t => if vo.dst = some t then i + 1 else T t, fun b => open Classical in if Modif vo ∨ R b then i + 1 else M b, ?_⟩
  constructor
  case clo =>
    rintro k (rfl | hk) j hj
    · exact .inr (hbef j hj)
    · exact .inr (I.clo k hk j hj)
  case lt =>
    rintro k (rfl | hk)
    · exact hi0
    · exact I.lt k hk
  case pres =>
    intro b l e
    by_cases hR : R b
    · exact presR b hR
    · rw [rn_out b hR] at e
      exact presI b (I.pres b l e)
  case ext => exact I.ext.trans f1
  case tight =>
    intro b l hb e
    by_cases hR : R b
    · rw [rn_in b hR] at e
      exact p.hrel.tight b l (by rw [p.base, base_eq C I hin hi0 hbef hvo W]; exact hb) e
    · rw [rn_out b hR] at e
      exact I.tight b l hb e
  case old =>
    intro b l hb e
    rw [rn_out b (fun hR => by have := hR.1; omega)] at e
    exact I.old b l hb e
  case tsz =>
    have : (a.put vo.dst cv).tmps.size = a.tmps.size := by cases vo.dst <;> simp [Act.put]
    rw [this]; exact I.tsz
  case dfr =>
    have : (a.put vo.dst cv).defers = a.defers := by cases vo.dst <;> rfl
    rw [this]; exact I.dfr
  case tmp =>
    intro t ht
    by_cases hd : vo.dst = some t
    · simp only [hd, if_true]
      refine ⟨by omega, .inr ⟨i, vo, rfl, .inl rfl, hvo, hd⟩, ?_, ?_⟩
      · rintro j wo hj (rfl | hIj) hwo hwd
        · omega
        · rcases C.names i o vo ho hvo t (by simp [namesOf, hd]) j wo hwo hwd with h | h
          · subst h; exact hin hIj
          · rw [Nat.max_eq_left (by omega), Nat.min_eq_right (by omega)] at h
            exact hin (I.clo j hIj i h)
      · have e1 : (F (i + 1)).getD t .undef = v := by
          rw [hF, hd]
          have : t < (F i).length := by rw [C.flen (by omega)]; exact ht
          simp [setDst, List.getD_eq_getElem?_getD, this]
        have e2 : (a.put (some t) cv).tmps.getD t Go.undef = cv := by
          have : t < a.tmps.size := by rw [I.tsz]; exact ht
          simp [Act.put, this]
        rw [e1, e2]
        exact VRel.mono f2' _ _ hv
    · simp only [hd, if_false]
      obtain ⟨t1, t2, t3, t4⟩ := I.tmp t ht
      refine ⟨t1, ?_, ?_, ?_⟩
      · rcases t2 with t2 | ⟨k, wo, h1, h2, h3⟩
        · exact .inl t2
        · exact .inr ⟨k, wo, h1, .inr h2, h3⟩
      · rintro j wo hj (rfl | hIj) hwo
        · rw [hvo] at hwo; cases hwo; exact hd
        · exact t3 j wo hj hIj hwo
      · have e2 : (a.put vo.dst cv).tmps.getD t Go.undef = a.tmps.getD t Go.undef := by
          cases hq : vo.dst with
          | none => rfl
          | some d =>
            have : d ≠ t := fun e => hd (by rw [hq, e])
            simp [Act.put, Array.getElem?_setIfInBounds_ne this]
        rw [e2]
        exact VRel.mono (Ren.cut_mono f1 (Nat.le_refl _)) _ _ t4
  case blk =>
    intro b hp
    by_cases hm : Modif vo
    · have hk : vo.op.kind ≠ 0 := by have := hm.1; omega
      rw [if_pos (Or.inl hm)]
      have hlt : b < (H (i + 1)).next := by
        rcases pres' b hp with hR | (h | ⟨j, hj, h1, h2⟩)
        · exact hR.2
        · omega
        · obtain ⟨wo, hwo⟩ := C.vo (I.lt j hj)
          have hkj : wo.op.kind ≠ 0 := by
            intro hk0
            have := (C.trace j wo hwo).idle hk0
            rw [this] at h2; omega
          rcases C.full i vo hvo hm.2 j wo hwo hkj with h | ⟨h, _⟩ | ⟨h, hb⟩
          · subst h; exact absurd hj hin
          · have := (C.ext (show j + 1 ≤ i + 1 by omega) (by omega)).next; omega
          · exact absurd (I.clo j hj i hb) hin
      refine ⟨by omega, hlt, .inr ⟨i, vo, rfl, .inl rfl, hvo, .inl hm⟩, ?_, ?_⟩
      · rintro j wo hj (rfl | hIj) hwo hmj
        · omega
        · have := (modif_before C I hin hi0 hbef hvo hk hwo hmj).1 hIj; omega
      · intro x hx
        rcases W.kind with ⟨_, e, _⟩ | ⟨hnm, _⟩
        · obtain ⟨l, h1, h2⟩ := p.hrel.blk b x (by rw [e]; exact hx)
          exact ⟨l, f2 _ _ h1, h2.mono f2' rfl⟩
        · exact absurd hm hnm
    · by_cases hR : R b
      · rw [if_pos (Or.inr hR)]
        refine ⟨by omega, hR.2, .inr ⟨i, vo, rfl, .inl rfl, hvo, .inr hR⟩, ?_, ?_⟩
        · rintro j wo hj (rfl | hIj) hwo hmj
          · omega
          · have := (modif_before C I hin hi0 hbef hvo (kindR b hR) hwo hmj).1 hIj; omega
        · intro x hx
          obtain ⟨l, h1, h2⟩ := p.hrel.blk b x (getR b x hR hx)
          exact ⟨l, f2 _ _ h1, h2.mono f2' rfl⟩
      · rw [if_neg (by rintro (h | h); exact hm h; exact hR h)]
        have hpI := (pres' b hp).resolve_left hR
        obtain ⟨m1, m2, m3, m4, m5⟩ := I.blk b hpI
        refine ⟨m1, m2, ?_, ?_, ?_⟩
        · rcases m3 with m3 | ⟨k, wo, h1, h2, h3⟩
          · exact .inl m3
          · exact .inr ⟨k, wo, h1, .inr h2, h3⟩
        · rintro j wo hj (rfl | hIj) hwo
          · rw [hvo] at hwo; cases hwo; exact hm
          · exact m4 j wo hj hIj hwo
        · intro x hx
          obtain ⟨l, h1, h2⟩ := m5 x hx
          exact ⟨l, f1 _ _ h1, h2.mono (Ren.cut_mono f1 (Nat.le_refl _)) (still hm _ h2.lt)⟩
  case inj =>
    intro b b' x x' l l' hp hp' hg hg' r r' hc
    by_cases hm : Modif vo
    · rw [if_pos (Or.inl hm)] at hg hg'
      rcases W.kind with ⟨_, e, _⟩ | ⟨hnm, _⟩
      · rw [← e] at hg hg'
        obtain ⟨l2, h1, _⟩ := p.hrel.blk b x hg
        obtain ⟨l2', h1', _⟩ := p.hrel.blk b' x' hg'
        have q1 := f2 _ _ h1
        rw [r] at q1; cases q1
        have q2 := f2 _ _ h1'
        rw [r'] at q2; cases q2
        have := p.hrel.inj b b' x x' l l' hg hg' h1 h1' hc
        rw [p.base, base_eq C I hin hi0 hbef hvo W] at this
        exact this
      · exact absurd hm hnm
    · have old : ∀ b x l, Pres H In b → (H (M b)).get b = some x → ρ b = some l → l.c < w.heap.size := by
        intro b x l hp hg r
        obtain ⟨l2, h1, h2⟩ := (I.blk b hp).2.2.2.2 x hg
        rw [r] at h1; cases h1
        exact h2.lt
      by_cases hR : R b <;> by_cases hR' : R b'
      · rw [if_pos (Or.inr hR)] at hg
        rw [if_pos (Or.inr hR')] at hg'
        rw [rn_in b hR] at r
        rw [rn_in b' hR'] at r'
        have := p.hrel.inj b b' x x' l l' (getR b x hR hg) (getR b' x' hR' hg') r r' hc
        rw [p.base, base_eq C I hin hi0 hbef hvo W] at this
        exact this
      · rw [if_neg (by rintro (h | h); exact hm h; exact hR' h)] at hg'
        rw [rn_in b hR] at r
        rw [rn_out b' hR'] at r'
        have h1 := newloc hm b l hR r
        have h2 := old b' x' l' ((pres' b' hp').resolve_left hR') hg' r'
        omega
      · rw [if_neg (by rintro (h | h); exact hm h; exact hR h)] at hg
        rw [rn_in b' hR'] at r'
        rw [rn_out b hR] at r
        have h1 := newloc hm b' l' hR' r'
        have h2 := old b x l ((pres' b hp).resolve_left hR) hg r
        omega
      · rw [if_neg (by rintro (h | h); exact hm h; exact hR h)] at hg
        rw [if_neg (by rintro (h | h); exact hm h; exact hR' h)] at hg'
        rw [rn_out b hR] at r
        rw [rn_out b' hR'] at r'
        exact I.inj b b' x x' l l' ((pres' b hp).resolve_left hR) ((pres' b' hp').resolve_left hR') hg hg' r r' hc
  case os => exact p.os.trans I.os
  case tape => exact p.tape.trans I.tape
  case output => exact p.output.trans I.output
  case size => exact Nat.le_trans I.size p.size
  case frame =>
    intro c hc hk
    rw [p.frame c (Nat.lt_of_lt_of_le hc I.size) ?_]
    · exact I.frame c hc hk
    · intro b x l hg hf hl hcc
      rcases written C I hin hi0 hbef hvo hr0 W hg hf hl with h | ⟨b0, x0, l0, h1, h2, h3, h4⟩
      · omega
      · exact hk b0 x0 l0 h1 h2 h3 (by omega)
  case fresh =>
    intro b l e hn
    by_cases hR : R b
    · rw [rn_in b hR] at e
      have hc : (ρ.cut (H i).next) b = none := by unfold Ren.cut; rw [if_neg (by have := hR.1; omega)]
      rcases p.fresh b l e hc with h | ⟨b0, x0, l0, h1, h2, h3, h4⟩
      · exact .inl (Nat.le_trans I.size h)
      · rcases written C I hin hi0 hbef hvo hr0 W h1 h2 h3 with h | ⟨b1, x1, l1, q1, q2, q3, q4⟩
        · exact .inl (by omega)
        · exact .inr ⟨b1, x1, l1, q1, q2, q3, by omega⟩
    · rw [rn_out b hR] at e
      exact I.fresh b l e hn

end

end Go.V
end

section
set_option linter.unusedVariables false
set_option linter.unusedSimpArgs false
set_option linter.unusedSectionVars false
namespace Go.V

theorem VRels.ofGet {ρ : Ren} : ∀ (l : List Val) (l' : List Value), l.length = l'.length → (∀ t, t < l.length → VRel ρ (l.getD t .undef) (l'.getD t Go.undef)) → VRels ρ l l'
  | [], [], _, _ => .nil
  | x :: l, y :: l', e, h => by
    refine .cons (by simpa using h 0 (by simp)) (VRels.ofGet l l' (by simpa using e) fun t ht => ?_)
    simpa using h (t + 1) (by simpa using ht)
  | [], _ :: _, e, _ => by simp at e
  | _ :: _, [], e, _ => by simp at e

theorem FRel.ofGet {ρ : Ren} {fr : List Val} {a : Act} (e : a.tmps.size = fr.length) (h : ∀ t, t < fr.length → VRel ρ (fr.getD t .undef) (a.tmps.getD t Go.undef)) : FRel ρ fr a := by
  refine VRels.ofGet _ _ (by simpa using e.symm) fun t ht => ?_
  have e2 : a.tmps.toList.getD t Go.undef = a.tmps.getD t Go.undef := by simp [Array.getD_eq_getD_getElem?, List.getD_eq_getElem?_getD]
  rw [e2]; exact h t ht

/- ONLY WHAT IS NAMED. -/
def patchF (ns : List Nat) (fr : List Val) : List Val := fr.mapIdx fun t v => if t ∈ ns then v else .undef
def patchA (ns : List Nat) (a : Act) : Act := { a with tmps := a.tmps.mapIdx fun t v => if t ∈ ns then v else Go.undef }

theorem patchF_getD {ns : List Nat} {fr : List Val} {t : Nat} (h : t ∈ ns) : (patchF ns fr).getD t .undef = fr.getD t .undef := by
  simp only [patchF, List.getD_eq_getElem?_getD, List.getElem?_mapIdx]
  cases fr[t]? with
  | none => rfl
  | some x => simp [h]

theorem patchF_out {ns : List Nat} {fr : List Val} {t : Nat} (h : t ∉ ns) : (patchF ns fr).getD t .undef = .undef := by
  simp only [patchF, List.getD_eq_getElem?_getD, List.getElem?_mapIdx]
  cases fr[t]? with
  | none => rfl
  | some x => simp [h]

theorem patchA_get {ns : List Nat} {a : Act} {t : Nat} (h : t ∈ ns) : (patchA ns a).tmps[t]? = a.tmps[t]? := by
  simp only [patchA, Array.getElem?_mapIdx]
  cases a.tmps[t]? with
  | none => rfl
  | some x => simp [h]

theorem patchA_out {ns : List Nat} {a : Act} {t : Nat} (h : t ∉ ns) : (patchA ns a).tmps.getD t Go.undef = Go.undef := by
  simp only [patchA, Array.getD_eq_getD_getElem?, Array.getElem?_mapIdx]
  cases a.tmps[t]? with
  | none => rfl
  | some x => simp [h]

theorem wanted_congr {fr fr' : List Val} {g : Option (Nat × Bool)} (h : ∀ t ∈ (match g with | some (t, _) => [t] | none => ([] : List Nat)), fr.getD t .undef = fr'.getD t .undef) : wanted fr g = wanted fr' g := by
  cases g with
  | none => rfl
  | some p => obtain ⟨t, b⟩ := p; simp only [wanted, h t (by simp)]

theorem wantedR_congr {ops : Array Oper} {o : Oper} {a a' : Act} {g : Option (Nat × Bool)} (hg : cGuard ops o.guard = some g) (h : ∀ t ∈ (match g with | some (t, _) => [t] | none => ([] : List Nat)), a.tmps[t]? = a'.tmps[t]?) : Region.wanted o (yielded ops a.tmps) = Region.wanted o (yielded ops a'.tmps) := by
  unfold Region.wanted
  cases ho : o.guard with
  | none => rfl
  | some jw =>
    obtain ⟨j, want⟩ := jw
    rw [ho] at hg
    simp only [cGuard] at hg
    split at hg
    · rename_i t ht
      simp only [Option.some.injEq] at hg; subst hg
      simp only [yielded, ht, Option.bind_some, h t (by simp)]
    · cases hg

section
variable {P : Program} {meth : TypeId → Val → String → Option (FuncId × Val)} {call : CallT} {ops : Array Oper} {vl : List VOper} {F : Nat → List Val} {H : Nat → Heap}
  (C : Ctx P meth call ops vl F H) {ρ0 : Ren} {w0 : World} {a0 : Act} {In : Nat → Prop} {a : Act} {w : World} {ρ : Ren} {T M : Nat → Nat} (I : Inv ops vl F H ρ0 w0 a0 In a w ρ T M)
  {i : Nat} (hin : ¬ In i) (hi0 : i < ops.size) (hbef : ∀ j, Bef ops i j → In j) {vo : VOper} (hvo : vl[i]? = some vo)
include C I hin hi0 hbef hvo

theorem patched {o : Oper} (ho : ops[i]? = some o) : FRel (ρ.cut (H i).next) (patchF (namesOf o vo) (F i)) (patchA (namesOf o vo) a) := by
  have hl : (F i).length = (F 0).length := C.flen (by omega)
  refine FRel.ofGet (by simp [patchA, patchF, I.tsz, hl]) fun t ht => ?_
  have htl : t < (F 0).length := by simpa [patchF, hl] using ht
  by_cases hn : t ∈ namesOf o vo
  · rw [patchF_getD hn, Array.getD_eq_getD_getElem?, patchA_get hn, ← Array.getD_eq_getD_getElem?]
    exact named C I hin hi0 hbef hvo ho hn htl
  · rw [patchF_out hn, patchA_out hn]; exact rel_undef

omit hvo in
theorem present {b : Nat} {x : Blk} (hx : (H i).t.get b = some x) (hall : ∀ j wo, j < i → vl[j]? = some wo → wo.op.kind ≠ 0 → (H j).next ≤ b → b < (H (j + 1)).next → In j) : Pres H In b := by
  have hb : b < (H i).next := by
    rcases Nat.lt_or_ge b (H i).next with h | h
    · exact h
    · rw [C.lowi (by omega) b h] at hx; cases hx
  rcases Nat.lt_or_ge b (H 0).next with h0 | h0
  · exact .inl h0
  · obtain ⟨j, wo, h1, h2, h3, h4, h5⟩ := C.maker (show i ≤ ops.size by omega) h0 hb
    exact .inr ⟨j, hall j wo h1 h2 h3 h4 h5, h4, h5⟩

theorem how_full (hm : Modif vo) : How H In i vo (H i) (H (i + 1)) := by
  refine ⟨rfl, rfl, rfl, rfl, .inl ⟨rfl, rfl, hm⟩, fun _ h => h, ?_, ?_, rfl⟩
  · intro b _ h
    have e := (C.ext (Nat.le_succ i) (by omega)).hid
    unfold Heap.hidden at h ⊢; rw [e]; exact h
  · intro b x hg
    refine ⟨by have := hm.1; omega, present C I hin hi0 hbef (Heap.get_t hg) fun j wo hj hwo hk _ _ => ?_⟩
    rcases C.full i vo hvo hm.2 j wo hwo hk with h | ⟨_, h⟩ | ⟨h, _⟩
    · omega
    · exact hbef j h
    · omega

theorem how_blind (hm : ¬ Modif vo) (hs : (H (i + 1)).hid = (H i).hid) : How H In i vo { H i with hid := (0, (H i).next) :: (H i).hid, floor := (H i).next } { H (i + 1) with hid := (0, (H i).next) :: (H i).hid, floor := (H i).next } := by
  refine ⟨rfl, rfl, rfl, rfl, .inr ⟨hm, rfl⟩, ?_, ?_, ?_, rfl⟩
  · intro b h
    simp only [Heap.hidden, List.any_cons, Bool.or_eq_false_iff] at h ⊢
    exact h.2
  · intro b hb h
    simp only [Heap.hidden, List.any_cons, Bool.or_eq_false_iff] at h ⊢
    refine ⟨?_, h⟩
    simp; omega
  · intro b x hg
    have h1 := Heap.get_nh hg
    have h2 := Heap.get_t hg
    simp only [Heap.hidden, List.any_cons, Bool.or_eq_false_iff] at h1
    have h3 := h1.1
    simp at h3
    rw [C.lowi (show i ≤ ops.size by omega) b h3] at h2; cases h2

end

theorem mem_hiddenOf {rs : List (Nat × Nat)} : ∀ {l : List Nat} {j : Nat}, j ∈ l → rs.getD j (0, 0) ∈ hiddenOf rs l
  | k :: l, j, h => by
    simp only [hiddenOf, List.mem_cons] at h ⊢
    rcases h with h | h
    · exact .inl (by rw [h])
    · exact .inr (mem_hiddenOf h)
  | [], j, h => by simp at h

theorem hiddenOf_mem' {rs : List (Nat × Nat)} : ∀ {l : List Nat} {p : Nat × Nat}, p ∈ hiddenOf rs l → ∃ j ∈ l, p = rs.getD j (0, 0)
  | [], p, h => by simp [hiddenOf] at h
  | k :: l, p, h => by
    simp only [hiddenOf, List.mem_cons] at h
    rcases h with h | h
    · exact ⟨k, by simp, h⟩
    · obtain ⟨j, h1, h2⟩ := hiddenOf_mem' h
      exact ⟨j, by simp [h1], h2⟩

theorem rangesTo_get {H : Nat → Heap} {i j : Nat} (h : j < i) : (rangesTo H i).getD j (0, 0) = ((H j).next, (H (j + 1)).next) := by
  simp [rangesTo, List.getD_eq_getElem?_getD, h]

theorem rangesTo_out {H : Nat → Heap} {i j : Nat} (h : i ≤ j) : (rangesTo H i).getD j (0, 0) = (0, 0) := by
  simp [rangesTo, List.getD_eq_getElem?_getD, h]

section
variable {P : Program} {meth : TypeId → Val → String → Option (FuncId × Val)} {call : CallT} {ops : Array Oper} {vl : List VOper} {F : Nat → List Val} {H : Nat → Heap}
  (C : Ctx P meth call ops vl F H) {ρ0 : Ren} {w0 : World} {a0 : Act} {In : Nat → Prop} {a : Act} {w : World} {ρ : Ren} {T M : Nat → Nat} (I : Inv ops vl F H ρ0 w0 a0 In a w ρ T M)
  {i : Nat} (hin : ¬ In i) (hi0 : i < ops.size) (hbef : ∀ j, Bef ops i j → In j) {vo : VOper} (hvo : vl[i]? = some vo)
include C I hin hi0 hbef hvo

theorem how_part (hk : vo.op.kind = 2) (hf : vo.full = false) {h2 : Heap} (e2 : h2.hid = hiddenOf (rangesTo H i) vo.hide ++ (H i).hid) (e3 : H (i + 1) = { h2 with hid := (H i).hid, floor := (H i).floor }) :
    How H In i vo { H i with hid := hiddenOf (rangesTo H i) vo.hide ++ (H i).hid, floor := (H i).next } h2 := by
  refine ⟨rfl, rfl, by rw [e3], by rw [e3], .inr ⟨(by rintro ⟨_, h⟩; rw [hf] at h; cases h), rfl⟩, ?_, ?_, ?_, rfl⟩
  · intro b h
    simp only [Heap.hidden, List.any_append, Bool.or_eq_false_iff] at h ⊢
    exact h.2
  · intro b hb h
    unfold Heap.hidden at h ⊢
    rw [e2, List.any_append, h, Bool.or_false, List.any_eq_false]
    intro p hp
    obtain ⟨j, hj, rfl⟩ := hiddenOf_mem' hp
    rcases Nat.lt_or_ge j i with hji | hji
    · rw [rangesTo_get hji]
      have := (C.ext (show j + 1 ≤ i by omega) (by omega)).next
      simp; intro _; omega
    · rw [rangesTo_out hji]; simp
  · intro b x hg
    have hgt := Heap.get_t hg
    refine ⟨by omega, present C I hin hi0 hbef hgt fun j wo hj hwo hkj r1 r2 => ?_⟩
    by_cases hbj : Bef ops i j
    · exact hbef j hbj
    · exfalso
      have hmem := C.hide i vo hvo j wo hwo hkj hj hbj
      have h1 := Heap.get_nh hg
      simp only [Heap.hidden, List.any_append, Bool.or_eq_false_iff] at h1
      have h3 := List.any_eq_false.1 h1.1 _ (mem_hiddenOf (rs := rangesTo H i) hmem)
      rw [rangesTo_get hj] at h3
      simp at h3; have := h3 r1; omega

theorem op_any (hr0 : HRel ρ0 (H 0) w0) {o : Oper} (ho : ops[i]? = some o) {K : Act → World → Prop} {Q : Exit → Act → World → Prop}
    (k : ∀ a' w' ρn T' M', Inv ops vl F H ρ0 w0 a0 (fun k => k = i ∨ In k) a' w' ρn T' M' → K a' w') : wpOp P ops Q i K a w := by
  obtain ⟨o', vo', e1, e2, hc, hdst, hg, hsel⟩ := C.get i hi0
  rw [ho] at e1; cases e1
  rw [hvo] at e2; cases e2
  have hp := patched C I hin hi0 hbef hvo ho
  have hgm : ∀ t ∈ (match vo.guard with | some (t, _) => [t] | none => ([] : List Nat)), t ∈ namesOf o vo := fun t ht => List.mem_append_right _ ht
  have hwant : ∀ b, wanted (F i) vo.guard = some b → Region.wanted o (yielded ops a.tmps) = b := by
    intro b hb
    rw [← wanted_congr (fr := patchF (namesOf o vo) (F i)) fun t ht => patchF_getD (hgm t ht)] at hb
    rw [← wanted_rel hp hg hb]
    exact wantedR_congr hg fun t ht => (patchA_get (hgm t ht)).symm
  have hex : execOp a.eval o = execOp (patchA (namesOf o vo) a).eval o := by
    refine execOp_congr o (fun cs b h => by rw [h] at hsel; simp [notSelect] at hsel) fun x hx => ?_
    cases x with
    | tmp t =>
      have ht : t ∈ namesOf o vo := by
        simp only [namesOf, List.mem_append]
        refine .inl (.inl (.inr ?_))
        simp only [operandTmps, List.mem_flatMap]
        exact ⟨_, by simpa using hx, by simp⟩
      simp only [Act.eval, Array.getD_eq_getD_getElem?, patchA_get ht]
    | _ => rfl
  have hstep : ∀ h, step meth call (patchF (namesOf o vo) (F i)) h vo.op = step meth call (F i) h vo.op := fun h => step_congr fun t ht => patchF_getD (by simp only [namesOf, List.mem_append]; exact .inl (.inr ht))
  have main : ∀ (hi hi' : Heap) (v : Val), How H In i vo hi hi' → step meth call (F i) hi vo.op = some (v, hi') → F (i + 1) = setDst (F i) vo.dst v → o.wp P a w K Q := by
    intro hi hi' v W hs hF
    refine op_wp (inv_hrel C I hin hi0 hbef hvo hr0 W) hp C.ms C.cs hex hc (by rw [hstep]; exact hs) fun cv w' ρ' p hv => ?_
    obtain ⟨ρn, T', M', I'⟩ := inv_step C I hin hi0 hbef hvo hr0 ho hdst W p hv hF
    rw [hdst] at I'
    exact k _ _ _ _ _ I'
  unfold wpOp
  simp only [ho]
  rcases C.trace i vo hvo with ⟨hw, hF, hH⟩ | ⟨hw, v, hF, ⟨hk, hs⟩ | ⟨hk, hf, h2, hs, hH⟩⟩
  · rw [hwant _ hw]
    simp only [Bool.false_eq_true, if_false]
    by_cases hm : Modif vo
    · have W := how_full C I hin hi0 hbef hvo hm
      rw [hH] at W
      have p := Post.refl (inv_hrel C I hin hi0 hbef hvo hr0 W)
      have W' := how_full C I hin hi0 hbef hvo hm
      obtain ⟨ρn, T', M', I'⟩ := inv_step C I hin hi0 hbef hvo hr0 ho hdst W' (by rw [hH]; exact p) rel_undef hF
      rw [hdst] at I'
      exact k _ _ _ _ _ I'
    · have W := how_blind C I hin hi0 hbef hvo hm (by rw [hH])
      have p := Post.refl (inv_hrel C I hin hi0 hbef hvo hr0 W)
      obtain ⟨ρn, T', M', I'⟩ := inv_step C I hin hi0 hbef hvo hr0 ho hdst W (by rw [hH]; exact p) rel_undef hF
      rw [hdst] at I'
      exact k _ _ _ _ _ I'
  · rw [hwant _ hw]
    simp only [if_true]
    left
    by_cases hm : Modif vo
    · exact main _ _ v (how_full C I hin hi0 hbef hvo hm) hs hF
    · have hk1 : vo.op.kind ≤ 1 := by
        rcases hk with hk | hk
        · exact hk
        · rcases Nat.lt_or_ge 1 vo.op.kind with h | h
          · exact absurd ⟨h, hk⟩ hm
          · exact h
      exact main _ _ v (how_blind C I hin hi0 hbef hvo hm (C.ext (Nat.le_succ i) (by omega)).hid) (step_blind hk1 hs _ _) hF
  · rw [hwant _ hw]
    simp only [if_true]
    left
    exact main _ _ v (how_part C I hin hi0 hbef hvo hk hf (step_ext C.ce hs).hid hH) hs hF

end

end Go.V
end

section
set_option linter.unusedVariables false
set_option linter.unusedSimpArgs false
set_option linter.unusedSectionVars false
namespace Go.V

section
variable {P : Program} {meth : TypeId → Val → String → Option (FuncId × Val)} {call : CallT} {ops : Array Oper} {vl : List VOper} {F : Nat → List Val} {H : Nat → Heap}
  (C : Ctx P meth call ops vl F H) {ρ0 : Ren} {w0 : World} {a0 : Act}
include C

/-- When all have run. -/
theorem inv_end (hr0 : HRel ρ0 (H 0) w0) {In : Nat → Prop} (hall : ∀ k, k < ops.size → In k) {a : Act} {w : World} {ρ : Ren} {T M : Nat → Nat} (I : Inv ops vl F H ρ0 w0 a0 In a w ρ T M) :
    Post ρ0 (H 0) w0 ρ (H ops.size) w ∧ FRel ρ (F ops.size) a := by
  have hx := C.ext (Nat.zero_le ops.size) (Nat.le_refl _)
  have hlen : ∀ {j wo}, vl[j]? = some wo → j < ops.size := by
    intro j wo h
    have := (List.getElem?_eq_some_iff.1 h).1
    rw [← C.len]; exact this
  have pres : ∀ b x, (H ops.size).get b = some x → Pres H In b := by
    intro b x hg
    have ht := Heap.get_t hg
    have hb : b < (H ops.size).next := by
      rcases Nat.lt_or_ge b (H ops.size).next with h | h
      · exact h
      · rw [C.lowi (Nat.le_refl _) b h] at ht; cases ht
    rcases Nat.lt_or_ge b (H 0).next with h0 | h0
    · exact .inl h0
    · obtain ⟨j, wo, h1, h2, h3, h4, h5⟩ := C.maker (Nat.le_refl ops.size) h0 hb
      exact .inr ⟨j, hall j h1, h4, h5⟩
  have back : ∀ b x, (H ops.size).get b = some x → (H (M b)).get b = some x := by
    intro b x hg
    obtain ⟨m1, m2, m3, m4, m5⟩ := I.blk b (pres b x hg)
    have hst := C.hstable m1 (Nat.le_refl _) m2 fun j wo h1 h2 hwo => m4 j wo h1 (hall j h2) hwo
    have hh : (H (M b)).hidden b = false := by
      have e1 := (C.ext (Nat.zero_le (M b)) m1).hid
      have := Heap.get_nh hg
      unfold Heap.hidden at this ⊢
      rw [e1, ← hx.hid]; exact this
    unfold Heap.get
    rw [hh, ← hst, Heap.get_t hg]; rfl
  have top : ∀ b, (H ops.size).next ≤ b → ρ b = none := by
    intro b hb
    cases e : ρ b with
    | none => rfl
    | some l =>
      rcases I.pres b l e with h | ⟨j, hj, h1, h2⟩
      · have := hx.next; omega
      · have := (C.ext (show j + 1 ≤ ops.size from I.lt j hj) (Nat.le_refl _)).next; omega
  refine ⟨⟨I.ext, ⟨?_, ?_, top, ?_, ?_, fun b l hb e => I.tight b l (by rw [← hx.base]; exact hb) e⟩, hx.hid, hx.floor, hx.base, hx.next, ?_, I.os, I.tape, I.output, I.size, I.frame, I.fresh, ?_⟩, ?_⟩
  · intro b x hg
    obtain ⟨l, h1, h2⟩ := (I.blk b (pres b x hg)).2.2.2.2 x (back b x hg)
    exact ⟨l, h1, h2.mono (Ren.cut_le _ _) rfl⟩
  · intro b b' x x' l l' hg hg' r r' hc
    rw [hx.base]
    exact I.inj b b' x x' l l' (pres b x hg) (pres b' x' hg') (back b x hg) (back b' x' hg') r r' hc
  · intro b x hg
    rcases Nat.lt_or_ge b (H ops.size).next with h | h
    · exact h
    · rw [C.lowi (Nat.le_refl _) b h] at hg; cases hg
  · rw [hx.base, hx.floor]; exact ⟨hr0.bs.1, Nat.le_trans hr0.bs.2 hx.next⟩
  · intro b hb hs
    cases hg : (H ops.size).get b with
    | none => rw [hg] at hs; cases hs
    | some x =>
      have h1 := Heap.get_nh hg
      have h2 := Heap.get_t hg
      have h3 : (H 0).hidden b = false := by
        unfold Heap.hidden at h1 ⊢
        rw [← hx.hid]; exact h1
      unfold Heap.get
      rw [h3]
      cases h0 : (H 0).t.get b with
      | none => rw [hx.live b hb h0] at h2; cases h2
      | some y => rfl
  · intro b l e hn
    rcases Nat.lt_or_ge b (H 0).next with h | h
    · rw [I.old b l h e] at hn; cases hn
    · exact h
  · have hl : (F ops.size).length = (F 0).length := C.flen (Nat.le_refl _)
    refine FRel.ofGet (by rw [I.tsz, hl]) fun t ht => ?_
    rw [hl] at ht
    obtain ⟨t1, t2, t3, t4⟩ := I.tmp t ht
    rw [C.fstable t1 (Nat.le_refl _) fun j wo h1 h2 hwo => t3 j wo h1 (hall j h2) hwo]
    exact VRel.mono (Ren.cut_le _ _) _ _ t4

omit C in
theorem inv_start (hr0 : HRel ρ0 (H 0) w0) (hf : FRel ρ0 (F 0) a0) : Inv ops vl F H ρ0 w0 a0 (fun _ => False) a0 w0 ρ0 (fun _ => 0) (fun _ => 0) := by
  have low : ∀ b l, ρ0 b = some l → b < (H 0).next := by
    intro b l e
    rcases Nat.lt_or_ge b (H 0).next with h | h
    · exact h
    · rw [hr0.top b h] at e; cases e
  have cut : ρ0.le (ρ0.cut (H 0).next) := by
    intro b l e
    unfold Ren.cut
    rw [if_pos (low b l e)]; exact e
  constructor
  case clo => intro k h; exact h.elim
  case lt => intro k h; exact h.elim
  case pres => intro b l e; exact .inl (low b l e)
  case ext => exact Ren.le_refl _
  case old => intro b l _ e; exact e
  case tsz => have := hf.length; simpa using this
  case dfr => rfl
  case tmp =>
    intro t _
    exact ⟨Nat.zero_le _, .inl rfl, fun _ _ _ h => h.elim, VRel.mono cut _ _ (hf.getD t)⟩
  case blk =>
    intro b hp
    have hb : b < (H 0).next := by
      rcases hp with h | ⟨j, h, _⟩
      · exact h
      · exact h.elim
    refine ⟨Nat.zero_le _, hb, .inl rfl, fun _ _ _ h => h.elim, ?_⟩
    intro x hx
    obtain ⟨l, h1, h2⟩ := hr0.blk b x hx
    exact ⟨l, h1, h2.mono cut rfl⟩
  case inj =>
    intro b b' x x' l l' _ _ hg hg' r r' hc
    exact hr0.inj b b' x x' l l' hg hg' r r' hc
  case tight => exact hr0.tight
  case os => rfl
  case tape => rfl
  case output => rfl
  case size => exact Nat.le_refl _
  case frame => intro c _ _; rfl
  case fresh => intro b l h1 h2; rw [h1] at h2; cases h2

theorem all_any (hr0 : HRel ρ0 (H 0) w0) {Q : Exit → Act → World → Prop} (k : ∀ a' w' ρ', Post ρ0 (H 0) w0 ρ' (H ops.size) w' → FRel ρ' (F ops.size) a' → a'.defers = a0.defers → Q .normal a' w') :
    ∀ (fuel : Nat) (todo : List Nat) (listed : Array Bool) (a : Act) (w : World) (ρ : Ren) (T M : Nat → Nat), listed.size = ops.size → todo.length ≤ fuel → (∀ j, j < ops.size → listed.getD j false = false → j ∈ todo) →
      Inv ops vl F H ρ0 w0 a0 (fun j => listed.getD j false = true) a w ρ T M → wpAny P .any ops Q fuel listed a w := by
  have stuck : ∀ listed : Array Bool, listed.size = ops.size → Region.ready .any ops listed = [] → ∀ j, j < ops.size → listed.getD j false = true := by
    intro listed hsz hr j
    induction j using Nat.strongRecOn with
    | ind j ih =>
      intro hj
      cases hl : listed.getD j false with
      | true => rfl
      | false =>
        exfalso
        obtain ⟨o, vo, ho, hvo, _⟩ := C.get j hj
        have : j ∈ Region.ready .any ops listed := by
          refine mem_ready.2 ⟨?_, o, ho, fun e he hb => ih e.on (C.edges j o ho e he hb) (Nat.lt_trans (C.edges j o ho e he hb) hj)⟩
          rw [Array.getD_eq_getD_getElem?, Array.getElem?_eq_getElem (by omega)] at hl ⊢
          exact hl
        rw [hr] at this; cases this
  have fin : ∀ (listed : Array Bool) (a : Act) (w : World) (ρ : Ren) (T M : Nat → Nat), (∀ j, j < ops.size → listed.getD j false = true) →
      Inv ops vl F H ρ0 w0 a0 (fun j => listed.getD j false = true) a w ρ T M → Q .normal a w := by
    intro listed a w ρ T M hall I
    obtain ⟨p, f⟩ := inv_end C hr0 hall I
    exact k a w ρ p f I.dfr
  intro fuel
  induction fuel with
  | zero =>
    intro todo listed a w ρ T M hsz hlen hun I
    have h0 : todo = [] := List.eq_nil_of_length_eq_zero (by omega)
    have hall : ∀ j, j < ops.size → listed.getD j false = true := by
      intro j hj
      cases hl : listed.getD j false with
      | true => rfl
      | false => have := hun j hj hl; rw [h0] at this; cases this
    refine ⟨?_, fin listed a w ρ T M hall I⟩
    rw [List.eq_nil_iff_forall_not_mem]
    intro j hj
    obtain ⟨h1, o, ho, _⟩ := mem_ready.1 hj
    have hlt := (Array.getElem?_eq_some_iff.1 ho).1
    have := hall j hlt
    rw [Array.getD_eq_getD_getElem?, Array.getElem?_eq_getElem (by omega)] at h1 this
    simp only [Option.getD_some] at h1 this
    rw [h1] at this; cases this
  | succ fuel ih =>
    intro todo listed a w ρ T M hsz hlen hun I
    refine ⟨fun hr => fin listed a w ρ T M (stuck listed hsz hr) I, fun i hi => ?_⟩
    obtain ⟨h1, o, ho, hed⟩ := mem_ready.1 hi
    have hlt := (Array.getElem?_eq_some_iff.1 ho).1
    have hno : listed.getD i false = false := by
      rw [Array.getD_eq_getD_getElem?, Array.getElem?_eq_getElem (by omega)] at h1 ⊢
      exact h1
    obtain ⟨vo, hvo⟩ := C.vo hlt
    have hbef : ∀ j, Bef ops i j → listed.getD j false = true := by
      intro j hb
      obtain ⟨o', ho', e, he, hbi, hj⟩ := before_spec ops i j hb
      rw [ho] at ho'; cases ho'
      rcases hj with hj | hj
      · rw [← hj]; exact hed e he hbi
      · exact I.clo e.on (hed e he hbi) j hj
    refine op_any C I (by simp [hno]) hlt hbef hvo hr0 ho fun a' w' ρn T' M' I' => ?_
    refine ih (todo.erase i) _ a' w' ρn T' M' (by simpa using hsz) ?_ ?_ ?_
    · rw [List.length_erase_of_mem (hun i hlt hno)]; omega
    · intro j hj hl
      have hne : j ≠ i := by
        rintro rfl
        rw [Array.getD_eq_getD_getElem?, Array.getElem?_setIfInBounds_self_of_lt (by omega)] at hl
        cases hl
      rw [List.mem_erase_of_ne hne]
      refine hun j hj ?_
      rw [Array.getD_eq_getD_getElem?, Array.getElem?_setIfInBounds_ne (Ne.symm hne)] at hl
      rw [Array.getD_eq_getD_getElem?]; exact hl
    · have : (fun j => (listed.setIfInBounds i true).getD j false = true) = fun k => k = i ∨ listed.getD k false = true := by
        funext j
        apply propext
        by_cases hne : j = i
        · subst hne
          rw [Array.getD_eq_getD_getElem?, Array.getElem?_setIfInBounds_self_of_lt (by omega)]
          simp
        · rw [Array.getD_eq_getD_getElem?, Array.getElem?_setIfInBounds_ne (Ne.symm hne), ← Array.getD_eq_getD_getElem?]
          simp [hne]
      rw [this]; exact I'

end

theorem draw_ok (P : Program) : DrawOk P := by
  intro meth hms call hcs hce id ops vl fr fr' h h' ρ w a Q hc hrun hr hf k
  unfold cRegion at hc
  split at hc
  · cases hc
  · rename_i vs hvs
    simp only [if_true] at hc
    split at hc
    · rename_i l hl
      split at hc
      · rename_i hchk
        simp only [Option.some.injEq, VC.draw.injEq] at hc
        subst hc
        simp only [Bool.and_eq_true] at hchk
        obtain ⟨⟨⟨hm, htm⟩, hed⟩, hsel⟩ := hchk
        obtain ⟨F, H, f0, g0, fn, gn, htr⟩ := draw_trace l [] fr fr' h h' hrun
        obtain ⟨len1, len2, hget⟩ := cOpers_get ops.toList vs 0 l hl
        have hlen : l.length = ops.size := by simpa using len1.symm
        have hg : ∀ i, i < ops.size → ∃ o v vo, ops[i]? = some o ∧ vs[i]? = some v ∧ l[i]? = some vo ∧ cOp P o = some v ∧ vo.op = v ∧ vo.dst = o.dst ∧ cGuard ops o.guard = some vo.guard ∧
            (vo.full = true → ∀ j ∈ touching vs 0, j = i ∨ (j < i ∧ ((Region.before ops).getD i 0).testBit j = true) ∨ (i < j ∧ ((Region.before ops).getD j 0).testBit i = true)) ∧
            (∀ j ∈ touching vs 0, j < i → ((Region.before ops).getD i 0).testBit j = false → j ∈ vo.hide) := by
          intro i hi
          have h1 : ops.toList[i]? = some ops[i] := by simp [hi]
          have h2 : vs[i]? = some (vs[i]'(by omega)) := by rw [List.getElem?_eq_getElem]
          obtain ⟨vo, q1, q2, q3, q4, q5, q6⟩ := hget i _ _ h1 h2
          simp only [Nat.zero_add] at q5 q6
          exact ⟨ops[i], _, vo, by simp [hi], h2, q1, cOps_get hvs i _ _ h1 h2, q2, q3, q4, q5, q6⟩
        have lt_of : ∀ {i vo}, l[i]? = some vo → i < ops.size := by
          intro i vo h
          have := (List.getElem?_eq_some_iff.1 h).1
          omega
        have touch : ∀ j wo, l[j]? = some wo → wo.op.kind ≠ 0 → j ∈ touching vs 0 := by
          intro j wo hj hk
          obtain ⟨o, v, vo, e1, e2, e3, _, e4, _⟩ := hg j (lt_of hj)
          rw [hj] at e3; cases e3
          exact (touching_mem vs 0 j).2 ⟨j, v, e2, by rw [← e4]; exact hk, by omega⟩
        have C : Ctx P meth call ops l F H := by
          constructor
          case ms => exact hms
          case cs => exact hcs
          case ce => exact hce
          case len => exact hlen
          case get =>
            intro i hi
            obtain ⟨o, v, vo, e1, e2, e3, e4, e5, e6, e7, _⟩ := hg i hi
            refine ⟨o, vo, e1, e3, by rw [e5]; exact e4, e6, e7, ?_⟩
            have := List.all_eq_true.1 hsel o (List.mem_of_getElem? (i := i) (by simpa using e1))
            exact this
          case full =>
            intro i vo hvo hfu j wo hwo hk
            obtain ⟨o, v, vo', e1, e2, e3, e4, e5, e6, e7, e8, _⟩ := hg i (lt_of hvo)
            rw [hvo] at e3; cases e3
            exact e8 hfu j (touch j wo hwo hk)
          case hide =>
            intro i vo hvo j wo hwo hk hj hnb
            obtain ⟨o, v, vo', e1, e2, e3, e4, e5, e6, e7, e8, e9⟩ := hg i (lt_of hvo)
            rw [hvo] at e3; cases e3
            refine e9 j (touch j wo hwo hk) hj ?_
            cases hb : ((Region.before ops).getD i 0).testBit j with
            | true => exact absurd hb hnb
            | false => rfl
          case names =>
            intro i o vo ho hvo t ht j wo hwo hd
            have := tmpsOk_get ops.toList l 0 htm i o vo (by simpa using ho) hvo t ht t j (by have := writersOf_mem l 0 j wo t hwo hd; rwa [Nat.zero_add] at this) rfl
            simpa [Bef] using this
          case edges =>
            intro i o ho e he hb
            have := edgesOk_get ops.toList 0 hed i o (by simpa using ho) e he hb
            omega
          case trace =>
            intro i vo hvo
            have := htr i vo hvo
            simpa using this
          case low0 =>
            intro b hb
            rw [g0] at hb ⊢
            cases e : h.t.get b with
            | none => rfl
            | some x => have := hr.low b x e; omega
        refine wp_region_any hm ?_
        have pd : Post ρ h w ρ h { w with drawn := w.drawn + 1 } := Post.draw hr rfl rfl rfl rfl
        have hr1 : HRel ρ (H 0) { w with drawn := w.drawn + 1 } := by rw [g0]; exact pd.hrel
        have hf1 : FRel ρ (F 0) a := by rw [f0]; exact hf
        refine all_any C (a0 := a) hr1 ?_ ops.size (List.range ops.size) (Array.replicate ops.size false) a _ ρ (fun _ => 0) (fun _ => 0) (by simp) (by simp) (fun j hj _ => by simpa using hj) ?_
        · intro a' w' ρ' p f d
          rw [hlen] at fn gn
          rw [fn] at f
          rw [gn, g0] at p
          exact k a' w' ρ' (pd.trans p hr) f d
        · have : (fun j => (Array.replicate ops.size false).getD j false = true) = fun _ => False := by
            funext j
            apply propext
            refine ⟨fun hh => ?_, False.elim⟩
            rw [Array.getD_eq_getD_getElem?, Array.getElem?_replicate] at hh
            split at hh <;> simp at hh
          rw [this]
          exact inv_start hr1 hf1
      · cases hc
    · cases hc

end Go.V
end

section
set_option linter.unusedVariables false
set_option linter.unusedSimpArgs false
set_option linter.unusedSectionVars false
namespace Go.V

theorem run_sound {P : Program} {E : Env} (hE : EnvOk P E) (hpe : PrimsExt E) (n : Nat) : CallSound P (run E n) := (exec_sound (draw_ok P) hE hpe n).2

def heap0 : Heap := { next := 0, t := .leaf, hid := [], floor := 0, base := 0 }

theorem heap0_get (b : Nat) : heap0.get b = none := by
  unfold heap0 Heap.get
  split
  · rfl
  · cases b <;> rfl

theorem heap0_t (b : Nat) : heap0.t.get b = none := by
  have := heap0_get b
  unfold Heap.get at this
  rw [if_neg (by simp [Heap.hidden, heap0])] at this
  exact this

theorem hrel0 (w : World) : HRel (fun _ => none) heap0 w :=
  ⟨fun b x h => (by rw [heap0_get] at h; cases h), fun b _ x _ _ _ h => (by rw [heap0_get] at h; cases h), fun _ _ => rfl, fun b x h => (by rw [heap0_t] at h; cases h), ⟨Nat.le_refl _, Nat.le_refl _⟩, fun _ _ _ e => by cases e⟩

/-- A call without arguments: what it answers, and that it leaves what was there. -/
theorem run_closed {P : Program} {E : Env} (hE : EnvOk P E) (hpe : PrimsExt E) {n : Nat} {f : FuncId} {v : Val} {h' : Heap} (e : run E n f [] heap0 = some (v, h')) (w : World) :
    Calls P f #[] w (fun en w' => ∃ cv ρ', en = .returned cv ∧ VRel ρ' v cv ∧ HRel ρ' h' w' ∧ w'.os = w.os ∧ w'.tape = w.tape ∧ w'.output = w.output ∧ w.heap.size ≤ w'.heap.size ∧ ∀ c, c < w.heap.size → w'.heap[c]? = w.heap[c]?) := by
  refine ((run_sound hE hpe n f [] heap0 v h' e).2 _ w #[] (hrel0 w) .nil).mono ?_
  rintro en w' ⟨cv, ρ', he, p, hv⟩
  exact ⟨cv, ρ', he, hv, p.hrel, p.os, p.tape, p.output, p.size, fun c hc => p.frame c hc fun b x l hg => by rw [heap0_get] at hg; cases hg⟩

theorem wf0 : (∀ b, heap0.next ≤ b → heap0.hidden b = false) ∧ (∀ b, heap0.next ≤ b → heap0.t.get b = none) ∧ heap0.floor ≤ heap0.next :=
  ⟨fun _ _ => rfl, fun b _ => heap0_t b, Nat.le_refl _⟩

/-- A law over arguments without memory: it answers true, and leaves what was there. -/
theorem law_closed {P : Program} {E : Env} (hE : EnvOk P E) (hpe : PrimsExt E) {n : Nat} {f : FuncId} {args : List Val} {cargs : Array Value} (ha : VRels (fun _ => none) args cargs.toList) {h' : Heap} (e : run E n f args heap0 = some (.bool true, h')) (w : World) :
    Calls P f cargs w (fun en w' => en = .returned (.bool true) ∧ (∀ c, c < w.heap.size → w'.heap[c]? = w.heap[c]?) ∧ w'.os = w.os ∧ w'.output = w.output) := by
  refine ((run_sound hE hpe n f args heap0 _ h' e).2 _ w cargs (hrel0 w) ha).mono ?_
  rintro en w' ⟨cv, ρ', he, p, hv⟩
  simp only [VRel] at hv
  subst hv
  exact ⟨he, fun c hc => p.frame c hc (fun b x l hg => by rw [heap0_get] at hg; cases hg), p.os, p.output⟩

/-- A closed function as a whole: what it answers, in any heap. -/
def wholeP (v : Val) : List Val → Heap → Option (Val × Heap) := fun args h => match args with
  | [] => some (v, h)
  | _ => none

theorem whole_ext {v : Val} {args : List Val} {h h' : Heap} {x : Val} (e : wholeP v args h = some (x, h')) : HExt h h' := by
  unfold wholeP at e
  split at e
  · cases e; exact .refl _
  · cases e

/-- A closed function that answers true: sound as a whole. -/
theorem whole_sound {P : Program} {E : Env} (hE : EnvOk P E) (hpe : PrimsExt E) {n : Nat} {f : FuncId} {h1 : Heap} (e : run E n f [] heap0 = some (.bool true, h1)) : (∃ fn, FnOk P f fn) ∧ ∀ args h v h', wholeP (.bool true) args h = some (v, h') →
    ∀ ρ w (cargs : Array Value), HRel ρ h w → VRels ρ args cargs.toList → Calls P f cargs w (fun e w' => ∃ cv ρ', e = .returned cv ∧ Post ρ h w ρ' h' w' ∧ VRel ρ' v cv) := by
  refine ⟨?_, ?_⟩
  · obtain ⟨⟨fn, h1, h2, h3⟩, _⟩ := run_sound hE hpe n f [] heap0 _ h1 e
    exact ⟨fn, h1, h2, h3⟩
  · intro args h v h' ew ρ w cargs hr ha
    unfold wholeP at ew
    split at ew
    · cases ew
      simp only [VRels] at ha
      obtain rfl : cargs = #[] := Array.ext' (by simpa using ha)
      refine (run_closed hE hpe e w).mono ?_
      rintro en w' ⟨cv, ρ', he, hv, _, h3, h4, h5, h6, h7⟩
      simp only [VRel] at hv
      refine ⟨cv, ρ, he, ?_, by simp only [VRel]; exact hv⟩
      refine ⟨Ren.le_refl _, ⟨?_, hr.inj, hr.top, hr.low, hr.bs, hr.tight⟩, rfl, rfl, rfl, Nat.le_refl _, fun _ _ h => h, h3, h4, h5, h6, fun c hc _ => h7 c hc, fun b l h1 h2 => (by rw [h1] at h2; cases h2), fun b l h1 h2 => (by rw [h1] at h2; cases h2)⟩
      intro b x eb
      obtain ⟨l, h1, h2⟩ := hr.blk b x eb
      exact ⟨l, h1, h2.mono (Ren.le_refl _) (h7 _ h2.lt)⟩
    · cases ew

end Go.V
end

section
set_option linter.unusedVariables false
set_option linter.unusedSimpArgs false
set_option linter.unusedSectionVars false
namespace Go.V
open Go

theorem mapM_imp {α β : Type} {f g : α → Option β} : ∀ {l : List α} {r : List β}, l.mapM f = some r → (∀ i ∈ l, ∀ y ∈ r, f i = some y → g i = some y) → l.mapM g = some r
  | [], r, h, _ => by simpa using h
  | a :: l, r, h, k => by
    rw [List.mapM_cons] at h ⊢
    cases ha : f a with
    | none => rw [ha] at h; cases h
    | some y =>
      rw [ha] at h
      cases hl : l.mapM f with
      | none => simp [hl] at h
      | some s =>
        simp only [hl, Option.pure_def, Option.bind_eq_bind, Option.bind_some, Option.some.injEq] at h
        subst h
        rw [k a (by simp) y (by simp) ha]
        rw [mapM_imp hl fun i hi z hz e => k i (by simp [hi]) z (by simp [hz]) e]
        rfl

def Same (W W' : World) : Prop := ∀ c, c < W.heap.size → W'.heap[c]? = W.heap[c]?

theorem Same.cell {W W' : World} (h : Same W W') {a : Addr} {v : Value} (e : W.cell? a = some v) : W'.cell? a = some v := by
  unfold World.cell? at e ⊢
  split at e
  · rename_i hb
    have : a.block < W.heap.size := (Array.getElem?_eq_some_iff.1 hb).1
    rw [h _ this, hb]
    exact e
  · cases e

theorem Same.cells {W W' : World} (h : Same W W') {base : Nat} {a : Addr} {n : Nat} {l : List Value} (e : W.cells? base a n = some l) : W'.cells? base a n = some l := by
  unfold World.cells? at e ⊢
  split at e
  · rename_i hb
    rw [if_pos hb]
    exact mapM_imp e fun i _ y _ k => h.cell k
  · cases e

theorem bind_imp {α β : Type} {x : Option α} {f : α → Option β} {y : β} (h : x.bind f = some y) : ∃ a, x = some a ∧ f a = some y := by
  cases x with
  | none => cases h
  | some a => exact ⟨a, rfl, h⟩

variable {H : Type} {enc : TypeId × Value → H} {P : Program}

theorem row_mem {a : Addr} {n : Nat} (hn : 0 < n) : MemPlace.cell a.block (a.off + 0) ∈ MemPlace.row a n := by
  unfold MemPlace.row
  exact List.mem_map.2 ⟨0, by simpa using hn, rfl⟩

/-- Types that an argument may have here: plain ones, and slices of them. -/
def okT (P : Program) : Nat → TypeId → Bool
  | 0, _ => false
  | d + 1, t => match P.underlying t with
    | some (.int _) | some .bool | some .string => true
    | some (.struct fs) => fs.toList.all fun f => okT P d f.type
    | some (.array _ e) => okT P d e
    | some (.slice e) => P.cellsOf e != 0 && okT P d e
    | _ => false

theorem trod_same {W W' : World} (h : Same W W') {base : Nat} {held : Bool} {sp : Nat → Bool} : ∀ (fuel d : Nat) (t : TypeId) (cs : List Value) (x : DataW H × List MemPlace), okT P d t = true →
    DataW.trod enc P W base (fun _ => true) held fuel t cs = some x → (∀ p ∈ x.2, sp p.block = true) → DataW.trod enc P W' base sp held fuel t cs = some x
  | 0, _, _, _, _, _, e, _ => by simp [DataW.trod] at e
  | _ + 1, 0, _, _, _, hk, _, _ => by simp [okT] at hk
  | fuel + 1, d + 1, t, cs, x, hk, e, hp => by
    have ih := trod_same h (base := base) (held := held) (sp := sp) fuel d
    simp only [okT] at hk
    unfold DataW.trod at e ⊢
    generalize hu : P.underlying t = u at e hk ⊢
    split at e <;> (try (first | exact e | (simp only at e; cases e; done)))
    · cases hk
    · -- slices
      rename_i e0 a len cap
      simp only [Bool.and_eq_true, bne_iff_ne, ne_eq] at hk
      simp only at e ⊢
      split at e
      · rename_i hc
        rw [if_pos hc]
        obtain ⟨elems, e1, e2⟩ := bind_imp e
        simp only [Option.map_eq_some_iff, if_true] at e2
        obtain ⟨rest, e3, rfl⟩ := e2
        have step : ∀ i, ∀ y, (∀ p ∈ y.2, sp p.block = true) → (W.cells? base (a.add (i * P.cellsOf e0)) (P.cellsOf e0)).bind (DataW.trod enc P W base (fun _ => true) held fuel e0) = some y →
            (W'.cells? base (a.add (i * P.cellsOf e0)) (P.cellsOf e0)).bind (DataW.trod enc P W' base sp held fuel e0) = some y := by
          intro i y hy k
          obtain ⟨l, k1, k2⟩ := bind_imp k
          rw [h.cells k1]
          exact ih _ _ _ hk.2 k2 hy
        have h1 := mapM_imp (g := fun i => (W'.cells? base (a.add (i * P.cellsOf e0)) (P.cellsOf e0)).bind (DataW.trod enc P W' base sp held fuel e0)) e1 fun i _ y hy k => step i y (fun p q => hp p (by
          simp only [List.mem_append, List.mem_flatMap]; exact .inr ⟨y, .inl hy, q⟩)) k
        rw [h1]
        simp only [Option.bind_some, Option.map_eq_some_iff]
        refine ⟨rest, ?_, rfl⟩
        have h3 := mapM_imp (g := fun j => (W'.cells? base (a.add ((len + j) * P.cellsOf e0)) (P.cellsOf e0)).bind (DataW.trod enc P W' base sp held fuel e0)) e3 fun i _ y hy k => step (len + i) y (fun p q => hp p (by
          simp only [List.mem_append, List.mem_flatMap]; exact .inr ⟨y, .inr hy, q⟩)) k
        split
        · exact h3
        · rename_i hs
          cases rest with
          | nil => rfl
          | cons r rest =>
            exfalso
            apply hs
            have hz := hk.1
            have := hp (.cell a.block (a.off + 0)) (by
              simp only [List.mem_append]
              exact .inl (row_mem (Nat.mul_pos (by simp only [List.length_cons]; omega) (Nat.pos_of_ne_zero hz))))
            exact this
      · cases e
    · -- structs
      split at e
      · rename_i hc
        rw [if_pos hc]
        simp only [Option.map_eq_some_iff] at e ⊢
        obtain ⟨xs, e1, rfl⟩ := e
        refine ⟨xs, mapM_imp e1 fun f hf y hy k => ih _ _ _ (List.all_eq_true.1 hk f hf) k fun p q => hp p ?_, rfl⟩
        simp only [List.mem_flatMap]
        exact ⟨y, hy, q⟩
      · cases e
    · -- arrays
      split at e
      · rename_i hc
        rw [if_pos hc]
        simp only [Option.map_eq_some_iff] at e ⊢
        obtain ⟨xs, e1, rfl⟩ := e
        refine ⟨xs, mapM_imp e1 fun f _ y hy k => ih _ _ _ hk k fun p q => hp p ?_, rfl⟩
        simp only [List.mem_flatMap]
        exact ⟨y, hy, q⟩
      · cases e
    · cases hk
    · cases hk

theorem trodAll_same {W W' : World} (h : Same W W') {base : Nat} {held : Bool} {sp : Nat → Bool} : ∀ {ts : List TypeId} {vs : List Value} {ds : List (DataW H)} {ps : List MemPlace}, ts.all (okT P 8) = true →
    DataW.TrodAll enc P W base (fun _ => true) held ts vs ds ps → (∀ p ∈ ps, sp p.block = true) → DataW.TrodAll enc P W' base sp held ts vs ds ps
  | [], [], [], _, _, e, _ => e
  | _ :: _, _ :: _, _ :: _, _, hk, ⟨p, q, ⟨n, e1⟩, e2, e3⟩, hp => by
    simp only [List.all_cons, Bool.and_eq_true] at hk
    exact ⟨p, q, ⟨n, trod_same h n 8 _ _ _ hk.1 e1 fun x hx => hp x (by rw [e3]; simp [hx])⟩, trodAll_same h hk.2 e2 fun x hx => hp x (by rw [e3]; simp [hx]), e3⟩

end Go.V
end

section
set_option linter.unusedVariables false
set_option linter.unusedSimpArgs false
set_option linter.unusedSectionVars false
namespace Go.V
open Go Go.ChangeShapes Go.WideShapes Go.ChangeAt Go.RowKit

variable {H : Type} {enc : TypeId × Value → H} {P : Program}

def flatFs (P : Program) (leaf : TypeId → Option (List IntKind)) : Nat → List Field → Option (List IntKind)
  | _, [] => some []
  | off, f :: r => match leaf f.type with
    | some ks => if f.offset = off ∧ ks.length = P.cellsOf f.type then (match flatFs P leaf (off + ks.length) r with
      | some rs => some (ks ++ rs)
      | none => none) else none
    | none => none

/-- The kinds of a plain type's cells: numbers, structs and arrays of them. -/
def flatT (P : Program) : Nat → TypeId → Option (List IntKind)
  | 0, _ => none
  | d + 1, t => match P.underlying t with
    | some (.int k) => some [k]
    | some (.struct fs) => match flatFs P (flatT P d) 0 fs.toList with
      | some ks => if ks.length = P.cellsOf t then some ks else none
      | none => none
    | some (.array n e) => match flatT P d e with
      | some ks => if ks.length = P.cellsOf e ∧ P.cellsOf t = n * ks.length then some (List.replicate n ks).flatten else none
      | none => none
    | _ => none

def Ints : List IntKind → List Value → Prop
  | [], [] => True
  | k :: ks, v :: vs => (∃ n, v = .int k n ∧ (Lit.int k n).wf = true) ∧ Ints ks vs
  | _, _ => False

theorem Ints.length : ∀ {ks : List IntKind} {vs : List Value}, Ints ks vs → vs.length = ks.length
  | [], [], _ => rfl
  | _ :: _, _ :: _, h => by simp [Ints.length h.2]
  | [], _ :: _, h => h.elim
  | _ :: _, [], h => h.elim

theorem ints1 {k1 : IntKind} : ∀ {l : List Value}, Ints [k1] l → ∃ a, l = [.int k1 a] ∧ (Lit.int k1 a).wf = true
  | [_], ⟨⟨a, h1, w1⟩, _⟩ => ⟨a, by rw [h1], w1⟩
  | [], h => h.elim
  | _ :: _ :: _, ⟨_, h⟩ => h.elim

theorem ints2 {k1 k2 : IntKind} : ∀ {l : List Value}, Ints [k1, k2] l → ∃ a b, l = [.int k1 a, .int k2 b] ∧ (Lit.int k1 a).wf = true ∧ (Lit.int k2 b).wf = true
  | _ :: _, ⟨⟨a, h1, w1⟩, h⟩ => by
    obtain ⟨b, rfl, w2⟩ := ints1 h
    exact ⟨a, b, by rw [h1], w1, w2⟩
  | [], h => h.elim

theorem ints3 {k1 k2 k3 : IntKind} : ∀ {l : List Value}, Ints [k1, k2, k3] l → ∃ a b c, l = [.int k1 a, .int k2 b, .int k3 c] ∧ (Lit.int k1 a).wf = true ∧ (Lit.int k2 b).wf = true ∧ (Lit.int k3 c).wf = true
  | _ :: _, ⟨⟨a, h1, w1⟩, h⟩ => by
    obtain ⟨b, c, rfl, w2, w3⟩ := ints2 h
    exact ⟨a, b, c, by rw [h1], w1, w2, w3⟩
  | [], h => h.elim

theorem Ints.append : ∀ {ks js : List IntKind} {vs us : List Value}, Ints ks vs → Ints js us → Ints (ks ++ js) (vs ++ us)
  | [], _, [], _, _, h => h
  | _ :: _, _, _ :: _, _, h, k => ⟨h.1, Ints.append h.2 k⟩
  | [], _, _ :: _, _, h, _ => h.elim
  | _ :: _, _, [], _, h, _ => h.elim

theorem flatFs_ok {leaf : TypeId → Option (List IntKind)} {cs : List Value} {tr : TypeId → List Value → Option (DataW H × List MemPlace)} (hl : ∀ t ks cs x, leaf t = some ks → tr t cs = some x → Ints ks cs ∧ x.2 = []) :
    ∀ (fl : List Field) (off : Nat) (ks : List IntKind) (xs : List (DataW H × List MemPlace)), flatFs P leaf off fl = some ks → fl.mapM (fun f => tr f.type ((cs.drop f.offset).take (P.cellsOf f.type))) = some xs → Ints ks ((cs.drop off).take ks.length) ∧ xs.flatMap (·.2) = []
  | [], off, ks, xs, h, e => by
    simp only [flatFs, Option.some.injEq] at h; subst h
    simp at e; subst e
    simp [Ints]
  | f :: r, off, ks, xs, h, e => by
    simp only [flatFs] at h
    split at h
    · rename_i k1 hk1
      split at h
      · rename_i hc
        split at h
        · rename_i rs hrs
          cases h
          rw [List.mapM_cons] at e
          cases h1 : tr f.type ((cs.drop f.offset).take (P.cellsOf f.type)) with
          | none => rw [h1] at e; cases e
          | some y =>
            rw [h1] at e
            cases h2 : r.mapM (fun f => tr f.type ((cs.drop f.offset).take (P.cellsOf f.type))) with
            | none => simp [h2] at e
            | some ys =>
              simp only [h2, Option.pure_def, Option.bind_eq_bind, Option.bind_some, Option.some.injEq] at e
              subst e
              obtain ⟨i1, p1⟩ := hl _ _ _ _ hk1 h1
              obtain ⟨i2, p2⟩ := flatFs_ok hl r _ _ _ hrs h2
              rw [hc.1, ← hc.2] at i1
              refine ⟨?_, by simp [p1, p2]⟩
              have := i1.append i2
              rw [← List.drop_drop] at this
              rw [List.length_append]
              have e3 : ∀ (l : List Value) (a b : Nat), l.take a ++ (l.drop a).take b = l.take (a + b) := fun l a b => by rw [List.take_add]
              rw [e3] at this
              exact this
        · cases h
      · cases h
    · cases h

theorem range_ok {k : Nat} {ks : List IntKind} {cs : List Value} (hk : ks.length = k) {f : Nat → Option (DataW H × List MemPlace)} (hl : ∀ i x, f i = some x → Ints ks ((cs.drop (i * k)).take k) ∧ x.2 = []) :
    ∀ (n s : Nat) (xs : List (DataW H × List MemPlace)), (List.range' s n).mapM f = some xs → Ints (List.replicate n ks).flatten ((cs.drop (s * k)).take (n * k)) ∧ xs.flatMap (·.2) = []
  | 0, s, xs, e => by
    simp at e; subst e
    simp [Ints]
  | n + 1, s, xs, e => by
    rw [List.range'_succ, List.mapM_cons] at e
    cases h1 : f s with
    | none => rw [h1] at e; cases e
    | some y =>
      rw [h1] at e
      cases h2 : (List.range' (s + 1) n).mapM f with
      | none => simp [h2] at e
      | some ys =>
        simp only [h2, Option.pure_def, Option.bind_eq_bind, Option.bind_some, Option.some.injEq] at e
        subst e
        obtain ⟨i1, p1⟩ := hl _ _ h1
        obtain ⟨i2, p2⟩ := range_ok hk hl n (s + 1) ys h2
        refine ⟨?_, by simp [p1, p2]⟩
        have := i1.append i2
        rw [Nat.succ_mul, ← List.drop_drop, ← List.take_add] at this
        rw [List.replicate_succ, List.flatten_cons, Nat.succ_mul, Nat.add_comm (n * k)]
        exact this

theorem flat_trod {W : World} {base : Nat} {held : Bool} {sp : Nat → Bool} : ∀ (d : Nat) (t : TypeId) (ks : List IntKind) (fuel : Nat) (cs : List Value) (x : DataW H × List MemPlace), flatT P d t = some ks → DataW.trod enc P W base sp held fuel t cs = some x → Ints ks cs ∧ x.2 = []
  | 0, _, _, _, _, _, h, _ => by simp [flatT] at h
  | _ + 1, _, _, 0, _, _, _, e => by simp [DataW.trod] at e
  | d + 1, t, ks, fuel + 1, cs, x, h, e => by
    simp only [flatT] at h
    unfold DataW.trod at e
    generalize P.underlying t = u at h e
    split at h
    · rename_i k
      cases h
      split at e
      case h_2 =>
        rename_i k1 k2 n hh
        simp only [Option.some.injEq, TypeDesc.int.injEq] at hh
        subst hh
        split at e
        · rename_i hc
          cases e
          obtain ⟨rfl, hw⟩ := hc
          exact ⟨⟨⟨_, rfl, hw⟩, trivial⟩, rfl⟩
        · cases e
      all_goals first | (cases e; done) | (exfalso; simp at *; done)
    · rename_i fs
      split at h
      · rename_i ks' hks
        split at h
        · rename_i hlen
          cases h
          simp only at e
          split at e
          · rename_i hcl
            simp only [Option.map_eq_some_iff] at e
            obtain ⟨xs, e1, rfl⟩ := e
            obtain ⟨i, p⟩ := flatFs_ok (fun t ks cs x a b => flat_trod d t ks fuel cs x a b) _ _ _ _ hks e1
            refine ⟨?_, p⟩
            rw [List.drop_zero, hlen, ← hcl, List.take_length] at i
            exact i
          · cases e
        · cases h
      · cases h
    · rename_i n e0
      split at h
      · rename_i ks' hks
        split at h
        · rename_i hc
          cases h
          simp only at e
          split at e
          · rename_i hcl
            simp only [Option.map_eq_some_iff] at e
            obtain ⟨xs, e1, rfl⟩ := e
            rw [List.range_eq_range'] at e1
            obtain ⟨i, p⟩ := range_ok (k := P.cellsOf e0) (cs := cs) hc.1 (fun i x a => flat_trod d e0 ks' fuel _ x hks a) _ _ _ e1
            refine ⟨?_, p⟩
            rw [Nat.zero_mul, List.drop_zero, ← hc.1, ← hc.2, ← hcl, List.take_length] at i
            exact i
          · cases e
        · cases h
      · cases h
    · cases h

/-- What a law's call leaves: true; the arguments read as they did. -/
theorem post_law {f : Func} {s : ChangeSpec} {apart fresh handsOn again : Bool} {W W' : World} {args : Array Value} {ds gs : List (DataW H)} {before : List MemPlace} {tb : TypeId}
    (hz : f.params.toList.all (okT P 8) = true) (hW : DataW.Whole enc P f.params.toList s.vars apart W args.toList ds gs before) (hv : s.vars = []) (hrt : f.resultTypes = #[tb]) (htb : P.underlying tb = some .bool)
    (hfn : s.fn H (ds ++ gs) = { results := [.lit (.bool true)], args := ds }) (hs : Same W W') (ho : W'.os = W.os) (hp : W'.output = W.output) :
    s.post enc P f apart fresh handsOn again W args (.bool true) W' := by
  have hW' := hW
  obtain ⟨p, q, hA, hV, rfl, hfz, hnd⟩ := hW
  rw [hv] at hV
  obtain ⟨rfl, rfl⟩ := trodVars_none hV
  simp only [List.append_nil] at hW' hfn hfz hnd
  have hres : ∀ (b : Nat) (sp : Nat → Bool) (hd : Bool), DataW.TrodAll enc P W' b sp hd f.resultTypes.toList ((Value.bool true).resultList f.resultTypes.size) (s.fn H (ds ++ [])).results [] := by
    intro b sp hd
    rw [List.append_nil, hfn, hrt]
    exact trodAll_cons_mk (shut_bool htb true) trodAll_mk0
  have hold : ∀ x ∈ p, (fun b => decide (b < W.heap.size)) x.block = true := fun x hx => by simpa using hW'.lt x hx
  have hargs : ∀ sp : Nat → Bool, (∀ x ∈ p, sp x.block = true) → DataW.TrodAll enc P W' 0 sp true f.params.toList args.toList (s.fn H (ds ++ [])).args p := by
    intro sp hsp
    rw [List.append_nil, hfn]
    exact trodAll_same hs hz hA hsp
  have hvars : ∀ sp : Nat → Bool, DataW.TrodVars enc P W' sp s.vars (s.fn H (ds ++ [])).vars [] := by
    intro sp
    rw [List.append_nil, hfn, hv]
    rfl
  have hk : W.keptBut W' (fun x => x ∈ p ∧ (x ∈ ([] : List MemPlace) ∨ x ∈ p ∨ x ∈ ([] : List MemPlace))) := by
    refine ⟨ho, hp, fun i hi => ?_⟩
    rw [hs i hi]
    split
    · rename_i e1 e2; cases e2.symm.trans e1; exact ⟨rfl, rfl, rfl, fun _ _ => rfl⟩
    · rename_i e1 e2; cases e2.symm.trans e1; exact .inr ⟨rfl, rfl⟩
    · rfl
  refine ⟨ds, [], p, [], p, [], by simpa using hW', hres _ _ _, hargs _ hold, hvars _, hk, fun _ => ?_⟩
  refine ⟨?_, _, _, ([] ++ p) ++ [], ⟨[] ++ p, [], trodAll_append (hargs _ (fun _ _ => rfl)) (hres _ _ _), hvars _, rfl, ?_, ?_⟩, ?_⟩
  · rw [hrt]
    intro j t r h1 h2
    cases j with
    | zero =>
      simp at h1 h2
      subst h1
      have : r = .bool true := by simpa [Value.resultList] using h2.symm
      subst this
      exact okWide_bool_mk htb _
    | succ j => simp at h1
  · intro b off hx
    have hx' : MemPlace.cell b off ∈ p := by simpa using hx
    have hlt := hW'.lt _ hx'
    have := hfz b off hx'
    unfold World.frozen? at this ⊢
    rw [hs b hlt]
    exact this
  · intro ha
    simpa using hnd ha
  · intro x hx _
    simpa using hx

end Go.V
end

section
set_option linter.unusedVariables false
set_option linter.unusedSimpArgs false
set_option linter.unusedSectionVars false
namespace Go.V

def CallLe (c d : CallT) : Prop := ∀ f a h r, c f a h = some r → d f a h = some r

theorem step_mono {meth : TypeId → Val → String → Option (FuncId × Val)} {c d : CallT} (hcd : CallLe c d) {fr : List Val} {h : Heap} {o : VOp} {r : Val × Heap} (e : step meth c fr h o = some r) : step meth d fr h o = some r := by
  cases o
  case call f l => simp only [step] at e ⊢; exact hcd _ _ _ _ e
  case callv x l =>
    simp only [step] at e ⊢
    split at e
    · exact hcd _ _ _ _ e
    · cases e
  case invoke x n l =>
    simp only [step] at e ⊢
    generalize ev fr x = y at e ⊢
    cases y with
    | iface t v =>
      simp only at e ⊢
      cases hm : meth t v n with
      | none => rw [hm] at e; cases e
      | some p => rw [hm] at e; exact hcd _ _ _ _ e
    | _ => cases e
  all_goals exact e

theorem runOps_mono {meth : TypeId → Val → String → Option (FuncId × Val)} {c d : CallT} (hcd : CallLe c d) : ∀ (l : List VOper) (fr : List Val) (h : Heap) (r : List Val × Heap), runOps meth c l fr h = some r → runOps meth d l fr h = some r
  | [], fr, h, r, e => e
  | o :: l, fr, h, r, e => by
    simp only [runOps] at e ⊢
    split at e
    · cases e
    · exact runOps_mono hcd l _ _ r e
    · split at e
      · rename_i hs
        rw [step_mono hcd hs]
        exact runOps_mono hcd l _ _ r e
      · cases e

theorem runDraw_mono {meth : TypeId → Val → String → Option (FuncId × Val)} {c d : CallT} (hcd : CallLe c d) : ∀ (l : List VOper) (rs : List (Nat × Nat)) (fr : List Val) (h : Heap) (r : List Val × Heap), runDraw meth c l rs fr h = some r → runDraw meth d l rs fr h = some r
  | [], rs, fr, h, r, e => e
  | o :: l, rs, fr, h, r, e => by
    simp only [runDraw] at e ⊢
    split at e
    · cases e
    · exact runDraw_mono hcd l _ _ _ r e
    · split at e
      · rename_i hk
        rw [if_pos hk]
        split at e
        · rename_i hs
          rw [step_mono hcd hs]
          exact runDraw_mono hcd l _ _ _ r e
        · cases e
      · rename_i hk
        rw [if_neg hk]
        split at e
        · rename_i hk2
          rw [if_pos hk2]
          split at e
          · rename_i hs
            rw [step_mono hcd hs]
            exact runDraw_mono hcd l _ _ _ r e
          · cases e
        · cases e

def ExecLe (c d : VC → List Val → Heap → Option (Ex × List Val × Heap)) : Prop := ∀ vc fr h r, c vc fr h = some r → d vc fr h = some r

theorem callF_mono {E : Env} {c d : VC → List Val → Heap → Option (Ex × List Val × Heap)} (hcd : ExecLe c d) : CallLe (callF E c) (callF E d) := by
  intro f a h r e
  unfold callF at e ⊢
  split at e
  · exact e
  · split at e
    · cases e
    · rename_i vf _
      cases hx : c vf.body (enter vf.ntmps a) h with
      | none => rw [hx] at e; cases e
      | some q =>
        rw [hx] at e
        rw [hcd _ _ _ _ hx]
        exact e

theorem exec_mono1 (E : Env) : ∀ n, ExecLe (exec E n) (exec E (n + 1))
  | 0 => by intro vc fr h r e; simp [exec] at e
  | n + 1 => by
    have ih := exec_mono1 E n
    intro vc fr h r e
    have hc := callF_mono (E := E) ih
    cases vc with
    | skip => exact e
    | exit => exact e
    | ret => exact e
    | region ops =>
      rw [exec] at e ⊢
      split at e
      · rename_i hx
        rw [runOps_mono hc _ _ _ _ hx]; exact e
      · cases e
    | draw ops =>
      rw [exec] at e ⊢
      split at e
      · rename_i hx
        rw [runDraw_mono hc _ _ _ _ _ hx]; exact e
      · cases e
    | seq a b =>
      rw [exec] at e ⊢
      split at e
      · rename_i hx
        rw [ih _ _ _ _ hx]
        exact ih _ _ _ _ e
      · rename_i hx
        have h1 := ih _ _ _ _ e
        rw [h1]
        obtain ⟨ex, fr', h'⟩ := r
        cases ex with
        | normal => exact absurd e (hx _ _)
        | _ => rfl
    | cond c a b =>
      rw [exec] at e ⊢
      split at e
      · exact ih _ _ _ _ e
      · exact ih _ _ _ _ e
      · cases e
    | block id a =>
      rw [exec] at e ⊢
      split at e
      · rename_i hx
        rw [ih _ _ _ _ hx]; exact e
      · rename_i hx
        have h1 := ih _ _ _ _ e
        rw [h1]
        obtain ⟨ex, fr', h'⟩ := r
        cases ex with
        | exit i => exact absurd e (hx _ _ _)
        | _ => rfl
    | loop a =>
      rw [exec] at e ⊢
      split at e
      · rename_i hx
        rw [ih _ _ _ _ hx]
        exact ih _ _ _ _ e
      · rename_i hx
        have h1 := ih _ _ _ _ e
        rw [h1]
        obtain ⟨ex, fr', h'⟩ := r
        cases ex with
        | normal => exact absurd e (hx _ _)
        | _ => rfl

theorem exec_mono {E : Env} {n m : Nat} (hnm : n ≤ m) : ExecLe (exec E n) (exec E m) := by
  induction m with
  | zero => have : n = 0 := by omega
            subst this; exact fun _ _ _ _ e => e
  | succ m ih =>
    by_cases h : n = m + 1
    · subst h; exact fun _ _ _ _ e => e
    · exact fun vc fr h r e => exec_mono1 E m vc fr h r (ih (by omega) vc fr h r e)

theorem run_mono {E : Env} {n m : Nat} (hnm : n ≤ m) : CallLe (run E n) (run E m) := callF_mono (exec_mono hnm)

/- THE RULES. -/
inductive WE (E : Env) (vc : VC) (fr : List Val) (h : Heap) (Q : Ex → List Val → Heap → Prop) : Prop
  | mk (n : Nat) (ex : Ex) (fr' : List Val) (h' : Heap) (e : exec E n vc fr h = some (ex, fr', h')) (q : Q ex fr' h')
inductive WO (E : Env) (l : List VOper) (fr : List Val) (h : Heap) (Q : List Val → Heap → Prop) : Prop
  | mk (n : Nat) (fr' : List Val) (h' : Heap) (e : runOps E.meth (run E n) l fr h = some (fr', h')) (q : Q fr' h')
inductive WD (E : Env) (l : List VOper) (rs : List (Nat × Nat)) (fr : List Val) (h : Heap) (Q : List Val → Heap → Prop) : Prop
  | mk (n : Nat) (fr' : List Val) (h' : Heap) (e : runDraw E.meth (run E n) l rs fr h = some (fr', h')) (q : Q fr' h')
inductive WC (E : Env) (f : FuncId) (args : List Val) (h : Heap) (Q : Val → Heap → Prop) : Prop
  | mk (n : Nat) (v : Val) (h' : Heap) (e : run E n f args h = some (v, h')) (q : Q v h')

variable {E : Env} {fr : List Val} {h : Heap} {Q : Ex → List Val → Heap → Prop}

theorem WE.mono {vc : VC} {Q' : Ex → List Val → Heap → Prop} (w : WE E vc fr h Q) (k : ∀ ex fr h, Q ex fr h → Q' ex fr h) : WE E vc fr h Q' := by
  obtain ⟨n, ex, fr', h', e, q⟩ := w
  exact ⟨n, ex, fr', h', e, k _ _ _ q⟩

theorem WC.mono {f : FuncId} {args : List Val} {R R' : Val → Heap → Prop} (w : WC E f args h R) (k : ∀ v h, R v h → R' v h) : WC E f args h R' := by
  obtain ⟨n, v, h', e, q⟩ := w
  exact ⟨n, v, h', e, k _ _ q⟩

theorem WE.skip (k : Q .normal fr h) : WE E .skip fr h Q := ⟨1, _, _, _, rfl, k⟩
theorem WE.exit {i : Nat} (k : Q (.exit i) fr h) : WE E (.exit i) fr h Q := ⟨1, _, _, _, rfl, k⟩
theorem WE.ret (k : Q .ret fr h) : WE E .ret fr h Q := ⟨1, _, _, _, rfl, k⟩

theorem WE.region {l : List VOper} (w : WO E l fr h (Q .normal)) : WE E (.region l) fr h Q := by
  obtain ⟨n, fr', h', e, q⟩ := w
  refine ⟨n + 1, .normal, fr', h', ?_, q⟩
  simp only [exec]
  rw [show callF E (exec E n) = run E n from rfl, e]

theorem WE.draw {l : List VOper} (w : WD E l [] fr h (Q .normal)) : WE E (.draw l) fr h Q := by
  obtain ⟨n, fr', h', e, q⟩ := w
  refine ⟨n + 1, .normal, fr', h', ?_, q⟩
  simp only [exec]
  rw [show callF E (exec E n) = run E n from rfl, e]

def seqQ (E : Env) (b : VC) (Q : Ex → List Val → Heap → Prop) : Ex → List Val → Heap → Prop
  | .normal, fr, h => WE E b fr h Q
  | ex, fr, h => Q ex fr h

theorem WE.seq {a b : VC} (w : WE E a fr h (seqQ E b Q)) : WE E (.seq a b) fr h Q := by
  obtain ⟨n, ex, fr', h', e, q⟩ := w
  cases ex with
  | normal =>
    obtain ⟨m, ex2, fr2, h2, e2, q2⟩ := q
    refine ⟨max n m + 1, ex2, fr2, h2, ?_, q2⟩
    rw [exec, exec_mono (Nat.le_max_left n m) _ _ _ _ e]
    exact exec_mono (Nat.le_max_right n m) _ _ _ _ e2
  | exit i => exact ⟨n + 1, _, fr', h', by rw [exec, e], q⟩
  | ret => exact ⟨n + 1, _, fr', h', by rw [exec, e], q⟩

theorem WE.cond {c : Opd} {a b : VC} {t : Bool} (hc : ev fr c = .bool t) (w : WE E (if t then a else b) fr h Q) : WE E (.cond c a b) fr h Q := by
  obtain ⟨n, ex, fr', h', e, q⟩ := w
  refine ⟨n + 1, ex, fr', h', ?_, q⟩
  rw [exec, hc]
  cases t <;> exact e

def blockQ (id : Nat) (Q : Ex → List Val → Heap → Prop) : Ex → List Val → Heap → Prop
  | .exit i, fr, h => if i = id then Q .normal fr h else Q (.exit i) fr h
  | ex, fr, h => Q ex fr h

theorem WE.block {id : Nat} {a : VC} (w : WE E a fr h (blockQ id Q)) : WE E (.block id a) fr h Q := by
  obtain ⟨n, ex, fr', h', e, q⟩ := w
  cases ex with
  | exit i =>
    simp only [blockQ] at q
    split at q
    · rename_i hi; exact ⟨n + 1, _, fr', h', by rw [exec, e]; simp [hi], q⟩
    · rename_i hi; exact ⟨n + 1, _, fr', h', by rw [exec, e]; simp [hi], q⟩
  | normal => exact ⟨n + 1, _, fr', h', by rw [exec, e], q⟩
  | ret => exact ⟨n + 1, _, fr', h', by rw [exec, e], q⟩

/-- A loop that an invariant holds, with a measure. -/
theorem WE.loop {a : VC} (I : Nat → List Val → Heap → Prop) (hs : ∀ k fr h, I k fr h → WE E a fr h fun ex fr' h' => match ex with | .normal => ∃ k', k' < k ∧ I k' fr' h' | ex => Q ex fr' h') :
    ∀ k fr h, I k fr h → WE E (.loop a) fr h Q := by
  intro k
  induction k using Nat.strongRecOn with
  | ind k ih =>
    intro fr h hi
    obtain ⟨n, ex, fr', h', e, q⟩ := hs k fr h hi
    cases ex with
    | normal =>
      obtain ⟨k', hk, hi'⟩ := q
      obtain ⟨m, ex2, fr2, h2, e2, q2⟩ := ih k' hk fr' h' hi'
      refine ⟨max n m + 1, ex2, fr2, h2, ?_, q2⟩
      rw [exec, exec_mono (Nat.le_max_left n m) _ _ _ _ e]
      exact exec_mono (Nat.le_max_right n m) _ _ _ _ e2
    | exit i => exact ⟨n + 1, _, fr', h', by rw [exec, e], q⟩
    | ret => exact ⟨n + 1, _, fr', h', by rw [exec, e], q⟩

theorem WO.nil {R : List Val → Heap → Prop} (k : R fr h) : WO E [] fr h R := ⟨0, _, _, rfl, k⟩

theorem WO.op {o : VOper} {l : List VOper} {R : List Val → Heap → Prop} (hg : wanted fr o.guard = some true) {n : Nat} {v : Val} {h' : Heap} (hs : step E.meth (run E n) fr h o.op = some (v, h')) (k : WO E l (setDst fr o.dst v) h' R) : WO E (o :: l) fr h R := by
  obtain ⟨m, fr2, h2, e, q⟩ := k
  refine ⟨max n m, fr2, h2, ?_, q⟩
  rw [runOps, hg]
  simp only
  rw [step_mono (run_mono (Nat.le_max_left n m)) hs]
  exact runOps_mono (run_mono (Nat.le_max_right n m)) _ _ _ _ e

theorem WO.not {o : VOper} {l : List VOper} {R : List Val → Heap → Prop} (hg : wanted fr o.guard = some false) (k : WO E l (setDst fr o.dst .undef) h R) : WO E (o :: l) fr h R := by
  obtain ⟨m, fr2, h2, e, q⟩ := k
  refine ⟨m, fr2, h2, ?_, q⟩
  rw [runOps, hg]
  exact e

theorem WO.call {d : Option Nat} {f : FuncId} {args : List Opd} {g : Option (Nat × Bool)} {fu : Bool} {hd : List Nat} {l : List VOper} {R : List Val → Heap → Prop} (hg : wanted fr g = some true) (w : WC E f (evs fr args) h fun v h' => WO E l (setDst fr d v) h' R) : WO E (⟨d, .call f args, g, fu, hd⟩ :: l) fr h R := by
  obtain ⟨n, v, h', e, q⟩ := w
  exact WO.op (o := ⟨d, .call f args, g, fu, hd⟩) hg (n := n) (by simp only [step]; exact e) q

/-- A function's call. -/
theorem WC.fn {f : FuncId} {vf : VFn} {args : List Val} {R : Val → Heap → Prop} (hp : E.prims f = none) (hf : E.fns f = some vf) (w : WE E vf.body (enter vf.ntmps args) h fun ex fr h' => match ex with | .exit _ => False | _ => ∃ l, readResults fr h' vf.results = some l ∧ R (resultOf l) h') : WC E f args h R := by
  obtain ⟨n, ex, fr', h', e, q⟩ := w
  cases ex with
  | exit i => exact q.elim
  | normal =>
    obtain ⟨l, h1, h2⟩ := q
    refine ⟨n, resultOf l, h', ?_, h2⟩
    unfold run callF
    rw [hp]; simp only; rw [hf]; simp only; rw [e]; simp only; rw [h1]
  | ret =>
    obtain ⟨l, h1, h2⟩ := q
    refine ⟨n, resultOf l, h', ?_, h2⟩
    unfold run callF
    rw [hp]; simp only; rw [hf]; simp only; rw [e]; simp only; rw [h1]

end Go.V
end

section
set_option linter.unusedVariables false
set_option linter.unusedSimpArgs false
set_option linter.unusedSectionVars false
namespace Go.V

def stepK (E : Env) (fr : List Val) (h : Heap) (o : VOp) (K : Val → Heap → Prop) : Prop := match step E.meth (run E 0) fr h o with
  | some (v, h') => K v h'
  | none => False

def opK (E : Env) (fr : List Val) (h : Heap) (o : VOper) (K : List Val → Heap → Prop) : Prop := match wanted fr o.guard with
  | some true => stepK E fr h o.op fun v h' => K (setDst fr o.dst v) h'
  | some false => K (setDst fr o.dst .undef) h
  | none => False

theorem WO.op1 {E : Env} {fr : List Val} {h : Heap} {o : VOper} {l : List VOper} {R : List Val → Heap → Prop} (w : opK E fr h o fun fr h => WO E l fr h R) : WO E (o :: l) fr h R := by
  unfold opK at w
  split at w
  · rename_i hg
    unfold stepK at w
    split at w
    · rename_i hs
      exact WO.op hg hs w
    · exact w.elim
  · rename_i hg
    exact WO.not hg w
  · exact w.elim

theorem getD_set {l : List Val} {i j : Nat} {v : Val} (hi : i < l.length) : (l.set i v).getD j .undef = if i = j then v else l.getD j .undef := by
  simp only [List.getD_eq_getElem?_getD, List.getElem?_set]
  split
  · simp [hi]
  · rfl

theorem getD_enter {n : Nat} {args : List Val} {j : Nat} : (enter n args).getD j .undef = args.getD j .undef := by
  unfold enter
  simp only [List.getD_eq_getElem?_getD]
  rcases Nat.lt_or_ge j args.length with h | h
  · rw [List.getElem?_append_left h]
  · rw [List.getElem?_append_right h, List.getElem?_eq_none h, List.getElem?_replicate]
    split <;> rfl

theorem length_enter {n : Nat} {args : List Val} : (enter n args).length = args.length + (n - args.length) := by simp [enter]

theorem load_at {h : Heap} {b o n : Nat} {l : List Val} (e : h.load b o n = some l) {i : Nat} (hi : i < n) : h.load b (o + i) 1 = some [l.getD i .undef] := by
  unfold Heap.load at e ⊢
  split at e
  · rename_i c hc
    split at e
    · rename_i hl
      cases e
      rw [if_pos (by omega)]
      congr 1
      have h1 : (c.drop (o + i)).take 1 = [c[o + i]'(by omega)] := by
        rw [List.take_one]
        simp [List.head?_drop, List.getElem?_eq_getElem (show o + i < c.length by omega)]
      rw [h1]
      simp [List.getD_eq_getElem?_getD, hi, List.getElem?_drop, List.getElem?_eq_getElem (show o + i < c.length by omega)]
    · cases e
  · cases e

theorem wrap_i64 {n : Int} (h1 : -9223372036854775808 ≤ n) (h2 : n < 9223372036854775808) : IntKind.i64.wrap n = n := by
  unfold IntKind.wrap
  simp (decide := true) [IntKind.signed, IntKind.bits]
  omega

/-- What is read as a list of numbers. -/
def U64s (h : Heap) (s : Val) (xs : List Int) : Prop := (s = .nils ∧ xs = []) ∨ ∃ b o cap ls, s = .slice b o xs.length cap ls ∧ h.load b o xs.length = some (xs.map (Val.int .u64))

theorem U64s.len {E : Env} {fr : List Val} {h : Heap} {s : Val} {xs : List Int} (hs : U64s h s xs) {x : Opd} (hx : V.ev fr x = s) {K : Val → Heap → Prop} (k : K (.int .i64 xs.length) h) : stepK E fr h (.lenOf x) K := by
  unfold stepK
  rcases hs with ⟨rfl, rfl⟩ | ⟨b, o, cap, ls, rfl, _⟩
  · simp only [step, hx]; exact k
  · simp only [step, hx]; exact k

theorem U64s.at {E : Env} {fr : List Val} {h : Heap} {s : Val} {xs : List Int} (hs : U64s h s xs) {x y : Opd} (hx : V.ev fr x = s) {i : Nat} {ik : IntKind} (hy : V.ev fr y = .int ik (i : Int)) (hi : i < xs.length) {K : Val → Heap → Prop}
    (k : ∀ b o, h.load b o 1 = some [.int .u64 xs[i]] → K (.ptr b o) h) : stepK E fr h (.iaddr 1 x y) K := by
  unfold stepK
  rcases hs with ⟨rfl, rfl⟩ | ⟨b, o, cap, ls, rfl, hl⟩
  · simp at hi
  · simp only [step, hx, hy]
    rw [if_pos ⟨by omega, by omega⟩]
    refine k b _ ?_
    have := load_at hl hi
    simp only [List.getD_eq_getElem?_getD, List.getElem?_map, List.getElem?_eq_getElem hi, Option.map_some, Option.getD_some] at this
    simpa using this

end Go.V
end

section
set_option linter.unusedVariables false
set_option linter.unusedSimpArgs false
set_option linter.unusedSectionVars false
namespace Go.V

def opD (E : Env) (rs : List (Nat × Nat)) (fr : List Val) (h : Heap) (o : VOper) (K : List (Nat × Nat) → List Val → Heap → Prop) : Prop := match wanted fr o.guard with
  | some true => if o.op.kind ≤ 1 ∨ o.full = true then stepK E fr h o.op fun v h' => K (rs ++ [(h.next, h'.next)]) (setDst fr o.dst v) h'
    else o.op.kind = 2 ∧ stepK E fr { h with hid := hiddenOf rs o.hide ++ h.hid, floor := h.next } o.op fun v h' => K (rs ++ [(h.next, h'.next)]) (setDst fr o.dst v) { h' with hid := h.hid, floor := h.floor }
  | some false => K (rs ++ [(h.next, h.next)]) (setDst fr o.dst .undef) h
  | none => False

theorem WD.nil {E : Env} {rs : List (Nat × Nat)} {fr : List Val} {h : Heap} {R : List Val → Heap → Prop} (k : R fr h) : WD E [] rs fr h R := ⟨0, _, _, rfl, k⟩

theorem WD.op1 {E : Env} {rs : List (Nat × Nat)} {fr : List Val} {h : Heap} {o : VOper} {l : List VOper} {R : List Val → Heap → Prop} (w : opD E rs fr h o fun rs fr h => WD E l rs fr h R) : WD E (o :: l) rs fr h R := by
  unfold opD at w
  split at w
  · rename_i hg
    split at w
    · rename_i hk
      unfold stepK at w
      split at w
      · rename_i v h' hs
        obtain ⟨m, fr2, h2, e, q⟩ := w
        refine ⟨m, fr2, h2, ?_, q⟩
        rw [runDraw, hg]
        simp only
        rw [if_pos hk, step_mono (run_mono (Nat.zero_le m)) hs]
        exact e
      · exact w.elim
    · rename_i hk
      obtain ⟨hk2, w⟩ := w
      unfold stepK at w
      split at w
      · rename_i v h' hs
        obtain ⟨m, fr2, h2, e, q⟩ := w
        refine ⟨m, fr2, h2, ?_, q⟩
        rw [runDraw, hg]
        simp only
        rw [if_neg hk, if_pos hk2, step_mono (run_mono (Nat.zero_le m)) hs]
        exact e
      · exact w.elim
  · rename_i hg
    obtain ⟨m, fr2, h2, e, q⟩ := w
    refine ⟨m, fr2, h2, ?_, q⟩
    rw [runDraw, hg]
    exact e
  · exact w.elim

/-- What hides nothing. -/
theorem get_same {h : Heap} {A : List (Nat × Nat)} {F : Nat} (hA : ∀ p ∈ A, p.2 ≤ p.1) (b : Nat) : Heap.get { h with hid := A ++ h.hid, floor := F } b = h.get b := by
  have : Heap.hidden { h with hid := A ++ h.hid, floor := F } b = h.hidden b := by
    unfold Heap.hidden
    simp only [List.any_append]
    have : (A.any fun r => decide (r.1 ≤ b) && decide (b < r.2)) = false := by
      rw [List.any_eq_false]
      intro p hp
      have := hA p hp
      simp; omega
    rw [this, Bool.false_or]
  unfold Heap.get
  rw [this]

theorem load_same {h : Heap} {A : List (Nat × Nat)} {F : Nat} (hA : ∀ p ∈ A, p.2 ≤ p.1) (b o n : Nat) : Heap.load { h with hid := A ++ h.hid, floor := F } b o n = h.load b o n := by
  unfold Heap.load
  rw [get_same hA]

/-- A load in a drawn region where nothing was made. -/
theorem stepK_load_same {E : Env} {fr : List Val} {h : Heap} {A : List (Nat × Nat)} {F : Nat} (hA : ∀ p ∈ A, p.2 ≤ p.1) {x : Opd} {b o : Nat} {v : Val} (hx : V.ev fr x = .ptr b o) (hl : h.load b o 1 = some [v]) {K : Val → Heap → Prop}
    (k : K v { h with hid := A ++ h.hid, floor := F }) : stepK E fr { h with hid := A ++ h.hid, floor := F } (.load false 1 x) K := by
  unfold stepK
  simp only [step, hx, load_same hA, hl]
  exact k

end Go.V
end

section
set_option linter.unusedVariables false
set_option linter.unusedSimpArgs false
set_option linter.unusedSectionVars false
namespace Go.V

/-- Nothing is there, and nothing hidden, that has not been made. -/
structure Wf (h : Heap) : Prop where
  hid : ∀ b, h.next ≤ b → h.hidden b = false
  t : ∀ b, h.next ≤ b → h.t.get b = none
  fl : h.floor ≤ h.next

/-- What was there is there; what is new may be written. -/
structure Grow (h h' : Heap) : Prop where
  next : h.next ≤ h'.next
  keep : ∀ b x, h.get b = some x → h'.get b = some x
  hid : h'.hid = h.hid
  floor : h'.floor = h.floor
  wf : Wf h → Wf h'

theorem Grow.refl (h : Heap) : Grow h h := ⟨Nat.le_refl _, fun _ _ e => e, rfl, rfl, fun w => w⟩
theorem Grow.trans {a b c : Heap} (x : Grow a b) (y : Grow b c) : Grow a c := ⟨Nat.le_trans x.next y.next, fun _ _ e => y.keep _ _ (x.keep _ _ e), y.hid.trans x.hid, y.floor.trans x.floor, fun w => y.wf (x.wf w)⟩

theorem Grow.load {h h' : Heap} (g : Grow h h') {b o n : Nat} {l : List Val} (e : h.load b o n = some l) : h'.load b o n = some l := by
  obtain ⟨cs, h1, h2, rfl⟩ := Heap.load_some e
  unfold Heap.load
  rw [g.keep _ _ h1]
  simp [h2]

theorem Grow.u64s {h h' : Heap} (g : Grow h h') {s : Val} {xs : List Int} (e : U64s h s xs) : U64s h' s xs := by
  rcases e with e | ⟨b, o, cap, ls, e1, e2⟩
  · exact .inl e
  · exact .inr ⟨b, o, cap, ls, e1, g.load e2⟩

theorem new_next (h : Heap) (x : Blk) : (h.new x).2.next = h.next + 1 := rfl
theorem new_floor (h : Heap) (x : Blk) : (h.new x).2.floor = h.floor := rfl
theorem new_hid (h : Heap) (x : Blk) : (h.new x).2.hid = h.hid := rfl

theorem new_self {h : Heap} (w : Wf h) (x : Blk) : (h.new x).2.get h.next = some x := by
  rw [Heap.new_get, w.hid _ (Nat.le_refl _)]; simp

theorem Grow.new {h : Heap} (w : Wf h) (x : Blk) : Grow h (h.new x).2 := by
  have hx := HExt.new h x
  refine ⟨hx.next, ?_, hx.hid, hx.floor, ?_⟩
  · intro b y e
    rw [Heap.new_get, Heap.get_nh e]
    have : b ≠ h.next := by
      rintro rfl
      have := w.t _ (Nat.le_refl h.next)
      rw [Heap.get_t e] at this; cases this
    simp [this, Heap.get_t e]
  · intro _
    refine ⟨?_, hx.low w.t, ?_⟩
    · intro b hb
      have := w.hid b (Nat.le_trans hx.next hb)
      unfold Heap.hidden at this ⊢
      rw [hx.hid]; exact this
    · rw [hx.floor]; exact Nat.le_trans w.fl hx.next

/-- A block that is made, and then read. -/
theorem new_load {h : Heap} (w : Wf h) (c : List Val) {o n : Nat} (hn : o + n ≤ c.length) : (h.new (.cells c)).2.load h.next o n = some ((c.drop o).take n) := by
  unfold Heap.load
  rw [new_self w]
  simp [hn]

theorem stepK_box {E : Env} {fr : List Val} {h : Heap} (w : Wf h) {x : Opd} {n : Nat} {c : List Val} (hx : (V.ev fr x).cells = c) (hn : c.length = n) {K : Val → Heap → Prop}
    (k : ∀ b h', Grow h h' → h.next ≤ b → h'.get b = some (.cells c) → h'.next = b + 1 → K (.ptr b 0) h') : stepK E fr h (.box x n) K := by
  unfold stepK
  simp only [step, hx, hn, if_true]
  exact k h.next _ (Grow.new w _) (Nat.le_refl _) (new_self w _) rfl

theorem stepK_alloc {E : Env} {fr : List Val} {h : Heap} (w : Wf h) {c : List Val} {K : Val → Heap → Prop}
    (k : ∀ b h', Grow h h' → h.next ≤ b → h'.get b = some (.cells c) → h'.next = b + 1 → K (.ptr b 0) h') : stepK E fr h (.alloc c) K := by
  unfold stepK
  simp only [step]
  exact k h.next _ (Grow.new w _) (Nat.le_refl _) (new_self w _) rfl

/-- What a write leaves. -/
structure Wrote (h : Heap) (b : Nat) (cs : List Val) (h' : Heap) : Prop where
  at_ : h'.get b = some (.cells cs)
  else_ : ∀ b', b' ≠ b → h'.get b' = h.get b'
  next : h'.next = h.next
  hid : h'.hid = h.hid
  floor : h'.floor = h.floor
  wf : Wf h → Wf h'

theorem put_wrote {h : Heap} {b : Nat} {x : Blk} (hg : h.get b = some x) (cs : List Val) : Wrote h b cs (h.put b (some (.cells cs))) := by
  have hh := Heap.get_nh hg
  refine ⟨by rw [Heap.get_put, hh]; simp, ?_, rfl, rfl, rfl, ?_⟩
  · intro b' hb
    rw [Heap.get_put]
    unfold Heap.get
    simp [hb]
  · intro w
    refine ⟨w.hid, ?_, w.fl⟩
    intro j hj
    have hj' : h.next ≤ j := hj
    have hne : j ≠ b := by
      rintro rfl
      have := w.t j hj'
      rw [Heap.get_t hg] at this; cases this
    have h1 := w.hid j hj'
    have := Heap.get_put h b j (some (.cells cs))
    rw [h1] at this
    unfold Heap.get at this
    have h2 : (h.put b (some (.cells cs))).hidden j = false := h1
    rw [h2] at this
    simp [hne] at this
    rw [this]; exact w.t j hj'

theorem Grow.wrote {h h1 h2 : Heap} (g : Grow h h1) {b : Nat} {cs : List Val} (hb : h.next ≤ b) (w : Wf h) (k : Wrote h1 b cs h2) : Grow h h2 := by
  refine ⟨by rw [k.next]; exact g.next, ?_, k.hid.trans g.hid, k.floor.trans g.floor, fun w => k.wf (g.wf w)⟩
  intro b' x e
  have hne : b' ≠ b := by
    rintro rfl
    have := w.t b' hb
    rw [Heap.get_t e] at this; cases this
  rw [k.else_ b' hne]
  exact g.keep _ _ e

theorem stepK_store {E : Env} {fr : List Val} {h : Heap} {a v : Opd} {b o n : Nat} {cs us : List Val} (ha : V.ev fr a = .ptr b o) (hv : (V.ev fr v).cells = us) (hn : us.length = n) (hg : h.get b = some (.cells cs)) (hf : h.floor ≤ b) (hlen : o + n ≤ cs.length) (hone : us.all Val.one = true) {K : Val → Heap → Prop}
    (k : ∀ h', Wrote h b (splice cs o us) h' → K .undef h') : stepK E fr h (.store n a v) K := by
  unfold stepK
  simp only [step, ha, hv, hn, if_true, Heap.store, hf, hg]
  rw [if_pos ⟨by omega, hone⟩]
  exact k _ (put_wrote hg _)

theorem load_get {h : Heap} {b o n : Nat} {c : List Val} (e : h.get b = some (.cells c)) (hn : o + n ≤ c.length) : h.load b o n = some ((c.drop o).take n) := by
  unfold Heap.load
  rw [e]; simp [hn]

end Go.V
end

section
set_option linter.unusedVariables false
set_option linter.unusedSimpArgs false
set_option linter.unusedSectionVars false
namespace Go.V

def lenI : Val → Option Nat
  | .nils => some 0
  | .slice _ _ n _ _ => some n
  | _ => none

def eltI (sz : Nat) : Val → Val → Option Val
  | .slice b o n _ _, .int _ i => if 0 ≤ i ∧ i < n then some (.ptr b (o + i.toNat * sz)) else none
  | _, _ => none

theorem step_lenOf (m : TypeId → Val → String → Option (FuncId × Val)) (c : CallT) (fr : List Val) (h : Heap) (x : Opd) : step m c fr h (.lenOf x) = match lenI (V.ev fr x) with
    | some n => some (.int .i64 n, h)
    | none => none := by
  simp only [step]
  cases V.ev fr x <;> rfl

theorem step_iaddr (m : TypeId → Val → String → Option (FuncId × Val)) (c : CallT) (fr : List Val) (h : Heap) (sz : Nat) (x i : Opd) : step m c fr h (.iaddr sz x i) = match eltI sz (V.ev fr x) (V.ev fr i) with
    | some v => some (v, h)
    | none => none := by
  simp only [step]
  cases V.ev fr x <;> cases V.ev fr i <;> simp only [eltI]
  split <;> rfl

theorem getD_ne {l : List Val} {i j : Nat} {v : Val} (h : (i = j) = False) : (l.set i v).getD j .undef = l.getD j .undef := by
  have h' : i ≠ j := by simpa using h
  simp only [List.getD_eq_getElem?_getD, List.getElem?_set, h', if_false]

theorem getD_eq {l : List Val} {i : Nat} {v : Val} (hi : i < l.length) : (l.set i v).getD i .undef = v := by
  simp [List.getD_eq_getElem?_getD, hi]

theorem len_set {l : List Val} {i n : Nat} {v : Val} (h : l.length = n) : (l.set i v).length = n := by simpa using h

theorem pickK {E : Env} {fr : List Val} {h : Heap} {c a b : Opd} {t : Bool} (hc : V.ev fr c = .bool t) {K : Val → Heap → Prop} (k : K (if t then V.ev fr a else V.ev fr b) h) : stepK E fr h (.pick c a b) K := by
  unfold stepK
  cases t <;> simp only [step, hc] <;> exact k

/-- A guard that is not known: both ways. -/
theorem WO.guard {E : Env} {fr : List Val} {h : Heap} {d : Option Nat} {op : VOp} {t : Nat} {want : Bool} {fu : Bool} {hd : List Nat} {l : List VOper} {R : List Val → Heap → Prop} {b : Bool} (hb : fr.getD t .undef = .bool b)
    (h1 : b = want → WO E (⟨d, op, none, fu, hd⟩ :: l) fr h R) (h2 : b = (!want) → WO E l (setDst fr d .undef) h R) : WO E (⟨d, op, some (t, want), fu, hd⟩ :: l) fr h R := by
  by_cases hw : b = want
  · obtain ⟨n, fr2, hh2, e, q⟩ := h1 hw
    refine ⟨n, fr2, hh2, ?_, q⟩
    rw [runOps] at e ⊢
    simp only [wanted] at e ⊢
    rw [hb]
    subst hw
    simpa using e
  · have h2' := h2 (by cases b <;> cases want <;> simp_all)
    exact WO.not (by simp only [wanted, hb]; cases b <;> cases want <;> simp_all) h2'

theorem WE.cond2 {E : Env} {fr : List Val} {h : Heap} {Q : Ex → List Val → Heap → Prop} {c : Opd} {a b : VC} {t : Bool} (hc : V.ev fr c = .bool t) (h1 : t = true → WE E a fr h Q) (h2 : t = false → WE E b fr h Q) : WE E (.cond c a b) fr h Q := by
  cases t with
  | true => exact WE.cond hc (h1 rfl)
  | false => exact WE.cond hc (h2 rfl)

theorem WE.seqR {E : Env} {fr : List Val} {h : Heap} {Q : Ex → List Val → Heap → Prop} {l : List VOper} {b : VC} (w : WO E l fr h fun fr h => WE E b fr h Q) : WE E (.seq (.region l) b) fr h Q := WE.seq (WE.region w)
theorem WE.seqD {E : Env} {fr : List Val} {h : Heap} {Q : Ex → List Val → Heap → Prop} {l : List VOper} {b : VC} (w : WD E l [] fr h fun fr h => WE E b fr h Q) : WE E (.seq (.draw l) b) fr h Q := WE.seq (WE.draw w)

theorem WE.assoc {E : Env} {fr : List Val} {h : Heap} {Q : Ex → List Val → Heap → Prop} {a b c : VC} (w : WE E (.seq a (.seq b c)) fr h Q) : WE E (.seq (.seq a b) c) fr h Q := by
  obtain ⟨n, ex, fr', h', e, q⟩ := w
  cases n with
  | zero => simp [exec] at e
  | succ n =>
    rw [exec] at e
    cases ha : exec E n a fr h with
    | none => rw [ha] at e; cases e
    | some r =>
      obtain ⟨x, fr1, h1⟩ := r
      rw [ha] at e
      cases x with
      | normal =>
        cases n with
        | zero => simp [exec] at e
        | succ n =>
          simp only at e
          rw [exec] at e
          cases hb : exec E n b fr1 h1 with
          | none => rw [hb] at e; cases e
          | some r2 =>
            obtain ⟨y, fr2, h2⟩ := r2
            rw [hb] at e
            have hsb : exec E (n + 1) b fr1 h1 = some (y, fr2, h2) := exec_mono1 E n _ _ _ _ hb
            cases y with
            | normal =>
              refine ⟨n + 3, ex, fr', h', ?_, q⟩
              have hs : exec E (n + 2) (.seq a b) fr h = some (.normal, fr2, h2) := by rw [exec, ha]; exact hsb
              rw [exec, hs]
              exact exec_mono (by omega) _ _ _ _ e
            | exit i =>
              cases e
              refine ⟨n + 3, _, _, _, ?_, q⟩
              have hs : exec E (n + 2) (.seq a b) fr h = some (.exit i, fr', h') := by rw [exec, ha]; exact hsb
              rw [exec, hs]
            | ret =>
              cases e
              refine ⟨n + 3, _, _, _, ?_, q⟩
              have hs : exec E (n + 2) (.seq a b) fr h = some (.ret, fr', h') := by rw [exec, ha]; exact hsb
              rw [exec, hs]
      | exit i =>
        cases e
        refine ⟨n + 2, _, _, _, ?_, q⟩
        rw [exec, show exec E (n + 1) (.seq a b) fr h = some (.exit i, fr', h') by rw [exec, ha]]
      | ret =>
        cases e
        refine ⟨n + 2, _, _, _, ?_, q⟩
        rw [exec, show exec E (n + 1) (.seq a b) fr h = some (.ret, fr', h') by rw [exec, ha]]

theorem WE.seqSkip {E : Env} {fr : List Val} {h : Heap} {Q : Ex → List Val → Heap → Prop} {b : VC} (w : WE E b fr h Q) : WE E (.seq .skip b) fr h Q := WE.seq (WE.skip w)
theorem WE.seqRet {E : Env} {fr : List Val} {h : Heap} {Q : Ex → List Val → Heap → Prop} {b : VC} (w : Q .ret fr h) : WE E (.seq .ret b) fr h Q := WE.seq (WE.ret w)
theorem WE.seqExit {E : Env} {fr : List Val} {h : Heap} {Q : Ex → List Val → Heap → Prop} {i : Nat} {b : VC} (w : Q (.exit i) fr h) : WE E (.seq (.exit i) b) fr h Q := WE.seq (WE.exit w)
theorem WE.seqCond {E : Env} {fr : List Val} {h : Heap} {Q : Ex → List Val → Heap → Prop} {c : Opd} {a b k : VC} {t : Bool} (hc : V.ev fr c = .bool t) (h1 : t = true → WE E (.seq a k) fr h Q) (h2 : t = false → WE E (.seq b k) fr h Q) : WE E (.seq (.cond c a b) k) fr h Q := by
  have un : ∀ x, WE E (.seq x k) fr h Q → WE E x fr h (seqQ E k Q) := by
    intro x w
    obtain ⟨n, ex, fr', h', e, q⟩ := w
    cases n with
    | zero => simp [exec] at e
    | succ n =>
      rw [exec] at e
      cases hx : exec E n x fr h with
      | none => rw [hx] at e; cases e
      | some r =>
        obtain ⟨y, fr1, h1⟩ := r
        rw [hx] at e
        cases y with
        | normal => exact ⟨n, _, _, _, hx, n, _, _, _, e, q⟩
        | exit i => cases e; exact ⟨n, _, _, _, hx, q⟩
        | ret => cases e; exact ⟨n, _, _, _, hx, q⟩
  exact WE.seq (WE.cond2 hc (fun e => un _ (h1 e)) (fun e => un _ (h2 e)))

/-- A call's first step. -/
theorem WC.fn1 {E : Env} {f : FuncId} {vf : VFn} {args : List Val} {h : Heap} {R : Val → Heap → Prop} (hp : E.prims f = none) (hf : E.fns f = some vf) {n : Nat} (hn : (enter vf.ntmps args).length = n)
    (w : ∀ fr : List Val, fr.length = n → (∀ j, fr.getD j .undef = args.getD j .undef) → WE E vf.body fr h fun ex fr h' => match ex with | .exit _ => False | _ => ∃ l, readResults fr h' vf.results = some l ∧ R (resultOf l) h') : WC E f args h R :=
  WC.fn hp hf (w _ hn fun _ => getD_enter)

def lenK (h : Heap) (K : Val → Heap → Prop) : Option Nat → Prop
  | some n => K (.int .i64 n) h
  | none => False

def elK (h : Heap) (K : Val → Heap → Prop) : Option Val → Prop
  | some v => K v h
  | none => False

/-- Contracts keep what a base heap has. -/
theorem WC.grow {E : Env} {f : FuncId} {args : List Val} {h0 h : Heap} {P : Val → Prop} (g : Grow h0 h) (w : WC E f args h fun v h' => Grow h h' ∧ P v) : WC E f args h fun v h' => Grow h0 h' ∧ P v :=
  w.mono fun _ _ ⟨a, b⟩ => ⟨g.trans a, b⟩

/-- What a block of the base heap has, it has later. -/
theorem Grow.part {h h' : Heap} (g : Grow h h') {b : Nat} {c : List Val} (e : h.get b = some (.cells c)) {o n : Nat} (hn : o + n ≤ c.length) : h'.load b o n = some ((c.drop o).take n) := load_get (g.keep _ _ e) hn

/-- A heap of which a part is not seen, and nothing that was there is written. -/
def Heap.veil (h : Heap) (A : List (Nat × Nat)) : Heap := { h with hid := A ++ h.hid, floor := h.next }
def Heap.unveil (h h' : Heap) : Heap := { h' with hid := h.hid, floor := h.floor }

theorem unveil_veil (h : Heap) (A : List (Nat × Nat)) : h.unveil (h.veil A) = h := rfl
theorem veil_next (h : Heap) (A : List (Nat × Nat)) : (h.veil A).next = h.next := rfl
theorem unveil_next (h h' : Heap) : (h.unveil h').next = h'.next := rfl

/-- What is read where nothing is hidden. -/
theorem below_nil (h : Heap) (b o n : Nat) : (h.veil []).load b o n = h.load b o n := load_same (A := []) (by simp) b o n
theorem below_cons (h : Heap) (a : Nat) (A : List (Nat × Nat)) (b o n : Nat) : (h.veil ((a, a) :: A)).load b o n = (h.veil A).load b o n := by
  have : ∀ j, (h.veil ((a, a) :: A)).hidden j = (h.veil A).hidden j := by
    intro j
    simp only [Heap.hidden, Heap.veil, List.cons_append, List.any_cons]
    have : (decide (a ≤ j) && decide (j < a)) = false := by simp
    rw [this, Bool.false_or]
  have : ∀ j, (h.veil ((a, a) :: A)).get j = (h.veil A).get j := by
    intro j
    unfold Heap.get
    rw [this j]
    rfl
  unfold Heap.load
  rw [this]

def opV (E : Env) (rs : List (Nat × Nat)) (fr : List Val) (h : Heap) (o : VOper) (K : List (Nat × Nat) → List Val → Heap → Prop) : Prop := match wanted fr o.guard with
  | some true => if o.op.kind ≤ 1 ∨ o.full = true then stepK E fr h o.op fun v h' => K (rs ++ [(h.next, h'.next)]) (setDst fr o.dst v) h'
    else o.op.kind = 2 ∧ stepK E fr (h.veil (hiddenOf rs o.hide)) o.op fun v h' => K (rs ++ [(h.next, h'.next)]) (setDst fr o.dst v) (h.unveil h')
  | some false => K (rs ++ [(h.next, h.next)]) (setDst fr o.dst .undef) h
  | none => False

theorem WD.op2 {E : Env} {rs : List (Nat × Nat)} {fr : List Val} {h : Heap} {o : VOper} {l : List VOper} {R : List Val → Heap → Prop} (w : opV E rs fr h o fun rs fr h => WD E l rs fr h R) : WD E (o :: l) rs fr h R := WD.op1 w

theorem WD.nil2 {E : Env} {rs : List (Nat × Nat)} {fr : List Val} {h : Heap} {R : List Val → Heap → Prop} (k : R fr h) : WD E [] rs fr h R := WD.nil k

/-- A guard that is not known: both ways. -/
theorem WD.guard {E : Env} {rs : List (Nat × Nat)} {fr : List Val} {h : Heap} {d : Option Nat} {op : VOp} {t : Nat} {want : Bool} {fu : Bool} {hd : List Nat} {l : List VOper} {R : List Val → Heap → Prop} {b : Bool} (hb : fr.getD t .undef = .bool b)
    (h1 : b = want → WD E (⟨d, op, none, fu, hd⟩ :: l) rs fr h R) (h2 : b = (!want) → WD E l (rs ++ [(h.next, h.next)]) (setDst fr d .undef) h R) : WD E (⟨d, op, some (t, want), fu, hd⟩ :: l) rs fr h R := by
  by_cases hw : b = want
  · obtain ⟨n, fr2, hh2, e, q⟩ := h1 hw
    refine ⟨n, fr2, hh2, ?_, q⟩
    rw [runDraw] at e ⊢
    simp only [wanted] at e ⊢
    rw [hb]
    subst hw
    simpa using e
  · obtain ⟨n, fr2, hh2, e, q⟩ := h2 (by cases b <;> cases want <;> simp_all)
    refine ⟨n, fr2, hh2, ?_, q⟩
    have : wanted fr (some (t, want)) = some false := by simp only [wanted, hb]; cases b <;> cases want <;> simp_all
    rw [runDraw]
    simp only [this]
    exact e

theorem WE.seqCondE {E : Env} {fr : List Val} {h : Heap} {Q : Ex → List Val → Heap → Prop} {c : Opd} {a b k : VC} (hc : ∃ t, V.ev fr c = .bool t ∧ (t = true → WE E (.seq a k) fr h Q) ∧ (t = false → WE E (.seq b k) fr h Q)) : WE E (.seq (.cond c a b) k) fr h Q := by
  obtain ⟨t, h1, h2, h3⟩ := hc
  exact WE.seqCond h1 h2 h3

theorem WO.guardE {E : Env} {fr : List Val} {h : Heap} {d : Option Nat} {op : VOp} {t : Nat} {want : Bool} {fu : Bool} {hd : List Nat} {l : List VOper} {R : List Val → Heap → Prop}
    (hb : ∃ b, fr.getD t .undef = .bool b ∧ (b = want → WO E (⟨d, op, none, fu, hd⟩ :: l) fr h R) ∧ (b = (!want) → WO E l (setDst fr d .undef) h R)) : WO E (⟨d, op, some (t, want), fu, hd⟩ :: l) fr h R := by
  obtain ⟨t, h1, h2, h3⟩ := hb
  exact WO.guard h1 h2 h3

theorem WD.guardE {E : Env} {rs : List (Nat × Nat)} {fr : List Val} {h : Heap} {d : Option Nat} {op : VOp} {t : Nat} {want : Bool} {fu : Bool} {hd : List Nat} {l : List VOper} {R : List Val → Heap → Prop}
    (hb : ∃ b, fr.getD t .undef = .bool b ∧ (b = want → WD E (⟨d, op, none, fu, hd⟩ :: l) rs fr h R) ∧ (b = (!want) → WD E l (rs ++ [(h.next, h.next)]) (setDst fr d .undef) h R)) : WD E (⟨d, op, some (t, want), fu, hd⟩ :: l) rs fr h R := by
  obtain ⟨t, h1, h2, h3⟩ := hb
  exact WD.guard h1 h2 h3

/-- What was there is there. -/
def Keep (h h' : Heap) : Prop := ∀ b x, h.get b = some x → h'.get b = some x

theorem Grow.kp {h h' : Heap} (g : Grow h h') : Keep h h' := g.keep
theorem Keep.refl (h : Heap) : Keep h h := fun _ _ e => e
theorem Keep.trans {a b c : Heap} (x : Keep a b) (y : Keep b c) : Keep a c := fun _ _ e => y _ _ (x _ _ e)

theorem Keep.load {h h' : Heap} (g : Keep h h') {b o n : Nat} {l : List Val} (e : h.load b o n = some l) : h'.load b o n = some l := by
  obtain ⟨cs, h1, h2, rfl⟩ := Heap.load_some e
  unfold Heap.load
  rw [g _ _ h1]
  simp [h2]

theorem Keep.u64s {h h' : Heap} (g : Keep h h') {s : Val} {xs : List Int} (e : U64s h s xs) : U64s h' s xs := by
  rcases e with e | ⟨b, o, cap, ls, e1, e2⟩
  · exact .inl e
  · exact .inr ⟨b, o, cap, ls, e1, g.load e2⟩

/-- A call whose contract keeps the heap. -/
theorem WO.callG {E : Env} {fr : List Val} {h0 h : Heap} {d : Option Nat} {f : FuncId} {args : List Opd} {g : Option (Nat × Bool)} {fu : Bool} {hd : List Nat} {l : List VOper} {R : List Val → Heap → Prop} (w0 : Wf h0) (g0 : Grow h0 h) (P : Val → Prop)
    (hg : wanted fr g = some true) (hw : ∀ h1, Wf h1 → Keep h0 h1 → WC E f (evs fr args) h1 fun v h' => Grow h1 h' ∧ P v) (k : ∀ v h', Grow h0 h' → P v → WO E l (setDst fr d v) h' R) : WO E (⟨d, .call f args, g, fu, hd⟩ :: l) fr h R :=
  WO.call hg ((hw h (g0.wf w0) g0.kp).mono fun v h' ⟨a, b⟩ => k v h' (g0.trans a) b)

theorem WO.known {E : Env} {fr : List Val} {h : Heap} {d : Option Nat} {op : VOp} {g : Nat × Bool} {fu : Bool} {hd : List Nat} {l : List VOper} {R : List Val → Heap → Prop}
    (hg : wanted fr (some g) = some true) (k : WO E (⟨d, op, none, fu, hd⟩ :: l) fr h R) : WO E (⟨d, op, some g, fu, hd⟩ :: l) fr h R := by
  obtain ⟨n, fr2, hh2, e, q⟩ := k
  refine ⟨n, fr2, hh2, ?_, q⟩
  rw [runOps] at e ⊢
  simp only [hg]
  simpa only [wanted] using e

theorem WD.known {E : Env} {rs : List (Nat × Nat)} {fr : List Val} {h : Heap} {d : Option Nat} {op : VOp} {g : Nat × Bool} {fu : Bool} {hd : List Nat} {l : List VOper} {R : List Val → Heap → Prop}
    (hg : wanted fr (some g) = some true) (k : WD E (⟨d, op, none, fu, hd⟩ :: l) rs fr h R) : WD E (⟨d, op, some g, fu, hd⟩ :: l) rs fr h R := by
  obtain ⟨n, fr2, hh2, e, q⟩ := k
  refine ⟨n, fr2, hh2, ?_, q⟩
  rw [runDraw] at e ⊢
  simp only [hg]
  simpa only [wanted] using e

/-- The ranges lie behind what was there at first. -/
def Late (h0 h : Heap) : List (Nat × Nat) → Prop
  | [] => True
  | p :: r => (p.2 ≤ p.1 ∨ (h0.next ≤ p.1 ∧ p.2 ≤ h.next)) ∧ Late h0 h r

theorem late_hid {h0 h : Heap} {j : Nat} (hj : j < h0.next ∨ h.next ≤ j) : ∀ {A : List (Nat × Nat)}, Late h0 h A → (A.any fun r => decide (r.1 ≤ j) && decide (j < r.2)) = false
  | [], _ => rfl
  | p :: r, l => by
    simp only [List.any_cons, Bool.or_eq_false_iff]
    refine ⟨?_, late_hid hj l.2⟩
    rcases l.1 with k | ⟨k1, k2⟩
    · simp; omega
    · simp; omega

theorem veil_hidden {h0 h : Heap} {A : List (Nat × Nat)} (l : Late h0 h A) {j : Nat} (hj : j < h0.next ∨ h.next ≤ j) : (h.veil A).hidden j = h.hidden j := by
  simp only [Heap.hidden, Heap.veil, List.any_append]
  rw [late_hid hj l, Bool.false_or]

theorem lt_of_get {h : Heap} (w : Wf h) {b : Nat} {x : Blk} (e : h.get b = some x) : b < h.next := by
  rcases Nat.lt_or_ge b h.next with k | k
  · exact k
  · have := w.t b k
    rw [Heap.get_t e] at this; cases this

theorem veil_keep {h0 h : Heap} (w0 : Wf h0) (g0 : Grow h0 h) {A : List (Nat × Nat)} (l : Late h0 h A) : Keep h0 (h.veil A) := by
  intro b x e
  have h1 := g0.keep _ _ e
  have := veil_hidden l (.inl (lt_of_get w0 e))
  unfold Heap.get at h1 ⊢
  rw [this]
  exact h1

theorem veil_wf {h0 h : Heap} (w : Wf h) {A : List (Nat × Nat)} (l : Late h0 h A) : Wf (h.veil A) :=
  ⟨fun b hb => (veil_hidden l (.inr hb)).trans (w.hid b hb), w.t, Nat.le_refl _⟩

theorem unveil_grow {h0 h h' : Heap} (w0 : Wf h0) (g0 : Grow h0 h) {A : List (Nat × Nat)} (l : Late h0 h A) (g : Grow (h.veil A) h') : Grow h0 (h.unveil h') := by
  have hn : h.next ≤ h'.next := g.next
  have hun : ∀ b, b < h0.next → (h.unveil h').get b = h'.get b := by
    intro b hb
    unfold Heap.get
    have : (h.unveil h').hidden b = h'.hidden b := by
      simp only [Heap.hidden, Heap.unveil, g.hid]
      show _ = (A ++ h.hid).any _
      rw [List.any_append, late_hid (.inl hb) l, Bool.false_or]
    rw [this]; rfl
  refine ⟨Nat.le_trans g0.next hn, ?_, g0.hid, g0.floor, fun w => ?_⟩
  · intro b x e
    rw [hun b (lt_of_get w0 e)]
    exact g.keep _ _ (veil_keep w0 g0 l _ _ e)
  · have w1 := g0.wf w
    have w2 := g.wf (veil_wf w1 l)
    refine ⟨fun b hb => ?_, w2.t, Nat.le_trans w1.fl hn⟩
    have := w1.hid b (Nat.le_trans hn hb)
    exact this

/-- A call in a region that draws its order. -/
theorem WD.callG {E : Env} {rs : List (Nat × Nat)} {fr : List Val} {h0 h : Heap} {d : Option Nat} {f : FuncId} {args : List Opd} {fu : Bool} {hd : List Nat} {l : List VOper} {R : List Val → Heap → Prop} (w0 : Wf h0) (g0 : Grow h0 h) (P : Val → Prop)
    (hl : Late h0 h (hiddenOf rs hd)) (hw : ∀ h1, Wf h1 → Keep h0 h1 → WC E f (evs fr args) h1 fun v h' => Grow h1 h' ∧ P v) (k : ∀ v h', Grow h0 h' → h.next ≤ h'.next → P v → WD E l (rs ++ [(h.next, h'.next)]) (setDst fr d v) h' R) : WD E (⟨d, .call f args, none, fu, hd⟩ :: l) rs fr h R := by
  cases fu with
  | true =>
    obtain ⟨n, v, h', e, a, b⟩ := hw h (g0.wf w0) g0.kp
    obtain ⟨m, fr2, h2, e2, q⟩ := k v h' (g0.trans a) a.next b
    refine ⟨max n m, fr2, h2, ?_, q⟩
    rw [runDraw]
    simp only [wanted]
    rw [if_pos (.inr trivial)]
    simp only [step]
    rw [run_mono (Nat.le_max_left n m) _ _ _ _ e]
    exact runDraw_mono (run_mono (Nat.le_max_right n m)) _ _ _ _ _ e2
  | false =>
    obtain ⟨n, v, h', e, a, b⟩ := hw (h.veil (hiddenOf rs hd)) (veil_wf (g0.wf w0) hl) (veil_keep w0 g0 hl)
    obtain ⟨m, fr2, h2, e2, q⟩ := k v (h.unveil h') (unveil_grow w0 g0 hl a) a.next b
    refine ⟨max n m, fr2, h2, ?_, q⟩
    rw [runDraw]
    simp only [wanted]
    rw [if_neg (by simp [VOp.kind]), if_pos (show (VOp.call f args).kind = 2 from rfl)]
    simp only [step]
    have := run_mono (Nat.le_max_left n m) _ _ _ _ e
    unfold Heap.veil at this
    rw [this]
    exact runDraw_mono (run_mono (Nat.le_max_right n m)) _ _ _ _ _ e2

theorem WE.seqBlock {E : Env} {fr : List Val} {h : Heap} {Q : Ex → List Val → Heap → Prop} {i : Nat} {a b : VC} (w : WE E a fr h (blockQ i (seqQ E b Q))) : WE E (.seq (.block i a) b) fr h Q := WE.seq (WE.block w)

theorem stepK_mono {E : Env} {fr : List Val} {h : Heap} {o : VOp} {K K' : Val → Heap → Prop} (k : ∀ v h, K v h → K' v h) (w : stepK E fr h o K) : stepK E fr h o K' := by
  unfold stepK at w ⊢
  split at w
  · exact k _ _ w
  · exact w

/-- A step that leaves the heap as it is. -/
theorem WO.op1s {E : Env} {fr : List Val} {h : Heap} {o : VOper} {l : List VOper} {R : List Val → Heap → Prop} (w : opK E fr h o fun fr' h' => h' = h ∧ WO E l fr' h R) : WO E (o :: l) fr h R := by
  refine WO.op1 ?_
  unfold opK at w ⊢
  split at w
  · exact stepK_mono (fun v h' ⟨e, q⟩ => by subst e; exact q) w
  · exact w.2
  · exact w

theorem WD.op2s {E : Env} {rs : List (Nat × Nat)} {fr : List Val} {h : Heap} {o : VOper} {l : List VOper} {R : List Val → Heap → Prop} (w : opV E rs fr h o fun rs fr' h' => h' = h ∧ WD E l rs fr' h R) : WD E (o :: l) rs fr h R := by
  refine WD.op2 ?_
  unfold opV at w ⊢
  split at w
  · split at w
    · rename_i hc
      rw [if_pos hc]
      exact stepK_mono (fun v h' ⟨e, q⟩ => by subst e; exact q) w
    · rename_i hc
      rw [if_neg hc]
      exact ⟨w.1, stepK_mono (fun v h' ⟨e, q⟩ => by rw [e]; exact q) w.2⟩
  · exact w.2
  · exact w

theorem WO.lenOfE {E : Env} {fr : List Val} {h : Heap} {d : Option Nat} {x : Opd} {fu : Bool} {hd : List Nat} {l : List VOper} {R : List Val → Heap → Prop}
    (k : ∃ n, lenI (V.ev fr x) = some n ∧ WO E l (setDst fr d (.int .i64 (n : Nat))) h R) : WO E (⟨d, .lenOf x, none, fu, hd⟩ :: l) fr h R := by
  obtain ⟨n, h1, h2⟩ := k
  exact WO.op (o := ⟨d, .lenOf x, none, fu, hd⟩) rfl (n := 0) (by rw [step_lenOf, h1]) h2

theorem WO.iaddrE {E : Env} {fr : List Val} {h : Heap} {d : Option Nat} {sz : Nat} {x i : Opd} {fu : Bool} {hd : List Nat} {l : List VOper} {R : List Val → Heap → Prop}
    (k : ∃ v, eltI sz (V.ev fr x) (V.ev fr i) = some v ∧ WO E l (setDst fr d v) h R) : WO E (⟨d, .iaddr sz x i, none, fu, hd⟩ :: l) fr h R := by
  obtain ⟨n, h1, h2⟩ := k
  exact WO.op (o := ⟨d, .iaddr sz x i, none, fu, hd⟩) rfl (n := 0) (by rw [step_iaddr, h1]) h2

theorem WD.pureE {E : Env} {rs : List (Nat × Nat)} {fr : List Val} {h : Heap} {d : Option Nat} {op : VOp} {fu : Bool} {hd : List Nat} {l : List VOper} {R : List Val → Heap → Prop} {v : Val} (hk : op.kind = 0) (hs : step E.meth (run E 0) fr h op = some (v, h))
    (k : WD E l (rs ++ [(h.next, h.next)]) (setDst fr d v) h R) : WD E (⟨d, op, none, fu, hd⟩ :: l) rs fr h R := by
  refine WD.op2s ?_
  simp only [opV, wanted, hk, Nat.zero_le, true_or, if_true, stepK, hs]
  exact ⟨trivial, k⟩

theorem WD.lenOfE {E : Env} {rs : List (Nat × Nat)} {fr : List Val} {h : Heap} {d : Option Nat} {x : Opd} {fu : Bool} {hd : List Nat} {l : List VOper} {R : List Val → Heap → Prop}
    (k : ∃ n, lenI (V.ev fr x) = some n ∧ WD E l (rs ++ [(h.next, h.next)]) (setDst fr d (.int .i64 (n : Nat))) h R) : WD E (⟨d, .lenOf x, none, fu, hd⟩ :: l) rs fr h R := by
  obtain ⟨n, h1, h2⟩ := k
  exact WD.pureE rfl (by rw [step_lenOf, h1]) h2

theorem WD.iaddrE {E : Env} {rs : List (Nat × Nat)} {fr : List Val} {h : Heap} {d : Option Nat} {sz : Nat} {x i : Opd} {fu : Bool} {hd : List Nat} {l : List VOper} {R : List Val → Heap → Prop}
    (k : ∃ v, eltI sz (V.ev fr x) (V.ev fr i) = some v ∧ WD E l (rs ++ [(h.next, h.next)]) (setDst fr d v) h R) : WD E (⟨d, .iaddr sz x i, none, fu, hd⟩ :: l) rs fr h R := by
  obtain ⟨n, h1, h2⟩ := k
  exact WD.pureE rfl (by rw [step_iaddr, h1]) h2

theorem WE.condE {E : Env} {fr : List Val} {h : Heap} {Q : Ex → List Val → Heap → Prop} {c : Opd} {a b : VC} (hc : ∃ t, V.ev fr c = .bool t ∧ (t = true → WE E a fr h Q) ∧ (t = false → WE E b fr h Q)) : WE E (.cond c a b) fr h Q := by
  obtain ⟨t, h1, h2, h3⟩ := hc
  exact WE.cond2 h1 h2 h3

end Go.V
end

section
set_option linter.unusedVariables false
set_option linter.unusedSimpArgs false
set_option linter.unusedSectionVars false
namespace Go.V

/-- What is read as n elements of sz cells. -/
def Sl (h : Heap) (s : Val) (sz n : Nat) (cs : List Val) : Prop := cs.length = n * sz ∧ ((s = .nils ∧ n = 0) ∨ ∃ b o cap ls, s = .slice b o n cap ls ∧ (ls = 0 ∨ ls = sz) ∧ n ≤ cap ∧ (n * sz = 0 ∨ h.load b o (n * sz) = some cs))

theorem Sl.lenI {h : Heap} {s : Val} {sz n : Nat} {cs : List Val} (e : Sl h s sz n cs) : lenI s = some n := by
  rcases e.2 with ⟨rfl, rfl⟩ | ⟨b, o, cap, ls, rfl, _⟩ <;> rfl

theorem Keep.sl {h h' : Heap} (g : Keep h h') {s : Val} {sz n : Nat} {cs : List Val} (e : Sl h s sz n cs) : Sl h' s sz n cs := by
  refine ⟨e.1, ?_⟩
  rcases e.2 with e | ⟨b, o, cap, ls, e1, e2⟩
  · exact .inl e
  · exact .inr ⟨b, o, cap, ls, e1, e2.1, e2.2.1, e2.2.2.imp id g.load⟩

theorem load_sub {h : Heap} {b o n : Nat} {l : List Val} (e : h.load b o n = some l) {i m : Nat} (hi : i + m ≤ n) : h.load b (o + i) m = some ((l.drop i).take m) := by
  obtain ⟨cs, h1, h2, rfl⟩ := Heap.load_some e
  rw [load_get h1 (by omega)]
  congr 1
  rw [List.drop_take, List.take_take, List.drop_drop, Nat.min_eq_left (by omega)]

theorem Sl.elt {h : Heap} {s : Val} {sz n : Nat} {cs : List Val} (e : Sl h s sz n cs) {k : IntKind} {i : Nat} (hi : i < n) (hz : 0 < sz) :
    ∃ b o, eltI sz s (.int k (i : Int)) = some (.ptr b o) ∧ ∀ h', Keep h h' → ∀ j m, j + m ≤ sz → h'.load b (o + j) m = some ((cs.drop (i * sz + j)).take m) := by
  rcases e.2 with ⟨rfl, rfl⟩ | ⟨b, o, cap, ls, rfl, _, _, e2⟩
  · omega
  · refine ⟨b, o + i * sz, by simp only [eltI]; rw [if_pos ⟨by omega, by omega⟩]; simp, fun h' g j m hj => ?_⟩
    have hn : i * sz + sz ≤ n * sz := by
      have := Nat.mul_le_mul_right sz (show i + 1 ≤ n by omega)
      rw [Nat.add_mul] at this; omega
    rcases e2 with e2 | e2
    · omega
    · have := load_sub (g.load e2) (i := i * sz + j) (m := m) (by omega)
      rw [← Nat.add_assoc] at this
      exact this

theorem flat_drop {α : Type} {f : α → List Val} {sz : Nat} (hf : ∀ x, (f x).length = sz) : ∀ (es : List α) (i : Nat) (hi : i < es.length), (es.flatMap f).drop (i * sz) = f es[i] ++ (es.drop (i + 1)).flatMap f
  | [], i, hi => by simp at hi
  | e :: es, 0, _ => by simp
  | e :: es, i + 1, hi => by
    have := flat_drop hf es i (by simpa using hi)
    have e1 : ((e :: es).flatMap f).drop ((i + 1) * sz) = (es.flatMap f).drop (i * sz) := by
      rw [Nat.succ_mul, List.flatMap_cons, Nat.add_comm, ← List.drop_drop]
      congr 1
      rw [List.drop_append_of_le_length (by rw [hf]; omega)]
      have : (f e).drop sz = [] := List.drop_eq_nil_of_le (by rw [hf]; omega)
      rw [this, List.nil_append]
    rw [e1, this]
    rfl

theorem flat_len {α : Type} {f : α → List Val} {sz : Nat} (hf : ∀ x, (f x).length = sz) : ∀ (es : List α), (es.flatMap f).length = es.length * sz
  | [] => by simp
  | e :: es => by rw [List.flatMap_cons, List.length_append, hf, flat_len hf es, List.length_cons, Nat.succ_mul, Nat.add_comm]

/- Entries. -/
structure Ent where
  id : Int
  cl : Int
  si : Int
  deriving DecidableEq

def Ent.cells (e : Ent) : List Val := [.int .i64 e.id, .int .i64 e.cl, .int .i64 e.si]

def Es (h : Heap) (s : Val) (es : List Ent) : Prop := Sl h s 3 es.length (es.flatMap Ent.cells)

theorem Keep.es {h h' : Heap} (g : Keep h h') {s : Val} {es : List Ent} (e : Es h s es) : Es h' s es := Keep.sl g e

theorem Es.elt {h : Heap} {s : Val} {es : List Ent} (e : Es h s es) {k : IntKind} {i : Nat} (hi : i < es.length) :
    ∃ b o, eltI 3 s (.int k (i : Int)) = some (.ptr b o) ∧ (∀ h', Grow h h' → h'.load b o 3 = some es[i].cells) ∧ (∀ h', Grow h h' → h'.load b o 1 = some [.int .i64 es[i].id]) ∧
      (∀ h', Grow h h' → h'.load b (o + 1) 1 = some [.int .i64 es[i].cl]) ∧ (∀ h', Grow h h' → h'.load b (o + 2) 1 = some [.int .i64 es[i].si]) := by
  obtain ⟨b, o, h1, h2⟩ := Sl.elt e (k := k) hi (by omega)
  have hd := flat_drop (f := Ent.cells) (sz := 3) (fun _ => rfl) es i hi
  refine ⟨b, o, h1, fun h' g => ?_, fun h' g => ?_, fun h' g => ?_, fun h' g => ?_⟩
  · have := h2 h' g.kp 0 3 (by omega)
    rw [Nat.add_zero, Nat.add_zero, hd] at this
    simpa [Ent.cells] using this
  · have := h2 h' g.kp 0 1 (by omega)
    rw [Nat.add_zero, Nat.add_zero, hd] at this
    simpa [Ent.cells] using this
  · have := h2 h' g.kp 1 1 (by omega)
    rw [← List.drop_drop, hd] at this
    simpa [Ent.cells] using this
  · have := h2 h' g.kp 2 1 (by omega)
    rw [← List.drop_drop, hd] at this
    simpa [Ent.cells] using this

/-- A block that is made and then written whole. -/
theorem fresh_store {h h1 h2 : Heap} (w : Wf h) (g : Grow h h1) {b : Nat} {cs : List Val} (hb : h.next ≤ b) (k : Wrote h1 b cs h2) : Grow h h2 := g.wrote hb w k

/-- A call of a function value. -/
theorem WO.callvG {E : Env} {fr : List Val} {h0 h : Heap} {d : Option Nat} {x : Opd} {f : FuncId} {a c : List Val} {args : List Opd} {fu : Bool} {hd : List Nat} {l : List VOper} {R : List Val → Heap → Prop} (w0 : Wf h0) (g0 : Grow h0 h) (P : Val → Prop)
    (hx : V.ev fr x = .func (.func f) a c) (hw : ∀ h1, Wf h1 → Grow h0 h1 → WC E f (a ++ evs fr args ++ c) h1 fun v h' => Grow h1 h' ∧ P v) (k : ∀ v h', Grow h0 h' → P v → WO E l (setDst fr d v) h' R) : WO E (⟨d, .callv x args, none, fu, hd⟩ :: l) fr h R := by
  obtain ⟨n, v, h', e, a1, b1⟩ := hw h (g0.wf w0) g0
  exact WO.op (o := ⟨d, .callv x args, none, fu, hd⟩) rfl (n := n) (by simp only [step, hx]; exact e) (k v h' (g0.trans a1) b1)

theorem load_none {h : Heap} {s : Val} {sz n : Nat} {cs : List Val} (e : Sl h s sz n cs) (h0 : n * sz = 0) : cs = [] := List.eq_nil_of_length_eq_zero (by rw [e.1, h0])

/-- s[:k] -/
theorem stepK_hi {E : Env} {fr : List Val} {h : Heap} {x y : Opd} {s : Val} {sz n k : Nat} {ik : IntKind} {cs : List Val} (hx : V.ev fr x = s) (hy : V.ev fr y = .int ik (k : Int)) (e : Sl h s sz n cs) (hk : k ≤ n) {K : Val → Heap → Prop}
    (kk : ∀ s', Sl h s' sz k (cs.take (k * sz)) → K s' h) : stepK E fr h (.slice sz x none (some y) none) K := by
  unfold stepK
  have hkn := Nat.mul_le_mul_right sz hk
  have hlen : (cs.take (k * sz)).length = k * sz := by rw [List.length_take, e.1]; omega
  rcases e.2 with ⟨rfl, rfl⟩ | ⟨b, o, cap, ls, rfl, h1, h2, h3⟩
  · obtain rfl : k = 0 := by omega
    simp [step, hx, sliceVal, bounds, bnd, hy, pureV]
    exact kk _ ⟨by simp, .inl ⟨rfl, rfl⟩⟩
  · have hb : bounds fr n cap none (some y) none = some (0, k, cap) := by
      simp only [bounds, bnd, hy]
      rw [if_pos ⟨by omega, by omega⟩]
      simp
    simp only [step, hx, sliceVal, hb, pureV, if_pos h1, Option.isSome_none, Bool.false_eq_true, if_false, Nat.zero_mul, Nat.add_zero, Nat.sub_zero]
    refine kk _ ⟨hlen, .inr ⟨b, o, cap, ls, rfl, h1, by omega, ?_⟩⟩
    rcases h3 with h3 | h3
    · exact .inl (by omega)
    · right
      have := load_sub h3 (i := 0) (m := k * sz) (by omega)
      simpa using this

/-- s[l:] -/
theorem stepK_lo {E : Env} {fr : List Val} {h : Heap} {x y : Opd} {s : Val} {sz n l : Nat} {ik : IntKind} {cs : List Val} (hx : V.ev fr x = s) (hy : V.ev fr y = .int ik (l : Int)) (e : Sl h s sz n cs) (hk : l ≤ n) {K : Val → Heap → Prop}
    (kk : ∀ s', Sl h s' sz (n - l) (cs.drop (l * sz)) → K s' h) : stepK E fr h (.slice sz x (some y) none none) K := by
  unfold stepK
  have hkn := Nat.mul_le_mul_right sz hk
  have hlen : (cs.drop (l * sz)).length = (n - l) * sz := by rw [List.length_drop, e.1, Nat.sub_mul]
  rcases e.2 with ⟨rfl, rfl⟩ | ⟨b, o, cap, ls, rfl, h1, h2, h3⟩
  · obtain rfl : l = 0 := by omega
    simp [step, hx, sliceVal, bounds, bnd, hy, pureV]
    exact kk _ ⟨by simpa using hlen, .inl ⟨rfl, rfl⟩⟩
  · have hb : bounds fr n cap (some y) none none = some (l, n, cap) := by
      simp only [bounds, bnd, hy, Option.isSome_none, Bool.false_eq_true, if_false]
      rw [if_pos ⟨by omega, by omega⟩]
      simp
    simp only [step, hx, sliceVal, hb, pureV, if_pos h1, Option.isSome_none, Bool.false_eq_true, if_false]
    refine kk _ ⟨hlen, .inr ⟨b, o + l * sz, cap - l, ls, rfl, h1, by omega, ?_⟩⟩
    rcases h3 with h3 | h3
    · left
      have := Nat.mul_le_mul_right sz (Nat.sub_le n l); omega
    · right
      have := load_sub h3 (i := l * sz) (m := (n - l) * sz) (by rw [Nat.sub_mul]; omega)
      rw [this]
      congr 1
      exact List.take_of_length_le (by rw [hlen]; exact Nat.le_refl _)

end Go.V
end

section
set_option linter.unusedVariables false
set_option linter.unusedSimpArgs false
set_option linter.unusedSectionVars false
namespace Go.V
open Go Go.ChangeShapes Go.WideShapes Go.ChangeAt Go.RowKit

variable {H : Type} {enc : TypeId × Value → H} {P : Program}

theorem mapM_get {f : Nat → Option Value} : ∀ (n s : Nat) (l : List Value), (List.range' s n).mapM f = some l → l.length = n ∧ ∀ j v, l[j]? = some v → f (s + j) = some v
  | 0, s, l, e => by
    simp at e; subst e; simp
  | n + 1, s, l, e => by
    rw [List.range'_succ, List.mapM_cons] at e
    cases h1 : f s with
    | none => rw [h1] at e; cases e
    | some y =>
      rw [h1] at e
      cases h2 : (List.range' (s + 1) n).mapM f with
      | none => simp [h2] at e
      | some ys =>
        simp only [h2, Option.pure_def, Option.bind_eq_bind, Option.bind_some, Option.some.injEq] at e
        subst e
        obtain ⟨h3, h4⟩ := mapM_get n (s + 1) ys h2
        refine ⟨by simp [h3], fun j v hj => ?_⟩
        cases j with
        | zero => simp at hj; subst hj; exact h1
        | succ j => have := h4 j v (by simpa using hj); rw [show s + (j + 1) = s + 1 + j by omega]; exact this

theorem cells_get {W : World} {base : Nat} {a : Addr} {n : Nat} {l : List Value} (e : W.cells? base a n = some l) : l.length = n ∧ ∀ j v, l[j]? = some v → W.cell? (a.add j) = some v := by
  unfold World.cells? at e
  split at e
  · rw [List.range_eq_range'] at e
    obtain ⟨h1, h2⟩ := mapM_get n 0 l e
    refine ⟨h1, fun j v hj => ?_⟩
    have := h2 j v hj
    simpa using this
  · cases e

theorem elems_ok {W : World} {base : Nat} {a : Addr} {sz : Nat} {ks : List IntKind} {tr : List Value → Option (DataW H × List MemPlace)} (ht : ∀ l x, tr l = some x → Ints ks l) (hk : ks.length = sz)
    (hadd : ∀ i j, (a.add i).add j = a.add (i + j)) : ∀ (n s : Nat) (xs : List (DataW H × List MemPlace)), (List.range' s n).mapM (fun i => (W.cells? base (a.add (i * sz)) sz).bind tr) = some xs →
    ∃ cells : List Value, cells.length = n * sz ∧ (∀ j v, cells[j]? = some v → W.cell? (a.add (s * sz + j)) = some v) ∧ Ints (List.replicate n ks).flatten cells
  | 0, s, xs, _ => ⟨[], by simp, by simp, by simp [Ints]⟩
  | n + 1, s, xs, e => by
    rw [List.range'_succ, List.mapM_cons] at e
    cases h1 : (W.cells? base (a.add (s * sz)) sz).bind tr with
    | none => rw [h1] at e; cases e
    | some y =>
      rw [h1] at e
      cases h2 : (List.range' (s + 1) n).mapM (fun i => (W.cells? base (a.add (i * sz)) sz).bind tr) with
      | none => simp [h2] at e
      | some ys =>
        obtain ⟨l, h3, h4⟩ := bind_imp h1
        obtain ⟨h5, h6⟩ := cells_get h3
        obtain ⟨cs, c1, c2, c3⟩ := elems_ok ht hk hadd n (s + 1) ys h2
        refine ⟨l ++ cs, by rw [List.length_append, h5, c1, Nat.succ_mul, Nat.add_comm], fun j v hj => ?_, ?_⟩
        · rw [List.getElem?_append] at hj
          split at hj
          · rename_i hlt
            have := h6 j v hj
            rw [hadd] at this; exact this
          · rename_i hge
            have := c2 _ v hj
            rw [h5] at this hge
            rw [show s * sz + j = (s + 1) * sz + (j - sz) by rw [Nat.succ_mul]; omega]
            exact this
        · rw [List.replicate_succ, List.flatten_cons]
          exact (ht _ _ h4).append c3

/-- An argument's memory, as the abstract machine has it: read only. -/
def argHeap (c : List Val) : Heap := { (heap0.new (.cells c)).2 with floor := 1, base := 1 }

theorem argHeap_get (c : List Val) (b : Nat) : (argHeap c).get b = if b = 0 then some (.cells c) else none := by
  have h1 : (argHeap c).get b = (heap0.new (.cells c)).2.get b := rfl
  rw [h1, Heap.new_get]
  have h2 : heap0.hidden b = false := rfl
  rw [h2]
  simp only [Bool.false_eq_true, if_false]
  have h3 : heap0.next = 0 := rfl
  rw [h3, heap0_t]

theorem argHeap_t (c : List Val) (b : Nat) : (argHeap c).t.get b = if b = 0 then some (.cells c) else none := by
  have := argHeap_get c b
  unfold Heap.get at this
  rw [if_neg (by simp [Heap.hidden, argHeap, Heap.new, Heap.put, heap0])] at this
  exact this

theorem argHeap_wf (c : List Val) : Wf (argHeap c) := by
  refine ⟨fun _ _ => rfl, fun b hb => ?_, Nat.le_refl _⟩
  have hb' : 1 ≤ b := hb
  rw [argHeap_t, if_neg (by omega)]

def argRen (l : Loc) : Ren := fun b => if b = 0 then some l else none

theorem argHrel {c : List Val} {l : Loc} {w : World} (h : BRel (argRen l) w l (.cells c)) : HRel (argRen l) (argHeap c) w := by
  refine ⟨fun b x e => ?_, fun b b' x x' l1 l2 e e' _ _ _ => ?_, fun b hb => ?_, fun b x e => ?_, ⟨Nat.le_refl _, Nat.le_refl _⟩, fun b l hb e => absurd e (by have hb' : 1 ≤ b := hb; simp only [argRen]; rw [if_neg (by omega)]; simp)⟩
  · rw [argHeap_get] at e
    split at e
    · rename_i hb; cases e; exact ⟨l, by simp [argRen, hb], h⟩
    · cases e
  · rw [argHeap_get] at e e'
    split at e
    · split at e'
      · left; omega
      · cases e'
    · cases e
  · have hb' : 1 ≤ b := hb
    simp only [argRen]; rw [if_neg (by omega)]
  · rw [argHeap_t] at e
    split at e
    · rename_i hb; subst hb; exact Nat.lt_succ_self _
    · cases e

/-- A law whose arguments' memory is only read. -/
theorem law_args {E : Env} (hE : EnvOk P E) (hpe : PrimsExt E) {n : Nat} {f : FuncId} {ρ : Ren} {h : Heap} {w : World} (hr : HRel ρ h w) (hro : ∀ b x, h.get b = some x → b < h.floor) {args : List Val} {cargs : Array Value} (ha : VRels ρ args cargs.toList) {h' : Heap} (e : run E n f args h = some (.bool true, h')) :
    Calls P f cargs w (fun en w' => en = .returned (.bool true) ∧ (∀ c, c < w.heap.size → w'.heap[c]? = w.heap[c]?) ∧ w'.os = w.os ∧ w'.output = w.output) := by
  refine ((run_sound hE hpe n f args h _ h' e).2 _ w cargs hr ha).mono ?_
  rintro en w' ⟨cv, ρ', he, p, hv⟩
  simp only [VRel] at hv
  subst hv
  exact ⟨he, fun c hc => p.frame c hc (fun b x l hg hf => by have := hro b x hg; omega), p.os, p.output⟩

theorem mapM_len {α β : Type} {f : α → Option β} : ∀ {l : List α} {r : List β}, l.mapM f = some r → r.length = l.length
  | [], r, h => by simp at h; subst h; rfl
  | a :: l, r, h => by
    rw [List.mapM_cons] at h
    cases ha : f a with
    | none => rw [ha] at h; cases h
    | some y =>
      rw [ha] at h
      cases hl : l.mapM f with
      | none => simp [hl] at h
      | some s =>
        simp only [hl, Option.pure_def, Option.bind_eq_bind, Option.bind_some, Option.some.injEq] at h
        subst h
        simp [mapM_len hl]

theorem addr_add (a : Addr) (i j : Nat) : (a.add i).add j = a.add (i + j) := by
  unfold Addr.add
  by_cases hi : i = 0
  · simp [hi]
  · by_cases hj : j = 0
    · simp [hj]
    · rw [if_neg hi, if_neg hj, if_neg (by omega)]
      simp [Nat.add_assoc]

theorem cell_at {W : World} {a : Addr} {v : Value} (h : W.cell? a = some v) : ∃ arr et lo hi, a.spot = none ∧ W.heap[a.block]? = some (.cells arr et (lo, hi)) ∧ arr[a.off]? = some v := by
  unfold World.cell? at h
  split at h
  · rename_i arr et fr hb
    obtain ⟨lo, hi⟩ := fr
    split at h
    · cases h
    · rename_i hs
      exact ⟨arr, et, lo, hi, by simpa using hs, hb, h⟩
  · cases h

/-- What an argument that is a slice of plain elements is. -/
def SliceArg (W : World) (sz : Nat) (ks : List IntKind) (v : Value) : Prop := v = .slice none 0 0 ∨ ∃ a len cap, v = .slice (some a) len cap ∧ len ≤ cap ∧ cap ≤ maxLen ∧
  (cap = 0 ∨ ∃ g o arr et lo hi, a = ⟨g, o, none⟩ ∧ W.heap[g]? = some (.cells arr et (lo, hi)) ∧ o + len * sz ≤ arr.size ∧ (∀ j, o ≤ j → j < o + len * sz → ¬ (lo ≤ j ∧ j < hi)) ∧ Ints (List.replicate len ks).flatten ((arr.toList.drop o).take (len * sz)))

theorem slice_arg {W : World} {fuel : Nat} {t e : TypeId} {ks : List IntKind} {v : Value} {x : DataW H × List MemPlace} (ht : P.underlying t = some (.slice e)) (hf : flatT P 4 e = some ks) (hk : ks.length = P.cellsOf e) (hsz : 0 < P.cellsOf e)
    (h : DataW.trod enc P W 0 (fun _ => true) true fuel t [v] = some x) (hfz : ∀ b off, MemPlace.cell b off ∈ x.2 → W.frozen? ⟨b, off, none⟩ = false) : SliceArg W (P.cellsOf e) ks v := by
  cases fuel with
  | zero => simp [DataW.trod] at h
  | succ fuel =>
    unfold DataW.trod at h
    generalize hu : P.underlying t = u at h
    generalize hcs : [v] = cs at h
    rw [ht] at hu
    split at h
    case h_7 =>
      left
      simpa using hcs
    case h_8 =>
      rename_i e0 a len cap
      simp only [Option.some.injEq, TypeDesc.slice.injEq] at hu
      subst hu
      simp only [List.cons.injEq, and_true] at hcs
      subst hcs
      split at h
      · rename_i hc
        right
        refine ⟨a, len, cap, rfl, hc.2.1, hc.2.2, ?_⟩
        by_cases h0 : cap = 0
        · exact .inl h0
        right
        obtain ⟨elems, e1, e2⟩ := bind_imp h
        simp only [Option.map_eq_some_iff, if_true] at e2
        obtain ⟨rest, e3, rfl⟩ := e2
        rw [List.range_eq_range'] at e1 e3
        obtain ⟨cells, c1, c2, c3⟩ := elems_ok (fun l x q => (flat_trod 4 e ks fuel l x hf q).1) hk (addr_add a) _ _ _ e1
        have first : ∃ v, W.cell? a = some v := by
          rcases Nat.eq_zero_or_pos len with hl | hl
          · subst hl
            have hr : (List.range' 0 (cap - 0)).mapM (fun i => (W.cells? 0 (a.add (i * P.cellsOf e)) (P.cellsOf e)).bind (DataW.trod enc P W 0 (fun _ => true) true fuel e)) = some rest := by simpa using e3
            obtain ⟨cs, d1, d2, _⟩ := elems_ok (fun l x q => (flat_trod 4 e ks fuel l x hf q).1) hk (addr_add a) _ _ _ hr
            have hpos : 0 < cs.length := by rw [d1]; exact Nat.mul_pos (by omega) hsz
            have := d2 0 cs[0] (List.getElem?_eq_getElem hpos)
            exact ⟨_, by simpa [Addr.add] using this⟩
          · have hpos : 0 < cells.length := by rw [c1]; exact Nat.mul_pos hl hsz
            have := c2 0 cells[0] (List.getElem?_eq_getElem hpos)
            exact ⟨_, by simpa [Addr.add] using this⟩
        obtain ⟨v0, hv0⟩ := first
        obtain ⟨arr, et, lo, hi, hspot, hheap, hat⟩ := cell_at hv0
        have ha : a = ⟨a.block, a.off, none⟩ := by cases a; simp at hspot; simp [hspot]
        have rd : ∀ j, j < len * P.cellsOf e → cells[j]? = arr[a.off + j]? := by
          intro j hj
          have := c2 j cells[j] (List.getElem?_eq_getElem (by omega))
          rw [Nat.zero_mul, Nat.zero_add, ha, Addr.add_none] at this
          obtain ⟨arr', et', lo', hi', _, hh', hat'⟩ := cell_at this
          simp only at hh' hat'
          rw [hheap] at hh'
          cases hh'
          rw [hat', List.getElem?_eq_getElem (by omega)]
        have hsize : a.off + len * P.cellsOf e ≤ arr.size := by
          rcases Nat.eq_zero_or_pos (len * P.cellsOf e) with q | q
          · have := (Array.getElem?_eq_some_iff.1 hat).1; omega
          · have := rd (len * P.cellsOf e - 1) (by omega)
            rw [List.getElem?_eq_getElem (by omega)] at this
            have := (Array.getElem?_eq_some_iff.1 this.symm).1
            omega
        refine ⟨a.block, a.off, arr, et, lo, hi, ha, hheap, hsize, fun j h1 h2 hbad => ?_, ?_⟩
        · have hmem : MemPlace.cell a.block j ∈ MemPlace.row a ((elems.length + rest.length) * P.cellsOf e) := by
            unfold MemPlace.row
            refine List.mem_map.2 ⟨j - a.off, ?_, by congr 1; omega⟩
            have hel : elems.length = len := (mapM_len e1).trans (by simp)
            rw [List.mem_range, hel, Nat.add_mul]
            omega
          have := hfz a.block j (by simp only [List.mem_append]; exact .inl hmem)
          simp only [World.frozen?, hheap] at this
          simp at this
          omega
        · have : (arr.toList.drop a.off).take (len * P.cellsOf e) = cells := by
            apply List.ext_getElem?
            intro j
            rw [List.getElem?_take]
            split
            · rename_i hj
              rw [List.getElem?_drop, rd j hj, Array.getElem?_toList]
            · rw [List.getElem?_eq_none (by omega)]
          rw [this]; exact c3
      · cases h
    all_goals first | (cases h; done) | (cases hu; done) | (exfalso; simp at *; done)

end Go.V
end

section
set_option linter.unusedVariables false
set_option linter.unusedSimpArgs false
set_option linter.unusedSectionVars false
namespace Go.V
open Go Go.ChangeShapes Go.WideShapes Go.ChangeAt Go.RowKit

/-- The arguments' memory so far: only read. -/
structure ArgS (ρ : Ren) (h : Heap) (W : World) : Prop where
  hr : HRel ρ h W
  wf : Wf h
  fl : h.floor = h.next
  bs : h.base = h.next
  hid : h.hid = []

theorem ArgS.nil (W : World) : ArgS (fun _ => none) heap0 W := ⟨hrel0 W, ⟨wf0.1, wf0.2.1, wf0.2.2⟩, rfl, rfl, rfl⟩

theorem ArgS.low {ρ : Ren} {h : Heap} {W : World} (A : ArgS ρ h W) : ∀ b x, h.get b = some x → b < h.floor := by
  intro b x e
  rw [A.fl]
  exact lt_of_get A.wf e

def addHeap (h : Heap) (c : List Val) : Heap := { (h.new (.cells c)).2 with floor := h.next + 1, base := h.next + 1 }

def addRen (ρ : Ren) (h : Heap) (l : Loc) : Ren := fun b => if b = h.next then some l else ρ b

theorem addHeap_get {ρ : Ren} {h : Heap} {W : World} (A : ArgS ρ h W) (c : List Val) (b : Nat) : (addHeap h c).get b = if b = h.next then some (.cells c) else h.get b := by
  have h1 : (addHeap h c).get b = (h.new (.cells c)).2.get b := rfl
  rw [h1, Heap.new_get]
  have hd : ∀ j, h.hidden j = false := fun j => by unfold Heap.hidden; rw [A.hid]; rfl
  rw [hd]
  simp only [Bool.false_eq_true, if_false]
  split
  · rfl
  · unfold Heap.get; rw [hd]; rfl

theorem addHeap_wf {ρ : Ren} {h : Heap} {W : World} (A : ArgS ρ h W) (c : List Val) : Wf (addHeap h c) := by
  have w := (Grow.new A.wf (.cells c)).wf A.wf
  exact ⟨w.hid, w.t, Nat.le_refl _⟩

theorem addRen_le {ρ : Ren} {h : Heap} {W : World} (A : ArgS ρ h W) (l : Loc) : ρ.le (addRen ρ h l) := by
  intro b x e
  unfold addRen
  rw [if_neg]
  · exact e
  · rintro rfl
    rw [A.hr.top _ (Nat.le_refl _)] at e; cases e

theorem ArgS.add {ρ : Ren} {h : Heap} {W : World} (A : ArgS ρ h W) {c : List Val} {l : Loc} (hb : BRel (addRen ρ h l) W l (.cells c)) : ArgS (addRen ρ h l) (addHeap h c) W ∧ Keep h (addHeap h c) := by
  have hg := addHeap_get A c
  have hk : Keep h (addHeap h c) := by
    intro b x e
    rw [hg, if_neg]
    · exact e
    · have := lt_of_get A.wf e; omega
  have tightA : ∀ b l', (addHeap h c).base ≤ b → addRen ρ h l b = some l' → l'.t = true := by
    intro b l' q e
    have q' : h.next + 1 ≤ b := q
    unfold addRen at e
    rw [if_neg (by omega), A.hr.top b (by omega)] at e; cases e
  refine ⟨⟨⟨?_, ?_, ?_, ?_, ⟨Nat.le_refl _, Nat.le_refl _⟩, tightA⟩, addHeap_wf A c, rfl, rfl, A.hid⟩, hk⟩
  · intro b x e
    rw [hg] at e
    split at e
    · rename_i q; cases e; exact ⟨l, by simp [addRen, q], hb⟩
    · rename_i q
      obtain ⟨l', e1, e2⟩ := A.hr.blk b x e
      exact ⟨l', by simp [addRen, q, e1], e2.mono (addRen_le A l) rfl⟩
  · intro b b' x x' l1 l2 e e' _ _ _
    right
    have w := addHeap_wf A c
    exact ⟨lt_of_get w e, lt_of_get w e'⟩
  · intro b q
    have q' : h.next + 1 ≤ b := q
    unfold addRen
    rw [if_neg (by omega)]
    exact A.hr.top b (by omega)
  · intro b x e
    have w := addHeap_wf A c
    rcases Nat.lt_or_ge b (addHeap h c).next with q | q
    · exact q
    · rw [w.t b q] at e; cases e

/-- An argument that is a slice of plain elements, beside those before it. -/
theorem ArgS.slice {ρ : Ren} {h : Heap} {W : World} (A : ArgS ρ h W) {D : Type} {cellsD : D → List Val} {sz : Nat} {ks : List IntKind} (hl : ∀ d, (cellsD d).length = sz) (dec : ∀ (n : Nat) (l : List Value), Ints (List.replicate n ks).flatten l → ∃ es : List D, es.length = n ∧ ∀ ρ, VRels ρ (es.flatMap cellsD) l)
    {v : Value} (hs : SliceArg W sz ks v) : ∃ (ρ' : Ren) (h' : Heap) (s : Val) (es : List D), ArgS ρ' h' W ∧ ρ.le ρ' ∧ Keep h h' ∧ VRel ρ' s v ∧ Sl h' s sz es.length (es.flatMap cellsD) := by
  rcases hs with rfl | ⟨a, len, cap, rfl, hle, hmax, hs⟩
  · exact ⟨ρ, h, .nils, [], A, Ren.le_refl _, Keep.refl _, by simp only [VRel], ⟨by simp, .inl ⟨rfl, rfl⟩⟩⟩
  · by_cases h0 : cap = 0
    · obtain rfl : len = 0 := by omega
      subst h0
      refine ⟨ρ, h, .slice 0 0 0 0 0, [], A, Ren.le_refl _, Keep.refl _, ?_, ⟨by simp, .inr ⟨0, 0, 0, 0, rfl, .inl rfl, Nat.le_refl _, .inl (by simp)⟩⟩⟩
      simp only [VRel]
      exact ⟨a, 0, rfl, Nat.le_refl _, Nat.le_refl _, fun _ => rfl, .inl ⟨rfl, .inl trivial⟩⟩
    · rcases hs with hs | ⟨g, o, arr, et, lo, hi, rfl, hheap, hsize, hfz, hints⟩
      · exact absurd hs h0
      · obtain ⟨es, e1, e2⟩ := dec len _ hints
        have hcl : (es.flatMap cellsD).length = len * sz := by rw [flat_len hl, e1]
        obtain ⟨A', k⟩ := A.add (l := ⟨g, o, 0, false⟩) (c := es.flatMap cellsD) ⟨arr, et, lo, hi, hheap, (by
          intro j h1 h2
          rw [hcl] at h2
          exact hfz j h1 (by rcases h2 with h2 | h2 <;> simp only at h1 h2 <;> omega)), (by rw [hcl]; exact hsize), Nat.zero_le _, (by rw [hcl]; exact e2 _), [], ⟨by intro ρ; simp only [Nat.zero_sub, List.take_zero]; exact .nil, fun q => by cases q⟩⟩
        refine ⟨_, _, .slice h.next 0 len cap 0, es, A', addRen_le A _, k, ?_, ?_⟩
        · simp only [VRel]
          refine ⟨⟨g, o, none⟩, cap, rfl, hle, Nat.le_refl _, fun _ => rfl, .inr ⟨⟨g, o, 0, false⟩, by simp [addRen], by simp, fun q => absurd rfl q⟩⟩
        · refine ⟨by rw [flat_len hl], .inr ⟨h.next, 0, cap, 0, by rw [e1], .inl rfl, by omega, .inr ?_⟩⟩
          have hg : (addHeap h (es.flatMap cellsD)).get h.next = some (.cells (es.flatMap cellsD)) := by rw [addHeap_get A, if_pos rfl]
          rw [load_get hg (by rw [flat_len hl]; omega), List.drop_zero, ← flat_len hl, List.take_length]

end Go.V
end

section
set_option linter.unusedVariables false
set_option linter.unusedSimpArgs false
set_option linter.unusedSectionVars false
namespace Go.V

mutual
/-- Pointers that are known lead where they led. -/
theorem VRel.back {ρ ρ' : Ren} (h : ρ.le ρ') : ∀ (x : Val) (u v : Value), VRel ρ x u → VRel ρ' x v → VRel ρ x v
  | .undef, _, _, _, r | .bool _, _, _, _, r | .int _ _, _, _, _, r | .str _, _, _, _, r | .nilp, _, _, _, r | .nils, _, _, _, r | .nilm, _, _, _, r | .nilf, _, _, _, r | .nili, _, _, _, r => by
    simpa only [VRel] using r
  | .ptr b o, u, v, q, r => by
    simp only [VRel] at q r ⊢
    obtain ⟨l, hl, _⟩ := q
    obtain ⟨l', hl', e⟩ := r
    have := h _ _ hl
    rw [this] at hl'
    cases hl'
    exact ⟨_, hl, e⟩
  | .slice b o n cap ls, u, v, q, r => by
    simp only [VRel] at q r ⊢
    obtain ⟨a, cap', e, h1, h2, h3, h4⟩ := q
    obtain ⟨a', cap'', e', g1, g2, g3, g4⟩ := r
    refine ⟨a', cap'', e', g1, g2, g3, ?_⟩
    rcases g4 with ⟨g4, g6⟩ | ⟨l', hl', g5⟩
    · refine .inl ⟨g4, ?_⟩
      rcases h4 with ⟨_, h4⟩ | ⟨l, hl, _⟩
      · exact h4
      · exact .inr ⟨l, hl⟩
    · have fin : (∃ l, ρ b = some l) → (cap'' = 0 ∧ (ls = 0 ∨ ∃ l, ρ b = some l)) ∨ ∃ l, ρ b = some l ∧ a' = ⟨l.c, l.s + o, none⟩ ∧ (ls ≠ 0 → l.s + o + cap'' * ls ≤ l.e) := by
        rintro ⟨l, hl⟩
        have := h _ _ hl
        rw [this] at hl'
        cases hl'
        exact .inr ⟨_, hl, g5⟩
      rcases h4 with ⟨h4, h5 | h5⟩ | ⟨l, hl, _⟩
      · exact .inl ⟨by rw [g3 h5, ← h3 h5, h4], .inl h5⟩
      · exact fin h5
      · exact fin ⟨l, hl⟩
  | .map b, u, v, q, r => by
    simp only [VRel] at q r ⊢
    obtain ⟨l, hl, _⟩ := q
    obtain ⟨l', hl', e⟩ := r
    have := h _ _ hl
    rw [this] at hl'
    cases hl'
    exact ⟨_, hl, e⟩
  | .func f a c, u, v, q, r => by
    simp only [VRel] at q r ⊢
    obtain ⟨a1, c1, _, h1, h2⟩ := q
    obtain ⟨a2, c2, e, g1, g2⟩ := r
    exact ⟨a2, c2, e, VRels.back h _ _ _ h1 g1, VRels.back h _ _ _ h2 g2⟩
  | .iface t x, u, v, q, r => by
    simp only [VRel] at q r ⊢
    obtain ⟨x1, _, h1⟩ := q
    obtain ⟨x2, e, g1⟩ := r
    exact ⟨x2, e, VRel.back h _ _ _ h1 g1⟩
  | .agg l, u, v, q, r => by
    simp only [VRel] at q r ⊢
    obtain ⟨a1, _, h1⟩ := q
    obtain ⟨a2, e, g1⟩ := r
    exact ⟨a2, e, VRels.back h _ _ _ h1 g1⟩
  | .tup l, u, v, q, r => by
    simp only [VRel] at q r ⊢
    obtain ⟨a1, _, h1⟩ := q
    obtain ⟨a2, e, g1⟩ := r
    exact ⟨a2, e, VRels.back h _ _ _ h1 g1⟩
theorem VRels.back {ρ ρ' : Ren} (h : ρ.le ρ') : ∀ (x : List Val) (u v : List Value), VRels ρ x u → VRels ρ' x v → VRels ρ x v
  | [], _, _, _, r => by simpa only [VRels] using r
  | x :: r, u, v, q, s => by
    simp only [VRels] at q s ⊢
    obtain ⟨_, _, _, h1, h2⟩ := q
    obtain ⟨y, t, e, g1, g2⟩ := s
    exact ⟨y, t, e, VRel.back h _ _ _ h1 g1, VRels.back h _ _ _ h2 g2⟩
end

theorem BRel.back {ρ ρ' : Ren} {w w' : World} {l : Loc} {x : Blk} (h : ρ.le ρ') (a : BRel ρ w l x) (b : BRel ρ' w' l x) : BRel ρ w' l x := by
  cases x with
  | cells c =>
    obtain ⟨_, _, _, _, _, _, _, _, h5, _⟩ := a
    obtain ⟨arr, e, lo, hi, g1, g2, g3, g4, g5, t, g6⟩ := b
    exact ⟨arr, e, lo, hi, g1, g2, g3, g4, VRels.back h _ _ _ h5 g5, t, g6⟩
  | map es =>
    obtain ⟨_, _, _, h2, h3⟩ := a
    obtain ⟨ent, clock, g1, g2, g3⟩ := b
    exact ⟨ent, clock, g1, VRels.back h _ _ _ h2 g2, VRels.back h _ _ _ h3 g3⟩

/-- What was made is forgotten. -/
theorem Post.forget {ρ ρ' : Ren} {h h' : Heap} {w w' : World} (hr : HRel ρ h w) (p : Post ρ h w ρ' h' w') (k : ∀ b x, h.get b = some x → h'.get b = some x) : Post ρ h w ρ h w' := by
  refine ⟨Ren.le_refl _, ⟨?_, hr.inj, hr.top, hr.low, hr.bs, hr.tight⟩, rfl, rfl, rfl, Nat.le_refl _, fun _ _ h => h, p.os, p.tape, p.output, p.size, p.frame, fun b l h1 h2 => (by rw [h1] at h2; cases h2), fun b l h1 h2 => (by rw [h1] at h2; cases h2)⟩
  intro b x e
  obtain ⟨l, h1, h2⟩ := hr.blk b x e
  obtain ⟨l', h3, h4⟩ := p.hrel.blk b x (k b x e)
  have := p.ext _ _ h1
  rw [this] at h3
  cases h3
  exact ⟨l, h1, h2.back p.ext h4⟩

/-- Is a heap as the rules want it? -/
def wfB (h : Heap) : Bool := (h.hid.all fun r => decide (r.2 ≤ h.next)) && decide (h.floor ≤ h.next)

theorem wf_of {ρ : Ren} {h : Heap} {w : World} (hr : HRel ρ h w) (e : wfB h = true) : Wf h := by
  unfold wfB at e
  rw [Bool.and_eq_true, List.all_eq_true, decide_eq_true_eq] at e
  refine ⟨fun b hb => ?_, fun b hb => ?_, e.2⟩
  · unfold Heap.hidden
    rw [List.any_eq_false]
    intro r hr
    have := e.1 r hr
    simp at this ⊢; omega
  · cases q : h.t.get b with
    | none => rfl
    | some x => have := hr.low b x q; omega

/-- A contract as a whole function: its value is plain, the heap stays. -/
theorem prim_of {P : Program} {E : Env} (hE : EnvOk P E) (hpe : PrimsExt E) {f : FuncId} {args : List Val} {h : Heap} {v : Val} (c : Wf h → WC E f args h fun u h' => Grow h h' ∧ u = v) (hv : ∀ ρ cv, VRel ρ v cv → ∀ ρ', VRel ρ' v cv) (hw : wfB h = true)
    {ρ : Ren} {w : World} {cargs : Array Value} (hr : HRel ρ h w) (ha : VRels ρ args cargs.toList) : Calls P f cargs w (fun e w' => ∃ cv ρ', e = .returned cv ∧ Post ρ h w ρ' h w' ∧ VRel ρ' v cv) := by
  obtain ⟨n, u, h', e, g, rfl⟩ := c (wf_of hr hw)
  refine ((run_sound hE hpe n f args h u h' e).2 ρ w cargs hr ha).mono ?_
  rintro en w' ⟨cv, ρ', he, p, hvr⟩
  exact ⟨cv, ρ, he, p.forget hr g.keep, hv _ _ hvr _⟩

theorem lt_of_get0 {h : Heap} (w : Wf h) {b : Nat} {x : Blk} (e : h.get b = some x) : b < h.next := by
  rcases Nat.lt_or_ge b h.next with k | k
  · exact k
  · have := w.t b k
    rw [Heap.get_t e] at this; cases this

/-- All but one block that was made is forgotten. -/
theorem Post.owned {ρ ρ2 : Ren} {h h2 : Heap} {w w' : World} (hr : HRel ρ h w) (wf : Wf h) (p : Post ρ h w ρ2 h2 w') (k : ∀ b x, h.get b = some x → h2.get b = some x) {b : Nat} (hb : h.next ≤ b) {cs : List Val} (hg : h2.get b = some (.cells cs)) (hp : ∀ ρ l, VRels ρ cs l → ∀ ρ', VRels ρ' cs l) :
    ∃ ρ', Post ρ h w ρ' (h.new (.cells cs)).2 w' ∧ ρ' h.next = ρ2 b := by
  have hbn : ρ b = none := hr.top b hb
  have gn := Grow.new wf (.cells cs)
  have wn := gn.wf wf
  have hnn : (h.new (.cells cs)).2.next = h.next + 1 := rfl
  have old : ∀ j x, (h.new (.cells cs)).2.get j = some x → j ≠ h.next → h.get j = some x := by
    intro j x e hj
    rw [Heap.new_get] at e
    unfold Heap.get
    split at e
    · cases e
    · rename_i q
      first | exact e | (rw [if_neg q]; exact e) | (rw [if_neg hj] at e; rw [if_neg q]; exact e)
  have ext : ρ.le (fun j => if j = h.next then ρ2 b else ρ j) := by
    intro j l e
    simp only
    rw [if_neg]
    · exact e
    · rintro rfl; rw [hr.top _ (Nat.le_refl _)] at e; cases e
  have tightO : ∀ j l, h.base ≤ j → (fun j => if j = h.next then ρ2 b else ρ j) j = some l → l.t = true := by
    intro j l hj e
    simp only at e
    split at e
    · exact p.hrel.tight b l (by rw [p.base]; exact Nat.le_trans hr.bs.2 hb) e
    · exact hr.tight j l hj e
  refine ⟨fun j => if j = h.next then ρ2 b else ρ j, ⟨ext, ⟨?_, ?_, ?_, ?_, ⟨hr.bs.1, Nat.le_trans hr.bs.2 (Nat.le_succ _)⟩, tightO⟩, rfl, rfl, rfl, Nat.le_succ _, ?_, p.os, p.tape, p.output, p.size, p.frame, ?_, ?_⟩, if_pos rfl⟩
  · intro j x e
    by_cases hj : j = h.next
    · subst hj
      rw [new_self wf] at e
      cases e
      obtain ⟨l, h1, arr, et, lo, hi, g1, g2, g3, g4, g5, g6⟩ := p.hrel.blk b _ hg
      exact ⟨l, by simp [h1], arr, et, lo, hi, g1, g2, g3, g4, hp _ _ g5 _, g6⟩
    · have e' := old j x e hj
      obtain ⟨l, h1, h2'⟩ := hr.blk j x e'
      obtain ⟨l', h3, h4⟩ := p.hrel.blk j x (k j x e')
      have := p.ext _ _ h1
      rw [this] at h3
      cases h3
      exact ⟨l, by simp [hj, h1], (h2'.back p.ext h4).mono ext rfl⟩
  · intro j j' x x' l l' e e' r r' hc
    try simp only at r r'
    by_cases hj : j = h.next <;> by_cases hj' : j' = h.next
    · left; omega
    · rw [if_pos hj] at r
      rw [if_neg hj'] at r'
      have e1 := old j' x' e' hj'
      have e2 := k _ _ e1
      rcases p.hrel.inj b j' _ _ _ _ hg e2 r (p.ext _ _ r') hc with q | q
      · have := lt_of_get0 wf e1; omega
      · have := p.base; have := hr.bs.2; omega
    · rw [if_neg hj] at r
      rw [if_pos hj'] at r'
      have e1 := old j x e hj
      have e2 := k _ _ e1
      rcases p.hrel.inj j b _ _ _ _ e2 hg (p.ext _ _ r) r' hc with q | q
      · have := lt_of_get0 wf e1; omega
      · have := p.base; have := hr.bs.2; omega
    · rw [if_neg hj] at r
      rw [if_neg hj'] at r'
      exact hr.inj j j' _ _ _ _ (old j x e hj) (old j' x' e' hj') r r' hc
  · intro j hj
    rw [hnn] at hj
    try simp only
    rw [if_neg (by omega)]
    exact hr.top j (by omega)
  · intro j x e
    rcases Nat.lt_or_ge j (h.new (.cells cs)).2.next with q | q
    · exact q
    · rw [wn.t j q] at e; cases e
  · intro j hj e
    cases q : (h.new (.cells cs)).2.get j with
    | none => rw [q] at e; cases e
    | some x => rw [old j x q (by omega)]; rfl
  · intro j l e1 e2
    try simp only at e1
    by_cases hj : j = h.next
    · rw [if_pos hj] at e1
      exact p.fresh b l e1 hbn
    · rw [if_neg hj, e2] at e1; cases e1
  · intro j l e1 e2
    try simp only at e1
    by_cases hj : j = h.next
    · omega
    · rw [if_neg hj, e2] at e1; cases e1

end Go.V
end

section
set_option linter.unusedVariables false
set_option linter.unusedSimpArgs false
set_option linter.unusedSectionVars false
namespace Go.V

theorem HRel.exact {ρ : Ren} {h : Heap} {w : World} (hr : HRel ρ h w) {b o n cap ls : Nat} {cv : Value} (hv : VRel ρ (.slice b o n cap ls) cv) (hls : ls ≠ 0) {cs : List Val} (hg : h.get b = some (.cells cs)) (hf : h.floor ≤ b) :
    ∃ (t : List Val) (cap' : Nat), HRel ρ (h.put b (some (.cells (cs ++ t)))) w ∧ VRel ρ (.slice b o n cap' 0) cv ∧ cap ≤ cap' ∧ (cap' = 0 ∨ o + cap' * ls ≤ (cs ++ t).length) ∧ ∃ m : List Value, ∀ ρ, VRels ρ t m := by
  simp only [VRel] at hv
  obtain ⟨a, cap', rfl, h1, h2, h3, h4⟩ := hv
  obtain ⟨l, hl, arr, e, lo, hi, a1, a2, a3, a4, a5, t, a6, a7⟩ := hr.blk b _ hg
  have htl : t.length = l.e - (l.s + cs.length) := by
    have := (a6 ρ).length
    simp only [List.length_take, List.length_drop, Array.length_toList] at this
    omega
  rcases h4 with ⟨z, q⟩ | ⟨l', hl', ha, hle⟩
  · refine ⟨[], cap', (Post.put hr hg hf hl (fun _ _ => rfl) rfl rfl rfl rfl (by rw [List.append_nil]; exact ⟨arr, e, lo, hi, a1, a2, a3, a4, a5, t, a6, a7⟩)).hrel, ?_, h2, .inl z, [], fun ρ => .nil⟩
    simp only [VRel]
    exact ⟨a, cap', rfl, by omega, Nat.le_refl _, fun _ => rfl, .inl ⟨z, .inl trivial⟩⟩
  · rw [hl] at hl'; cases hl'
    have hle := hle hls
    obtain ⟨k, hk⟩ : ∃ k, k = o + cap' * ls - cs.length := ⟨_, rfl⟩
    have hk1 : k ≤ t.length := by omega
    have hlen : (cs ++ t.take k).length = cs.length + k := by simp only [List.length_append, List.length_take]; omega
    refine ⟨t.take k, cap', (Post.put hr hg hf hl (fun _ _ => rfl) rfl rfl rfl rfl ?_).hrel, ?_, h2, .inr (by rw [hlen]; omega), (((arr.toList.drop (l.s + cs.length)).take (l.e - (l.s + cs.length))).take k), fun ρ => (a6 ρ).take k⟩
    · refine ⟨arr, e, lo, hi, a1, ?_, ?_, a4, ?_, t.drop k, ?_, a7⟩
      · rw [hlen]
        intro j q1 q2
        exact a2 j q1 (by omega)
      · rw [hlen]; omega
      · rw [hlen, List.take_add]
        refine a5.append ?_
        have q := (a6 ρ).take k
        rw [List.take_take, Nat.min_eq_left (by omega)] at q
        rw [List.drop_drop]
        exact q
      · intro ρ
        have q := (a6 ρ).drop k
        rw [List.drop_take, List.drop_drop] at q
        rw [hlen, show l.s + (cs.length + k) = l.s + cs.length + k by omega, show l.e - (l.s + cs.length + k) = l.e - (l.s + cs.length) - k by omega]
        exact q
    · simp only [VRel]
      exact ⟨a, cap', rfl, by omega, Nat.le_refl _, fun _ => rfl, .inr ⟨l, hl, ha, fun q => absurd rfl q⟩⟩

end Go.V
end

section
set_option linter.unusedVariables false
set_option linter.unusedSimpArgs false
set_option linter.unusedSectionVars false
namespace Go.V

/-- A part of a block, by itself: what lies behind it is plain. -/
theorem BRel.part {ρ ρ' : Ren} {w : World} {l : Loc} {pre cs post : List Val} (a : BRel ρ w l (.cells (pre ++ cs ++ post))) (hp : ∀ ρ l, VRels ρ cs l → ∀ ρ', VRels ρ' cs l) (hq : ∀ ρ l, VRels ρ post l → ∀ ρ', VRels ρ' post l) :
    BRel ρ' w ⟨l.c, l.s + pre.length, l.s + (pre ++ cs ++ post).length, l.t⟩ (.cells cs) := by
  obtain ⟨arr, e, lo, hi, a1, a2, a3, a4, a5, t, a6, a7⟩ := a
  have hlen : (pre ++ cs ++ post).length = pre.length + cs.length + post.length := by simp only [List.length_append]
  refine ⟨arr, e, lo, hi, a1, ?_, ?_, a3, ?_, post, ?_, a7⟩
  · intro j q1 q2
    simp only at q1 q2
    exact a2 j (by omega) (.inl (by omega))
  · simp only; omega
  · have q := (a5.drop pre.length).take cs.length
    rw [List.append_assoc, List.drop_left, List.take_left, List.drop_take, List.drop_drop, List.take_take, Nat.min_eq_left (by simp only [List.length_append]; omega)] at q
    exact hp _ _ q _
  · intro ρ''
    have q := (a5.drop (pre ++ cs).length)
    rw [List.drop_left, List.drop_take, List.drop_drop] at q
    simp only
    have e1 : l.s + pre.length + cs.length = l.s + (pre ++ cs).length := by simp only [List.length_append]; omega
    have e2 : l.s + (pre ++ cs ++ post).length - (l.s + (pre ++ cs).length) = (pre ++ cs ++ post).length - (pre ++ cs).length := by omega
    rw [e1, e2]
    exact hq _ _ q _

/-- What an operation on the exact slice left, told of the loose one. -/
theorem Post.rename {ρ ρ2 : Ren} {h h2 : Heap} {w w' : World} (hr : HRel ρ h w) (wf : Wf h) {b : Nat} {x0 y : Blk} {L : Loc} (hg0 : h.get b = some x0) (hf : h.floor ≤ b) (hL : ρ b = some L) (p : Post ρ (h.put b (some y)) w ρ2 h2 w')
    (k : ∀ j x, j ≠ b → h.get j = some x → h2.get j = some x) {b2 : Nat} (hb2 : b2 = b ∨ h.next ≤ b2) {pre cs post : List Val} (hg : h2.get b2 = some (.cells (pre ++ cs ++ post)))
    (hp : ∀ ρ l, VRels ρ cs l → ∀ ρ', VRels ρ' cs l) (hq : ∀ ρ l, VRels ρ post l → ∀ ρ', VRels ρ' post l) {l2 : Loc} (hl2 : ρ2 b2 = some l2) :
    ∃ ρ', Post ρ h w ρ' ((h.put b none).new (.cells cs)).2 w' ∧ ρ' h.next = some ⟨l2.c, l2.s + pre.length, l2.s + (pre ++ cs ++ post).length, l2.t⟩ := by
  obtain ⟨l3, hl3⟩ : ∃ l3 : Loc, l3 = ⟨l2.c, l2.s + pre.length, l2.s + (pre ++ cs ++ post).length, l2.t⟩ := ⟨_, rfl⟩
  have hlow := hr.low b x0 (Heap.get_t hg0)
  have hnn : ((h.put b none).new (.cells cs)).2.next = h.next + 1 := rfl
  have ht : ((h.put b none).new (.cells cs)).2.t = (h.t.set (b + 1) b none).set (h.next + 1) h.next (some (.cells cs)) := rfl
  have old : ∀ j x, ((h.put b none).new (.cells cs)).2.get j = some x → (j = h.next ∧ x = .cells cs) ∨ (j ≠ h.next ∧ j ≠ b ∧ h.get j = some x) := by
    intro j x e
    have e1 := Heap.get_t e
    have e2 := Heap.get_nh e
    rw [ht, Tr.get_set _ _ _ _ _ (by omega)] at e1
    split at e1
    · cases e1; exact .inl ⟨by assumption, rfl⟩
    · rename_i q
      rw [Tr.get_set _ _ _ _ _ (by omega)] at e1
      split at e1
      · cases e1
      · rename_i q'
        refine .inr ⟨q, q', ?_⟩
        have e3 : h.hidden j = false := e2
        unfold Heap.get
        rw [e3]; exact e1
  have ext : ρ.le (fun j => if j = h.next then some l3 else ρ j) := by
    intro j l e
    simp only
    rw [if_neg]
    · exact e
    · rintro rfl; rw [hr.top _ (Nat.le_refl _)] at e; cases e
  have hbase : h2.base = h.base := p.base
  have hown : h2.base ≤ b2 := by
    rw [hbase]
    rcases hb2 with rfl | q
    · exact Nat.le_trans hr.bs.1 hf
    · exact Nat.le_trans hr.bs.2 q
  obtain ⟨l2', hl2', hB⟩ := p.hrel.blk b2 _ hg
  rw [hl2] at hl2'; cases hl2'
  have nolt : ∀ j x, j ≠ b → h.get j = some x → j ≠ b2 := by
    intro j x hj e q
    have := hr.low j x (Heap.get_t e)
    rcases hb2 with q' | q'
    · exact hj (q.trans q')
    · omega
  refine ⟨fun j => if j = h.next then some l3 else ρ j, ⟨ext, ⟨?_, ?_, ?_, ?_, ⟨hr.bs.1, Nat.le_trans hr.bs.2 (Nat.le_succ _)⟩, ?_⟩, rfl, rfl, rfl, Nat.le_succ _, ?_, p.os, p.tape, p.output, p.size, ?_, ?_, ?_⟩, (if_pos rfl).trans (congrArg some hl3)⟩
  · intro j x e
    rcases old j x e with ⟨rfl, rfl⟩ | ⟨hj, hjb, e'⟩
    · exact ⟨l3, by simp, hl3 ▸ hB.part hp hq⟩
    · obtain ⟨l, h1, h2'⟩ := hr.blk j x e'
      obtain ⟨l', h3, h4⟩ := p.hrel.blk j x (k j x hjb e')
      have := p.ext _ _ h1
      rw [this] at h3
      cases h3
      exact ⟨l, by simp [hj, h1], (h2'.back p.ext h4).mono ext rfl⟩
  · intro j j' x x' l l' e e' r r' hc
    try simp only at r r'
    rcases old j x e with ⟨rfl, rfl⟩ | ⟨hj, hjb, e1⟩ <;> rcases old j' x' e' with ⟨rfl, rfl⟩ | ⟨hj', hjb', e1'⟩
    · exact .inl rfl
    · rw [if_pos rfl] at r
      rw [if_neg hj'] at r'
      cases r
      have hc' : l2.c = l'.c := by rw [← hc, hl3]
      rcases p.hrel.inj b2 j' _ _ _ _ hg (k _ _ hjb' e1') hl2 (p.ext _ _ r') hc' with q | q
      · exact absurd q.symm (nolt _ _ hjb' e1')
      · omega
    · rw [if_neg hj] at r
      rw [if_pos rfl] at r'
      cases r'
      have hc' : l.c = l2.c := by rw [hc, hl3]
      rcases p.hrel.inj j b2 _ _ _ _ (k _ _ hjb e1) hg (p.ext _ _ r) hl2 hc' with q | q
      · exact absurd q (nolt _ _ hjb e1)
      · omega
    · rw [if_neg hj] at r
      rw [if_neg hj'] at r'
      exact hr.inj j j' _ _ _ _ e1 e1' r r' hc
  · intro j hj
    rw [hnn] at hj
    try simp only
    rw [if_neg (by omega)]
    exact hr.top j (by omega)
  · intro j x e
    rw [ht, Tr.get_set _ _ _ _ _ (by omega)] at e
    rw [hnn]
    split at e
    · omega
    · rw [Tr.get_set _ _ _ _ _ (by omega)] at e
      split at e
      · cases e
      · have := hr.low j x e; omega
  · intro j l hj e
    try simp only at e
    split at e
    · cases e; rw [hl3]; exact p.hrel.tight b2 l2 hown hl2
    · exact hr.tight j l hj e
  · intro j hj e
    obtain ⟨x, hx⟩ := Option.isSome_iff_exists.1 e
    rcases old j x hx with ⟨rfl, rfl⟩ | ⟨_, _, e'⟩
    · omega
    · simp [e']
  · intro c hc q
    refine p.frame c hc fun j x l e f r => ?_
    have f' : h.floor ≤ j := f
    by_cases hj : j = b
    · subst hj; exact q j x0 l hg0 f' r
    · have nh0 := Heap.get_nh e
      have nh : h.hidden j = false := nh0
      rw [Heap.get_put, nh] at e
      have e3 : h.get j = some x := by
        unfold Heap.get
        rw [nh]
        simpa [hj] using e
      exact q j x l e3 f' r
  · intro j l e1 e2
    try simp only at e1
    split at e1
    · cases e1
      rw [hl3]
      rcases hb2 with rfl | q
      · have := p.ext _ _ hL
        rw [hl2] at this
        exact .inr ⟨_, x0, L, hg0, hf, hL, (congrArg Loc.c (Option.some.inj this)).symm⟩
      · rcases p.fresh b2 l2 hl2 (hr.top _ q) with z | ⟨b0, x1, l0, z1, z2, z3, z4⟩
        · exact .inl z
        · have z2' : h.floor ≤ b0 := z2
          by_cases hj : b0 = b
          · subst hj; exact .inr ⟨_, x0, l0, hg0, z2', z3, z4⟩
          · refine .inr ⟨b0, x1, l0, ?_, z2', z3, z4⟩
            have nh0 := Heap.get_nh z1
            have nh : h.hidden b0 = false := nh0
            rw [Heap.get_put, nh] at z1
            unfold Heap.get
            rw [nh]
            simpa [hj] using z1
    · rw [e2] at e1; cases e1
  · intro j l e1 e2
    try simp only at e1
    split at e1
    · omega
    · rw [e2] at e1; cases e1

end Go.V
end

section
set_option linter.unusedVariables false
set_option linter.unusedSimpArgs false
set_option linter.unusedSectionVars false
namespace Go.V

theorem maxB : maxBytes = 70368744177664 := by decide

theorem firstCells_sl {h : Heap} {s : Val} {sz n : Nat} {cs : List Val} (e : Sl h s sz n cs) : lenVal s = some n ∧ firstCells h sz n s = some cs := by
  rcases e.2 with ⟨rfl, rfl⟩ | ⟨b, o, cap, ls, rfl, _, _, e2⟩
  · have : cs = [] := List.eq_nil_of_length_eq_zero (by have := e.1; omega)
    subst this; exact ⟨rfl, rfl⟩
  · refine ⟨rfl, ?_⟩
    simp only [firstCells, Nat.le_refl, if_true]
    by_cases h0 : n * sz = 0
    · have : cs = [] := List.eq_nil_of_length_eq_zero (by have := e.1; omega)
      rw [if_pos h0, this]
    · rw [if_neg h0]
      rcases e2 with e2 | e2
      · exact absurd e2 h0
      · exact e2

/-- What a function has made for itself. 'h0': the heap at its start. -/
def Own (h0 h : Heap) (v : Val) (sz : Nat) (cs : List Val) : Prop := (v = .nils ∧ cs = []) ∨ ∃ b n cap ls cells, v = .slice b 0 n cap ls ∧ (ls = 0 ∨ ls = sz) ∧ h0.next ≤ b ∧ h.get b = some (.cells cells) ∧ n ≤ cap ∧ cells.length = cap * sz ∧ cs.length = n * sz ∧ cells.take (n * sz) = cs

theorem Own.sl {h0 h : Heap} {v : Val} {sz : Nat} {cs : List Val} (hz : 0 < sz) (o : Own h0 h v sz cs) : ∃ n, cs.length = n * sz ∧ Sl h v sz n cs := by
  rcases o with ⟨rfl, rfl⟩ | ⟨b, n, cap, ls, cells, rfl, _, _, hg, hn, hl, hc, ht⟩
  · exact ⟨0, by simp, by simp, .inl ⟨rfl, rfl⟩⟩
  · rename_i hls _
    refine ⟨n, hc, hc, .inr ⟨b, 0, cap, ls, rfl, hls, hn, .inr ?_⟩⟩
    have := Nat.mul_le_mul_right sz hn
    rw [load_get hg (by omega), List.drop_zero, ht]

theorem Own.keep {h0 h h' : Heap} {v : Val} {sz : Nat} {cs : List Val} (o : Own h0 h v sz cs) (g : Keep h h') : Own h0 h' v sz cs := by
  rcases o with ⟨rfl, rfl⟩ | ⟨b, n, cap, ls, cells, rfl, h1, h2, hg, hn, hl, hc, ht⟩
  · exact .inl ⟨rfl, rfl⟩
  · exact .inr ⟨b, n, cap, ls, cells, rfl, h1, h2, g _ _ hg, hn, hl, hc, ht⟩

theorem Own.down {h0 h1 h : Heap} {v : Val} {sz : Nat} {cs : List Val} (o : Own h1 h v sz cs) (g : h0.next ≤ h1.next) : Own h0 h v sz cs := by
  rcases o with ⟨rfl, rfl⟩ | ⟨b, n, cap, ls, cells, rfl, h1, h2, hg, hn, hl, hc, ht⟩
  · exact .inl ⟨rfl, rfl⟩
  · exact .inr ⟨b, n, cap, ls, cells, rfl, h1, Nat.le_trans g h2, hg, hn, hl, hc, ht⟩

theorem splice_take {c vs : List Val} {o : Nat} (h : o + vs.length ≤ c.length) : (splice c o vs).take (o + vs.length) = c.take o ++ vs := by
  unfold splice
  rw [List.take_left']
  simp; omega

theorem splice_length {c vs : List Val} {o : Nat} (h : o + vs.length ≤ c.length) : (splice c o vs).length = c.length := by
  unfold splice; simp; omega

/-- A block that is dropped, and a new one. -/
theorem Grow.move {h h1 : Heap} (g : Grow h h1) (w : Wf h) {b : Nat} (hb : h.next ≤ b) (x : Blk) : Grow h ((h1.put b none).new x).2 ∧ ((h1.put b none).new x).2.get h1.next = some x := by
  have w1 := g.wf w
  have hp : ∀ j, (h1.put b none).get j = if j = b then none else h1.get j := by
    intro j
    rw [Heap.get_put]
    unfold Heap.get
    split
    · split <;> rfl
    · rfl
  have wp : Wf (h1.put b none) := by
    refine ⟨w1.hid, fun j hj => ?_, w1.fl⟩
    have hj' : h1.next ≤ j := hj
    have : (h1.put b none).t = h1.t.set (b + 1) b none := rfl
    rw [this, Tr.get_set _ _ _ _ _ (by omega)]
    split
    · rfl
    · exact w1.t j hj'
  have gn := Grow.new wp x
  refine ⟨⟨Nat.le_trans g.next gn.next, ?_, gn.hid.trans g.hid, gn.floor.trans g.floor, fun _ => gn.wf wp⟩, ?_⟩
  · intro j y e
    refine gn.keep j y ?_
    rw [hp, if_neg]
    · exact g.keep j y e
    · have := lt_of_get w e; omega
  · exact new_self wp x

/-- append to an owned list. -/
theorem stepK_append {E : Env} {fr : List Val} {h0 h : Heap} (w0 : Wf h0) (g : Grow h0 h) {x y : Opd} {v s : Val} {sz bytes n : Nat} {cs new : List Val} (hx : V.ev fr x = v) (hy : V.ev fr y = s) (ho : Own h0 h v sz cs) (hs : Sl h s sz n new) (hz : 0 < sz)
    (hone : new.all Val.one = true) (hb : (cs.length + new.length) * bytes ≤ maxBytes) (hb1 : cs.length + new.length ≤ maxBytes) (hby : 0 < bytes) {K : Val → Heap → Prop} (k : ∀ v' h', Grow h0 h' → Own h0 h' v' sz (cs ++ new) → K v' h') : stepK E fr h (.append sz bytes x y) K := by
  unfold stepK
  obtain ⟨l1, l2⟩ := firstCells_sl hs
  have hnl := hs.1
  have hnle : n ≤ new.length := by rw [hnl]; exact Nat.le_mul_of_pos_right _ hz
  simp only [step, append, hx, hy, l1, l2]
  have fl : ∀ b, h0.next ≤ b → h.floor ≤ b := fun b hb => by rw [g.floor]; have := w0.fl; omega
  have w := g.wf w0
  rcases ho with ⟨rfl, rfl⟩ | ⟨b, m, cap, ls, cells, rfl, hls, hbn, hg, hm, hcl, hcc, hct⟩
  · simp only [appendN]
    by_cases h0' : n = 0
    · subst h0'
      have : new = [] := List.eq_nil_of_length_eq_zero (by omega)
      subst this
      rw [if_pos rfl]
      exact k _ _ g (.inl ⟨rfl, rfl⟩)
    · rw [if_neg h0', if_pos ⟨by
        have := Nat.mul_le_mul_right bytes hnle
        simp only [List.length_nil, Nat.zero_add] at hb; omega, by simp only [List.length_nil, Nat.zero_add] at hb1; omega, hz⟩]
      refine k _ _ (g.trans (Grow.new w _)) (.inr ⟨h.next, n, n, sz, new, rfl, .inr rfl, g.next, new_self w _, Nat.le_refl _, hnl, hnl, ?_⟩)
      rw [← hnl, List.take_length]; rfl
  · have hmc : m ≤ cs.length := by rw [hcc]; exact Nat.le_mul_of_pos_right _ hz
    have hkey : (cs ++ new).length = (m + n) * sz := by rw [List.length_append, hcc, hnl, Nat.add_mul]
    simp only [appendN]
    by_cases hfit : m + n ≤ cap
    · rw [if_pos hfit]
      have hle := Nat.mul_le_mul_right sz hfit
      rw [Nat.add_mul] at hle
      by_cases h0' : n * sz = 0
      · rw [if_pos h0']
        have : new = [] := List.eq_nil_of_length_eq_zero (by omega)
        subst this
        have hn0 : n = 0 := by
          rcases Nat.mul_eq_zero.1 h0' with q | q
          · exact q
          · omega
        subst hn0
        exact k _ _ g (.inr ⟨b, m, cap, ls, cells, rfl, hls, hbn, hg, hm, hcl, by simpa using hcc, by simpa using hct⟩)
      · rw [if_neg h0']
        have hlen : m * sz + new.length ≤ cells.length := by omega
        simp only [Heap.store]
        rw [if_pos (fl b hbn), hg]
        simp only [Nat.zero_add]
        rw [if_pos ⟨hlen, hone⟩]
        have kw := put_wrote hg (splice cells (m * sz) new)
        refine k _ _ (g.wrote hbn w0 kw) (.inr ⟨b, m + n, cap, ls, _, rfl, hls, hbn, kw.at_, hfit, by rw [splice_length hlen, hcl], hkey, ?_⟩)
        rw [Nat.add_mul, ← hnl, splice_take hlen, hct]
    · rw [if_neg hfit]
      have hold : firstCells h sz m (.slice b 0 m cap ls) = some cs := by
        have : Sl h (.slice b 0 m cap ls) sz m cs := by
          refine ⟨hcc, .inr ⟨b, 0, cap, ls, rfl, hls, hm, .inr ?_⟩⟩
          have := Nat.mul_le_mul_right sz hm
          rw [load_get hg (by omega), List.drop_zero, hct]
        exact (firstCells_sl this).2
      rw [if_pos ⟨by
        have := Nat.mul_le_mul_right bytes (show m + n ≤ cs.length + new.length by omega)
        omega, by omega, hz⟩, hold]
      have hfin : ∀ h', Grow h0 h' → h'.get h.next = some (.cells (cs ++ new)) → Own h0 h' (.slice h.next 0 (m + n) (m + n) sz) sz (cs ++ new) := fun h' g' e =>
        .inr ⟨h.next, m + n, m + n, sz, cs ++ new, rfl, .inr rfl, g.next, e, Nat.le_refl _, hkey, hkey, by rw [← hkey, List.take_length]⟩
      simp only
      by_cases hl0 : ls = 0
      · rw [if_pos hl0]
        have gn := Grow.new w (.cells (cs ++ new))
        exact k _ _ (g.trans gn) (hfin _ (g.trans gn) (new_self w _))
      · rw [if_neg hl0]
        have hlz : ls = sz := hls.resolve_left hl0
        rw [if_pos ⟨fl b hbn, hlz, hone, by
          simp only [Heap.endsBy, hg, hcl, Nat.zero_add, decide_eq_true_eq]
          exact Nat.mul_le_mul_right sz (by omega)⟩]
        obtain ⟨gm, em⟩ := g.move w0 hbn (.cells (cs ++ new))
        exact k _ _ gm (hfin _ gm em)

/-- make. -/
theorem stepK_make {E : Env} {fr : List Val} {h0 h : Heap} (w0 : Wf h0) (g : Grow h0 h) {x y : Opd} {ik ik' : IntKind} {n sz bytes : Nat} {zero : List Val} (hx : V.ev fr x = .int ik (n : Int)) (hy : V.ev fr y = .int ik' (n : Int)) (hz : sz = zero.length) (hb : n * bytes ≤ maxBytes) (hb1 : n ≤ maxBytes) {K : Val → Heap → Prop}
    (k : ∀ b h', Grow h0 h' → h0.next ≤ b → h'.get b = some (.cells (repeatL zero n)) → Keep h h' → K (.slice b 0 n n 0) h') : stepK E fr h (.mkslice sz bytes zero x y) K := by
  unfold stepK
  have w := g.wf w0
  simp only [step, hx, hy]
  rw [if_pos ⟨by omega, by omega, by omega, by simpa using hb, hz⟩]
  have gn := Grow.new w (.cells (repeatL zero n))
  simp only [Int.toNat_natCast]
  exact k _ _ (g.trans gn) g.next (new_self w _) gn.kp

theorem repeatL_length (z : List Val) : ∀ n, (repeatL z n).length = n * z.length
  | 0 => by simp [repeatL]
  | n + 1 => by rw [repeatL, List.length_append, repeatL_length z n, Nat.succ_mul, Nat.add_comm]

/-- copy into a block that is as long. -/
theorem stepK_copy {E : Env} {fr : List Val} {h0 h : Heap} (w0 : Wf h0) (g : Grow h0 h) {x y : Opd} {b n sz cap ls : Nat} {s : Val} {cells new : List Val} (hx : V.ev fr x = .slice b 0 n cap ls) (hy : V.ev fr y = s) (hs : Sl h s sz n new) (hbn : h0.next ≤ b) (hg : h.get b = some (.cells cells)) (hl : cells.length = n * sz) (hn : 0 < n * sz)
    (hone : new.all Val.one = true) {K : Val → Heap → Prop} (k : ∀ h', Grow h0 h' → h'.get b = some (.cells new) → K (.int .i64 n) h') : stepK E fr h (.copy sz x y) K := by
  unfold stepK
  obtain ⟨l1, l2⟩ := firstCells_sl hs
  simp only [step, hx, hy, l1, Nat.min_self, l2]
  rw [if_neg (by omega)]
  simp only [Heap.store]
  rw [if_pos (show h.floor ≤ b by rw [g.floor]; have := w0.fl; omega), hg]
  simp only [Nat.zero_add]
  rw [if_pos ⟨by rw [hs.1, hl]; exact Nat.le_refl _, hone⟩]
  have e : splice cells 0 new = new := by
    unfold splice
    rw [List.take_zero, List.nil_append, Nat.zero_add, List.drop_eq_nil_of_le (by rw [hs.1, hl]; exact Nat.le_refl _), List.append_nil]
  have kw := put_wrote hg (splice cells 0 new)
  refine k _ (g.wrote hbn w0 kw) ?_
  rw [kw.at_, e]

/-- s[:0] -/
theorem stepK_hi0 {E : Env} {fr : List Val} {h : Heap} {x y : Opd} {b o n sz cap ls : Nat} {ik : IntKind} (hx : V.ev fr x = .slice b o n cap ls) (hy : V.ev fr y = .int ik 0) (h1 : ls = 0 ∨ ls = sz) {K : Val → Heap → Prop}
    (kk : K (.slice b o 0 cap ls) h) : stepK E fr h (.slice sz x none (some y) none) K := by
  unfold stepK
  have hb : bounds fr n cap none (some y) none = some (0, 0, cap) := by
    simp [bounds, bnd, hy]
  simp only [step, hx, sliceVal, hb, pureV, if_pos h1, Option.isSome_none, Bool.false_eq_true, if_false, Nat.zero_mul, Nat.add_zero, Nat.sub_zero]
  exact kk

theorem stepK_hi_nil {E : Env} {fr : List Val} {h : Heap} {x y : Opd} {sz : Nat} {ik : IntKind} (hx : V.ev fr x = .nils) (hy : V.ev fr y = .int ik 0) {K : Val → Heap → Prop}
    (kk : K .nils h) : stepK E fr h (.slice sz x none (some y) none) K := by
  unfold stepK
  simp [step, hx, sliceVal, bounds, bnd, hy, pureV]
  exact kk

/-- append(nil, make(n)...) -/
theorem stepK_appendZ {E : Env} {fr : List Val} {h0 h : Heap} (w0 : Wf h0) (g : Grow h0 h) {x y : Opd} {ik : IntKind} {n sz bytes : Nat} {zero : List Val} (hx : V.ev fr x = .nils) (hy : V.ev fr y = .int ik (n : Int)) (hz : zero.length = sz) (hsz : 0 < sz) (hn : 0 < n) (hb : n * bytes ≤ maxBytes) (hb1 : n ≤ maxBytes) {K : Val → Heap → Prop}
    (k : ∀ b h', Grow h0 h' → h0.next ≤ b → h'.get b = some (.cells (repeatL zero n)) → K (.slice b 0 n n sz) h') : stepK E fr h (.appendZ sz bytes zero x y) K := by
  unfold stepK
  have w := g.wf w0
  simp only [step, hx, hy, Int.toNat_natCast]
  rw [if_pos ⟨by omega, by omega, hb, hz⟩]
  simp only [appendN]
  rw [if_neg (by omega), if_pos ⟨hb, hb1, hsz⟩]
  have gn := Grow.new w (.cells (repeatL zero n))
  exact k _ _ (g.trans gn) g.next (new_self w _)

theorem Sl.elt1 {h : Heap} {s : Val} {vals : List Val} (e : Sl h s 1 vals.length vals) {k : IntKind} {i : Nat} (hi : i < vals.length) : ∃ b o, eltI 1 s (.int k (i : Int)) = some (.ptr b o) ∧ ∀ h', Grow h h' → h'.load b o 1 = some [vals[i]] := by
  obtain ⟨b, o, h1, h2⟩ := Sl.elt e (k := k) hi (by omega)
  refine ⟨b, o, h1, fun h' g => ?_⟩
  have := h2 h' g.kp 0 1 (by omega)
  rw [Nat.add_zero, Nat.mul_one, Nat.add_zero, List.take_one] at this
  simpa [List.head?_drop, List.getElem?_eq_getElem hi] using this

/-- T{x}: a list of one element. -/
theorem stepK_one {E : Env} {fr : List Val} {h0 h : Heap} (w0 : Wf h0) (g : Grow h0 h) {x : Opd} {sz : Nat} {zero cs : List Val} (hx : (V.ev fr x).cells = cs) (hc : cs.length = sz) (hz : zero.length = sz) {K : Val → Heap → Prop}
    (k : ∀ v h', Grow h0 h' → Keep h h' → Sl h' v sz 1 cs → K v h') : stepK E fr h (.bslice 1 zero [(0, sz, x)]) K := by
  unfold stepK
  have w := g.wf w0
  have hf : fill fr zero [(0, sz, x)] = some cs := by
    simp only [fill, hx]
    rw [if_pos ⟨hc, by omega⟩]
    unfold splice
    rw [List.take_zero, List.nil_append, List.drop_eq_nil_of_le (by omega), List.append_nil]
  simp only [step, hf]
  have gn := Grow.new w (.cells cs)
  refine k _ _ (g.trans gn) gn.kp ⟨by omega, .inr ⟨h.next, 0, 1, 0, rfl, .inl rfl, Nat.le_refl _, .inr ?_⟩⟩
  rw [load_get (new_self w _) (by omega), List.drop_zero, ← hc]
  simp

/-- []T{x, y}: a list of two elements of one cell. -/
theorem stepK_two {E : Env} {fr : List Val} {h0 h : Heap} (w0 : Wf h0) (g : Grow h0 h) {x y : Opd} {u v z1 z2 : Val} (hx : (V.ev fr x).cells = [u]) (hy : (V.ev fr y).cells = [v]) {K : Val → Heap → Prop}
    (k : ∀ s h', Grow h0 h' → Keep h h' → Sl h' s 1 2 [u, v] → K s h') : stepK E fr h (.bslice 2 [z1, z2] [(0, 1, x), (1, 1, y)]) K := by
  unfold stepK
  have w := g.wf w0
  have hf : fill fr [z1, z2] [(0, 1, x), (1, 1, y)] = some [u, v] := by
    simp [fill, hx, hy, splice]
  simp only [step, hf]
  have gn := Grow.new w (.cells [u, v])
  refine k _ _ (g.trans gn) gn.kp ⟨rfl, .inr ⟨h.next, 0, 2, 0, rfl, .inl rfl, Nat.le_refl _, .inr ?_⟩⟩
  rw [load_get (new_self w _) (by simp)]
  rfl

theorem Sl.cells1 {h : Heap} {s : Val} {sz n : Nat} {cs : List Val} (e : Sl h s sz n cs) : s.cells = [s] ∧ Val.one s = true := by
  rcases e.2 with ⟨rfl, rfl⟩ | ⟨b, o, cap, ls, rfl, _⟩ <;> exact ⟨rfl, rfl⟩

/-- A struct of one cell. -/
theorem stepK_build1 {E : Env} {fr : List Val} {h : Heap} {x : Opd} {z v : Val} (hx : (V.ev fr x).cells = [v]) {K : Val → Heap → Prop} (k : K (.agg [v]) h) : stepK E fr h (.build [z] [(0, 1, x)]) K := by
  unfold stepK
  have hf : fill fr [z] [(0, 1, x)] = some [v] := by simp [fill, hx, splice]
  simp only [step, hf]
  exact k

/-- A call that runs in a known order, in a region that draws the rest. -/
theorem WD.callF {E : Env} {rs : List (Nat × Nat)} {fr : List Val} {h : Heap} {d : Option Nat} {f : FuncId} {args : List Opd} {hd : List Nat} {l : List VOper} {R : List Val → Heap → Prop}
    (w : WC E f (evs fr args) h fun v h' => WD E l (rs ++ [(h.next, h'.next)]) (setDst fr d v) h' R) : WD E (⟨d, .call f args, none, true, hd⟩ :: l) rs fr h R := by
  obtain ⟨n, v, h', e, q⟩ := w
  obtain ⟨m, fr2, h2, e2, q2⟩ := q
  refine ⟨max n m, fr2, h2, ?_, q2⟩
  rw [runDraw]
  simp only [wanted]
  rw [if_pos (.inr trivial)]
  simp only [step]
  rw [run_mono (Nat.le_max_left n m) _ _ _ _ e]
  exact runDraw_mono (run_mono (Nat.le_max_right n m)) _ _ _ _ _ e2

/-- A load where a part of the heap is not seen. -/
theorem WD.loadV {E : Env} {rs : List (Nat × Nat)} {fr : List Val} {h : Heap} {d : Option Nat} {agg : Bool} {n : Nat} {x : Opd} {hd : List Nat} {l : List VOper} {R : List Val → Heap → Prop} {b o : Nat} {cs : List Val} {v : Val}
    (hx : V.ev fr x = .ptr b o) (hl : (h.veil (hiddenOf rs hd)).load b o n = some cs) (hv : (agg = true ∧ v = .agg cs) ∨ (agg = false ∧ cs = [v])) (k : WD E l (rs ++ [(h.next, h.next)]) (setDst fr d v) h R) : WD E (⟨d, .load agg n x, none, false, hd⟩ :: l) rs fr h R := by
  refine WD.op2 ?_
  simp only [opV, wanted, VOp.kind, Nat.reduceLeDiff, Bool.false_eq_true, or_self, if_false, true_and]
  unfold stepK
  rcases hv with ⟨rfl, rfl⟩ | ⟨rfl, rfl⟩
  · simp only [step, hx, hl, if_true]; exact k
  · simp only [step, hx, hl, Bool.false_eq_true, if_false]; exact k

end Go.V
end

section
set_option linter.unusedVariables false
set_option linter.unusedSimpArgs false
set_option linter.unusedSectionVars false
namespace Go.V

end Go.V
end

section
set_option linter.unusedVariables false
set_option linter.unusedSimpArgs false
set_option linter.unusedSectionVars false
namespace Go.V

/-- A fact that is not looked up. -/
structure Hid (p : Prop) : Prop where
  out : p

theorem wrap_add {a b : Nat} (h : a + b < 9223372036854775808) : IntKind.i64.wrap ((a : Int) + (b : Int)) = ((a + b : Nat) : Int) := by rw [wrap_i64 (by omega) (by omega)]; omega

theorem wrap_sub {a b : Nat} (h : b ≤ a) (ha : a < 9223372036854775808) : IntKind.i64.wrap ((a : Int) - (b : Int)) = ((a - b : Nat) : Int) := by rw [wrap_i64 (by omega) (by omega)]; omega

end Go.V
end
