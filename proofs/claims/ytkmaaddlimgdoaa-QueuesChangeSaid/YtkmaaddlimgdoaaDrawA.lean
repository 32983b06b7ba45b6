/-
  A region that draws its order: the parts.
-/
import Derived.Test.YtkmaaddlimgdoaaExec
import Derived.Orders
set_option linter.unusedVariables false
set_option linter.unusedSimpArgs false
set_option linter.unusedSectionVars false
namespace Go.V

/- WHAT RUNS BEFORE. -/
theorem fold_bit (acc : Array Nat) (j : Nat) : ∀ (l : List Edge) (s : Nat), (l.foldl (fun s e => if Region.binds .any e then s ||| 2 ^ e.on ||| acc.getD e.on 0 else s) s).testBit j = true →
    s.testBit j = true ∨ ∃ e ∈ l, Region.binds .any e = true ∧ (e.on = j ∨ (acc.getD e.on 0).testBit j = true)
  | [], s, h => .inl (by simpa using h)
  | e :: l, s, h => by
    simp only [List.foldl_cons] at h
    rcases fold_bit acc j l _ h with h1 | ⟨e', h1, h2⟩
    · split at h1
      · rename_i hb
        simp only [Nat.testBit_or, Bool.or_eq_true] at h1
        rcases h1 with (h1 | h1) | h1
        · exact .inl h1
        · exact .inr ⟨e, by simp, hb, .inl (by rw [Nat.testBit_two_pow] at h1; simpa using h1)⟩
        · exact .inr ⟨e, by simp, hb, .inr h1⟩
      · exact .inl h1
    · exact .inr ⟨e', by simp [h1], h2⟩

def beforeStep (acc : Array Nat) (o : Oper) : Array Nat := acc.push (o.after.foldl (fun s e => if Region.binds .any e then s ||| 2 ^ e.on ||| acc.getD e.on 0 else s) 0)

theorem before_list : ∀ (l pre : List Oper) (acc : Array Nat), acc.size = pre.length →
    (∀ i j, (acc.getD i 0).testBit j = true → ∃ o, pre[i]? = some o ∧ ∃ e ∈ o.after, Region.binds .any e = true ∧ (e.on = j ∨ (acc.getD e.on 0).testBit j = true)) →
    ∀ i j, ((l.foldl beforeStep acc).getD i 0).testBit j = true → ∃ o, (pre ++ l)[i]? = some o ∧ ∃ e ∈ o.after, Region.binds .any e = true ∧ (e.on = j ∨ ((l.foldl beforeStep acc).getD e.on 0).testBit j = true)
  | [], pre, acc, _, h, i, j, hb => by simpa using h i j hb
  | o :: l, pre, acc, hs, h, i, j, hb => by
    have hacc : ∀ k v, (acc.getD k 0).testBit v = true → ((beforeStep acc o).getD k 0).testBit v = true := by
      intro k v hk
      have hlt : k < acc.size := by
        rcases Nat.lt_or_ge k acc.size with h1 | h1
        · exact h1
        · rw [Array.getD_eq_getD_getElem?, Array.getElem?_eq_none h1] at hk; simp at hk
      unfold beforeStep
      rw [Array.getD_eq_getD_getElem?, Array.getElem?_push, if_neg (by omega), ← Array.getD_eq_getD_getElem?]
      exact hk
    have := before_list l (pre ++ [o]) (beforeStep acc o) (by simp [beforeStep, hs]) ?_ i j hb
    · simpa using this
    · intro i j hb
      unfold beforeStep at hb
      rw [Array.getD_eq_getD_getElem?, Array.getElem?_push] at hb
      split at hb
      · rename_i hi
        simp only [Option.getD_some] at hb
        rw [← Array.foldl_toList] at hb
        rcases fold_bit acc j o.after.toList 0 hb with h1 | ⟨e, he, h1, h2⟩
        · simp at h1
        · refine ⟨o, by rw [List.getElem?_append_right (by omega)]; simp [hi, hs], e, by simpa using he, h1, ?_⟩
          rcases h2 with h2 | h2
          · exact .inl h2
          · exact .inr (hacc _ _ h2)
      · rename_i hi
        rw [← Array.getD_eq_getD_getElem?] at hb
        obtain ⟨o', h1, e, he, h2, h3⟩ := h i j hb
        refine ⟨o', by rw [List.getElem?_append_left (List.getElem?_eq_some_iff.1 h1).1]; exact h1, e, he, h2, ?_⟩
        rcases h3 with h3 | h3
        · exact .inl h3
        · exact .inr (hacc _ _ h3)

theorem before_spec (ops : Array Oper) (i j : Nat) (h : ((Region.before ops).getD i 0).testBit j = true) :
    ∃ o, ops[i]? = some o ∧ ∃ e ∈ o.after, Region.binds .any e = true ∧ (e.on = j ∨ ((Region.before ops).getD e.on 0).testBit j = true) := by
  have e : Region.before ops = ops.toList.foldl beforeStep #[] := by
    unfold Region.before
    rw [← Array.foldl_toList]
    rfl
  rw [e] at h ⊢
  have := before_list ops.toList [] #[] rfl (by intro i j h; simp at h) i j h
  simpa using this

theorem edgesOk_get : ∀ (l : List Oper) (k : Nat), edgesOk l k = true → ∀ i o, l[i]? = some o → ∀ e ∈ o.after, Region.binds .any e = true → e.on < k + i
  | [], k, _, i, o, h => by simp at h
  | x :: l, k, hok, i, o, h => by
    simp only [edgesOk, Bool.and_eq_true] at hok
    cases i with
    | zero =>
      simp at h; subst h
      intro e he hb
      have := List.all_eq_true.1 hok.1 e (by simpa using he)
      simp [hb] at this
      omega
    | succ i =>
      intro e he hb
      have := edgesOk_get l (k + 1) hok.2 i o (by simpa using h) e he hb
      omega

theorem writersOf_mem : ∀ (l : List VOper) (k i : Nat) (v : VOper) (d : Nat), l[i]? = some v → v.dst = some d → (d, k + i) ∈ writersOf l k
  | [], k, i, v, d, h, _ => by simp at h
  | x :: l, k, i, v, d, h, hd => by
    cases i with
    | zero =>
      simp at h; subst h
      simp [writersOf, hd]
    | succ i =>
      have := writersOf_mem l (k + 1) i v d (by simpa using h) hd
      have e : k + 1 + i = k + (i + 1) := by omega
      rw [e] at this
      simp only [writersOf]
      split
      · exact List.mem_cons_of_mem _ this
      · exact this

theorem tmpsOk_get {b : Array Nat} {ws : List (Nat × Nat)} : ∀ (l : List Oper) (vl : List VOper) (k : Nat), tmpsOk b ws l vl k = true → ∀ i o v, l[i]? = some o → vl[i]? = some v → ∀ t ∈ namesOf o v, ∀ d j, (d, j) ∈ ws → d = t → j = k + i ∨ (b.getD (max j (k + i)) 0).testBit (min j (k + i)) = true
  | [], vl, k, _, i, o, v, h, _ => by simp at h
  | x :: l, [], k, hok, _, _, _, _, h => by simp at h
  | x :: l, y :: vl, k, hok, i, o, v, h1, h2 => by
    simp only [tmpsOk, Bool.and_eq_true] at hok
    cases i with
    | zero =>
      simp at h1 h2; subst h1 h2
      intro t ht d j hj hd
      have h3 := List.all_eq_true.1 hok.1 t ht
      have h4 := List.all_eq_true.1 h3 (d, j) hj
      simp [hd] at h4
      rcases h4 with h4 | h4
      · exact .inl h4
      · exact .inr (by simpa using h4)
    | succ i =>
      intro t ht d j hj hd
      have := tmpsOk_get l vl (k + 1) hok.2 i o v (by simpa using h1) (by simpa using h2) t ht d j hj hd
      have e : k + 1 + i = k + (i + 1) := by omega
      rw [e] at this
      exact this

theorem touching_mem : ∀ (vs : List VOp) (k j : Nat), j ∈ touching vs k ↔ ∃ i v, vs[i]? = some v ∧ v.kind ≠ 0 ∧ j = k + i
  | [], k, j => by simp [touching]
  | x :: vs, k, j => by
    simp only [touching]
    have ih := touching_mem vs (k + 1) j
    constructor
    · intro h
      split at h
      · obtain ⟨i, v, h1, h2, h3⟩ := ih.1 h
        exact ⟨i + 1, v, by simpa using h1, h2, by omega⟩
      · rename_i hx
        cases h with
        | head => exact ⟨0, x, by simp, hx, by omega⟩
        | tail _ h =>
          obtain ⟨i, v, h1, h2, h3⟩ := ih.1 h
          exact ⟨i + 1, v, by simpa using h1, h2, by omega⟩
    · rintro ⟨i, v, h1, h2, h3⟩
      cases i with
      | zero =>
        simp at h1; subst h1
        rw [if_neg h2]
        simp at h3; subst h3; simp
      | succ i =>
        have := ih.2 ⟨i, v, by simpa using h1, h2, by omega⟩
        split
        · exact this
        · exact List.mem_cons_of_mem _ this

theorem cOpers_get {ops : Array Oper} {b : Array Nat} {ts : List Nat} : ∀ (l : List Oper) (vs : List VOp) (k : Nat) (vl : List VOper), cOpers ops b ts l vs k = some vl → l.length = vl.length ∧ vs.length = vl.length ∧ ∀ i o v, l[i]? = some o → vs[i]? = some v → ∃ vo, vl[i]? = some vo ∧ vo.op = v ∧ vo.dst = o.dst ∧ cGuard ops o.guard = some vo.guard ∧
      (vo.full = true → ∀ j ∈ ts, j = k + i ∨ (j < k + i ∧ (b.getD (k + i) 0).testBit j = true) ∨ (k + i < j ∧ (b.getD j 0).testBit (k + i) = true)) ∧
      (∀ j ∈ ts, j < k + i → (b.getD (k + i) 0).testBit j = false → j ∈ vo.hide)
  | [], [], k, vl, h => by simp only [cOpers, Option.some.injEq] at h; subst h; simp
  | o :: r, v :: rv, k, vl, h => by
    simp only [cOpers] at h
    split at h
    · rename_i g l hg hl
      cases h
      obtain ⟨h1, h2, h3⟩ := cOpers_get r rv (k + 1) l hl
      refine ⟨by simp [h1], by simp [h2], ?_⟩
      intro i o' v' e1 e2
      cases i with
      | zero =>
        simp at e1 e2; subst e1 e2
        refine ⟨_, by simp; rfl, rfl, rfl, hg, ?_, ?_⟩
        · intro hf j hj
          have := List.all_eq_true.1 hf j hj
          simp only [Nat.add_zero]
          by_cases hjk : j = k
          · exact .inl hjk
          · right
            simp only [beq_iff_eq, hjk, Bool.or_eq_true, false_or] at this
            split at this
            · rename_i hlt; exact .inl ⟨hlt, by simpa using this⟩
            · rename_i hlt; exact .inr ⟨by omega, by simpa using this⟩
        · intro j hj hlt hbit
          simp only [Nat.add_zero] at hlt hbit
          simp only [List.mem_filter, Bool.and_eq_true, decide_eq_true_eq, Bool.not_eq_true']
          exact ⟨hj, hlt, by simpa using hbit⟩
      | succ i =>
        obtain ⟨vo, q1, q2, q3, q4, q5, q6⟩ := h3 i o' v' (by simpa using e1) (by simpa using e2)
        have e : k + 1 + i = k + (i + 1) := by omega
        rw [e] at q5 q6
        exact ⟨vo, by simpa using q1, q2, q3, q4, q5, q6⟩
    · cases h
  | [], _ :: _, _, _, h => by simp [cOpers] at h
  | _ :: _, [], _, _, h => by simp [cOpers] at h

/- ONLY WHAT IS NAMED. -/
theorem ev_congr {fr fr' : List Val} {x : Opd} (h : ∀ t ∈ x.tmp, fr.getD t .undef = fr'.getD t .undef) : V.ev fr x = V.ev fr' x := by
  cases x with
  | t n => exact h n (by simp [Opd.tmp])
  | c v => rfl

theorem evs_congr {fr fr' : List Val} : ∀ {l : List Opd}, (∀ t ∈ l.flatMap Opd.tmp, fr.getD t .undef = fr'.getD t .undef) → V.evs fr l = V.evs fr' l
  | [], _ => rfl
  | x :: l, h => by
    simp only [List.flatMap_cons, List.mem_append] at h
    simp only [V.evs, ev_congr fun t ht => h t (.inl ht), evs_congr fun t ht => h t (.inr ht)]

theorem fill_congr {fr fr' : List Val} : ∀ {l : List (Nat × Nat × Opd)} {c : List Val}, (∀ t ∈ l.flatMap (fun p => p.2.2.tmp), fr.getD t .undef = fr'.getD t .undef) → V.fill fr c l = V.fill fr' c l
  | [], _, _ => rfl
  | (o, n, x) :: l, c, h => by
    simp only [List.flatMap_cons, List.mem_append] at h
    have e1 := ev_congr (x := x) fun t ht => h t (.inl ht)
    simp only [V.fill, e1, fill_congr fun t ht => h t (.inr ht)]

theorem bnd_congr {fr fr' : List Val} {x : Opd} (h : ∀ t ∈ x.tmp, fr.getD t .undef = fr'.getD t .undef) (y : Nat) : bnd fr y x = bnd fr' y x := by
  unfold bnd; rw [ev_congr h]

theorem bounds_congr {fr fr' : List Val} {lo hi mx : Option Opd} (h1 : ∀ t ∈ optTmp lo, fr.getD t .undef = fr'.getD t .undef) (h2 : ∀ t ∈ optTmp hi, fr.getD t .undef = fr'.getD t .undef) (h3 : ∀ t ∈ optTmp mx, fr.getD t .undef = fr'.getD t .undef) (n c : Nat) : bounds fr n c lo hi mx = bounds fr' n c lo hi mx := by
  unfold bounds
  cases lo <;> cases hi <;> cases mx <;> simp only [optTmp] at h1 h2 h3 <;> first
    | rfl
    | simp only [bnd_congr h1, bnd_congr h2, bnd_congr h3]
    | simp only [bnd_congr h1, bnd_congr h2]
    | simp only [bnd_congr h1, bnd_congr h3]
    | simp only [bnd_congr h2, bnd_congr h3]
    | simp only [bnd_congr h1]
    | simp only [bnd_congr h2]
    | simp only [bnd_congr h3]

theorem step_congr {meth : TypeId → Val → String → Option (FuncId × Val)} {call : CallT} {fr fr' : List Val} {h : Heap} {vo : VOp} (hh : ∀ t ∈ vo.tmps, fr.getD t .undef = fr'.getD t .undef) : step meth call fr h vo = step meth call fr' h vo := by
  cases vo <;> simp only [VOp.tmps, List.mem_append] at hh <;> simp only [step]
  case build z ps => rw [fill_congr hh]
  case bslice n z ps => rw [fill_congr hh]
  case mkfunc f a b => rw [evs_congr fun t ht => hh t (.inl ht), evs_congr fun t ht => hh t (.inr ht)]
  case call f l => rw [evs_congr hh]
  case outer f l => rw [evs_congr hh]
  case minmax f l => rw [evs_congr hh]
  case callv x l => rw [ev_congr fun t ht => hh t (.inl ht), evs_congr fun t ht => hh t (.inr ht)]
  case invoke x n l => rw [ev_congr fun t ht => hh t (.inl ht), evs_congr fun t ht => hh t (.inr ht)]
  case sliceStr x l k =>
    rw [ev_congr fun t ht => hh t (.inl (.inl ht))]
    have := fun n c => bounds_congr (fr := fr) (fr' := fr') (lo := l) (hi := k) (mx := none) (fun t ht => hh t (.inl (.inr ht))) (fun t ht => hh t (.inr ht)) (by simp [optTmp]) n c
    simp only [this]
  case slice n x l k m =>
    rw [ev_congr fun t ht => hh t (.inl (.inl (.inl ht)))]
    have := fun n c => bounds_congr (fr := fr) (fr' := fr') (lo := l) (hi := k) (mx := m) (fun t ht => hh t (.inl (.inl (.inr ht)))) (fun t ht => hh t (.inl (.inr ht))) (fun t ht => hh t (.inr ht)) n c
    simp only [sliceVal, this]
  case sliceArr n s x l k m =>
    rw [ev_congr fun t ht => hh t (.inl (.inl (.inl ht)))]
    have := fun n c => bounds_congr (fr := fr) (fr' := fr') (lo := l) (hi := k) (mx := m) (fun t ht => hh t (.inl (.inl (.inr ht)))) (fun t ht => hh t (.inl (.inr ht))) (fun t ht => hh t (.inr ht)) n c
    simp only [this]
  all_goals first
    | rfl
    | rw [ev_congr hh]
    | rw [ev_congr fun t ht => hh t (.inl ht), ev_congr fun t ht => hh t (.inr ht)]
    | rw [ev_congr fun t ht => hh t (.inl (.inl ht)), ev_congr fun t ht => hh t (.inl (.inr ht)), ev_congr fun t ht => hh t (.inr ht)]

/- THE RUN IN THE ORDER OF THE TEXT. -/
def StepAt (meth : TypeId → Val → String → Option (FuncId × Val)) (call : CallT) (rs : List (Nat × Nat)) (vo : VOper) (fr : List Val) (h : Heap) (fr1 : List Val) (h1 : Heap) : Prop :=
  (wanted fr vo.guard = some false ∧ fr1 = setDst fr vo.dst .undef ∧ h1 = h) ∨
  (wanted fr vo.guard = some true ∧ ∃ v, fr1 = setDst fr vo.dst v ∧
    (((vo.op.kind ≤ 1 ∨ vo.full = true) ∧ step meth call fr h vo.op = some (v, h1)) ∨
     (vo.op.kind = 2 ∧ vo.full = false ∧ ∃ h2, step meth call fr { h with hid := hiddenOf rs vo.hide ++ h.hid, floor := h.next } vo.op = some (v, h2) ∧ h1 = { h2 with hid := h.hid, floor := h.floor })))

def vo_full (o : VOper) : Bool := o.full

def rangesTo (H : Nat → Heap) (i : Nat) : List (Nat × Nat) := (List.range i).map fun j => ((H j).next, (H (j + 1)).next)

theorem draw_trace {meth : TypeId → Val → String → Option (FuncId × Val)} {call : CallT} : ∀ (l : List VOper) (rs : List (Nat × Nat)) (fr fr' : List Val) (h h' : Heap), runDraw meth call l rs fr h = some (fr', h') →
    ∃ (F : Nat → List Val) (H : Nat → Heap), F 0 = fr ∧ H 0 = h ∧ F l.length = fr' ∧ H l.length = h' ∧ ∀ i vo, l[i]? = some vo → StepAt meth call (rs ++ rangesTo H i) vo (F i) (H i) (F (i + 1)) (H (i + 1))
  | [], rs, fr, fr', h, h', e => by
    simp only [runDraw, Option.some.injEq, Prod.mk.injEq] at e
    exact ⟨fun _ => fr, fun _ => h, rfl, rfl, e.1, e.2, fun i vo hi => by simp at hi⟩
  | o :: r, rs, fr, fr', h, h', e => by
    have glue : ∀ (fr1 : List Val) (h1 : Heap), StepAt meth call rs o fr h fr1 h1 → runDraw meth call r (rs ++ [(h.next, h1.next)]) fr1 h1 = some (fr', h') →
        ∃ (F : Nat → List Val) (H : Nat → Heap), F 0 = fr ∧ H 0 = h ∧ F (o :: r).length = fr' ∧ H (o :: r).length = h' ∧ ∀ i vo, (o :: r)[i]? = some vo → StepAt meth call (rs ++ rangesTo H i) vo (F i) (H i) (F (i + 1)) (H (i + 1)) := by
      intro fr1 h1 hst hrun
      obtain ⟨F, H, f0, g0, fn, gn, hs⟩ := draw_trace r _ _ _ _ _ hrun
      refine ⟨fun i => match i with | 0 => fr | i + 1 => F i, fun i => match i with | 0 => h | i + 1 => H i, rfl, rfl, fn, gn, ?_⟩
      intro i vo hi
      cases i with
      | zero =>
        simp at hi; subst hi
        simp only [rangesTo, List.range_zero, List.map_nil, List.append_nil, f0, g0]
        exact hst
      | succ i =>
        have := hs i vo (by simpa using hi)
        have e : rs ++ [(h.next, h1.next)] ++ rangesTo H i = rs ++ rangesTo (fun i => match i with | 0 => h | i + 1 => H i) (i + 1) := by
          simp only [rangesTo, List.range_succ_eq_map, List.map_cons, List.map_map, List.append_assoc, List.singleton_append, g0]
          congr 2
        rw [e] at this
        exact this
    simp only [runDraw] at e
    split at e
    · cases e
    · rename_i hw
      exact glue _ _ (.inl ⟨hw, rfl, rfl⟩) e
    · rename_i hw
      split at e
      · rename_i hk
        split at e
        · rename_i v h1 hst
          exact glue _ _ (.inr ⟨hw, v, rfl, .inl ⟨hk, hst⟩⟩) e
        · cases e
      · rename_i hnf
        split at e
        · rename_i hk
          split at e
          · rename_i v h2 hst
            exact glue _ _ (.inr ⟨hw, v, rfl, .inr ⟨hk, by cases hf : vo_full o <;> simp_all [vo_full], h2, hst, rfl⟩⟩) e
          · cases e
        · cases e

end Go.V
