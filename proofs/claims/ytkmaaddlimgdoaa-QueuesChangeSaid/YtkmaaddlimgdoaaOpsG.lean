/-
  One operation of the abstract machine against the model's: the seventh part: comparisons.
-/
import Derived.Test.YtkmaaddlimgdoaaOpsF
import Derived.Laws.StructEq
import Derived.ChangeKeysEq
set_option linter.unusedVariables false
set_option linter.unusedSimpArgs false
set_option linter.unusedSectionVars false
namespace Go.V

theorem eqAt_shift (l m : List Val) (k : Nat) : ∀ os : List (Nat × Ek), eqAt l m (shift k os) = eqAt (l.drop k) (m.drop k) os
  | [] => rfl
  | (i, e) :: r => by
    have := eqAt_shift l m k r
    simp only [shift] at this
    simp only [shift, List.map_cons, eqAt, List.getElem?_drop, this, Nat.add_comm k i]

theorem eqAt_take (l m : List Val) (n : Nat) : ∀ os : List (Nat × Ek), os.all (fun p => decide (p.1 < n)) = true → eqAt (l.take n) (m.take n) os = eqAt l m os
  | [], _ => rfl
  | (i, e) :: r, h => by
    simp only [List.all_cons, Bool.and_eq_true, decide_eq_true_eq] at h
    simp only [eqAt, List.getElem?_take, h.1, if_true, eqAt_take l m n r h.2]

theorem eqAt_append (l m : List Val) : ∀ (os rs : List (Nat × Ek)) (p : Bool), eqAt l m (os ++ rs) = some p → ∃ a b, eqAt l m os = some a ∧ eqAt l m rs = some b ∧ p = (a && b)
  | [], rs, p, h => ⟨true, p, rfl, h, by simp⟩
  | (i, e) :: os, rs, p, h => by
    simp only [List.cons_append, eqAt] at h
    split at h
    · rename_i x y q hx hy hq
      obtain ⟨a, b, h1, h2, h3⟩ := eqAt_append l m os rs q hq
      split at h
      · rename_i r hr
        simp only [Option.some.injEq] at h
        refine ⟨r && a, b, ?_, h2, by rw [← h, h3, Bool.and_assoc]⟩
        simp only [eqAt, hx, hy, h1, hr]
      · cases h
    · cases h

def Ek.fits (P : Program) (t : TypeId) : Ek → Prop
  | .i => ∃ k, P.underlying t = some (.int k)
  | .b => P.underlying t = some .bool
  | .s => P.underlying t = some .string

/-- Plain values. -/
theorem eqv_run {P : Program} {ρ : Ren} {D : Nat} {t : TypeId} {k : Ek} {x y : Val} {xv yv : Value} (hx : VRel ρ x xv) (hy : VRel ρ y yv) {p : Bool} (e : eqv k x y = some p)
    (ht : k.fits P t) (w : World) : (Op.equalIn (D + 1) t xv yv).run P w = .ok p w := by
  cases k <;> cases x <;> cases y <;> simp only [eqv] at e <;> (try (cases e; done)) <;> simp only [VRel] at hx hy <;> subst hx hy
  · split at e
    · rename_i hk
      cases hk; cases e
      obtain ⟨k, ht⟩ := ht
      exact run_equalIn_int w D t _ k _ _ ht
    · cases e
  · simp only [Option.some.injEq] at e; subst e
    exact run_equalIn_bool w D t _ _ ht
  · simp only [Option.some.injEq] at e; subst e
    rw [run_equalIn_string w D t _ _ ht, ByteArray.toList_mk, ByteArray.toList_mk]

/-- What a comparison by the places comes to. -/
def EqOk (P : Program) (t : TypeId) (D : Nat) (os : List (Nat × Ek)) : Prop :=
  ∀ (ρ : Ren) (x y : Val) (xv yv : Value) (p : Bool) (w : World), VRel ρ x xv → VRel ρ y yv → x.isAgg = aggType P t → y.isAgg = aggType P t → eqAt x.cells y.cells os = some p → (Op.equalIn D t xv yv).run P w = .ok p w

theorem agg_of_isAgg {x : Val} (h : x.isAgg = true) : ∃ l, x = .agg l := by
  cases x <;> simp [Val.isAgg] at h
  exact ⟨_, rfl⟩

theorem run_part_agg {P : Program} {ρ : Ren} {e : TypeId} {d : TypeDesc} (hd : P.underlying e = some d) (ha : aggType P e = true) {l : List Val} {arr : Array Value} (hl : VRels ρ l arr.toList) (off : Nat) (w : World) :
    ∃ pv, (part e arr off).run P w = .ok pv w ∧ VRel ρ (.agg ((l.drop off).take (P.cellsOf e))) pv := by
  obtain ⟨i, hi⟩ := info_of_underlying hd
  refine ⟨.agg (arr.extract off (off + P.cellsOf e)), by simp only [part, Sem.run_bind, run_isAgg_of hd, ha, Result.andThen_ok, if_true, run_sizeOf_of hi, Sem.run_pure], ?_⟩
  simp only [VRel]
  refine ⟨_, rfl, ?_⟩
  have := (hl.drop off).take (P.cellsOf e)
  simpa [Array.toList_extract, List.extract_eq_take_drop, List.drop_take] using this

theorem run_part_one {P : Program} {ρ : Ren} {e : TypeId} {d : TypeDesc} (hd : P.underlying e = some d) (ha : aggType P e = false) {l : List Val} {arr : Array Value} (hl : VRels ρ l arr.toList) {off : Nat} {x : Val} (hx : l[off]? = some x) (w : World) :
    ∃ pv, (part e arr off).run P w = .ok pv w ∧ VRel ρ x pv := by
  obtain ⟨y, hy, r⟩ := hl.get _ _ hx
  rw [Array.getElem?_toList] at hy
  exact ⟨y, by simp only [part, Sem.run_bind, run_isAgg_of hd, ha, Result.andThen_ok, Bool.false_eq_true, if_false, hy, Sem.run_pure], r⟩

/-- A part of each of two values. -/
theorem part_eq {P : Program} {D : Nat} {e : TypeId} {d : TypeDesc} (hd : P.underlying e = some d) {os : List (Nat × Ek)} (hok : EqOk P e D os) (hos : os.all (fun p => decide (p.1 < P.cellsOf e)) = true) (hne : aggType P e = false → ∃ k, os = [(0, k)])
    {ρ : Ren} {l m : List Val} {xs ys : Array Value} (hl : VRels ρ l xs.toList) (hm : VRels ρ m ys.toList) {off : Nat} {p : Bool} (e1 : eqAt l m (shift off os) = some p) (w : World) :
    ∃ a b, (part e xs off).run P w = .ok a w ∧ (part e ys off).run P w = .ok b w ∧ (Op.equalIn D e a b).run P w = .ok p w := by
  cases hag : aggType P e
  · obtain ⟨k, rfl⟩ := hne hag
    simp only [shift, List.map_cons, List.map_nil, Nat.zero_add, eqAt] at e1
    split at e1
    · rename_i x y q hx hy hq
      simp only [Option.some.injEq] at hq; subst hq
      split at e1
      · rename_i p' hp
        simp only [Option.some.injEq, Bool.and_true] at e1; subst e1
        obtain ⟨a, ha, ra⟩ := run_part_one hd hag hl hx w
        obtain ⟨b, hb, rb⟩ := run_part_one hd hag hm hy w
        have hxa : x.isAgg = false := by
          cases x <;> first | rfl | (simp [eqv] at hp)
        have hya : y.isAgg = false := by
          cases y <;> first | rfl | (cases x <;> simp [eqv] at hp)
        have cx : x.cells = [x] := by cases x <;> simp [Val.isAgg, Val.cells] at hxa ⊢
        have cy : y.cells = [y] := by cases y <;> simp [Val.isAgg, Val.cells] at hya ⊢
        exact ⟨a, b, ha, hb, hok ρ x y a b p' w ra rb (by rw [hag]; exact hxa) (by rw [hag]; exact hya) (by rw [cx, cy]; simp [eqAt, hp])⟩
      · cases e1
    · cases e1
  · obtain ⟨a, ha, ra⟩ := run_part_agg hd hag hl off w
    obtain ⟨b, hb, rb⟩ := run_part_agg hd hag hm off w
    rw [eqAt_shift, ← eqAt_take _ _ (P.cellsOf e) os hos] at e1
    exact ⟨a, b, ha, hb, hok ρ _ _ a b p w ra rb (by simp [Val.isAgg, hag]) (by simp [Val.isAgg, hag]) (by simpa [Val.cells] using e1)⟩

theorem leaves_single {P : Program} : ∀ (d : Nat) (t : TypeId) (os : List (Nat × Ek)), leaves P d t = some os → aggType P t = false → ∃ k, os = [(0, k)]
  | 0, t, os, h, _ => by simp [leaves] at h
  | d + 1, t, os, h, ha => by
    simp only [leaves] at h
    unfold aggType at ha
    split at h
    · cases h; exact ⟨_, rfl⟩
    · cases h; exact ⟨_, rfl⟩
    · cases h; exact ⟨_, rfl⟩
    · rename_i hu; simp [hu] at ha
    · rename_i hu; simp [hu] at ha
    · cases h

theorem fields_eq {P : Program} {D : Nat} {leaf : TypeId → Option (List (Nat × Ek))} (hleaf : ∀ t os, leaf t = some os → EqOk P t D os ∧ (aggType P t = false → ∃ k, os = [(0, k)])) {ρ : Ren} {l m : List Val} {xs ys : Array Value} (hl : VRels ρ l xs.toList) (hm : VRels ρ m ys.toList) :
    ∀ (fs : List Field) (os : List (Nat × Ek)) (p : Bool) (w : World), fieldLeaves P leaf fs = some os → eqAt l m os = some p → (Op.eqFields D xs ys fs).run P w = .ok p w
  | [], os, p, w, h, e => by
    simp only [fieldLeaves, Option.some.injEq] at h; subst h
    simp only [eqAt, Option.some.injEq] at e; subst e
    simp [Op.eqFields]
  | f :: fs, os, p, w, h, e => by
    simp only [fieldLeaves] at h
    split at h
    · cases h
    · rename_i hn
      split at h
      · rename_i d o1 rs hd h1 h2
        split at h
        · rename_i hh
          cases h
          obtain ⟨a, b, e1, e2, rfl⟩ := eqAt_append l m _ _ p e
          obtain ⟨x, y, r1, r2, r3⟩ := part_eq hd (hleaf _ _ h1).1 hh (hleaf _ _ h1).2 hl hm e1 w
          have ih := fields_eq hleaf hl hm fs rs b w h2 e2
          simp only [Op.eqFields, ne_eq, hn, not_false_eq_true, if_true, Sem.run_bind, r1, r2, r3, Result.andThen_ok]
          cases a
          · simp
          · simp [ih]
        · cases h
      · cases h

theorem items_eq {P : Program} {D : Nat} {e : TypeId} {d : TypeDesc} (hd : P.underlying e = some d) {os : List (Nat × Ek)} (hok : EqOk P e D os) (hos : os.all (fun p => decide (p.1 < P.cellsOf e)) = true) (hne : aggType P e = false → ∃ k, os = [(0, k)])
    {ρ : Ren} {l m : List Val} {xs ys : Array Value} (hl : VRels ρ l xs.toList) (hm : VRels ρ m ys.toList) :
    ∀ (is : List Nat) (p : Bool) (w : World), eqAt l m (itemLeaves os (P.cellsOf e) is) = some p → (Op.eqItems D e (P.cellsOf e) xs ys is).run P w = .ok p w
  | [], p, w, h => by
    simp only [itemLeaves, eqAt, Option.some.injEq] at h; subst h
    simp [Op.eqItems]
  | i :: is, p, w, h => by
    simp only [itemLeaves] at h
    obtain ⟨a, b, e1, e2, rfl⟩ := eqAt_append l m _ _ p h
    obtain ⟨x, y, r1, r2, r3⟩ := part_eq hd hok hos hne hl hm e1 w
    have ih := items_eq hd hok hos hne hl hm is b w e2
    simp only [Op.eqItems, Sem.run_bind, r1, r2, r3, Result.andThen_ok]
    cases a
    · simp
    · simp [ih]

theorem leaves_ok {P : Program} : ∀ (d : Nat) (t : TypeId) (os : List (Nat × Ek)), leaves P d t = some os → ∀ D, d ≤ D → EqOk P t D os
  | 0, t, os, h, _, _ => by simp [leaves] at h
  | d + 1, t, os, h, 0, hD => by omega
  | d + 1, t, os, h, D + 1, hD => by
    intro ρ x y xv yv p w hx hy hxa hya e
    have ih : ∀ (t : TypeId) (os : List (Nat × Ek)), leaves P d t = some os → EqOk P t D os := fun t os h => leaves_ok d t os h D (by omega)
    simp only [leaves] at h
    have prim : ∀ k, os = [(0, k)] → aggType P t = false → k.fits P t → (Op.equalIn (D + 1) t xv yv).run P w = .ok p w := by
      intro k hos ha hk
      subst hos
      rw [ha] at hxa hya
      have cx : x.cells = [x] := by cases x <;> simp [Val.isAgg, Val.cells] at hxa ⊢
      have cy : y.cells = [y] := by cases y <;> simp [Val.isAgg, Val.cells] at hya ⊢
      rw [cx, cy] at e
      simp only [eqAt, List.getElem?_cons_zero] at e
      split at e
      · rename_i q hq
        simp only [Option.some.injEq, Bool.and_true] at e; subst e
        exact eqv_run hx hy hq hk w
      · cases e
    split at h
    · rename_i k hu; cases h; exact prim .i rfl (by simp [aggType, hu]) ⟨k, hu⟩
    · rename_i hu; cases h; exact prim .b rfl (by simp [aggType, hu]) hu
    · rename_i hu; cases h; exact prim .s rfl (by simp [aggType, hu]) hu
    · rename_i fs hu
      split at h
      · cases h
      · rename_i hst
        have ha : aggType P t = true := by simp [aggType, hu]
        rw [ha] at hxa hya
        obtain ⟨l, rfl⟩ := agg_of_isAgg hxa
        obtain ⟨m, rfl⟩ := agg_of_isAgg hya
        simp only [VRel] at hx hy
        obtain ⟨xs, rfl, hl⟩ := hx
        obtain ⟨ys, rfl, hm⟩ := hy
        have hfs : P.fieldsOf t = fs := by simp [Program.fieldsOf, hu]
        rw [run_equalIn_struct w D t xs ys (by rw [hfs]; exact hu) (by simpa using hst), hfs]
        exact fields_eq (fun t os h => ⟨ih t os h, leaves_single d t os h⟩) hl hm fs.toList os p w h e
    · rename_i n el hu
      split at h
      · rename_i dd o1 hd ho
        split at h
        · rename_i hos
          cases h
          have ha : aggType P t = true := by simp [aggType, hu]
          rw [ha] at hxa hya
          obtain ⟨l, rfl⟩ := agg_of_isAgg hxa
          obtain ⟨m, rfl⟩ := agg_of_isAgg hya
          simp only [VRel] at hx hy
          obtain ⟨xs, rfl, hl⟩ := hx
          obtain ⟨ys, rfl, hm⟩ := hy
          obtain ⟨i, hi⟩ := info_of_underlying hd
          rw [run_equalIn_array w D xs ys hu hi]
          exact items_eq hd (ih el o1 ho) hos (leaves_single d el o1 ho) hl hm (List.range n) p w e
        · cases h
      · cases h
    · cases h

section
variable {P : Program} {ρ : Ren} {h h' : Heap} {w : World} (hr : HRel ρ h w)
include hr

theorem s_eql {op : BinOp} (ho : op = .eql ∨ op = .neq) {t : TypeId} {p q : Operand} (hg : P.eqGuardType P.depth t = false) {os : List (Nat × Ek)} (hos : leaves P 8 t = some os) {x y : Val} {xv yv : Value} (hx : VRel ρ x xv) (hy : VRel ρ y yv) {b : Bool} (e : eqVal ⟨aggType P t, os⟩ x y = some b) :
    Sound P (do pure (.value (← (do eqGuard op t p q xv yv; binOp op t xv yv)))) ρ h w (.bool (if decide (op = .neq) then !b else b)) h := by
  unfold eqVal at e
  split at e
  · rename_i hh
    have heq := leaves_ok 8 t os hos 10000 (by omega) ρ x y xv yv b w hx hy hh.1 hh.2 e
    refine Sound.pure hr (cv := .bool (if decide (op = .neq) then !b else b)) ?_ (by simp only [VRel])
    cases hag : aggType P t
    · obtain ⟨k, rfl⟩ := leaves_single 8 t os hos hag
      rw [hag] at hh
      have cx : x.cells = [x] := by have := hh.1; cases x <;> simp [Val.isAgg, Val.cells] at this ⊢
      have cy : y.cells = [y] := by have := hh.2; cases y <;> simp [Val.isAgg, Val.cells] at this ⊢
      simp only [cx, cy, eqAt, List.getElem?_cons_zero] at e
      split at e
      · rename_i b' hb
        simp only [Option.some.injEq, Bool.and_true] at e; subst e
        cases k <;> cases x <;> cases y <;> simp only [eqv] at hb <;> (try (cases hb; done)) <;> simp only [VRel] at hx hy <;> subst hx hy
        · split at hb
          · rename_i hk; cases hk; cases hb
            rcases ho with rfl | rfl <;> simp [eqGuard, binOp, Op.intCmp] <;> rfl
          · cases hb
        · simp only [Option.some.injEq] at hb; subst hb
          rcases ho with rfl | rfl <;> simp [eqGuard, binOp, Op.equal, Op.maxDepth, heq]
        · simp only [Option.some.injEq] at hb; subst hb
          rcases ho with rfl | rfl <;> simp [eqGuard, binOp, Op.stringOp]
      · cases e
    · rw [hag] at hh
      obtain ⟨l, rfl⟩ := agg_of_isAgg hh.1
      obtain ⟨m, rfl⟩ := agg_of_isAgg hh.2
      simp only [VRel] at hx hy
      obtain ⟨xs, rfl, hl⟩ := hx
      obtain ⟨ys, rfl, hm⟩ := hy
      rcases ho with rfl | rfl
      · simp [eqGuard, hg, run_eql_struct, heq]
      · simp [eqGuard, hg, run_neq_struct, heq]
  · cases e

omit hr in
theorem bin_eq {op : BinOp} (ho : op = .eql ∨ op = .neq) {t : TypeId} {p q : Operand} {xv yv : Value} {b : Bool} (h1 : binOp .eql t xv yv = (do pure (.bool (← Op.equal t xv yv)))) (h2 : binOp .neq t xv yv = (do pure (.bool (!(← Op.equal t xv yv)))))
    (hg : ∀ op, (eqGuard op t p q xv yv).run P w = .ok () w) (he' : ∀ d, (Op.equalIn (d + 1) t xv yv).run P w = .ok b w) :
    (do eqGuard op t p q xv yv; binOp op t xv yv : Sem Value).run P w = .ok (.bool (if decide (op = .neq) then !b else b)) w := by
  have he : (Op.equalIn 10000 t xv yv).run P w = .ok b w := he' 9999
  rcases ho with rfl | rfl
  · simp [hg, h1, Op.equal, Op.maxDepth, he]
  · simp [hg, h2, Op.equal, Op.maxDepth, he]

theorem s_eqnil {op : BinOp} (ho : op = .eql ∨ op = .neq) {t : TypeId} {p q : Operand} (hc : (isNilConst p || isNilConst q) = true) {k : Nk} (hd : cNil P t = some k) {x y : Val} {xv yv : Value} (hx : VRel ρ x xv) (hy : VRel ρ y yv) {b : Bool} (e : eqNil k x y = some b) :
    Sound P (do pure (.value (← (do eqGuard op t p q xv yv; binOp op t xv yv)))) ρ h w (.bool (if decide (op = .neq) then !b else b)) h := by
  refine sound_of (cv := .bool (if decide (op = .neq) then !b else b)) ?_ (.refl hr) (by simp only [VRel])
  have g1 : ∀ op, (eqGuard op t p q .nilIface .nilIface).run P w = .ok () w := by
    intro op
    clear hx hy e hd ho
    cases op <;> cases p <;> cases q <;> first | (simp [isNilConst] at hc; done) | (simp [eqGuard]; done)
  unfold cNil at hd
  split at hd <;> (try (cases hd; done)) <;> rename_i hu <;> cases hd
  · -- pointers
    cases x <;> cases y <;> simp only [eqNil] at e <;> (try (cases e; done)) <;> simp only [Option.some.injEq] at e <;> subst e <;> simp only [VRel] at hx hy
    · subst hx hy; exact bin_eq ho rfl rfl (fun op => by cases op <;> rfl) (fun d => by simp [Op.equalIn, run_underlying hu])
    · obtain ⟨_, _, hy⟩ := hy; subst hx hy; exact bin_eq ho rfl rfl (fun op => by cases op <;> rfl) (fun d => by simp [Op.equalIn, run_underlying hu])
    · obtain ⟨_, _, hx⟩ := hx; subst hx hy; exact bin_eq ho rfl rfl (fun op => by cases op <;> rfl) (fun d => by simp [Op.equalIn, run_underlying hu])
  · cases x <;> cases y <;> simp only [eqNil] at e <;> (try (cases e; done)) <;> simp only [Option.some.injEq] at e <;> subst e <;> simp only [VRel] at hx hy
    · subst hx hy; exact bin_eq ho rfl rfl (fun op => by cases op <;> rfl) (fun d => by simp [Op.equalIn, run_underlying hu])
    · obtain ⟨_, _, hy, _⟩ := hy; subst hx hy; exact bin_eq ho rfl rfl (fun op => by cases op <;> rfl) (fun d => by simp [Op.equalIn, run_underlying hu])
    · obtain ⟨_, _, hx, _⟩ := hx; subst hx hy; exact bin_eq ho rfl rfl (fun op => by cases op <;> rfl) (fun d => by simp [Op.equalIn, run_underlying hu])
  · cases x <;> cases y <;> simp only [eqNil] at e <;> (try (cases e; done)) <;> simp only [Option.some.injEq] at e <;> subst e <;> simp only [VRel] at hx hy
    · subst hx hy; exact bin_eq ho rfl rfl (fun op => by cases op <;> rfl) (fun d => by simp [Op.equalIn, run_underlying hu])
    · obtain ⟨_, _, hy, _⟩ := hy; subst hx hy; exact bin_eq ho rfl rfl (fun op => by cases op <;> rfl) (fun d => by simp [Op.equalIn, run_underlying hu])
    · obtain ⟨_, _, hx, _⟩ := hx; subst hx hy; exact bin_eq ho rfl rfl (fun op => by cases op <;> rfl) (fun d => by simp [Op.equalIn, run_underlying hu])
  · cases x <;> cases y <;> simp only [eqNil] at e <;> (try (cases e; done)) <;> simp only [Option.some.injEq] at e <;> subst e <;> simp only [VRel] at hx hy
    · subst hx hy; exact bin_eq ho rfl rfl (fun op => by cases op <;> rfl) (fun d => by simp [Op.equalIn, run_underlying hu])
    · obtain ⟨_, _, hy⟩ := hy; subst hx hy; exact bin_eq ho rfl rfl (fun op => by cases op <;> rfl) (fun d => by simp [Op.equalIn, run_underlying hu])
    · obtain ⟨_, _, hx⟩ := hx; subst hx hy; exact bin_eq ho rfl rfl (fun op => by cases op <;> rfl) (fun d => by simp [Op.equalIn, run_underlying hu])
  · cases x <;> cases y <;> simp only [eqNil] at e <;> (try (cases e; done)) <;> simp only [Option.some.injEq] at e <;> subst e <;> simp only [VRel] at hx hy
    · subst hx hy; exact bin_eq ho rfl rfl g1 (fun d => by simp [Op.equalIn, run_underlying hu])
    · obtain ⟨_, hy, _⟩ := hy; subst hx hy; exact bin_eq ho rfl rfl (fun op => by cases op <;> rfl) (fun d => by simp [Op.equalIn, run_underlying hu])
    · obtain ⟨_, hx, _⟩ := hx; subst hx hy; exact bin_eq ho rfl rfl (fun op => by cases op <;> rfl) (fun d => by simp [Op.equalIn, run_underlying hu])
end

end Go.V
