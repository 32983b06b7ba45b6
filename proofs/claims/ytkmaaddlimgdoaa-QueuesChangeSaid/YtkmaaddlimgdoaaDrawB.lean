/-
  A region that draws its order: every order.
-/
import Derived.Test.YtkmaaddlimgdoaaDraw
set_option linter.unusedVariables false
set_option linter.unusedSimpArgs false
set_option linter.unusedSectionVars false
namespace Go.V

theorem VRels.ofGet {ρ : Ren} : ∀ (l : List Val) (l' : List Value), l.length = l'.length → (∀ t, t < l.length → VRel ρ (l.getD t .undef) (l'.getD t Go.undef)) → VRels ρ l l'
  | [], [], _, _ => .nil
  | x :: l, y :: l', e, h => by
    refine .cons (by simpa using h 0 (by simp)) (VRels.ofGet l l' (by simpa using e) fun t ht => ?_)
    simpa using h (t + 1) (by simpa using ht)
  | [], _ :: _, e, _ => by simp at e
  | _ :: _, [], e, _ => by simp at e

theorem FRel.ofGet {ρ : Ren} {fr : List Val} {a : Act} (e : a.tmps.size = fr.length) (h : ∀ t, t < fr.length → VRel ρ (fr.getD t .undef) (a.tmps.getD t Go.undef)) : FRel ρ fr a := by
  refine VRels.ofGet _ _ (by simpa using e.symm) fun t ht => ?_
  have e2 : a.tmps.toList.getD t Go.undef = a.tmps.getD t Go.undef := by simp [Array.getD_eq_getD_getElem?, List.getD_eq_getElem?_getD]
  rw [e2]; exact h t ht

/- ONLY WHAT IS NAMED. -/
def patchF (ns : List Nat) (fr : List Val) : List Val := fr.mapIdx fun t v => if t ∈ ns then v else .undef
def patchA (ns : List Nat) (a : Act) : Act := { a with tmps := a.tmps.mapIdx fun t v => if t ∈ ns then v else Go.undef }

theorem patchF_getD {ns : List Nat} {fr : List Val} {t : Nat} (h : t ∈ ns) : (patchF ns fr).getD t .undef = fr.getD t .undef := by
  simp only [patchF, List.getD_eq_getElem?_getD, List.getElem?_mapIdx]
  cases fr[t]? with
  | none => rfl
  | some x => simp [h]

theorem patchF_out {ns : List Nat} {fr : List Val} {t : Nat} (h : t ∉ ns) : (patchF ns fr).getD t .undef = .undef := by
  simp only [patchF, List.getD_eq_getElem?_getD, List.getElem?_mapIdx]
  cases fr[t]? with
  | none => rfl
  | some x => simp [h]

theorem patchA_get {ns : List Nat} {a : Act} {t : Nat} (h : t ∈ ns) : (patchA ns a).tmps[t]? = a.tmps[t]? := by
  simp only [patchA, Array.getElem?_mapIdx]
  cases a.tmps[t]? with
  | none => rfl
  | some x => simp [h]

theorem patchA_out {ns : List Nat} {a : Act} {t : Nat} (h : t ∉ ns) : (patchA ns a).tmps.getD t Go.undef = Go.undef := by
  simp only [patchA, Array.getD_eq_getD_getElem?, Array.getElem?_mapIdx]
  cases a.tmps[t]? with
  | none => rfl
  | some x => simp [h]

theorem wanted_congr {fr fr' : List Val} {g : Option (Nat × Bool)} (h : ∀ t ∈ (match g with | some (t, _) => [t] | none => ([] : List Nat)), fr.getD t .undef = fr'.getD t .undef) : wanted fr g = wanted fr' g := by
  cases g with
  | none => rfl
  | some p => obtain ⟨t, b⟩ := p; simp only [wanted, h t (by simp)]

theorem wantedR_congr {ops : Array Oper} {o : Oper} {a a' : Act} {g : Option (Nat × Bool)} (hg : cGuard ops o.guard = some g) (h : ∀ t ∈ (match g with | some (t, _) => [t] | none => ([] : List Nat)), a.tmps[t]? = a'.tmps[t]?) : Region.wanted o (yielded ops a.tmps) = Region.wanted o (yielded ops a'.tmps) := by
  unfold Region.wanted
  cases ho : o.guard with
  | none => rfl
  | some jw =>
    obtain ⟨j, want⟩ := jw
    rw [ho] at hg
    simp only [cGuard] at hg
    split at hg
    · rename_i t ht
      simp only [Option.some.injEq] at hg; subst hg
      simp only [yielded, ht, Option.bind_some, h t (by simp)]
    · cases hg

section
variable {P : Program} {meth : TypeId → Val → String → Option (FuncId × Val)} {call : CallT} {ops : Array Oper} {vl : List VOper} {F : Nat → List Val} {H : Nat → Heap}
  (C : Ctx P meth call ops vl F H) {ρ0 : Ren} {w0 : World} {a0 : Act} {In : Nat → Prop} {a : Act} {w : World} {ρ : Ren} {T M : Nat → Nat} (I : Inv ops vl F H ρ0 w0 a0 In a w ρ T M)
  {i : Nat} (hin : ¬ In i) (hi0 : i < ops.size) (hbef : ∀ j, Bef ops i j → In j) {vo : VOper} (hvo : vl[i]? = some vo)
include C I hin hi0 hbef hvo

theorem patched {o : Oper} (ho : ops[i]? = some o) : FRel (ρ.cut (H i).next) (patchF (namesOf o vo) (F i)) (patchA (namesOf o vo) a) := by
  have hl : (F i).length = (F 0).length := C.flen (by omega)
  refine FRel.ofGet (by simp [patchA, patchF, I.tsz, hl]) fun t ht => ?_
  have htl : t < (F 0).length := by simpa [patchF, hl] using ht
  by_cases hn : t ∈ namesOf o vo
  · rw [patchF_getD hn, Array.getD_eq_getD_getElem?, patchA_get hn, ← Array.getD_eq_getD_getElem?]
    exact named C I hin hi0 hbef hvo ho hn htl
  · rw [patchF_out hn, patchA_out hn]; exact rel_undef

omit hvo in
theorem present {b : Nat} {x : Blk} (hx : (H i).t.get b = some x) (hall : ∀ j wo, j < i → vl[j]? = some wo → wo.op.kind ≠ 0 → (H j).next ≤ b → b < (H (j + 1)).next → In j) : Pres H In b := by
  have hb : b < (H i).next := by
    rcases Nat.lt_or_ge b (H i).next with h | h
    · exact h
    · rw [C.lowi (by omega) b h] at hx; cases hx
  rcases Nat.lt_or_ge b (H 0).next with h0 | h0
  · exact .inl h0
  · obtain ⟨j, wo, h1, h2, h3, h4, h5⟩ := C.maker (show i ≤ ops.size by omega) h0 hb
    exact .inr ⟨j, hall j wo h1 h2 h3 h4 h5, h4, h5⟩

theorem how_full (hm : Modif vo) : How H In i vo (H i) (H (i + 1)) := by
  refine ⟨rfl, rfl, rfl, rfl, .inl ⟨rfl, rfl, hm⟩, fun _ h => h, ?_, ?_, rfl⟩
  · intro b _ h
    have e := (C.ext (Nat.le_succ i) (by omega)).hid
    unfold Heap.hidden at h ⊢; rw [e]; exact h
  · intro b x hg
    refine ⟨by have := hm.1; omega, present C I hin hi0 hbef (Heap.get_t hg) fun j wo hj hwo hk _ _ => ?_⟩
    rcases C.full i vo hvo hm.2 j wo hwo hk with h | ⟨_, h⟩ | ⟨h, _⟩
    · omega
    · exact hbef j h
    · omega

theorem how_blind (hm : ¬ Modif vo) (hs : (H (i + 1)).hid = (H i).hid) : How H In i vo { H i with hid := (0, (H i).next) :: (H i).hid, floor := (H i).next } { H (i + 1) with hid := (0, (H i).next) :: (H i).hid, floor := (H i).next } := by
  refine ⟨rfl, rfl, rfl, rfl, .inr ⟨hm, rfl⟩, ?_, ?_, ?_, rfl⟩
  · intro b h
    simp only [Heap.hidden, List.any_cons, Bool.or_eq_false_iff] at h ⊢
    exact h.2
  · intro b hb h
    simp only [Heap.hidden, List.any_cons, Bool.or_eq_false_iff] at h ⊢
    refine ⟨?_, h⟩
    simp; omega
  · intro b x hg
    have h1 := Heap.get_nh hg
    have h2 := Heap.get_t hg
    simp only [Heap.hidden, List.any_cons, Bool.or_eq_false_iff] at h1
    have h3 := h1.1
    simp at h3
    rw [C.lowi (show i ≤ ops.size by omega) b h3] at h2; cases h2

end

theorem mem_hiddenOf {rs : List (Nat × Nat)} : ∀ {l : List Nat} {j : Nat}, j ∈ l → rs.getD j (0, 0) ∈ hiddenOf rs l
  | k :: l, j, h => by
    simp only [hiddenOf, List.mem_cons] at h ⊢
    rcases h with h | h
    · exact .inl (by rw [h])
    · exact .inr (mem_hiddenOf h)
  | [], j, h => by simp at h

theorem hiddenOf_mem' {rs : List (Nat × Nat)} : ∀ {l : List Nat} {p : Nat × Nat}, p ∈ hiddenOf rs l → ∃ j ∈ l, p = rs.getD j (0, 0)
  | [], p, h => by simp [hiddenOf] at h
  | k :: l, p, h => by
    simp only [hiddenOf, List.mem_cons] at h
    rcases h with h | h
    · exact ⟨k, by simp, h⟩
    · obtain ⟨j, h1, h2⟩ := hiddenOf_mem' h
      exact ⟨j, by simp [h1], h2⟩

theorem rangesTo_get {H : Nat → Heap} {i j : Nat} (h : j < i) : (rangesTo H i).getD j (0, 0) = ((H j).next, (H (j + 1)).next) := by
  simp [rangesTo, List.getD_eq_getElem?_getD, h]

theorem rangesTo_out {H : Nat → Heap} {i j : Nat} (h : i ≤ j) : (rangesTo H i).getD j (0, 0) = (0, 0) := by
  simp [rangesTo, List.getD_eq_getElem?_getD, h]

section
variable {P : Program} {meth : TypeId → Val → String → Option (FuncId × Val)} {call : CallT} {ops : Array Oper} {vl : List VOper} {F : Nat → List Val} {H : Nat → Heap}
  (C : Ctx P meth call ops vl F H) {ρ0 : Ren} {w0 : World} {a0 : Act} {In : Nat → Prop} {a : Act} {w : World} {ρ : Ren} {T M : Nat → Nat} (I : Inv ops vl F H ρ0 w0 a0 In a w ρ T M)
  {i : Nat} (hin : ¬ In i) (hi0 : i < ops.size) (hbef : ∀ j, Bef ops i j → In j) {vo : VOper} (hvo : vl[i]? = some vo)
include C I hin hi0 hbef hvo

theorem how_part (hk : vo.op.kind = 2) (hf : vo.full = false) {h2 : Heap} (e2 : h2.hid = hiddenOf (rangesTo H i) vo.hide ++ (H i).hid) (e3 : H (i + 1) = { h2 with hid := (H i).hid, floor := (H i).floor }) :
    How H In i vo { H i with hid := hiddenOf (rangesTo H i) vo.hide ++ (H i).hid, floor := (H i).next } h2 := by
  refine ⟨rfl, rfl, by rw [e3], by rw [e3], .inr ⟨(by rintro ⟨_, h⟩; rw [hf] at h; cases h), rfl⟩, ?_, ?_, ?_, rfl⟩
  · intro b h
    simp only [Heap.hidden, List.any_append, Bool.or_eq_false_iff] at h ⊢
    exact h.2
  · intro b hb h
    unfold Heap.hidden at h ⊢
    rw [e2, List.any_append, h, Bool.or_false, List.any_eq_false]
    intro p hp
    obtain ⟨j, hj, rfl⟩ := hiddenOf_mem' hp
    rcases Nat.lt_or_ge j i with hji | hji
    · rw [rangesTo_get hji]
      have := (C.ext (show j + 1 ≤ i by omega) (by omega)).next
      simp; intro _; omega
    · rw [rangesTo_out hji]; simp
  · intro b x hg
    have hgt := Heap.get_t hg
    refine ⟨by omega, present C I hin hi0 hbef hgt fun j wo hj hwo hkj r1 r2 => ?_⟩
    by_cases hbj : Bef ops i j
    · exact hbef j hbj
    · exfalso
      have hmem := C.hide i vo hvo j wo hwo hkj hj hbj
      have h1 := Heap.get_nh hg
      simp only [Heap.hidden, List.any_append, Bool.or_eq_false_iff] at h1
      have h3 := List.any_eq_false.1 h1.1 _ (mem_hiddenOf (rs := rangesTo H i) hmem)
      rw [rangesTo_get hj] at h3
      simp at h3; have := h3 r1; omega

theorem op_any (hr0 : HRel ρ0 (H 0) w0) {o : Oper} (ho : ops[i]? = some o) {K : Act → World → Prop} {Q : Exit → Act → World → Prop}
    (k : ∀ a' w' ρn T' M', Inv ops vl F H ρ0 w0 a0 (fun k => k = i ∨ In k) a' w' ρn T' M' → K a' w') : wpOp P ops Q i K a w := by
  obtain ⟨o', vo', e1, e2, hc, hdst, hg, hsel⟩ := C.get i hi0
  rw [ho] at e1; cases e1
  rw [hvo] at e2; cases e2
  have hp := patched C I hin hi0 hbef hvo ho
  have hgm : ∀ t ∈ (match vo.guard with | some (t, _) => [t] | none => ([] : List Nat)), t ∈ namesOf o vo := fun t ht => List.mem_append_right _ ht
  have hwant : ∀ b, wanted (F i) vo.guard = some b → Region.wanted o (yielded ops a.tmps) = b := by
    intro b hb
    rw [← wanted_congr (fr := patchF (namesOf o vo) (F i)) fun t ht => patchF_getD (hgm t ht)] at hb
    rw [← wanted_rel hp hg hb]
    exact wantedR_congr hg fun t ht => (patchA_get (hgm t ht)).symm
  have hex : execOp a.eval o = execOp (patchA (namesOf o vo) a).eval o := by
    refine execOp_congr o (fun cs b h => by rw [h] at hsel; simp [notSelect] at hsel) fun x hx => ?_
    cases x with
    | tmp t =>
      have ht : t ∈ namesOf o vo := by
        simp only [namesOf, List.mem_append]
        refine .inl (.inl (.inr ?_))
        simp only [operandTmps, List.mem_flatMap]
        exact ⟨_, by simpa using hx, by simp⟩
      simp only [Act.eval, Array.getD_eq_getD_getElem?, patchA_get ht]
    | _ => rfl
  have hstep : ∀ h, step meth call (patchF (namesOf o vo) (F i)) h vo.op = step meth call (F i) h vo.op := fun h => step_congr fun t ht => patchF_getD (by simp only [namesOf, List.mem_append]; exact .inl (.inr ht))
  have main : ∀ (hi hi' : Heap) (v : Val), How H In i vo hi hi' → step meth call (F i) hi vo.op = some (v, hi') → F (i + 1) = setDst (F i) vo.dst v → o.wp P a w K Q := by
    intro hi hi' v W hs hF
    refine op_wp (inv_hrel C I hin hi0 hbef hvo hr0 W) hp C.ms C.cs hex hc (by rw [hstep]; exact hs) fun cv w' ρ' p hv => ?_
    obtain ⟨ρn, T', M', I'⟩ := inv_step C I hin hi0 hbef hvo hr0 ho hdst W p hv hF
    rw [hdst] at I'
    exact k _ _ _ _ _ I'
  unfold wpOp
  simp only [ho]
  rcases C.trace i vo hvo with ⟨hw, hF, hH⟩ | ⟨hw, v, hF, ⟨hk, hs⟩ | ⟨hk, hf, h2, hs, hH⟩⟩
  · rw [hwant _ hw]
    simp only [Bool.false_eq_true, if_false]
    by_cases hm : Modif vo
    · have W := how_full C I hin hi0 hbef hvo hm
      rw [hH] at W
      have p := Post.refl (inv_hrel C I hin hi0 hbef hvo hr0 W)
      have W' := how_full C I hin hi0 hbef hvo hm
      obtain ⟨ρn, T', M', I'⟩ := inv_step C I hin hi0 hbef hvo hr0 ho hdst W' (by rw [hH]; exact p) rel_undef hF
      rw [hdst] at I'
      exact k _ _ _ _ _ I'
    · have W := how_blind C I hin hi0 hbef hvo hm (by rw [hH])
      have p := Post.refl (inv_hrel C I hin hi0 hbef hvo hr0 W)
      obtain ⟨ρn, T', M', I'⟩ := inv_step C I hin hi0 hbef hvo hr0 ho hdst W (by rw [hH]; exact p) rel_undef hF
      rw [hdst] at I'
      exact k _ _ _ _ _ I'
  · rw [hwant _ hw]
    simp only [if_true]
    left
    by_cases hm : Modif vo
    · exact main _ _ v (how_full C I hin hi0 hbef hvo hm) hs hF
    · have hk1 : vo.op.kind ≤ 1 := by
        rcases hk with hk | hk
        · exact hk
        · rcases Nat.lt_or_ge 1 vo.op.kind with h | h
          · exact absurd ⟨h, hk⟩ hm
          · exact h
      exact main _ _ v (how_blind C I hin hi0 hbef hvo hm (C.ext (Nat.le_succ i) (by omega)).hid) (step_blind hk1 hs _ _) hF
  · rw [hwant _ hw]
    simp only [if_true]
    left
    exact main _ _ v (how_part C I hin hi0 hbef hvo hk hf (step_ext C.ce hs).hid hH) hs hF

end

end Go.V
