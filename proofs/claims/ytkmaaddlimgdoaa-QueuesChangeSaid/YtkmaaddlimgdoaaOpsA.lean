/-
  One operation of the abstract machine against the model's: the first part.
-/
import Derived.Test.YtkmaaddlimgdoaaHeap
set_option linter.unusedVariables false
set_option linter.unusedSimpArgs false
set_option linter.unusedSectionVars false
namespace Go.V

theorem rel_undef {ρ : Ren} : VRel ρ .undef Go.undef := by simp only [VRel]; rfl

mutual
theorem cVal_rel {ρ : Ren} : ∀ (v : Value) (x : Val), cVal v = some x → VRel ρ x v
  | .bool b, x, h => by simp only [cVal, Option.some.injEq] at h; subst h; simp only [VRel]
  | .int k n, x, h => by simp only [cVal, Option.some.injEq] at h; subst h; simp only [VRel]
  | .string s, x, h => by simp only [cVal, Option.some.injEq] at h; subst h; simp only [VRel]
  | .pointer none, x, h => by simp only [cVal, Option.some.injEq] at h; subst h; simp only [VRel]
  | .pointer (some _), x, h => by simp [cVal] at h
  | .slice none n c, x, h => by
    simp only [cVal] at h
    split at h
    · rename_i hh; cases h; obtain ⟨rfl, rfl⟩ := hh; simp only [VRel]
    · cases h
  | .slice (some _) _ _, x, h => by simp [cVal] at h
  | .map none, x, h => by simp only [cVal, Option.some.injEq] at h; subst h; simp only [VRel]
  | .map (some _), x, h => by simp [cVal] at h
  | .nilFunc, x, h => by simp only [cVal, Option.some.injEq] at h; subst h; simp only [VRel]
  | .nilIface, x, h => by simp only [cVal, Option.some.injEq] at h; subst h; simp only [VRel]
  | .agg ⟨l⟩, x, h => by
    simp only [cVal] at h
    split at h
    · rename_i l' hl; cases h; simp only [VRel]; exact ⟨_, rfl, cVals_rel l l' hl⟩
    · cases h
  | .tuple a, x, h => by
    simp only [cVal] at h
    split at h
    · rename_i hl; cases h; simp only [VRel]
      congr 1
      exact Array.ext' (by simpa using hl)
    · cases h
  | .float _ _, x, h => by simp [cVal] at h
  | .complex _ _ _, x, h => by simp [cVal] at h
  | .chan _, x, h => by simp [cVal] at h
  | .func _ _ _, x, h => by simp [cVal] at h
  | .iface _ _, x, h => by simp [cVal] at h
theorem cVals_rel {ρ : Ren} : ∀ (v : List Value) (x : List Val), cVals v = some x → VRels ρ x v
  | [], x, h => by simp only [cVals, Option.some.injEq] at h; subst h; exact .nil
  | v :: r, x, h => by
    simp only [cVals] at h
    split at h
    · rename_i a b ha hb; cases h; exact .cons (cVal_rel v a ha) (cVals_rel r b hb)
    · cases h
end

/-- A frame. -/
def FRel (ρ : Ren) (fr : List Val) (a : Act) : Prop := VRels ρ fr a.tmps.toList

theorem FRel.getD {ρ : Ren} {fr : List Val} {a : Act} (h : FRel ρ fr a) (t : Nat) : VRel ρ (fr.getD t .undef) (a.tmps.getD t Go.undef) := by
  unfold FRel at h
  have hl := h.length
  rw [Array.getD_eq_getD_getElem?, List.getD_eq_getElem?_getD]
  cases e : fr[t]? with
  | none =>
    have : a.tmps[t]? = none := by
      rw [List.getElem?_eq_none_iff] at e
      rw [Array.getElem?_eq_none_iff]
      simp at hl; omega
    rw [this]; exact rel_undef
  | some x =>
    obtain ⟨v, hv, r⟩ := h.get t x e
    rw [Array.getElem?_toList] at hv
    rw [hv]; exact r

theorem FRel.ev {ρ : Ren} {fr : List Val} {a : Act} (h : FRel ρ fr a) {x : Operand} {y : Opd} (e : cOpd x = some y) : VRel ρ (V.ev fr y) (a.eval x) := by
  cases x with
  | tmp t => simp only [cOpd, Option.some.injEq] at e; subst e; exact h.getD t
  | const v =>
    simp only [cOpd, Option.map_eq_some_iff] at e
    obtain ⟨z, hz, rfl⟩ := e
    exact cVal_rel v z hz
  | func f => simp only [cOpd, Option.some.injEq] at e; subst e; simp only [V.ev, VRel]; exact ⟨_, _, rfl, .nil, .nil⟩
  | global g => simp [cOpd] at e

theorem FRel.evs {ρ : Ren} {fr : List Val} {a : Act} (h : FRel ρ fr a) : ∀ {xs : List Operand} {ys : List Opd}, cOpds xs = some ys → VRels ρ (V.evs fr ys) (xs.map a.eval)
  | [], ys, e => by simp only [cOpds, Option.some.injEq] at e; subst e; exact .nil
  | x :: r, ys, e => by
    simp only [cOpds] at e
    split at e
    · rename_i p q hp hq; cases e; exact .cons (h.ev hp) (h.evs hq)
    · cases e

theorem FRel.mono {ρ ρ' : Ren} (k : ρ.le ρ') {fr : List Val} {a : Act} (h : FRel ρ fr a) : FRel ρ' fr a := VRels.mono k _ _ h

theorem VRel.cells {ρ : Ren} {x : Val} {v : Value} (h : VRel ρ x v) : VRels ρ x.cells v.cells.toList := by
  cases x with
  | agg l => simp only [VRel] at h; obtain ⟨a, rfl, h⟩ := h; exact h
  | _ =>
    have hv : v.cells = #[v] := by
      simp only [VRel] at h
      first
        | (subst h; rfl)
        | (obtain ⟨_, _, h⟩ := h; subst h; rfl)
        | (obtain ⟨_, _, h, _⟩ := h; subst h; rfl)
        | (obtain ⟨_, h, _⟩ := h; subst h; rfl)
    rw [hv]
    exact .cons h .nil

/- THE TYPES. -/
section
variable {P : Program}
theorem info_of_underlying {t : TypeId} {d : TypeDesc} (h : P.underlying t = some d) : ∃ i, P.info? t = some i := by
  unfold Program.underlying at h
  split at h
  · rename_i i hi; exact ⟨_, hi⟩
  · rename_i i hi; exact ⟨_, hi⟩
  · cases h

theorem run_isAgg_of {t : TypeId} {d : TypeDesc} (h : P.underlying t = some d) (w : World) : (isAgg t).run P w = .ok (aggType P t) w := by
  simp only [isAgg, Sem.run_bind, run_underlying h, Result.andThen_ok, aggType, h]
  split <;> simp_all

theorem run_sizeOf_of {t : TypeId} {i : TypeInfo} (h : P.info? t = some i) (w : World) : (sizeOf t).run P w = .ok (P.cellsOf t) w := by
  simp [sizeOf, typeInfo, h, Program.cellsOf]

theorem run_typeInfo_of {t : TypeId} {i : TypeInfo} (h : P.info? t = some i) (w : World) : (typeInfo t).run P w = .ok i w := by
  simp [typeInfo, h]

theorem cZero_rel {ρ : Ren} {t : TypeId} {z : List Val} (h : cZero P t = some z) : ∃ (i : TypeInfo) (v : Value), P.info? t = some i ∧ i.zero = some v ∧ VRels ρ z v.cells.toList ∧ (∀ w, (zeroValue t).run P w = .ok v w) := by
  unfold cZero at h
  split at h
  · rename_i v hv
    simp only [Option.map_eq_some_iff] at h
    obtain ⟨x, hx, rfl⟩ := h
    cases hi : P.info? t with
    | none => rw [hi] at hv; cases hv
    | some i =>
      rw [hi] at hv
      simp only [Option.bind_some] at hv
      exact ⟨i, v, rfl, hv, (cVal_rel v x hx).cells, fun w => by simp [zeroValue, typeInfo, hi, hv]⟩
  · cases h
end

/-- What the run of an operation is to be. -/
def Sound (P : Program) (s : Sem Next) (ρ : Ren) (h : Heap) (w : World) (v : Val) (h' : Heap) : Prop :=
  ∃ nx w' cv ρ', s.run P w = .ok nx w' ∧ (nx = .value cv ∨ (nx = .skip ∧ cv = Go.undef)) ∧ Post ρ h w ρ' h' w' ∧ VRel ρ' v cv

theorem Sound.pure {P : Program} {ρ : Ren} {h : Heap} {w : World} (hr : HRel ρ h w) {s : Sem Next} {v : Val} {cv : Value} (hs : s.run P w = .ok (.value cv) w) (hv : VRel ρ v cv) : Sound P s ρ h w v h :=
  ⟨_, w, cv, ρ, hs, .inl rfl, .refl hr, hv⟩

section
variable {P : Program} {ρ : Ren} {h h' : Heap} {w : World} (hr : HRel ρ h w)
include hr

theorem s_new {s : Sem Next} {c : List Val} {m : List Value} (hc : VRels ρ c m) {e : TypeId} {pv : Value} {v : Val}
    (hs : s.run P w = .ok (.value pv) { w with heap := w.heap.push (.cells m.toArray e) })
    (hv : VRel (ρ.upd h.next ⟨w.heap.size, 0, m.length⟩) v pv) : Sound P s ρ h w v (h.new (.cells c)).2 := by
  refine ⟨_, _, pv, _, hs, .inl rfl, Post.new hr (.cells c) (.cells m.toArray e) _ ⟨w.heap.size, 0, m.length⟩ rfl rfl rfl rfl rfl ?_, hv⟩
  refine ⟨m.toArray, e, 0, 0, ?_, fun _ _ _ h => by omega, ?_, ?_, ?_⟩
  · simp
  · simp [hc.length]
  · simp
  · simp only [List.drop_zero]
    rw [List.take_of_length_le (by simp [hc.length])]
    exact VRels.mono (Ren.le_upd (hr.top _ (Nat.le_refl _))) _ _ hc

theorem s_alloc {e : TypeId} {z : List Val} (hz : cZero P e = some z) : Sound P (do pure (.value (← Instr.alloc e true (.tuple #[])))) ρ h w (.ptr h.next 0) (h.new (.cells z)).2 := by
  obtain ⟨i, v, hi, hzv, hc, hrun⟩ := cZero_rel (ρ := ρ) hz
  refine s_new hr hc (e := e) (pv := .pointer (some ⟨w.heap.size, 0, none⟩)) ?_ ?_
  · simp [Instr.alloc, hrun, newVar, newRow]
  · simp [VRel, Ren.upd]

theorem s_box {e : TypeId} {x : Val} {v : Value} (hx : VRel ρ x v) : Sound P (do pure (.value (← Instr.box e v))) ρ h w (.ptr h.next 0) (h.new (.cells x.cells)).2 := by
  refine s_new hr hx.cells (e := e) (pv := .pointer (some ⟨w.heap.size, 0, none⟩)) ?_ ?_
  · simp [Instr.box, newVar, newRow]
  · simp [VRel, Ren.upd]

theorem s_load {t : TypeId} {d : TypeDesc} (ht : P.underlying t = some d) {b o : Nat} {c : List Val} (e : h.load b o (P.cellsOf t) = some c) {v : Value} (hv : VRel ρ (.ptr b o) v) {x : Val}
    (hx : (aggType P t = true ∧ x = .agg c) ∨ (aggType P t = false ∧ c = [x])) : Sound P (do pure (.value (← Instr.loadAt t v))) ρ h w x h := by
  simp only [VRel] at hv
  obtain ⟨l, hl, rfl⟩ := hv
  obtain ⟨m, hm, hcell⟩ := hr.load e hl
  obtain ⟨i, hi⟩ := info_of_underlying ht
  have hlen : m.length = P.cellsOf t := by
    rw [hm.length]
    obtain ⟨cs, _, h2, rfl⟩ := Heap.load_some e
    simp; omega
  rcases hx with ⟨ha, rfl⟩ | ⟨ha, rfl⟩
  · have hrun := run_loadCells_of (P := P) hcell
    rw [hlen] at hrun
    refine Sound.pure hr (cv := .agg m.toArray) ?_ ?_
    · simp only [Instr.loadAt, Instr.sureAddr, loadVar, Sem.run_bind, Sem.run_pure, Result.andThen_ok, run_isAgg_of ht, ha, if_true, run_sizeOf_of hi, hrun]
    · simp only [VRel]; exact ⟨_, rfl, hm⟩
  · cases m with
    | nil => exact absurd hm.length (by simp)
    | cons v m =>
      have h0 := hcell 0 v (by simp)
      simp only [Addr.add_none, Nat.add_zero] at h0
      simp only [VRels] at hm
      obtain ⟨y, s, he, hy, _⟩ := hm
      cases he
      refine Sound.pure hr (cv := v) ?_ hy
      simp only [Instr.loadAt, Instr.sureAddr, loadVar, Sem.run_bind, Sem.run_pure, Result.andThen_ok, run_isAgg_of ht, ha, Bool.false_eq_true, if_false, run_load, h0]

theorem s_store {t : TypeId} {i : TypeInfo} (hi : P.info? t = some i) {b o : Nat} {x : Val} (hn : x.cells.length = P.cellsOf t) (e : h.store b o x.cells = some h') {v pv : Value} (hv : VRel ρ x v) (hp : VRel ρ (.ptr b o) pv) :
    Sound P (do Instr.storeAt t pv v; pure .skip) ρ h w .undef h' := by
  simp only [VRel] at hp
  obtain ⟨l, hl, rfl⟩ := hp
  obtain ⟨w', hrun, hpost⟩ := hr.store (P := P) e hl hv.cells
  refine ⟨.skip, w', Go.undef, ρ, ?_, .inr ⟨rfl, rfl⟩, hpost, rel_undef⟩
  have hsz : v.cells.size = P.cellsOf t := by rw [← hn]; have := hv.cells.length; simpa using this
  simp [Instr.storeAt, Instr.sureAddr, storeVar, run_sizeOf_of hi, hsz, hrun]

end
end Go.V
