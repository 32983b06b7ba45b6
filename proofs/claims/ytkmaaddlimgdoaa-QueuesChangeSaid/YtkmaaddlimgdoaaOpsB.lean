/-
  One operation of the abstract machine against the model's: the second part: values without memory.
-/
import Derived.Test.YtkmaaddlimgdoaaOpsA
set_option linter.unusedVariables false
set_option linter.unusedSimpArgs false
set_option linter.unusedSectionVars false
namespace Go.V

theorem list_set_append (l : List Value) (k : Nat) (v : Value) (rest : List Value) (hk : k + (rest.length + 1) ≤ l.length) :
    (l.set k v).take (k + 1) ++ rest ++ (l.set k v).drop (k + 1 + rest.length) = l.take k ++ (v :: rest) ++ l.drop (k + (rest.length + 1)) := list_seg_step l k v rest hk

theorem foldl_fill (off : Nat) : ∀ (vs : List Value) (j : Nat) (cs : Array Value), off + j + vs.length ≤ cs.size →
    ((vs.zipIdx j).foldl (fun cs (p : Value × Nat) => cs.setIfInBounds (off + p.2) p.1) cs).toList = cs.toList.take (off + j) ++ vs ++ cs.toList.drop (off + j + vs.length)
  | [], j, cs, _ => by simp
  | v :: r, j, cs, h => by
    simp only [List.zipIdx_cons, List.foldl_cons]
    rw [foldl_fill off r (j + 1) _ (by simp at h ⊢; omega)]
    have e := list_set_append cs.toList (off + j) v r (by simp at h ⊢; omega)
    simpa [Array.toList_setIfInBounds, Nat.add_assoc] using e

theorem fill_rel {ρ : Ren} {fr : List Val} {a : Act} (hf : FRel ρ fr a) (place : Nat → Option (Nat × Nat)) : ∀ (parts : List (Nat × Operand)) (ps : List (Nat × Nat × Opd)) (cells : List Val) (m : Array Value) (c : List Val),
    cParts place parts = some ps → VRels ρ cells m.toList → V.fill fr cells ps = some c → ∃ m', Instr.fill place m (parts.map fun p => (p.1, a.eval p.2)) = some m' ∧ VRels ρ c m'.toList
  | [], ps, cells, m, c, h1, h2, h3 => by
    simp only [cParts, Option.some.injEq] at h1; subst h1
    simp only [V.fill, Option.some.injEq] at h3; subst h3
    exact ⟨m, by simp [Instr.fill], h2⟩
  | (i, x) :: r, ps, cells, m, c, h1, h2, h3 => by
    simp only [cParts] at h1
    split at h1
    · rename_i o n y l hp hx hr
      cases h1
      simp only [V.fill] at h3
      split at h3
      · rename_i hh
        have hv := (hf.ev hx).cells
        have hvl := hv.length
        have hml := h2.length
        simp only [Array.length_toList] at hvl hml
        have e : ((a.eval x).cells.zipIdx.foldl (fun cs (p : Value × Nat) => cs.setIfInBounds (o + p.2) p.1) m).toList = m.toList.take o ++ (a.eval x).cells.toList ++ m.toList.drop (o + (a.eval x).cells.toList.length) := by
          have := foldl_fill o (a.eval x).cells.toList 0 m (by simp; omega)
          rw [← Array.foldl_toList]
          simpa [Array.toList_zipIdx] using this
        have h2' : VRels ρ (V.splice cells o (V.ev fr y).cells) ((a.eval x).cells.zipIdx.foldl (fun cs (p : Value × Nat) => cs.setIfInBounds (o + p.2) p.1) m).toList := by
          rw [e]; exact h2.splice hv o
        obtain ⟨m', k1, k2⟩ := fill_rel hf place r l _ _ c hr h2' h3
        refine ⟨m', ?_, k2⟩
        simp only [List.map_cons, Instr.fill, hp]
        rw [if_neg (by simp; omega)]
        exact k1
      · cases h3
    · cases h1

theorem repeatL_rel {ρ : Ren} {z : List Val} {m : List Value} (h : VRels ρ z m) : ∀ n, VRels ρ (repeatL z n) (List.replicate n m).flatten
  | 0 => by simp only [repeatL, List.replicate_zero, List.flatten_nil]; exact .nil
  | n + 1 => by simp only [repeatL, List.replicate_succ, List.flatten_cons]; exact h.append (repeatL_rel h n)

theorem zeroCells_flat (m : Array Value) (n : Nat) : ((Array.range (n * m.size)).map fun i => m[i % m.size]!).toList = (List.replicate n m.toList).flatten := by
  induction n with
  | zero => simp
  | succ n ih =>
    rw [List.replicate_succ', List.flatten_append]
    rw [← ih]
    apply List.ext_getElem?
    intro i
    simp only [Array.getElem?_toList, Array.getElem?_map, List.getElem?_append, Array.length_toList, Array.size_map, Array.size_range, List.flatten_cons, List.flatten_nil, List.append_nil]
    by_cases h : i < n * m.size
    · simp only [h, if_true]
      rw [Array.getElem?_range, Array.getElem?_range, if_pos h, if_pos (by rw [Nat.succ_mul]; omega)]
    · simp only [h, if_false]
      rw [Array.getElem?_range]
      by_cases h2 : i < (n + 1) * m.size
      · rw [if_pos h2]
        rw [Nat.succ_mul] at h2
        have hlt : i - n * m.size < m.size := by omega
        have hm : i % m.size = i - n * m.size := by
          have : i = (i - n * m.size) + n * m.size := by omega
          rw [this, Nat.add_mul_mod_self_right, Nat.mod_eq_of_lt hlt]
          omega
        simp only [Option.map_some, hm]
        rw [getElem!_pos m _ hlt, Array.getElem?_eq_getElem hlt]
      · rw [if_neg h2]
        rw [Nat.succ_mul] at h2
        rw [Array.getElem?_eq_none (by omega)]
        rfl

section
variable {P : Program} {ρ : Ren} {h h' : Heap} {w : World} (hr : HRel ρ h w) {fr : List Val} {a : Act} (hf : FRel ρ fr a)
include hr

theorem s_value {cv : Value} {v : Val} (hv : VRel ρ v cv) : Sound P (pure (.value cv)) ρ h w v h := Sound.pure hr (by simp) hv

theorem s_pick {c x y : Val} {cv xv yv : Value} (hc : VRel ρ c cv) (hx : VRel ρ x xv) (hy : VRel ρ y yv) {b : Bool} (hb : c = .bool b) : Sound P (do pure (.value (if ← asBool cv then xv else yv))) ρ h w (if b then x else y) h := by
  subst hb
  simp only [VRel] at hc; subst hc
  cases b
  · exact Sound.pure hr (by simp [asBool]; rfl) (by simpa using hy)
  · exact Sound.pure hr (by simp [asBool]; rfl) (by simpa using hx)

include hf in
theorem s_build_struct {t : TypeId} {fs : Array Field} (ht : P.underlying t = some (.struct fs)) {z : List Val} (hz : cZero P t = some z) {parts : Array (Nat × Operand)} {ps : List (Nat × Nat × Opd)}
    (hp : cParts (fun i => (fs[i]?).map fun f => (f.offset, P.cellsOf f.type)) parts.toList = some ps) (hfs : fs.toList.all (fun f => (P.info? f.type).isSome) = true) {c : List Val} (hc : V.fill fr z ps = some c) :
    Sound P (do pure (.value (← Instr.build t (parts.map fun (i, x) => (i, a.eval x))))) ρ h w (.agg c) h := by
  obtain ⟨i, v, hi, hzv, hzc, hrun⟩ := cZero_rel (ρ := ρ) hz
  obtain ⟨m', k1, k2⟩ := fill_rel hf _ parts.toList ps z v.cells c hp hzc hc
  have hmap : ∀ (l : List Field), (l.all fun f => (P.info? f.type).isSome) = true → (l.mapM (m := Sem) fun f => do pure (f.offset, ← sizeOf f.type)).run P w = .ok (l.map fun f => (f.offset, P.cellsOf f.type)) w := by
    intro l
    induction l with
    | nil => intro _; simp
    | cons f l ih =>
      intro hl
      simp only [List.all_cons, Bool.and_eq_true] at hl
      obtain ⟨j, hj⟩ := Option.isSome_iff_exists.1 hl.1
      have ih' := ih hl.2
      simp only [bind_pure_comp] at ih' ⊢
      simp [List.mapM_cons, run_sizeOf_of hj, ih']
  have hmapA : (fs.mapM (m := Sem) fun f => do pure (f.offset, ← sizeOf f.type)).run P w = .ok (fs.map fun f => (f.offset, P.cellsOf f.type)) w := by
    have := hmap fs.toList hfs
    rw [Array.mapM_eq_mapM_toList]
    simp only [Sem.run_map, this, Result.andThen_ok]
    congr 1
    exact Array.ext' (by simp)
  refine Sound.pure hr (cv := .agg m') ?_ (by simp only [VRel]; exact ⟨_, rfl, k2⟩)
  simp only [Instr.build, Sem.run_bind, hrun, Result.andThen_ok, run_underlying ht, hmapA]
  have hpl : (fun (i : Nat) => (fs.map fun (f : Field) => (f.offset, P.cellsOf f.type))[i]?) = fun (i : Nat) => (fs[i]?).map fun (f : Field) => (f.offset, P.cellsOf f.type) := by
    funext i; simp
  have hpa : (parts.map fun (x : Nat × Operand) => (x.1, a.eval x.2)).toList = parts.toList.map fun p => (p.1, a.eval p.2) := by simp
  simp only [hpl, hpa, k1]
  simp

include hf in
theorem s_build_array {t : TypeId} {n : Nat} {e : TypeId} (ht : P.underlying t = some (.array n e)) {z : List Val} (hz : cZero P t = some z) {i : TypeInfo} (hi : P.info? e = some i) {parts : Array (Nat × Operand)} {ps : List (Nat × Nat × Opd)}
    (hp : cParts (fun i => some (i * P.cellsOf e, P.cellsOf e)) parts.toList = some ps) {c : List Val} (hc : V.fill fr z ps = some c) :
    Sound P (do pure (.value (← Instr.build t (parts.map fun (i, x) => (i, a.eval x))))) ρ h w (.agg c) h := by
  obtain ⟨j, v, hj, hzv, hzc, hrun⟩ := cZero_rel (ρ := ρ) hz
  obtain ⟨m', k1, k2⟩ := fill_rel hf _ parts.toList ps z v.cells c hp hzc hc
  refine Sound.pure hr (cv := .agg m') ?_ (by simp only [VRel]; exact ⟨_, rfl, k2⟩)
  have hpa : (parts.map fun (x : Nat × Operand) => (x.1, a.eval x.2)).toList = parts.toList.map fun p => (p.1, a.eval p.2) := by simp
  simp only [Instr.build, Sem.run_bind, hrun, Result.andThen_ok, run_underlying ht, run_sizeOf_of hi, hpa, k1]
  simp

include hf in
theorem s_bslice {t : TypeId} {e : TypeId} (ht : P.underlying t = some (.slice e)) {z : List Val} (hz : cZero P e = some z) {len : Nat} (hzl : z.length = P.cellsOf e) (hle : len * z.length ≤ 2 ^ 24) {parts : Array (Nat × Operand)} {ps : List (Nat × Nat × Opd)}
    (hp : cParts (fun i => some (i * P.cellsOf e, P.cellsOf e)) parts.toList = some ps) {c : List Val} (hc : V.fill fr (repeatL z len) ps = some c) :
    Sound P (do pure (.value (← Instr.buildSlice t len (parts.map fun (i, x) => (i, a.eval x))))) ρ h w (.slice h.next 0 len len 0) (h.new (.cells c)).2 := by
  obtain ⟨j, v, hj, hzv, hzc, hrun⟩ := cZero_rel (ρ := ρ) hz
  have hvs : v.cells.size = P.cellsOf e := by have := hzc.length; simp at this; omega
  have hcells : VRels ρ (repeatL z len) ((Array.range (len * P.cellsOf e)).map fun i => v.cells[i % v.cells.size]!).toList := by
    rw [← hvs, zeroCells_flat]; exact repeatL_rel hzc len
  obtain ⟨m', k1, k2⟩ := fill_rel hf _ parts.toList ps _ _ c hp hcells hc
  refine s_new hr k2 (e := e) (pv := .slice (some ⟨w.heap.size, 0, none⟩) len len) ?_ ?_
  · have hpa : (parts.map fun (x : Nat × Operand) => (x.1, a.eval x.2)).toList = parts.toList.map fun p => (p.1, a.eval p.2) := by simp
    have hgt : ¬ (len * P.cellsOf e > 2 ^ 24) := by rw [← hzl]; omega
    have hrow : ∀ (zs : Array Value), (len * P.cellsOf e ≠ 0 → zs = v.cells) → ((Array.range (len * P.cellsOf e)).map fun i => zs[i % zs.size]!) = ((Array.range (len * P.cellsOf e)).map fun i => v.cells[i % v.cells.size]!) := by
      intro zs hzs
      by_cases h0 : len * P.cellsOf e = 0
      · rw [h0]; exact Array.ext' (by simp [Array.toList_range])
      · rw [hzs h0]
    by_cases h0 : len * P.cellsOf e = 0
    · have hk := k1
      rw [← hrow #[] (fun k => absurd h0 k)] at hk
      simp only [List.size_toArray, List.length_nil] at hk
      simp [Instr.buildSlice, run_underlying ht, run_sizeOf_of hj, h0]
      rw [h0] at hk
      simp at hk
      simp [hk, newRow]
    · have hk := k1
      simp only [Instr.buildSlice, Sem.run_bind, run_underlying ht, Result.andThen_ok, run_sizeOf_of hj, if_neg hgt, if_neg h0, hrun, Sem.run_pure, hpa]
      simp only [hk]
      simp [newRow]
  · simp only [VRel]
    exact ⟨_, _, rfl, Nat.le_refl _, Nat.le_refl _, fun _ => rfl, .inr ⟨⟨w.heap.size, 0, m'.toList.length⟩, by simp [Ren.upd], rfl, fun h => absurd rfl h⟩⟩

end
end Go.V
