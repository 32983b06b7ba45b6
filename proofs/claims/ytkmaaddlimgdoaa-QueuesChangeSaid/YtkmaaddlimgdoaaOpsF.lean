/-
  One operation of the abstract machine against the model's: the sixth part: make, len, cap, copy, clear, min and max, comparisons.
-/
import Derived.Test.YtkmaaddlimgdoaaOpsE
set_option linter.unusedVariables false
set_option linter.unusedSimpArgs false
set_option linter.unusedSectionVars false
namespace Go.V

theorem rel_int {ρ : Ren} {k : IntKind} {n : Int} : VRel ρ (.int k n) (.int k n) := by simp only [VRel]

theorem minmaxL_rel {P : Program} {ρ : Ren} {w : World} (isMax : Bool) : ∀ (l : List Val) (m : List Value) (x v : Val) (xv : Value), VRel ρ x xv → VRels ρ l m → minmaxL isMax x l = some v →
    ∃ cv, (m.foldlM (m := Sem) (if isMax then Builtin.max2 else Builtin.min2) xv).run P w = .ok cv w ∧ VRel ρ v cv := by
  intro l
  induction l with
  | nil => intro m x v xv hx hm e; simp only [VRels] at hm; subst hm; cases x <;> simp only [minmaxL, Option.some.injEq] at e <;> subst e <;> exact ⟨xv, by simp, hx⟩
  | cons y l ih =>
    intro m x v xv hx hm e
    simp only [VRels] at hm
    obtain ⟨yv, m', rfl, hy, hm'⟩ := hm
    cases x <;> cases y <;> simp only [minmaxL] at e <;> (try (cases e; done))
    simp only [VRel] at hx hy; subst hx hy
    have := ih m' _ v _ rel_int hm' e
    obtain ⟨cv, h1, h2⟩ := this
    refine ⟨cv, ?_, h2⟩
    cases isMax <;> simp [Builtin.max2, Builtin.min2] at h1 ⊢ <;> exact h1

section
variable {P : Program} {ρ : Ren} {h h' : Heap} {w : World} (hr : HRel ρ h w) {fr : List Val} {a : Act} (hf : FRel ρ fr a)
include hr

theorem s_mkslice {t e : TypeId} (ht : P.underlying t = some (.slice e)) {z : List Val} (hz : cZero P e = some z) (hzl : P.cellsOf e = z.length) {lv cv : Value} {k k' : IntKind} {l c : Int} (hl : VRel ρ (.int k l) lv) (hc : VRel ρ (.int k' c) cv)
    (hb : 0 ≤ l ∧ l ≤ c ∧ c ≤ maxBytes ∧ c.toNat * P.bytesOf e ≤ maxBytes) :
    Sound P (do pure (.value (← Instr.makeSlice t lv cv))) ρ h w (.slice h.next 0 l.toNat c.toNat 0) (h.new (.cells (repeatL z c.toNat))).2 := by
  simp only [VRel] at hl hc; subst hl hc
  obtain ⟨i, v, hi, hzv, hzc, hrun⟩ := cZero_rel (ρ := ρ) hz
  obtain ⟨h1, h2, h3, h4⟩ := hb
  have hmb : maxBytes = 2 ^ 46 := rfl
  obtain ⟨C, rfl⟩ := Int.eq_ofNat_of_zero_le (show 0 ≤ c by omega)
  obtain ⟨L, rfl⟩ := Int.eq_ofNat_of_zero_le h1
  simp only [Int.toNat_natCast] at *
  have hwc := wrap_small (n := (C : Int)) (by omega) (by omega)
  have hwl := wrap_small (n := (L : Int)) (by omega) (by omega)
  have hbz : i.bytes = P.bytesOf e := by simp [Program.bytesOf, hi]
  have hvs : v.cells.size = P.cellsOf e := by have := hzc.length; simp at this; omega
  have hbig : ¬ (281474976710656 < (i.bytes : Int) * (C : Int)) := by
    rw [hbz]
    have : (P.bytesOf e : Int) * (C : Int) = ((C * P.bytesOf e : Nat) : Int) := by rw [Nat.mul_comm]; simp
    rw [this]; omega
  have hc0 : ¬ ((C : Int) < 0) := by omega
  have hl0 : ¬ ((L : Int) < 0) := by omega
  have hlc : ¬ (C < L) := by omega
  have hcells : VRels ρ (repeatL z C) ((Array.range (C * P.cellsOf e)).map fun i => v.cells[i % v.cells.size]!).toList := by
    rw [← hvs, zeroCells_flat]; exact repeatL_rel hzc C
  refine s_new hr hcells (e := e) (pv := .slice (some ⟨w.heap.size, 0, none⟩) L C) ?_ ?_
  · by_cases h0 : C * P.cellsOf e = 0
    · simp [Instr.makeSlice, run_underlying ht, asInt, asIntOf, run_typeInfo_of hi, hwc, hwl, hc0, hl0, hlc, hbig, run_sizeOf_of hi, h0, newRow]
      congr 2
      exact Array.ext' (by simp)
    · simp [Instr.makeSlice, run_underlying ht, asInt, asIntOf, run_typeInfo_of hi, hwc, hwl, hc0, hl0, hlc, hbig, run_sizeOf_of hi, h0, hrun, newRow]
      congr 2
      exact Array.ext' (by simp)
  · simp only [VRel]
    exact ⟨_, _, rfl, by omega, Nat.le_refl _, fun _ => rfl, .inr ⟨⟨w.heap.size, 0, _⟩, by simp only [Ren.upd, if_true]; rfl, rfl, fun hz => absurd rfl hz⟩⟩

theorem s_len_slice {t e : TypeId} (ht : P.underlying t = some (.slice e)) {x : Val} {xv : Value} (hx : VRel ρ x xv) {n : Nat} (e : lenVal x = some n) (hs : ∀ s, x ≠ .str s) (ty : TypeId) : Sound P (do pure (.value (← Builtin.len_ #[t] ty #[xv]))) ρ h w (.int .i64 n) h := by
  cases x <;> simp only [lenVal] at e <;> (try (cases e; done)) <;> simp only [VRel] at hx <;> simp only [Option.some.injEq] at e <;> subst e
  · exact absurd rfl (hs _)
  · subst hx; exact Sound.pure hr (by simp [Builtin.len_, run_underlying ht]; rfl) (by simp only [VRel]; rfl)
  · obtain ⟨_, _, rfl, _⟩ := hx; exact Sound.pure hr (by simp [Builtin.len_, run_underlying ht]; rfl) (by simp only [VRel]; rfl)

theorem s_len_str {t : TypeId} (ht : P.underlying t = some .string) {s : List UInt8} {xv : Value} (hx : VRel ρ (.str s) xv) (ty : TypeId) : Sound P (do pure (.value (← Builtin.len_ #[t] ty #[xv]))) ρ h w (.int .i64 s.length) h := by
  simp only [VRel] at hx; subst hx
  exact Sound.pure hr (by simp [Builtin.len_, run_underlying ht]; rfl) (by simp only [VRel]; rfl)

theorem s_len_map {t k e : TypeId} (ht : P.underlying t = some (.map k e)) {b : Nat} {es : List (Val × Val)} (hg : h.get b = some (.map es)) {xv : Value} (hx : VRel ρ (.map b) xv) (ty : TypeId) : Sound P (do pure (.value (← Builtin.len_ #[t] ty #[xv]))) ρ h w (.int .i64 es.length) h := by
  simp only [VRel] at hx
  obtain ⟨l, hl, rfl⟩ := hx
  obtain ⟨l', hl', ent, clock, h1, h2, h3⟩ := hr.blk b _ hg
  rw [hl] at hl'; cases hl'
  have hlen : ent.size = es.length := by have := h2.length; simpa using this
  refine Sound.pure hr (cv := .int .i64 ent.size) ?_ (by simp only [VRel]; rw [hlen])
  simp [Builtin.len_, run_underlying ht, getObj, Sem.run, h1, goInt]

theorem s_len_nilmap {t k e : TypeId} (ht : P.underlying t = some (.map k e)) {xv : Value} (hx : VRel ρ .nilm xv) (ty : TypeId) : Sound P (do pure (.value (← Builtin.len_ #[t] ty #[xv]))) ρ h w (.int .i64 0) h := by
  simp only [VRel] at hx; subst hx
  exact Sound.pure hr (by simp [Builtin.len_, run_underlying ht]; rfl) (by simp only [VRel]; rfl)

theorem s_len_array {t e : TypeId} {n : Nat} (ht : P.underlying t = some (.array n e)) (xv : Value) (ty : TypeId) : Sound P (do pure (.value (← Builtin.len_ #[t] ty #[xv]))) ρ h w (.int .i64 n) h :=
  Sound.pure hr (by simp [Builtin.len_, run_underlying ht]; rfl) (by simp only [VRel]; rfl)

theorem s_len_ptr {t p e : TypeId} {n : Nat} (ht : P.underlying t = some (.pointer p)) (hp : P.underlying p = some (.array n e)) (xv : Value) (ty : TypeId) : Sound P (do pure (.value (← Builtin.len_ #[t] ty #[xv]))) ρ h w (.int .i64 n) h :=
  Sound.pure hr (by simp [Builtin.len_, run_underlying ht, run_underlying hp]; rfl) (by simp only [VRel]; rfl)

theorem s_cap {t e : TypeId} (ht : P.underlying t = some (.slice e)) {x : Val} {xv : Value} (hx : VRel ρ x xv) {n : Nat} (e : x = .nils ∧ n = 0 ∨ ∃ b o l, x = .slice b o l n 0) (ty : TypeId) : Sound P (do pure (.value (← Builtin.cap_ #[t] ty #[xv]))) ρ h w (.int .i64 n) h := by
  rcases e with ⟨rfl, rfl⟩ | ⟨b, o, l, rfl⟩ <;> simp only [VRel] at hx
  · subst hx; exact Sound.pure hr (by simp [Builtin.cap_, run_underlying ht]; rfl) (by simp only [VRel]; rfl)
  · obtain ⟨ad, cap', rfl, _, _, c3, _⟩ := hx
    have := c3 trivial; subst this
    exact Sound.pure hr (by simp [Builtin.cap_, run_underlying ht]; rfl) (by simp only [VRel]; rfl)

theorem s_cap_array {t e : TypeId} {n : Nat} (ht : P.underlying t = some (.array n e)) (xv : Value) (ty : TypeId) : Sound P (do pure (.value (← Builtin.cap_ #[t] ty #[xv]))) ρ h w (.int .i64 n) h :=
  Sound.pure hr (by simp [Builtin.cap_, run_underlying ht]; rfl) (by simp only [VRel]; rfl)

theorem s_copy_nil {t u e : TypeId} (ht : P.underlying t = some (.slice e)) {i : TypeInfo} (hi : P.info? e = some i) {y : Val} {yv xv : Value} (hx : VRel ρ .nils xv) (hy : VRel ρ y yv) {m : Nat} (hm : lenVal y = some m) (ty : TypeId) :
    Sound P (do pure (.value (← Builtin.copy_ #[t, u] ty #[xv, yv]))) ρ h w (.int .i64 0) h := by
  simp only [VRel] at hx; subst hx
  have h0 : firstCells h (P.cellsOf e) 0 y = some [] ∨ ∃ s, y = .str s := by
    cases y <;> simp_all [lenVal, firstCells]
  have hc : (Builtin.firstCells (P.cellsOf e) 0 yv).run P w = .ok #[] w := by
    cases y <;> simp only [lenVal] at hm <;> (try (cases hm; done)) <;> simp only [VRel] at hy
    · subst hy; simp [Builtin.firstCells]
    · subst hy; simp [Builtin.firstCells]
    · obtain ⟨_, _, rfl, _⟩ := hy; simp [Builtin.firstCells, loadCells, loadCellsFrom]
  exact Sound.pure hr (by simp [Builtin.copy_, run_underlying ht, lenOf_rel hy hm, run_sizeOf_of hi, hc]; rfl) (by simp only [VRel]; rfl)

theorem s_copy {t u e : TypeId} (ht : P.underlying t = some (.slice e)) {i : TypeInfo} (hi : P.info? e = some i) {b o len cap ls : Nat} {y : Val} {yv xv : Value} (hx : VRel ρ (.slice b o len cap ls) xv) (hy : VRel ρ y yv) {m : Nat} (hm : lenVal y = some m) {c : List Val} (hc : firstCells h (P.cellsOf e) (min m len) y = some c)
    (hst : (min m len * P.cellsOf e = 0 ∧ h' = h) ∨ (min m len * P.cellsOf e ≠ 0 ∧ h.store b o c = some h')) (ty : TypeId) :
    Sound P (do pure (.value (← Builtin.copy_ #[t, u] ty #[xv, yv]))) ρ h w (.int .i64 ((min m len : Nat) : Int)) h' := by
  simp only [VRel] at hx
  obtain ⟨ad, cap', rfl, c1, c2, c3, c4⟩ := hx
  obtain ⟨ml, hml, hlen, hrun⟩ := firstCells_rel (P := P) hr hy hc
  have hmin : Nat.min m len = min m len := rfl
  have hrun' := hrun w rfl
  rcases hst with ⟨h0, rfl⟩ | ⟨h0, hst⟩
  · have hnil : ml = [] := List.length_eq_zero_iff.1 (by rw [hlen, h0])
    subst hnil
    refine Sound.pure hr (cv := .int .i64 ((min m len : Nat) : Int)) ?_ (by simp only [VRel])
    simp [Builtin.copy_, run_underlying ht, lenOf_rel hy hm, run_sizeOf_of hi, hmin, hrun', storeCells, goInt]
  · rcases c4 with c4 | ⟨L, hL, had, hloose⟩
    · have : len = 0 := by omega
      subst this; simp at h0
    · obtain ⟨w', hrunst, hpost⟩ := hr.store (P := P) hst hL hml
      rw [← had] at hrunst
      refine sound_of (cv := .int .i64 ((min m len : Nat) : Int)) ?_ hpost (by simp only [VRel])
      simp [Builtin.copy_, run_underlying ht, lenOf_rel hy hm, run_sizeOf_of hi, hmin, hrun', hrunst, goInt]

theorem s_clear_nil {t e : TypeId} (ht : P.underlying t = some (.slice e)) {xv : Value} (hx : VRel ρ .nils xv) (ty : TypeId) : Sound P (do pure (.value (← Builtin.clear_ #[t] ty #[xv]))) ρ h w (.tup []) h := by
  simp only [VRel] at hx; subst hx
  exact Sound.pure hr (cv := .tuple #[]) (by simp [Builtin.clear_, run_underlying ht]) (by simp only [VRel]; exact ⟨_, rfl, .nil⟩)

theorem s_clear {t e : TypeId} (ht : P.underlying t = some (.slice e)) {z : List Val} (hz : cZero P e = some z) {b o len cap ls : Nat} {xv : Value} (hx : VRel ρ (.slice b o len cap ls) xv)
    (hst : (len * z.length = 0 ∧ h' = h) ∨ (len * z.length ≠ 0 ∧ h.store b o (repeatL z len) = some h')) (ty : TypeId) : Sound P (do pure (.value (← Builtin.clear_ #[t] ty #[xv]))) ρ h w (.tup []) h' := by
  simp only [VRel] at hx
  obtain ⟨ad, cap', rfl, c1, c2, c3, c4⟩ := hx
  obtain ⟨i, v, hi, hzv, hzc, hrun⟩ := cZero_rel (ρ := ρ) hz
  have hzs : v.cells.size = z.length := by have := hzc.length; simpa using this
  have hcells := repeatL_rel hzc len
  have hflat : (Builtin.zeroCells v.cells len).toList = (List.replicate len v.cells.toList).flatten := by
    have := zeroCells_flat v.cells len
    simpa [Builtin.zeroCells] using this
  by_cases hl0 : len = 0
  · subst hl0
    rcases hst with ⟨_, rfl⟩ | ⟨h0, _⟩
    · exact Sound.pure hr (cv := .tuple #[]) (by simp [Builtin.clear_, run_underlying ht]) (by simp only [VRel]; exact ⟨_, rfl, .nil⟩)
    · simp at h0
  · rcases hst with ⟨h0, rfl⟩ | ⟨h0, hst⟩
    · have hnil : (List.replicate len v.cells.toList).flatten = [] := List.length_eq_zero_iff.1 (by simp [hzs, h0])
      rw [hnil] at hflat
      refine Sound.pure hr (cv := .tuple #[]) ?_ (by simp only [VRel]; exact ⟨_, rfl, .nil⟩)
      simp [Builtin.clear_, run_underlying ht, hrun, hflat, storeCells]
    · rcases c4 with c4 | ⟨L, hL, had, hloose⟩
      · omega
      · obtain ⟨w', hrunst, hpost⟩ := hr.store (P := P) hst hL hcells
        rw [← had, ← hflat] at hrunst
        refine sound_of (cv := .tuple #[]) ?_ hpost (by simp only [VRel]; exact ⟨_, rfl, .nil⟩)
        simp [Builtin.clear_, run_underlying ht, hrun, hrunst]

theorem s_minmax {isMax : Bool} {x v : Val} {l : List Val} {xv : Value} {m : List Value} (hx : VRel ρ x xv) (hm : VRels ρ l m) (e : minmaxL isMax x l = some v) (tys : Array TypeId) (ty : TypeId) :
    Sound P (do pure (.value (← if isMax then Builtin.max_ tys ty (xv :: m).toArray else Builtin.min_ tys ty (xv :: m).toArray))) ρ h w v h := by
  obtain ⟨cv, h1, h2⟩ := minmaxL_rel (P := P) (w := w) isMax l m x v xv hx hm e
  refine Sound.pure hr (cv := cv) ?_ h2
  cases isMax <;> simp [Builtin.max_, Builtin.min_] at h1 ⊢ <;> simp [h1]

end
end Go.V
