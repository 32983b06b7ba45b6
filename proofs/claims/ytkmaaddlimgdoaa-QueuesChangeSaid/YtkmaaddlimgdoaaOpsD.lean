/-
  One operation of the abstract machine against the model's: the fourth part: fields, indices, slices, lengths.
-/
import Derived.Test.YtkmaaddlimgdoaaOpsC
set_option linter.unusedVariables false
set_option linter.unusedSimpArgs false
set_option linter.unusedSectionVars false
namespace Go.V

theorem bnd_rel {P : Program} {ρ : Ren} {fr : List Val} {a : Act} (hf : FRel ρ fr a) {x : Operand} {y : Opd} (hx : cOpd x = some y) {n m k : Nat} (hnm : n ≤ m) (e : bnd fr n y = some k) (code : BoundsCode) (w : World) :
    (Instr.sliceBound (a.eval x) m code).run P w = .ok k w ∧ k ≤ n := by
  unfold bnd at e
  have hv := hf.ev hx
  split at e
  · rename_i kk i hi
    rw [hi] at hv
    simp only [VRel] at hv
    split at e
    · rename_i hh
      cases e
      refine ⟨?_, by omega⟩
      simp only [Instr.sliceBound, hv, asIntOf, Sem.run_bind, Sem.run_pure, Result.andThen_ok]
      rw [if_pos ⟨hh.1, by omega⟩]; simp
    · cases e
  · cases e

/-- The bounds of a slice expression: as they are; but without a max, where the capacity is greater, with that. -/
theorem bounds_rel {P : Program} {ρ : Ren} {fr : List Val} {a : Act} (hf : FRel ρ fr a) {lo hi mx : Option Operand} {lo' hi' mx' : Option Opd} (hl : cOpt lo = some lo') (hh : cOpt hi = some hi') (hm : cOpt mx = some mx') {len cap cap' l k m : Nat} (hlc : len ≤ cap) (hcc : cap ≤ cap')
    (e : bounds fr len cap lo' hi' mx' = some (l, k, m)) (sl : Bool) (w : World) :
    ∃ m', (Instr.sliceBounds sl len cap' (lo.map a.eval) (hi.map a.eval) (mx.map a.eval)).run P w = .ok (l, k, m') w ∧ l ≤ k ∧ k ≤ m ∧ m ≤ cap ∧ (mx'.isSome = true → m' = m) ∧ (mx'.isSome = false → m' = cap' ∧ m = cap) := by
  unfold bounds at e
  cases mx with
  | none =>
    simp only [cOpt, Option.some.injEq] at hm; subst hm
    simp only at e
    cases hi with
    | none =>
      simp only [cOpt, Option.some.injEq] at hh; subst hh
      simp only [Option.isSome_none, Bool.false_eq_true, if_false] at e
      cases lo with
      | none =>
        simp only [cOpt, Option.some.injEq] at hl; subst hl
        simp only [Option.some.injEq, Prod.mk.injEq] at e
        obtain ⟨rfl, rfl, rfl⟩ := e
        exact ⟨cap', by simp [Instr.sliceBounds], Nat.zero_le _, hlc, Nat.le_refl _, by simp, by simp⟩
      | some x =>
        simp only [cOpt, Option.map_eq_some_iff] at hl
        obtain ⟨y, hy, rfl⟩ := hl
        simp only at e
        split at e
        · cases e
        · rename_i l' hb
          simp only [Option.some.injEq, Prod.mk.injEq] at e
          obtain ⟨rfl, rfl, rfl⟩ := e
          have := bnd_rel (P := P) hf hy (Nat.le_refl _) hb (.sliceB) w
          exact ⟨cap', by simp [Instr.sliceBounds, this.1], this.2, hlc, Nat.le_refl _, by simp, by simp⟩
    | some z =>
      simp only [cOpt, Option.map_eq_some_iff] at hh
      obtain ⟨y, hy, rfl⟩ := hh
      simp only at e
      split at e
      · cases e
      · rename_i k' hk
        have h1 := fun code => bnd_rel (P := P) hf hy hcc hk code w
        have h1' := (h1 .sliceB).2
        cases lo with
        | none =>
          simp only [cOpt, Option.some.injEq] at hl; subst hl
          simp only [Option.some.injEq, Prod.mk.injEq] at e
          obtain ⟨rfl, rfl, rfl⟩ := e
          exact ⟨cap', by simp [Instr.sliceBounds, (h1 _).1], Nat.zero_le _, h1', Nat.le_refl _, by simp, by simp⟩
        | some x =>
          simp only [cOpt, Option.map_eq_some_iff] at hl
          obtain ⟨y', hy', rfl⟩ := hl
          simp only at e
          split at e
          · cases e
          · rename_i l' hb
            simp only [Option.some.injEq, Prod.mk.injEq] at e
            obtain ⟨rfl, rfl, rfl⟩ := e
            have := bnd_rel (P := P) hf hy' (Nat.le_refl _) hb (.sliceB) w
            exact ⟨cap', by simp [Instr.sliceBounds, (h1 _).1, this.1], this.2, h1', Nat.le_refl _, by simp, by simp⟩
  | some q =>
    simp only [cOpt, Option.map_eq_some_iff] at hm
    obtain ⟨y0, hy0, rfl⟩ := hm
    simp only at e
    split at e
    · cases e
    · rename_i m0 hm0
      have h0 := fun code => bnd_rel (P := P) hf hy0 hcc hm0 code w
      have h0' := (h0 .sliceB).2
      cases hi with
      | none =>
        simp only [cOpt, Option.some.injEq] at hh; subst hh
        simp at e
      | some z =>
        simp only [cOpt, Option.map_eq_some_iff] at hh
        obtain ⟨y, hy, rfl⟩ := hh
        simp only at e
        split at e
        · cases e
        · rename_i k' hk
          have h1 := fun code => bnd_rel (P := P) hf hy (Nat.le_refl _) hk code w
          have h1' := (h1 .sliceB).2
          cases lo with
          | none =>
            simp only [cOpt, Option.some.injEq] at hl; subst hl
            simp only [Option.some.injEq, Prod.mk.injEq] at e
            obtain ⟨rfl, rfl, rfl⟩ := e
            exact ⟨m0, by simp [Instr.sliceBounds, (h0 _).1, (h1 _).1], Nat.zero_le _, h1', h0', by simp, by simp⟩
          | some x =>
            simp only [cOpt, Option.map_eq_some_iff] at hl
            obtain ⟨y', hy', rfl⟩ := hl
            simp only at e
            split at e
            · cases e
            · rename_i l' hb
              simp only [Option.some.injEq, Prod.mk.injEq] at e
              obtain ⟨rfl, rfl, rfl⟩ := e
              have := bnd_rel (P := P) hf hy' (Nat.le_refl _) hb (.slice3C) w
              exact ⟨m0, by simp [Instr.sliceBounds, (h0 _).1, (h1 _).1, this.1], this.2, h1', h0', by simp, by simp⟩

section
variable {P : Program} {ρ : Ren} {h h' : Heap} {w : World} (hr : HRel ρ h w) {fr : List Val} {a : Act} (hf : FRel ρ fr a)
include hr

include hf in
theorem s_sliceStr {t : TypeId} (ht : P.underlying t = some .string) {x : Val} {xv : Value} (hx : VRel ρ x xv) {s : List UInt8} (e : x = .str s) {lo hi : Option Operand} {lo' hi' : Option Opd} (hl : cOpt lo = some lo') (hh : cOpt hi = some hi')
    {l k m : Nat} (hb : bounds fr s.length s.length lo' hi' none = some (l, k, m)) : Sound P (do pure (.value (← Instr.sliceAt t xv (lo.map a.eval) (hi.map a.eval) none))) ρ h w (.str ((s.take k).drop l)) h := by
  subst e; simp only [VRel] at hx; subst hx
  obtain ⟨m', hrun, h1, h2, _⟩ := bounds_rel (P := P) hf hl hh (mx := none) (by simp [cOpt]) (Nat.le_refl _) (Nat.le_refl _) hb false w
  simp only [Option.map_none] at hrun
  have hs : (ByteArray.mk ⟨s⟩).size = s.length := rfl
  refine Sound.pure hr (cv := .string ⟨⟨(s.take k).drop l⟩⟩) ?_ (by simp only [VRel])
  simp only [Instr.sliceAt, Instr.slice, Sem.run_bind, run_underlying ht, Result.andThen_ok, hs]
  simp [hrun]
  apply ByteArray.ext
  apply Array.ext'
  simp [ByteArray.data_extract, List.extract_eq_take_drop, List.drop_take]

include hf in
theorem s_slice {t e : TypeId} (ht : P.underlying t = some (.slice e)) {i : TypeInfo} (hi : P.info? e = some i) {x v : Val} {xv : Value} (hx : VRel ρ x xv) {lo hg mx : Option Operand} {lo' hg' mx' : Option Opd} (hl : cOpt lo = some lo') (hh : cOpt hg = some hg') (hm : cOpt mx = some mx')
    (hv : sliceVal fr (P.cellsOf e) x lo' hg' mx' = some v) :
    Sound P (do pure (.value (← Instr.sliceAt t xv (lo.map a.eval) (hg.map a.eval) (mx.map a.eval)))) ρ h w v h := by
  unfold sliceVal at hv
  cases x
  case nils =>
    simp only [VRel] at hx; subst hx
    simp only at hv
    split at hv
    · rename_i r hb
      cases hv
      obtain ⟨l, k, m⟩ := r
      obtain ⟨m', hrun, h1, h2, h3, h4, h5⟩ := bounds_rel (P := P) hf hl hh hm (Nat.le_refl _) (Nat.le_refl _) hb true w
      have hm0 : m' = 0 := by
        cases hms : mx'.isSome
        · exact (h5 hms).1
        · rw [h4 hms]; omega
      have hl0 : l = 0 := by omega
      have hk0 : k = 0 := by omega
      subst hm0 hl0 hk0
      refine Sound.pure hr (cv := .slice none 0 0) ?_ (by simp only [VRel])
      simp only [Instr.sliceAt, Instr.slice, Sem.run_bind, run_underlying ht, Result.andThen_ok, hrun, run_sizeOf_of hi]
      simp
    · cases hv
  case slice b o len cap ls =>
    simp only [VRel] at hx
    obtain ⟨ad, cap', rfl, c1, c2, c3, c4⟩ := hx
    simp only at hv
    split at hv
    · rename_i hls
      split at hv
      · rename_i l k m hb
        cases hv
        obtain ⟨m', hrun, h1, h2, h3, h4, h5⟩ := bounds_rel (P := P) hf hl hh hm c1 c2 hb true w
        have hmm : m ≤ m' ∧ m' ≤ cap' := by
          cases hms : mx'.isSome
          · have := h5 hms; omega
          · have := h4 hms; omega
        refine Sound.pure hr (cv := .slice (if m' = l then some ad else some (ad.add (l * P.cellsOf e))) (k - l) (m' - l)) ?_ ?_
        · simp only [Instr.sliceAt, Instr.slice, Sem.run_bind, run_underlying ht, Result.andThen_ok, hrun, run_sizeOf_of hi]
          simp
        · simp only [VRel]
          refine ⟨if m' = l then ad else ad.add (l * P.cellsOf e), m' - l, by split <;> rfl, by omega, by omega, ?_, ?_⟩
          · intro hz
            cases hms : mx'.isSome
            · have h6 := h5 hms
              rw [hms] at hz
              simp only [Bool.false_eq_true, if_false] at hz
              have := c3 hz; omega
            · rw [h4 hms]
          · by_cases hml : m' = l
            · left; omega
            · right
              rcases c4 with c4 | ⟨L, hL, ha, hloose⟩
              · omega
              · refine ⟨L, hL, ?_, ?_⟩
                · rw [if_neg hml, ha, Addr.add_none, Nat.add_assoc]
                · intro hz
                  cases hms : mx'.isSome
                  · rw [hms] at hz
                    simp only [Bool.false_eq_true, if_false] at hz ⊢
                    have h6 := h5 hms
                    have h7 := hloose hz
                    have h8 : ls = P.cellsOf e := hls.resolve_left hz
                    rw [← h8]
                    have h9 : (m' - l) * ls + l * ls = cap' * ls := by rw [← Nat.add_mul, h6.1]; congr 1; omega
                    omega
                  · rw [hms] at hz; simp at hz
      · cases hv
    · cases hv
  all_goals (simp at hv)

include hf in
theorem s_sliceArr {t e : TypeId} {n : Nat} (ht : P.underlying t = some (.array n e)) {i : TypeInfo} (hi : P.info? e = some i) {b o : Nat} {xv : Value} (hx : VRel ρ (.ptr b o) xv) {lo hg mx : Option Operand} {lo' hg' mx' : Option Opd} (hl : cOpt lo = some lo') (hh : cOpt hg = some hg') (hm : cOpt mx = some mx')
    {l k m : Nat} (hb : bounds fr n n lo' hg' mx' = some (l, k, m)) :
    Sound P (do pure (.value (← Instr.sliceAt t xv (lo.map a.eval) (hg.map a.eval) (mx.map a.eval)))) ρ h w (.slice b (o + l * P.cellsOf e) (k - l) (m - l) 0) h := by
  simp only [VRel] at hx
  obtain ⟨L, hL, rfl⟩ := hx
  obtain ⟨m', hrun, h1, h2, h3, h4, h5⟩ := bounds_rel (P := P) hf hl hh hm (Nat.le_refl _) (Nat.le_refl _) hb false w
  have hmm : m' = m := by
    cases hms : mx'.isSome
    · have := h5 hms; omega
    · exact h4 hms
  subst hmm
  refine Sound.pure hr (cv := .slice (some (if m' = l then ⟨L.c, L.s + o, none⟩ else (⟨L.c, L.s + o, none⟩ : Addr).add (l * P.cellsOf e))) (k - l) (m' - l)) ?_ ?_
  · simp only [Instr.sliceAt, Sem.run_bind, run_underlying ht, Result.andThen_ok, Instr.sureAddr, Sem.run_pure, hrun, run_sizeOf_of hi]
  · simp only [VRel]
    refine ⟨_, _, rfl, by omega, Nat.le_refl _, fun _ => rfl, ?_⟩
    by_cases hml : m' = l
    · left; omega
    · right
      exact ⟨L, hL, by rw [if_neg hml, Addr.add_none, Nat.add_assoc], fun hz => absurd rfl hz⟩

theorem s_field {t : TypeId} {fs : Array Field} (ht : P.underlying t = some (.struct fs)) {j : Nat} {f : Field} (hj : fs[j]? = some f) {d : TypeDesc} (hd : P.underlying f.type = some d) {l : List Val} {xv : Value} (hx : VRel ρ (.agg l) xv) {v : Val}
    (hv : (aggType P f.type = true ∧ v = .agg ((l.drop f.offset).take (P.cellsOf f.type))) ∨ (aggType P f.type = false ∧ l[f.offset]? = some v)) :
    Sound P (do pure (.value (← Instr.field t xv j))) ρ h w v h := by
  simp only [VRel] at hx
  obtain ⟨arr, rfl, hl⟩ := hx
  obtain ⟨i, hi⟩ := info_of_underlying hd
  rcases hv with ⟨ha, rfl⟩ | ⟨ha, hv⟩
  · refine Sound.pure hr (cv := .agg (arr.extract f.offset (f.offset + P.cellsOf f.type))) ?_ ?_
    · simp only [Instr.field, Sem.run_bind, run_underlying ht, Result.andThen_ok, hj, asAgg, Sem.run_pure, part, run_isAgg_of hd, ha, if_true, run_sizeOf_of hi]
    · simp only [VRel]
      refine ⟨_, rfl, ?_⟩
      have := (hl.drop f.offset).take (P.cellsOf f.type)
      simpa [Array.toList_extract, List.extract_eq_take_drop, List.drop_take] using this
  · obtain ⟨y, hy, r⟩ := hl.get _ _ hv
    rw [Array.getElem?_toList] at hy
    refine Sound.pure hr (cv := y) ?_ r
    simp only [Instr.field, Sem.run_bind, run_underlying ht, Result.andThen_ok, hj, asAgg, Sem.run_pure, part, run_isAgg_of hd, ha, Bool.false_eq_true, if_false, hy]

theorem s_iaddr {t e : TypeId} (ht : P.underlying t = some (.slice e)) {i : TypeInfo} (hi : P.info? e = some i) {b o len cap ls : Nat} {xv iv : Value} (hx : VRel ρ (.slice b o len cap ls) xv) {k : IntKind} {n : Int} (hn : VRel ρ (.int k n) iv) (h0 : 0 ≤ n ∧ n < len) :
    Sound P (do pure (.value (← Instr.indexAt t xv iv))) ρ h w (.ptr b (o + n.toNat * P.cellsOf e)) h := by
  simp only [VRel] at hx hn
  obtain ⟨ad, cap', rfl, c1, c2, c3, c4⟩ := hx
  subst hn
  rcases c4 with c4 | ⟨L, hL, ha, _⟩
  · omega
  · refine Sound.pure hr (cv := .pointer (some ⟨L.c, L.s + (o + n.toNat * P.cellsOf e), none⟩)) ?_ (by simp only [VRel]; exact ⟨L, hL, rfl⟩)
    simp [Instr.indexAt, asIntOf, run_underlying ht, h0, run_sizeOf_of hi, ha, Addr.add_none, Nat.add_assoc]

theorem s_iaddrArr {t e : TypeId} {len : Nat} (ht : P.underlying t = some (.array len e)) {i : TypeInfo} (hi : P.info? e = some i) {b o : Nat} {xv iv : Value} (hx : VRel ρ (.ptr b o) xv) {k : IntKind} {n : Int} (hn : VRel ρ (.int k n) iv) (h0 : 0 ≤ n ∧ n < len) :
    Sound P (do pure (.value (← Instr.indexAt t xv iv))) ρ h w (.ptr b (o + n.toNat * P.cellsOf e)) h := by
  simp only [VRel] at hx hn
  obtain ⟨L, hL, rfl⟩ := hx
  subst hn
  refine Sound.pure hr (cv := .pointer (some ⟨L.c, L.s + (o + n.toNat * P.cellsOf e), none⟩)) ?_ (by simp only [VRel]; exact ⟨L, hL, rfl⟩)
  simp [Instr.indexAt, Instr.sureAddr, asIntOf, run_underlying ht, h0, run_sizeOf_of hi, Addr.add_none, Nat.add_assoc]

theorem s_index {t : TypeId} (ht : P.underlying t = some .string) {s : List UInt8} {xv iv : Value} (hx : VRel ρ (.str s) xv) {k : IntKind} {n : Int} (hn : VRel ρ (.int k n) iv) (h0 : 0 ≤ n) {c : UInt8} (hc : s[n.toNat]? = some c) :
    Sound P (do pure (.value (← Instr.index t xv iv))) ρ h w (toByte c) h := by
  simp only [VRel] at hx hn
  subst hx hn
  refine Sound.pure hr (cv := .int .u8 c.toNat) ?_ (by simp only [toByte, VRel])
  have hlt : n.toNat < s.length := (List.getElem?_eq_some_iff.1 hc).1
  have hg : (ByteArray.mk ⟨s⟩)[n.toNat]? = some c := by
    rw [getElem?_pos (ByteArray.mk ⟨s⟩) n.toNat hlt]
    congr 1
    exact (List.getElem?_eq_some_iff.1 hc).2
  simp [Instr.index, asIntOf, run_underlying ht, h0, hg]

theorem s_indexArr {t e : TypeId} {len : Nat} (ht : P.underlying t = some (.array len e)) {d : TypeDesc} (hd : P.underlying e = some d) {l : List Val} {xv iv : Value} (hx : VRel ρ (.agg l) xv) {k : IntKind} {n : Int} (hn : VRel ρ (.int k n) iv) (h0 : 0 ≤ n ∧ n < len ∧ n.toNat * P.cellsOf e + P.cellsOf e ≤ l.length) {v : Val}
    (hv : (aggType P e = true ∧ v = .agg ((l.drop (n.toNat * P.cellsOf e)).take (P.cellsOf e))) ∨ (aggType P e = false ∧ l[n.toNat * P.cellsOf e]? = some v)) :
    Sound P (do pure (.value (← Instr.index t xv iv))) ρ h w v h := by
  simp only [VRel] at hx hn
  obtain ⟨arr, rfl, hl⟩ := hx
  subst hn
  obtain ⟨i, hi⟩ := info_of_underlying hd
  rcases hv with ⟨ha, rfl⟩ | ⟨ha, hv⟩
  · refine Sound.pure hr (cv := .agg (arr.extract (n.toNat * P.cellsOf e) (n.toNat * P.cellsOf e + P.cellsOf e))) ?_ ?_
    · simp [Instr.index, asIntOf, run_underlying ht, h0.1, h0.2.1, run_sizeOf_of hi, part, run_isAgg_of hd, ha]
    · simp only [VRel]
      refine ⟨_, rfl, ?_⟩
      have := (hl.drop (n.toNat * P.cellsOf e)).take (P.cellsOf e)
      simpa [Array.toList_extract, List.extract_eq_take_drop, List.drop_take] using this
  · obtain ⟨y, hy, r⟩ := hl.get _ _ hv
    rw [Array.getElem?_toList] at hy
    exact Sound.pure hr (cv := y) (by simp [Instr.index, asIntOf, run_underlying ht, h0.1, h0.2.1, run_sizeOf_of hi, part, run_isAgg_of hd, ha, hy]) r

end
end Go.V
