/-
  A region that draws its order: start, all orders, end.
-/
import Derived.Test.YtkmaaddlimgdoaaDrawB
set_option linter.unusedVariables false
set_option linter.unusedSimpArgs false
set_option linter.unusedSectionVars false
namespace Go.V

section
variable {P : Program} {meth : TypeId → Val → String → Option (FuncId × Val)} {call : CallT} {ops : Array Oper} {vl : List VOper} {F : Nat → List Val} {H : Nat → Heap}
  (C : Ctx P meth call ops vl F H) {ρ0 : Ren} {w0 : World} {a0 : Act}
include C

/-- When all have run. -/
theorem inv_end (hr0 : HRel ρ0 (H 0) w0) {In : Nat → Prop} (hall : ∀ k, k < ops.size → In k) {a : Act} {w : World} {ρ : Ren} {T M : Nat → Nat} (I : Inv ops vl F H ρ0 w0 a0 In a w ρ T M) :
    Post ρ0 (H 0) w0 ρ (H ops.size) w ∧ FRel ρ (F ops.size) a := by
  have hx := C.ext (Nat.zero_le ops.size) (Nat.le_refl _)
  have hlen : ∀ {j wo}, vl[j]? = some wo → j < ops.size := by
    intro j wo h
    have := (List.getElem?_eq_some_iff.1 h).1
    rw [← C.len]; exact this
  have pres : ∀ b x, (H ops.size).get b = some x → Pres H In b := by
    intro b x hg
    have ht := Heap.get_t hg
    have hb : b < (H ops.size).next := by
      rcases Nat.lt_or_ge b (H ops.size).next with h | h
      · exact h
      · rw [C.lowi (Nat.le_refl _) b h] at ht; cases ht
    rcases Nat.lt_or_ge b (H 0).next with h0 | h0
    · exact .inl h0
    · obtain ⟨j, wo, h1, h2, h3, h4, h5⟩ := C.maker (Nat.le_refl ops.size) h0 hb
      exact .inr ⟨j, hall j h1, h4, h5⟩
  have back : ∀ b x, (H ops.size).get b = some x → (H (M b)).get b = some x := by
    intro b x hg
    obtain ⟨m1, m2, m3, m4, m5⟩ := I.blk b (pres b x hg)
    have hst := C.hstable m1 (Nat.le_refl _) m2 fun j wo h1 h2 hwo => m4 j wo h1 (hall j h2) hwo
    have hh : (H (M b)).hidden b = false := by
      have e1 := (C.ext (Nat.zero_le (M b)) m1).hid
      have := Heap.get_nh hg
      unfold Heap.hidden at this ⊢
      rw [e1, ← hx.hid]; exact this
    unfold Heap.get
    rw [hh, ← hst, Heap.get_t hg]; rfl
  have top : ∀ b, (H ops.size).next ≤ b → ρ b = none := by
    intro b hb
    cases e : ρ b with
    | none => rfl
    | some l =>
      rcases I.pres b l e with h | ⟨j, hj, h1, h2⟩
      · have := hx.next; omega
      · have := (C.ext (show j + 1 ≤ ops.size from I.lt j hj) (Nat.le_refl _)).next; omega
  refine ⟨⟨I.ext, ⟨?_, ?_, top, ?_, ?_⟩, hx.hid, hx.floor, hx.base, hx.next, ?_, I.os, I.tape, I.output, I.size, I.frame, I.fresh, ?_⟩, ?_⟩
  · intro b x hg
    obtain ⟨l, h1, h2⟩ := (I.blk b (pres b x hg)).2.2.2.2 x (back b x hg)
    exact ⟨l, h1, h2.mono (Ren.cut_le _ _) rfl⟩
  · intro b b' x x' l l' hg hg' r r' hc
    rw [hx.base]
    exact I.inj b b' x x' l l' (pres b x hg) (pres b' x' hg') (back b x hg) (back b' x' hg') r r' hc
  · intro b x hg
    rcases Nat.lt_or_ge b (H ops.size).next with h | h
    · exact h
    · rw [C.lowi (Nat.le_refl _) b h] at hg; cases hg
  · rw [hx.base, hx.floor]; exact ⟨hr0.bs.1, Nat.le_trans hr0.bs.2 hx.next⟩
  · intro b hb hs
    cases hg : (H ops.size).get b with
    | none => rw [hg] at hs; cases hs
    | some x =>
      have h1 := Heap.get_nh hg
      have h2 := Heap.get_t hg
      have h3 : (H 0).hidden b = false := by
        unfold Heap.hidden at h1 ⊢
        rw [← hx.hid]; exact h1
      unfold Heap.get
      rw [h3]
      cases h0 : (H 0).t.get b with
      | none => rw [hx.live b hb h0] at h2; cases h2
      | some y => rfl
  · intro b l e hn
    rcases Nat.lt_or_ge b (H 0).next with h | h
    · rw [I.old b l h e] at hn; cases hn
    · exact h
  · have hl : (F ops.size).length = (F 0).length := C.flen (Nat.le_refl _)
    refine FRel.ofGet (by rw [I.tsz, hl]) fun t ht => ?_
    rw [hl] at ht
    obtain ⟨t1, t2, t3, t4⟩ := I.tmp t ht
    rw [C.fstable t1 (Nat.le_refl _) fun j wo h1 h2 hwo => t3 j wo h1 (hall j h2) hwo]
    exact VRel.mono (Ren.cut_le _ _) _ _ t4

omit C in
theorem inv_start (hr0 : HRel ρ0 (H 0) w0) (hf : FRel ρ0 (F 0) a0) : Inv ops vl F H ρ0 w0 a0 (fun _ => False) a0 w0 ρ0 (fun _ => 0) (fun _ => 0) := by
  have low : ∀ b l, ρ0 b = some l → b < (H 0).next := by
    intro b l e
    rcases Nat.lt_or_ge b (H 0).next with h | h
    · exact h
    · rw [hr0.top b h] at e; cases e
  have cut : ρ0.le (ρ0.cut (H 0).next) := by
    intro b l e
    unfold Ren.cut
    rw [if_pos (low b l e)]; exact e
  constructor
  case clo => intro k h; exact h.elim
  case lt => intro k h; exact h.elim
  case pres => intro b l e; exact .inl (low b l e)
  case ext => exact Ren.le_refl _
  case old => intro b l _ e; exact e
  case tsz => have := hf.length; simpa using this
  case dfr => rfl
  case tmp =>
    intro t _
    exact ⟨Nat.zero_le _, .inl rfl, fun _ _ _ h => h.elim, VRel.mono cut _ _ (hf.getD t)⟩
  case blk =>
    intro b hp
    have hb : b < (H 0).next := by
      rcases hp with h | ⟨j, h, _⟩
      · exact h
      · exact h.elim
    refine ⟨Nat.zero_le _, hb, .inl rfl, fun _ _ _ h => h.elim, ?_⟩
    intro x hx
    obtain ⟨l, h1, h2⟩ := hr0.blk b x hx
    exact ⟨l, h1, h2.mono cut rfl⟩
  case inj =>
    intro b b' x x' l l' _ _ hg hg' r r' hc
    exact hr0.inj b b' x x' l l' hg hg' r r' hc
  case os => rfl
  case tape => rfl
  case output => rfl
  case size => exact Nat.le_refl _
  case frame => intro c _ _; rfl
  case fresh => intro b l h1 h2; rw [h1] at h2; cases h2

theorem all_any (hr0 : HRel ρ0 (H 0) w0) {Q : Exit → Act → World → Prop} (k : ∀ a' w' ρ', Post ρ0 (H 0) w0 ρ' (H ops.size) w' → FRel ρ' (F ops.size) a' → a'.defers = a0.defers → Q .normal a' w') :
    ∀ (fuel : Nat) (todo : List Nat) (listed : Array Bool) (a : Act) (w : World) (ρ : Ren) (T M : Nat → Nat), listed.size = ops.size → todo.length ≤ fuel → (∀ j, j < ops.size → listed.getD j false = false → j ∈ todo) →
      Inv ops vl F H ρ0 w0 a0 (fun j => listed.getD j false = true) a w ρ T M → wpAny P .any ops Q fuel listed a w := by
  have stuck : ∀ listed : Array Bool, listed.size = ops.size → Region.ready .any ops listed = [] → ∀ j, j < ops.size → listed.getD j false = true := by
    intro listed hsz hr j
    induction j using Nat.strongRecOn with
    | ind j ih =>
      intro hj
      cases hl : listed.getD j false with
      | true => rfl
      | false =>
        exfalso
        obtain ⟨o, vo, ho, hvo, _⟩ := C.get j hj
        have : j ∈ Region.ready .any ops listed := by
          refine mem_ready.2 ⟨?_, o, ho, fun e he hb => ih e.on (C.edges j o ho e he hb) (Nat.lt_trans (C.edges j o ho e he hb) hj)⟩
          rw [Array.getD_eq_getD_getElem?, Array.getElem?_eq_getElem (by omega)] at hl ⊢
          exact hl
        rw [hr] at this; cases this
  have fin : ∀ (listed : Array Bool) (a : Act) (w : World) (ρ : Ren) (T M : Nat → Nat), (∀ j, j < ops.size → listed.getD j false = true) →
      Inv ops vl F H ρ0 w0 a0 (fun j => listed.getD j false = true) a w ρ T M → Q .normal a w := by
    intro listed a w ρ T M hall I
    obtain ⟨p, f⟩ := inv_end C hr0 hall I
    exact k a w ρ p f I.dfr
  intro fuel
  induction fuel with
  | zero =>
    intro todo listed a w ρ T M hsz hlen hun I
    have h0 : todo = [] := List.eq_nil_of_length_eq_zero (by omega)
    have hall : ∀ j, j < ops.size → listed.getD j false = true := by
      intro j hj
      cases hl : listed.getD j false with
      | true => rfl
      | false => have := hun j hj hl; rw [h0] at this; cases this
    refine ⟨?_, fin listed a w ρ T M hall I⟩
    rw [List.eq_nil_iff_forall_not_mem]
    intro j hj
    obtain ⟨h1, o, ho, _⟩ := mem_ready.1 hj
    have hlt := (Array.getElem?_eq_some_iff.1 ho).1
    have := hall j hlt
    rw [Array.getD_eq_getD_getElem?, Array.getElem?_eq_getElem (by omega)] at h1 this
    simp only [Option.getD_some] at h1 this
    rw [h1] at this; cases this
  | succ fuel ih =>
    intro todo listed a w ρ T M hsz hlen hun I
    refine ⟨fun hr => fin listed a w ρ T M (stuck listed hsz hr) I, fun i hi => ?_⟩
    obtain ⟨h1, o, ho, hed⟩ := mem_ready.1 hi
    have hlt := (Array.getElem?_eq_some_iff.1 ho).1
    have hno : listed.getD i false = false := by
      rw [Array.getD_eq_getD_getElem?, Array.getElem?_eq_getElem (by omega)] at h1 ⊢
      exact h1
    obtain ⟨vo, hvo⟩ := C.vo hlt
    have hbef : ∀ j, Bef ops i j → listed.getD j false = true := by
      intro j hb
      obtain ⟨o', ho', e, he, hbi, hj⟩ := before_spec ops i j hb
      rw [ho] at ho'; cases ho'
      rcases hj with hj | hj
      · rw [← hj]; exact hed e he hbi
      · exact I.clo e.on (hed e he hbi) j hj
    refine op_any C I (by simp [hno]) hlt hbef hvo hr0 ho fun a' w' ρn T' M' I' => ?_
    refine ih (todo.erase i) _ a' w' ρn T' M' (by simpa using hsz) ?_ ?_ ?_
    · rw [List.length_erase_of_mem (hun i hlt hno)]; omega
    · intro j hj hl
      have hne : j ≠ i := by
        rintro rfl
        rw [Array.getD_eq_getD_getElem?, Array.getElem?_setIfInBounds_self_of_lt (by omega)] at hl
        cases hl
      rw [List.mem_erase_of_ne hne]
      refine hun j hj ?_
      rw [Array.getD_eq_getD_getElem?, Array.getElem?_setIfInBounds_ne (Ne.symm hne)] at hl
      rw [Array.getD_eq_getD_getElem?]; exact hl
    · have : (fun j => (listed.setIfInBounds i true).getD j false = true) = fun k => k = i ∨ listed.getD k false = true := by
        funext j
        apply propext
        by_cases hne : j = i
        · subst hne
          rw [Array.getD_eq_getD_getElem?, Array.getElem?_setIfInBounds_self_of_lt (by omega)]
          simp
        · rw [Array.getD_eq_getD_getElem?, Array.getElem?_setIfInBounds_ne (Ne.symm hne), ← Array.getD_eq_getD_getElem?]
          simp [hne]
      rw [this]; exact I'

end

theorem draw_ok (P : Program) : DrawOk P := by
  intro meth hms call hcs hce id ops vl fr fr' h h' ρ w a Q hc hrun hr hf k
  unfold cRegion at hc
  split at hc
  · cases hc
  · rename_i vs hvs
    simp only [if_true] at hc
    split at hc
    · rename_i l hl
      split at hc
      · rename_i hchk
        simp only [Option.some.injEq, VC.draw.injEq] at hc
        subst hc
        simp only [Bool.and_eq_true] at hchk
        obtain ⟨⟨⟨hm, htm⟩, hed⟩, hsel⟩ := hchk
        obtain ⟨F, H, f0, g0, fn, gn, htr⟩ := draw_trace l [] fr fr' h h' hrun
        obtain ⟨len1, len2, hget⟩ := cOpers_get ops.toList vs 0 l hl
        have hlen : l.length = ops.size := by simpa using len1.symm
        have hg : ∀ i, i < ops.size → ∃ o v vo, ops[i]? = some o ∧ vs[i]? = some v ∧ l[i]? = some vo ∧ cOp P o = some v ∧ vo.op = v ∧ vo.dst = o.dst ∧ cGuard ops o.guard = some vo.guard ∧
            (vo.full = true → ∀ j ∈ touching vs 0, j = i ∨ (j < i ∧ ((Region.before ops).getD i 0).testBit j = true) ∨ (i < j ∧ ((Region.before ops).getD j 0).testBit i = true)) ∧
            (∀ j ∈ touching vs 0, j < i → ((Region.before ops).getD i 0).testBit j = false → j ∈ vo.hide) := by
          intro i hi
          have h1 : ops.toList[i]? = some ops[i] := by simp [hi]
          have h2 : vs[i]? = some (vs[i]'(by omega)) := by rw [List.getElem?_eq_getElem]
          obtain ⟨vo, q1, q2, q3, q4, q5, q6⟩ := hget i _ _ h1 h2
          simp only [Nat.zero_add] at q5 q6
          exact ⟨ops[i], _, vo, by simp [hi], h2, q1, cOps_get hvs i _ _ h1 h2, q2, q3, q4, q5, q6⟩
        have lt_of : ∀ {i vo}, l[i]? = some vo → i < ops.size := by
          intro i vo h
          have := (List.getElem?_eq_some_iff.1 h).1
          omega
        have touch : ∀ j wo, l[j]? = some wo → wo.op.kind ≠ 0 → j ∈ touching vs 0 := by
          intro j wo hj hk
          obtain ⟨o, v, vo, e1, e2, e3, _, e4, _⟩ := hg j (lt_of hj)
          rw [hj] at e3; cases e3
          exact (touching_mem vs 0 j).2 ⟨j, v, e2, by rw [← e4]; exact hk, by omega⟩
        have C : Ctx P meth call ops l F H := by
          constructor
          case ms => exact hms
          case cs => exact hcs
          case ce => exact hce
          case len => exact hlen
          case get =>
            intro i hi
            obtain ⟨o, v, vo, e1, e2, e3, e4, e5, e6, e7, _⟩ := hg i hi
            refine ⟨o, vo, e1, e3, by rw [e5]; exact e4, e6, e7, ?_⟩
            have := List.all_eq_true.1 hsel o (List.mem_of_getElem? (i := i) (by simpa using e1))
            exact this
          case full =>
            intro i vo hvo hfu j wo hwo hk
            obtain ⟨o, v, vo', e1, e2, e3, e4, e5, e6, e7, e8, _⟩ := hg i (lt_of hvo)
            rw [hvo] at e3; cases e3
            exact e8 hfu j (touch j wo hwo hk)
          case hide =>
            intro i vo hvo j wo hwo hk hj hnb
            obtain ⟨o, v, vo', e1, e2, e3, e4, e5, e6, e7, e8, e9⟩ := hg i (lt_of hvo)
            rw [hvo] at e3; cases e3
            refine e9 j (touch j wo hwo hk) hj ?_
            cases hb : ((Region.before ops).getD i 0).testBit j with
            | true => exact absurd hb hnb
            | false => rfl
          case names =>
            intro i o vo ho hvo t ht j wo hwo hd
            have := tmpsOk_get ops.toList l 0 htm i o vo (by simpa using ho) hvo t ht t j (by have := writersOf_mem l 0 j wo t hwo hd; rwa [Nat.zero_add] at this) rfl
            simpa [Bef] using this
          case edges =>
            intro i o ho e he hb
            have := edgesOk_get ops.toList 0 hed i o (by simpa using ho) e he hb
            omega
          case trace =>
            intro i vo hvo
            have := htr i vo hvo
            simpa using this
          case low0 =>
            intro b hb
            rw [g0] at hb ⊢
            cases e : h.t.get b with
            | none => rfl
            | some x => have := hr.low b x e; omega
        refine wp_region_any hm ?_
        have pd : Post ρ h w ρ h { w with drawn := w.drawn + 1 } := Post.draw hr rfl rfl rfl rfl
        have hr1 : HRel ρ (H 0) { w with drawn := w.drawn + 1 } := by rw [g0]; exact pd.hrel
        have hf1 : FRel ρ (F 0) a := by rw [f0]; exact hf
        refine all_any C (a0 := a) hr1 ?_ ops.size (List.range ops.size) (Array.replicate ops.size false) a _ ρ (fun _ => 0) (fun _ => 0) (by simp) (by simp) (fun j hj _ => by simpa using hj) ?_
        · intro a' w' ρ' p f d
          rw [hlen] at fn gn
          rw [fn] at f
          rw [gn, g0] at p
          exact k a' w' ρ' (pd.trans p hr) f d
        · have : (fun j => (Array.replicate ops.size false).getD j false = true) = fun _ => False := by
            funext j
            apply propext
            refine ⟨fun hh => ?_, False.elim⟩
            rw [Array.getD_eq_getD_getElem?, Array.getElem?_replicate] at hh
            split at hh <;> simp at hh
          rw [this]
          exact inv_start hr1 hf1
      · cases hc
    · cases hc

end Go.V
