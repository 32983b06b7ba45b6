/-
  For every Q and numbers QueuesRipe returns true, and the arguments read as before. No condition.
-/
import Derived.Test.YtkmaaddlimgdoaaProg
import Derived.KernelRfl
import Derived.Test.YtkmaaddlimgdoaaY3

section
set_option linter.unusedVariables false
set_option linter.unusedSimpArgs false
set_option linter.unusedSectionVars false
-- DRAWS
-- BUILDS
-- NEW
set_option maxHeartbeats 4000000
namespace Go.V
attribute [local irreducible] stepK opK opV

structure Tri where
  a : Int
  b : Int
  c : Int

def Tri.cells (t : Tri) : List Val := [.int .u8 t.a, .int .u8 t.b, .int .u8 t.c]

def Tri.ok (t : Tri) : Prop := (0 ≤ t.a ∧ t.a < 256) ∧ (0 ≤ t.b ∧ t.b < 256) ∧ (0 ≤ t.c ∧ t.c < 256)

def triEnt (id si : Int) (t : Tri) : Ent := ⟨id + 1 + t.a % 4, t.b % 8, si + t.c % 8⟩

def ofStep (st : Int × Int × List Ent) (t : Tri) : Int × Int × List Ent := (st.1 + 1 + t.a % 4, st.2.1 + t.c % 8, st.2.2 ++ [triEnt st.1 st.2.1 t])

def ofSt (T : List Tri) : Int × Int × List Ent := T.foldl ofStep (-1, 0, [])

def ofT (T : List Tri) : List Ent := (ofSt (T.take 12)).2.2

theorem ofSt_take {T : List Tri} {i : Nat} (hi : i < T.length) : ofSt (T.take (i + 1)) = ofStep (ofSt (T.take i)) T[i] := by
  unfold ofSt
  rw [List.take_succ_eq_append_getElem hi, List.foldl_append]
  rfl

/-- What is known of the queue so far. -/
structure OfOk (n : Nat) (st : Int × Int × List Ent) : Prop where
  id : -1 ≤ st.1 ∧ st.1 ≤ 4 * (n : Int)
  si : 0 ≤ st.2.1 ∧ st.2.1 ≤ 7 * (n : Int)
  len : st.2.2.length = n
  val : ∀ e ∈ st.2.2, (0 ≤ e.id ∧ e.id ≤ st.1) ∧ (0 ≤ e.cl ∧ e.cl < 8) ∧ (0 ≤ e.si ∧ e.si ≤ st.2.1)
  asc : st.2.2.Pairwise fun x y => x.id < y.id ∧ x.si ≤ y.si

theorem OfOk.step {n : Nat} {st : Int × Int × List Ent} (o : OfOk n st) {t : Tri} (ht : t.ok) : OfOk (n + 1) (ofStep st t) := by
  obtain ⟨h1, h2, h3, h4, h5⟩ := o
  unfold Tri.ok at ht
  refine ⟨?_, ?_, ?_, ?_, ?_⟩
  · simp only [ofStep]; omega
  · simp only [ofStep]; omega
  · simp [ofStep, h3]
  · intro e he
    simp only [ofStep, List.mem_append, List.mem_singleton] at he ⊢
    rcases he with he | rfl
    · have := h4 e he; omega
    · simp only [triEnt]; omega
  · simp only [ofStep]
    rw [List.pairwise_append]
    refine ⟨h5, by simp, fun x hx y hy => ?_⟩
    rw [List.mem_singleton] at hy
    subst hy
    have := h4 x hx
    simp only [triEnt]; omega

theorem ofOk {T : List Tri} (ht : ∀ t ∈ T, t.ok) : ∀ i, i ≤ T.length → OfOk i (ofSt (T.take i))
  | 0, _ => ⟨by simp [ofSt], by simp [ofSt], rfl, by simp [ofSt], by simp [ofSt]⟩
  | i + 1, h => by
    rw [ofSt_take (by omega)]
    exact (ofOk ht i (by omega)).step (ht _ (List.getElem_mem _))

theorem ofT_ok {T : List Tri} (ht : ∀ t ∈ T, t.ok) : chk (ofT T) = 0 ∧ (ofT T).length ≤ 12 ∧ ∀ e ∈ ofT T, e.si ≤ 84 := by
  have o := ofOk (T := T.take 12) (fun t h => ht t (List.mem_of_mem_take h)) _ (Nat.le_refl _)
  rw [List.take_length] at o
  have hl : (T.take 12).length ≤ 12 := by rw [List.length_take]; omega
  have e : (ofSt (T.take 12)).2.2 = ofT T := rfl
  obtain ⟨h1, h2, h3, h4, h5⟩ := o
  rw [e] at h3 h4 h5
  refine ⟨chk_of (by omega) (fun x hx => ?_) h5, by omega, fun x hx => by have := h4 x hx; omega⟩
  rw [validB_iff]
  have := h4 x hx
  omega

theorem Own.wroteLow {h0 h h' : Heap} {v : Val} {sz : Nat} {cs cs2 : List Val} {b2 : Nat} (o : Own h0 h v sz cs) (k : Wrote h b2 cs2 h') (hb : b2 < h0.next) : Own h0 h' v sz cs := by
  rcases o with o | ⟨b, n, cap, ls, cells, e, h1, h2, hg, r⟩
  · exact .inl o
  · exact .inr ⟨b, n, cap, ls, cells, e, h1, h2, by rw [k.else_ b (by omega)]; exact hg, r⟩

theorem Own.wroteNe {h0 h h' : Heap} {v : Val} {sz : Nat} {cs cs2 : List Val} {b2 : Nat} (o : Own h0 h v sz cs) (k : Wrote h b2 cs2 h') (hb : ∀ b o n c l, v = .slice b o n c l → b2 ≠ b) : Own h0 h' v sz cs := by
  rcases o with o | ⟨b, n, cap, ls, cells, e, h1, h2, hg, r⟩
  · exact .inl o
  · exact .inr ⟨b, n, cap, ls, cells, e, h1, h2, by rw [k.else_ b (by have := hb _ _ _ _ _ e; omega)]; exact hg, r⟩

def OfI (h0 : Heap) (b1 b2 b3 : Nat) (T : List Tri) (k : Nat) (fr : List Val) (h' : Heap) : Prop := Grow h0 h' ∧ ∃ (i : Nat) (u : Val) (id si : Int) (es : List Ent), Hid (i + k = min T.length 12 ∧ ofSt (T.take i) = (id, si, es)) ∧ fr.length = 56 ∧ fr.getD 1 .undef = .ptr b1 0 ∧ fr.getD 2 .undef = .ptr b2 0 ∧ fr.getD 3 .undef = .ptr b3 0 ∧
  fr.getD 4 .undef = .int .i64 id ∧ fr.getD 5 .undef = .int .i64 si ∧ fr.getD 6 .undef = .int .i64 (i : Nat) ∧ h'.get b3 = some (.cells [u]) ∧ Own h0 h' u 3 (es.flatMap Ent.cells) ∧ Hid (∀ b o n c l, u = .slice b o n c l → b3 ≠ b)

theorem Own.one {h0 h : Heap} {v : Val} {sz : Nat} {cs : List Val} (hz : 0 < sz) (o : Own h0 h v sz cs) : v.cells = [v] ∧ Val.one v = true := by
  obtain ⟨n, _, h⟩ := o.sl hz
  exact h.cells1

theorem tmod_nat {a m : Int} (h0 : 0 ≤ a) (h1 : a < 256) (hm : 0 < m) (hm2 : m ≤ 256) : IntKind.i64.wrap (a.tmod m) = a % m := by
  rw [Int.tmod_eq_emod_of_nonneg h0]
  have := Int.emod_nonneg a (show m ≠ 0 by omega)
  have := Int.emod_lt_of_pos a hm
  exact wrap_i64 (by omega) (by omega)

theorem of_ok {h : Heap} (w : Wf h) {s : Val} {T : List Tri} (hs : Sl h s 3 T.length (T.flatMap Tri.cells)) (ht : ∀ t ∈ T, t.ok) : WC E35 19 [.agg [s]] h fun v h' => Grow h h' ∧ ∃ u, v = .agg [u] ∧ Own h h' u 3 ((ofT T).flatMap Ent.cells) := by
  refine WC.fn1 (n := 56) rfl rfl (by rfl) ?_
  intro fr hl ha
  have f0 : fr.getD 0 .undef = .agg [s] := ha 0
  clear ha
  have hlen := hs.lenI
  unfold v19
  refine WE.seqR ?_
  (refine WO.op1 ?_; simp only [opK, wanted, setDst, Int.reduceNeg, *])
  refine stepK_box w (c := [s]) (by simp only [V.ev, *]; rfl) rfl fun b1 h1 g1 hb1 hg1 hn1 => ?_
  (refine WO.op1 ?_; simp only [opK, wanted, setDst, Int.reduceNeg, *])
  refine stepK_alloc (g1.wf w) fun b2 h2 g2 hb2 hg2 hn2 => ?_
  have gA := g1.trans g2
  have w2 := gA.wf w
  have l1 : ∀ h', Grow h2 h' → h'.load b1 0 1 = some [s] := fun h' g => g.part (g2.keep _ _ hg1) (by simp)
  have hs2 := Keep.sl gA.kp hs
  have hb2' : b2 < h2.next := lt_of_get w2 hg2
  have hb2h : h.next ≤ b2 := by have := g1.next; omega
  have B2 := Hid.mk (And.intro hb2' (And.intro hb2h hg2))
  clear hn1 hn2 hg1 hb1 hb2 hb2' hb2h hg2 g1 g2 hs
  repeat' (first | refine WE.seqR ?_ | refine WO.nil ?_)
  (refine WO.op1 ?_; simp only [opK, wanted, setDst, Int.reduceNeg, *])
  refine stepK_alloc w2 fun b3 h3 g3 hb3 hg3 hn3 => ?_
  have B3 := Hid.mk hb3
  clear hn3 hb3
  repeat' (first | refine WE.assoc ?_ | refine WE.seqR ?_ | refine WO.nil ?_ | (refine WO.op1s ?_; simp only [opK, wanted, stepK, step, setDst, true_and, V.ev, Int.reduceNeg, *]; with_reducible show WO _ _ _ _ _) | refine WE.seqBlock ?_)
  refine WE.loop (OfI h2 b1 b2 b3 T) ?_ (min T.length 12) _ _ ⟨g3, 0, .nils, -1, 0, [], ⟨by omega, rfl⟩, by simp only [List.length_set, hl], by (simp only [Nat.reduceEqDiff, Nat.reduceLT, Int.reduceNeg, getD_ne, getD_eq, *]; try rfl), by (simp only [Nat.reduceEqDiff, Nat.reduceLT, Int.reduceNeg, getD_ne, getD_eq, List.length_set, *]; try rfl), by (simp only [Nat.reduceEqDiff, Nat.reduceLT, Int.reduceNeg, getD_ne, getD_eq, List.length_set, *]; try rfl), by (simp only [Nat.reduceEqDiff, Nat.reduceLT, Int.reduceNeg, getD_ne, getD_eq, List.length_set, *]; try rfl), by (simp only [Nat.reduceEqDiff, Nat.reduceLT, Int.reduceNeg, getD_ne, getD_eq, List.length_set, *]; try rfl), by (simp only [Nat.reduceLT, Int.reduceNeg, Int.cast_ofNat_Int, getD_eq, List.length_set, *]; try rfl), hg3, .inl ⟨rfl, rfl⟩, ⟨fun b o n c l e => by cases e⟩⟩
  clear f0 hl hg3 g3
  rintro k fr h ⟨gg, i, u, id, si, es, H, hl, f1, f2, f3, f4, f5, f6, hg3, ho, hne⟩
  have l1' := l1 _ gg
  have m3 : h.load b3 0 1 = some [u] := load_get hg3 (by simp)
  by_cases hi : i < min T.length 12
  · have hT : i < T.length := by omega
    have hd : decide ((i : Int) < (T.length : Int)) = true := decide_eq_true (by omega)
    have hd2 : decide ((i : Int) < 12) = true := decide_eq_true (by omega)
    obtain ⟨bx, o, he, le⟩ := hs2.elt (k := .i64) hT (by omega)
    have hfd := flat_drop (f := Tri.cells) (sz := 3) (fun _ => rfl) T i hT
    have x0 : h.load bx o 1 = some [.int .u8 T[i].a] := by
      have := le h gg.kp 0 1 (by omega)
      rw [Nat.add_zero, Nat.add_zero, hfd] at this
      simpa [Tri.cells] using this
    have x1 : h.load bx (o + 1) 1 = some [.int .u8 T[i].b] := by
      have := le h gg.kp 1 1 (by omega)
      rw [← List.drop_drop, hfd] at this
      simpa [Tri.cells] using this
    have x2 : h.load bx (o + 2) 1 = some [.int .u8 T[i].c] := by
      have := le h gg.kp 2 1 (by omega)
      rw [← List.drop_drop, hfd] at this
      simpa [Tri.cells] using this
    have hok := ht T[i] (List.getElem_mem hT)
    have hst := ofSt_take hT
    have hOk := ofOk ht i (by omega)
    rw [H.out.2] at hst hOk
    obtain ⟨k1, k2, k3, _, _⟩ := hOk
    simp only at k1 k2 k3
    unfold Tri.ok at hok
    have z4 : ((4 : Int) = 0) = False := by simp
    have z8 : ((8 : Int) = 0) = False := by simp
    have ta := tmod_nat (m := 4) hok.1.1 hok.1.2 (by omega) (by omega)
    have tb := tmod_nat (m := 8) hok.2.1.1 hok.2.1.2 (by omega) (by omega)
    have tc := tmod_nat (m := 8) hok.2.2.1 hok.2.2.2 (by omega) (by omega)
    have ws : IntKind.i64.wrap (si + T[i].c % 8) = si + T[i].c % 8 := wrap_i64 (by omega) (by omega)
    have wi : IntKind.i64.wrap (id + 1) = id + 1 := wrap_i64 (by omega) (by omega)
    have wj : IntKind.i64.wrap (id + 1 + T[i].a % 4) = id + 1 + T[i].a % 4 := wrap_i64 (by omega) (by omega)
    have wn : IntKind.i64.wrap ((i : Int) + 1) = ((i + 1 : Nat) : Int) := wrap_add (b := 1) (by omega)
    replace hst := Hid.mk (And.intro hst (And.intro hi (And.intro hok (And.intro k1 (And.intro k2 k3)))))
    clear hok hi k1 k2 k3 le hfd
    generalize T[i] = t at *
    clear hT
    repeat' (first | refine WE.assoc ?_ | refine WE.seqR ?_ | refine WO.nil ?_ | refine WE.draw ?_ | (refine WO.lenOfE ?_; simp only [setDst, V.ev, Nat.reduceLT, getD_eq, List.length_set, *]; refine ⟨_, rfl, ?_⟩) | (refine WO.iaddrE ?_; simp only [setDst, V.ev, Nat.reduceEqDiff, Nat.reduceLT, getD_ne, getD_eq, List.length_set, *]; refine ⟨_, rfl, ?_⟩) | (refine WO.op1s ?_; simp only [opK, wanted, stepK, step, setDst, pureV, arith, intBin, true_and, and_self, V.ev, Nat.reduceEqDiff, Nat.reduceLT, Nat.add_zero, Nat.reduceMul, Int.reduceLE, Int.reduceLT, Int.reduceToNat, Bool.false_eq_true, beq_self_eq_true, Int.cast_ofNat_Int, getD_ne, getD_eq, List.length_set, if_true, if_false, *]; with_reducible show WO _ _ _ _ _) | (refine WD.iaddrE ?_; simp only [setDst, List.nil_append, List.cons_append, V.ev, Nat.reduceEqDiff, Nat.reduceLT, getD_ne, getD_eq, List.length_set, *]; refine ⟨_, rfl, ?_⟩) | (refine WD.op2s ?_; simp only [opV, VOp.kind, hiddenOf, unveil_veil, veil_next, below_nil, below_cons, or_false, or_self, wanted, stepK, step, setDst, pureV, arith, intBin, Val.cells, fill, splice, List.take_zero, List.take_succ_cons, List.drop_zero, List.drop_succ_cons, List.nil_append, List.cons_append, List.length_cons, List.length_nil, List.drop_nil, true_and, and_self, Nat.le_refl, List.getD_cons_zero, List.getD_cons_succ, V.ev, Nat.reduceEqDiff, Nat.reduceLT, Nat.reduceLeDiff, Nat.reduceAdd, Nat.add_zero, Nat.zero_add, Nat.reduceMul, Int.reduceLE, Int.reduceLT, Int.reduceToNat, Bool.false_eq_true, Int.cast_ofNat_Int, getD_ne, getD_eq, List.length_set, if_true, if_false, reduceCtorEq, *]; with_reducible show WD _ _ _ _ _ _) | refine WE.seqSkip ?_ | (refine WE.seqCond (t := true) ?hc (fun _ => ?_) (fun hh => Bool.noConfusion hh); case hc => simp only [V.ev, Nat.reduceLT, getD_eq, List.length_set, *]) | refine WE.seqBlock ?_)
    (refine WD.op2 ?_; simp only [opV, VOp.kind, hiddenOf, wanted, setDst, true_or, List.nil_append, List.cons_append, Nat.reduceEqDiff, Nat.reduceLeDiff, Bool.false_eq_true, if_true, *])
    refine stepK_one w2 gg (cs := (triEnt id si t).cells) (by (simp only [V.ev, Nat.reduceLT, getD_eq, List.length_set, *]; try rfl)) (by rfl) (by rfl) fun v5 h5 g5 q5 s5 => ?_
    have ho5 := ho.keep q5
    have e5 := q5 _ _ hg3
    clear ho hg3 l1' m3 x0 x1 x2 q5
    skip
    (refine WD.op2 ?_; simp only [opV, VOp.kind, hiddenOf, wanted, setDst, or_true, List.nil_append, List.cons_append, Nat.reduceEqDiff, Nat.reduceLeDiff, if_true, *])
    refine stepK_append2 w2 g5 (v := u) (s := v5) (by (simp only [V.ev, Nat.reduceEqDiff, Nat.reduceLT, getD_ne, getD_eq, List.length_set, *]; try rfl)) (by (simp only [V.ev, Nat.reduceLT, getD_eq, List.length_set, *]; try rfl)) ho5 s5 (by omega) (by simp [Ent.cells, Val.one]) (by rw [cells_len]; rw [maxB]; have := hst.out; simp [Ent.cells]; omega) (by rw [cells_len]; rw [maxB]; have := hst.out; simp [Ent.cells]; omega) (by omega) fun v6 h6 g6 ho6 r6 n6 fresh => ?_
    have e6 := r6 _ _ e5 hne.out
    have hne6 : ∀ b o n c l, v6 = .slice b o n c l → b3 ≠ b := by
      intro b o n c l e
      rcases fresh b o n c l e with ⟨o', n', c', l', q⟩ | q
      · exact hne.out _ _ _ _ _ q
      · have := lt_of_get (g5.wf w2) e5; omega
    have c6 := (ho6.one (by omega)).1
    have c6' := (ho6.one (by omega)).2
    clear fresh ho5 e5 r6 s5
    replace n6 := Hid.mk n6
    repeat' (first | (refine WD.op2s ?_; simp only [opV, VOp.kind, hiddenOf, unveil_veil, veil_next, or_true, or_self, wanted, stepK, step, setDst, Val.cells, List.nil_append, List.cons_append, true_and, V.ev, Nat.reduceEqDiff, Nat.reduceLT, Nat.reduceLeDiff, Nat.add_zero, getD_ne, getD_eq, List.length_set, if_true, reduceCtorEq, *]; with_reducible show WD _ _ _ _ _ _))
    (refine WD.op2 ?_; simp only [opV, VOp.kind, hiddenOf, wanted, setDst, or_true, List.nil_append, List.cons_append, Nat.reduceEqDiff, Nat.reduceLeDiff, if_true, *])
    refine stepK_store (b := b3) (o := 0) (cs := [u]) (us := [v6]) (by (simp only [V.ev, Nat.reduceLT, getD_eq, List.length_set, *]; try rfl)) (by (simp only [V.ev, Nat.reduceEqDiff, Nat.reduceLT, getD_ne, getD_eq, List.length_set, *]; try rfl)) (by rfl) e6 (by rw [g6.floor]; have := w2.fl; have := B3.out; omega) (by simp) (by simp [c6']) fun h7 k7 => ?_
    have g7 := g6.wrote B3.out w2 k7
    have ho7 := ho6.wroteNe k7 hne6
    have e7 : h7.get b3 = some (.cells [v6]) := k7.at_
    clear k7 ho6 e6
    replace hne6 := Hid.mk hne6
    repeat' (first | refine WO.nil ?_ | refine WD.nil2 ?_ | (refine WO.op1s ?_; simp only [opK, wanted, stepK, step, setDst, pureV, arith, intBin, true_and, V.ev, Nat.reduceEqDiff, Nat.reduceLT, getD_ne, getD_eq, List.length_set, if_true, *]; with_reducible show WO _ _ _ _ _) | refine WE.region ?_)
    refine ⟨k - 1, by have := H.out.1; have := hst.out.2.1; omega, g7, i + 1, v6, id + 1 + t.a % 4, si + t.c % 8, es ++ [triEnt id si t], ⟨by have := H.out.1; have := hst.out.2.1; omega, by rw [hst.out.1]; rfl⟩, by simp only [List.length_set, hl], by (simp only [Nat.reduceEqDiff, getD_ne, *]; try rfl), by (simp only [Nat.reduceEqDiff, getD_ne, *]; try rfl), by (simp only [Nat.reduceEqDiff, getD_ne, *]; try rfl), by (simp only [Nat.reduceEqDiff, Nat.reduceLT, getD_ne, getD_eq, List.length_set, *]; try rfl), by (simp only [Nat.reduceEqDiff, Nat.reduceLT, getD_ne, getD_eq, List.length_set, *]; try rfl), by (simp only [Nat.reduceLT, getD_eq, List.length_set, *]; try rfl), e7, by simpa using ho7, hne6⟩
  · have hk : k = 0 := by have := H.out.1; omega
    have hres : ofT T = es := by
      have h1 := H.out.2
      have : T.take i = T.take 12 := by
        have hi2 : i = min T.length 12 := by have := H.out.1; omega
        rw [hi2, List.take_eq_take_iff]
        omega
      rw [this] at h1
      unfold ofT
      rw [h1]
    have c6 := (ho.one (by omega)).1
    have c6' := (ho.one (by omega)).2
    replace hres := Hid.mk hres
    replace hk := Hid.mk (And.intro hk hi)
    clear hi
    have fin1 : ∀ h', Wrote h b2 [u] h' → Grow h2 h → Own h2 h u 3 (es.flatMap Ent.cells) → True := fun _ _ _ _ => trivial
    clear fin1
    by_cases hT : i < T.length
    · have hd : decide ((i : Int) < (T.length : Int)) = true := decide_eq_true (by omega)
      have hd2 : decide ((i : Int) < 12) = false := decide_eq_false (by have := hk.out; omega)
      repeat' (first | refine WE.assoc ?_ | refine WE.seqR ?_ | refine WO.nil ?_ | (refine WO.lenOfE ?_; simp only [setDst, V.ev, Nat.reduceLT, getD_eq, List.length_set, *]; refine ⟨_, rfl, ?_⟩) | (refine WO.op1s ?_; simp only [opK, wanted, stepK, step, setDst, pureV, arith, intBin, Val.cells, List.length_cons, List.length_nil, true_and, V.ev, Nat.reduceEqDiff, Nat.reduceLT, Nat.add_zero, Nat.zero_add, Bool.false_eq_true, beq_self_eq_true, getD_ne, getD_eq, List.length_set, if_true, if_false, *]; with_reducible show WO _ _ _ _ _) | refine WE.seqExit ?_ | (refine WE.seqCond (t := false) ?hc (fun hh => Bool.noConfusion hh) (fun _ => ?_); case hc => simp only [V.ev, Nat.reduceLT, getD_eq, List.length_set, *]))
      (refine WO.op1 ?_; simp only [opK, wanted, setDst, *])
      refine stepK_store (b := b2) (o := 0) (cs := [.nils]) (us := [u]) (by (simp only [V.ev, Nat.reduceEqDiff, getD_ne, *]; try rfl)) (by (simp only [V.ev, Nat.reduceLT, getD_eq, List.length_set, *]; try rfl)) (by rfl) (gg.keep _ _ B2.out.2.2) (by rw [gg.floor, gA.floor]; have := w.fl; have := B2.out; omega) (by simp) (by simp [c6']) fun h7 k7 => ?_
      have m7 : h7.load b2 0 1 = some [u] := load_get k7.at_ (by simp [splice])
      repeat' (first | refine WO.nil ?_ | refine WE.ret ?_)
      ((try dsimp only); refine Exists.intro _ ⟨(by (simp only [readResults, Nat.reduceEqDiff, getD_ne, if_true, *]; try rfl)), ?_⟩)
      refine ⟨(gA.trans gg).wrote B2.out.2.1 w k7, u, by rfl, ?_⟩
      rw [hres.out]
      exact (ho.wroteLow k7 B2.out.1).down gA.next
    · have hd : decide ((i : Int) < (T.length : Int)) = false := decide_eq_false (by omega)
      repeat' (first | refine WE.assoc ?_ | refine WE.seqR ?_ | refine WO.nil ?_ | (refine WO.lenOfE ?_; simp only [setDst, V.ev, Nat.reduceLT, getD_eq, List.length_set, *]; refine ⟨_, rfl, ?_⟩) | (refine WO.op1s ?_; simp only [opK, wanted, stepK, step, setDst, pureV, arith, intBin, Val.cells, List.length_cons, List.length_nil, true_and, V.ev, Nat.reduceEqDiff, Nat.reduceLT, Nat.add_zero, Nat.zero_add, Bool.false_eq_true, getD_ne, getD_eq, List.length_set, if_true, if_false, Bool.false_beq, Bool.not_true, *]; with_reducible show WO _ _ _ _ _) | refine WE.seqExit ?_ | (refine WE.seqCond (t := false) ?hc (fun hh => Bool.noConfusion hh) (fun _ => ?_); case hc => simp only [V.ev, Nat.reduceLT, getD_eq, List.length_set, *]))
      (refine WO.op1 ?_; simp only [opK, wanted, setDst, *])
      refine stepK_store (b := b2) (o := 0) (cs := [.nils]) (us := [u]) (by (simp only [V.ev, Nat.reduceEqDiff, getD_ne, *]; try rfl)) (by (simp only [V.ev, Nat.reduceLT, getD_eq, List.length_set, *]; try rfl)) (by rfl) (gg.keep _ _ B2.out.2.2) (by rw [gg.floor, gA.floor]; have := w.fl; have := B2.out; omega) (by simp) (by simp [c6']) fun h7 k7 => ?_
      have m7 : h7.load b2 0 1 = some [u] := load_get k7.at_ (by simp [splice])
      repeat' (first | refine WO.nil ?_ | refine WE.ret ?_)
      ((try dsimp only); refine Exists.intro _ ⟨(by (simp only [readResults, Nat.reduceEqDiff, getD_ne, if_true, *]; try rfl)), ?_⟩)
      refine ⟨(gA.trans gg).wrote B2.out.2.1 w k7, u, by rfl, ?_⟩
      rw [hres.out]
      exact (ho.wroteLow k7 B2.out.1).down gA.next

end Go.V
end

section
set_option linter.unusedVariables false
set_option linter.unusedSimpArgs false
set_option linter.unusedSectionVars false
-- BUILDS
-- NEW
set_option maxHeartbeats 4000000
namespace Go.V
attribute [local irreducible] stepK opK opV

/-- The first number of a list that is in another one. -/
def pickL (a l : List Int) : Option Int := l.find? fun n => decide (n ∈ a)

theorem ordRes_len {es : List Ent} {ro ag : Int} (hn : es.length ≤ 100000) : (ordRes es ro ag).1.length ≤ 800000 := by
  unfold ordRes
  split
  · simp
  · split
    · simp
    · have := ordL_len (keyI ro ag) es 8
      simp only; omega

def PkI (h0 : Heap) (u a : Val) (al l : List Int) (k : Nat) (fr : List Val) (h' : Heap) : Prop :=
  ∃ (A B : List Int), Hid (l = A ++ B ∧ B.length = k ∧ pickL al l = pickL al B) ∧ Grow h0 h' ∧ fr.length = 35 ∧ fr.getD 3 .undef = a ∧ fr.getD 24 .undef = u ∧ fr.getD 25 .undef = .int .i64 (l.length : Nat) ∧ fr.getD 26 .undef = .int .i64 (A.length : Nat)

theorem ordRes_bad {es : List Ent} {ro ag : Int} (h : (ordRes es ro ag).2 ≠ 0) : (ordRes es ro ag).1 = [] := by
  unfold ordRes at *
  split
  · rfl
  · split
    · rfl
    · rename_i h1 h2
      rw [if_neg h1, if_neg h2] at h
      exact absurd rfl h

theorem pick_ok {h : Heap} (w : Wf h) {s a : Val} {es : List Ent} {al : List Int} {ro ag : Int} (hs : Es h s es) (ha : Ei h a al) (hn : es.length ≤ 100000) (hal : al.length ≤ 100000) : WC E35 11 [.agg [s], .int .i64 ro, .int .i64 ag, a] h fun v h' => Grow h h' ∧ v = .tup [.int .i64 ((pickL al (ordRes es ro ag).1).getD 0), .bool (pickL al (ordRes es ro ag).1).isSome, .int .i64 (ordRes es ro ag).2] := by
  refine WC.fn1 (n := 35) rfl rfl (by rfl) ?_
  intro fr hl hx
  have h0 : fr.getD 0 .undef = .agg [s] := hx 0
  have h1 : fr.getD 1 .undef = .int .i64 ro := hx 1
  have h2 : fr.getD 2 .undef = .int .i64 ag := hx 2
  have h3 : fr.getD 3 .undef = a := hx 3
  clear hx
  unfold v11
  refine WE.seqR ?_
  (refine WO.op1 ?_; simp only [opK, wanted, setDst, *])
  refine stepK_box w (c := [s]) (by simp only [V.ev, *]; rfl) rfl fun b4 hB gB hb4 hg4 hnx => ?_
  have l4 : ∀ h', Grow hB h' → h'.load b4 0 1 = some [s] := fun h' g => g.part hg4 (by simp)
  have l4' := l4 _ (.refl _)
  have wB := gB.wf w
  repeat' (first | refine WE.seqR ?_ | refine WO.nil ?_ | (refine WO.op1s ?_; simp only [opK, wanted, stepK, step, setDst, evs, true_and, V.ev, Nat.reduceEqDiff, Nat.reduceLT, getD_ne, getD_eq, List.length_set, if_true, *]; with_reducible show WO _ _ _ _ _))
  refine WO.call rfl ?_
  (simp only [evs, V.ev, Nat.reduceEqDiff, Nat.reduceLT, getD_ne, getD_eq, List.length_set, *])
  refine (order_ok wB (gB.kp.es hs) hn).mono ?_
  rintro v1 g1 ⟨gg, u, rfl, ho⟩
  have hol := hid_intro (ordRes_len (ro := ro) (ag := ag) hn)
  have hbad := hid_intro (ordRes_bad (es := es) (ro := ro) (ag := ag))
  generalize ordRes es ro ag = R at *
  obtain ⟨l, bad⟩ := R
  simp only at ho hol hbad ⊢
  have hei : Ei g1 u l := ho.es
  have hlen := Sl.lenI hei
  clear l4 l4' hg4 hnx
  simp only [setDst]
  have w1 := gg.wf wB
  by_cases hb0 : bad = 0
  case neg =>
    have hd : (!(bad == 0)) = true := by simpa using hb0
    have hd2 : (bad == 0) = false := by simpa using hb0
    have hl0 := hbad.out hb0
    replace hb0 := hid_intro hb0
    replace hl0 := hid_intro hl0
    repeat' (first | refine WE.assoc ?_ | refine WE.seqR ?_ | refine WO.nil ?_ | (refine WO.op1s ?_; simp only [opK, wanted, stepK, step, setDst, eqVal, eqAt, eqv, Val.isAgg, Val.cells, true_and, and_self, Bool.and_true, List.getElem?_cons_zero, List.getElem?_cons_succ, V.ev, Nat.reduceEqDiff, Nat.reduceLT, getD_ne, getD_eq, List.length_set, if_true, Bool.not_false, *]; with_reducible show WO _ _ _ _ _) | refine WE.seqRet ?_ | (refine WE.seqCond (t := true) ?hc (fun _ => ?_) (fun hh => Bool.noConfusion hh); case hc => simp only [V.ev, Nat.reduceLT, getD_eq, List.length_set, *]))
    ((try dsimp only); refine Exists.intro _ ⟨(by (simp only [readResults, Nat.reduceEqDiff, Nat.reduceLT, getD_ne, getD_eq, List.length_set, *]; try rfl)), ?_⟩)
    exact ⟨gB.trans gg, by rw [hl0.out]; rfl⟩
  have hd2 : (bad == 0) = true := by simpa using hb0
  replace hb0 := hid_intro hb0
  repeat' (first | refine WE.assoc ?_ | refine WE.seqR ?_ | refine WO.nil ?_ | (refine WO.lenOfE ?_; simp only [setDst, V.ev, Nat.reduceLT, getD_eq, List.length_set, *]; refine ⟨_, rfl, ?_⟩) | (refine WO.op1s ?_; simp only [opK, wanted, stepK, step, setDst, eqVal, eqAt, eqv, Val.isAgg, Val.cells, true_and, and_self, Bool.and_true, List.getElem?_cons_zero, List.getElem?_cons_succ, V.ev, Nat.reduceEqDiff, Nat.reduceLT, getD_ne, getD_eq, List.length_set, if_true, Bool.not_true, *]; with_reducible show WO _ _ _ _ _) | refine WE.seqSkip ?_ | (refine WE.seqCond (t := false) ?hc (fun hh => Bool.noConfusion hh) (fun _ => ?_); case hc => simp only [V.ev, Nat.reduceLT, getD_eq, List.length_set, *]) | refine WE.seqBlock ?_)
  refine WE.loop (PkI g1 u a al l) ?_ l.length _ _ ⟨[], l, ⟨rfl, rfl, rfl⟩, .refl _, by simp only [List.length_set, hl], by (simp only [Nat.reduceEqDiff, getD_ne, *]; try rfl), by (simp only [Nat.reduceEqDiff, Nat.reduceLT, getD_ne, getD_eq, List.length_set, *]; try rfl), by (simp only [Nat.reduceEqDiff, Nat.reduceLT, getD_ne, getD_eq, List.length_set, *]; try rfl), by (simp only [Nat.reduceLT, getD_eq, List.length_set, *]; try rfl)⟩
  clear h0 h1 h2 h3 hl ho wB
  have wB := w1
  rintro k fr h' ⟨A, B, H, g, hl, h3, h24, h25, h26⟩
  have gg' := gg
  clear gg
  have gg := g
  match B, k, H with
  | [], 0, H =>
    have hA : l = A := by have := H.out.1; simpa using this
    have hd : decide ((A.length : Int) < (l.length : Int)) = false := by subst hA; exact decide_eq_false (by omega)
    replace hA := hid_intro hA
    repeat' (first | refine WE.seqR ?_ | refine WO.nil ?_ | (refine WO.op1s ?_; simp only [opK, wanted, stepK, step, setDst, pureV, arith, intBin, true_and, V.ev, if_true, *]; with_reducible show WO _ _ _ _ _) | refine WE.seqExit ?_ | (refine WE.seqCond (t := false) ?hc (fun hh => Bool.noConfusion hh) (fun _ => ?_); case hc => simp only [V.ev, Nat.reduceLT, getD_eq, *]) | refine WE.ret ?_)
    ((try dsimp only); refine Exists.intro _ ⟨(by (simp only [readResults, Nat.reduceEqDiff, Nat.reduceLT, getD_ne, getD_eq, List.length_set, *]; try rfl)), ?_⟩)
    exact ⟨gB.trans (gg'.trans g), by rw [H.out.2.2, hb0.out]; rfl⟩
  | n :: B, k + 1, H =>
    have hlt : A.length < l.length := by rw [H.out.1]; simp
    have hd : decide ((A.length : Int) < (l.length : Int)) = true := decide_eq_true (by omega)
    have hz : l[A.length] = n := by have := H.out.1; simp [this]
    obtain ⟨bx, o, he, l1⟩ := Ei.elt hei (k := .i64) hlt
    rw [hz] at l1
    have l1' : ∀ h', Grow g1 h' → h'.load bx o 1 = some [.int .i64 n] := fun h' g => l1 h' g.kp
    have hwi : IntKind.i64.wrap ((A.length : Int) + 1) = ((A.length + 1 : Nat) : Int) := wrap_add (b := 1) (by have := hol.out; omega)
    have haK := Keep.ei gg'.kp (Keep.ei gB.kp ha)
    replace hlt := hid_intro hlt
    replace hz := hid_intro hz
    clear l1 g
    by_cases hx : n ∈ al
    · have e2 : decide (n ∈ al) = true := decide_eq_true hx
      have hp : pickL al l = some n := by rw [H.out.2.2]; simp [pickL, hx]
      replace hx := hid_intro hx
      replace hp := hid_intro hp
      repeat' (first | refine WE.seqR ?_ | refine WO.nil ?_ | (refine WO.iaddrE ?_; simp only [setDst, V.ev, Nat.reduceEqDiff, getD_ne, *]; refine ⟨_, rfl, ?_⟩) | (refine WO.op1s ?_; simp only [opK, wanted, stepK, step, setDst, pureV, arith, intBin, evs, true_and, V.ev, Nat.reduceEqDiff, Nat.reduceLT, Bool.false_eq_true, getD_ne, getD_eq, List.length_set, if_true, if_false, *]; with_reducible show WO _ _ _ _ _) | (refine WO.callG (f := 41) (g := none) wB gg _ rfl (fun h1 w1 k1 => by (simp only [evs, V.ev, Nat.reduceEqDiff, Nat.reduceLT, getD_ne, getD_eq, List.length_set, *]); exact  (by have := contains_ok w1 (n := n) (Keep.ei k1 haK) (by omega); rw [e2] at this; exact this)) ?_; clear gg; (rintro _ hh gg rfl; simp only [setDst])) | refine WE.seqSkip ?_ | (refine WE.seqCond (t := true) ?hc (fun _ => ?_) (fun hh => Bool.noConfusion hh); case hc => simp only [V.ev, Nat.reduceLT, getD_eq, *]) | (refine WE.cond2 (t := true) ?hc (fun _ => ?_) (fun hh => Bool.noConfusion hh); case hc => simp only [V.ev, Nat.reduceLT, getD_eq, List.length_set, *]) | refine WE.ret ?_ | refine WE.seqBlock ?_ | (with_reducible show blockQ _ _ _ _ _; simp only [blockQ, seqQ]))
      ((try dsimp only); refine Exists.intro _ ⟨(by (simp only [readResults, Nat.reduceEqDiff, Nat.reduceLT, getD_ne, getD_eq, List.length_set, *]; try rfl)), ?_⟩)
      exact ⟨gB.trans (gg'.trans gg), by rw [hp.out, hb0.out]; rfl⟩
    · have e2 : decide (n ∈ al) = false := decide_eq_false hx
      have hp : pickL al l = pickL al B := by rw [H.out.2.2]; simp [pickL, hx]
      replace hx := hid_intro hx
      replace hp := hid_intro hp
      repeat' (first | refine WE.seqR ?_ | refine WO.nil ?_ | (refine WO.iaddrE ?_; simp only [setDst, V.ev, Nat.reduceEqDiff, getD_ne, *]; refine ⟨_, rfl, ?_⟩) | (refine WO.op1s ?_; simp only [opK, wanted, stepK, step, setDst, pureV, arith, intBin, evs, true_and, V.ev, Nat.reduceEqDiff, Nat.reduceLT, Bool.false_eq_true, getD_ne, getD_eq, List.length_set, if_true, if_false, *]; with_reducible show WO _ _ _ _ _) | (refine WO.callG (f := 41) (g := none) wB gg _ rfl (fun h1 w1 k1 => by (simp only [evs, V.ev, Nat.reduceEqDiff, Nat.reduceLT, getD_ne, getD_eq, List.length_set, *]); exact  (by have := contains_ok w1 (n := n) (Keep.ei k1 haK) (by omega); rw [e2] at this; exact this)) ?_; clear gg; (rintro _ hh gg rfl; simp only [setDst])) | refine WE.seqSkip ?_ | (refine WE.seqCond (t := true) ?hc (fun _ => ?_) (fun hh => Bool.noConfusion hh); case hc => simp only [V.ev, Nat.reduceLT, getD_eq, *]) | refine WE.skip ?_ | (refine WE.cond2 (t := false) ?hc (fun hh => Bool.noConfusion hh) (fun _ => ?_); case hc => simp only [V.ev, Nat.reduceLT, getD_eq, List.length_set, *]) | refine WE.region ?_ | refine WE.seqBlock ?_)
      exact ⟨k, by omega, A ++ [n], B, ⟨by rw [H.out.1]; simp, by have := H.out.2.1; simpa using this, hp.out⟩, gg, by simp only [List.length_set, hl], by (simp only [Nat.reduceEqDiff, getD_ne, *]; try rfl), by (simp only [Nat.reduceEqDiff, getD_ne, *]; try rfl), by (simp only [Nat.reduceEqDiff, getD_ne, *]; try rfl), by first | ((simp only [Nat.reduceLT, getD_eq, List.length_set, *]; try rfl); done) | ((simp only [Nat.reduceLT, getD_eq, List.length_set, *]; try rfl); simp)⟩

end Go.V
end

section
set_option linter.unusedVariables false
set_option linter.unusedSimpArgs false
set_option linter.unusedSectionVars false
-- BUILDS
-- NEW
set_option maxHeartbeats 4000000
namespace Go.V
attribute [local irreducible] stepK opK opV

end Go.V
end

section
set_option linter.unusedVariables false
set_option linter.unusedSimpArgs false
set_option linter.unusedSectionVars false
-- DRAWS
-- BUILDS
-- NEW
set_option maxHeartbeats 4000000
namespace Go.V
attribute [local irreducible] stepK opK opV

/-- A round that is not before any entry. -/
def nowI (es : List Ent) (later : Int) : Int := if h : es.length = 0 then later else es[es.length - 1].si + later

theorem now_ok {h : Heap} (w : Wf h) {s : Val} {es : List Ent} {later : Int} (hs : Es h s es) (hn : es.length ≤ 100) (hsi : ∀ e ∈ es, 0 ≤ e.si ∧ e.si ≤ 84) (hl : 0 ≤ later ∧ later < 256) : WC E35 20 [.agg [s], .int .u8 later] h fun v h' => Grow h h' ∧ v = .int .i64 (nowI es later) := by
  refine WC.fn1 (n := 23) rfl rfl (by rfl) ?_
  intro fr hfl ha
  have f0 : fr.getD 0 .undef = .agg [s] := ha 0
  have f1 : fr.getD 1 .undef = .int .u8 later := ha 1
  clear ha
  have hlen := hs.lenI
  have wl : IntKind.i64.wrap later = later := wrap_i64 (by omega) (by omega)
  unfold v20
  refine WE.seqR ?_
  (refine WO.op1 ?_; simp only [opK, wanted, setDst, *])
  refine stepK_box w (c := [s]) (by simp only [V.ev, *]; rfl) rfl fun b1 h1 g1 hb1 hg1 hn1 => ?_
  have l1 : h1.load b1 0 1 = some [s] := load_get hg1 (by simp)
  have hs1 := g1.kp.es hs
  clear hn1 hg1 hb1
  by_cases h0 : es.length = 0
  · have hd : ((es.length : Int) == 0) = true := by rw [h0]; rfl
    have hr : nowI es later = later := by unfold nowI; rw [dif_pos h0]
    replace h0 := hid_intro h0
    repeat' (first | refine WE.assoc ?_ | refine WE.seqR ?_ | refine WO.nil ?_ | (refine WO.lenOfE ?_; simp only [setDst, V.ev, Nat.reduceLT, getD_eq, List.length_set, *]; refine ⟨_, rfl, ?_⟩) | (refine WO.op1s ?_; simp only [opK, wanted, stepK, step, setDst, eqVal, eqAt, eqv, Val.isAgg, Val.cells, true_and, and_self, Bool.and_true, List.getElem?_cons_zero, V.ev, Nat.reduceEqDiff, Nat.reduceLT, Nat.add_zero, Bool.false_eq_true, getD_ne, getD_eq, List.length_set, if_true, if_false, Bool.not_true, *]; with_reducible show WO _ _ _ _ _) | refine WE.seqRet ?_ | (refine WE.seqCond (t := true) ?hc (fun _ => ?_) (fun hh => Bool.noConfusion hh); case hc => simp only [V.ev, Nat.reduceLT, getD_eq, List.length_set, *]))
    ((try dsimp only); refine Exists.intro _ ⟨(by (simp only [readResults, Nat.reduceLT, getD_eq, List.length_set, *]; try rfl)), ?_⟩)
    exact ⟨g1, by rfl⟩
  · have hd : ((es.length : Int) == 0) = false := by simp; intro e; simp [e] at h0
    obtain ⟨bx, o, he, _, _, _, l2⟩ := hs1.elt (k := .i64) (i := es.length - 1) (by omega)
    have hx := hsi es[es.length - 1] (List.getElem_mem (by omega))
    have hr : nowI es later = es[es.length - 1].si + later := by unfold nowI; rw [dif_neg h0]
    have ww : IntKind.i64.wrap (es[es.length - 1].si + later) = es[es.length - 1].si + later := wrap_i64 (by omega) (by omega)
    have wi : IntKind.i64.wrap ((es.length : Int) - 1) = ((es.length - 1 : Nat) : Int) := wrap_sub (b := 1) (by omega) (by omega)
    replace l2 := l2 _ (.refl _)
    replace h0 := hid_intro h0
    replace hx := hid_intro hx
    repeat' (first | refine WE.assoc ?_ | refine WE.seqR ?_ | refine WO.nil ?_ | (refine WO.lenOfE ?_; simp only [setDst, V.ev, Nat.reduceLT, getD_eq, List.length_set, *]; refine ⟨_, rfl, ?_⟩) | (refine WO.iaddrE ?_; simp only [setDst, V.ev, Nat.reduceEqDiff, Nat.reduceLT, getD_ne, getD_eq, List.length_set, *]; refine ⟨_, rfl, ?_⟩) | (refine WO.op1s ?_; simp only [opK, wanted, stepK, step, setDst, pureV, arith, intBin, eqVal, eqAt, eqv, Val.isAgg, Val.cells, true_and, and_self, Bool.and_true, List.getElem?_cons_zero, V.ev, Nat.reduceEqDiff, Nat.reduceLT, Nat.add_zero, Bool.false_eq_true, getD_ne, getD_eq, List.length_set, if_true, if_false, Bool.not_false, *]; with_reducible show WO _ _ _ _ _) | refine WE.seqSkip ?_ | (refine WE.seqCond (t := false) ?hc (fun hh => Bool.noConfusion hh) (fun _ => ?_); case hc => simp only [V.ev, Nat.reduceLT, getD_eq, List.length_set, *]) | refine WE.ret ?_)
    ((try dsimp only); refine Exists.intro _ ⟨(by (simp only [readResults, Nat.reduceLT, getD_eq, List.length_set, *]; try rfl)), ?_⟩)
    exact ⟨g1, by rfl⟩

def PlI (h : Heap) (s : Val) (l : List Int) (n : Int) (k : Nat) (fr : List Val) (h' : Heap) : Prop := h' = h ∧ ∃ (A B : List Int), Hid (l = A ++ B ∧ B.length = k ∧ n ∉ A) ∧ fr.length = 21 ∧ fr.getD 0 .undef = s ∧ fr.getD 1 .undef = .int .i64 n ∧ fr.getD 5 .undef = .int .i64 (A.length : Nat)

theorem placeN_ok {h : Heap} (w : Wf h) {s : Val} {l : List Int} {n : Int} (hs : Ei h s l) (hn : l.length < 4611686018427387904) : WC E35 24 [s, .int .i64 n] h fun v h' => Grow h h' ∧ v = .int .i64 (l.findIdx (fun x => x == n) : Nat) := by
  refine WC.fn1 (n := 21) rfl rfl (by rfl) ?_
  intro fr hl ha
  have f0 : fr.getD 0 .undef = s := ha 0
  have f1 : fr.getD 1 .undef = .int .i64 n := ha 1
  clear ha
  have hlen := Sl.lenI hs
  unfold v24
  repeat' (first | refine WE.assoc ?_ | refine WE.seqR ?_ | refine WO.nil ?_ | (refine WO.op1s ?_; simp only [opK, wanted, stepK, step, setDst, true_and, V.ev, *]; with_reducible show WO _ _ _ _ _) | refine WE.seqBlock ?_)
  refine WE.loop (PlI h s l n) ?_ l.length _ _ ⟨rfl, [], l, ⟨rfl, rfl, by simp⟩, by simp only [List.length_set, hl], by (simp only [getD_ne, reduceCtorEq, *]; try rfl), by (simp only [Nat.reduceEqDiff, getD_ne, *]; try rfl), by (simp only [Nat.reduceLT, getD_eq, List.length_set, *]; try rfl)⟩
  clear f0 f1 hl
  rintro k fr h' ⟨rfl, A, B, H, hl, f0, f1, f5⟩
  have hfi : ∀ C, (A ++ C).findIdx (fun x => x == n) = A.length + C.findIdx (fun x => x == n) := by
    intro C
    rw [List.findIdx_append, if_neg]
    · omega
    · rw [List.findIdx_lt_length]
      rintro ⟨x, hx, e⟩
      have : x = n := by simpa using e
      subst this
      exact H.out.2.2 hx
  match B, k, H with
  | [], 0, H =>
    have hA : l = A := by have := H.out.1; simpa using this
    have hd : decide ((A.length : Int) < (l.length : Int)) = false := decide_eq_false (by rw [hA]; omega)
    have hr : l.findIdx (fun x => x == n) = l.length := by
      have := hfi []
      rw [List.append_nil] at this
      rw [hA, this]; rfl
    replace hA := hid_intro hA
    replace hr := hid_intro hr
    clear hfi
    repeat' (first | refine WE.assoc ?_ | refine WE.seqR ?_ | refine WO.nil ?_ | (refine WO.lenOfE ?_; simp only [setDst, V.ev, Nat.reduceLT, getD_eq, List.length_set, *]; refine ⟨_, rfl, ?_⟩) | (refine WO.op1s ?_; simp only [opK, wanted, stepK, step, setDst, pureV, arith, intBin, true_and, V.ev, Nat.reduceEqDiff, Nat.reduceLT, getD_ne, getD_eq, List.length_set, if_true, reduceCtorEq, *]; with_reducible show WO _ _ _ _ _) | refine WE.seqExit ?_ | (refine WE.seqCond (t := false) ?hc (fun hh => Bool.noConfusion hh) (fun _ => ?_); case hc => simp only [V.ev, Nat.reduceLT, getD_eq, List.length_set, *]) | refine WE.ret ?_)
    ((try dsimp only); refine Exists.intro _ ⟨(by (simp only [readResults, Nat.reduceLT, getD_eq, List.length_set, *]; try rfl)), ?_⟩)
    exact ⟨.refl _, by rw [hr.out]; rfl⟩
  | x :: B, k + 1, H =>
    have hlt : A.length < l.length := by rw [H.out.1]; simp
    have hd : decide ((A.length : Int) < (l.length : Int)) = true := decide_eq_true (by omega)
    have hz : l[A.length] = x := by have := H.out.1; simp [this]
    obtain ⟨bx, o, he, l1⟩ := Ei.elt hs (k := .i64) hlt
    rw [hz] at l1
    replace l1 := l1 _ (.refl _)
    have hwi : IntKind.i64.wrap ((A.length : Int) + 1) = ((A.length + 1 : Nat) : Int) := wrap_add (b := 1) (by omega)
    replace hlt := hid_intro hlt
    replace hz := hid_intro hz
    replace hfi := hid_intro hfi
    by_cases hx : x = n
    · have e2 : (x == n) = true := by simpa using hx
      replace hx := hid_intro hx
      repeat' (first | refine WE.assoc ?_ | refine WE.seqR ?_ | refine WO.nil ?_ | (refine WO.lenOfE ?_; simp only [setDst, V.ev, Nat.reduceLT, getD_eq, List.length_set, *]; refine ⟨_, rfl, ?_⟩) | (refine WO.iaddrE ?_; simp only [setDst, V.ev, Nat.reduceEqDiff, Nat.reduceLT, getD_ne, getD_eq, List.length_set, *]; refine ⟨_, rfl, ?_⟩) | (refine WO.op1s ?_; simp only [opK, wanted, stepK, step, setDst, pureV, arith, intBin, eqVal, eqAt, eqv, Val.isAgg, Val.cells, true_and, and_self, Bool.and_true, List.getElem?_cons_zero, V.ev, Nat.reduceEqDiff, Nat.reduceLT, Bool.false_eq_true, getD_ne, getD_eq, List.length_set, if_true, if_false, reduceCtorEq, Bool.not_true, *]; with_reducible show WO _ _ _ _ _) | refine WE.seqSkip ?_ | (refine WE.seqCond (t := true) ?hc (fun _ => ?_) (fun hh => Bool.noConfusion hh); case hc => simp only [V.ev, Nat.reduceLT, getD_eq, List.length_set, *]) | (refine WE.cond2 (t := true) ?hc (fun _ => ?_) (fun hh => Bool.noConfusion hh); case hc => simp only [V.ev, Nat.reduceLT, getD_eq, List.length_set, *]) | refine WE.ret ?_ | refine WE.seqBlock ?_ | (with_reducible show blockQ _ _ _ _ _; simp only [blockQ, seqQ]))
      ((try dsimp only); refine Exists.intro _ ⟨(by (simp only [readResults, Nat.reduceLT, getD_eq, List.length_set, *]; try rfl)), ?_⟩)
      refine ⟨.refl _, ?_⟩
      rw [H.out.1, hfi.out, List.findIdx_cons, e2]
      rfl
    · have e2 : (x == n) = false := by simpa using hx
      replace hx := hid_intro hx
      repeat' (first | refine WE.assoc ?_ | refine WE.seqR ?_ | refine WO.nil ?_ | (refine WO.lenOfE ?_; simp only [setDst, V.ev, Nat.reduceLT, getD_eq, List.length_set, *]; refine ⟨_, rfl, ?_⟩) | (refine WO.iaddrE ?_; simp only [setDst, V.ev, Nat.reduceEqDiff, Nat.reduceLT, getD_ne, getD_eq, List.length_set, *]; refine ⟨_, rfl, ?_⟩) | (refine WO.op1s ?_; simp only [opK, wanted, stepK, step, setDst, pureV, arith, intBin, eqVal, eqAt, eqv, Val.isAgg, Val.cells, true_and, and_self, Bool.and_true, List.getElem?_cons_zero, V.ev, Nat.reduceEqDiff, Nat.reduceLT, Bool.false_eq_true, getD_ne, getD_eq, List.length_set, if_true, if_false, reduceCtorEq, Bool.not_false, *]; with_reducible show WO _ _ _ _ _) | refine WE.seqSkip ?_ | (refine WE.seqCond (t := true) ?hc (fun _ => ?_) (fun hh => Bool.noConfusion hh); case hc => simp only [V.ev, Nat.reduceLT, getD_eq, List.length_set, *]) | refine WE.skip ?_ | (refine WE.cond2 (t := false) ?hc (fun hh => Bool.noConfusion hh) (fun _ => ?_); case hc => simp only [V.ev, Nat.reduceLT, getD_eq, List.length_set, *]) | refine WE.region ?_ | refine WE.seqBlock ?_)
      exact ⟨k, by omega, rfl, A ++ [x], B, ⟨by rw [H.out.1]; simp, by have := H.out.2.1; simpa using this, by rw [List.mem_append, List.mem_singleton]; rintro (q | q); exact H.out.2.2 q; exact hx.out q.symm⟩, by simp only [List.length_set, hl], by (simp only [getD_ne, reduceCtorEq, *]; try rfl), by (simp only [Nat.reduceEqDiff, getD_ne, *]; try rfl), by first | ((simp only [Nat.reduceLT, getD_eq, List.length_set, *]; try rfl); done) | ((simp only [Nat.reduceLT, getD_eq, List.length_set, *]; try rfl); simp)⟩

end Go.V
end

section
set_option linter.unusedVariables false
set_option linter.unusedSimpArgs false
set_option linter.unusedSectionVars false
-- DRAWS
-- BUILDS
-- NEW
set_option maxHeartbeats 8000000
namespace Go.V
attribute [local irreducible] stepK opK opV

theorem nodup_sorted {k : Ent → Int} {Z : List Ent} (s : Z.Pairwise (ltE k)) : Z.Nodup := s.imp fun h e => by subst e; exact ltE.irr h

theorem sorted_ex {es : List Ent} {k : Ent → Int} (hid : es.Pairwise fun x y => x.id < y.id) (hk : ∀ e ∈ es, 0 ≤ k e ∧ k e < 8) : ∃ Z : List Ent, Z.Perm es ∧ Z.Pairwise (ltE k) ∧ Z.map Ent.id = ordL k es 8 := by
  have s := cls_sorted (k := k) hid 8
  refine ⟨_, ?_, s, by rw [List.map_flatMap]; rfl⟩
  refine (List.perm_ext_iff_of_nodup (nodup_sorted s) (hid.imp fun h e => by subst e; omega)).2 fun x => ?_
  rw [List.mem_flatMap]
  constructor
  · rintro ⟨c, _, hx⟩
    exact (List.mem_filter.1 hx).1
  · intro hx
    have := hk x hx
    refine ⟨(k x).toNat, by simp; omega, ?_⟩
    unfold clsE
    rw [List.mem_filter]
    exact ⟨hx, by simp; omega⟩

theorem ordRes_good {es : List Ent} {ro ag : Int} (hc : chk es = 0) (hr : rightB ro ag = true) (hb : badR es ro = false) : ordRes es ro ag = (ordL (keyI ro ag) es 8, 0) := by
  simp only [ordRes, hc, Int.lt_irrefl, if_false, hr, hb, Bool.true_eq_false, Bool.false_eq_true, or_self]

theorem badR_none {es : List Ent} {ro : Int} (h : ∀ e ∈ es, e.si ≤ ro) : badR es ro = false := by
  unfold badR
  rw [List.any_eq_false]
  intro x hx
  have := h x hx
  simp; omega

theorem low_si {es : List Ent} {j : Nat} (hj : j < es.length) {c ro : Int} (h : ∀ e ∈ es, e.si ≤ ro) : ∀ e ∈ lowOf es j c, e.si ≤ ro := by
  intro e he
  rw [low_split hj] at he
  rcases List.mem_append.1 he with he | he
  · exact h e (List.mem_of_mem_take he)
  · rcases List.mem_cons.1 he with rfl | he
    · exact h es[j] (List.getElem_mem hj)
    · exact h e (List.mem_of_mem_drop he)

/-- What the law knows of its queue. -/
structure RQ (es : List Ent) (ro ag : Int) : Prop where
  ck : chk es = 0
  ln : es.length ≤ 12
  sis : ∀ e ∈ es, 0 ≤ e.si ∧ e.si ≤ 84
  rb : 0 ≤ ro ∧ ro ≤ 400
  le : ∀ e ∈ es, e.si ≤ ro
  ab : 1 ≤ ag ∧ ag ≤ 64

theorem RQ.right {es : List Ent} {ro ag : Int} (q : RQ es ro ag) : rightB ro ag = true := by rw [rightB_iff]; have := q.ab; have := q.rb; omega
theorem RQ.bad {es : List Ent} {ro ag : Int} (q : RQ es ro ag) : badR es ro = false := badR_none q.le
theorem RQ.ord {es : List Ent} {ro ag : Int} (q : RQ es ro ag) : ordRes es ro ag = (ordL (keyI ro ag) es 8, 0) := ordRes_good q.ck q.right q.bad
theorem RQ.sorted {es : List Ent} {ro ag : Int} (q : RQ es ro ag) : ∃ Z : List Ent, Z.Perm es ∧ Z.Pairwise (ltE (keyI ro ag)) ∧ Z.map Ent.id = ordL (keyI ro ag) es 8 := sorted_ex (chk_ids q.ck) (key_range q.ck q.right q.bad)
theorem RQ.len8 {es : List Ent} {ro ag : Int} (q : RQ es ro ag) : (ordL (keyI ro ag) es 8).length = es.length := by
  obtain ⟨Z, p, _, e⟩ := q.sorted
  rw [← e, List.length_map, p.length_eq]
theorem RQ.mem {es : List Ent} {ro ag : Int} (q : RQ es ro ag) {i : Nat} (hi : i < es.length) : es[i].id ∈ ordL (keyI ro ag) es 8 := by
  obtain ⟨Z, p, _, e⟩ := q.sorted
  rw [← e]
  exact List.mem_map_of_mem (p.mem_iff.2 (List.getElem_mem hi))

theorem RQ.low {es : List Ent} {ro ag : Int} (q : RQ es ro ag) {j : Nat} (hj : j < es.length) {c : Int} (hc : 0 ≤ c) : RQ (lowOf es j c) ro ag := by
  refine ⟨chk_low q.ck hj hc, by rw [lowOf_len]; exact q.ln, ?_, q.rb, low_si hj q.le, q.ab⟩
  intro e he
  rw [low_split hj] at he
  rcases List.mem_append.1 he with he | he
  · exact q.sis e (List.mem_of_mem_take he)
  · rcases List.mem_cons.1 he with rfl | he
    · exact q.sis es[j] (List.getElem_mem hj)
    · exact q.sis e (List.mem_of_mem_drop he)

theorem RQ.place {es : List Ent} {ro ag : Int} (q : RQ es ro ag) {j : Nat} (hj : j < es.length) {c : Int} (hc : 0 ≤ c) :
    (ordL (keyI ro ag) (lowOf es j c) 8).findIdx (fun n => n == es[j].id) ≤ (ordL (keyI ro ag) es 8).findIdx (fun n => n == es[j].id) := by
  obtain ⟨Z, p, s, e⟩ := q.sorted
  obtain ⟨Z', p', s', e'⟩ := (q.low hj hc).sorted
  rw [← e, ← e']
  have := q.rb
  exact low_place q.ck hj hc q.ab (by omega) q.bad p s p' s'

theorem RQ.ripe {es : List Ent} {ro ag : Int} (q : RQ es ro ag) {i : Nat} (hi : i < es.length) : ripeRes es[i].id es[i].cl es[i].si ag = .tup [.int .i64 (es[i].si + es[i].cl * ag), .int .i64 0] ∧ (es[i].si + es[i].cl * ag ≤ ro → keyI ro ag es[i] = 0) := by
  have hv := (chk_valid q.ck).2.1 _ (List.getElem_mem hi)
  have hv' := validB_iff.1 hv
  have ha := q.ab
  have hs := q.sis _ (List.getElem_mem hi)
  have hr : rightB 0 ag = true := by rw [rightB_iff]; omega
  have hro := q.rb
  have hle := q.le _ (List.getElem_mem hi)
  have h1 : 0 ≤ es[i].cl * ag := Int.mul_nonneg (by omega) (by omega)
  have h2 : es[i].cl * ag ≤ 7 * 64 := by
    have a := Int.mul_le_mul_of_nonneg_right (show es[i].cl ≤ 7 by omega) (show 0 ≤ ag by omega)
    have b := Int.mul_le_mul_of_nonneg_left (show ag ≤ 64 by omega) (show (0 : Int) ≤ 7 by omega)
    omega
  constructor
  · unfold ripeRes
    have e1 : IntKind.i64.wrap (es[i].cl * ag) = es[i].cl * ag := wrap_i64 (by omega) (by omega)
    rw [if_pos ⟨hv, hr⟩, e1, wrap_i64 (by omega) (by omega)]
  · intro h
    unfold keyI
    rw [effI_eq (by omega) (by omega) (by omega)]
    exact (ripe_iff (by omega)).2 (by omega)

theorem RQ.before {es : List Ent} {ro ag : Int} (q : RQ es ro ag) {i : Nat} (hi : i < es.length) (hr : keyI ro ag es[i] = 0) {A B : List Int} {n : Int} (hz : ordL (keyI ro ag) es 8 = A ++ n :: B) (hA : es[i].id ∉ A) (hn : n ≠ es[i].id) : ∃ j : Nat, atI es n = j ∧ j ≤ i := by
  obtain ⟨Z, p, s, e⟩ := q.sorted
  rw [← e] at hz
  exact ripe_before q.ck (key_range q.ck q.right q.bad) p s hi hr hz hA hn

theorem RQ.lower {es : List Ent} {ro ag : Int} (q : RQ es ro ag) {j : Nat} (hj : j < es.length) {c : Int} (hc : 0 ≤ c ∧ c < 8) : lowerRes es es[j].id c = (lowOf es j c, 0) := by
  unfold lowerRes
  rw [if_neg (by rw [q.ck]; omega), if_neg (by omega), atI_of q.ck hj, if_neg (by omega)]
  rfl

theorem pick_all {l : List Int} {n : Int} {B : List Int} (h : l = n :: B) : pickL l l = some n := by
  subst h
  simp [pickL]

def RiF (b5 b7 : Nat) (ag ro : Int) (lv : Val) (fr : List Val) : Prop := fr.length = 190 ∧ fr.getD 5 .undef = .ptr b5 0 ∧ fr.getD 7 .undef = .ptr b7 0 ∧ fr.getD 8 .undef = .int .i64 ag ∧ fr.getD 9 .undef = .int .i64 ro ∧ fr.getD 10 .undef = lv

def RiI (h0 : Heap) (b5 b7 : Nat) (ag ro : Int) (lv : Val) (n : Nat) (k : Nat) (fr : List Val) (h' : Heap) : Prop := Grow h0 h' ∧ ∃ i : Nat, Hid (i + k = n) ∧ RiF b5 b7 ag ro lv fr ∧ fr.getD 12 .undef = .int .i64 (i : Nat)

def RiJ (h0 : Heap) (b5 b7 : Nat) (ag ro : Int) (lv : Val) (l : List Int) (i : Nat) (n : Int) (k : Nat) (fr : List Val) (h' : Heap) : Prop := Grow h0 h' ∧ ∃ A B : List Int, Hid (l = A ++ B ∧ B.length = k ∧ n ∉ A) ∧ RiF b5 b7 ag ro lv fr ∧ fr.getD 12 .undef = .int .i64 (i : Nat) ∧ fr.getD 15 .undef = .int .i64 (A.length : Nat)

theorem lawRipe_ok {h : Heap} (w : Wf h) {s : Val} {T : List Tri} {later z0 z1 : Int} (hs : Sl h s 3 T.length (T.flatMap Tri.cells)) (ht : ∀ t ∈ T, t.ok) (hla : 0 ≤ later ∧ later < 256) (hz0 : 0 ≤ z0 ∧ z0 < 256) (hz1 : 0 ≤ z1 ∧ z1 < 256) :
    WC E35 5 [.agg [s], .int .u8 later, .agg [.int .u8 z0, .int .u8 z1]] h fun v h' => Grow h h' ∧ v = .bool true := by
  refine WC.fn1 (n := 190) rfl rfl (by rfl) ?_
  intro fr hl hx
  have a0 : fr.getD 0 .undef = .agg [s] := hx 0
  have a1 : fr.getD 1 .undef = .int .u8 later := hx 1
  have a2 : fr.getD 2 .undef = .agg [.int .u8 z0, .int .u8 z1] := hx 2
  clear hx
  unfold v5
  refine WE.seqR ?_
  (refine WO.op1 ?_; simp only [opK, wanted, setDst, *])
  refine stepK_box w (c := [s]) (by simp only [V.ev, *]; rfl) rfl fun b3 h1 g1 hb1 hg1 hn1 => ?_
  (refine WO.op1 ?_; simp only [opK, wanted, setDst, *])
  refine stepK_box (g1.wf w) (c := [.int .u8 z0, .int .u8 z1]) (by simp only [V.ev, Nat.reduceEqDiff, getD_ne, *]; rfl) rfl fun b5 h2 g2 hb2 hg2 hn2 => ?_
  have gA := g1.trans g2
  have w2 := gA.wf w
  have l3 : h2.load b3 0 1 = some [s] := (Grow.refl h2).part (g2.keep _ _ hg1) (by simp)
  have l5a : ∀ h', Grow h2 h' → h'.load b5 0 1 = some [.int .u8 z0] := fun h' g => g.part hg2 (by simp)
  have l5b : ∀ h', Grow h2 h' → h'.load b5 1 1 = some [.int .u8 z1] := fun h' g => g.part hg2 (by simp)
  have hs2 := Keep.sl gA.kp hs
  clear hn1 hn2 hg1 hg2 hb1 hb2 g1 g2 hs
  repeat' (first | refine WE.seqR ?_ | refine WO.nil ?_ | (refine WO.op1s ?_; simp only [opK, wanted, stepK, step, setDst, evs, true_and, V.ev, Nat.reduceEqDiff, Nat.reduceLT, getD_ne, getD_eq, List.length_set, if_true, *]; with_reducible show WO _ _ _ _ _))
  refine WO.call rfl ?_
  (simp only [evs, V.ev, Nat.reduceLT, getD_eq, List.length_set, *])
  refine (of_ok w2 hs2 ht).mono ?_
  rintro _ h3 ⟨g3, u, rfl, o3⟩
  obtain ⟨hck, hln, hsi⟩ := ofT_ok ht
  have hes3 := o3.es
  have cu := hes3.cells1
  simp only [setDst]
  clear l3 hs2
  (refine WO.op1 ?_; simp only [opK, wanted, setDst, *])
  refine stepK_alloc (g3.wf w2) fun b7 h4 g4 hb4 hg4 hn4 => ?_
  (refine WO.op1 ?_; simp only [opK, wanted, setDst, *])
  refine stepK_store (b := b7) (o := 0) (cs := [.nils]) (us := [u]) (by (simp only [V.ev, Nat.reduceLT, getD_eq, List.length_set, *]; try rfl)) (by (simp only [V.ev, Nat.reduceEqDiff, Nat.reduceLT, getD_ne, getD_eq, List.length_set, *]; try rfl)) (by rfl) hg4 (by rw [g4.floor, g3.floor]; have := w2.fl; have := g3.next; omega) (by simp) (by simp [cu.2]) fun h5 k5 => ?_
  have g5 : Grow h3 h5 := g4.wrote hb4 (g3.wf w2) k5
  have gB := g3.trans g5
  have w5 := gB.wf w2
  have l7 : ∀ h', Grow h5 h' → h'.load b7 0 1 = some [u] := fun h' g => g.part k5.at_ (by simp [splice])
  have m5a : ∀ h', Grow h5 h' → h'.load b5 0 1 = some [.int .u8 z0] := fun h' g => l5a h' (gB.trans g)
  have m5b : ∀ h', Grow h5 h' → h'.load b5 1 1 = some [.int .u8 z1] := fun h' g => l5b h' (gB.trans g)
  have hes := g5.kp.es hes3
  clear l5a l5b hes3 o3 k5 g4 hb4 hg4 hn4 g5 g3
  generalize ofT T = es at *
  have hsi0 : ∀ e ∈ es, 0 ≤ e.si ∧ e.si ≤ 84 := fun e he => ⟨(validB_iff.1 ((chk_valid hck).2.1 e he)).2.2.2.1, hsi e he⟩
  have z64 : ((64 : Int) = 0) = False := by simp
  have e64 := tmod_nat (m := 64) hz0.1 hz0.2 (by omega) (by omega)
  obtain ⟨ag, hag⟩ : ∃ ag, ag = 1 + z0 % 64 := ⟨_, rfl⟩
  have ea : IntKind.i64.wrap (1 + z0 % 64) = ag := by rw [hag]; exact wrap_i64 (by omega) (by omega)
  have l7' := l7 _ (.refl _)
  have m5a' := m5a _ (.refl _)
  replace hag := hid_intro hag
  repeat' (first | refine WE.seqR ?_ | refine WO.nil ?_ | (refine WO.op1s ?_; simp only [opK, wanted, stepK, step, setDst, pureV, arith, intBin, evs, true_and, and_self, V.ev, Nat.reduceEqDiff, Nat.reduceLT, Nat.add_zero, Nat.reduceMul, Int.reduceLE, Int.reduceLT, Int.reduceToNat, Bool.false_eq_true, Int.cast_ofNat_Int, getD_ne, getD_eq, List.length_set, if_true, if_false, *]; with_reducible show WO _ _ _ _ _))
  refine WO.call rfl ?_
  (simp only [evs, V.ev, Nat.reduceEqDiff, Nat.reduceLT, getD_ne, getD_eq, List.length_set, *])
  refine (now_ok w5 hes (by omega) hsi0 hla).mono ?_
  rintro _ h6 ⟨g6, rfl⟩
  obtain ⟨ro, hro⟩ : ∃ ro, nowI es later = ro := ⟨_, rfl⟩
  rw [hro]
  have q : RQ es ro ag := by
    have hle : (0 ≤ ro ∧ ro ≤ 400) ∧ ∀ e ∈ es, e.si ≤ ro := by
      rw [← hro]
      unfold nowI
      by_cases h0 : es.length = 0
      · rw [dif_pos h0]
        refine ⟨by omega, fun e he => ?_⟩
        have := List.length_pos_of_mem he
        omega
      · rw [dif_neg h0]
        have h1 := hsi0 es[es.length - 1] (List.getElem_mem (by omega))
        refine ⟨by omega, fun e he => ?_⟩
        obtain ⟨i, hi, rfl⟩ := List.getElem_of_mem he
        have := si_mono hck (es.length - 1) i (by omega) (by omega)
        omega
    exact ⟨hck, hln, hsi0, hle.1, hle.2, by have := hag.out; omega⟩
  replace hro := hid_intro hro
  have w6 := g6.wf w5
  have hes6 := g6.kp.es hes
  have l7' := l7 _ g6
  clear m5a' z64 e64 ea hsi0 hsi hck hln
  simp only [setDst]
  clear l7'
  have l7' := l7 _ g6
  repeat' (first | refine WE.seqR ?_ | refine WO.nil ?_ | (refine WO.op1s ?_; simp only [opK, wanted, stepK, step, setDst, evs, true_and, V.ev, Nat.reduceEqDiff, Nat.reduceLT, getD_ne, getD_eq, List.length_set, if_true, *]; with_reducible show WO _ _ _ _ _))
  refine WO.call rfl ?_
  (simp only [evs, V.ev, Nat.reduceEqDiff, Nat.reduceLT, getD_ne, getD_eq, List.length_set, *])
  refine (order_ok w6 hes6 (by have := q.ln; omega)).mono ?_
  rintro _ h7 ⟨g7, lv, rfl, o7⟩
  rw [q.ord] at o7 ⊢
  simp only at o7 ⊢
  have hll := q.len8
  have hml := hid_intro (fun i hi => q.mem (i := i) hi)
  have hpl := hid_intro (fun (j : Nat) (hj : j < es.length) (c : Int) (hc : 0 ≤ c) => q.place hj hc)
  have hbf := hid_intro (fun (i : Nat) (hi : i < es.length) (hr : keyI ro ag es[i] = 0) (A B : List Int) (n : Int) => q.before hi hr (A := A) (B := B) (n := n))
  have hq := hid_intro q
  generalize hL : ordL (keyI ro ag) es 8 = l at *
  replace hL := hid_intro hL
  have hel : Ei h7 lv l := o7.es
  have g57 := g6.trans g7
  have w7 := g57.wf w5
  have hes7 := g57.kp.es hes
  have r7 : ∀ h', Grow h7 h' → h'.load b7 0 1 = some [u] := fun h' g => l7 h' (g57.trans g)
  have r5 : ∀ h', Grow h7 h' → h'.load b5 1 1 = some [.int .u8 z1] := fun h' g => m5b h' (g57.trans g)
  have gC := gA.trans (gB.trans g57)
  clear l7 l7' m5a m5b o7 g6 g7 g57 hes6 hes w6 w5 q gA gB w2
  have hlu := hes7.lenI
  have hlv := Sl.lenI hel
  rw [hll] at hlv
  have r7' := r7 _ (.refl _)
  have e00 : ((0 : Int) == 0) = true := rfl
  have enn : ((es.length : Int) == (es.length : Int)) = true := by simp
  simp only [setDst]
  repeat' (first | refine WE.assoc ?_ | refine WE.seqR ?_ | refine WO.nil ?_ | (refine WO.lenOfE ?_; simp only [setDst, V.ev, Nat.reduceLT, getD_eq, List.length_set, *]; refine ⟨_, rfl, ?_⟩) | (refine WO.op1s ?_; simp only [opK, wanted, stepK, step, setDst, eqVal, eqAt, eqv, Val.isAgg, Val.cells, true_and, and_self, Bool.and_true, List.getElem?_cons_zero, List.getElem?_cons_succ, V.ev, Nat.reduceEqDiff, Nat.reduceLT, Nat.add_zero, Bool.false_eq_true, beq_self_eq_true, getD_ne, getD_eq, List.length_set, if_true, if_false, Bool.not_true, *]; with_reducible show WO _ _ _ _ _) | refine WE.seqSkip ?_ | (refine WE.seqCond (t := false) ?hc (fun hh => Bool.noConfusion hh) (fun _ => ?_); case hc => simp only [V.ev, Nat.reduceLT, getD_eq, List.length_set, *]) | (refine WO.known ?hc ?_; case hc => (simp only [wanted, Bool.false_beq, Nat.reduceEqDiff, Nat.reduceLT, getD_ne, getD_eq, List.length_set, Bool.not_false, *])) | refine WE.seqBlock ?_)
  refine WE.mono (Q := fun ex fr h => ex = .exit 0 ∧ Grow h7 h ∧ RiF b5 b7 ag ro lv fr) ?_ ?_
  · refine WE.loop (RiI h7 b5 b7 ag ro lv es.length) ?_ es.length _ _ ⟨.refl _, 0, ⟨by omega⟩, ⟨by simp only [List.length_set, hl], by (simp only [Nat.reduceEqDiff, Nat.reduceLT, getD_ne, getD_eq, List.length_set, *]; try rfl), by (simp only [Nat.reduceEqDiff, Nat.reduceLT, getD_ne, getD_eq, List.length_set, *]; try rfl), by (simp only [Nat.reduceEqDiff, Nat.reduceLT, getD_ne, getD_eq, List.length_set, *]; try rfl), by (simp only [Nat.reduceEqDiff, Nat.reduceLT, getD_ne, getD_eq, List.length_set, *]; try rfl), by (simp only [Nat.reduceEqDiff, Nat.reduceLT, getD_ne, getD_eq, List.length_set, *]; try rfl)⟩, by (simp only [Nat.reduceLT, Int.cast_ofNat_Int, getD_eq, List.length_set, *]; try rfl)⟩
    clear a0 a1 a2 hl r7' enn
    rintro k fr h ⟨gg, i, H, ⟨hl, f5, f7, f8, f9, f10⟩, f12⟩
    have wB := w7
    by_cases hi : i < es.length
    · have hd : decide ((i : Int) < (es.length : Int)) = true := decide_eq_true (by omega)
      obtain ⟨bx, o, he, x3, x0, _, _⟩ := hes7.elt (k := .i64) hi
      have e1 : (if es[i].id ∈ l then (1 : Int) else 0) = 1 := if_pos (hml.out i hi)
      have e2 : ((1 : Int) == 0) = false := rfl
      obtain ⟨hr1, hr2⟩ := hq.out.ripe hi
      have wn : IntKind.i64.wrap ((i : Int) + 1) = ((i + 1 : Nat) : Int) := wrap_add (b := 1) (by have := hq.out.ln; omega)
      have hlen := hq.out.ln
      replace hlen := hid_intro hlen
      replace hi := hid_intro hi
      have c15 := fun h1 (w1 : Wf h1) => Ripe_ok w1 (id := es[i].id) (cl := es[i].cl) (si := es[i].si) (ag := ag)
      rw [hr1] at c15
      have c21 := fun h1 (w1 : Wf h1) (k1 : Keep h7 h1) => has_ok w1 (n := es[i].id) (Keep.ei k1 hel) (by rw [hll]; have := hlen.out; omega)
      rw [e1] at c21
      replace c15 := hid_intro c15
      replace c21 := hid_intro c21
      clear e1 hr1
      by_cases hrp : ro < es[i].si + es[i].cl * ag
      · have hd2 : decide (ro < es[i].si + es[i].cl * ag) = true := decide_eq_true hrp
        replace hrp := hid_intro hrp
        clear hr2
        repeat' (first | refine WE.assoc ?_ | refine WE.seqR ?_ | refine WO.nil ?_ | (refine WO.lenOfE ?_; simp only [setDst, V.ev, Nat.reduceLT, getD_eq, List.length_set, *]; refine ⟨_, rfl, ?_⟩) | (refine WO.iaddrE ?_; simp only [setDst, V.ev, Nat.reduceEqDiff, Nat.reduceLT, getD_ne, getD_eq, List.length_set, *]; refine ⟨_, rfl, ?_⟩) | (refine WO.op1s ?_; simp only [opK, wanted, stepK, step, setDst, pureV, arith, intBin, evs, eqVal, eqAt, eqv, Val.isAgg, Val.cells, true_and, and_self, Bool.and_true, List.getElem?_cons_zero, List.getElem?_cons_succ, V.ev, Nat.reduceEqDiff, Nat.reduceLT, Nat.add_zero, Bool.false_eq_true, beq_self_eq_true, getD_ne, getD_eq, List.length_set, if_true, if_false, Bool.not_true, Bool.not_false, *]; with_reducible show WO _ _ _ _ _) | (refine WO.callG (f := 21) (g := none) wB gg _ rfl (fun h1 w1 k1 => by (simp only [evs, V.ev, Nat.reduceEqDiff, Nat.reduceLT, getD_ne, getD_eq, List.length_set, *]); exact  c21.out _ w1 k1) ?_; clear gg; (rintro _ hh gg rfl; simp only [setDst])) | (refine WO.callG (f := 15) (g := none) wB gg _ rfl (fun h1 w1 k1 => by (simp only [evs, V.ev, Nat.reduceEqDiff, Nat.reduceLT, getD_ne, getD_eq, List.length_set, *]); exact  c15.out _ w1) ?_; clear gg; (rintro _ hh gg rfl; simp only [setDst])) | refine WE.seqSkip ?_ | refine WE.seqExit ?_ | (refine WE.seqCond (t := true) ?hc (fun _ => ?_) (fun hh => Bool.noConfusion hh); case hc => simp only [V.ev, Nat.reduceLT, getD_eq, List.length_set, *]) | (refine WE.seqCond (t := false) ?hc (fun hh => Bool.noConfusion hh) (fun _ => ?_); case hc => simp only [V.ev, Nat.reduceLT, getD_eq, List.length_set, *]) | refine WE.region ?_ | refine WE.seqBlock ?_)
        exact ⟨k - 1, by have := H.out; have := hi.out; omega, gg, i + 1, ⟨by have := H.out; have := hi.out; omega⟩, ⟨by simp only [List.length_set, hl], by (simp only [Nat.reduceEqDiff, getD_ne, *]; try rfl), by (simp only [Nat.reduceEqDiff, getD_ne, *]; try rfl), by (simp only [Nat.reduceEqDiff, getD_ne, *]; try rfl), by (simp only [Nat.reduceEqDiff, getD_ne, *]; try rfl), by (simp only [Nat.reduceEqDiff, getD_ne, *]; try rfl)⟩, by (simp only [Nat.reduceLT, getD_eq, List.length_set, *]; try rfl)⟩
      · have hd2 : decide (ro < es[i].si + es[i].cl * ag) = false := decide_eq_false hrp
        have hkey := hid_intro (hr2 (by omega))
        replace hrp := hid_intro hrp
        clear hr2
        repeat' (first | refine WE.assoc ?_ | refine WE.seqR ?_ | refine WO.nil ?_ | (refine WO.lenOfE ?_; simp only [setDst, V.ev, Nat.reduceLT, getD_eq, List.length_set, *]; refine ⟨_, rfl, ?_⟩) | (refine WO.iaddrE ?_; simp only [setDst, V.ev, Nat.reduceEqDiff, Nat.reduceLT, getD_ne, getD_eq, List.length_set, *]; refine ⟨_, rfl, ?_⟩) | (refine WO.op1s ?_; simp only [opK, wanted, stepK, step, setDst, pureV, arith, intBin, evs, eqVal, eqAt, eqv, Val.isAgg, Val.cells, true_and, and_self, Bool.and_true, List.getElem?_cons_zero, List.getElem?_cons_succ, V.ev, Nat.reduceEqDiff, Nat.reduceLT, Nat.add_zero, Bool.false_eq_true, beq_self_eq_true, getD_ne, getD_eq, List.length_set, if_true, if_false, Bool.not_true, Bool.not_false, *]; with_reducible show WO _ _ _ _ _) | (refine WO.callG (f := 21) (g := none) wB gg _ rfl (fun h1 w1 k1 => by (simp only [evs, V.ev, Nat.reduceEqDiff, Nat.reduceLT, getD_ne, getD_eq, List.length_set, *]); exact  c21.out _ w1 k1) ?_; clear gg; (rintro _ hh gg rfl; simp only [setDst])) | (refine WO.callG (f := 15) (g := none) wB gg _ rfl (fun h1 w1 k1 => by (simp only [evs, V.ev, Nat.reduceEqDiff, Nat.reduceLT, getD_ne, getD_eq, List.length_set, *]); exact  c15.out _ w1) ?_; clear gg; (rintro _ hh gg rfl; simp only [setDst])) | refine WE.seqSkip ?_ | (refine WE.seqCond (t := true) ?hc (fun _ => ?_) (fun hh => Bool.noConfusion hh); case hc => simp only [V.ev, Nat.reduceLT, getD_eq, List.length_set, *]) | (refine WE.seqCond (t := false) ?hc (fun hh => Bool.noConfusion hh) (fun _ => ?_); case hc => simp only [V.ev, Nat.reduceLT, getD_eq, List.length_set, *]) | refine WE.seqBlock ?_ | refine WE.block ?_)
        refine WE.mono (Q := fun ex fr h => ex = .exit 2 ∧ Grow h7 h ∧ RiF b5 b7 ag ro lv fr ∧ fr.getD 12 .undef = .int .i64 (i : Nat)) ?_ ?_
        · refine WE.loop (RiJ h7 b5 b7 ag ro lv l i es[i].id) ?_ l.length _ _ ⟨gg, [], l, ⟨rfl, rfl, by simp⟩, ⟨by simp only [List.length_set, hl], by (simp only [Nat.reduceEqDiff, getD_ne, *]; try rfl), by (simp only [Nat.reduceEqDiff, getD_ne, *]; try rfl), by (simp only [Nat.reduceEqDiff, getD_ne, *]; try rfl), by (simp only [Nat.reduceEqDiff, getD_ne, *]; try rfl), by (simp only [Nat.reduceEqDiff, getD_ne, *]; try rfl)⟩, by (simp only [Nat.reduceEqDiff, getD_ne, *]; try rfl), by (simp only [Nat.reduceLT, getD_eq, List.length_set, *]; try rfl)⟩
          clear f5 f7 f8 f9 f10 f12 hl gg hd2 hd
          rintro k2 fr h ⟨gg, A, B, H2, ⟨hl, f5, f7, f8, f9, f10⟩, f12, f15⟩
          have y7 := r7 _ gg
          have y0 := x0 _ gg
          match B, k2, H2 with
          | [], 0, H2 =>
            have hA : l = A := by have := H2.out.1; simpa using this
            have hd : decide ((A.length : Int) < (es.length : Int)) = false := decide_eq_false (by rw [← hA, hll]; omega)
            replace hA := hid_intro hA
            repeat' (first | refine WE.assoc ?_ | refine WE.seqD ?_ | refine WD.nil2 ?_ | (refine WD.lenOfE ?_; simp only [setDst, List.nil_append, List.cons_append, V.ev, Nat.reduceLT, getD_eq, List.length_set, *]; refine ⟨_, rfl, ?_⟩) | (refine WD.op2s ?_; simp only [opV, VOp.kind, hiddenOf, unveil_veil, veil_next, or_self, wanted, stepK, step, setDst, pureV, arith, intBin, List.nil_append, List.cons_append, true_and, V.ev, Nat.reduceEqDiff, Nat.reduceLT, Nat.reduceLeDiff, getD_ne, getD_eq, List.length_set, if_true, reduceCtorEq, Bool.false_beq, Bool.not_true, *]; with_reducible show WD _ _ _ _ _ _) | refine WE.seqExit ?_ | (refine WE.seqCond (t := false) ?hc (fun hh => Bool.noConfusion hh) (fun _ => ?_); case hc => simp only [V.ev, Nat.reduceLT, getD_eq, List.length_set, *]))
            exact ⟨rfl, gg, ⟨by simp only [List.length_set, hl], by (simp only [Nat.reduceEqDiff, getD_ne, *]; try rfl), by (simp only [Nat.reduceEqDiff, getD_ne, *]; try rfl), by (simp only [Nat.reduceEqDiff, getD_ne, *]; try rfl), by (simp only [Nat.reduceEqDiff, getD_ne, *]; try rfl), by (simp only [Nat.reduceEqDiff, getD_ne, *]; try rfl)⟩, by (simp only [Nat.reduceEqDiff, getD_ne, *]; try rfl)⟩
          | n :: B, k2 + 1, H2 =>
            have hlt : A.length < l.length := by rw [H2.out.1]; simp
            have hd : decide ((A.length : Int) < (es.length : Int)) = true := decide_eq_true (by omega)
            have hz : l[A.length] = n := by have := H2.out.1; simp [this]
            obtain ⟨b9, o9, he9, l9⟩ := Ei.elt hel (k := .i64) hlt
            rw [hz] at l9
            replace l9 := l9 _ gg.kp
            have hwi : IntKind.i64.wrap ((A.length : Int) + 1) = ((A.length + 1 : Nat) : Int) := wrap_add (b := 1) (by have := hlen.out; omega)
            replace hlt := hid_intro hlt
            replace hz := hid_intro hz
            by_cases hn : n = es[i].id
            · have e5 : (n == es[i].id) = true := by simpa using hn
              replace hn := hid_intro hn
              repeat' (first | refine WE.assoc ?_ | refine WE.seqD ?_ | refine WD.nil2 ?_ | (refine WD.lenOfE ?_; simp only [setDst, List.nil_append, List.cons_append, V.ev, Nat.reduceLT, getD_eq, List.length_set, *]; refine ⟨_, rfl, ?_⟩) | (refine WD.iaddrE ?_; simp only [setDst, List.nil_append, List.cons_append, V.ev, Nat.reduceEqDiff, Nat.reduceLT, getD_ne, getD_eq, List.length_set, *]; refine ⟨_, rfl, ?_⟩) | (refine WD.op2s ?_; simp only [opV, VOp.kind, hiddenOf, unveil_veil, veil_next, below_nil, below_cons, or_false, or_self, wanted, stepK, step, setDst, pureV, arith, intBin, eqVal, eqAt, eqv, Val.isAgg, Val.cells, List.nil_append, List.cons_append, true_and, and_self, Bool.and_true, List.getElem?_cons_zero, List.getD_cons_zero, List.getD_cons_succ, V.ev, Nat.reduceEqDiff, Nat.reduceLT, Nat.reduceLeDiff, Nat.add_zero, Bool.false_eq_true, beq_self_eq_true, getD_ne, getD_eq, List.length_set, if_true, if_false, reduceCtorEq, Bool.not_true, *]; with_reducible show WD _ _ _ _ _ _) | refine WE.seqExit ?_ | (refine WE.seqCond (t := false) ?hc (fun hh => Bool.noConfusion hh) (fun _ => ?_); case hc => simp only [V.ev, Nat.reduceLT, getD_eq, List.length_set, *]) | (refine WD.known ?hc ?_; case hc => (simp only [wanted, Bool.true_beq, Nat.reduceEqDiff, Nat.reduceLT, getD_ne, getD_eq, List.length_set, *])))
              exact ⟨rfl, gg, ⟨by simp only [List.length_set, hl], by (simp only [Nat.reduceEqDiff, getD_ne, *]; try rfl), by (simp only [Nat.reduceEqDiff, getD_ne, *]; try rfl), by (simp only [Nat.reduceEqDiff, getD_ne, *]; try rfl), by (simp only [Nat.reduceEqDiff, getD_ne, *]; try rfl), by (simp only [Nat.reduceEqDiff, getD_ne, *]; try rfl)⟩, by (simp only [Nat.reduceEqDiff, getD_ne, *]; try rfl)⟩
            · have e5 : (n == es[i].id) = false := by simpa using hn
              obtain ⟨j, hj1, hj2⟩ := hbf.out i hi.out hkey.out A B n H2.out.1 H2.out.2.2 hn
              have e6 : decide ((j : Int) < 0) = false := decide_eq_false (by omega)
              have e7 : decide ((j : Int) > (i : Int)) = false := decide_eq_false (by omega)
              replace hn := hid_intro hn
              replace hj2 := hid_intro hj2
              repeat' (first | refine WE.assoc ?_ | refine WE.seqD ?_ | refine WD.nil2 ?_ | (refine WD.lenOfE ?_; simp only [setDst, List.nil_append, List.cons_append, V.ev, Nat.reduceLT, getD_eq, List.length_set, *]; refine ⟨_, rfl, ?_⟩) | (refine WD.iaddrE ?_; simp only [setDst, List.nil_append, List.cons_append, V.ev, Nat.reduceEqDiff, Nat.reduceLT, getD_ne, getD_eq, List.length_set, *]; refine ⟨_, rfl, ?_⟩) | (refine WD.op2s ?_; simp only [opV, VOp.kind, hiddenOf, unveil_veil, veil_next, below_nil, below_cons, or_true, or_false, or_self, wanted, stepK, step, setDst, pureV, arith, intBin, evs, eqVal, eqAt, eqv, Val.isAgg, Val.cells, List.nil_append, List.cons_append, true_and, and_self, Bool.and_true, List.getElem?_cons_zero, List.getD_cons_zero, List.getD_cons_succ, V.ev, Nat.reduceEqDiff, Nat.reduceLT, Nat.reduceLeDiff, Nat.add_zero, Bool.false_eq_true, beq_self_eq_true, getD_ne, getD_eq, List.length_set, if_true, if_false, reduceCtorEq, Bool.not_false, *]; with_reducible show WD _ _ _ _ _ _) | refine WE.seqSkip ?_ | (refine WE.seqCond (t := true) ?hc (fun _ => ?_) (fun hh => Bool.noConfusion hh); case hc => simp only [V.ev, Nat.reduceLT, getD_eq, List.length_set, *]) | (refine WD.known ?hc ?_; case hc => (simp only [wanted, Bool.true_beq, Nat.reduceEqDiff, Nat.reduceLT, getD_ne, getD_eq, List.length_set, *])) | refine WE.seqBlock ?_)
              refine WD.callG (h0 := h7) wB gg _ trivial (fun h' w' k' => by (simp only [evs, V.ev, Nat.reduceEqDiff, Nat.reduceLT, getD_ne, getD_eq, List.length_set, *]); exact at_ok w' (id := n) (k'.es hes7) (by have := hlen.out; omega)) ?_
              rintro _ h8 g8 n8 rfl
              simp only [setDst, List.nil_append, List.cons_append]
              clear y7 y0 l9
              repeat' (first | refine WE.seqR ?_ | refine WO.nil ?_ | refine WD.nil2 ?_ | (refine WO.op1s ?_; simp only [opK, wanted, stepK, step, setDst, pureV, arith, intBin, true_and, V.ev, Nat.reduceEqDiff, Nat.reduceLT, beq_self_eq_true, getD_ne, getD_eq, List.length_set, if_true, *]; with_reducible show WO _ _ _ _ _) | (refine WD.op2s ?_; simp only [opV, VOp.kind, hiddenOf, unveil_veil, veil_next, or_self, wanted, stepK, step, setDst, List.nil_append, List.cons_append, true_and, V.ev, Nat.reduceLT, Nat.reduceLeDiff, getD_eq, List.length_set, if_true, reduceCtorEq, *]; with_reducible show WD _ _ _ _ _ _) | refine WE.skip ?_ | (refine WE.cond2 (t := false) ?hc (fun hh => Bool.noConfusion hh) (fun _ => ?_); case hc => simp only [V.ev, Nat.reduceLT, getD_eq, List.length_set, *]) | refine WE.region ?_)
              exact ⟨k2, by omega, g8, A ++ [n], B, ⟨by rw [H2.out.1]; simp, by have := H2.out.2.1; simpa using this, by rw [List.mem_append, List.mem_singleton]; rintro (q | q); exact H2.out.2.2 q; exact hn.out q.symm⟩, ⟨by simp only [List.length_set, hl], by (simp only [Nat.reduceEqDiff, getD_ne, *]; try rfl), by (simp only [Nat.reduceEqDiff, getD_ne, *]; try rfl), by (simp only [Nat.reduceEqDiff, getD_ne, *]; try rfl), by (simp only [Nat.reduceEqDiff, getD_ne, *]; try rfl), by (simp only [Nat.reduceEqDiff, getD_ne, *]; try rfl)⟩, by (simp only [Nat.reduceEqDiff, getD_ne, *]; try rfl), by first | ((simp only [Nat.reduceLT, getD_eq, List.length_set, *]; try rfl); done) | ((simp only [Nat.reduceLT, getD_eq, List.length_set, *]; try rfl); simp)⟩
        · clear f5 f7 f8 f9 f10 f12 hl gg hd2 hd
          rintro ex fr h ⟨rfl, gg, ⟨hl, f5, f7, f8, f9, f10⟩, f12⟩
          simp only [blockQ, seqQ, if_true]
          repeat' (first | refine WO.nil ?_ | (refine WO.op1s ?_; simp only [opK, wanted, stepK, step, setDst, pureV, arith, intBin, true_and, V.ev, Nat.reduceLT, getD_eq, List.length_set, if_true, *]; with_reducible show WO _ _ _ _ _) | refine WE.region ?_)
          exact ⟨k - 1, by have := H.out; have := hi.out; omega, gg, i + 1, ⟨by have := H.out; have := hi.out; omega⟩, ⟨by simp only [List.length_set, hl], by (simp only [Nat.reduceEqDiff, getD_ne, *]; try rfl), by (simp only [Nat.reduceEqDiff, getD_ne, *]; try rfl), by (simp only [Nat.reduceEqDiff, getD_ne, *]; try rfl), by (simp only [Nat.reduceEqDiff, getD_ne, *]; try rfl), by (simp only [Nat.reduceEqDiff, getD_ne, *]; try rfl)⟩, by (simp only [Nat.reduceLT, getD_eq, List.length_set, *]; try rfl)⟩
    · have hd : decide ((i : Int) < (es.length : Int)) = false := decide_eq_false (by omega)
      have r7' := r7 _ gg
      replace hi := hid_intro hi
      repeat' (first | refine WE.assoc ?_ | refine WE.seqR ?_ | refine WO.nil ?_ | (refine WO.lenOfE ?_; simp only [setDst, V.ev, Nat.reduceLT, getD_eq, List.length_set, *]; refine ⟨_, rfl, ?_⟩) | (refine WO.op1s ?_; simp only [opK, wanted, stepK, step, setDst, pureV, arith, intBin, true_and, V.ev, Nat.reduceEqDiff, Nat.reduceLT, Nat.add_zero, Bool.false_eq_true, getD_ne, getD_eq, List.length_set, if_true, if_false, *]; with_reducible show WO _ _ _ _ _) | refine WE.seqExit ?_ | (refine WE.seqCond (t := false) ?hc (fun hh => Bool.noConfusion hh) (fun _ => ?_); case hc => simp only [V.ev, Nat.reduceLT, getD_eq, List.length_set, *]))
      exact ⟨rfl, gg, ⟨by simp only [List.length_set, hl], by (simp only [Nat.reduceEqDiff, getD_ne, *]; try rfl), by (simp only [Nat.reduceEqDiff, getD_ne, *]; try rfl), by (simp only [Nat.reduceEqDiff, getD_ne, *]; try rfl), by (simp only [Nat.reduceEqDiff, getD_ne, *]; try rfl), by (simp only [Nat.reduceEqDiff, getD_ne, *]; try rfl)⟩⟩
  clear a0 a1 a2 hl r7' enn
  rintro ex fr h ⟨rfl, gg, ⟨hl, f5, f7, f8, f9, f10⟩⟩
  simp only [blockQ, seqQ, if_true]
  have r7' := r7 _ gg
  have r5' := r5 _ gg
  have wB := w7
  by_cases h0 : es.length = 0
  · have hd : ((es.length : Int) == 0) = true := by rw [h0]; rfl
    replace h0 := hid_intro h0
    repeat' (first | refine WE.assoc ?_ | refine WE.seqR ?_ | refine WO.nil ?_ | (refine WO.lenOfE ?_; simp only [setDst, V.ev, Nat.reduceLT, getD_eq, List.length_set, *]; refine ⟨_, rfl, ?_⟩) | (refine WO.op1s ?_; simp only [opK, wanted, stepK, step, setDst, evs, eqVal, eqAt, eqv, Val.isAgg, Val.cells, true_and, and_self, Bool.and_true, List.getElem?_cons_zero, V.ev, Nat.reduceLT, Nat.add_zero, Bool.false_eq_true, getD_eq, List.length_set, if_true, if_false, Bool.not_true, *]; with_reducible show WO _ _ _ _ _) | (refine WO.callG (f := 8) (g := none) wB gg _ rfl (fun h1 w1 k1 => by (simp only [evs, *]); exact  lives_ok) ?_; clear gg; (rintro _ hh gg rfl; simp only [setDst])) | refine WE.seqRet ?_ | (refine WE.seqCond (t := true) ?hc (fun _ => ?_) (fun hh => Bool.noConfusion hh); case hc => simp only [V.ev, Nat.reduceLT, getD_eq, List.length_set, *]))
    ((try dsimp only); refine Exists.intro _ ⟨(by (simp only [readResults, Nat.reduceLT, getD_eq, List.length_set, *]; try rfl)), ?_⟩)
    exact ⟨gC.trans gg, by rfl⟩
  have hd : ((es.length : Int) == 0) = false := by simp; intro e; simp [e] at h0
  have w8 := gg.wf wB
  have hes8 := gg.kp.es hes7
  have hel8 := Keep.ei gg.kp hel
  have gD := gC.trans gg
  have s7 : ∀ h', Grow h h' → h'.load b7 0 1 = some [u] := fun h' g => r7 h' (gg.trans g)
  have s5 : ∀ h', Grow h h' → h'.load b5 1 1 = some [.int .u8 z1] := fun h' g => r5 h' (gg.trans g)
  clear gg wB r7 r5 hes7 hel gC
  obtain ⟨j, hj⟩ : ∃ j, j = z1.toNat % es.length := ⟨_, rfl⟩
  have hjl : j < es.length := by rw [hj]; exact Nat.mod_lt _ (by omega)
  have nz : ((es.length : Int) = 0) = False := by simp; intro e; simp [e] at h0
  have ej : z1.tmod (es.length : Int) = (j : Int) := by
    have h1 : ((z1.toNat % es.length : Nat) : Int) = z1 % (es.length : Int) := by
      have := Int.natCast_emod z1.toNat es.length
      rw [Int.toNat_of_nonneg hz1.1] at this
      exact this
    rw [Int.tmod_eq_emod_of_nonneg hz1.1, hj, h1]
  obtain ⟨c, hc⟩ : ∃ c, c = z1 % 8 := ⟨_, rfl⟩
  have z8 : ((8 : Int) = 0) = False := by simp
  have ec : z1.tmod 8 = c := by rw [Int.tmod_eq_emod_of_nonneg hz1.1, hc]
  have wz : IntKind.i64.wrap z1 = z1 := wrap_i64 (by omega) (by omega)
  have hc8 : 0 ≤ c ∧ c < 8 := by omega
  obtain ⟨bx, o, he, _, x0, _, _⟩ := hes8.elt (k := .i64) hjl
  have x0' := x0 _ (.refl _)
  replace hc := hid_intro (And.intro hc hc8)
  clear hc8
  replace hj := hid_intro hj
  have hlowr := hid_intro (hq.out.lower hjl hc.out.2)
  have hlowq := hid_intro (hq.out.low hjl (c := c) hc.out.2.1)
  have hplace := hid_intro (hpl.out j hjl c hc.out.2.1)
  replace h0 := hid_intro h0
  replace hjl := hid_intro hjl
  clear hpl
  repeat' (first | refine WE.assoc ?_ | refine WE.seqR ?_ | refine WO.nil ?_ | refine WE.seqD ?_ | refine WD.nil2 ?_ | (refine WO.lenOfE ?_; simp only [setDst, V.ev, Nat.reduceLT, getD_eq, List.length_set, *]; refine ⟨_, rfl, ?_⟩) | (refine WO.op1s ?_; simp only [opK, wanted, stepK, step, setDst, pureV, arith, intBin, evs, eqVal, eqAt, eqv, Val.isAgg, Val.cells, true_and, and_self, Bool.and_true, List.getElem?_cons_zero, V.ev, Nat.reduceEqDiff, Nat.reduceLT, Nat.add_zero, Nat.zero_add, Nat.reduceMul, Int.reduceLE, Int.reduceLT, Int.reduceToNat, Bool.false_eq_true, Int.cast_ofNat_Int, getD_ne, getD_eq, List.length_set, if_true, if_false, Bool.not_false, *]; with_reducible show WO _ _ _ _ _) | (refine WD.lenOfE ?_; simp only [setDst, List.nil_append, List.cons_append, V.ev, Nat.reduceLT, getD_eq, List.length_set, *]; refine ⟨_, rfl, ?_⟩) | (refine WD.iaddrE ?_; simp only [setDst, List.nil_append, List.cons_append, V.ev, Nat.reduceEqDiff, Nat.reduceLT, getD_ne, getD_eq, List.length_set, *]; refine ⟨_, rfl, ?_⟩) | (refine WD.op2s ?_; simp only [opV, VOp.kind, hiddenOf, unveil_veil, veil_next, below_nil, below_cons, or_true, or_false, or_self, wanted, stepK, step, setDst, pureV, arith, intBin, List.nil_append, List.cons_append, true_and, and_self, List.getD_cons_zero, List.getD_cons_succ, V.ev, Nat.reduceEqDiff, Nat.reduceLT, Nat.reduceLeDiff, Nat.add_zero, Nat.zero_add, Nat.reduceMul, Int.reduceLE, Int.reduceLT, Int.reduceToNat, Bool.false_eq_true, Int.cast_ofNat_Int, getD_ne, getD_eq, List.length_set, if_true, if_false, reduceCtorEq, *]; with_reducible show WD _ _ _ _ _ _) | refine WE.seqSkip ?_ | (refine WE.seqCond (t := false) ?hc (fun hh => Bool.noConfusion hh) (fun _ => ?_); case hc => simp only [V.ev, Nat.reduceLT, getD_eq, List.length_set, *]))
  refine WO.call rfl ?_
  (simp only [evs, V.ev, Nat.reduceEqDiff, Nat.reduceLT, getD_ne, getD_eq, List.length_set, *])
  refine (lower_ok w8 (id := es[j].id) (c := c) hes8 (by have := hq.out.ln; omega)).mono ?_
  rintro _ h9 ⟨g9, u2, rfl, o9⟩
  rw [hlowr.out] at o9 ⊢
  simp only at o9 ⊢
  have cu2 := o9.one
  have w9 := g9.wf w8
  simp only [setDst]
  clear x0 x0'
  repeat' (first | (refine WO.op1s ?_; simp only [opK, wanted, stepK, step, setDst, true_and, List.getElem?_cons_zero, List.getElem?_cons_succ, V.ev, Nat.reduceEqDiff, Nat.reduceLT, getD_ne, getD_eq, List.length_set, *]; with_reducible show WO _ _ _ _ _))
  (refine WO.op1 ?_; simp only [opK, wanted, setDst, *])
  refine stepK_alloc w9 fun b18 h10 g10 hb10 hg10 hn10 => ?_
  (refine WO.op1 ?_; simp only [opK, wanted, setDst, *])
  refine stepK_store (b := b18) (o := 0) (cs := [.nils]) (us := [u2]) (by (simp only [V.ev, Nat.reduceLT, getD_eq, List.length_set, *]; try rfl)) (by (simp only [V.ev, Nat.reduceEqDiff, Nat.reduceLT, getD_ne, getD_eq, List.length_set, *]; try rfl)) (by rfl) hg10 (by rw [g10.floor]; have := w9.fl; omega) (by simp) (by simp [cu2.2]) fun h11 k11 => ?_
  have g11 : Grow h9 h11 := g10.wrote hb10 w9 k11
  have l18 : ∀ h', Grow h11 h' → h'.load b18 0 1 = some [u2] := fun h' g => g.part k11.at_ (by simp [splice])
  have gE := g9.trans g11
  have w11 := gE.wf w8
  have o11 := o9.keep g11.kp
  have s18 := l18 _ (.refl _)
  have t7 := s7 _ gE
  clear g10 hb10 hg10 hn10 k11 o9 g9 g11 w9 r7' r5'
  repeat' (first | refine WE.seqR ?_ | refine WO.nil ?_ | (refine WO.op1s ?_; simp only [opK, wanted, stepK, step, setDst, evs, true_and, V.ev, Nat.reduceEqDiff, Nat.reduceLT, getD_ne, getD_eq, List.length_set, if_true, *]; with_reducible show WO _ _ _ _ _))
  refine WO.call rfl ?_
  (simp only [evs, V.ev, Nat.reduceEqDiff, Nat.reduceLT, getD_ne, getD_eq, List.length_set, *])
  refine (order_ok w11 o11.es (by have := hlowq.out.ln; omega)).mono ?_
  rintro _ h12 ⟨g12, mv, rfl, o12⟩
  rw [hlowq.out.ord] at o12 ⊢
  simp only at o12 ⊢
  have w12 := g12.wf w11
  have gF := gE.trans g12
  clear s18 t7
  have t7 := s7 _ gF
  simp only [setDst]
  repeat' (first | refine WE.seqR ?_ | refine WO.nil ?_ | (refine WO.op1s ?_; simp only [opK, wanted, stepK, step, setDst, evs, true_and, List.getElem?_cons_zero, List.getElem?_cons_succ, V.ev, Nat.reduceEqDiff, Nat.reduceLT, getD_ne, getD_eq, List.length_set, if_true, *]; with_reducible show WO _ _ _ _ _))
  refine WO.call rfl ?_
  (simp only [evs, V.ev, Nat.reduceEqDiff, Nat.reduceLT, getD_ne, getD_eq, List.length_set, *])
  refine (pick_ok w12 (ro := ro) (ag := ag) (gF.kp.es hes8) (Keep.ei gF.kp hel8) (by have := hq.out.ln; omega) (by rw [hll]; have := hq.out.ln; omega)).mono ?_
  rintro _ h13 ⟨g13, rfl⟩
  rw [hq.out.ord]
  simp only
  rw [hL.out]
  have hll0 : 0 < l.length := by rw [hll]; have := h0.out; omega
  obtain ⟨n0, B, hl0⟩ : ∃ n0 B, l = n0 :: B := by
    cases l with
    | nil => simp at hll0
    | cons n0 B => exact ⟨n0, B, rfl⟩
  have hp := pick_all hl0
  have hp1 : (pickL l l).getD 0 = n0 := by rw [hp]; rfl
  have hp2 : (pickL l l).isSome = true := by rw [hp]; rfl
  replace hp := hid_intro hp
  have gG := gF.trans g13
  have w13 := gG.wf w8
  obtain ⟨b20, o20, he20, l20⟩ := Ei.elt hel8 (k := .i64) (i := 0) hll0
  have hn0 : l[0] = n0 := by simp [hl0]
  rw [hn0] at l20
  have he20' : eltI 1 lv (.int .i64 0) = some (.ptr b20 o20) := he20
  replace l20 := l20 _ gG.kp
  have enn0 : (n0 == n0) = true := by simp
  have e00' : ((0 : Int) == 0) = true := rfl
  have em : Ei h13 mv (ordL (keyI ro ag) (lowOf es j c) 8) := Keep.ei g13.kp o12.es
  have el : Ei h13 lv l := Keep.ei gG.kp hel8
  have hml2 := hlowq.out.len8
  rw [lowOf_len] at hml2
  replace hml2 := hid_intro hml2
  replace hl0 := hid_intro hl0
  replace hn0 := hid_intro hn0
  replace hll0 := hid_intro hll0
  have hpl2 : decide ((((ordL (keyI ro ag) (lowOf es j c) 8).findIdx (fun x => x == es[j].id) : Nat) : Int) ≤ ((l.findIdx (fun x => x == es[j].id) : Nat) : Int)) = true := by
    refine decide_eq_true ?_
    have := hplace.out
    omega
  have gI := gD.trans gG
  have wB := w13
  have gg := Grow.refl h13
  have c24a := fun h1 (w1 : Wf h1) (k1 : Keep h13 h1) => placeN_ok w1 (n := es[j].id) (Keep.ei k1 em) (by rw [hml2.out]; have := hq.out.ln; omega)
  have c24b := fun h1 (w1 : Wf h1) (k1 : Keep h13 h1) => placeN_ok w1 (n := es[j].id) (Keep.ei k1 el) (by rw [hll]; have := hq.out.ln; omega)
  generalize (ordL (keyI ro ag) (lowOf es j c) 8).findIdx (fun x => x == es[j].id) = x1 at *
  generalize l.findIdx (fun x => x == es[j].id) = x2 at *
  replace c24a := hid_intro c24a
  replace c24b := hid_intro c24b
  clear t7 o12 em el s7 s5 l18 he20
  simp only [setDst]
  repeat' (first | refine WE.assoc ?_ | refine WE.seqR ?_ | refine WO.nil ?_ | (refine WO.iaddrE ?_; simp only [setDst, V.ev, Nat.reduceLT, getD_eq, List.length_set, *]; refine ⟨_, rfl, ?_⟩) | (refine WO.op1s ?_; simp only [opK, wanted, stepK, step, setDst, pureV, arith, intBin, unary, evs, eqVal, eqAt, eqv, Val.isAgg, Val.cells, true_and, and_self, Bool.and_true, List.getElem?_cons_zero, List.getElem?_cons_succ, V.ev, Nat.reduceEqDiff, Nat.reduceLT, Bool.false_eq_true, beq_self_eq_true, getD_ne, getD_eq, List.length_set, if_true, if_false, Bool.not_true, *]; with_reducible show WO _ _ _ _ _) | (refine WO.callG (f := 24) (g := none) wB gg _ rfl (fun h1 w1 k1 => by (simp only [evs, V.ev, Nat.reduceEqDiff, Nat.reduceLT, getD_ne, getD_eq, List.length_set, *]); exact  c24a.out _ w1 k1) ?_; clear gg; (rintro _ hh gg rfl; simp only [setDst])) | (refine WO.callG (f := 24) (g := none) wB gg _ rfl (fun h1 w1 k1 => by (simp only [evs, V.ev, Nat.reduceEqDiff, Nat.reduceLT, getD_ne, getD_eq, List.length_set, *]); exact  c24b.out _ w1 k1) ?_; clear gg; (rintro _ hh gg rfl; simp only [setDst])) | (refine WO.callG (f := 8) (g := none) wB gg _ rfl (fun h1 w1 k1 => by (simp only [evs, *]); exact  lives_ok) ?_; clear gg; (rintro _ hh gg rfl; simp only [setDst])) | refine WE.seqSkip ?_ | (refine WE.seqCond (t := false) ?hc (fun hh => Bool.noConfusion hh) (fun _ => ?_); case hc => simp only [V.ev, Nat.reduceLT, getD_eq, List.length_set, *]) | (refine WO.known ?hc ?_; case hc => (simp only [wanted, Bool.true_beq, Bool.false_beq, Nat.reduceEqDiff, Nat.reduceLT, getD_ne, getD_eq, List.length_set, Bool.not_false, *])) | refine WE.ret ?_)
  ((try dsimp only); refine Exists.intro _ ⟨(by (simp only [readResults, Nat.reduceLT, getD_eq, List.length_set, *]; try rfl)), ?_⟩)
  exact ⟨gI.trans gg, by rfl⟩

end Go.V
end

section
set_option linter.unusedVariables false
set_option linter.unusedSimpArgs false
set_option linter.unusedSectionVars false
namespace Go.V

def E35c : Env := { fns := fns, prims := fun _ => none, meth := fun _ _ _ => none }

def isTrue : Option (Val × Heap) → Bool
  | some (.bool true, _) => true
  | _ => false

theorem lives_run : isTrue (run E35c 400 8 [] heap0) = true := by decide +kernel

end Go.V
end

section
set_option linter.unusedVariables false
set_option linter.unusedSimpArgs false
set_option linter.unusedSectionVars false
set_option maxRecDepth 100000
set_option maxHeartbeats 4000000
namespace Go.V
open Go.Proofs

theorem ok3 : ∃ fn, FnOk Try.prog 3 fn ∧ cFn Try.prog fn = some v3 := ⟨Try.f3, ⟨rfl, rfl, rfl⟩, by kernel_rfl⟩
theorem ok4 : ∃ fn, FnOk Try.prog 4 fn ∧ cFn Try.prog fn = some v4 := ⟨Try.f4, ⟨rfl, rfl, rfl⟩, by kernel_rfl⟩
theorem ok5 : ∃ fn, FnOk Try.prog 5 fn ∧ cFn Try.prog fn = some v5 := ⟨Try.f5, ⟨rfl, rfl, rfl⟩, by kernel_rfl⟩
theorem ok6 : ∃ fn, FnOk Try.prog 6 fn ∧ cFn Try.prog fn = some v6 := ⟨Try.f6, ⟨rfl, rfl, rfl⟩, by kernel_rfl⟩
theorem ok7 : ∃ fn, FnOk Try.prog 7 fn ∧ cFn Try.prog fn = some v7 := ⟨Try.f7, ⟨rfl, rfl, rfl⟩, by kernel_rfl⟩
theorem ok8 : ∃ fn, FnOk Try.prog 8 fn ∧ cFn Try.prog fn = some v8 := ⟨Try.f8, ⟨rfl, rfl, rfl⟩, by kernel_rfl⟩
theorem ok9 : ∃ fn, FnOk Try.prog 9 fn ∧ cFn Try.prog fn = some v9 := ⟨Try.f9, ⟨rfl, rfl, rfl⟩, by kernel_rfl⟩
theorem ok10 : ∃ fn, FnOk Try.prog 10 fn ∧ cFn Try.prog fn = some v10 := ⟨Try.f10, ⟨rfl, rfl, rfl⟩, by kernel_rfl⟩
theorem ok11 : ∃ fn, FnOk Try.prog 11 fn ∧ cFn Try.prog fn = some v11 := ⟨Try.f11, ⟨rfl, rfl, rfl⟩, by kernel_rfl⟩
theorem ok12 : ∃ fn, FnOk Try.prog 12 fn ∧ cFn Try.prog fn = some v12 := ⟨Try.f12, ⟨rfl, rfl, rfl⟩, by kernel_rfl⟩
theorem ok13 : ∃ fn, FnOk Try.prog 13 fn ∧ cFn Try.prog fn = some v13 := ⟨Try.f13, ⟨rfl, rfl, rfl⟩, by kernel_rfl⟩
theorem ok14 : ∃ fn, FnOk Try.prog 14 fn ∧ cFn Try.prog fn = some v14 := ⟨Try.f14, ⟨rfl, rfl, rfl⟩, by kernel_rfl⟩
theorem ok15 : ∃ fn, FnOk Try.prog 15 fn ∧ cFn Try.prog fn = some v15 := ⟨Try.f15, ⟨rfl, rfl, rfl⟩, by kernel_rfl⟩
theorem ok16 : ∃ fn, FnOk Try.prog 16 fn ∧ cFn Try.prog fn = some v16 := ⟨Try.f16, ⟨rfl, rfl, rfl⟩, by kernel_rfl⟩
theorem ok17 : ∃ fn, FnOk Try.prog 17 fn ∧ cFn Try.prog fn = some v17 := ⟨Try.f17, ⟨rfl, rfl, rfl⟩, by kernel_rfl⟩
theorem ok18 : ∃ fn, FnOk Try.prog 18 fn ∧ cFn Try.prog fn = some v18 := ⟨Try.f18, ⟨rfl, rfl, rfl⟩, by kernel_rfl⟩
theorem ok19 : ∃ fn, FnOk Try.prog 19 fn ∧ cFn Try.prog fn = some v19 := ⟨Try.f19, ⟨rfl, rfl, rfl⟩, by kernel_rfl⟩
theorem ok20 : ∃ fn, FnOk Try.prog 20 fn ∧ cFn Try.prog fn = some v20 := ⟨Try.f20, ⟨rfl, rfl, rfl⟩, by kernel_rfl⟩
theorem ok21 : ∃ fn, FnOk Try.prog 21 fn ∧ cFn Try.prog fn = some v21 := ⟨Try.f21, ⟨rfl, rfl, rfl⟩, by kernel_rfl⟩
theorem ok22 : ∃ fn, FnOk Try.prog 22 fn ∧ cFn Try.prog fn = some v22 := ⟨Try.f22, ⟨rfl, rfl, rfl⟩, by kernel_rfl⟩
theorem ok23 : ∃ fn, FnOk Try.prog 23 fn ∧ cFn Try.prog fn = some v23 := ⟨Try.f23, ⟨rfl, rfl, rfl⟩, by kernel_rfl⟩
theorem ok24 : ∃ fn, FnOk Try.prog 24 fn ∧ cFn Try.prog fn = some v24 := ⟨Try.f24, ⟨rfl, rfl, rfl⟩, by kernel_rfl⟩
theorem ok25 : ∃ fn, FnOk Try.prog 25 fn ∧ cFn Try.prog fn = some v25 := ⟨Try.f25, ⟨rfl, rfl, rfl⟩, by kernel_rfl⟩
theorem ok26 : ∃ fn, FnOk Try.prog 26 fn ∧ cFn Try.prog fn = some v26 := ⟨Try.f26, ⟨rfl, rfl, rfl⟩, by kernel_rfl⟩
theorem ok27 : ∃ fn, FnOk Try.prog 27 fn ∧ cFn Try.prog fn = some v27 := ⟨Try.f27, ⟨rfl, rfl, rfl⟩, by kernel_rfl⟩
theorem ok28 : ∃ fn, FnOk Try.prog 28 fn ∧ cFn Try.prog fn = some v28 := ⟨Try.f28, ⟨rfl, rfl, rfl⟩, by kernel_rfl⟩
theorem ok29 : ∃ fn, FnOk Try.prog 29 fn ∧ cFn Try.prog fn = some v29 := ⟨Try.f29, ⟨rfl, rfl, rfl⟩, by kernel_rfl⟩
theorem ok30 : ∃ fn, FnOk Try.prog 30 fn ∧ cFn Try.prog fn = some v30 := ⟨Try.f30, ⟨rfl, rfl, rfl⟩, by kernel_rfl⟩
theorem ok31 : ∃ fn, FnOk Try.prog 31 fn ∧ cFn Try.prog fn = some v31 := ⟨Try.f31, ⟨rfl, rfl, rfl⟩, by kernel_rfl⟩
theorem ok32 : ∃ fn, FnOk Try.prog 32 fn ∧ cFn Try.prog fn = some v32 := ⟨Try.f32, ⟨rfl, rfl, rfl⟩, by kernel_rfl⟩
theorem ok33 : ∃ fn, FnOk Try.prog 33 fn ∧ cFn Try.prog fn = some v33 := ⟨Try.f33, ⟨rfl, rfl, rfl⟩, by kernel_rfl⟩
theorem ok34 : ∃ fn, FnOk Try.prog 34 fn ∧ cFn Try.prog fn = some v34 := ⟨Try.f34, ⟨rfl, rfl, rfl⟩, by kernel_rfl⟩
theorem ok35 : ∃ fn, FnOk Try.prog 35 fn ∧ cFn Try.prog fn = some v35 := ⟨Try.f35, ⟨rfl, rfl, rfl⟩, by kernel_rfl⟩
theorem ok36 : ∃ fn, FnOk Try.prog 36 fn ∧ cFn Try.prog fn = some v36 := ⟨Try.f36, ⟨rfl, rfl, rfl⟩, by kernel_rfl⟩
theorem ok37 : ∃ fn, FnOk Try.prog 37 fn ∧ cFn Try.prog fn = some v37 := ⟨Try.f37, ⟨rfl, rfl, rfl⟩, by kernel_rfl⟩
theorem ok38 : ∃ fn, FnOk Try.prog 38 fn ∧ cFn Try.prog fn = some v38 := ⟨Try.f38, ⟨rfl, rfl, rfl⟩, by kernel_rfl⟩
theorem ok39 : ∃ fn, FnOk Try.prog 39 fn ∧ cFn Try.prog fn = some v39 := ⟨Try.f39, ⟨rfl, rfl, rfl⟩, by kernel_rfl⟩
theorem ok40 : ∃ fn, FnOk Try.prog 40 fn ∧ cFn Try.prog fn = some v40 := ⟨Try.f40, ⟨rfl, rfl, rfl⟩, by kernel_rfl⟩
theorem ok41 : ∃ fn, FnOk Try.prog 41 fn ∧ cFn Try.prog fn = some v41 := ⟨Try.f41, ⟨rfl, rfl, rfl⟩, by kernel_rfl⟩
theorem ok42 : ∃ fn, FnOk Try.prog 42 fn ∧ cFn Try.prog fn = some v42 := ⟨Try.f42, ⟨rfl, rfl, rfl⟩, by kernel_rfl⟩
theorem ok43 : ∃ fn, FnOk Try.prog 43 fn ∧ cFn Try.prog fn = some v43 := ⟨Try.f43, ⟨rfl, rfl, rfl⟩, by kernel_rfl⟩
theorem ok44 : ∃ fn, FnOk Try.prog 44 fn ∧ cFn Try.prog fn = some v44 := ⟨Try.f44, ⟨rfl, rfl, rfl⟩, by kernel_rfl⟩
theorem ok45 : ∃ fn, FnOk Try.prog 45 fn ∧ cFn Try.prog fn = some v45 := ⟨Try.f45, ⟨rfl, rfl, rfl⟩, by kernel_rfl⟩
theorem ok46 : ∃ fn, FnOk Try.prog 46 fn ∧ cFn Try.prog fn = some v46 := ⟨Try.f46, ⟨rfl, rfl, rfl⟩, by kernel_rfl⟩
theorem ok47 : ∃ fn, FnOk Try.prog 47 fn ∧ cFn Try.prog fn = some v47 := ⟨Try.f47, ⟨rfl, rfl, rfl⟩, by kernel_rfl⟩
theorem ok48 : ∃ fn, FnOk Try.prog 48 fn ∧ cFn Try.prog fn = some v48 := ⟨Try.f48, ⟨rfl, rfl, rfl⟩, by kernel_rfl⟩
theorem ok49 : ∃ fn, FnOk Try.prog 49 fn ∧ cFn Try.prog fn = some v49 := ⟨Try.f49, ⟨rfl, rfl, rfl⟩, by kernel_rfl⟩
theorem ok50 : ∃ fn, FnOk Try.prog 50 fn ∧ cFn Try.prog fn = some v50 := ⟨Try.f50, ⟨rfl, rfl, rfl⟩, by kernel_rfl⟩
theorem ok51 : ∃ fn, FnOk Try.prog 51 fn ∧ cFn Try.prog fn = some v51 := ⟨Try.f51, ⟨rfl, rfl, rfl⟩, by kernel_rfl⟩
theorem ok52 : ∃ fn, FnOk Try.prog 52 fn ∧ cFn Try.prog fn = some v52 := ⟨Try.f52, ⟨rfl, rfl, rfl⟩, by kernel_rfl⟩
theorem ok53 : ∃ fn, FnOk Try.prog 53 fn ∧ cFn Try.prog fn = some v53 := ⟨Try.f53, ⟨rfl, rfl, rfl⟩, by kernel_rfl⟩
theorem ok54 : ∃ fn, FnOk Try.prog 54 fn ∧ cFn Try.prog fn = some v54 := ⟨Try.f54, ⟨rfl, rfl, rfl⟩, by kernel_rfl⟩
theorem ok55 : ∃ fn, FnOk Try.prog 55 fn ∧ cFn Try.prog fn = some v55 := ⟨Try.f55, ⟨rfl, rfl, rfl⟩, by kernel_rfl⟩
theorem ok56 : ∃ fn, FnOk Try.prog 56 fn ∧ cFn Try.prog fn = some v56 := ⟨Try.f56, ⟨rfl, rfl, rfl⟩, by kernel_rfl⟩
theorem ok57 : ∃ fn, FnOk Try.prog 57 fn ∧ cFn Try.prog fn = some v57 := ⟨Try.f57, ⟨rfl, rfl, rfl⟩, by kernel_rfl⟩
theorem ok58 : ∃ fn, FnOk Try.prog 58 fn ∧ cFn Try.prog fn = some v58 := ⟨Try.f58, ⟨rfl, rfl, rfl⟩, by kernel_rfl⟩

theorem fns_ok : ∀ (f : FuncId) (vn : VFn), fns f = some vn → ∃ fn, FnOk Try.prog f fn ∧ cFn Try.prog fn = some vn := by
  intro f vn h
  unfold fns at h
  split at h
  · cases h; exact ok3
  · cases h; exact ok4
  · cases h; exact ok5
  · cases h; exact ok6
  · cases h; exact ok7
  · cases h; exact ok8
  · cases h; exact ok9
  · cases h; exact ok10
  · cases h; exact ok11
  · cases h; exact ok12
  · cases h; exact ok13
  · cases h; exact ok14
  · cases h; exact ok15
  · cases h; exact ok16
  · cases h; exact ok17
  · cases h; exact ok18
  · cases h; exact ok19
  · cases h; exact ok20
  · cases h; exact ok21
  · cases h; exact ok22
  · cases h; exact ok23
  · cases h; exact ok24
  · cases h; exact ok25
  · cases h; exact ok26
  · cases h; exact ok27
  · cases h; exact ok28
  · cases h; exact ok29
  · cases h; exact ok30
  · cases h; exact ok31
  · cases h; exact ok32
  · cases h; exact ok33
  · cases h; exact ok34
  · cases h; exact ok35
  · cases h; exact ok36
  · cases h; exact ok37
  · cases h; exact ok38
  · cases h; exact ok39
  · cases h; exact ok40
  · cases h; exact ok41
  · cases h; exact ok42
  · cases h; exact ok43
  · cases h; exact ok44
  · cases h; exact ok45
  · cases h; exact ok46
  · cases h; exact ok47
  · cases h; exact ok48
  · cases h; exact ok49
  · cases h; exact ok50
  · cases h; exact ok51
  · cases h; exact ok52
  · cases h; exact ok53
  · cases h; exact ok54
  · cases h; exact ok55
  · cases h; exact ok56
  · cases h; exact ok57
  · cases h; exact ok58
  · cases h

end Go.V
end

section
set_option linter.unusedVariables false
set_option linter.unusedSimpArgs false
set_option linter.unusedSectionVars false
set_option maxRecDepth 100000
namespace Go.V
open Go.Proofs

theorem envC : EnvOk Try.prog E35c := ⟨fun _ _ _ _ _ h => (by cases h), fns_ok, fun _ _ h => (by cases h)⟩
theorem extC : PrimsExt E35c := fun _ _ h => (by cases h)

theorem isTrue_elim {x : Option (Val × Heap)} (h : isTrue x = true) : ∃ h1, x = some (.bool true, h1) := by
  unfold isTrue at h
  split at h
  · rename_i h1; exact ⟨h1, rfl⟩
  · cases h

theorem lives_is : ∃ h1, run E35c 400 8 [] heap0 = some (.bool true, h1) := isTrue_elim lives_run

theorem ext35 : PrimsExt E35 := by
  intro f p h args h0 v h' e
  simp only [E35] at h
  split at h
  · cases h; exact whole_ext e
  · cases h

theorem env35 : EnvOk Try.prog E35 := by
  refine ⟨fun _ _ _ _ _ h => (by cases h), fns_ok, ?_⟩
  intro f p h
  simp only [E35] at h
  split at h
  · rename_i hf
    cases h
    subst hf
    obtain ⟨h1, e⟩ := lives_is
    exact whole_sound envC extC e
  · cases h

end Go.V
end

section
set_option linter.unusedVariables false
set_option linter.unusedSimpArgs false
set_option linter.unusedSectionVars false
set_option maxRecDepth 100000
namespace Go.V
open Go.Proofs

theorem wf_u8 {n : Int} (h : (Lit.int .u8 n).wf = true) : 0 ≤ n ∧ n < 256 := by
  simp [Lit.wf, IntKind.min, IntKind.max, IntKind.signed, IntKind.bits] at h
  omega

abbrev TriOk := { t : Tri // t.ok }

theorem tris_of : ∀ (n : Nat) (l : List Value), Ints (List.replicate n [.u8, .u8, .u8]).flatten l → ∃ es : List TriOk, es.length = n ∧ ∀ ρ, VRels ρ (es.flatMap fun t => t.1.cells) l
  | 0, [], _ => ⟨[], rfl, fun _ => .nil⟩
  | 0, _ :: _, h => h.elim
  | n + 1, l, h => by
    rw [List.replicate_succ, List.flatten_cons] at h
    match l, h with
    | _ :: _ :: _ :: l, ⟨⟨a, h1, w1⟩, ⟨b, h2, w2⟩, ⟨c, h3, w3⟩, h4⟩ =>
      obtain ⟨es, e1, e2⟩ := tris_of n l h4
      refine ⟨⟨⟨a, b, c⟩, wf_u8 w1, wf_u8 w2, wf_u8 w3⟩ :: es, by simp [e1], fun ρ => ?_⟩
      rw [List.flatMap_cons]
      subst h1 h2 h3
      exact .cons (by simp only [VRel]) (.cons (by simp only [VRel]) (.cons (by simp only [VRel]) (e2 ρ)))
    | [], h => exact h.elim
    | [_], h => exact h.2.elim
    | [_, _], h => exact h.2.2.elim

end Go.V
namespace Go.Proofs.Ytkmaaddlimgdoaa.ripe
open Go.ChangeShapes Go.WideShapes Go.ChangeAt Go.RowKit Go.V

theorem own : ownKnob Try.prog.godebug = none := by kernel_rfl
theorem flatE : flatT Try.prog 4 62 = some [.u8, .u8, .u8] := by kernel_rfl
theorem flatU : flatT Try.prog 4 5 = some [.u8] := by kernel_rfl
theorem flatZ : flatT Try.prog 4 52 = some [.u8, .u8] := by kernel_rfl
theorem sizeE : Try.prog.cellsOf 62 = 3 := by kernel_rfl
theorem sizeL : Try.prog.cellsOf 49 = 1 := by kernel_rfl

theorem contract (H : Type) (enc : TypeId × Value → H) (W : World) (base : Nat) (args : Array Value) (ds gs : List (DataW H)) (before : List MemPlace)
    (hval : ∀ (j : Nat) t v, Try.f5.params[j]? = some t → args[j]? = some v → Value.okWide Try.prog W .any base t v)
    (hW : DataW.Whole enc Try.prog Try.f5.params.toList Rows.queuesRipeSpec.vars false W args.toList ds gs before) :
    Calls Try.prog 5 args W fun e W' => ∃ v, e = .returned v ∧ Rows.queuesRipeSpec.post enc Try.prog Try.f5 false true false false W args v W' := by
  have hW' := hW
  obtain ⟨p, q, hA0, hV, rfl, hfz, hnd⟩ := hW
  have hA : DataW.TrodAll enc Try.prog W 0 (fun _ => true) true Try.f5.params.toList args.toList ds p := hA0
  rw [Try.params5] at hA hval
  obtain ⟨v0, vs0, d0, ds0, p0, q0, hargs, rfl, rfl, ⟨n0, h0⟩, r0⟩ := trodAll_cons hA
  obtain ⟨v1, vs1, d1, ds1, p1, q1, rfl, rfl, rfl, ⟨n1, h1⟩, r1⟩ := trodAll_cons r0
  obtain ⟨v2, vs2, d2, ds2, p2, q2, rfl, rfl, rfl, ⟨n2, h2⟩, r2⟩ := trodAll_cons r1
  obtain ⟨rfl, rfl, rfl⟩ := trodAll_nil r2
  obtain rfl : args = #[v0, v1, v2] := by cases args; simp_all
  obtain ⟨rfl, rfl⟩ := trodVars_none hV
  obtain ⟨c0, rfl, hc0⟩ := okWide_struct Try.underlying51 (hval 0 51 v0 rfl rfl)
  obtain ⟨la, rfl⟩ := okWide_int Try.underlying5 (hval 1 5 v1 rfl rfl)
  obtain ⟨c2, rfl, _⟩ : ∃ cs, v2 = .agg cs ∧ cs.size = Try.prog.cellsOf 52 := by
    have := hval 2 52 v2 rfl rfl
    unfold Value.okWide at this
    rw [Try.underlying52] at this
    obtain ⟨cs, a, b, _⟩ := this
    exact ⟨cs, a, b⟩
  obtain ⟨i1, _⟩ := flat_trod 4 5 _ n1 _ _ flatU h1
  obtain ⟨i2, _⟩ := flat_trod 4 52 _ n2 _ _ flatZ h2
  have j1 : Ints [.u8] [.int .u8 la] := by simpa [Value.cells] using i1
  have j2 : Ints [.u8, .u8] c2.toList := by simpa [Value.cells] using i2
  have hla : 0 ≤ la ∧ la < 256 := by
    obtain ⟨⟨n, e1, e2⟩, _⟩ := j1
    cases e1
    exact wf_u8 e2
  obtain ⟨d, e, hl2, wd, we⟩ := ints2 j2
  have wd := wf_u8 wd
  have we := wf_u8 we
  obtain ⟨y0, m0, hy, hlen, ht⟩ := trod_struct1 Try.underlying51 h0
  have hs24 : Try.prog.cellsOf 51 = 1 := by kernel_rfl
  rw [hs24] at hc0
  obtain ⟨sv, hsv⟩ : ∃ sv, c0.toList = [sv] := by
    have : c0.toList.length = 1 := by simpa using hc0
    exact List.length_eq_one_iff.1 this
  have ht' : DataW.trod enc Try.prog W 0 (fun _ => true) true m0 49 [sv] = some y0 := by
    have e1 : (Value.agg c0).cells.toList = [sv] := by simpa [Value.cells] using hsv
    rw [e1] at ht
    simp only [List.drop_zero, sizeL] at ht
    exact ht
  have hps : ∀ x ∈ y0.2, x ∈ p0 := by
    intro x hx
    have : p0 = y0.2 := by have := congrArg Prod.snd hy; simpa using this
    rw [this]; exact hx
  have hsa := slice_arg Try.underlying49 flatE (by rw [sizeE]; rfl) (by rw [sizeE]; omega) ht' fun bb off hx => hfz bb off (by simp only [List.append_nil, List.mem_append]; exact .inl (hps _ hx))
  rw [sizeE] at hsa
  obtain ⟨ρ, hp0, s, ts, A, _, _, hv, hes⟩ := (ArgS.nil W).slice (cellsD := fun t : TriOk => t.1.cells) (fun _ => rfl) tris_of hsa
  have hT : (ts.map Subtype.val).flatMap Tri.cells = ts.flatMap fun t => t.1.cells := by rw [List.flatMap_map]
  have hsl : Sl hp0 s 3 (ts.map Subtype.val).length ((ts.map Subtype.val).flatMap Tri.cells) := by rw [hT, List.length_map]; exact hes
  obtain ⟨n, v, h', er, _, rfl⟩ := lawRipe_ok A.wf hsl (fun t h => by obtain ⟨x, _, rfl⟩ := List.mem_map.1 h; exact x.2) hla wd we
  have hvr : VRels ρ [.agg [s], .int .u8 la, .agg [.int .u8 d, .int .u8 e]] #[Value.agg c0, Value.int .u8 la, Value.agg c2].toList := by
    refine .cons ?_ (.cons ?_ (.cons ?_ .nil))
    · simp only [VRel]; exact ⟨c0, rfl, by rw [hsv]; exact .cons hv .nil⟩
    · simp only [VRel]
    · simp only [VRel]; exact ⟨c2, rfl, by rw [hl2]; exact .cons (by simp only [VRel]) (.cons (by simp only [VRel]) .nil)⟩
  refine (law_args env35 ext35 A.hr A.low hvr er).mono ?_
  rintro en W' ⟨he, hs, ho, hp⟩
  exact ⟨_, he, post_law (by kernel_rfl) hW' rfl (by rfl) Try.underlying4 rfl hs ho hp⟩

theorem lifted (os : Os) (started : os.Started) (H : Type) (enc : TypeId × Value → H) :
    ReturnsInHanded {} Try.checked os 5 .any (Rows.queuesRipeSpec.pre6 enc Try.prog Try.f5 Rows.queuesRipeRow.domain false) (Rows.queuesRipeSpec.post enc Try.prog Try.f5 false true false false) := by
  refine returnsInHanded_of_change (C := Try.checked) own started ?_ Try.func5 ?_ ?_
  · kernel_rfl
  · refine ChangeSpec.witness6 (enc := enc) (C := Try.checked) false ⟨#[], #[.agg #[.slice none 0 0], .int .u8 0, .agg #[.int .u8 0, .int .u8 0]], []⟩ 8 ?_ ?_ ?_ ?_
    · kernel_rfl
    · kernel_rfl
    · kernel_rfl
    · kernel_rfl
  intro W base args ds gs before hval hW _ _
  exact contract H enc W base args ds gs before hval hW

theorem ripe_holds : Rows.QueuesRipeSaid :=
  OpenClaim.holds_of_wide 5 Try.f5 rfl rfl rfl rfl rfl rfl rfl ⟨rfl, rfl, rfl, rfl, rfl⟩ rfl rfl rfl rfl rfl (by kernel_rfl) Try.func5 (by kernel_rfl)
    (of_decide_eq_true (by kernel_rfl)) (by unfold Func.isWrapper; first | (rw [if_pos (by decide +kernel)]; kernel_rfl) | (rw [if_neg (by decide +kernel)]; exact ⟨rfl, rfl⟩))
    (fun os started H enc _ => lifted os started H enc)
end Go.Proofs.Ytkmaaddlimgdoaa.ripe
end
