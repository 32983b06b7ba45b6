/-
  For every list of calls, call and number PinsMore returns true, and the arguments read as before. No condition.
-/
import Derived.Test.YtalokejcacejpaaB3

section
set_option linter.unusedVariables false
set_option linter.unusedSimpArgs false
set_option linter.unusedSectionVars false
-- DRAWS
-- BUILDS
-- NEW
set_option maxHeartbeats 4000000
namespace Go.V
attribute [local irreducible] stepK opK opV

def GoM (h0 : Heap) (b4 b7 : Nat) (l a1 a2 : Val) (os : List (Int × Int)) (k : Nat) (fr : List Val) (h' : Heap) : Prop := Grow h0 h' ∧ ∃ (i : Nat) (u : Val) (ps : PinL) (xs : List Int), Hid (i + k = min os.length 60 ∧ xs.length ≤ i) ∧ fr.length = 164 ∧ fr.getD 0 .undef = l ∧ fr.getD 1 .undef = a1 ∧ fr.getD 2 .undef = a2 ∧ fr.getD 4 .undef = .ptr b4 0 ∧
  fr.getD 7 .undef = .ptr b7 0 ∧ fr.getD 8 .undef = u ∧ fr.getD 9 .undef = .int .i64 (i : Nat) ∧ PinSt h' b7 u ps xs ∧ h'.get b4 = some (.cells a1.cells)

theorem asc_len : ∀ {o xs : List Int}, o.Pairwise (· < ·) → (∀ x ∈ o, x ∈ xs) → o.length ≤ xs.length
  | [], _, _, _ => Nat.zero_le _
  | x :: o, xs, h, hs => by
    obtain ⟨h1, h2⟩ := List.pairwise_cons.1 h
    have hx := hs x (by simp)
    have := asc_len (xs := xs.erase x) h2 fun y hy => (List.mem_erase_of_ne (by have := h1 y hy; omega)).2 (hs y (List.mem_cons_of_mem _ hy))
    rw [List.length_erase_of_mem hx] at this
    have := List.length_pos_of_mem hx
    simp only [List.length_cons]; omega

theorem Pn.short {ps : PinL} {xs : List Int} (h : Pn ps xs) : ps.length ≤ xs.length := by
  have := asc_len h.held.1 fun x hx => ((h.held.2 x).1 hx).1
  simpa using this

def v4T : VC := (.seq (.draw [⟨some 55, .load true 2 (.t 7), none, false, []⟩,
  ⟨some 56, .load true 2 (.t 4), none, false, [0]⟩,
  ⟨some 57, .call 17 [(.t 56)], none, false, [0]⟩,
  ⟨some 58, .mov (.t 2), none, false, [0, 1, 2]⟩,
  ⟨some 59, .call 16 [(.t 55), (.t 57), (.t 58)], none, false, []⟩,
  ⟨some 54, .mov (.t 59), none, false, []⟩,
  ⟨some 60, .ext (.t 54) 0, none, false, []⟩,
  ⟨some 61, .ext (.t 54) 1, none, false, []⟩,
  ⟨some 14, .alloc [.nils, (.int .i64 0)], none, false, [0, 1, 2, 4]⟩,
  ⟨none, .store 2 (.t 14) (.t 60), none, true, []⟩,
  ⟨some 15, .mov (.t 61), none, true, []⟩])
 (.seq (.seq (.region [⟨some 62, .mov (.t 2), none, true, []⟩,
  ⟨some 63, .arith .lss (.t 62) (.c (.int .i64 0)), none, true, []⟩,
  ⟨some 64, .mov (.t 63), none, true, []⟩,
  ⟨some 65, .load true 2 (.t 4), some (64, false), true, []⟩,
  ⟨some 66, .call 17 [(.t 65)], some (64, false), true, []⟩,
  ⟨some 67, .eql false ⟨false, [(0, .i)]⟩ (.t 66) (.c (.int .u64 0)), some (64, false), true, []⟩,
  ⟨some 68, .pick (.t 64) (.c (.bool true)) (.t 67), none, true, []⟩])
 (.cond (.t 68) (.seq (.region [⟨some 16, .mov (.c (.int .i64 14)), none, true, []⟩])
 (.seq (.seq (.region [⟨some 69, .mov (.t 2), none, true, []⟩,
  ⟨some 70, .arith .lss (.t 69) (.c (.int .i64 0)), none, true, []⟩])
 (.cond (.t 70) (.region [⟨some 16, .mov (.c (.int .i64 4)), none, true, []⟩])
 .skip))
 (.seq (.region [⟨some 71, .mov (.t 15), none, true, []⟩,
  ⟨some 72, .mov (.t 16), none, true, []⟩,
  ⟨some 73, .eql false ⟨false, [(0, .i)]⟩ (.t 71) (.t 72), none, true, []⟩,
  ⟨some 74, .mov (.t 73), none, true, []⟩,
  ⟨some 75, .load true 2 (.t 14), some (74, true), true, []⟩,
  ⟨some 76, .call 15 [(.t 75), (.c .nils)], some (74, true), true, []⟩,
  ⟨some 77, .eql false ⟨false, [(0, .i)]⟩ (.t 76) (.c (.int .i64 1)), some (74, true), true, []⟩,
  ⟨some 78, .pick (.t 74) (.t 77) (.c (.bool false)), none, true, []⟩,
  ⟨some 79, .mov (.t 78), none, true, []⟩,
  ⟨some 80, .call 8 [], some (79, true), true, []⟩,
  ⟨some 81, .pick (.t 79) (.t 80) (.c (.bool false)), none, true, []⟩,
  ⟨some 6, .mov (.t 81), none, true, []⟩])
 .ret)))
 .skip))
 (.seq (.seq (.region [⟨some 82, .mov (.t 2), none, true, []⟩,
  ⟨some 83, .mov (.t 8), none, true, []⟩,
  ⟨some 84, .load true 2 (.t 4), none, true, []⟩,
  ⟨some 85, .call 17 [(.t 84)], none, true, []⟩,
  ⟨some 86, .call 18 [(.t 83), (.t 85)], none, true, []⟩,
  ⟨some 87, .arith .sub (.c (.int .i64 4096)) (.t 86), none, true, []⟩,
  ⟨some 88, .arith .gtr (.t 82) (.t 87), none, true, []⟩])
 (.cond (.t 88) (.seq (.region [⟨some 89, .mov (.t 15), none, true, []⟩,
  ⟨some 90, .eql false ⟨false, [(0, .i)]⟩ (.t 89) (.c (.int .i64 3)), none, true, []⟩,
  ⟨some 91, .mov (.t 90), none, true, []⟩,
  ⟨some 92, .load true 2 (.t 14), some (91, true), true, []⟩,
  ⟨some 93, .call 15 [(.t 92), (.c .nils)], some (91, true), true, []⟩,
  ⟨some 94, .eql false ⟨false, [(0, .i)]⟩ (.t 93) (.c (.int .i64 1)), some (91, true), true, []⟩,
  ⟨some 95, .pick (.t 91) (.t 94) (.c (.bool false)), none, true, []⟩,
  ⟨some 96, .mov (.t 95), none, true, []⟩,
  ⟨some 97, .call 8 [], some (96, true), true, []⟩,
  ⟨some 98, .pick (.t 96) (.t 97) (.c (.bool false)), none, true, []⟩,
  ⟨some 6, .mov (.t 98), none, true, []⟩])
 .ret)
 .skip))
 (.seq (.seq (.region [⟨some 99, .mov (.t 2), none, true, []⟩,
  ⟨some 100, .arith .gtr (.t 99) (.c (.int .i64 100)), none, true, []⟩])
 (.cond (.t 100) (.seq (.draw [⟨some 101, .mov (.t 15), none, true, []⟩,
  ⟨some 102, .eql false ⟨false, [(0, .i)]⟩ (.t 101) (.c (.int .i64 0)), none, true, []⟩,
  ⟨some 103, .mov (.t 102), none, true, []⟩,
  ⟨some 104, .load true 2 (.t 14), some (103, true), true, []⟩,
  ⟨some 105, .call 19 [(.t 104)], some (103, true), true, []⟩,
  ⟨some 106, .mov (.t 8), some (103, true), false, [3, 4]⟩,
  ⟨some 107, .lenOf (.t 106), some (103, true), false, [3, 4]⟩,
  ⟨some 108, .mov (.t 2), some (103, true), false, [3, 4]⟩,
  ⟨some 109, .arith .add (.t 107) (.t 108), some (103, true), false, [3, 4]⟩,
  ⟨some 110, .eql false ⟨false, [(0, .i)]⟩ (.t 105) (.t 109), some (103, true), true, []⟩,
  ⟨some 111, .pick (.t 103) (.t 110) (.c (.bool false)), none, true, []⟩,
  ⟨some 112, .mov (.t 111), none, true, []⟩,
  ⟨some 113, .load true 2 (.t 14), some (112, true), false, []⟩,
  ⟨some 114, .load true 2 (.t 4), some (112, true), false, [12]⟩,
  ⟨some 115, .call 17 [(.t 114)], some (112, true), false, [12]⟩,
  ⟨some 116, .call 14 [(.t 113), (.t 115)], some (112, true), false, []⟩,
  ⟨some 117, .mov (.t 8), some (112, true), false, [12, 13, 14, 15]⟩,
  ⟨some 118, .load true 2 (.t 4), some (112, true), false, [12, 13, 14, 15]⟩,
  ⟨some 119, .call 17 [(.t 118)], some (112, true), true, []⟩,
  ⟨some 120, .call 18 [(.t 117), (.t 119)], some (112, true), true, []⟩,
  ⟨some 121, .mov (.t 2), some (112, true), false, [12, 13, 14, 15, 17, 18, 19]⟩,
  ⟨some 122, .arith .add (.t 120) (.t 121), some (112, true), true, []⟩,
  ⟨some 123, .eql false ⟨false, [(0, .i)]⟩ (.t 116) (.t 122), some (112, true), true, []⟩,
  ⟨some 124, .pick (.t 112) (.t 123) (.c (.bool false)), none, true, []⟩,
  ⟨some 125, .mov (.t 124), none, true, []⟩,
  ⟨some 126, .load true 2 (.t 7), some (125, true), true, []⟩,
  ⟨some 127, .mov (.t 8), some (125, true), false, [25]⟩,
  ⟨some 128, .call 15 [(.t 126), (.t 127)], some (125, true), true, []⟩,
  ⟨some 129, .eql false ⟨false, [(0, .i)]⟩ (.t 128) (.c (.int .i64 1)), some (125, true), true, []⟩,
  ⟨some 130, .pick (.t 125) (.t 129) (.c (.bool false)), none, true, []⟩,
  ⟨some 131, .mov (.t 130), none, true, []⟩,
  ⟨some 132, .call 8 [], some (131, true), true, []⟩,
  ⟨some 133, .pick (.t 131) (.t 132) (.c (.bool false)), none, true, []⟩,
  ⟨some 6, .mov (.t 133), none, true, []⟩])
 .ret)
 .skip))
 (.seq (.region [⟨some 134, .mov (.t 8), none, true, []⟩,
  ⟨some 17, .mov (.t 134), none, true, []⟩])
 (.seq (.seq (.region [⟨some 18, .mov (.c (.int .i64 0)), none, true, []⟩])
 (.block 2 (.loop (.seq (.seq (.region [⟨some 135, .mov (.t 18), none, true, []⟩,
  ⟨some 136, .mov (.t 2), none, true, []⟩,
  ⟨some 137, .arith .lss (.t 135) (.t 136), none, true, []⟩])
 (.cond (.t 137) .skip
 (.exit 2)))
 (.seq (.block 3 (.region [⟨some 141, .mov (.t 8), none, true, []⟩,
  ⟨some 142, .load true 2 (.t 4), none, true, []⟩,
  ⟨some 143, .call 17 [(.t 142)], none, true, []⟩,
  ⟨some 144, .call 20 [(.t 141), (.t 143)], none, true, []⟩,
  ⟨some 140, .mov (.t 144), none, true, []⟩,
  ⟨some 145, .ext (.t 140) 0, none, true, []⟩,
  ⟨some 146, .ext (.t 140) 1, none, true, []⟩,
  ⟨some 8, .mov (.t 145), none, true, []⟩]))
 (.region [⟨some 138, .mov (.t 18), none, true, []⟩,
  ⟨some 139, .arith .add (.t 138) (.c (.int .i64 1)), none, true, []⟩,
  ⟨some 18, .mov (.t 139), none, true, []⟩]))))))
 (.seq (.region [⟨some 147, .mov (.t 15), none, true, []⟩,
  ⟨some 148, .eql false ⟨false, [(0, .i)]⟩ (.t 147) (.c (.int .i64 0)), none, true, []⟩,
  ⟨some 149, .mov (.t 148), none, true, []⟩,
  ⟨some 150, .load true 2 (.t 14), some (149, true), true, []⟩,
  ⟨some 151, .mov (.t 8), some (149, true), true, []⟩,
  ⟨some 152, .call 15 [(.t 150), (.t 151)], some (149, true), true, []⟩,
  ⟨some 153, .eql false ⟨false, [(0, .i)]⟩ (.t 152) (.c (.int .i64 1)), some (149, true), true, []⟩,
  ⟨some 154, .pick (.t 149) (.t 153) (.c (.bool false)), none, true, []⟩,
  ⟨some 155, .mov (.t 154), none, true, []⟩,
  ⟨some 156, .load true 2 (.t 7), some (155, true), true, []⟩,
  ⟨some 157, .mov (.t 17), some (155, true), true, []⟩,
  ⟨some 158, .call 15 [(.t 156), (.t 157)], some (155, true), true, []⟩,
  ⟨some 159, .eql false ⟨false, [(0, .i)]⟩ (.t 158) (.c (.int .i64 1)), some (155, true), true, []⟩,
  ⟨some 160, .pick (.t 155) (.t 159) (.c (.bool false)), none, true, []⟩,
  ⟨some 161, .mov (.t 160), none, true, []⟩,
  ⟨some 162, .call 8 [], some (161, true), true, []⟩,
  ⟨some 163, .pick (.t 161) (.t 162) (.c (.bool false)), none, true, []⟩,
  ⟨some 6, .mov (.t 163), none, true, []⟩])
 .ret)))))))

theorem revG {h : Heap} (w : Wf h) {a b : Int} (hr : 0 ≤ b ∧ b < 256) : WC E09 17 [.agg [.int .u8 a, .int .u8 b]] h fun v h' => Grow h h' ∧ v = .int .u64 (rv b) := rev_ok w hr

theorem whole0_ok {h : Heap} (w : Wf h) {s : Val} (hs : Ps h s []) : WC E09 15 [.agg [s, .int .i64 0], .nils] h fun v h' => Grow h h' ∧ v = .int .i64 1 :=
  whole_ok (ps := []) (xs := []) w hs us_nil Pn.nil (by simp)

def MoI (h0 : Heap) (b4 b7 b14 : Nat) (n : Int) (u s5 : Val) (t : Int) (ps q : PinL) (xs : List Int) (r : Int) (k : Nat) (fr : List Val) (h' : Heap) : Prop := Grow h0 h' ∧ ∃ (j : Nat) (v : Val), Hid ((j : Int) + k = n) ∧ fr.length = 164 ∧ fr.getD 2 .undef = .int .i64 n ∧ fr.getD 4 .undef = .ptr b4 0 ∧ fr.getD 7 .undef = .ptr b7 0 ∧ fr.getD 8 .undef = v ∧ fr.getD 14 .undef = .ptr b14 0 ∧
  fr.getD 15 .undef = .int .i64 0 ∧ fr.getD 17 .undef = u ∧ fr.getD 18 .undef = .int .i64 (j : Nat) ∧ Us h' v (xs ++ List.replicate j r)

theorem moreTail {h hc : Heap} (w : Wf h) {fr : List Val} {b4 b7 : Nat} {u : Val} {ps : PinL} {xs : List Int} {a b n : Int} (gg : Grow h hc) (hab : (0 ≤ a ∧ a < 256) ∧ (0 ≤ b ∧ b < 256)) (hn : -9223372036854775808 ≤ n ∧ n < 9223372036854775808) (hx : xs.length ≤ 60)
    (hl : fr.length = 164) (f2 : fr.getD 2 .undef = .int .i64 n) (f4 : fr.getD 4 .undef = .ptr b4 0) (f7 : fr.getD 7 .undef = .ptr b7 0) (f8 : fr.getD 8 .undef = u) (hp : PinSt hc b7 u ps xs) (hg4 : hc.get b4 = some (.cells [.int .u8 a, .int .u8 b])) :
    WE E09 v4T fr hc (fun ex fr h' => match ex with | .exit _ => False | _ => ∃ l, readResults fr h' [(6, none)] = some l ∧ (Grow h h' ∧ resultOf l = .bool true)) := by
  obtain ⟨s, hgs, hps, hus, hpn⟩ := hp
  have wc := gg.wf w
  have l7 : hc.load b7 0 2 = some [s, .int .i64 (xs.length : Nat)] := load_get hgs (by simp)
  have l4 : hc.load b4 0 2 = some [.int .u8 a, .int .u8 b] := load_get hg4 (by simp)
  have hsh := hpn.short
  have hmo : ∀ h1, Wf h1 → Keep hc h1 → WC E09 16 [.agg [s, .int .i64 (xs.length : Nat)], .int .u64 (rv b), .int .i64 n] h1 fun v h' => Grow h1 h' ∧ PRes h' v (moreR ps xs.length (rv b) n) :=
    fun h1 w1 k1 => more_ok w1 (k1.ps hps) hpn.asc hpn.len (fun p hp => by have := hpn.pos p hp; omega) (by omega)
  unfold v4T
  repeat' (first | refine WE.seqD ?_ | (refine WD.op2s ?_; simp only [opV, VOp.kind, hiddenOf, unveil_veil, veil_next, below_nil, below_cons, or_self, wanted, stepK, step, setDst, evs, List.nil_append, List.cons_append, true_and, List.getD_cons_zero, V.ev, Nat.reduceEqDiff, Nat.reduceLT, Nat.reduceLeDiff, Bool.false_eq_true, getD_ne, getD_eq, List.length_set, if_true, if_false, *]; with_reducible show WD _ _ _ _ _ _))
  refine WD.callG (h0 := hc) wc (Grow.refl _) (fun v => v = .int .u64 (rv b)) ⟨.inl (Nat.le_refl _), trivial⟩ (fun h1 w1 k1 => by (simp only [evs, V.ev, Nat.reduceLT, getD_eq, List.length_set, *]); exact rev_ok w1 hab.2) ?_
  rintro _ h3 g3 n3 rfl
  simp only [setDst, List.nil_append, List.cons_append]
  repeat' (first | (refine WD.op2s ?_; simp only [opV, VOp.kind, hiddenOf, unveil_veil, veil_next, or_false, or_self, wanted, stepK, step, setDst, evs, List.nil_append, List.cons_append, true_and, List.getD_cons_zero, List.getD_cons_succ, V.ev, Nat.reduceEqDiff, Nat.reduceLT, Nat.reduceLeDiff, Bool.false_eq_true, getD_ne, getD_eq, List.length_set, if_true, if_false, reduceCtorEq, *]; with_reducible show WD _ _ _ _ _ _))
  refine WD.callH (h0 := hc) wc g3 (fun v h => PRes h v (moreR ps xs.length (rv b) n)) (fun v h h' k e => k.pres e) trivial (fun h1 w1 k1 => by (simp only [evs, V.ev, Nat.reduceEqDiff, Nat.reduceLT, getD_ne, getD_eq, List.length_set, *]); first | done | exact hmo h1 w1 k1) ?_
  rintro _ h5 g5 n5 ⟨s5, rfl, hp5⟩
  simp only [setDst, List.nil_append, List.cons_append]
  have w5 := g5.wf wc
  repeat' (first | (refine WD.op2s ?_; simp only [opV, VOp.kind, hiddenOf, unveil_veil, veil_next, or_false, wanted, stepK, step, setDst, List.nil_append, List.cons_append, true_and, Nat.le_refl, List.getElem?_cons_zero, List.getElem?_cons_succ, List.getD_cons_zero, List.getD_cons_succ, V.ev, Nat.reduceEqDiff, Nat.reduceLT, Nat.reduceLeDiff, Bool.false_eq_true, getD_ne, getD_eq, List.length_set, if_true, reduceCtorEq, *]; with_reducible show WD _ _ _ _ _ _))
  (refine WD.op2 ?_; simp only [opV, VOp.kind, hiddenOf, wanted, setDst, true_or, List.nil_append, List.cons_append, Nat.reduceEqDiff, Nat.reduceLeDiff, Bool.false_eq_true, if_true, *])
  refine stepK_alloc w5 fun b14 h6 g6 hb14 hg14 hn14 => ?_
  have hp6 := g6.ps hp5
  have hso := ps_one hp6
  clear hn14 hp5
  skip
  (refine WD.op2 ?_; simp only [opV, VOp.kind, hiddenOf, wanted, setDst, or_true, List.nil_append, List.cons_append, Nat.reduceEqDiff, Nat.reduceLeDiff, if_true, *])
  refine stepK_store (b := b14) (o := 0) (us := [s5, .int .i64 (moreR ps xs.length (rv b) n).2.1]) (by (simp only [V.ev, Nat.reduceLT, getD_eq, List.length_set, *]; try rfl)) (by (simp only [V.ev, Nat.reduceEqDiff, Nat.reduceLT, getD_ne, getD_eq, List.length_set, *]; try rfl)) (by rfl) hg14 (by rw [g6.floor]; exact Nat.le_trans w5.fl hb14) (by simp) (one2 hso.2 _ _) fun h7 k7 => ?_
  have g7 : Grow h5 h7 := g6.wrote hb14 w5 k7
  have hp7 := ps_wrote2 hp6 hg14 rfl k7
  have e14 : h7.get b14 = some (.cells [s5, .int .i64 (moreR ps xs.length (rv b) n).2.1]) := k7.at_
  have gA := g5.trans g7
  have w7 := gA.wf wc
  have hg47 := gA.keep _ _ hg4
  have hgs7 := gA.keep _ _ hgs
  have hps7 := gA.ps hps
  have hus7 := gA.us hus
  have gZ := gg.trans gA
  clear k7 hg14 hp6 l7 l4 gA g5 g6 g7 g3 hmo gg hg4 hgs hps hus
  have wB := w7
  have gg := Grow.refl h7
  have l4 : ∀ h', Grow h7 h' → h'.load b4 0 2 = some [.int .u8 a, .int .u8 b] := fun h' g => g.part hg47 (by simp)
  have l7 : ∀ h', Grow h7 h' → h'.load b7 0 2 = some [s, .int .i64 (xs.length : Nat)] := fun h' g => g.part hgs7 (by simp)
  have l4g := l4 _ gg
  have hx100 : xs.length ≤ 100000 := by omega
  have hct := hpn.ct (rv b)
  have hr0 : 0 ≤ rv b := by unfold rv; split <;> omega
  unfold moreR at hp7 e14 ⊢
  by_cases c1 : n < 0
  · have d1 : decide (n < 0) = true := decide_eq_true c1
    rw [if_pos c1] at hp7 e14 ⊢
    have l14 : ∀ h', Grow h7 h' → h'.load b14 0 2 = some [s5, .int .i64 0] := fun h' g => g.part e14 (by simp)
    have l14g := l14 _ gg
    replace c1 := Hid.mk c1
    replace e14 := Hid.mk e14
    repeat' (first | refine WE.assoc ?_ | refine WE.seqR ?_ | refine WO.nil ?_ | refine WD.nil2 ?_ | (refine WO.op1s ?_; simp only [opK, wanted, stepK, step, setDst, pureV, arith, intBin, evs, eqVal, eqAt, eqv, Val.isAgg, Val.cells, true_and, and_self, Bool.and_true, List.getElem?_cons_zero, V.ev, Nat.reduceEqDiff, Nat.reduceLT, Bool.false_eq_true, beq_self_eq_true, getD_ne, getD_eq, List.length_set, if_true, if_false, Bool.true_beq, Bool.not_true, *]; with_reducible show WO _ _ _ _ _) | (refine WD.op2s ?_; simp only [opV, VOp.kind, hiddenOf, unveil_veil, veil_next, or_self, wanted, stepK, step, setDst, List.nil_append, List.cons_append, true_and, V.ev, Nat.reduceEqDiff, Nat.reduceLT, Nat.reduceLeDiff, getD_ne, getD_eq, List.length_set, if_true, reduceCtorEq, *]; with_reducible show WD _ _ _ _ _ _) | (refine WO.callG (f := 15) (g := none) wB gg _ rfl (fun h1 w1 k1 => by (simp only [evs, V.ev, Nat.reduceLT, getD_eq, List.length_set, *]); exact  whole0_ok w1 (k1.ps hp7)) ?_; clear gg; (rintro _ hh gg rfl; simp only [setDst])) | (refine WO.callG (f := 8) (g := none) wB gg _ rfl (fun h1 w1 k1 => by (simp only [evs, *]); exact  lives_okG) ?_; clear gg; (rintro _ hh gg rfl; simp only [setDst])) | refine WE.seqRet ?_ | (refine WE.seqCond (t := true) ?hc (fun _ => ?_) (fun hh => Bool.noConfusion hh); case hc => simp only [V.ev, Nat.reduceLT, getD_eq, List.length_set, *]) | (refine WO.known ?hc ?_; case hc => (simp only [wanted, Bool.true_beq, Nat.reduceEqDiff, Nat.reduceLT, getD_ne, getD_eq, List.length_set, *])))
    ((try dsimp only); refine Exists.intro _ ⟨(by (simp only [readResults, Nat.reduceLT, getD_eq, List.length_set, *]; try rfl)), ?_⟩)
    exact ⟨gZ.trans gg, rfl⟩
  have d1 : decide (n < 0) = false := decide_eq_false c1
  rw [if_neg c1] at hp7 e14 ⊢
  by_cases c2 : rv b = 0
  · have d2 : (rv b == 0) = true := by simpa using c2
    rw [if_pos c2] at hp7 e14 ⊢
    have l14 : ∀ h', Grow h7 h' → h'.load b14 0 2 = some [s5, .int .i64 0] := fun h' g => g.part e14 (by simp)
    replace c2 := Hid.mk c2
    replace e14 := Hid.mk e14
    repeat' (first | refine WE.assoc ?_ | refine WE.seqR ?_ | refine WO.nil ?_ | refine WD.nil2 ?_ | (refine WO.op1s ?_; simp only [opK, wanted, stepK, step, setDst, pureV, arith, intBin, evs, eqVal, eqAt, eqv, Val.isAgg, Val.cells, true_and, and_self, Bool.and_true, List.getElem?_cons_zero, V.ev, Nat.reduceEqDiff, Nat.reduceLT, Bool.false_eq_true, beq_self_eq_true, decide_false, getD_ne, getD_eq, List.length_set, if_true, if_false, Bool.not_true, *]; with_reducible show WO _ _ _ _ _) | (refine WD.op2s ?_; simp only [opV, VOp.kind, hiddenOf, unveil_veil, veil_next, or_self, wanted, stepK, step, setDst, List.nil_append, List.cons_append, true_and, V.ev, Nat.reduceEqDiff, Nat.reduceLT, Nat.reduceLeDiff, getD_ne, getD_eq, List.length_set, if_true, reduceCtorEq, *]; with_reducible show WD _ _ _ _ _ _) | (refine WO.callG (f := 17) (g := none) wB gg _ rfl (fun h1 w1 k1 => by (simp only [evs, V.ev, Nat.reduceLT, getD_eq, List.length_set, *]); exact  revG w1 hab.2) ?_; clear gg; (rintro _ hh gg rfl; simp only [setDst])) | (refine WO.callG (f := 15) (g := none) wB gg _ rfl (fun h1 w1 k1 => by (simp only [evs, V.ev, Nat.reduceLT, getD_eq, List.length_set, *]); exact  whole0_ok w1 (k1.ps hp7)) ?_; clear gg; (rintro _ hh gg rfl; simp only [setDst])) | (refine WO.callG (f := 8) (g := none) wB gg _ rfl (fun h1 w1 k1 => by (simp only [evs, *]); exact  lives_okG) ?_; clear gg; (rintro _ hh gg rfl; simp only [setDst])) | refine WE.seqSkip ?_ | refine WE.seqRet ?_ | (refine WE.seqCond (t := true) ?hc (fun _ => ?_) (fun hh => Bool.noConfusion hh); case hc => simp only [V.ev, Nat.reduceLT, getD_eq, List.length_set, *]) | (refine WE.seqCond (t := false) ?hc (fun hh => Bool.noConfusion hh) (fun _ => ?_); case hc => simp only [V.ev, Nat.reduceLT, getD_eq, List.length_set, *]) | (refine WO.known ?hc ?_; case hc => (simp only [wanted, Bool.true_beq, Bool.false_beq, Nat.reduceEqDiff, Nat.reduceLT, getD_ne, getD_eq, List.length_set, Bool.not_false, *])))
    ((try dsimp only); refine Exists.intro _ ⟨(by (simp only [readResults, Nat.reduceLT, getD_eq, List.length_set, *]; try rfl)), ?_⟩)
    exact ⟨gZ.trans gg, rfl⟩
  have d2 : (rv b == 0) = false := by simpa using c2
  rw [if_neg c2] at hp7 e14 ⊢
  have hcl : cnt xs (rv b) ≤ 60 := by have := List.countP_le_length (p := (· == rv b)) (l := xs); unfold cnt; omega
  have u1 : IntKind.i64.wrap (4096 - (cnt xs (rv b) : Int)) = 4096 - (cnt xs (rv b) : Int) := wrap_i64 (by omega) (by omega)
  by_cases c3 : n > 4096 - (cnt xs (rv b) : Int)
  · have d3 : decide (n > 4096 - (cnt xs (rv b) : Int)) = true := decide_eq_true c3
    rw [if_neg (by omega), if_pos (.inl (by rw [hct]; exact c3))] at hp7 e14 ⊢
    have l14 : ∀ h', Grow h7 h' → h'.load b14 0 2 = some [s5, .int .i64 0] := fun h' g => g.part e14 (by simp)
    replace c2 := Hid.mk c2
    replace c3 := Hid.mk c3
    replace e14 := Hid.mk e14
    replace hct := Hid.mk hct
    repeat' (first | refine WE.assoc ?_ | refine WE.seqR ?_ | refine WO.nil ?_ | refine WD.nil2 ?_ | (refine WO.op1s ?_; simp only [opK, wanted, stepK, step, setDst, pureV, arith, intBin, evs, eqVal, eqAt, eqv, Val.isAgg, Val.cells, true_and, and_self, Bool.and_true, List.getElem?_cons_zero, V.ev, Nat.reduceEqDiff, Nat.reduceLT, Bool.false_eq_true, beq_self_eq_true, decide_false, getD_ne, getD_eq, List.length_set, if_true, if_false, Bool.not_true, Bool.not_false, *]; with_reducible show WO _ _ _ _ _) | (refine WD.op2s ?_; simp only [opV, VOp.kind, hiddenOf, unveil_veil, veil_next, or_self, wanted, stepK, step, setDst, List.nil_append, List.cons_append, true_and, V.ev, Nat.reduceEqDiff, Nat.reduceLT, Nat.reduceLeDiff, getD_ne, getD_eq, List.length_set, if_true, reduceCtorEq, *]; with_reducible show WD _ _ _ _ _ _) | (refine WO.callG (f := 17) (g := none) wB gg _ rfl (fun h1 w1 k1 => by (simp only [evs, V.ev, Nat.reduceLT, getD_eq, List.length_set, *]); exact  revG w1 hab.2) ?_; clear gg; (rintro _ hh gg rfl; simp only [setDst])) | (refine WO.callG (f := 18) (g := none) wB gg _ rfl (fun h1 w1 k1 => by (simp only [evs, V.ev, Nat.reduceEqDiff, Nat.reduceLT, getD_ne, getD_eq, List.length_set, *]); exact  count_okG (k1.us hus7) hx100) ?_; clear gg; (rintro _ hh gg rfl; simp only [setDst])) | (refine WO.callG (f := 15) (g := none) wB gg _ rfl (fun h1 w1 k1 => by (simp only [evs, V.ev, Nat.reduceLT, getD_eq, List.length_set, *]); exact  whole0_ok w1 (k1.ps hp7)) ?_; clear gg; (rintro _ hh gg rfl; simp only [setDst])) | (refine WO.callG (f := 8) (g := none) wB gg _ rfl (fun h1 w1 k1 => by (simp only [evs, *]); exact  lives_okG) ?_; clear gg; (rintro _ hh gg rfl; simp only [setDst])) | refine WE.seqSkip ?_ | refine WE.seqRet ?_ | (refine WE.seqCond (t := true) ?hc (fun _ => ?_) (fun hh => Bool.noConfusion hh); case hc => simp only [V.ev, Nat.reduceLT, getD_eq, List.length_set, *]) | (refine WE.seqCond (t := false) ?hc (fun hh => Bool.noConfusion hh) (fun _ => ?_); case hc => simp only [V.ev, Nat.reduceLT, getD_eq, List.length_set, *]) | (refine WO.known ?hc ?_; case hc => (simp only [wanted, Bool.true_beq, Bool.false_beq, Nat.reduceEqDiff, Nat.reduceLT, getD_ne, getD_eq, List.length_set, Bool.not_false, *])))
    ((try dsimp only); refine Exists.intro _ ⟨(by (simp only [readResults, Nat.reduceLT, getD_eq, List.length_set, *]; try rfl)), ?_⟩)
    exact ⟨gZ.trans gg, rfl⟩
  have d3 : decide (n > 4096 - (cnt xs (rv b) : Int)) = false := decide_eq_false c3
  have hx2 : ∃ (q : PinL) (t : Int), (if n = 0 then (ps, (xs.length : Int), (0 : Int)) else if n > 4096 - cntP ps (rv b) ∨ (hasP ps (rv b) = false ∧ ps.length = 1024) then ([], 0, 3) else (bump ps (rv b) n, (xs.length : Int) + n, 0)) = (q, t, 0) ∧ Pn q (xs ++ List.replicate n.toNat (rv b)) ∧ t = ((xs ++ List.replicate n.toNat (rv b)).length : Nat) := by
    by_cases c4 : n = 0
    · refine ⟨ps, xs.length, if_pos c4, ?_, ?_⟩ <;> subst c4 <;> simp [hpn]
    · rw [if_neg c4, if_neg (by rintro (z | ⟨_, z⟩); rw [hct] at z; exact c3 z; omega)]
      refine ⟨_, _, rfl, ?_, ?_⟩
      · have := hpn.bump (r := rv b) (n := n.toNat) (by omega) (by omega) (by rw [hct]; omega) (by rintro ⟨_, z⟩; omega)
        rwa [Int.toNat_of_nonneg (by omega)] at this
      · rw [List.length_append, List.length_replicate]; omega
  obtain ⟨q, t, hq, hpq, ht⟩ := hx2
  rw [hq] at hp7 e14 ⊢
  simp only at hp7 e14 ⊢
  have l14 : ∀ h', Grow h7 h' → h'.load b14 0 2 = some [s5, .int .i64 t] := fun h' g => g.part e14 (by simp)
  replace e14 := Hid.mk e14
  replace hq := Hid.mk hq
  have hcn : cnt (xs ++ List.replicate n.toNat (rv b)) (rv b) = cnt xs (rv b) + n.toNat := by
    rw [cnt_app]
    unfold cnt
    rw [List.countP_replicate]
    simp
  by_cases c4 : n > 100
  ·
    have d4 : decide (n > 100) = true := decide_eq_true c4
    have hqc : cntP q (rv b) = (cnt xs (rv b) : Int) + n := by rw [hpq.ct, hcn]; omega
    have u2 : IntKind.i64.wrap ((xs.length : Int) + n) = ((xs ++ List.replicate n.toNat (rv b)).length : Nat) := by
      rw [wrap_i64 (by omega) (by omega), List.length_append, List.length_replicate]; omega
    have u3 : IntKind.i64.wrap ((cnt xs (rv b) : Int) + n) = cntP q (rv b) := by rw [wrap_i64 (by omega) (by omega), hqc]
    have e1 : ((((xs ++ List.replicate n.toNat (rv b)).length : Nat) : Int) == (((xs ++ List.replicate n.toNat (rv b)).length : Nat) : Int)) = true := by simp
    have e2 : (cntP q (rv b) == cntP q (rv b)) = true := by simp
    subst ht
    have hlx := hus7.lenI
    have hql : q.length < 4611686018427387904 := by have := hpq.len; omega
    have l4x := l4 _ gg
    replace hqc := Hid.mk hqc
    replace hcn := Hid.mk hcn
    replace c2 := Hid.mk c2
    replace c3 := Hid.mk c3
    replace c4 := Hid.mk c4
    replace hct := Hid.mk hct
    repeat' (first | refine WE.assoc ?_ | refine WE.seqR ?_ | refine WD.nil2 ?_ | (refine WO.op1s ?_; simp only [opK, wanted, stepK, step, setDst, pureV, arith, intBin, evs, true_and, V.ev, Nat.reduceEqDiff, Nat.reduceLT, beq_self_eq_true, decide_false, getD_ne, getD_eq, List.length_set, if_true, *]; with_reducible show WO _ _ _ _ _) | (refine WD.op2s ?_; simp only [opV, VOp.kind, hiddenOf, unveil_veil, veil_next, or_self, wanted, stepK, step, setDst, List.nil_append, List.cons_append, true_and, V.ev, Nat.reduceEqDiff, Nat.reduceLT, Nat.reduceLeDiff, getD_ne, getD_eq, List.length_set, if_true, reduceCtorEq, *]; with_reducible show WD _ _ _ _ _ _) | (refine WO.known ?hc ?_; case hc => (simp only [wanted, Bool.false_beq, Nat.reduceEqDiff, Nat.reduceLT, getD_ne, getD_eq, List.length_set, Bool.not_false, *])))
    refine WO.callG wB gg (fun v => v = .int .u64 (rv b)) rfl (fun h1 w1 k1 => by (simp only [evs, V.ev, Nat.reduceLT, getD_eq, List.length_set, *]); exact revG w1 hab.2) ?_
    clear gg l4g l4x
    rintro _ hA gA rfl
    simp only [setDst]
    have l4A := l4 _ gA
    repeat' (first | refine WE.assoc ?_ | refine WE.seqR ?_ | refine WO.nil ?_ | (refine WO.op1s ?_; simp only [opK, wanted, stepK, step, setDst, evs, eqVal, eqAt, eqv, Val.isAgg, Val.cells, true_and, and_self, Bool.and_true, List.getElem?_cons_zero, V.ev, Nat.reduceEqDiff, Nat.reduceLT, Bool.false_eq_true, beq_self_eq_true, getD_ne, getD_eq, List.length_set, if_true, if_false, Bool.not_false, *]; with_reducible show WO _ _ _ _ _) | refine WE.seqSkip ?_ | (refine WE.seqCond (t := false) ?hc (fun hh => Bool.noConfusion hh) (fun _ => ?_); case hc => simp only [V.ev, Nat.reduceLT, getD_eq, List.length_set, *]))
    refine WO.callG wB gA (fun v => v = .int .u64 (rv b)) rfl (fun h1 w1 k1 => by (simp only [evs, V.ev, Nat.reduceLT, getD_eq, List.length_set, *]); exact revG w1 hab.2) ?_
    clear gA l4A
    rintro _ hA gA rfl
    simp only [setDst]
    skip
    refine WO.callG wB gA _ rfl (fun h1 w1 k1 => by (simp only [evs, V.ev, Nat.reduceEqDiff, Nat.reduceLT, getD_ne, getD_eq, List.length_set, *]); exact count_okG (k1.us hus7) hx100) ?_
    clear gA
    rintro _ hB gB rfl
    simp only [setDst]
    have l14B := l14 _ gB
    repeat' (first | refine WE.assoc ?_ | refine WE.seqR ?_ | refine WO.nil ?_ | refine WE.seqD ?_ | (refine WO.op1s ?_; simp only [opK, wanted, stepK, step, setDst, pureV, arith, intBin, true_and, V.ev, Nat.reduceEqDiff, Nat.reduceLT, getD_ne, getD_eq, List.length_set, if_true, *]; with_reducible show WO _ _ _ _ _) | (refine WD.op2s ?_; simp only [opV, VOp.kind, hiddenOf, unveil_veil, veil_next, below_nil, or_true, or_self, wanted, stepK, step, setDst, evs, eqVal, eqAt, eqv, Val.isAgg, Val.cells, List.nil_append, List.cons_append, true_and, and_self, Bool.and_true, List.getElem?_cons_zero, V.ev, Nat.reduceEqDiff, Nat.reduceLT, Nat.reduceLeDiff, Bool.false_eq_true, beq_self_eq_true, getD_ne, getD_eq, List.length_set, if_true, if_false, reduceCtorEq, Bool.not_true, *]; with_reducible show WD _ _ _ _ _ _) | refine WE.seqSkip ?_ | (refine WE.seqCond (t := true) ?hc (fun _ => ?_) (fun hh => Bool.noConfusion hh); case hc => simp only [V.ev, Nat.reduceLT, getD_eq, List.length_set, *]) | (refine WE.seqCond (t := false) ?hc (fun hh => Bool.noConfusion hh) (fun _ => ?_); case hc => simp only [V.ev, Nat.reduceLT, getD_eq, List.length_set, *]) | (refine WD.known ?hc ?_; case hc => (simp only [wanted, Bool.true_beq, Nat.reduceEqDiff, Nat.reduceLT, getD_ne, getD_eq, List.length_set, *])))
    refine WD.callG (h0 := h7) w7 gB (_) trivial (fun h1 w1 k1 => by (simp only [evs, V.ev, Nat.reduceLT, getD_eq, List.length_set, *]); exact total_ok w1) ?_
    rintro _ h8 g8 n8 rfl
    simp only [setDst, List.nil_append, List.cons_append]
    have l14C := l14 _ g8
    have l4C := l4 _ g8
    repeat' (first | (refine WD.lenOfE ?_; simp only [setDst, List.nil_append, List.cons_append, V.ev, Nat.reduceLT, getD_eq, List.length_set, *]; refine ⟨_, rfl, ?_⟩) | (refine WD.op2s ?_; simp only [opV, VOp.kind, hiddenOf, unveil_veil, veil_next, below_nil, below_cons, or_false, or_self, wanted, stepK, step, setDst, pureV, arith, intBin, evs, eqVal, eqAt, eqv, Val.isAgg, Val.cells, List.nil_append, List.cons_append, true_and, and_self, Bool.and_true, List.getElem?_cons_zero, List.getD_cons_zero, List.getD_cons_succ, V.ev, Nat.reduceEqDiff, Nat.reduceLT, Nat.reduceLeDiff, Bool.false_eq_true, beq_self_eq_true, getD_ne, getD_eq, List.length_set, if_true, if_false, reduceCtorEq, Bool.not_true, *]; with_reducible show WD _ _ _ _ _ _) | (refine WD.known ?hc ?_; case hc => (simp only [wanted, Bool.true_beq, Nat.reduceEqDiff, Nat.reduceLT, getD_ne, getD_eq, List.length_set, *])))
    refine WD.callG (h0 := h7) w7 g8 (fun v => v = .int .u64 (rv b)) ⟨.inl (Nat.le_refl _), trivial⟩ (fun h1 w1 k1 => by (simp only [evs, V.ev, Nat.reduceLT, getD_eq, List.length_set, *]); exact revG w1 hab.2) ?_
    rintro _ h9 g9 n9 rfl
    simp only [setDst, List.nil_append, List.cons_append]
    repeat' (first | (refine WD.known ?hc ?_; case hc => (simp only [wanted, Bool.true_beq, Nat.reduceEqDiff, Nat.reduceLT, getD_ne, getD_eq, List.length_set, *])))
    refine WD.callG (h0 := h7) w7 g9 (_) trivial (fun h1 w1 k1 => by (simp only [evs, V.ev, Nat.reduceEqDiff, Nat.reduceLT, getD_ne, getD_eq, List.length_set, *]); exact pcount_ok w1 (k1.ps hp7) hpq.asc hql) ?_
    rintro _ h10 g10 n10 rfl
    simp only [setDst, List.nil_append, List.cons_append]
    have late : Late h7 h10 [(h8.next, h8.next), (h8.next, h8.next), (h8.next, h9.next), (h9.next, h10.next)] := ⟨.inl (Nat.le_refl _), .inl (Nat.le_refl _), .inr ⟨g8.next, n10⟩, .inr ⟨g9.next, Nat.le_refl _⟩, trivial⟩
    have y6 := (veil_keep w7 g10 late).load (l4 _ (Grow.refl _))
    repeat' (first | (refine WD.op2s ?_; simp only [opV, VOp.kind, hiddenOf, unveil_veil, veil_next, or_true, or_false, or_self, wanted, stepK, step, setDst, evs, List.nil_append, List.cons_append, true_and, List.getD_cons_zero, List.getD_cons_succ, V.ev, Nat.reduceEqDiff, Nat.reduceLT, Nat.reduceLeDiff, Bool.false_eq_true, beq_self_eq_true, getD_ne, getD_eq, List.length_set, if_true, if_false, reduceCtorEq, *]; with_reducible show WD _ _ _ _ _ _) | (refine WD.known ?hc ?_; case hc => (simp only [wanted, Bool.true_beq, Nat.reduceEqDiff, Nat.reduceLT, getD_ne, getD_eq, List.length_set, *])))
    refine WD.callG (h0 := h7) w7 g10 (fun v => v = .int .u64 (rv b)) trivial (fun h1 w1 k1 => by (simp only [evs, V.ev, Nat.reduceLT, getD_eq, List.length_set, *]); exact revG w1 hab.2) ?_
    rintro _ h11 g11 n11 rfl
    simp only [setDst, List.nil_append, List.cons_append]
    repeat' (first | (refine WD.known ?hc ?_; case hc => (simp only [wanted, Bool.true_beq, Nat.reduceEqDiff, Nat.reduceLT, getD_ne, getD_eq, List.length_set, *])))
    refine WD.callG (h0 := h7) w7 g11 (_) trivial (fun h1 w1 k1 => by (simp only [evs, V.ev, Nat.reduceEqDiff, Nat.reduceLT, getD_ne, getD_eq, List.length_set, *]); exact count_okG (k1.us hus7) hx100) ?_
    rintro _ h12 g12 n12 rfl
    simp only [setDst, List.nil_append, List.cons_append]
    have l7C := l7 _ g12
    repeat' (first | (refine WD.op2s ?_; simp only [opV, VOp.kind, hiddenOf, unveil_veil, veil_next, below_nil, or_true, or_false, or_self, wanted, stepK, step, setDst, pureV, arith, intBin, evs, eqVal, eqAt, eqv, Val.isAgg, Val.cells, List.nil_append, List.cons_append, true_and, and_self, Bool.and_true, List.getElem?_cons_zero, List.getD_cons_zero, List.getD_cons_succ, V.ev, Nat.reduceEqDiff, Nat.reduceLT, Nat.reduceLeDiff, Bool.false_eq_true, beq_self_eq_true, getD_ne, getD_eq, List.length_set, if_true, if_false, reduceCtorEq, Bool.not_true, *]; with_reducible show WD _ _ _ _ _ _) | (refine WD.known ?hc ?_; case hc => (simp only [wanted, Bool.true_beq, Nat.reduceEqDiff, Nat.reduceLT, getD_ne, getD_eq, List.length_set, *])))
    refine WD.callG (h0 := h7) w7 g12 (fun v => v = .int .i64 1) trivial (fun h1 w1 k1 => by (simp only [evs, V.ev, Nat.reduceEqDiff, Nat.reduceLT, getD_ne, getD_eq, List.length_set, *]); exact whole_ok w1 (k1.ps hps7) (k1.us hus7) hpn hx100) ?_
    rintro _ h13 g13 n13 rfl
    simp only [setDst, List.nil_append, List.cons_append]
    repeat' (first | (refine WD.op2s ?_; simp only [opV, VOp.kind, hiddenOf, unveil_veil, veil_next, or_true, or_self, wanted, stepK, step, setDst, evs, eqVal, eqAt, eqv, Val.isAgg, Val.cells, List.nil_append, List.cons_append, true_and, and_self, Bool.and_true, List.getElem?_cons_zero, V.ev, Nat.reduceEqDiff, Nat.reduceLT, Nat.reduceLeDiff, Bool.false_eq_true, beq_self_eq_true, getD_ne, getD_eq, List.length_set, if_true, if_false, reduceCtorEq, Bool.not_true, *]; with_reducible show WD _ _ _ _ _ _) | (refine WD.known ?hc ?_; case hc => (simp only [wanted, Bool.true_beq, Nat.reduceLT, getD_eq, List.length_set, *])))
    refine WD.callG (h0 := h7) w7 g13 (fun v => v = .bool true) trivial (fun h1 w1 k1 => by (simp only [evs, *]); exact lives_okG) ?_
    rintro _ h14 g14 n14 rfl
    simp only [setDst, List.nil_append, List.cons_append]
    repeat' (first | refine WD.nil2 ?_ | (refine WD.op2s ?_; simp only [opV, VOp.kind, hiddenOf, unveil_veil, veil_next, or_self, wanted, stepK, step, setDst, List.nil_append, List.cons_append, true_and, V.ev, Nat.reduceEqDiff, Nat.reduceLT, Nat.reduceLeDiff, getD_ne, getD_eq, List.length_set, if_true, reduceCtorEq, *]; with_reducible show WD _ _ _ _ _ _) | refine WE.seqRet ?_)
    ((try dsimp only); refine Exists.intro _ ⟨(by (simp only [readResults, Nat.reduceLT, getD_eq, List.length_set, *]; try rfl)), ?_⟩)
    exact ⟨gZ.trans g14, rfl⟩
  have d4 : decide (n > 100) = false := decide_eq_false c4
  have hheld : ∀ j : Nat, (j : Int) ≤ n → ∃ o, HeldOf (xs ++ List.replicate j (rv b)) o ∧ o.length < 1024 := by
    intro j hj
    rcases Nat.eq_zero_or_pos j with rfl | hj0
    · exact ⟨_, by simpa using hpn.held, by simp; omega⟩
    · have hb := hpn.bump (r := rv b) (n := j) (by omega) hj0 (by rw [hct]; omega) (by rintro ⟨_, z⟩; omega)
      refine ⟨_, hb.held, ?_⟩
      have := hb.short
      rw [List.length_append, List.length_replicate] at this
      rw [List.length_map]; omega
  have hpin : ∀ (j : Nat) (o : List Int), (j : Int) < n → o.length < 1024 → pinL (xs ++ List.replicate j (rv b)) o.length (rv b) = (xs ++ List.replicate (j + 1) (rv b), 0) := by
    intro j o hj ho
    have hcj : cnt (xs ++ List.replicate j (rv b)) (rv b) = cnt xs (rv b) + j := by
      rw [cnt_app]
      unfold cnt
      rw [List.countP_replicate]
      simp
    unfold pinL
    rw [if_neg c2, if_neg (by rw [hcj]; omega), List.replicate_succ', List.append_assoc]
  have hn0 : 0 ≤ n ∧ n ≤ 100 := by omega
  subst ht
  replace hcn := Hid.mk hcn
  replace c2 := Hid.mk c2
  replace c3 := Hid.mk c3
  replace c4 := Hid.mk c4
  replace hct := Hid.mk hct
  replace hheld := Hid.mk hheld
  replace hpin := Hid.mk hpin
  repeat' (first | refine WE.assoc ?_ | refine WE.seqR ?_ | refine WO.nil ?_ | refine WD.nil2 ?_ | (refine WO.op1s ?_; simp only [opK, wanted, stepK, step, setDst, pureV, arith, intBin, evs, eqVal, eqAt, eqv, Val.isAgg, Val.cells, true_and, and_self, Bool.and_true, List.getElem?_cons_zero, V.ev, Nat.reduceEqDiff, Nat.reduceLT, Bool.false_eq_true, beq_self_eq_true, decide_false, getD_ne, getD_eq, List.length_set, if_true, if_false, Bool.not_false, *]; with_reducible show WO _ _ _ _ _) | (refine WD.op2s ?_; simp only [opV, VOp.kind, hiddenOf, unveil_veil, veil_next, or_self, wanted, stepK, step, setDst, List.nil_append, List.cons_append, true_and, V.ev, Nat.reduceEqDiff, Nat.reduceLT, Nat.reduceLeDiff, getD_ne, getD_eq, List.length_set, if_true, reduceCtorEq, *]; with_reducible show WD _ _ _ _ _ _) | (refine WO.callG (f := 17) (g := none) wB gg _ rfl (fun h1 w1 k1 => by (simp only [evs, V.ev, Nat.reduceLT, getD_eq, List.length_set, *]); exact  revG w1 hab.2) ?_; clear gg; (rintro _ hh gg rfl; simp only [setDst])) | (refine WO.callG (f := 18) (g := none) wB gg _ rfl (fun h1 w1 k1 => by (simp only [evs, V.ev, Nat.reduceEqDiff, Nat.reduceLT, getD_ne, getD_eq, List.length_set, *]); exact  count_okG (k1.us hus7) hx100) ?_; clear gg; (rintro _ hh gg rfl; simp only [setDst])) | refine WE.seqSkip ?_ | (refine WE.seqCond (t := false) ?hc (fun hh => Bool.noConfusion hh) (fun _ => ?_); case hc => simp only [V.ev, Nat.reduceLT, getD_eq, List.length_set, *]) | (refine WO.known ?hc ?_; case hc => (simp only [wanted, Bool.false_beq, Nat.reduceEqDiff, Nat.reduceLT, getD_ne, getD_eq, List.length_set, Bool.not_false, *])) | refine WE.seqBlock ?_)
  refine WE.loop (MoI h7 b4 b7 b14 n u s5 0 ps q xs (rv b)) ?_ n.toNat _ _ ⟨gg, 0, u, ⟨by omega⟩, by simp only [List.length_set, hl], by (simp only [Nat.reduceEqDiff, getD_ne, *]; try rfl), by (simp only [Nat.reduceEqDiff, getD_ne, *]; try rfl), by (simp only [Nat.reduceEqDiff, getD_ne, *]; try rfl), by (simp only [Nat.reduceEqDiff, getD_ne, *]; try rfl), by (simp only [Nat.reduceEqDiff, Nat.reduceLT, getD_ne, getD_eq, List.length_set, *]; try rfl), by (simp only [Nat.reduceEqDiff, Nat.reduceLT, getD_ne, getD_eq, List.length_set, *]; try rfl), by (simp only [Nat.reduceEqDiff, Nat.reduceLT, getD_ne, getD_eq, List.length_set, *]; try rfl), by (simp only [Nat.reduceLT, Int.cast_ofNat_Int, getD_eq, List.length_set, *]; try rfl), by simpa using gg.us hus7⟩
  clear f2 f4 f7 f8 hl gg l4g
  rintro k fr hc2 ⟨gg, j, v, hk, hl, f2, f4, f7, f8, f14, f15, f17, f18, huv⟩
  have wc2 := gg.wf w7
  by_cases hj : (j : Int) < n
  · have hd : decide ((j : Int) < n) = true := decide_eq_true hj
    have wn : IntKind.i64.wrap ((j : Int) + 1) = ((j + 1 : Nat) : Int) := wrap_add (b := 1) (by omega)
    obtain ⟨o, ho, hol⟩ := hheld.out j (by omega)
    have hpj := hpin.out j o hj hol
    have l4h := l4 _ gg
    replace hj := Hid.mk hj
    repeat' (first | refine WE.assoc ?_ | refine WE.seqR ?_ | refine WO.nil ?_ | (refine WO.op1s ?_; simp only [opK, wanted, stepK, step, setDst, pureV, arith, intBin, evs, true_and, V.ev, Nat.reduceEqDiff, Nat.reduceLT, getD_ne, getD_eq, List.length_set, if_true, *]; with_reducible show WO _ _ _ _ _) | refine WE.seqSkip ?_ | (refine WE.seqCond (t := true) ?hc (fun _ => ?_) (fun hh => Bool.noConfusion hh); case hc => simp only [V.ev, Nat.reduceLT, getD_eq, List.length_set, *]) | refine WE.region ?_ | refine WE.seqBlock ?_)
    refine WO.callG (h0 := hc2) wc2 (Grow.refl _) (fun v => v = .int .u64 (rv b)) rfl (fun h1 w1 k1 => by (simp only [evs, V.ev, Nat.reduceLT, getD_eq, List.length_set, *]); exact revG w1 hab.2) ?_
    rintro _ h8 g8 rfl
    simp only [setDst]
    skip
    refine WO.call rfl ?_
    (simp only [evs, V.ev, Nat.reduceEqDiff, Nat.reduceLT, getD_ne, getD_eq, List.length_set, *])
    refine (pinR_ok (g8.wf wc2) (g8.us huv) (by rw [List.length_append, List.length_replicate]; have := hj.out; omega) ho).mono ?_
    rintro _ h9 ⟨g9, s9, rfl, hu9⟩
    simp only [setDst]
    rw [hpj] at hu9 ⊢
    have gY := gg.trans (g8.trans g9)
    clear hpj huv l4h ho
    repeat' (first | refine WO.nil ?_ | (refine WO.op1s ?_; simp only [opK, wanted, stepK, step, setDst, pureV, arith, intBin, true_and, List.getElem?_cons_zero, List.getElem?_cons_succ, V.ev, Nat.reduceEqDiff, Nat.reduceLT, getD_ne, getD_eq, List.length_set, if_true, *]; with_reducible show WO _ _ _ _ _) | refine WE.region ?_)
    exact ⟨k - 1, by have := hk.out; have := hj.out; omega, gY, j + 1, s9, ⟨by have := hk.out; have := hj.out; omega⟩, by simp only [List.length_set, hl], by (simp only [Nat.reduceEqDiff, getD_ne, *]; try rfl), by (simp only [Nat.reduceEqDiff, getD_ne, *]; try rfl), by (simp only [Nat.reduceEqDiff, getD_ne, *]; try rfl), by (simp only [Nat.reduceEqDiff, Nat.reduceLT, getD_ne, getD_eq, List.length_set, *]; try rfl), by (simp only [Nat.reduceEqDiff, getD_ne, *]; try rfl), by (simp only [Nat.reduceEqDiff, getD_ne, *]; try rfl), by (simp only [Nat.reduceEqDiff, getD_ne, *]; try rfl), by (simp only [Nat.reduceLT, getD_eq, List.length_set, *]; try rfl), hu9⟩
  · have hd : decide ((j : Int) < n) = false := decide_eq_false hj
    have hjn : j = n.toNat := by have := hk.out; omega
    rw [hjn] at huv
    replace hjn := Hid.mk hjn
    replace hj := Hid.mk hj
    have l14h := l14 _ gg
    repeat' (first | refine WE.assoc ?_ | refine WE.seqR ?_ | refine WO.nil ?_ | (refine WO.op1s ?_; simp only [opK, wanted, stepK, step, setDst, pureV, arith, intBin, evs, eqVal, eqAt, eqv, Val.isAgg, Val.cells, true_and, and_self, Bool.and_true, List.getElem?_cons_zero, V.ev, Nat.reduceEqDiff, Nat.reduceLT, Bool.false_eq_true, beq_self_eq_true, getD_ne, getD_eq, List.length_set, if_true, if_false, Bool.not_true, *]; with_reducible show WO _ _ _ _ _) | refine WE.seqExit ?_ | (refine WE.seqCond (t := false) ?hc (fun hh => Bool.noConfusion hh) (fun _ => ?_); case hc => simp only [V.ev, Nat.reduceLT, getD_eq, List.length_set, *]) | (refine WO.known ?hc ?_; case hc => (simp only [wanted, Bool.true_beq, Nat.reduceEqDiff, Nat.reduceLT, getD_ne, getD_eq, List.length_set, *])))
    refine WO.callG (h0 := hc2) wc2 (Grow.refl _) (fun v => v = .int .i64 1) rfl (fun h1 w1 k1 => by (simp only [evs, V.ev, Nat.reduceEqDiff, Nat.reduceLT, getD_ne, getD_eq, List.length_set, *]); exact whole_ok w1 (k1.ps (gg.ps hp7)) (k1.us huv) hpq (by rw [List.length_append, List.length_replicate]; omega)) ?_
    rintro _ h8 g8 rfl
    simp only [setDst]
    have g8a := gg.trans g8
    have w8 := g8a.wf w7
    have l7h := l7 _ g8a
    repeat' (first | (refine WO.op1s ?_; simp only [opK, wanted, stepK, step, setDst, evs, eqVal, eqAt, eqv, Val.isAgg, Val.cells, true_and, and_self, Bool.and_true, List.getElem?_cons_zero, V.ev, Nat.reduceEqDiff, Nat.reduceLT, Bool.false_eq_true, beq_self_eq_true, getD_ne, getD_eq, List.length_set, if_true, if_false, Bool.not_true, *]; with_reducible show WO _ _ _ _ _) | (refine WO.known ?hc ?_; case hc => (simp only [wanted, Bool.true_beq, Nat.reduceEqDiff, Nat.reduceLT, getD_ne, getD_eq, List.length_set, *])))
    refine WO.callG (h0 := h8) w8 (Grow.refl _) (fun v => v = .int .i64 1) rfl (fun h1 w1 k1 => by (simp only [evs, V.ev, Nat.reduceEqDiff, Nat.reduceLT, getD_ne, getD_eq, List.length_set, *]); exact whole_ok w1 (k1.ps (g8a.ps hps7)) (k1.us (g8a.us hus7)) hpn hx100) ?_
    rintro _ h9 g9 rfl
    simp only [setDst]
    have g9a := g8a.trans g9
    have w9 := g9a.wf w7
    repeat' (first | (refine WO.op1s ?_; simp only [opK, wanted, stepK, step, setDst, evs, eqVal, eqAt, eqv, Val.isAgg, Val.cells, true_and, and_self, Bool.and_true, List.getElem?_cons_zero, V.ev, Nat.reduceEqDiff, Nat.reduceLT, Bool.false_eq_true, beq_self_eq_true, getD_ne, getD_eq, List.length_set, if_true, if_false, Bool.not_true, *]; with_reducible show WO _ _ _ _ _) | (refine WO.known ?hc ?_; case hc => (simp only [wanted, Bool.true_beq, Nat.reduceLT, getD_eq, List.length_set, *])))
    refine WO.callG (h0 := h9) w9 (Grow.refl _) (fun v => v = .bool true) rfl (fun h1 w1 k1 => by (simp only [evs, *]); exact lives_okG) ?_
    rintro _ h10 g10 rfl
    simp only [setDst]
    repeat' (first | refine WO.nil ?_ | (refine WO.op1s ?_; simp only [opK, wanted, stepK, step, setDst, true_and, V.ev, Nat.reduceEqDiff, Nat.reduceLT, getD_ne, getD_eq, List.length_set, *]; with_reducible show WO _ _ _ _ _) | refine WE.ret ?_)
    ((try dsimp only); refine Exists.intro _ ⟨(by (simp only [readResults, Nat.reduceLT, getD_eq, List.length_set, *]; try rfl)), ?_⟩)
    exact ⟨gZ.trans (g9a.trans g10), rfl⟩

theorem lawMore_ok {h : Heap} (w : Wf h) {l : Val} {os : List (Int × Int)} {a b n : Int} (hl' : Oc h l os) (hab : (0 ≤ a ∧ a < 256) ∧ (0 ≤ b ∧ b < 256)) (hn : -9223372036854775808 ≤ n ∧ n < 9223372036854775808) :
    WC E09 4 [l, .agg [.int .u8 a, .int .u8 b], .int .i64 n] h fun v h' => Grow h h' ∧ v = .bool true := by
  refine WC.fn1 (n := 164) rfl rfl (by rfl) ?_
  intro fr hl ha'
  have f0 : fr.getD 0 .undef = l := ha' 0
  have f1 : fr.getD 1 .undef = .agg [.int .u8 a, .int .u8 b] := ha' 1
  have f2 : fr.getD 2 .undef = .int .i64 n := ha' 2
  clear ha'
  have hlo := hl'.1.lenI
  unfold v4
  refine WE.seqR ?_
  (refine WO.op1 ?_; simp only [opK, wanted, setDst, *])
  refine stepK_box w (c := [.int .u8 a, .int .u8 b]) (by simp only [V.ev, *]; rfl) rfl fun b4 h1 g1 hb4 hg4 hn4 => ?_
  have w1 := g1.wf w
  repeat' (first | refine WE.seqR ?_ | refine WO.nil ?_ | (refine WO.op1s ?_; simp only [opK, wanted, stepK, step, setDst, true_and, V.ev, *]; with_reducible show WO _ _ _ _ _))
  (refine WO.op1 ?_; simp only [opK, wanted, setDst, *])
  refine stepK_alloc w1 fun b7 h2 g2 hb7 hg7 hn7 => ?_
  have B := Hid.mk (show h.next ≤ b7 ∧ h.next ≤ b4 ∧ b4 < b7 from ⟨by have := g1.next; omega, hb4, by have := lt_of_get w1 hg4; omega⟩)
  have g02 := g1.trans g2
  have hg42 := g2.keep _ _ hg4
  clear hn7 hb7 hb4 hn4 hg4 g1 g2 w1
  repeat' (first | refine WE.assoc ?_ | refine WE.seqR ?_ | refine WO.nil ?_ | (refine WO.op1s ?_; simp only [opK, wanted, stepK, step, setDst, true_and, V.ev, *]; with_reducible show WO _ _ _ _ _) | refine WE.seqBlock ?_)
  refine WE.loop (GoM h b4 b7 l (.agg [.int .u8 a, .int .u8 b]) (.int .i64 n) os) ?_ (min os.length 60) _ _ ⟨g02, 0, .nils, [], [], ⟨by omega, by simp⟩, by simp only [List.length_set, hl], by (simp only [getD_ne, reduceCtorEq, *]; try rfl), by (simp only [Nat.reduceEqDiff, getD_ne, *]; try rfl), by (simp only [Nat.reduceEqDiff, getD_ne, *]; try rfl), by (simp only [Nat.reduceEqDiff, Nat.reduceLT, getD_ne, getD_eq, *]; try rfl), by (simp only [Nat.reduceEqDiff, Nat.reduceLT, getD_ne, getD_eq, List.length_set, *]; try rfl), by (simp only [Nat.reduceEqDiff, Nat.reduceLT, getD_ne, getD_eq, List.length_set, *]; try rfl), by (simp only [Nat.reduceLT, Int.cast_ofNat_Int, getD_eq, List.length_set, *]; try rfl), ⟨.nils, hg7, ps_nil, us_nil, Pn.nil⟩, hg42⟩
  clear f0 f1 f2 hl hg7 g02 hg42
  rintro k fr hc ⟨gg, i, u, ps, xs, H, hl, f0, f1, f2, f4, f7, f8, f9, ⟨s, hgs, hps, hus, hpn⟩, hg4⟩
  have wc := gg.wf w
  have l7 : hc.load b7 0 2 = some [s, .int .i64 (xs.length : Nat)] := load_get hgs (by simp)
  by_cases hi : i < min os.length 60
  · have hio : i < os.length := by omega
    have hd : decide ((i : Int) < (os.length : Int)) = true := decide_eq_true (by omega)
    have hd2 : decide ((i : Int) < 60) = true := decide_eq_true (by omega)
    obtain ⟨bx, ox, hex, lex⟩ := os_load hl' hio gg.kp
    have x0 := lex _ (Keep.refl _)
    have wn : IntKind.i64.wrap ((i : Int) + 1) = ((i + 1 : Nat) : Int) := wrap_add (b := 1) (by omega)
    have hab := hl'.2 _ (List.getElem_mem hio)
    have HB := both hpn (a := os[i].1) hab.2
    have hrl := refR_len os[i].1 os[i].2 xs ps.length
    have hdo : ∀ h1, Wf h1 → Keep hc h1 → WC E09 9 [.agg [.int .u8 os[i].1, .int .u8 os[i].2], .agg [s, .int .i64 (xs.length : Nat)]] h1 fun v h' => Grow h1 h' ∧ PRes h' v (doR os[i].1 os[i].2 ps xs.length) :=
      fun h1 w1 k1 => do_ok w1 hab (k1.ps hps) hpn.asc hpn.len (fun p hp => by have := hpn.pos p hp; omega) (by have := H.out; omega)
    have hrf : ∀ h1, Wf h1 → Us h1 u xs → WC E09 10 [.agg [.int .u8 os[i].1, .int .u8 os[i].2], u] h1 fun v h' => Grow h1 h' ∧ LRes h' v (refR os[i].1 os[i].2 xs ps.length) := fun h1 w1 q => by
      have := ref_ok w1 hab q (by have := H.out; omega) hpn.held
      rwa [List.length_map] at this
    have hi' := Hid.mk hi
    generalize hx : doR os[i].1 os[i].2 ps xs.length = x at *
    generalize hy : refR os[i].1 os[i].2 xs ps.length = y at *
    generalize os[i] = o at *
    obtain ⟨hee, HB⟩ := HB
    have hyy : (y.2 == y.2) = true := by simp
    replace HB := Hid.mk HB
    replace hab := Hid.mk hab
    replace hdo := Hid.mk hdo
    replace hrf := Hid.mk hrf
    clear hx hy hi hio
    repeat' (first | refine WE.assoc ?_ | refine WE.seqR ?_ | refine WO.nil ?_ | refine WE.seqD ?_ | (refine WO.lenOfE ?_; simp only [setDst, V.ev, Nat.reduceLT, getD_eq, List.length_set, *]; refine ⟨_, rfl, ?_⟩) | (refine WO.op1s ?_; simp only [opK, wanted, stepK, step, setDst, pureV, arith, intBin, true_and, V.ev, Nat.reduceEqDiff, Nat.reduceLT, beq_self_eq_true, getD_ne, getD_eq, List.length_set, if_true, reduceCtorEq, *]; with_reducible show WO _ _ _ _ _) | (refine WD.iaddrE ?_; simp only [setDst, List.nil_append, List.cons_append, V.ev, Nat.reduceEqDiff, Nat.reduceLT, getD_ne, getD_eq, List.length_set, *]; refine ⟨_, rfl, ?_⟩) | (refine WD.op2s ?_; simp only [opV, VOp.kind, hiddenOf, unveil_veil, veil_next, below_nil, below_cons, or_false, or_self, wanted, stepK, step, setDst, evs, List.nil_append, List.cons_append, true_and, List.getD_cons_zero, List.getD_cons_succ, V.ev, Nat.reduceEqDiff, Nat.reduceLT, Nat.reduceLeDiff, Bool.false_eq_true, getD_ne, getD_eq, List.length_set, if_true, if_false, reduceCtorEq, *]; with_reducible show WD _ _ _ _ _ _) | refine WE.seqSkip ?_ | (refine WE.seqCond (t := true) ?hc (fun _ => ?_) (fun hh => Bool.noConfusion hh); case hc => simp only [V.ev, Nat.reduceLT, getD_eq, List.length_set, *]) | refine WE.seqBlock ?_)
    refine WD.callH (h0 := hc) wc (Grow.refl _) (fun v h => PRes h v x) (fun v h h' k e => k.pres e) trivial (fun h1 w1 k1 => by (simp only [evs, V.ev, Nat.reduceEqDiff, Nat.reduceLT, getD_ne, getD_eq, List.length_set, *]); exact hdo.out h1 w1 k1) ?_
    rintro _ h5 g5 n5 ⟨s5, rfl, hp5⟩
    simp only [setDst, List.nil_append, List.cons_append]
    have w5 := g5.wf wc
    repeat' (first | (refine WD.op2s ?_; simp only [opV, VOp.kind, hiddenOf, unveil_veil, veil_next, or_false, wanted, stepK, step, setDst, List.nil_append, List.cons_append, true_and, Nat.le_refl, List.getElem?_cons_zero, List.getElem?_cons_succ, List.getD_cons_zero, List.getD_cons_succ, V.ev, Nat.reduceEqDiff, Nat.reduceLT, Nat.reduceLeDiff, Bool.false_eq_true, getD_ne, getD_eq, List.length_set, if_true, reduceCtorEq, *]; with_reducible show WD _ _ _ _ _ _))
    (refine WD.op2 ?_; simp only [opV, VOp.kind, hiddenOf, wanted, setDst, true_or, List.nil_append, List.cons_append, Nat.reduceEqDiff, Nat.reduceLeDiff, Bool.false_eq_true, if_true, *])
    refine stepK_alloc w5 fun b10 h6 g6 hb10 hg10 hn10 => ?_
    have hp6 := g6.ps hp5
    have hso := ps_one hp6
    have w6 := g6.wf w5
    clear hn10 hp5
    skip
    (refine WD.op2 ?_; simp only [opV, VOp.kind, hiddenOf, wanted, setDst, or_true, List.nil_append, List.cons_append, Nat.reduceEqDiff, Nat.reduceLeDiff, if_true, *])
    refine stepK_store (b := b10) (o := 0) (us := [s5, .int .i64 x.2.1]) (by (simp only [V.ev, Nat.reduceLT, getD_eq, List.length_set, *]; try rfl)) (by (simp only [V.ev, Nat.reduceEqDiff, Nat.reduceLT, getD_ne, getD_eq, List.length_set, *]; try rfl)) (by rfl) hg10 (by rw [g6.floor]; exact Nat.le_trans w5.fl hb10) (by simp) (one2 hso.2 _ _) fun h7 k7 => ?_
    have g7 : Grow h5 h7 := g6.wrote hb10 w5 k7
    have hp7 := ps_wrote2 hp6 hg10 rfl k7
    have e10 : h7.get b10 = some (.cells [s5, .int .i64 x.2.1]) := k7.at_
    have gA := g5.trans g7
    have w7 := gA.wf wc
    have y0 := lex _ gA.kp
    clear k7 hg10 hp6 x0 g6 w6
    repeat' (first | refine WE.seqR ?_ | refine WD.nil2 ?_ | (refine WO.iaddrE ?_; simp only [setDst, V.ev, Nat.reduceEqDiff, Nat.reduceLT, getD_ne, getD_eq, List.length_set, *]; refine ⟨_, rfl, ?_⟩) | (refine WO.op1s ?_; simp only [opK, wanted, stepK, step, setDst, evs, true_and, V.ev, Nat.reduceEqDiff, Nat.reduceLT, getD_ne, getD_eq, List.length_set, if_true, reduceCtorEq, *]; with_reducible show WO _ _ _ _ _) | (refine WD.op2s ?_; simp only [opV, VOp.kind, hiddenOf, unveil_veil, veil_next, or_self, wanted, stepK, step, setDst, List.nil_append, List.cons_append, true_and, V.ev, Nat.reduceEqDiff, Nat.reduceLT, Nat.reduceLeDiff, getD_ne, getD_eq, List.length_set, if_true, reduceCtorEq, *]; with_reducible show WD _ _ _ _ _ _))
    refine WO.call rfl ?_
    (simp only [evs, V.ev, Nat.reduceEqDiff, Nat.reduceLT, getD_ne, getD_eq, List.length_set, *])
    refine (hrf.out h7 w7 (gA.us hus)).mono ?_
    rintro _ h8 ⟨g8, s8, rfl, hu8⟩
    simp only [setDst]
    have gB := gA.trans g8
    have hb7ne : b7 ≠ b10 := by
      have := lt_of_get wc hgs
      have := g5.next
      omega
    have hp8 := g8.ps hp7
    have e10' := g8.keep _ _ e10
    have hgs8 := gB.keep _ _ hgs
    have hg48 := gB.keep _ _ hg4
    have l10 : h8.load b10 0 2 = some [s5, .int .i64 x.2.1] := load_get e10' (by simp)
    have w8 := gB.wf wc
    have fl8 : h8.floor ≤ b7 := by rw [(gg.trans gB).floor]; have := w.fl; have := B.out.1; omega
    clear hp7 e10 y0 gA g7 g8 lex
    cases hz : (y.2 == 0) with
    | true =>
      have hz0 : y.2 = 0 := by simpa using hz
      obtain ⟨hpn2, ht2⟩ := HB.out.1 hz0
      replace hz0 := Hid.mk hz0
      replace ht2 := Hid.mk ht2
      repeat' (first | refine WE.assoc ?_ | refine WE.seqR ?_ | refine WO.nil ?_ | (refine WO.op1s ?_; simp only [opK, wanted, stepK, step, setDst, eqVal, eqAt, eqv, Val.isAgg, Val.cells, List.length_cons, List.length_nil, true_and, and_self, Bool.and_true, List.getElem?_cons_zero, List.getElem?_cons_succ, V.ev, Nat.reduceEqDiff, Nat.reduceLT, Nat.reduceAdd, Nat.zero_add, Bool.false_eq_true, beq_self_eq_true, getD_ne, getD_eq, List.length_set, if_true, if_false, Bool.not_true, *]; with_reducible show WO _ _ _ _ _) | refine WE.seqSkip ?_ | (refine WE.seqCond (t := false) ?hc (fun hh => Bool.noConfusion hh) (fun _ => ?_); case hc => simp only [V.ev, Nat.reduceLT, getD_eq, List.length_set, *]) | (refine WE.cond2 (t := true) ?hc (fun _ => ?_) (fun hh => Bool.noConfusion hh); case hc => simp only [V.ev, Nat.reduceLT, getD_eq, List.length_set, *]))
      (refine WO.op1 ?_; simp only [opK, wanted, setDst, *])
      refine stepK_store (b := b7) (o := 0) (us := [s5, .int .i64 x.2.1]) (by (simp only [V.ev, Nat.reduceEqDiff, getD_ne, *]; try rfl)) (by (simp only [V.ev, Nat.reduceLT, getD_eq, List.length_set, *]; try rfl)) (by rfl) hgs8 fl8 (by simp) (one2 hso.2 _ _) fun h9 k9 => ?_
      have g9 := (gg.trans gB).wrote B.out.1 w k9
      have hp9 := ps_wrote2 hp8 hgs8 (ps_int hps) k9
      have hu9 := us_wrote hu8 hgs8 (ps_int hps) k9
      have e9 : h9.get b7 = some (.cells [s5, .int .i64 (y.1.length : Nat)]) := by rw [k9.at_, ← ht2.out]; rfl
      have hg49 : h9.get b4 = some (.cells [.int .u8 a, .int .u8 b]) := by rw [k9.else_ b4 (by have := B.out.2.2; omega)]; exact hg48
      clear k9 hp8 hu8 hgs8 l10 e10'
      repeat' (first | refine WO.nil ?_ | (refine WO.op1s ?_; simp only [opK, wanted, stepK, step, setDst, pureV, arith, intBin, true_and, V.ev, Nat.reduceEqDiff, Nat.reduceLT, getD_ne, getD_eq, List.length_set, if_true, *]; with_reducible show WO _ _ _ _ _) | refine WE.region ?_)
      exact ⟨k - 1, by have := H.out; have := hi'.out; omega, g9, i + 1, s8, x.1, y.1, ⟨by have := H.out; have := hi'.out; omega, by have := H.out; omega⟩, by simp only [List.length_set, hl], by (simp only [getD_ne, reduceCtorEq, *]; try rfl), by (simp only [Nat.reduceEqDiff, getD_ne, *]; try rfl), by (simp only [Nat.reduceEqDiff, getD_ne, *]; try rfl), by (simp only [Nat.reduceEqDiff, getD_ne, *]; try rfl), by (simp only [Nat.reduceEqDiff, getD_ne, *]; try rfl), by (simp only [Nat.reduceEqDiff, Nat.reduceLT, getD_ne, getD_eq, List.length_set, *]; try rfl), by (simp only [Nat.reduceLT, getD_eq, List.length_set, *]; try rfl), ⟨s5, e9, hp9, hu9, hpn2⟩, hg49⟩
    | false =>
      have hps8 := gB.ps hps
      have hus8 := gB.us hus
      have gZ := gg.trans gB
      repeat' (first | refine WE.assoc ?_ | refine WE.seqR ?_ | refine WO.nil ?_ | (refine WO.op1s ?_; simp only [opK, wanted, stepK, step, setDst, pureV, arith, intBin, eqVal, eqAt, eqv, Val.isAgg, Val.cells, true_and, and_self, Bool.and_true, List.getElem?_cons_zero, List.getElem?_cons_succ, V.ev, Nat.reduceEqDiff, Nat.reduceLT, Bool.false_eq_true, beq_self_eq_true, getD_ne, getD_eq, List.length_set, if_true, if_false, Bool.not_true, Bool.not_false, *]; with_reducible show WO _ _ _ _ _) | refine WE.seqSkip ?_ | (refine WE.seqCond (t := false) ?hc (fun hh => Bool.noConfusion hh) (fun _ => ?_); case hc => simp only [V.ev, Nat.reduceLT, getD_eq, List.length_set, *]) | refine WE.skip ?_ | (refine WE.cond2 (t := false) ?hc (fun hh => Bool.noConfusion hh) (fun _ => ?_); case hc => simp only [V.ev, Nat.reduceLT, getD_eq, List.length_set, *]) | refine WE.region ?_)
      exact ⟨k - 1, by have := H.out; have := hi'.out; omega, gZ, i + 1, u, ps, xs, ⟨by have := H.out; have := hi'.out; omega, by have := H.out; omega⟩, by simp only [List.length_set, hl], by (simp only [getD_ne, reduceCtorEq, *]; try rfl), by (simp only [Nat.reduceEqDiff, getD_ne, *]; try rfl), by (simp only [Nat.reduceEqDiff, getD_ne, *]; try rfl), by (simp only [Nat.reduceEqDiff, getD_ne, *]; try rfl), by (simp only [Nat.reduceEqDiff, getD_ne, *]; try rfl), by (simp only [Nat.reduceEqDiff, getD_ne, *]; try rfl), by (simp only [Nat.reduceLT, getD_eq, List.length_set, *]; try rfl), ⟨s, hgs8, hps8, hus8, hpn⟩, hg48⟩
  · have hcnd : (decide ((i : Int) < (os.length : Int)) = true ∧ decide ((i : Int) < 60) = false) ∨ decide ((i : Int) < (os.length : Int)) = false := by
      by_cases q : i < os.length
      · exact .inl ⟨decide_eq_true (by omega), decide_eq_false (by omega)⟩
      · exact .inr (decide_eq_false (by omega))
    have hx60 : xs.length ≤ 60 := by have := H.out; omega
    rcases hcnd with ⟨hd, hd2⟩ | hd
    · repeat' (first | refine WE.assoc ?_ | refine WE.seqR ?_ | refine WO.nil ?_ | (refine WO.lenOfE ?_; simp only [setDst, V.ev, Nat.reduceLT, getD_eq, List.length_set, *]; refine ⟨_, rfl, ?_⟩) | (refine WO.op1s ?_; simp only [opK, wanted, stepK, step, setDst, pureV, arith, intBin, true_and, V.ev, Nat.reduceEqDiff, Nat.reduceLT, beq_self_eq_true, getD_ne, getD_eq, List.length_set, if_true, reduceCtorEq, *]; with_reducible show WO _ _ _ _ _) | (refine WE.seqCond (t := false) ?hc (fun hh => Bool.noConfusion hh) (fun _ => ?_); case hc => simp only [V.ev, Nat.reduceLT, getD_eq, List.length_set, *]))
      refine WE.seqExit ?_
      simp only [blockQ, seqQ, if_true]
      exact moreTail w gg hab hn hx60 (by simp only [List.length_set, hl]) (by (simp only [Nat.reduceEqDiff, getD_ne, *]; try rfl)) (by (simp only [Nat.reduceEqDiff, getD_ne, *]; try rfl)) (by (simp only [Nat.reduceEqDiff, getD_ne, *]; try rfl)) (by (simp only [Nat.reduceEqDiff, getD_ne, *]; try rfl)) ⟨s, hgs, hps, hus, hpn⟩ hg4
    · repeat' (first | refine WE.assoc ?_ | refine WE.seqR ?_ | refine WO.nil ?_ | (refine WO.lenOfE ?_; simp only [setDst, V.ev, Nat.reduceLT, getD_eq, List.length_set, *]; refine ⟨_, rfl, ?_⟩) | (refine WO.op1s ?_; simp only [opK, wanted, stepK, step, setDst, pureV, arith, intBin, true_and, V.ev, Nat.reduceEqDiff, Nat.reduceLT, getD_ne, getD_eq, List.length_set, if_true, reduceCtorEq, Bool.false_beq, Bool.not_true, *]; with_reducible show WO _ _ _ _ _) | (refine WE.seqCond (t := false) ?hc (fun hh => Bool.noConfusion hh) (fun _ => ?_); case hc => simp only [V.ev, Nat.reduceLT, getD_eq, List.length_set, *]))
      refine WE.seqExit ?_
      simp only [blockQ, seqQ, if_true]
      exact moreTail w gg hab hn hx60 (by simp only [List.length_set, hl]) (by (simp only [Nat.reduceEqDiff, getD_ne, *]; try rfl)) (by (simp only [Nat.reduceEqDiff, getD_ne, *]; try rfl)) (by (simp only [Nat.reduceEqDiff, getD_ne, *]; try rfl)) (by (simp only [Nat.reduceEqDiff, getD_ne, *]; try rfl)) ⟨s, hgs, hps, hus, hpn⟩ hg4

end Go.V
end

section
set_option linter.unusedVariables false
set_option linter.unusedSimpArgs false
set_option linter.unusedSectionVars false
set_option maxRecDepth 100000
namespace Go.Proofs.Ytalokejcacejpaa.more
open Go.ChangeShapes Go.WideShapes Go.ChangeAt Go.RowKit Go.V

theorem own : ownKnob Try.prog.godebug = none := by kernel_rfl
theorem flatO : flatT Try.prog 4 31 = some [.u8, .u8] := by kernel_rfl
theorem flatI : flatT Try.prog 4 3 = some [.i64] := by kernel_rfl
theorem sizeO : Try.prog.cellsOf 31 = 2 := by kernel_rfl

theorem contract (H : Type) (enc : TypeId × Value → H) (W : World) (base : Nat) (args : Array Value) (ds gs : List (DataW H)) (before : List MemPlace)
    (hval : ∀ (j : Nat) t v, Try.f4.params[j]? = some t → args[j]? = some v → Value.okWide Try.prog W .any base t v)
    (hW : DataW.Whole enc Try.prog Try.f4.params.toList Rows.pinsMoreSpec.vars false W args.toList ds gs before) :
    Calls Try.prog 4 args W fun e W' => ∃ v, e = .returned v ∧ Rows.pinsMoreSpec.post enc Try.prog Try.f4 false true false false W args v W' := by
  have hW' := hW
  obtain ⟨p, q, hA0, hV, rfl, hfz, hnd⟩ := hW
  have hA : DataW.TrodAll enc Try.prog W 0 (fun _ => true) true Try.f4.params.toList args.toList ds p := hA0
  rw [Try.params4] at hA hval
  obtain ⟨v0, vs0, d0, ds0, p0, q0, hargs, rfl, rfl, ⟨n0, h0⟩, r0⟩ := trodAll_cons hA
  obtain ⟨v1, vs1, d1, ds1, p1, q1, rfl, rfl, rfl, ⟨n1, h1⟩, r1⟩ := trodAll_cons r0
  obtain ⟨v2, vs2, d2, ds2, p2, q2, rfl, rfl, rfl, ⟨n2, h2⟩, r2⟩ := trodAll_cons r1
  obtain ⟨rfl, rfl, rfl⟩ := trodAll_nil r2
  obtain rfl : args = #[v0, v1, v2] := by cases args; simp_all
  obtain ⟨rfl, rfl⟩ := trodVars_none hV
  have hv0 : v0.cells.toList = [v0] := by
    obtain ⟨a, l, c, q⟩ := okWide_slice Try.underlying22 (hval 0 22 v0 rfl rfl)
    rw [q]; rfl
  obtain ⟨c1, rfl, _⟩ : ∃ cs, v1 = .agg cs ∧ cs.size = Try.prog.cellsOf 31 := by
    have := hval 1 31 v1 rfl rfl
    unfold Value.okWide at this
    rw [Try.underlying31] at this
    obtain ⟨cs, a, b, _⟩ := this
    exact ⟨cs, a, b⟩
  obtain ⟨ke, rfl⟩ := okWide_int Try.underlying3 (hval 2 3 v2 rfl rfl)
  rw [hv0] at h0
  obtain ⟨i1, _⟩ := flat_trod 4 31 _ n1 _ _ flatO h1
  have j1 : Ints [.u8, .u8] c1.toList := by simpa [Value.cells] using i1
  obtain ⟨d, e, hl1, wd, we⟩ := ints2 j1
  have wd := wf_u8 wd
  have we := wf_u8 we
  obtain ⟨i2, _⟩ := flat_trod 4 3 _ n2 _ _ flatI h2
  have j2 : Ints [.i64] [.int .i64 ke] := by simpa [Value.cells] using i2
  have hke : -9223372036854775808 ≤ ke ∧ ke < 9223372036854775808 := by
    obtain ⟨⟨n, e1, e2⟩, _⟩ := j2
    cases e1
    exact wf_i64 e2
  have hsa := slice_arg Try.underlying22 flatO (by rw [sizeO]; rfl) (by rw [sizeO]; omega) h0 fun bb off hx => hfz bb off (by simp only [List.append_nil, List.mem_append]; exact .inl hx)
  rw [sizeO] at hsa
  obtain ⟨ρ, hp0, s, os, A1, _, _, hv, hos⟩ := (ArgS.nil W).slice (cellsD := fun t : OOk => [Val.int .u8 t.1.1, Val.int .u8 t.1.2]) (fun _ => rfl) os_of hsa
  have hO : (os.map Subtype.val).flatMap ocell = os.flatMap fun t => [Val.int .u8 t.1.1, Val.int .u8 t.1.2] := by rw [List.flatMap_map]
  have hos2 : Oc hp0 s (os.map Subtype.val) := ⟨by rw [hO, List.length_map]; exact hos, fun t h => by obtain ⟨x, _, rfl⟩ := List.mem_map.1 h; exact x.2⟩
  obtain ⟨n, v, h', er, _, rfl⟩ := lawMore_ok (n := ke) A1.wf hos2 ⟨wd, we⟩ hke
  have hvr : VRels ρ [s, .agg [.int .u8 d, .int .u8 e], .int .i64 ke] #[v0, Value.agg c1, Value.int .i64 ke].toList := by
    refine .cons hv (.cons ?_ (.cons (by simp only [VRel]) .nil))
    simp only [VRel]
    exact ⟨c1, rfl, by rw [hl1]; exact .cons (by simp only [VRel]) (.cons (by simp only [VRel]) .nil)⟩
  refine (law_args env09 ext09 A1.hr A1.low hvr er).mono ?_
  rintro en W' ⟨he, hs, ho, hp⟩
  exact ⟨_, he, post_law (by kernel_rfl) hW' rfl (by rfl) Try.underlying4 rfl hs ho hp⟩

theorem lifted (os : Os) (started : os.Started) (H : Type) (enc : TypeId × Value → H) :
    ReturnsInHanded {} Try.checked os 4 .any (Rows.pinsMoreSpec.pre6 enc Try.prog Try.f4 Rows.pinsMoreRow.domain false) (Rows.pinsMoreSpec.post enc Try.prog Try.f4 false true false false) := by
  refine returnsInHanded_of_change (C := Try.checked) own started ?_ Try.func4 ?_ ?_
  · kernel_rfl
  · refine ChangeSpec.witness6 (enc := enc) (C := Try.checked) false ⟨#[], #[.slice none 0 0, .agg #[.int .u8 0, .int .u8 0], .int .i64 0], []⟩ 8 ?_ ?_ ?_ ?_
    · kernel_rfl
    · kernel_rfl
    · kernel_rfl
    · kernel_rfl
  intro W base args ds gs before hval hW _ _
  exact contract H enc W base args ds gs before hval hW

theorem more_holds : Rows.PinsMoreSaid :=
  OpenClaim.holds_of_wide 4 Try.f4 rfl rfl rfl rfl rfl rfl rfl ⟨rfl, rfl, rfl, rfl, rfl⟩ rfl rfl rfl rfl rfl (by kernel_rfl) Try.func4 (by kernel_rfl)
    (of_decide_eq_true (by kernel_rfl)) (by unfold Func.isWrapper; first | (rw [if_pos (by decide +kernel)]; kernel_rfl) | (rw [if_neg (by decide +kernel)]; exact ⟨rfl, rfl⟩))
    (fun os started H enc _ => lifted os started H enc)
end Go.Proofs.Ytalokejcacejpaa.more
end
