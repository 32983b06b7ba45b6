/-
  One operation of the abstract machine against the model's: the fifth part: make, len, append, copy, clear.
-/
import Derived.Test.YtkmaaddlimgdoaaOpsD
set_option linter.unusedVariables false
set_option linter.unusedSimpArgs false
set_option linter.unusedSectionVars false
namespace Go.V

theorem wrap_small {n : Int} (h0 : 0 ≤ n) (h1 : n ≤ 70368744177664) : IntKind.i64.wrap n = n := by
  have e : n % 18446744073709551616 = n := Int.emod_eq_of_lt h0 (by omega)
  have k : IntKind.i64.wrap n = if n % 18446744073709551616 ≥ 9223372036854775808 then n % 18446744073709551616 - 18446744073709551616 else n % 18446744073709551616 := by
    simp [IntKind.wrap, IntKind.bits, IntKind.signed]
  rw [k, e, if_neg (by omega)]

theorem sound_of {P : Program} {ρ ρ' : Ren} {h h' : Heap} {w w' : World} {s : Sem Value} {v : Val} {cv : Value} (hs : s.run P w = .ok cv w') (hp : Post ρ h w ρ' h' w') (hv : VRel ρ' v cv) : Sound P (do pure (Next.value (← s))) ρ h w v h' :=
  ⟨_, w', cv, ρ', by simp [hs], .inl rfl, hp, hv⟩

theorem growBy_le (n : Nat) : ∀ (r c : Nat), c < n → Builtin.growBy n r c ≤ n + (n + 768) / 4
  | 0, c, h => by simp only [Builtin.growBy]; omega
  | r + 1, c, h => by
    simp only [Builtin.growBy]
    split
    · omega
    · by_cases h2 : c + (c + 768) / 4 < n
      · exact growBy_le n r _ h2
      · have : ∀ r, Builtin.growBy n r (c + (c + 768) / 4) = c + (c + 768) / 4 := by
          intro r
          cases r with
          | zero => rfl
          | succ r => simp only [Builtin.growBy]; rw [if_pos (by omega)]
        rw [this]
        have : (c + 768) / 4 ≤ (n + 768) / 4 := Nat.div_le_div_right (by omega)
        omega

theorem nextslicecap_le {need old : Nat} (h : old < need) : Builtin.nextslicecap need old ≤ 3 * need := by
  unfold Builtin.nextslicecap
  split
  · omega
  · split
    · omega
    · have := growBy_le need 4 old h
      omega

theorem nextslicecap_bytes {need old bytes : Nat} (h : old < need) (hb : need * bytes ≤ maxBytes) : ¬ (Builtin.nextslicecap need old * bytes > 2 ^ 48) := by
  have h1 := Nat.mul_le_mul_right bytes (nextslicecap_le h)
  have h2 : 3 * need * bytes = 3 * (need * bytes) := Nat.mul_assoc _ _ _
  have h3 : maxBytes = 2 ^ 46 := rfl
  omega

/-- The elements that are appended or copied. -/
theorem firstCells_rel {P : Program} {ρ : Ren} {h : Heap} {w : World} (hr : HRel ρ h w) {size n : Nat} {y : Val} {yv : Value} (hy : VRel ρ y yv) {c : List Val} (e : firstCells h size n y = some c) :
    ∃ m : List Value, VRels ρ c m ∧ m.length = n * size ∧ ∀ w', w'.heap = w.heap → (Builtin.firstCells size n yv).run P w' = .ok m.toArray w' := by
  cases y <;> simp only [firstCells] at e <;> (try (cases e; done)) <;> simp only [VRel] at hy
  case nils =>
    subst hy
    split at e
    · rename_i h0; cases e; subst h0
      exact ⟨[], .nil, by simp, fun w' _ => by simp [Builtin.firstCells]⟩
    · cases e
  case slice b o len cap ls =>
    obtain ⟨ad, cap', rfl, c1, c2, c3, c4⟩ := hy
    split at e
    · rename_i hle
      split at e
      · rename_i h0; cases e
        exact ⟨[], .nil, by simp [h0], fun w' _ => by simp [Builtin.firstCells, h0, loadCells, loadCellsFrom]⟩
      · rename_i h0
        rcases c4 with c4 | ⟨L, hL, ha, _⟩
        · have : n = 0 := by omega
          subst this; simp at h0
        · obtain ⟨m, hm, hcell⟩ := hr.load e hL
          have hlen : m.length = n * size := by
            rw [hm.length]
            obtain ⟨cs, _, h2, rfl⟩ := Heap.load_some e
            simp; omega
          refine ⟨m, hm, hlen, fun w' hw' => ?_⟩
          have hcell' : ∀ j v, m[j]? = some v → w'.cell? (ad.add j) = some v := by
            intro j v hv
            have := hcell j v hv
            rw [← ha] at this
            simpa only [World.cell?, hw'] using this
          have := run_loadCells_of (P := P) hcell'
          rw [hlen] at this
          simp only [Builtin.firstCells, this]
    · cases e
  case str s =>
    subst hy
    split at e
    · rename_i hh; cases e
      obtain ⟨hn, rfl⟩ := hh
      refine ⟨(s.take n).map fun b => .int .u8 b.toNat, ?_, by simp; omega, fun w' _ => ?_⟩
      · refine .of_get (by simp) fun i x v a b => ?_
        simp only [List.getElem?_map, Option.map_eq_some_iff] at a b
        obtain ⟨c, hc, rfl⟩ := a
        obtain ⟨c', hc', rfl⟩ := b
        rw [hc] at hc'; cases hc'
        simp only [toByte, VRel]
      · simp only [Builtin.firstCells, Sem.run_pure]
        congr 1
        apply Array.ext'
        simp [ByteArray.data_extract, List.extract_eq_take_drop]
    · cases e

theorem lenOf_rel {P : Program} {ρ : Ren} {y : Val} {yv : Value} (hy : VRel ρ y yv) {n : Nat} (e : lenVal y = some n) (w : World) : (Builtin.lenOf yv).run P w = .ok n w := by
  cases y <;> simp only [lenVal] at e <;> (try (cases e; done)) <;> simp only [VRel] at hy <;> simp only [Option.some.injEq] at e <;> subst e
  · subst hy; simp [Builtin.lenOf]
    rfl
  · subst hy; simp [Builtin.lenOf]
  · obtain ⟨_, _, rfl, _⟩ := hy; simp [Builtin.lenOf]

/-- A slice is moved: its block is gone, and lies behind another name, where it lay. -/
theorem Post.move {ρ : Ren} {h : Heap} {w w' : World} (hr : HRel ρ h w) {b : Nat} {x0 x : Blk} {L l : Loc} (hg : h.get b = some x0) (hf : h.floor ≤ b) (hL : ρ b = some L) (hc : l.c = L.c)
    (hw : ∀ c, c ≠ L.c → w'.heap[c]? = w.heap[c]?) (hs : w'.heap.size = w.heap.size) (ho : w'.os = w.os) (ht : w'.tape = w.tape) (hp : w'.output = w.output) (hb : BRel (ρ.upd h.next l) w' l x) :
    Post ρ h w (ρ.upd h.next l) ((h.put b none).new x).2 w' := by
  have htop : ρ h.next = none := hr.top _ (Nat.le_refl _)
  have hle : ρ.le (ρ.upd h.next l) := Ren.le_upd htop
  have hlow := hr.low b x0 (Heap.get_t hg)
  have hnx : (h.put b none).next = h.next := rfl
  have hget : ∀ j y, ((h.put b none).new x).2.get j = some y → (j = h.next ∧ y = x) ∨ (j ≠ h.next ∧ j ≠ b ∧ h.get j = some y) := by
    intro j y e
    rw [Heap.new_get] at e
    have hhid : (h.put b none).hidden j = h.hidden j := rfl
    rw [hhid, hnx] at e
    split at e
    · cases e
    · rename_i hh
      split at e
      · cases e; exact .inl ⟨by assumption, rfl⟩
      · rename_i hj
        have e' : (h.put b none).get j = some y := by
          unfold Heap.get; rw [hhid, if_neg hh]; exact e
        rw [Heap.get_put, if_neg hh] at e'
        split at e'
        · cases e'
        · rename_i hjb; exact .inr ⟨hj, hjb, by unfold Heap.get; rw [if_neg hh]; exact e'⟩
  have only : ∀ j y l2, h.get j = some y → ρ j = some l2 → L.c = l2.c → b = j := fun j y l2 e r k => by
    have := hr.bs.1
    rcases hr.inj b j x0 y L l2 hg e hL r k with q | ⟨q, _⟩
    · exact q
    · omega
  refine ⟨hle, ⟨?_, ?_, ?_, ?_, ⟨hr.bs.1, Nat.le_succ_of_le hr.bs.2⟩⟩, rfl, rfl, rfl, by simp [Heap.new, Heap.put], ?_, ho, ht, hp, by omega, ?_, ?_, ?_⟩
  · intro j y e
    rcases hget j y e with ⟨rfl, rfl⟩ | ⟨hne, hjb, e'⟩
    · exact ⟨l, by simp [Ren.upd], hb⟩
    · obtain ⟨l', h1, h2⟩ := hr.blk j y e'
      exact ⟨l', hle _ _ h1, h2.mono hle (hw _ fun hcc => hjb (only j y l' e' h1 hcc.symm).symm)⟩
  · intro j j' y y' l1 l2 e e' r r' hcc
    rcases hget j y e with ⟨rfl, rfl⟩ | ⟨hne, hjb, e1⟩ <;> rcases hget j' y' e' with ⟨rfl, rfl⟩ | ⟨hne', hjb', e1'⟩
    · exact .inl rfl
    · simp only [Ren.upd, if_true, if_neg hne'] at r r'
      cases r
      exact absurd (only j' y' l2 e1' r' (by omega)).symm hjb'
    · simp only [Ren.upd, if_true, if_neg hne] at r r'
      cases r'
      exact absurd (only j y l1 e1 r (by omega)).symm hjb
    · simp only [Ren.upd, if_neg hne, if_neg hne'] at r r'
      exact hr.inj j j' y y' l1 l2 e1 e1' r r' hcc
  · intro j hj
    simp only [Heap.new, Heap.put] at hj
    simp only [Ren.upd, if_neg (show ¬ j = h.next by omega)]
    exact hr.top j (by omega)
  · intro j y e
    have q : ((h.put b none).new x).2.t = (h.t.set (b + 1) b none).set (h.next + 1) h.next (some x) := rfl
    rw [q, Tr.get_set _ _ _ _ _ (by omega)] at e
    show j < h.next + 1
    split at e
    · omega
    · rw [Tr.get_set _ _ _ _ _ (by omega)] at e
      split at e
      · cases e
      · have := hr.low j y e; omega
  · intro j hj e
    obtain ⟨y, hy⟩ := Option.isSome_iff_exists.1 e
    rcases hget j y hy with ⟨rfl, rfl⟩ | ⟨_, _, e'⟩
    · omega
    · simp [e']
  · intro c hcl k
    exact hw c fun hcc => k b x0 L hg hf hL hcc.symm
  · intro j l' r hn
    unfold Ren.upd at r
    split at r
    · cases r; exact .inr ⟨b, x0, L, hg, hf, hL, hc.symm⟩
    · rw [hn] at r; cases r
  · intro j l' r hn
    unfold Ren.upd at r
    split at r
    · omega
    · rw [hn] at r; cases r

theorem Post.kill {ρ : Ren} {h : Heap} {w : World} (hr : HRel ρ h w) (b : Nat) : Post ρ h w ρ (h.put b none) w := by
  have hget : ∀ j y, (h.put b none).get j = some y → h.get j = some y := by
    intro j y e
    rw [Heap.get_put] at e
    split at e
    · cases e
    · rename_i hh
      split at e
      · cases e
      · unfold Heap.get; rw [if_neg hh]; exact e
  refine ⟨Ren.le_refl _, ⟨?_, ?_, hr.top, ?_, hr.bs⟩, rfl, rfl, rfl, Nat.le_refl _, ?_, rfl, rfl, rfl, Nat.le_refl _, fun _ _ _ => rfl, fun j l r hn => (by rw [r] at hn; cases hn), fun j l r hn => (by rw [r] at hn; cases hn)⟩
  · intro j y e; exact hr.blk j y (hget j y e)
  · intro j j' y y' l l' e e' r r' hc; exact hr.inj j j' y y' l l' (hget j y e) (hget j' y' e') r r' hc
  · intro j y e
    have q : (h.put b none).t = h.t.set (b + 1) b none := rfl
    rw [q, Tr.get_set _ _ _ _ _ (by omega)] at e
    split at e
    · cases e
    · exact hr.low j y e
  · intro j _ e
    obtain ⟨y, hy⟩ := Option.isSome_iff_exists.1 e
    simp [hget j y hy]

/-- What is appended: n elements, these cells. -/
structure Appends (P : Program) (t u : TypeId) (size : Nat) (w : World) (yv : Value) (n : Nat) (m : List Value) : Prop where
  fit : ∀ (w0 w1 : World) (ty : TypeId) (base : Option Addr) (sLen sCap : Nat), w0.heap = w.heap → sLen + n ≤ sCap →
    (∀ a, base = some a → (storeCells (a.add (sLen * size)) m).run P w0 = .ok () w1) → (base = none → w1 = w0) →
    (Builtin.append_ #[t, u] ty #[.slice base sLen sCap, yv]).run P w0 = .ok (.slice base (sLen + n) sCap) w1
  grow : ∀ (w0 : World) (ty : TypeId) (base : Option Addr) (sLen sCap bytes : Nat) (old : List Value), w0.heap = w.heap → sCap < sLen + n → P.bytesOf (match P.underlying t with | some (.slice e) => e | _ => 0) = bytes → (sLen + n) * bytes ≤ maxBytes → sLen + n ≤ maxBytes →
    (∀ w', w'.heap = w.heap → (Builtin.firstCells size sLen (.slice base sLen sCap)).run P w' = .ok old.toArray w') → 
    ∃ (newCap : Nat) (w1 : World) (e : TypeId) (rest : List Value), (Builtin.append_ #[t, u] ty #[.slice base sLen sCap, yv]).run P w0 = .ok (.slice (some ⟨w0.heap.size, 0, none⟩) (sLen + n) newCap) w1 ∧ sLen + n ≤ newCap ∧ rest.length = (newCap - (sLen + n)) * size ∧
      w1.heap = w0.heap.push (.cells (old ++ m ++ rest).toArray e) ∧ w1.os = w0.os ∧ w1.tape = w0.tape ∧ w1.output = w0.output

theorem appends_cells {P : Program} {t u e : TypeId} {d : TypeDesc} (ht : P.underlying t = some (.slice e)) (hu : P.underlying u = some d) (hd : ∀ k, d ≠ .int k) {i : TypeInfo} {z : Value} (hi : P.info? e = some i) (hz : i.zero = some z) (hzs : z.cells.size = P.cellsOf e) {w : World} {yv : Value} {n : Nat} {m : List Value}
    (hl : ∀ w, (Builtin.lenOf yv).run P w = .ok n w) (hc : ∀ w', w'.heap = w.heap → (Builtin.firstCells (P.cellsOf e) n yv).run P w' = .ok m.toArray w') : Appends P t u (P.cellsOf e) w yv n m := by
  have hsz : i.size = P.cellsOf e := by simp [Program.cellsOf, hi]
  have hbz : i.bytes = P.bytesOf e := by simp [Program.bytesOf, hi]
  have hdi : ∀ w, (underlying u).run P w = .ok d w := fun w => run_underlying hu w
  constructor
  · intro w0 w1 ty base sLen sCap hw hfit hst hnone
    have hc' := hc w0 hw
    cases base with
    | none =>
      have := hnone rfl; subst this
      simp [Builtin.append_, run_underlying ht, hdi, run_sizeOf_of hi, hl, hfit, hc']
    | some a =>
      have := hst a rfl
      simp [Builtin.append_, run_underlying ht, hdi, run_sizeOf_of hi, hl, hfit, hc', this]
  · intro w0 ty base sLen sCap bytes old hw hgrow hb hmax hmax2 hold
    simp only [ht] at hb
    subst hb
    have h1 : ¬ (sLen + n ≤ sCap) := by omega
    have h2 : ¬ (Builtin.nextslicecap (sLen + n) sCap * i.bytes > 2 ^ 48) := by rw [hbz]; exact nextslicecap_bytes hgrow hmax
    have h3 : ¬ (((sLen + n : Nat) : Int) > IntKind.i64.max) := by
      have e3 : IntKind.i64.max = 9223372036854775807 := by decide
      have : maxBytes = 2 ^ 46 := rfl
      rw [e3]; omega
    have hc' := hc w0.drew (by exact hw)
    have hold' := hold w0.drew (by exact hw)
    refine ⟨grownCap w0 (sLen + n) sCap e, w0.drew.alloc (.cells (old ++ m ++ (Builtin.zeroCells z.cells (grownCap w0 (sLen + n) sCap e - (sLen + n))).toList).toArray e), e, _, ?_, ?_, ?_, rfl, rfl, rfl, rfl⟩
    · have h2' : ¬ (281474976710656 < Builtin.nextslicecap (sLen + n) sCap * i.bytes) := h2
      have h3' : ¬ (9223372036854775807 < ((sLen : Int) + (n : Int))) := by
        have : maxBytes = 2 ^ 46 := rfl
        omega
      simp [Builtin.append_, run_underlying ht, hdi, run_sizeOf_of hi, hl, h1, h2', h3', run_typeInfo_of hi, Question.forced, hold', hc', zeroValue, hz, newRow]
      refine ⟨rfl, ?_⟩
      congr 2
      exact Array.ext' (by simp [grownCap])
    · unfold grownCap Question.cut; simp only; omega
    · simp [Builtin.zeroCells, hzs]

theorem appends_zeros {P : Program} {t u e : TypeId} {k0 : IntKind} (ht : P.underlying t = some (.slice e)) (hu : P.underlying u = some (.int k0)) {i : TypeInfo} {z : Value} (hi : P.info? e = some i) (hz : i.zero = some z) (hzs : z.cells.size = P.cellsOf e) {w : World} {k : IntKind} {n : Int} (h0 : 0 ≤ n) (h1 : n ≤ maxBytes) (h2 : n.toNat * P.bytesOf e ≤ maxBytes) :
    Appends P t u (P.cellsOf e) w (.int k n) n.toNat (List.replicate n.toNat z.cells.toList).flatten := by
  have hbz : i.bytes = P.bytesOf e := by simp [Program.bytesOf, hi]
  have hmb : maxBytes = 2 ^ 46 := rfl
  obtain ⟨N, rfl⟩ := Int.eq_ofNat_of_zero_le h0
  simp only [Int.toNat_natCast] at *
  have hwrap : IntKind.i64.wrap (N : Int) = N := wrap_small h0 (by simpa [maxBytes] using h1)
  have hlt : ¬ ((N : Int) < 0) := by omega
  have hbig : ¬ (281474976710656 < (N : Int) * (i.bytes : Int)) := by
    rw [hbz]
    have : (N : Int) * (P.bytesOf e : Int) = ((N * P.bytesOf e : Nat) : Int) := by simp
    rw [this]; omega
  constructor
  · intro w0 w1 ty base sLen sCap hw hfit hst hnone
    have hzz := zeroCells_flat z.cells N
    cases base with
    | none =>
      have := hnone rfl; subst this
      by_cases hz0 : N * P.cellsOf e = 0
      · simp [Builtin.append_, run_underlying ht, run_underlying hu, run_sizeOf_of hi, asInt, asIntOf, hwrap, hlt, run_typeInfo_of hi, hbig, hfit, hz0]
      · simp [Builtin.append_, run_underlying ht, run_underlying hu, run_sizeOf_of hi, asInt, asIntOf, hwrap, hlt, run_typeInfo_of hi, hbig, hfit, zeroValue, hz]
    | some a =>
      have := hst a rfl
      by_cases hz0 : N * P.cellsOf e = 0
      · have hnil : (List.replicate N z.cells.toList).flatten = [] := List.length_eq_zero_iff.1 (by simp [hzs, hz0])
        rw [hnil] at this
        simp [Builtin.append_, run_underlying ht, run_underlying hu, run_sizeOf_of hi, asInt, asIntOf, hwrap, hlt, run_typeInfo_of hi, hbig, hfit, hz0, this]
      · have hq : (Builtin.zeroCells z.cells N).toList = (List.replicate N z.cells.toList).flatten := by simpa [Builtin.zeroCells] using hzz
        simp [Builtin.append_, run_underlying ht, run_underlying hu, run_sizeOf_of hi, asInt, asIntOf, hwrap, hlt, run_typeInfo_of hi, hbig, hfit, hz0, zeroValue, hz, hq, this]
  · intro w0 ty base sLen sCap bytes old hw hgrow hb hmax hmax2 hold
    simp only [ht] at hb
    subst hb
    have h1' : ¬ (sLen + N ≤ sCap) := by omega
    have h2' : ¬ (281474976710656 < Builtin.nextslicecap (sLen + N) sCap * i.bytes) := by rw [hbz]; exact nextslicecap_bytes hgrow hmax
    have h3' : ¬ (9223372036854775807 < ((sLen : Int) + (N : Int))) := by omega
    have hold' := hold w0.drew (by exact hw)
    have hzz := zeroCells_flat z.cells N
    refine ⟨grownCap w0 (sLen + N) sCap e, w0.drew.alloc (.cells (old ++ (List.replicate N z.cells.toList).flatten ++ (Builtin.zeroCells z.cells (grownCap w0 (sLen + N) sCap e - (sLen + N))).toList).toArray e), e, _, ?_, ?_, ?_, rfl, rfl, rfl, rfl⟩
    · by_cases hz0 : N * P.cellsOf e = 0
      · have hnil : (List.replicate N z.cells.toList).flatten = [] := List.length_eq_zero_iff.1 (by simp [hzs, hz0])
        rw [hnil]
        simp [Builtin.append_, run_underlying ht, run_underlying hu, run_sizeOf_of hi, asInt, asIntOf, hwrap, hlt, hbig, h1', h2', h3', run_typeInfo_of hi, Question.forced, hold', zeroValue, hz, newRow, hz0]
        refine ⟨rfl, ?_⟩
        congr 2
        exact Array.ext' (by simp [grownCap])
      · simp [Builtin.append_, run_underlying ht, run_underlying hu, run_sizeOf_of hi, asInt, asIntOf, hwrap, hlt, hbig, h1', h2', h3', run_typeInfo_of hi, Question.forced, hold', zeroValue, hz, newRow, hz0]
        refine ⟨rfl, ?_⟩
        congr 2
        refine Array.ext' ?_
        have : (Builtin.zeroCells z.cells N).toList = (List.replicate N z.cells.toList).flatten := by simpa [Builtin.zeroCells] using hzz
        simp [grownCap, this]
    · unfold grownCap Question.cut; simp only; omega
    · simp [Builtin.zeroCells, hzs]

theorem s_appendN {P : Program} {ρ : Ren} {h h' : Heap} {w : World} (hr : HRel ρ h w) {t u e : TypeId} (ht : P.underlying t = some (.slice e)) {yv : Value} {n : Nat} {m : List Value} {new : List Val} (ha : Appends P t u (P.cellsOf e) w yv n m)
    (hm : VRels ρ new m) (hml : m.length = n * P.cellsOf e) {x v : Val} {xv : Value} (hx : VRel ρ x xv) (ev : appendN h (P.cellsOf e) (P.bytesOf e) x n new = some (v, h')) (ty : TypeId) :
    Sound P (do pure (.value (← Builtin.append_ #[t, u] ty #[xv, yv]))) ρ h w v h' := by
  have hbytes : P.bytesOf (match P.underlying t with | some (.slice e) => e | _ => 0) = P.bytesOf e := by simp [ht]
  cases x <;> simp only [appendN] at ev <;> (try (cases ev; done)) <;> simp only [VRel] at hx
  case nils =>
    subst hx
    split at ev
    · rename_i h0; subst h0; cases ev
      have := ha.fit w w ty none 0 0 rfl (Nat.le_refl _) (fun a h => by cases h) (fun _ => rfl)
      exact Sound.pure hr (by simp [this]; rfl) (by simp only [VRel])
    · rename_i h0
      split at ev
      · rename_i hb
        cases ev
        obtain ⟨newCap, w1, e1, rest, hrun, hcap, hrest, hheap, ho, htp, hp⟩ := ha.grow w ty none 0 0 _ [] rfl (by omega) hbytes (by simpa using hb.1) (by simpa using hb.2.1) (fun w' _ => by simp [Builtin.firstCells])
        simp only [Nat.zero_add, List.nil_append] at hrun hcap hrest hheap
        refine sound_of hrun (Post.new hr (.cells new) _ w1 ⟨w.heap.size, 0, n * P.cellsOf e + rest.length⟩ hheap rfl ho htp hp ?_) ?_
        · refine ⟨(m ++ rest).toArray, e1, 0, 0, (by rw [hheap]; simp), (fun _ _ _ h => by omega), ?_, ?_, ?_⟩
          · simp [← hm.length]
          · simp [hml]
          · simp only [List.drop_zero]
            rw [← hm.length, List.take_left']
            · exact VRels.mono (Ren.le_upd (hr.top _ (Nat.le_refl _))) _ _ hm
            · rfl
        · simp only [VRel]
          refine ⟨_, newCap, rfl, Nat.le_refl _, hcap, fun hz => by omega, .inr ⟨⟨w.heap.size, 0, n * P.cellsOf e + rest.length⟩, by simp [Ren.upd, Heap.new], rfl, fun _ => ?_⟩⟩
          simp only [hrest, Nat.zero_add]
          rw [← Nat.add_mul]
          apply Nat.le_of_eq; congr 1 <;> omega
      · cases ev
  case slice b o len cap ls =>
    obtain ⟨ad, cap', rfl, c1, c2, c3, c4⟩ := hx
    split at ev
    · rename_i hfit
      split at ev
      · rename_i h0; cases ev
        have hm0 : m = [] := List.length_eq_zero_iff.1 (by rw [hml, h0])
        subst hm0
        have := ha.fit w w ty (some ad) len cap' rfl (by omega) (fun a h => by simp [storeCells]) (fun h => by cases h)
        refine Sound.pure hr (cv := .slice (some ad) (len + n) cap') (by simp [this]) ?_
        simp only [VRel]
        exact ⟨ad, cap', rfl, hfit, c2, c3, c4⟩
      · rename_i h0
        split at ev
        · rename_i h1 hst
          cases ev
          rcases c4 with c4 | ⟨L, hL, had, hloose⟩
          · have : n = 0 := by omega
            subst this; simp at h0
          · obtain ⟨w', hrun, hpost⟩ := hr.store (P := P) hst hL hm
            have := ha.fit w w' ty (some ad) len cap' rfl (by omega) (fun a h => by cases h; rw [had, Addr.add_none, Nat.add_assoc]; exact hrun) (fun h => by cases h)
            refine sound_of this hpost ?_
            simp only [VRel]
            exact ⟨ad, cap', rfl, hfit, c2, c3, .inr ⟨L, hL, had, hloose⟩⟩
        · cases ev
    · rename_i hnf
      split at ev
      · rename_i hb
        split at ev
        · cases ev
        · rename_i old hold
          obtain ⟨om, hom, homl, homr⟩ := firstCells_rel (P := P) hr (size := P.cellsOf e) (n := len) (y := .slice b o len cap ls) (yv := .slice (some ad) len cap') (by simp only [VRel]; exact ⟨ad, cap', rfl, c1, c2, c3, c4⟩) hold
          have fresh : cap' < len + n → Sound P (do pure (.value (← Builtin.append_ #[t, u] ty #[.slice (some ad) len cap', yv]))) ρ h w (.slice h.next 0 (len + n) (len + n) (P.cellsOf e)) (h.new (.cells (old ++ new))).2 := by
            intro hgr
            obtain ⟨newCap, w1, e1, rest, hrun, hcap, hrest, hheap, ho, htp, hp⟩ := ha.grow w ty (some ad) len cap' _ om rfl hgr hbytes hb.1 hb.2.1 homr
            refine sound_of hrun (Post.new hr (.cells (old ++ new)) _ w1 ⟨w.heap.size, 0, (len + n) * P.cellsOf e + rest.length⟩ hheap rfl ho htp hp ?_) ?_
            · refine ⟨(om ++ m ++ rest).toArray, e1, 0, 0, (by rw [hheap]; simp), (fun _ _ _ h => by omega), ?_, ?_, ?_⟩
              · simp [← hm.length, ← hom.length]
              · simp [hml, homl, Nat.add_mul]; omega
              · simp only [List.drop_zero]
                rw [List.length_append, ← hm.length, ← hom.length, ← List.length_append, List.take_left']
                · exact VRels.mono (Ren.le_upd (hr.top _ (Nat.le_refl _))) _ _ (hom.append hm)
                · rfl
            · simp only [VRel]
              refine ⟨_, newCap, rfl, Nat.le_refl _, hcap, fun hz => by omega, .inr ⟨⟨w.heap.size, 0, (len + n) * P.cellsOf e + rest.length⟩, by simp [Ren.upd], rfl, fun _ => ?_⟩⟩
              simp only [hrest, Nat.zero_add]
              rw [← Nat.add_mul]
              apply Nat.le_of_eq; congr 1 <;> omega
          split at ev
          · rename_i hls
            cases ev
            exact fresh (by rw [c3 hls]; omega)
          · rename_i hls
            split at ev
            · rename_i hk
              obtain ⟨hfl, hlse, hone, halive⟩ := hk
              cases ev
              by_cases hgr : cap' < len + n
              · obtain ⟨newCap, w1, e1, rest, hrun, hcap, hrest, hheap, ho, htp, hp⟩ := ha.grow w ty (some ad) len cap' _ om rfl hgr hbytes hb.1 hb.2.1 homr
                have hkill := Post.kill hr b
                have hr1 := hkill.hrel
                refine sound_of hrun (hkill.trans (Post.new hr1 (.cells (old ++ new)) _ w1 ⟨w.heap.size, 0, (len + n) * P.cellsOf e + rest.length⟩ hheap rfl ho htp hp ?_) hr) ?_
                · refine ⟨(om ++ m ++ rest).toArray, e1, 0, 0, (by rw [hheap]; simp), (fun _ _ _ h => by omega), ?_, ?_, ?_⟩
                  · simp [← hm.length, ← hom.length]
                  · simp [hml, homl, Nat.add_mul]; omega
                  · simp only [List.drop_zero]
                    rw [List.length_append, ← hm.length, ← hom.length, ← List.length_append, List.take_left']
                    · exact VRels.mono (Ren.le_upd (hr1.top _ (Nat.le_refl _))) _ _ (hom.append hm)
                    · rfl
                · simp only [VRel]
                  refine ⟨_, newCap, rfl, Nat.le_refl _, hcap, fun hz => by omega, .inr ⟨⟨w.heap.size, 0, (len + n) * P.cellsOf e + rest.length⟩, by simp [Ren.upd, Heap.new, Heap.put], rfl, fun _ => ?_⟩⟩
                  simp only [hrest, Nat.zero_add]
                  rw [← Nat.add_mul]
                  apply Nat.le_of_eq; congr 1 <;> omega
              · -- it fits where it lies
                rcases c4 with c4 | ⟨L, hL, had, hloose⟩
                · omega
                · have hlo := hloose (by omega)
                  -- the block, alive
                  obtain ⟨cs, hget⟩ : ∃ cs, h.get b = some (.cells cs) := by
                    unfold Heap.isCells at halive
                    split at halive
                    · exact ⟨_, by assumption⟩
                    · cases halive
                  obtain ⟨L', hL', arr, t0, lo, hi, a1, a2, a3, a4, a5⟩ := hr.blk b _ hget
                  rw [hL] at hL'; cases hL'
                  have hmul : (len + n) * P.cellsOf e ≤ cap' * ls := by rw [hlse]; exact Nat.mul_le_mul_right _ (by omega)
                  rw [Nat.add_mul] at hmul
                  have hst := run_storeCells_fr P L.c (L.s + o + len * P.cellsOf e) t0 lo hi m 0 arr w a1 (fun j h1 h2 => a2 j (by omega) (.inr (by omega))) (by rw [hml]; omega) (hm.ones hone)
                  simp only [Nat.add_zero] at hst
                  have hfitrun := ha.fit w _ ty (some ad) len cap' rfl (by omega) (fun a h => by cases h; rw [had, Addr.add_none]; exact hst) (fun h => by cases h)
                  have holdl : VRels ρ old ((arr.toList.drop (L.s + o)).take (len * P.cellsOf e)) ∧ old.length = len * P.cellsOf e := by
                    simp only [firstCells] at hold
                    rw [if_pos (Nat.le_refl _)] at hold
                    split at hold
                    · rename_i h0; cases hold; rw [h0]; exact ⟨by simpa using VRels.nil, by simp⟩
                    · obtain ⟨cs', hg', hlen', rfl⟩ := Heap.load_some hold
                      rw [hget] at hg'; cases hg'
                      have := (a5.drop o).take (len * P.cellsOf e)
                      refine ⟨?_, by simp; omega⟩
                      rw [List.drop_take, List.drop_drop, List.take_take, Nat.min_eq_left (by omega)] at this
                      exact this
                  have hlen' : (arr.toList.take (L.s + o + len * P.cellsOf e) ++ m ++ arr.toList.drop (L.s + o + len * P.cellsOf e + m.length)).length = arr.size := by
                    simp only [List.length_append, List.length_take, List.length_drop, Array.length_toList]; omega
                  refine sound_of hfitrun (Post.move (l := ⟨L.c, L.s + o, L.e⟩) hr hget hfl hL rfl (fun c hc => setRow_other w L.c c _ hc) (by simp [World.setRow]) rfl rfl rfl ?_) ?_
                  · refine ⟨_, t0, lo, hi, setRow_heap w L.c arr _ t0 (lo, hi) a1, ?_, ?_, ?_, ?_⟩
                    · intro j h1 h2
                      simp only [List.length_append, holdl.2, ← hm.length] at h1 h2
                      exact a2 j (by omega) (.inr (by omega))
                    · simp only [List.size_toArray, hlen', List.length_append, holdl.2, ← hm.length]; omega
                    · simp only [List.size_toArray, hlen']; exact a4
                    · have e1 : ((arr.toList.take (L.s + o + len * P.cellsOf e) ++ m ++ arr.toList.drop (L.s + o + len * P.cellsOf e + m.length)).drop (L.s + o)).take (old ++ new).length = (arr.toList.drop (L.s + o)).take (len * P.cellsOf e) ++ m := by
                        rw [List.length_append, holdl.2, ← hm.length, List.append_assoc, List.drop_append_of_le_length (by simp; omega), List.drop_take]
                        rw [show L.s + o + len * P.cellsOf e - (L.s + o) = len * P.cellsOf e by omega]
                        rw [← List.append_assoc, List.take_left']
                        simp; omega
                      simp only [e1]
                      exact VRels.mono (Ren.le_upd (hr.top _ (Nat.le_refl _))) _ _ (holdl.1.append hm)
                  · simp only [VRel]
                    refine ⟨ad, cap', rfl, Nat.le_refl _, by omega, fun hz => by omega, .inr ⟨⟨L.c, L.s + o, L.e⟩, by simp [Ren.upd, Heap.new, Heap.put], by simp [had], fun _ => ?_⟩⟩
                    simp only [Nat.add_zero, ← hlse]; exact hlo
            · cases ev
      · cases ev

end Go.V
