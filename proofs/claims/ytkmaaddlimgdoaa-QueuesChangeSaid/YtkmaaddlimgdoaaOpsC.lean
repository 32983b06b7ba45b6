/-
  One operation of the abstract machine against the model's: the third part: arithmetic, comparisons, fields, indices, slices.
-/
import Derived.Test.YtkmaaddlimgdoaaOpsB
set_option linter.unusedVariables false
set_option linter.unusedSimpArgs false
set_option linter.unusedSectionVars false
namespace Go.V

theorem ByteArray.toList_mk (l : List UInt8) : (ByteArray.mk ⟨l⟩).toList = l := by
  have h : ∀ (n i : Nat) (r : List UInt8), n = l.length - i → i ≤ l.length → ByteArray.toList.loop (ByteArray.mk ⟨l⟩) i r = r.reverse ++ l.drop i := by
    intro n
    induction n with
    | zero =>
      intro i r hn hi
      unfold ByteArray.toList.loop
      have hs : (ByteArray.mk ⟨l⟩).size = l.length := rfl
      rw [if_neg (by rw [hs]; omega), List.drop_of_length_le (by omega)]; simp
    | succ n ih =>
      intro i r hn hi
      unfold ByteArray.toList.loop
      have hs : (ByteArray.mk ⟨l⟩).size = l.length := rfl
      rw [if_pos (by rw [hs]; omega), ih (i + 1) _ (by omega) (by omega)]
      have hlt : i < l.length := by omega
      have hg : (ByteArray.mk ⟨l⟩).get! i = l[i] := by
        simp [ByteArray.get!, hlt]
      rw [hg, List.drop_eq_getElem_cons hlt]
      simp
  unfold ByteArray.toList
  rw [h l.length 0 [] (by omega) (by omega)]
  simp

theorem bytesLess_eq : ∀ (a b : List UInt8), Op.bytesLess a b = V.bytesLess a b
  | _, [] => by cases ‹List UInt8› <;> rfl
  | [], _ :: _ => rfl
  | a :: x, b :: y => by simp only [Op.bytesLess, V.bytesLess, bytesLess_eq x y]

theorem eqGuard_other {P : Program} {op : BinOp} (ho : ¬ (op = .eql ∨ op = .neq)) (t : TypeId) (p q : Operand) (xv yv : Value) (w : World) : (eqGuard op t p q xv yv).run P w = .ok () w := by
  cases op <;> first | (exact absurd (.inl rfl) ho) | (exact absurd (.inr rfl) ho) | (simp [eqGuard])

def plainConc : Val → Value
  | .int k n => .int k n
  | .bool b => .bool b
  | .str s => .string ⟨⟨s⟩⟩
  | _ => Go.undef

theorem binOp_int {P : Program} {ρ : Ren} {op : BinOp} (ho : ¬ (op = .eql ∨ op = .neq)) {k k' : IntKind} {m n : Int} {r : Val} (e : arith op (.int k m) (.int k' n) = some r) (t : TypeId) (w : World) :
    (binOp op t (.int k m) (.int k' n)).run P w = .ok (plainConc r) w ∧ VRel ρ r (plainConc r) := by
  by_cases hs : op = .shl ∨ op = .shr
  · rcases hs with rfl | rfl <;> simp only [arith] at e <;> split at e <;> (try (cases e; done)) <;> simp only [Option.some.injEq] at e <;> subst e <;> simp only [plainConc, VRel, and_true]
    · rename_i hn; simp [binOp, Op.shift, hn]
    · rename_i hn; simp [binOp, Op.shift, hn]
  · by_cases hk : k = k'
    · subst hk
      cases op <;> simp only [arith, intBin, if_true] at e <;> (try (exact absurd (.inl rfl) hs)) <;> (try (exact absurd (.inr rfl) hs)) <;> (try (exact absurd (.inl rfl) ho)) <;> (try (exact absurd (.inr rfl) ho)) <;>
        (try split at e) <;> (try (cases e; done)) <;> simp only [Option.some.injEq] at e <;> subst e <;> simp only [plainConc, VRel, and_true] <;>
        simp_all [binOp, Op.intArith, Op.intDiv, Op.intBits, Op.intCmp]
    · cases op <;> simp_all [arith]

theorem binOp_str {P : Program} {ρ : Ren} {op : BinOp} (ho : ¬ (op = .eql ∨ op = .neq)) {a b : List UInt8} {r : Val} (e : arith op (.str a) (.str b) = some r) (t : TypeId) (w : World) :
    (binOp op t (.string ⟨⟨a⟩⟩) (.string ⟨⟨b⟩⟩)).run P w = .ok (plainConc r) w ∧ VRel ρ r (plainConc r) := by
  cases op <;> simp only [arith] at e <;> (try (exact absurd (.inl rfl) ho)) <;> (try (exact absurd (.inr rfl) ho)) <;> (try (cases e; done))
  case add =>
    split at e
    · rename_i hlen
      simp only [Option.some.injEq] at e; subst e
      simp only [plainConc, VRel, and_true]
      have h1 : ¬ ((9223372036854775807 : Int) < ((ByteArray.mk ⟨a⟩).size : Int) + ((ByteArray.mk ⟨b⟩).size : Int)) := by
        have e1 : (ByteArray.mk ⟨a⟩).size = a.length := rfl
        have e2 : (ByteArray.mk ⟨b⟩).size = b.length := rfl
        rw [e1, e2]; omega
      simp [binOp, Op.stringOp]
      rw [if_neg h1]
      congr 2
    · cases e
  all_goals
    simp only [Option.some.injEq] at e; subst e
    simp only [plainConc, VRel, and_true]
    simp [binOp, Op.stringOp, ByteArray.toList_mk, bytesLess_eq]

section
variable {P : Program} {ρ : Ren} {h h' : Heap} {w : World} (hr : HRel ρ h w) {fr : List Val} {a : Act} (hf : FRel ρ fr a)
include hr

theorem s_arith {op : BinOp} (ho : ¬ (op = .eql ∨ op = .neq)) {t : TypeId} {p q : Operand} {x y r : Val} {xv yv : Value} (hx : VRel ρ x xv) (hy : VRel ρ y yv) (e : arith op x y = some r) :
    Sound P (do pure (.value (← (do eqGuard op t p q xv yv; binOp op t xv yv)))) ρ h w r h := by
  have hg := eqGuard_other (P := P) ho t p q xv yv
  have key : (binOp op t xv yv).run P w = .ok (plainConc r) w ∧ VRel ρ r (plainConc r) := by
    cases x <;> cases y <;> simp only [VRel] at hx hy <;> (try (cases op <;> simp [arith] at e; done))
    case int.int k m k' n => subst hx hy; exact binOp_int ho e t w
    case str.str s s' => subst hx hy; exact binOp_str ho e t w
  exact Sound.pure hr (by simp [hg, key.1]) key.2

theorem s_un {op : UnOp} {x r : Val} {xv : Value} (hx : VRel ρ x xv) (e : unary op x = some r) : Sound P (do pure (.value (← Op.unary op xv))) ρ h w r h := by
  cases x <;> simp only [VRel] at hx <;> cases op <;> simp only [unary, Option.some.injEq, reduceCtorEq] at e <;> subst e <;> subst hx
  · exact Sound.pure hr (by simp [Op.unary]; rfl) (by simp only [VRel])
  · exact Sound.pure hr (by simp only [Op.unary, Op.intArith, Sem.run_bind, Sem.run_pure, Result.andThen_ok]; rfl) (by simp only [VRel])
  · exact Sound.pure hr (by simp only [Op.unary, Op.intBits, Sem.run_bind, Sem.run_pure, Result.andThen_ok]; rfl) (by simp only [VRel])

theorem s_convInt {s t : TypeId} {k k0 : IntKind} (hs : P.underlying s = some (.int k0)) (ht : P.underlying t = some (.int k)) {x : Val} {xv : Value} (hx : VRel ρ x xv) {k' : IntKind} {n : Int} (e : x = .int k' n) :
    Sound P (do pure (.value (← convert s t xv))) ρ h w (.int k (k.wrap n)) h := by
  subst e; simp only [VRel] at hx; subst hx
  exact Sound.pure hr (by simp [convert, run_underlying hs, run_underlying ht, Conv.intToInt]; rfl) (by simp only [VRel])

theorem s_convSame {s t : TypeId} (hs : P.underlying s = some .string) (ht : P.underlying t = some .string) {x : Val} {xv : Value} (hx : VRel ρ x xv) {l : List UInt8} (e : x = .str l) :
    Sound P (do pure (.value (← convert s t xv))) ρ h w (.str l) h := by
  subst e; simp only [VRel] at hx; subst hx
  exact Sound.pure hr (by simp [convert, run_underlying hs, run_underlying ht]; rfl) (by simp only [VRel])

theorem s_nilCheck {o : Oper} {p : Operand} (ho : o.op = .nilCheck p) {ρo : Operand → Value} {x : Val} (hx : VRel ρ x (ρo p)) (h1 : nilOk x = true) :
    Sound P (execOp ρo o) ρ h w x h := by
  have hrun : (execOp ρo o).run P w = .ok (.value (ρo p)) w := by
    unfold execOp
    simp only [ho]
    generalize ρo p = v at hx
    cases x <;> simp only [VRel] at hx <;> simp [nilOk] at h1
    all_goals first
      | (subst hx; simp; done)
      | (obtain ⟨_, _, hx⟩ := hx; subst hx; simp; done)
      | (obtain ⟨_, _, hx, _⟩ := hx; subst hx; simp; done)
      | (obtain ⟨_, hx, _⟩ := hx; subst hx; simp; done)
      | skip
    rename_i f b c
    obtain ⟨a', c', rfl, _, _⟩ := hx
    cases f <;> simp at h1 ⊢
  exact Sound.pure hr hrun hx

theorem s_mkiface {t : TypeId} {d : TypeDesc} (ht : P.underlying t = some d) (hd : ∀ m, d ≠ .interface m) {x : Val} {xv : Value} (hx : VRel ρ x xv) : Sound P (do pure (.value (← Instr.makeInterface t xv))) ρ h w (.iface t x) h := by
  refine Sound.pure hr (cv := .iface t xv) ?_ (by simp only [VRel]; exact ⟨_, rfl, hx⟩)
  simp only [Instr.makeInterface, Sem.run_bind, run_underlying ht, Result.andThen_ok]
  cases d <;> simp_all

theorem s_mkfunc {f : Fn} {xs ys : List Val} {xv yv : List Value} (hx : VRels ρ xs xv) (hy : VRels ρ ys yv) : Sound P (do pure (.value (← Instr.makeFunc f xv.toArray yv.toArray))) ρ h w (.func f xs ys) h :=
  Sound.pure hr (by simp [Instr.makeFunc]; rfl) (by simp only [VRel]; exact ⟨_, _, rfl, hx, hy⟩)

theorem s_faddr {t : TypeId} {fs : Array Field} (ht : P.underlying t = some (.struct fs)) {i : Nat} {f : Field} (hfi : fs[i]? = some f) {j : TypeInfo} (hj : P.info? f.type = some j) (hfz : P.cellsOf f.type ≠ 0) {b o : Nat} {v : Value} (hv : VRel ρ (.ptr b o) v) :
    Sound P (do pure (.value (← Instr.fieldAt t v i))) ρ h w (.ptr b (o + f.offset)) h := by
  simp only [VRel] at hv
  obtain ⟨l, hl, rfl⟩ := hv
  refine Sound.pure hr (cv := .pointer (some ⟨l.c, l.s + (o + f.offset), none⟩)) ?_ (by simp only [VRel]; exact ⟨l, hl, rfl⟩)
  simp only [Instr.fieldAt, Sem.run_bind, run_underlying ht, Result.andThen_ok, hfi, Instr.sureAddr, Sem.run_pure, fieldPlace, run_sizeOf_of hj, if_neg hfz, Addr.add_none, Nat.add_assoc]

theorem s_ext {x : Val} {xv : Value} (hx : VRel ρ x xv) {l : List Val} (e : x = .tup l) {i : Nat} {v : Val} (hi : l[i]? = some v) : Sound P (do pure (.value (← Instr.extract xv i))) ρ h w v h := by
  subst e; simp only [VRel] at hx
  obtain ⟨a, rfl, hl⟩ := hx
  obtain ⟨y, hy, r⟩ := hl.get i v hi
  rw [Array.getElem?_toList] at hy
  exact Sound.pure hr (by simp [Instr.extract, hy]) r

end
end Go.V
