/-
  Rows: what was read before a call that writes nothing old reads so behind it.
-/
import Derived.Test.YtkmaaddlimgdoaaSound
import Derived.Test.YtkmaaddlimgdoaaRows
import Derived.WalkKit
import Derived.ProofKit
import Derived.OpenShut
import Derived.JoinedCond
set_option linter.unusedVariables false
set_option linter.unusedSimpArgs false
set_option linter.unusedSectionVars false
namespace Go.V
open Go

theorem mapM_imp {α β : Type} {f g : α → Option β} : ∀ {l : List α} {r : List β}, l.mapM f = some r → (∀ i ∈ l, ∀ y ∈ r, f i = some y → g i = some y) → l.mapM g = some r
  | [], r, h, _ => by simpa using h
  | a :: l, r, h, k => by
    rw [List.mapM_cons] at h ⊢
    cases ha : f a with
    | none => rw [ha] at h; cases h
    | some y =>
      rw [ha] at h
      cases hl : l.mapM f with
      | none => simp [hl] at h
      | some s =>
        simp only [hl, Option.pure_def, Option.bind_eq_bind, Option.bind_some, Option.some.injEq] at h
        subst h
        rw [k a (by simp) y (by simp) ha]
        rw [mapM_imp hl fun i hi z hz e => k i (by simp [hi]) z (by simp [hz]) e]
        rfl

def Same (W W' : World) : Prop := ∀ c, c < W.heap.size → W'.heap[c]? = W.heap[c]?

theorem Same.cell {W W' : World} (h : Same W W') {a : Addr} {v : Value} (e : W.cell? a = some v) : W'.cell? a = some v := by
  unfold World.cell? at e ⊢
  split at e
  · rename_i hb
    have : a.block < W.heap.size := (Array.getElem?_eq_some_iff.1 hb).1
    rw [h _ this, hb]
    exact e
  · cases e

theorem Same.cells {W W' : World} (h : Same W W') {base : Nat} {a : Addr} {n : Nat} {l : List Value} (e : W.cells? base a n = some l) : W'.cells? base a n = some l := by
  unfold World.cells? at e ⊢
  split at e
  · rename_i hb
    rw [if_pos hb]
    exact mapM_imp e fun i _ y _ k => h.cell k
  · cases e

theorem bind_imp {α β : Type} {x : Option α} {f : α → Option β} {y : β} (h : x.bind f = some y) : ∃ a, x = some a ∧ f a = some y := by
  cases x with
  | none => cases h
  | some a => exact ⟨a, rfl, h⟩

variable {H : Type} {enc : TypeId × Value → H} {P : Program}

theorem row_mem {a : Addr} {n : Nat} (hn : 0 < n) : MemPlace.cell a.block (a.off + 0) ∈ MemPlace.row a n := by
  unfold MemPlace.row
  exact List.mem_map.2 ⟨0, by simpa using hn, rfl⟩

/-- Types that an argument may have here: plain ones, and slices of them. -/
def okT (P : Program) : Nat → TypeId → Bool
  | 0, _ => false
  | d + 1, t => match P.underlying t with
    | some (.int _) | some .bool | some .string => true
    | some (.struct fs) => fs.toList.all fun f => okT P d f.type
    | some (.array _ e) => okT P d e
    | some (.slice e) => P.cellsOf e != 0 && okT P d e
    | _ => false

theorem trod_same {W W' : World} (h : Same W W') {base : Nat} {held : Bool} {sp : Nat → Bool} : ∀ (fuel d : Nat) (t : TypeId) (cs : List Value) (x : DataW H × List MemPlace), okT P d t = true →
    DataW.trod enc P W base (fun _ => true) held fuel t cs = some x → (∀ p ∈ x.2, sp p.block = true) → DataW.trod enc P W' base sp held fuel t cs = some x
  | 0, _, _, _, _, _, e, _ => by simp [DataW.trod] at e
  | _ + 1, 0, _, _, _, hk, _, _ => by simp [okT] at hk
  | fuel + 1, d + 1, t, cs, x, hk, e, hp => by
    have ih := trod_same h (base := base) (held := held) (sp := sp) fuel d
    simp only [okT] at hk
    unfold DataW.trod at e ⊢
    generalize hu : P.underlying t = u at e hk ⊢
    split at e <;> (try (first | exact e | (simp only at e; cases e; done)))
    · cases hk
    · -- slices
      rename_i e0 a len cap
      simp only [Bool.and_eq_true, bne_iff_ne, ne_eq] at hk
      simp only at e ⊢
      split at e
      · rename_i hc
        rw [if_pos hc]
        obtain ⟨elems, e1, e2⟩ := bind_imp e
        simp only [Option.map_eq_some_iff, if_true] at e2
        obtain ⟨rest, e3, rfl⟩ := e2
        have step : ∀ i, ∀ y, (∀ p ∈ y.2, sp p.block = true) → (W.cells? base (a.add (i * P.cellsOf e0)) (P.cellsOf e0)).bind (DataW.trod enc P W base (fun _ => true) held fuel e0) = some y →
            (W'.cells? base (a.add (i * P.cellsOf e0)) (P.cellsOf e0)).bind (DataW.trod enc P W' base sp held fuel e0) = some y := by
          intro i y hy k
          obtain ⟨l, k1, k2⟩ := bind_imp k
          rw [h.cells k1]
          exact ih _ _ _ hk.2 k2 hy
        have h1 := mapM_imp (g := fun i => (W'.cells? base (a.add (i * P.cellsOf e0)) (P.cellsOf e0)).bind (DataW.trod enc P W' base sp held fuel e0)) e1 fun i _ y hy k => step i y (fun p q => hp p (by
          simp only [List.mem_append, List.mem_flatMap]; exact .inr ⟨y, .inl hy, q⟩)) k
        rw [h1]
        simp only [Option.bind_some, Option.map_eq_some_iff]
        refine ⟨rest, ?_, rfl⟩
        have h3 := mapM_imp (g := fun j => (W'.cells? base (a.add ((len + j) * P.cellsOf e0)) (P.cellsOf e0)).bind (DataW.trod enc P W' base sp held fuel e0)) e3 fun i _ y hy k => step (len + i) y (fun p q => hp p (by
          simp only [List.mem_append, List.mem_flatMap]; exact .inr ⟨y, .inr hy, q⟩)) k
        split
        · exact h3
        · rename_i hs
          cases rest with
          | nil => rfl
          | cons r rest =>
            exfalso
            apply hs
            have hz := hk.1
            have := hp (.cell a.block (a.off + 0)) (by
              simp only [List.mem_append]
              exact .inl (row_mem (Nat.mul_pos (by simp only [List.length_cons]; omega) (Nat.pos_of_ne_zero hz))))
            exact this
      · cases e
    · -- structs
      split at e
      · rename_i hc
        rw [if_pos hc]
        simp only [Option.map_eq_some_iff] at e ⊢
        obtain ⟨xs, e1, rfl⟩ := e
        refine ⟨xs, mapM_imp e1 fun f hf y hy k => ih _ _ _ (List.all_eq_true.1 hk f hf) k fun p q => hp p ?_, rfl⟩
        simp only [List.mem_flatMap]
        exact ⟨y, hy, q⟩
      · cases e
    · -- arrays
      split at e
      · rename_i hc
        rw [if_pos hc]
        simp only [Option.map_eq_some_iff] at e ⊢
        obtain ⟨xs, e1, rfl⟩ := e
        refine ⟨xs, mapM_imp e1 fun f _ y hy k => ih _ _ _ hk k fun p q => hp p ?_, rfl⟩
        simp only [List.mem_flatMap]
        exact ⟨y, hy, q⟩
      · cases e
    · cases hk
    · cases hk

theorem trodAll_same {W W' : World} (h : Same W W') {base : Nat} {held : Bool} {sp : Nat → Bool} : ∀ {ts : List TypeId} {vs : List Value} {ds : List (DataW H)} {ps : List MemPlace}, ts.all (okT P 8) = true →
    DataW.TrodAll enc P W base (fun _ => true) held ts vs ds ps → (∀ p ∈ ps, sp p.block = true) → DataW.TrodAll enc P W' base sp held ts vs ds ps
  | [], [], [], _, _, e, _ => e
  | _ :: _, _ :: _, _ :: _, _, hk, ⟨p, q, ⟨n, e1⟩, e2, e3⟩, hp => by
    simp only [List.all_cons, Bool.and_eq_true] at hk
    exact ⟨p, q, ⟨n, trod_same h n 8 _ _ _ hk.1 e1 fun x hx => hp x (by rw [e3]; simp [hx])⟩, trodAll_same h hk.2 e2 fun x hx => hp x (by rw [e3]; simp [hx]), e3⟩

end Go.V
