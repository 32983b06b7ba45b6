/-
  The functions are what the compiler makes of the program. Printed by print/Print.lean.
-/
import Derived.Test.YtkmaaddlimgdoaaSound
import Derived.Test.YtkmaaddlimgdoaaQfns
import Derived.Test.YtkmaaddlimgdoaaProg
import Derived.KernelRfl
set_option linter.unusedVariables false
set_option linter.unusedSimpArgs false
set_option linter.unusedSectionVars false
set_option maxRecDepth 100000
set_option maxHeartbeats 4000000
namespace Go.V
open Go.Proofs

theorem ok4 : ∃ fn, FnOk Try.prog 4 fn ∧ cFn Try.prog fn = some v4 := ⟨Try.f4, ⟨rfl, rfl, rfl⟩, by kernel_rfl⟩
theorem ok7 : ∃ fn, FnOk Try.prog 7 fn ∧ cFn Try.prog fn = some v7 := ⟨Try.f7, ⟨rfl, rfl, rfl⟩, by kernel_rfl⟩
theorem ok8 : ∃ fn, FnOk Try.prog 8 fn ∧ cFn Try.prog fn = some v8 := ⟨Try.f8, ⟨rfl, rfl, rfl⟩, by kernel_rfl⟩
theorem ok9 : ∃ fn, FnOk Try.prog 9 fn ∧ cFn Try.prog fn = some v9 := ⟨Try.f9, ⟨rfl, rfl, rfl⟩, by kernel_rfl⟩
theorem ok10 : ∃ fn, FnOk Try.prog 10 fn ∧ cFn Try.prog fn = some v10 := ⟨Try.f10, ⟨rfl, rfl, rfl⟩, by kernel_rfl⟩
theorem ok11 : ∃ fn, FnOk Try.prog 11 fn ∧ cFn Try.prog fn = some v11 := ⟨Try.f11, ⟨rfl, rfl, rfl⟩, by kernel_rfl⟩
theorem ok12 : ∃ fn, FnOk Try.prog 12 fn ∧ cFn Try.prog fn = some v12 := ⟨Try.f12, ⟨rfl, rfl, rfl⟩, by kernel_rfl⟩
theorem ok13 : ∃ fn, FnOk Try.prog 13 fn ∧ cFn Try.prog fn = some v13 := ⟨Try.f13, ⟨rfl, rfl, rfl⟩, by kernel_rfl⟩
theorem ok14 : ∃ fn, FnOk Try.prog 14 fn ∧ cFn Try.prog fn = some v14 := ⟨Try.f14, ⟨rfl, rfl, rfl⟩, by kernel_rfl⟩
theorem ok15 : ∃ fn, FnOk Try.prog 15 fn ∧ cFn Try.prog fn = some v15 := ⟨Try.f15, ⟨rfl, rfl, rfl⟩, by kernel_rfl⟩
theorem ok16 : ∃ fn, FnOk Try.prog 16 fn ∧ cFn Try.prog fn = some v16 := ⟨Try.f16, ⟨rfl, rfl, rfl⟩, by kernel_rfl⟩
theorem ok17 : ∃ fn, FnOk Try.prog 17 fn ∧ cFn Try.prog fn = some v17 := ⟨Try.f17, ⟨rfl, rfl, rfl⟩, by kernel_rfl⟩
theorem ok18 : ∃ fn, FnOk Try.prog 18 fn ∧ cFn Try.prog fn = some v18 := ⟨Try.f18, ⟨rfl, rfl, rfl⟩, by kernel_rfl⟩
theorem ok19 : ∃ fn, FnOk Try.prog 19 fn ∧ cFn Try.prog fn = some v19 := ⟨Try.f19, ⟨rfl, rfl, rfl⟩, by kernel_rfl⟩
theorem ok20 : ∃ fn, FnOk Try.prog 20 fn ∧ cFn Try.prog fn = some v20 := ⟨Try.f20, ⟨rfl, rfl, rfl⟩, by kernel_rfl⟩
theorem ok21 : ∃ fn, FnOk Try.prog 21 fn ∧ cFn Try.prog fn = some v21 := ⟨Try.f21, ⟨rfl, rfl, rfl⟩, by kernel_rfl⟩
theorem ok22 : ∃ fn, FnOk Try.prog 22 fn ∧ cFn Try.prog fn = some v22 := ⟨Try.f22, ⟨rfl, rfl, rfl⟩, by kernel_rfl⟩
theorem ok23 : ∃ fn, FnOk Try.prog 23 fn ∧ cFn Try.prog fn = some v23 := ⟨Try.f23, ⟨rfl, rfl, rfl⟩, by kernel_rfl⟩
theorem ok24 : ∃ fn, FnOk Try.prog 24 fn ∧ cFn Try.prog fn = some v24 := ⟨Try.f24, ⟨rfl, rfl, rfl⟩, by kernel_rfl⟩
theorem ok25 : ∃ fn, FnOk Try.prog 25 fn ∧ cFn Try.prog fn = some v25 := ⟨Try.f25, ⟨rfl, rfl, rfl⟩, by kernel_rfl⟩
theorem ok26 : ∃ fn, FnOk Try.prog 26 fn ∧ cFn Try.prog fn = some v26 := ⟨Try.f26, ⟨rfl, rfl, rfl⟩, by kernel_rfl⟩
theorem ok27 : ∃ fn, FnOk Try.prog 27 fn ∧ cFn Try.prog fn = some v27 := ⟨Try.f27, ⟨rfl, rfl, rfl⟩, by kernel_rfl⟩
theorem ok28 : ∃ fn, FnOk Try.prog 28 fn ∧ cFn Try.prog fn = some v28 := ⟨Try.f28, ⟨rfl, rfl, rfl⟩, by kernel_rfl⟩
theorem ok29 : ∃ fn, FnOk Try.prog 29 fn ∧ cFn Try.prog fn = some v29 := ⟨Try.f29, ⟨rfl, rfl, rfl⟩, by kernel_rfl⟩
theorem ok30 : ∃ fn, FnOk Try.prog 30 fn ∧ cFn Try.prog fn = some v30 := ⟨Try.f30, ⟨rfl, rfl, rfl⟩, by kernel_rfl⟩
theorem ok31 : ∃ fn, FnOk Try.prog 31 fn ∧ cFn Try.prog fn = some v31 := ⟨Try.f31, ⟨rfl, rfl, rfl⟩, by kernel_rfl⟩
theorem ok32 : ∃ fn, FnOk Try.prog 32 fn ∧ cFn Try.prog fn = some v32 := ⟨Try.f32, ⟨rfl, rfl, rfl⟩, by kernel_rfl⟩
theorem ok33 : ∃ fn, FnOk Try.prog 33 fn ∧ cFn Try.prog fn = some v33 := ⟨Try.f33, ⟨rfl, rfl, rfl⟩, by kernel_rfl⟩
theorem ok34 : ∃ fn, FnOk Try.prog 34 fn ∧ cFn Try.prog fn = some v34 := ⟨Try.f34, ⟨rfl, rfl, rfl⟩, by kernel_rfl⟩
theorem ok35 : ∃ fn, FnOk Try.prog 35 fn ∧ cFn Try.prog fn = some v35 := ⟨Try.f35, ⟨rfl, rfl, rfl⟩, by kernel_rfl⟩
theorem ok36 : ∃ fn, FnOk Try.prog 36 fn ∧ cFn Try.prog fn = some v36 := ⟨Try.f36, ⟨rfl, rfl, rfl⟩, by kernel_rfl⟩
theorem ok37 : ∃ fn, FnOk Try.prog 37 fn ∧ cFn Try.prog fn = some v37 := ⟨Try.f37, ⟨rfl, rfl, rfl⟩, by kernel_rfl⟩
theorem ok38 : ∃ fn, FnOk Try.prog 38 fn ∧ cFn Try.prog fn = some v38 := ⟨Try.f38, ⟨rfl, rfl, rfl⟩, by kernel_rfl⟩
theorem ok39 : ∃ fn, FnOk Try.prog 39 fn ∧ cFn Try.prog fn = some v39 := ⟨Try.f39, ⟨rfl, rfl, rfl⟩, by kernel_rfl⟩
theorem ok40 : ∃ fn, FnOk Try.prog 40 fn ∧ cFn Try.prog fn = some v40 := ⟨Try.f40, ⟨rfl, rfl, rfl⟩, by kernel_rfl⟩
theorem ok41 : ∃ fn, FnOk Try.prog 41 fn ∧ cFn Try.prog fn = some v41 := ⟨Try.f41, ⟨rfl, rfl, rfl⟩, by kernel_rfl⟩
theorem ok42 : ∃ fn, FnOk Try.prog 42 fn ∧ cFn Try.prog fn = some v42 := ⟨Try.f42, ⟨rfl, rfl, rfl⟩, by kernel_rfl⟩
theorem ok43 : ∃ fn, FnOk Try.prog 43 fn ∧ cFn Try.prog fn = some v43 := ⟨Try.f43, ⟨rfl, rfl, rfl⟩, by kernel_rfl⟩
theorem ok44 : ∃ fn, FnOk Try.prog 44 fn ∧ cFn Try.prog fn = some v44 := ⟨Try.f44, ⟨rfl, rfl, rfl⟩, by kernel_rfl⟩
theorem ok45 : ∃ fn, FnOk Try.prog 45 fn ∧ cFn Try.prog fn = some v45 := ⟨Try.f45, ⟨rfl, rfl, rfl⟩, by kernel_rfl⟩
theorem ok46 : ∃ fn, FnOk Try.prog 46 fn ∧ cFn Try.prog fn = some v46 := ⟨Try.f46, ⟨rfl, rfl, rfl⟩, by kernel_rfl⟩
theorem ok47 : ∃ fn, FnOk Try.prog 47 fn ∧ cFn Try.prog fn = some v47 := ⟨Try.f47, ⟨rfl, rfl, rfl⟩, by kernel_rfl⟩
theorem ok48 : ∃ fn, FnOk Try.prog 48 fn ∧ cFn Try.prog fn = some v48 := ⟨Try.f48, ⟨rfl, rfl, rfl⟩, by kernel_rfl⟩
theorem ok49 : ∃ fn, FnOk Try.prog 49 fn ∧ cFn Try.prog fn = some v49 := ⟨Try.f49, ⟨rfl, rfl, rfl⟩, by kernel_rfl⟩
theorem ok50 : ∃ fn, FnOk Try.prog 50 fn ∧ cFn Try.prog fn = some v50 := ⟨Try.f50, ⟨rfl, rfl, rfl⟩, by kernel_rfl⟩
theorem ok51 : ∃ fn, FnOk Try.prog 51 fn ∧ cFn Try.prog fn = some v51 := ⟨Try.f51, ⟨rfl, rfl, rfl⟩, by kernel_rfl⟩
theorem ok52 : ∃ fn, FnOk Try.prog 52 fn ∧ cFn Try.prog fn = some v52 := ⟨Try.f52, ⟨rfl, rfl, rfl⟩, by kernel_rfl⟩
theorem ok53 : ∃ fn, FnOk Try.prog 53 fn ∧ cFn Try.prog fn = some v53 := ⟨Try.f53, ⟨rfl, rfl, rfl⟩, by kernel_rfl⟩
theorem ok54 : ∃ fn, FnOk Try.prog 54 fn ∧ cFn Try.prog fn = some v54 := ⟨Try.f54, ⟨rfl, rfl, rfl⟩, by kernel_rfl⟩
theorem ok55 : ∃ fn, FnOk Try.prog 55 fn ∧ cFn Try.prog fn = some v55 := ⟨Try.f55, ⟨rfl, rfl, rfl⟩, by kernel_rfl⟩
theorem ok56 : ∃ fn, FnOk Try.prog 56 fn ∧ cFn Try.prog fn = some v56 := ⟨Try.f56, ⟨rfl, rfl, rfl⟩, by kernel_rfl⟩
theorem ok57 : ∃ fn, FnOk Try.prog 57 fn ∧ cFn Try.prog fn = some v57 := ⟨Try.f57, ⟨rfl, rfl, rfl⟩, by kernel_rfl⟩
theorem ok58 : ∃ fn, FnOk Try.prog 58 fn ∧ cFn Try.prog fn = some v58 := ⟨Try.f58, ⟨rfl, rfl, rfl⟩, by kernel_rfl⟩

theorem fns_ok : ∀ (f : FuncId) (vn : VFn), fns f = some vn → ∃ fn, FnOk Try.prog f fn ∧ cFn Try.prog fn = some vn := by
  intro f vn h
  unfold fns at h
  split at h
  · cases h; exact ok4
  · cases h; exact ok7
  · cases h; exact ok8
  · cases h; exact ok9
  · cases h; exact ok10
  · cases h; exact ok11
  · cases h; exact ok12
  · cases h; exact ok13
  · cases h; exact ok14
  · cases h; exact ok15
  · cases h; exact ok16
  · cases h; exact ok17
  · cases h; exact ok18
  · cases h; exact ok19
  · cases h; exact ok20
  · cases h; exact ok21
  · cases h; exact ok22
  · cases h; exact ok23
  · cases h; exact ok24
  · cases h; exact ok25
  · cases h; exact ok26
  · cases h; exact ok27
  · cases h; exact ok28
  · cases h; exact ok29
  · cases h; exact ok30
  · cases h; exact ok31
  · cases h; exact ok32
  · cases h; exact ok33
  · cases h; exact ok34
  · cases h; exact ok35
  · cases h; exact ok36
  · cases h; exact ok37
  · cases h; exact ok38
  · cases h; exact ok39
  · cases h; exact ok40
  · cases h; exact ok41
  · cases h; exact ok42
  · cases h; exact ok43
  · cases h; exact ok44
  · cases h; exact ok45
  · cases h; exact ok46
  · cases h; exact ok47
  · cases h; exact ok48
  · cases h; exact ok49
  · cases h; exact ok50
  · cases h; exact ok51
  · cases h; exact ok52
  · cases h; exact ok53
  · cases h; exact ok54
  · cases h; exact ok55
  · cases h; exact ok56
  · cases h; exact ok57
  · cases h; exact ok58
  · cases h

end Go.V
