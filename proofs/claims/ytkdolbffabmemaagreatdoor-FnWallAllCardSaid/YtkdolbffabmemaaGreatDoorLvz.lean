/-
 Contracts: what a thread is.
-/
import Derived.Test.YtkdolbffabmemaaGreatDoorLvn
namespace Go.Proofs.YtkdolbffabmemaaGreatDoor
open Go.RowKit
set_option linter.unusedSimpArgs false
set_option linter.unusedVariables false
theorem formed_fn (d : Do) : Fp Tryz.prog 110 [d.V] (.bool d.formed) := by
 refine Fc.start (S := []) Tryz.func110 Tryz.ntmps110 Tryz.results110 rfl (by decide) rfl (by kernel_rfl) ?_
 simp (disch := omega) only [push_cast, go_sem, zA, simprocAttr, Do.V_eq]
 -- what comes behind the first line
 intro g
 have rest : ∀ (a : Bool), a = (if d.uses then inB d.p 0 2 else d.p == 0) → d.formed = (inB d.k 1 9 && a && (if d.valued then inB d.v 1 3 else d.v == 0)) := by
  rintro a rfl; rfl
 refine ⟨fun h => ?_, fun h => ?_⟩
 ·refine callR.pure (uses_fn d) rfl rfl ?_
  simp (disch := omega) only [push_cast, go_sem, zA, simprocAttr, Do.V_eq]
  refine ⟨fun hu => ?_, fun hu => ?_⟩
  ·refine callR.pure (in_fn d.p 0 2) rfl rfl ?_
   simp (disch := omega) only [push_cast, go_sem, zA, simprocAttr, Do.V_eq]
   refine callR.pure (valued_fn d) rfl rfl ?_
   simp (disch := omega) only [push_cast, go_sem, zA, simprocAttr, Do.V_eq]
   refine ⟨fun hv => ?_, fun hv => ?_⟩
   ·refine callR.pure (in_fn d.v 1 3) rfl rfl ?_
    simp (disch := omega) only [push_cast, go_sem, zA, simprocAttr, Do.V_eq]
    refine callR.pure (in_fn d.k 1 9) rfl rfl ?_
    simp (disch := omega) only [push_cast, go_sem, zA, simprocAttr, Do.V_eq]
    cases h1 : inB d.k 1 9 <;> cases h2 : inB d.p 0 2 <;> cases h3 : inB d.v 1 3 <;> simp [Do.formed, hu, hv, h, h1, h2, h3]
   ·refine callR.pure (in_fn d.k 1 9) rfl rfl ?_
    simp (disch := omega) only [push_cast, go_sem, zA, simprocAttr, Do.V_eq]
    cases h1 : inB d.k 1 9 <;> cases h2 : inB d.p 0 2 <;> cases h3 : (d.v == 0) <;> simp [Do.formed, hu, hv, h, h1, h2, h3]
  ·skip
   refine callR.pure (valued_fn d) rfl rfl ?_
   simp (disch := omega) only [push_cast, go_sem, zA, simprocAttr, Do.V_eq]
   refine ⟨fun hv => ?_, fun hv => ?_⟩
   ·refine callR.pure (in_fn d.v 1 3) rfl rfl ?_
    simp (disch := omega) only [push_cast, go_sem, zA, simprocAttr, Do.V_eq]
    refine callR.pure (in_fn d.k 1 9) rfl rfl ?_
    simp (disch := omega) only [push_cast, go_sem, zA, simprocAttr, Do.V_eq]
    cases h1 : inB d.k 1 9 <;> cases h3 : inB d.v 1 3 <;> simp [Do.formed, hu, hv, h, h1, h3]
   ·refine callR.pure (in_fn d.k 1 9) rfl rfl ?_
    simp (disch := omega) only [push_cast, go_sem, zA, simprocAttr, Do.V_eq]
    cases h1 : inB d.k 1 9 <;> cases h3 : (d.v == 0) <;> simp [Do.formed, hu, hv, h, h1, h3]
 ·have hp : d.p = 0 := by simpa using h
  have hp2 : inB d.p 0 2 = true := by rw [hp]; rfl
  refine callR.pure (valued_fn d) rfl rfl ?_
  simp (disch := omega) only [push_cast, go_sem, zA, simprocAttr, Do.V_eq]
  refine ⟨fun hv => ?_, fun hv => ?_⟩
  ·refine callR.pure (in_fn d.v 1 3) rfl rfl ?_
   simp (disch := omega) only [push_cast, go_sem, zA, simprocAttr, Do.V_eq]
   refine callR.pure (in_fn d.k 1 9) rfl rfl ?_
   simp (disch := omega) only [push_cast, go_sem, zA, simprocAttr, Do.V_eq]
   cases h1 : inB d.k 1 9 <;> cases h3 : inB d.v 1 3 <;> simp [Do.formed, hv, h, h1, h3, hp2]
  ·refine callR.pure (in_fn d.k 1 9) rfl rfl ?_
   simp (disch := omega) only [push_cast, go_sem, zA, simprocAttr, Do.V_eq]
   cases h1 : inB d.k 1 9 <;> cases h3 : (d.v == 0) <;> simp [Do.formed, hv, h, h1, h3, hp2]
end Go.Proofs.YtkdolbffabmemaaGreatDoor
