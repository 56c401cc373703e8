/-
 Contracts: what a thread is.
-/
import Derived.Test.YtkdolbffabmemaaGreatDoorLvz
namespace Go.Proofs.YtkdolbffabmemaaGreatDoor
open Go.RowKit
set_option linter.unusedSimpArgs false
set_option linter.unusedVariables false
theorem threadOk_fn (l : List Do) (hl : l.length < 2 ^ 40) : Fp Tryz.prog 60 [.sl (l.map Do.V)] (.bool (threadOk l)) := by
 refine Fc.start (S := []) Tryz.func60 Tryz.ntmps60 Tryz.results60 rfl (by decide) rfl (by kernel_rfl) ?_
 simp (disch := omega) only [push_cast, go_sem, zA, simprocAttr]
 refine Sat.loop (σ := Nat × Bool × Bool) (fun x => upd (upd (upd (upd (upd (upd noT 0 (.sl (l.map Do.V))) 8 (.sl (l.map Do.V))) 9 (.int .i64 l.length)) 10 (.int .i64 x.1)) 3 (.bool x.2.1)) 4 (.bool x.2.2)) (fun _ => noM)
  (fun x => x.1 ≤ l.length ∧ thrGo l false false = thrGo (l.drop x.1) x.2.1 x.2.2) (fun x => l.length - x.1) (0, false, false) (by simp) ?_ ?_
 ·(refine zB ?_; repeat (first | exact zC | exact zD | refine zE (by decide) ?_ | refine zF ?_ ?_ | refine zG ?_ ?_)) <;> (try simp (disch := omega) only [push_cast, go_sem, zA, simprocAttr])
 rintro ⟨i, r, n⟩ ⟨hi, hg⟩ J hJ
 refine Sat.of (S := [1001]) (by kernel_rfl) ?_
 simp only at hi hg hJ
 rcases Nat.lt_or_ge i l.length with hlt | hge
 ·obtain ⟨d, he⟩ : ∃ d, l[i]? = some d := ⟨_, List.getElem?_eq_getElem hlt⟩
  rw [drop_get he, thrGo] at hg
  simp (disch := omega) only [push_cast, go_sem, zA, simprocAttr, he, hlt, Do.V_eq]
  refine Sat.cutP (upd (upd (upd (upd (upd (upd noT 0 (.sl (l.map Do.V))) 8 (.sl (l.map Do.V))) 9 (.int .i64 l.length)) 10 (.int .i64 i)) 3 (.bool (r || d.reads))) 4 (.bool (d.k == 7 || (n && !(d.k == 8))))) noM (d.formed = true ∧ d.wrong r n = false) (Sat.of (S := [5]) (by kernel_rfl) ?_) ?_
  ·simp (disch := omega) only [push_cast, go_sem, zA, simprocAttr, he, hlt, Do.V_eq]
   intro g
   refine Sat.cut1 [] 7 (.bool (d.wrong r n)) (by kernel_rfl) ?_ ?_
   ·cases r <;> cases n <;> simp (disch := omega) only [push_cast, go_sem, zA, simprocAttr, Do.V_eq]
    all_goals (repeat' (with_reducible first | apply And.intro | intro _)) <;> (refine zB ?_; repeat (first | exact zC | exact zD | refine zE (by decide) ?_ | refine zF ?_ ?_ | refine zG ?_ ?_)) <;> (try simp (disch := omega) only [push_cast, go_sem, zA, simprocAttr])
    all_goals (clear hJ; simp_all [Do.wrong])
   refine Sat.of (S := [8]) (by kernel_rfl) ?_
   simp (disch := omega) only [push_cast, go_sem, zA, simprocAttr]
   refine callR.pure (formed_fn d) rfl rfl ?_
   cases hf : d.formed
   ·simp (disch := omega) only [push_cast, go_sem, zA, simprocAttr]
    simp [threadOk, hg, hf]
   cases hw : d.wrong r n
   ·simp (disch := omega) only [push_cast, go_sem, zA, simprocAttr]
    refine Sat.cut1 [] 3 (.bool (r || d.reads)) (by kernel_rfl) ?_ ?_
    ·cases r <;> simp (disch := omega) only [push_cast, go_sem, zA, simprocAttr]
     ·refine callR.pure (reads_fn d) rfl rfl ?_
      simp (disch := omega) only [push_cast, go_sem, zA, simprocAttr]
      (refine zB ?_; repeat (first | exact zC | exact zD | refine zE (by decide) ?_ | refine zF ?_ ?_ | refine zG ?_ ?_)) <;> (try simp (disch := omega) only [push_cast, go_sem, zA, simprocAttr])
     ·(refine zB ?_; repeat (first | exact zC | exact zD | refine zE (by decide) ?_ | refine zF ?_ ?_ | refine zG ?_ ?_)) <;> (try simp (disch := omega) only [push_cast, go_sem, zA, simprocAttr])
    refine Sat.of (S := []) (by kernel_rfl) ?_
    cases n <;> simp (disch := omega) only [push_cast, go_sem, zA, simprocAttr]
    all_goals (repeat' (with_reducible first | apply And.intro | intro _)) <;> (refine zB ?_; repeat (first | exact zC | exact zD | refine zE (by decide) ?_ | refine zF ?_ ?_ | refine zG ?_ ?_)) <;> (try simp (disch := omega) only [push_cast, go_sem, zA, simprocAttr])
    all_goals (clear hJ; simp_all [bne])
   ·simp (disch := omega) only [push_cast, go_sem, zA, simprocAttr]
    simp [threadOk, hg, hw]
  rintro ⟨hf, hw⟩
  refine Sat.of (S := []) (by kernel_rfl) ?_
  simp (disch := omega) only [push_cast, go_sem, zA, simprocAttr]
  refine hJ (i + 1, _, _) _ _ ⟨by omega, by simp only [hg, hf, hw]; rfl⟩ (by simp only; omega) ?_
  (refine zB ?_; repeat (first | exact zC | exact zD | refine zE (by decide) ?_ | refine zF ?_ ?_ | refine zG ?_ ?_)) <;> (try simp (disch := omega) only [push_cast, go_sem, zA, simprocAttr])
 ·have : i = l.length := by omega
  subst this
  simp (disch := omega) only [push_cast, go_sem, zA, simprocAttr]
  cases n <;> simp (disch := omega) only [push_cast, go_sem, zA, simprocAttr] <;> (simp [threadOk, hg, thrGo]; try omega)
end Go.Proofs.YtkdolbffabmemaaGreatDoor
