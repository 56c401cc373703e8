/-
 Contracts and plain laws.
-/
import Derived.Test.YtkdolbffabmemaaGreatDoorLvz
import Derived.Test.YtkdolbffabmemaaGreatDoorLvt
import Derived.Test.YtkdolbffabmemaaGreatDoorShelf
import Derived.RangeFuncGives
import Derived.RangeFuncBound
import Derived.Maps.AppendAt
import Derived.Shelf.Abstract
import Derived.Lib.SlKeysI
import Derived.RangeFuncBox
import Derived.RangeFuncLeaves
import Derived.LoopNIn
import Derived.LoopIn
import Derived.Maps.RangeWalk
set_option linter.unusedSimpArgs false
set_option linter.unusedVariables false
set_option linter.unusedSectionVars false
namespace Go.Proofs.YtkdolbffabmemaaGreatDoor
section
open Go.RowKit
theorem l6In_fn (n lo hi : Int) : Fp Tryz.prog 79 [.int .i64 n, .int .i64 lo, .int .i64 hi] (.bool (inB n lo hi)) := by
 refine Fc.start (S := []) Tryz.func79 Tryz.ntmps79 Tryz.results79 rfl (by decide) rfl (by kernel_rfl) ?_
 simp (disch := omega) only [push_cast, go_sem, zA, simprocAttr]
 refine ⟨fun h => ?_, fun h => ?_⟩ <;> simp [inB, h] <;> omega
theorem l1Do_fn (d : Do) : Fp Tryz.prog 95 [d.V] (.bool d.formed) := by
 refine Fc.start (S := [1]) Tryz.func95 Tryz.ntmps95 Tryz.results95 rfl (by decide) rfl (by kernel_rfl) ?_
 simp (disch := omega) only [push_cast, go_sem, zA, simprocAttr, Do.V_eq]
 intro g
 refine Sat.cutS (upd (upd noT 1 (.ptr 1 [] 0 0 g 3)) 3 (.bool d.valued)) (noM.set 1 (.own 40 (some g) 1 [.agg [.int .i64 d.k, .int .i64 d.p, .int .i64 d.v]])) (Sat.of (S := []) (by kernel_rfl) ?_) ?_
 ·simp (disch := omega) only [push_cast, go_sem, zA, simprocAttr]
  (repeat' (with_reducible first | apply And.intro | intro _)) <;> (refine zB ?_; repeat (first | exact zC | exact zD | refine zE (by decide) ?_ | refine zF ?_ ?_ | refine zG ?_ ?_)) <;> (try simp (disch := omega) only [push_cast, go_sem, zA, simprocAttr])
  all_goals simp_all [Do.valued]
 refine Sat.of (S := [2]) (by kernel_rfl) ?_
 simp (disch := omega) only [push_cast, go_sem, zA, simprocAttr]
 refine Sat.cutS (upd (upd (upd noT 1 (.ptr 1 [] 0 0 g 3)) 3 (.bool d.valued)) 4 (.bool d.uses)) (noM.set 1 (.own 40 (some g) 1 [.agg [.int .i64 d.k, .int .i64 d.p, .int .i64 d.v]])) (Sat.of (S := []) (by kernel_rfl) ?_) ?_
 ·simp (disch := omega) only [push_cast, go_sem, zA, simprocAttr]
  (repeat' (first | (with_reducible first | apply And.intro | intro _) | (first | refine callR.pure (l1Reads_fn d) rfl rfl ?_ | refine callR.pure (l1Writes_fn d) rfl rfl ?_) <;> (simp (disch := omega) only [push_cast, go_sem, zA, simprocAttr])))
  all_goals (refine zB ?_; repeat (first | exact zC | exact zD | refine zE (by decide) ?_ | refine zF ?_ ?_ | refine zG ?_ ?_)) <;> (try simp (disch := omega) only [push_cast, go_sem, zA, simprocAttr])
  all_goals simp_all [Do.uses]
 refine Sat.of (S := []) (by kernel_rfl) ?_
 cases hv : d.valued <;> cases hu : d.uses
 all_goals simp (disch := omega) only [push_cast, go_sem, zA, simprocAttr]
 all_goals (repeat' (first | (with_reducible first | apply And.intro | intro _) | (first | refine callR.pure (l6In_fn _ _ _) rfl rfl ?_) <;> (simp (disch := omega) only [push_cast, go_sem, zA, simprocAttr])))
 all_goals simp_all [Do.formed]
end
section
open Go.RowKit
set_option maxHeartbeats 4000000 in
theorem l1Thread_fn (l : List Do) : Fp Tryz.prog 43 [.sl (l.map Do.V)] (.bool (threadOk l)) := by
 refine Fc.start (S := []) Tryz.func43 Tryz.ntmps43 Tryz.results43 rfl (by decide) rfl (by kernel_rfl) ?_
 by_cases h7 : (7 : Int) < l.length
 ·simp (disch := omega) only [push_cast, go_sem, zA, simprocAttr, h7]
  simp [threadOk]; omega
 simp (disch := omega) only [push_cast, go_sem, zA, simprocAttr, h7]
 refine Sat.loop (σ := Nat × Bool × Bool) (fun x => upd (upd (upd (upd noT 0 (.sl (l.map Do.V))) 5 (.int .i64 x.1)) 3 (.bool x.2.1)) 4 (.bool x.2.2)) (fun _ => noM)
  (fun x => x.1 ≤ l.length ∧ thrGo l false false = thrGo (l.drop x.1) x.2.1 x.2.2) (fun x => l.length - x.1) (0, false, false) (by simp) ?_ ?_
 ·(refine zB ?_; repeat (first | exact zC | exact zD | refine zE (by decide) ?_ | refine zF ?_ ?_ | refine zG ?_ ?_)) <;> (try simp (disch := omega) only [push_cast, go_sem, zA, simprocAttr])
 rintro ⟨i, r, n⟩ ⟨hi, hg⟩ J hJ
 refine Sat.of (S := [1001]) (by kernel_rfl) ?_
 simp only at hi hg hJ
 rcases Nat.lt_or_ge i l.length with hlt | hge
 ·obtain ⟨d, he⟩ : ∃ d, l[i]? = some d := ⟨_, List.getElem?_eq_getElem hlt⟩
  rw [drop_get he, thrGo] at hg
  simp (disch := omega) only [push_cast, go_sem, zA, simprocAttr, he, hlt, Do.V_eq]
  refine Sat.cutP (upd (upd (upd (upd noT 0 (.sl (l.map Do.V))) 5 (.int .i64 i)) 3 (.bool (r || d.reads))) 4 (.bool (d.k == 7 || (n && !(d.k == 8))))) noM (d.formed = true ∧ d.wrong r n = false) (Sat.of (S := [9, 11]) (by kernel_rfl) ?_) ?_
  ·simp (disch := omega) only [push_cast, go_sem, zA, simprocAttr, he, hlt, Do.V_eq]
   intro g
   refine Sat.cutS (upd (upd (upd (upd (upd (upd noT 0 (.sl (l.map Do.V))) 5 (.int .i64 i)) 3 (.bool r)) 4 (.bool n)) 6 (.ptr 6 [] 0 0 g 3)) 56 (.bool (!d.formed || d.wrong r n))) (noM.set 6 (.own 40 (some g) 1 [.agg [.int .i64 d.k, .int .i64 d.p, .int .i64 d.v]])) (Sat.of (S := []) (by kernel_rfl) ?_) ?_
   ·simp (disch := omega) only [push_cast, go_sem, zA, simprocAttr, Do.V_eq]
    refine callR.pure (l1Do_fn d) rfl rfl ?_
    cases r <;> cases n <;> simp (disch := omega) only [push_cast, go_sem, zA, simprocAttr, Do.V_eq]
    all_goals (repeat' (with_reducible first | apply And.intro | intro _)) <;> (refine zB ?_; repeat (first | exact zC | exact zD | refine zE (by decide) ?_ | refine zF ?_ ?_ | refine zG ?_ ?_)) <;> (try simp (disch := omega) only [push_cast, go_sem, zA, simprocAttr])
    all_goals (clear hJ; cases hf : d.formed <;> simp_all [Do.wrong])
   refine Sat.of (S := [11]) (by kernel_rfl) ?_
   cases hf : d.formed
   ·simp (disch := omega) only [push_cast, go_sem, zA, simprocAttr]
    simp [threadOk, hg, hf]
   cases hw : d.wrong r n
   ·simp (disch := omega) only [push_cast, go_sem, zA, simprocAttr]
    refine Sat.cut1 [] 3 (.bool (r || d.reads)) (by kernel_rfl) ?_ ?_
    ·cases r <;> simp (disch := omega) only [push_cast, go_sem, zA, simprocAttr]
     ·refine callR.pure (l1Reads_fn d) rfl rfl ?_
      simp (disch := omega) only [push_cast, go_sem, zA, simprocAttr]
      (refine zB ?_; repeat (first | exact zC | exact zD | refine zE (by decide) ?_ | refine zF ?_ ?_ | refine zG ?_ ?_)) <;> (try simp (disch := omega) only [push_cast, go_sem, zA, simprocAttr])
     ·(refine zB ?_; repeat (first | exact zC | exact zD | refine zE (by decide) ?_ | refine zF ?_ ?_ | refine zG ?_ ?_)) <;> (try simp (disch := omega) only [push_cast, go_sem, zA, simprocAttr])
    refine Sat.of (S := []) (by kernel_rfl) ?_
    cases n <;> simp (disch := omega) only [push_cast, go_sem, zA, simprocAttr]
    all_goals (repeat' (with_reducible first | apply And.intro | intro _)) <;> (refine zB ?_; repeat (first | exact zC | exact zD | refine zE (by decide) ?_ | refine zF ?_ ?_ | refine zG ?_ ?_)) <;> (try simp (disch := omega) only [push_cast, go_sem, zA, simprocAttr])
    all_goals (clear hJ; simp_all [bne])
   ·simp (disch := omega) only [push_cast, go_sem, zA, simprocAttr]
    simp [threadOk, hg, hw]
  rintro ⟨hf, hw⟩
  refine Sat.of (S := []) (by kernel_rfl) ?_
  simp (disch := omega) only [push_cast, go_sem, zA, simprocAttr]
  refine hJ (i + 1, _, _) _ _ ⟨by omega, by simp only [hg, hf, hw]; rfl⟩ (by simp only; omega) ?_
  (refine zB ?_; repeat (first | exact zC | exact zD | refine zE (by decide) ?_ | refine zF ?_ ?_ | refine zG ?_ ?_)) <;> (try simp (disch := omega) only [push_cast, go_sem, zA, simprocAttr])
 ·have : i = l.length := by omega
  subst this
  simp (disch := omega) only [push_cast, go_sem, zA, simprocAttr]
  cases n <;> simp (disch := omega) only [push_cast, go_sem, zA, simprocAttr] <;> (simp [threadOk, hg, thrGo]; try omega)
end
section
open Go.RowKit
def thrV (l : List Do) : V := .sl (l.map Do.V)
theorem thrV_eq (l : List Do) : thrV l = .sl (l.map Do.V) := rfl
@[push_cast] theorem flatL_thr (p : Prog) : flatL (p.map thrV) = true := by simp [flatL, thrV, V.cells, V.flatC]
@[push_cast] theorem okY_thr (p : Prog) : okY Tryz.prog 38 (p.map thrV) = True := by
 simp only [okY, List.mem_map, eq_iff_iff, iff_true]
 rintro y ⟨d, _, rfl⟩
 exact ⟨by rw [szT_38]; rfl, by simp [thrV, V.cells, V.one]⟩
def progV (p : Prog) : V := .agg [.sl (p.map thrV)]
theorem progV_eq (p : Prog) : progV p = .agg [.sl (p.map thrV)] := rfl
theorem usesOf_le (l : List Do) : usesOf l ≤ l.length := List.length_filter_le _ _
theorem threadOk_le {l : List Do} (h : threadOk l = true) : l.length ≤ 7 := by
 simp [threadOk] at h; exact h.2
theorem ok_le : ∀ {p : Prog}, p.all threadOk = true → stepsP p ≤ 7 * p.length ∧ usesP p ≤ stepsP p
 | [], _ => by simp [stepsP, usesP]
 | l :: p, h => by
  simp only [List.all_cons, Bool.and_eq_true] at h
  have h1 := threadOk_le h.1
  have h2 := ok_le h.2
  have h3 := usesOf_le l
  simp only [stepsP, usesP, List.map_cons, List.sum_cons, List.length_cons] at h2 ⊢
  omega
theorem take_all {p : Prog} {i : Nat} {l : List Do} (he : p[i]? = some l) : (p.take (i + 1)).all threadOk = ((p.take i).all threadOk && threadOk l) ∧ stepsP (p.take (i + 1)) = stepsP (p.take i) + l.length ∧ usesP (p.take (i + 1)) = usesP (p.take i) + usesOf l := by
 rw [take_get he]
 simp [stepsP, usesP]
theorem all_take {p : Prog} {i : Nat} {l : List Do} (he : p[i]? = some l) (h : threadOk l = false) : p.all threadOk = false := by
 rw [List.all_eq_false]
 exact ⟨l, List.mem_of_getElem? he, by simp [h]⟩
theorem usesOf_take {l : List Do} {i : Nat} {d : Do} (he : l[i]? = some d) : usesOf (l.take (i + 1)) = usesOf (l.take i) + if d.uses then 1 else 0 := by
 rw [take_get he]
 simp only [usesOf, List.filter_append, List.length_append]
 cases h : d.uses <;> simp [h]
theorem implProgOk_fn (p : Prog) (hp : p.length < 2 ^ 40) (hl : ∀ l ∈ p, l.length < 2 ^ 40) : Fp Tryz.prog 32 [progV p] (.bool (progOk p)) := by
 refine Fc.start (S := []) Tryz.func32 Tryz.ntmps32 Tryz.results32 rfl (by decide) rfl (by kernel_rfl) ?_
 by_cases h3 : (3 : Int) < p.length
 ·simp (disch := omega) only [push_cast, go_sem, zA, simprocAttr, h3, progV_eq]
  simp [progOk]; omega
 simp (disch := omega) only [push_cast, go_sem, zA, simprocAttr, h3, progV_eq]
 intro g
 have hp3 : p.length ≤ 3 := by omega
 refine Sat.loop (σ := Nat) (fun i => upd (upd (upd (upd (upd noT 14 (.sl (p.map thrV))) 15 (.int .i64 p.length)) 16 (.int .i64 i)) 3 (.int .i64 (stepsP (p.take i)))) 4 (.int .i64 (usesP (p.take i)))) (fun _ => noM)
  (fun i => i ≤ p.length ∧ (p.take i).all threadOk = true) (fun i => p.length - i) 0 (by simp) ?_ ?_
 ·(refine zB ?_; repeat (first | exact zC | exact zD | refine zE (by decide) ?_ | refine zF ?_ ?_ | refine zG ?_ ?_)) <;> (try simp (disch := omega) only [push_cast, go_sem, zA, simprocAttr])
  all_goals simp [stepsP, usesP]
 rintro i ⟨hi, hg⟩ J hJ
 refine Sat.of (S := [1001]) (by kernel_rfl) ?_
 have hb := ok_le hg
 simp only [List.length_take] at hb
 rcases Nat.lt_or_ge i p.length with hlt | hge
 ·obtain ⟨l, he⟩ : ∃ l, p[i]? = some l := ⟨_, List.getElem?_eq_getElem hlt⟩
  have hln := hl l (List.mem_of_getElem? he)
  obtain ⟨t1, t2, t3⟩ := take_all he
  simp (disch := omega) only [push_cast, go_sem, zA, simprocAttr, he, hlt, progV_eq, thrV_eq]
  refine Sat.cutP (upd (upd (upd (upd (upd noT 14 (.sl (p.map thrV))) 15 (.int .i64 p.length)) 16 (.int .i64 i)) 3 (.int .i64 (stepsP (p.take (i + 1))))) 4 (.int .i64 (usesP (p.take (i + 1))))) noM (threadOk l = true) (Sat.of (S := []) (by kernel_rfl) ?_) ?_
  ·simp (disch := omega) only [push_cast, go_sem, zA, simprocAttr, he, hlt, progV_eq, thrV_eq]
   refine callR.pure (threadOk_fn l hln) rfl rfl ?_
   cases ht : threadOk l
   ·simp (disch := omega) only [push_cast, go_sem, zA, simprocAttr]
    simp [progOk, all_take he ht]
   have hl7 := threadOk_le ht
   simp (disch := omega) only [push_cast, go_sem, zA, simprocAttr]
   refine Sat.loop (σ := Nat) (fun k => upd (upd (upd (upd (upd (upd (upd (upd noT 14 (.sl (p.map thrV))) 15 (.int .i64 p.length)) 16 (.int .i64 i)) 3 (.int .i64 (stepsP (p.take (i + 1))))) 27 (.sl (l.map Do.V))) 28 (.int .i64 l.length)) 29 (.int .i64 k)) 4 (.int .i64 (usesP (p.take i) + usesOf (l.take k) : Nat))) (fun _ => noM)
    (fun k => k ≤ l.length) (fun k => l.length - k) 0 (by simp) ?_ ?_
   ·(refine zB ?_; repeat (first | exact zC | exact zD | refine zE (by decide) ?_ | refine zF ?_ ?_ | refine zG ?_ ?_)) <;> (try simp (disch := omega) only [push_cast, go_sem, zA, simprocAttr])
    all_goals simp [usesOf, t2]
   intro k hk J2 hJ2
   refine Sat.of (S := []) (by kernel_rfl) ?_
   rcases Nat.lt_or_ge k l.length with hkl | hkg
   ·obtain ⟨d, hd⟩ : ∃ d, l[k]? = some d := ⟨_, List.getElem?_eq_getElem hkl⟩
    have hu := usesOf_take hd
    have hv := usesOf_le (l.take k)
    simp only [List.length_take] at hv
    simp (disch := omega) only [push_cast, go_sem, zA, simprocAttr, hd, hkl, Do.V_eq]
    refine fun g2 => callR.pure (uses_fn d) rfl rfl ?_
    cases hdu : d.uses
    ·simp (disch := omega) only [push_cast, go_sem, zA, simprocAttr]
     refine hJ2 (k + 1) _ _ (by omega) (by omega) ?_
     (refine zB ?_; repeat (first | exact zC | exact zD | refine zE (by decide) ?_ | refine zF ?_ ?_ | refine zG ?_ ?_)) <;> (try simp (disch := omega) only [push_cast, go_sem, zA, simprocAttr])
     rw [hu, hdu]; rfl
    ·simp (disch := omega) only [push_cast, go_sem, zA, simprocAttr]
     refine hJ2 (k + 1) _ _ (by omega) (by omega) ?_
     (refine zB ?_; repeat (first | exact zC | exact zD | refine zE (by decide) ?_ | refine zF ?_ ?_ | refine zG ?_ ?_)) <;> (try simp (disch := omega) only [push_cast, go_sem, zA, simprocAttr])
     rw [hu, hdu]; simp; omega
   ·have : k = l.length := by omega
    subst this
    simp (disch := omega) only [push_cast, go_sem, zA, simprocAttr]
    (refine zB ?_; repeat (first | exact zC | exact zD | refine zE (by decide) ?_ | refine zF ?_ ?_ | refine zG ?_ ?_)) <;> (try simp (disch := omega) only [push_cast, go_sem, zA, simprocAttr])
    rw [t3]; simp
  intro ht
  refine Sat.of (S := []) (by kernel_rfl) ?_
  simp (disch := omega) only [push_cast, go_sem, zA, simprocAttr]
  refine hJ (i + 1) _ _ ⟨by omega, by rw [t1, hg, ht]; rfl⟩ (by omega) ?_
  (refine zB ?_; repeat (first | exact zC | exact zD | refine zE (by decide) ?_ | refine zF ?_ ?_ | refine zG ?_ ?_)) <;> (try simp (disch := omega) only [push_cast, go_sem, zA, simprocAttr])
 ·have : i = p.length := by omega
  subst this
  simp only [List.take_length] at hb hg
  simp (disch := omega) only [push_cast, go_sem, zA, simprocAttr]
  simp only [progOk, hg]
  refine ⟨fun h => ?_, fun h => ?_⟩
  ·have h' : stepsP p ≤ 14 := by omega
   simp [h', hp3]; omega
  ·have h' : ¬ stepsP p ≤ 14 := by omega
   simp [h']
def boxP (p : Prog) (g : Nat) : V := .own 25 (some g) 1 [.agg [.sl (p.map thrV)]]
theorem boxP_eq (p : Prog) (g : Nat) : boxP p g = .own 25 (some g) 1 [.agg [.sl (p.map thrV)]] := rfl
theorem specProgOk_fn (p : Prog) (hp : p.length < 2 ^ 40) : Fp Tryz.prog 16 [progV p] (.bool (progOk p)) := by
 refine Fc.start (S := []) Tryz.func16 Tryz.ntmps16 Tryz.results16 rfl (by decide) rfl (by kernel_rfl) ?_
 by_cases h3 : (3 : Int) < p.length
 ·simp (disch := omega) only [push_cast, go_sem, zA, simprocAttr, h3, progV_eq]
  simp [progOk]; omega
 simp (disch := omega) only [push_cast, go_sem, zA, simprocAttr, h3, progV_eq]
 intro g
 have hp3 : p.length ≤ 3 := by omega
 refine Sat.loop (σ := Nat) (fun i => upd (upd (upd (upd noT 1 (.ptr 1 [] 0 0 g 1)) 5 (.int .i64 i)) 3 (.int .i64 (stepsP (p.take i)))) 4 (.int .i64 (usesP (p.take i)))) (fun _ => noM.set 1 (boxP p g))
  (fun i => i ≤ p.length ∧ (p.take i).all threadOk = true) (fun i => p.length - i) 0 (by simp) ?_ ?_
 ·(refine zB ?_; repeat (first | exact zC | exact zD | refine zE (by decide) ?_ | refine zF ?_ ?_ | refine zG ?_ ?_)) <;> (try simp (disch := omega) only [push_cast, go_sem, zA, simprocAttr])
  all_goals simp [stepsP, usesP, boxP]
 rintro i ⟨hi, hg⟩ J hJ
 refine Sat.of (S := [1001]) (by kernel_rfl) ?_
 have hb := ok_le hg
 simp only [List.length_take] at hb
 rcases Nat.lt_or_ge i p.length with hlt | hge
 ·obtain ⟨l, he⟩ : ∃ l, p[i]? = some l := ⟨_, List.getElem?_eq_getElem hlt⟩
  obtain ⟨t1, t2, t3⟩ := take_all he
  simp (disch := omega) only [push_cast, go_sem, zA, simprocAttr, he, hlt, boxP_eq, thrV_eq]
  refine Sat.cutP (upd (upd (upd (upd noT 1 (.ptr 1 [] 0 0 g 1)) 5 (.int .i64 i)) 3 (.int .i64 (stepsP (p.take (i + 1))))) 4 (.int .i64 (usesP (p.take (i + 1))))) (noM.set 1 (boxP p g)) (threadOk l = true) (Sat.of (S := []) (by kernel_rfl) ?_) ?_
  ·simp (disch := omega) only [push_cast, go_sem, zA, simprocAttr, he, hlt, boxP_eq, thrV_eq]
   refine callR.pure (l1Thread_fn l) rfl rfl ?_
   cases ht : threadOk l
   ·simp (disch := omega) only [push_cast, go_sem, zA, simprocAttr]
    simp [progOk, all_take he ht]
   have hl7 := threadOk_le ht
   simp (disch := omega) only [push_cast, go_sem, zA, simprocAttr, he, hlt, boxP_eq, thrV_eq]
   refine Sat.loop (σ := Nat) (fun k => upd (upd (upd (upd (upd noT 1 (.ptr 1 [] 0 0 g 1)) 5 (.int .i64 i)) 3 (.int .i64 (stepsP (p.take (i + 1))))) 6 (.int .i64 k)) 4 (.int .i64 (usesP (p.take i) + usesOf (l.take k) : Nat))) (fun _ => noM.set 1 (boxP p g))
    (fun k => k ≤ l.length) (fun k => l.length - k) 0 (by simp) ?_ ?_
   ·(refine zB ?_; repeat (first | exact zC | exact zD | refine zE (by decide) ?_ | refine zF ?_ ?_ | refine zG ?_ ?_)) <;> (try simp (disch := omega) only [push_cast, go_sem, zA, simprocAttr])
    all_goals simp [usesOf, t2, boxP]
   intro k hk J2 hJ2
   refine Sat.of (S := []) (by kernel_rfl) ?_
   rcases Nat.lt_or_ge k l.length with hkl | hkg
   ·obtain ⟨d, hd⟩ : ∃ d, l[k]? = some d := ⟨_, List.getElem?_eq_getElem hkl⟩
    have hu := usesOf_take hd
    have hv := usesOf_le (l.take k)
    simp only [List.length_take] at hv
    simp (disch := omega) only [push_cast, go_sem, zA, simprocAttr, he, hlt, hd, hkl, Do.V_eq, boxP_eq, thrV_eq]
    refine callR.pure (l1Reads_fn d) rfl rfl ?_
    cases hr : d.reads
    ·simp (disch := omega) only [push_cast, go_sem, zA, simprocAttr, he, hlt, hd, hkl, Do.V_eq, boxP_eq, thrV_eq]
     refine callR.pure (l1Writes_fn d) rfl rfl ?_
     cases hw : d.writes
     ·simp (disch := omega) only [push_cast, go_sem, zA, simprocAttr]
      refine hJ2 (k + 1) _ _ (by omega) (by omega) ?_
      (refine zB ?_; repeat (first | exact zC | exact zD | refine zE (by decide) ?_ | refine zF ?_ ?_ | refine zG ?_ ?_)) <;> (try simp (disch := omega) only [push_cast, go_sem, zA, simprocAttr])
      ·rfl
      ·rw [hu]; simp [Do.uses, hr, hw]
     ·simp (disch := omega) only [push_cast, go_sem, zA, simprocAttr]
      refine hJ2 (k + 1) _ _ (by omega) (by omega) ?_
      (refine zB ?_; repeat (first | exact zC | exact zD | refine zE (by decide) ?_ | refine zF ?_ ?_ | refine zG ?_ ?_)) <;> (try simp (disch := omega) only [push_cast, go_sem, zA, simprocAttr])
      ·rfl
      ·rw [hu]; simp [Do.uses, hr, hw]; omega
    ·simp (disch := omega) only [push_cast, go_sem, zA, simprocAttr]
     refine hJ2 (k + 1) _ _ (by omega) (by omega) ?_
     (refine zB ?_; repeat (first | exact zC | exact zD | refine zE (by decide) ?_ | refine zF ?_ ?_ | refine zG ?_ ?_)) <;> (try simp (disch := omega) only [push_cast, go_sem, zA, simprocAttr])
     ·rfl
     ·rw [hu]; simp [Do.uses, hr]; omega
   ·have : k = l.length := by omega
    subst this
    simp (disch := omega) only [push_cast, go_sem, zA, simprocAttr, he, hlt, boxP_eq, thrV_eq]
    (refine zB ?_; repeat (first | exact zC | exact zD | refine zE (by decide) ?_ | refine zF ?_ ?_ | refine zG ?_ ?_)) <;> (try simp (disch := omega) only [push_cast, go_sem, zA, simprocAttr])
    rw [t3]; simp
  intro ht
  refine Sat.of (S := []) (by kernel_rfl) ?_
  simp (disch := omega) only [push_cast, go_sem, zA, simprocAttr]
  refine hJ (i + 1) _ _ ⟨by omega, by rw [t1, hg, ht]; rfl⟩ (by omega) ?_
  (refine zB ?_; repeat (first | exact zC | exact zD | refine zE (by decide) ?_ | refine zF ?_ ?_ | refine zG ?_ ?_)) <;> (try simp (disch := omega) only [push_cast, go_sem, zA, simprocAttr])
 ·have : i = p.length := by omega
  subst this
  simp only [List.take_length] at hb hg
  simp (disch := omega) only [push_cast, go_sem, zA, simprocAttr, boxP_eq]
  simp only [progOk, hg]
  refine ⟨fun h => ?_, fun h => ?_⟩
  ·have h' : stepsP p ≤ 14 := by omega
   simp [h', hp3]; omega
  ·have h' : ¬ stepsP p ≤ 14 := by omega
   simp [h']
end
section
open Go.RowKit
structure Evt where
 t : Int
 s : Int
 l : Bool
deriving DecidableEq, Inhabited
def Evt.V (e : Evt) : V := .agg [.int .i64 e.t, .int .i64 e.s, .bool e.l]
theorem Evt.V_eq (e : Evt) : e.V = .agg [.int .i64 e.t, .int .i64 e.s, .bool e.l] := rfl
theorem fz_Evt (e : Evt) : e.V.fz = e.V := by simp [Evt.V, V.fz, V.fz.fzs]
@[push_cast] theorem fzs_Evt (l : List Evt) : (l.map Evt.V).map V.fz = l.map Evt.V := by rw [List.map_map]; exact List.map_congr_left fun d _ => fz_Evt d
@[push_cast] theorem flatL_Evt (l : List Evt) : flatL (l.map Evt.V) = true := by simp [flatL, Evt.V, V.cells, V.flatC]
def evsOf (t k : Nat) (d : Do) : List Evt := if d.k == 9 then [⟨t, k, false⟩, ⟨t, k, true⟩] else [⟨t, k, false⟩]
def evThr (t : Nat) (l : List Do) : Nat → List Evt
 | 0 => []
 | k + 1 => evThr t l k ++ (match l[k]? with | some d => evsOf t k d | none => [])
def evPro (p : Prog) : Nat → List Evt
 | 0 => []
 | i + 1 => evPro p i ++ (match p[i]? with | some l => evThr i l l.length | none => [])
def events (p : Prog) : List Evt := evPro p p.length
theorem evThr_le (t : Nat) (l : List Do) (k : Nat) : (evThr t l k).length ≤ 2 * k := by
 induction k with
 | zero => simp [evThr]
 | succ k ih =>
  simp only [evThr, List.length_append]
  have : (match l[k]? with | some d => evsOf t k d | none => []).length ≤ 2 := by
   split
   ·unfold evsOf; split <;> simp
   ·simp
  omega
theorem evPro_le (p : Prog) (h : ∀ l ∈ p, l.length ≤ 7) (i : Nat) : (evPro p i).length ≤ 14 * i := by
 induction i with
 | zero => simp [evPro]
 | succ i ih =>
  simp only [evPro, List.length_append]
  have : (match p[i]? with | some l => evThr i l l.length | none => []).length ≤ 14 := by
   split
   ·rename_i l hl
    have := h l (List.mem_of_getElem? hl)
    have := evThr_le i l l.length
    omega
   ·simp
  omega
structure Rw where
 e : TypeId
 γ : Option Nat
 c : Nat
structure EvS where
 k : Nat
 e : TypeId
 γ : Option Nat
 c : Nat
theorem implExecEvents_fn (p : Prog) (hp : p.length < 2 ^ 40) (hl : ∀ l ∈ p, l.length < 2 ^ 40) : Fp Tryz.prog 63 [progV p] (.sl ((if progOk p then events p else []).map Evt.V)) := by
 cases hok : progOk p
 ·refine Fc.nilrow (R' := fun r _ => r = .msl 2 [] none 0 0) ?_ (fun r m hr => ⟨2, [], hr, rfl, rfl⟩)
  refine Fc.start (S := []) Tryz.func63 Tryz.ntmps63 Tryz.results63 rfl (by decide) rfl (by kernel_rfl) ?_
  simp (disch := omega) only [push_cast, go_sem, zA, simprocAttr, progV_eq]
  intro g
  refine callR.pure (implProgOk_fn p hp hl) rfl rfl ?_
  simp (disch := omega) only [push_cast, go_sem, zA, simprocAttr, hok]
  exact ⟨noM, Sub.no⟩
 have hok' := hok
 simp only [progOk, Bool.and_eq_true, decide_eq_true_eq, List.all_eq_true] at hok'
 obtain ⟨⟨⟨hp3, hth⟩, _⟩, _⟩ := hok'
 have h7 : ∀ l ∈ p, l.length ≤ 7 := fun l h => threadOk_le (hth l h)
 refine Fc.start (S := [15]) Tryz.func63 Tryz.ntmps63 Tryz.results63 rfl (by decide) rfl (by kernel_rfl) ?_
 simp (disch := omega) only [push_cast, go_sem, zA, simprocAttr, progV_eq]
 intro g
 refine callR.pure (implProgOk_fn p hp hl) rfl rfl ?_
 simp (disch := omega) only [push_cast, go_sem, zA, simprocAttr, hok]
 refine Sat.loop (σ := EvS) (fun x => upd (upd (upd (upd noT 12 (.sl (p.map thrV))) 13 (.int .i64 p.length)) 14 (.int .i64 x.k)) 3 (.msl 3 [] x.γ (evPro p x.k).length x.c))
  (fun x => noM.set 3 (.own x.e x.γ x.c ((evPro p x.k).map Evt.V)))
  (fun x => x.k ≤ p.length ∧ (x.γ = none ∨ x.e = 93)) (fun x => p.length - x.k) ⟨0, 0, none, 0⟩ (by simp) ?_ ?_
 ·(refine zB ?_; repeat (first | exact zC | exact zD | refine zE (by decide) ?_ | refine zF ?_ ?_ | refine zG ?_ ?_)) <;> (try simp (disch := omega) only [push_cast, go_sem, zA, simprocAttr])
  all_goals rfl
 rintro ⟨i, e, γ, c⟩ ⟨hi, hγ⟩ J hJ
 refine Sat.of (S := [1001]) (by kernel_rfl) ?_
 simp only at hi hγ hJ
 have hb := evPro_le p h7 i
 rcases Nat.lt_or_ge i p.length with hlt | hge
 ·obtain ⟨l, he⟩ : ∃ l, p[i]? = some l := ⟨_, List.getElem?_eq_getElem hlt⟩
  have hl7 := h7 l (List.mem_of_getElem? he)
  simp (disch := omega) only [push_cast, go_sem, zA, simprocAttr, he, hlt, thrV_eq]
  have T2 : ∀ k, k ≤ l.length → (evPro p i ++ evThr i l k).length ≤ 60 := by
   intro k hk
   have := evThr_le i l k
   rw [List.length_append]; omega
  refine Sat.cut (σ := Rw) [] (fun x => upd (upd (upd (upd noT 12 (.sl (p.map thrV))) 13 (.int .i64 p.length)) 14 (.int .i64 i)) 3 (.msl 3 [] x.γ (evPro p (i + 1)).length x.c))
   (fun x => noM.set 3 (.own x.e x.γ x.c ((evPro p (i + 1)).map Evt.V))) (fun x => x.γ = none ∨ x.e = 93) (by kernel_rfl) ?_ ?_
  ·simp (disch := omega) only [push_cast, go_sem, zA, simprocAttr, he, hlt, thrV_eq]
   refine Sat.loop (σ := EvS) (fun x => upd (upd (upd (upd (upd (upd (upd (upd noT 12 (.sl (p.map thrV))) 13 (.int .i64 p.length)) 14 (.int .i64 i)) 4 (.int .i64 i)) 19 (.sl (l.map Do.V))) 20 (.int .i64 l.length)) 21 (.int .i64 x.k)) 3 (.msl 3 [] x.γ (evPro p i ++ evThr i l x.k).length x.c))
    (fun x => noM.set 3 (.own x.e x.γ x.c ((evPro p i ++ evThr i l x.k).map Evt.V)))
    (fun x => x.k ≤ l.length ∧ (x.γ = none ∨ x.e = 93)) (fun x => l.length - x.k) ⟨0, e, γ, c⟩ (by simp [hγ]) ?_ ?_
   ·(refine zB ?_; repeat (first | exact zC | exact zD | refine zE (by decide) ?_ | refine zF ?_ ?_ | refine zG ?_ ?_)) <;> (try simp (disch := omega) only [push_cast, go_sem, zA, simprocAttr])
    all_goals simp [evThr]
   rintro ⟨k, e2, γ2, c2⟩ ⟨hk, hγ2⟩ J2 hJ2
   refine Sat.of (S := []) (by kernel_rfl) ?_
   simp only at hk hγ2 hJ2
   have hb2 := T2 k hk
   rcases Nat.lt_or_ge k l.length with hkl | hkg
   ·obtain ⟨d, hd⟩ : ∃ d, l[k]? = some d := ⟨_, List.getElem?_eq_getElem hkl⟩
    have hγ2' : (γ2 = none ∨ e2 = 93) = True := by simp only [hγ2]
    simp (disch := omega) only [push_cast, go_sem, zA, simprocAttr, hd, hkl, Do.V_eq, hγ2']
    rw [List.length_append] at hb2
    have hn : k + 1 ≤ l.length := by omega
    have hm : l.length - (k + 1) < l.length - k := by omega
    intro g3 g4
    refine ⟨by omega, fun γ3 c3 _ => ⟨fun h9 g5 => ⟨by omega, fun γ4 c4 _ => ?_⟩, fun h9 => ?_⟩⟩
    ·refine hJ2 ⟨k + 1, 93, γ4, c4⟩ _ _ ⟨hn, .inr rfl⟩ hm ?_
     (refine zB ?_; repeat (first | exact zC | exact zD | refine zE (by decide) ?_ | refine zF ?_ ?_ | refine zG ?_ ?_)) <;> (try simp (disch := omega) only [push_cast, go_sem, zA, simprocAttr])
     all_goals simp [evThr, hd, evsOf, h9, Evt.V, Nat.add_assoc]
    ·refine hJ2 ⟨k + 1, 93, γ3, c3⟩ _ _ ⟨hn, .inr rfl⟩ hm ?_
     (refine zB ?_; repeat (first | exact zC | exact zD | refine zE (by decide) ?_ | refine zF ?_ ?_ | refine zG ?_ ?_)) <;> (try simp (disch := omega) only [push_cast, go_sem, zA, simprocAttr])
     all_goals simp [evThr, hd, evsOf, h9, Evt.V, Nat.add_assoc]
   ·have : k = l.length := by omega
    subst this
    simp (disch := omega) only [push_cast, go_sem, zA, simprocAttr]
    refine ⟨⟨e2, γ2, c2⟩, hγ2, ?_⟩
    (refine zB ?_; repeat (first | exact zC | exact zD | refine zE (by decide) ?_ | refine zF ?_ ?_ | refine zG ?_ ?_)) <;> (try simp (disch := omega) only [push_cast, go_sem, zA, simprocAttr])
    all_goals simp [evPro, he, Nat.add_assoc]
  rintro ⟨e2, γ2, c2⟩ hγ2
  refine Sat.of (S := []) (by kernel_rfl) ?_
  simp only at hγ2
  simp (disch := omega) only [push_cast, go_sem, zA, simprocAttr]
  refine hJ ⟨i + 1, e2, γ2, c2⟩ _ _ ⟨by simp only; omega, hγ2⟩ (by simp only; omega) ?_
  (refine zB ?_; repeat (first | exact zC | exact zD | refine zE (by decide) ?_ | refine zF ?_ ?_ | refine zG ?_ ?_)) <;> (try simp (disch := omega) only [push_cast, go_sem, zA, simprocAttr])
 ·have : i = p.length := by omega
  subst this
  simp (disch := omega) only [push_cast, go_sem, zA, simprocAttr]
  refine Sat.freezeT (upd noT 3 (.sl ((evPro p p.length).map Evt.V))) noM 3 (e := e) (γ := γ) (cap := c) (es := (evPro p p.length).map Evt.V) rfl ?_ ?_
  ·(refine zB ?_; repeat (first | exact zC | exact zD | refine zE (by decide) ?_ | refine zF ?_ ?_ | refine zG ?_ ?_)) <;> (try simp (disch := omega) only [push_cast, go_sem, zA, simprocAttr])
  refine Sat.of (S := []) (by kernel_rfl) ?_
  simp (disch := omega) only [push_cast, go_sem, zA, simprocAttr]
  rfl
end
section
open Go.RowKit
structure Sc where
 p : Prog
 es : List Evt
 ds : List Do
def Sc.V (s : Sc) : V := .agg [.sl (s.p.map thrV), .sl (s.es.map Evt.V), .sl (s.ds.map Do.V)]
theorem Sc.V_eq (s : Sc) : s.V = .agg [.sl (s.p.map thrV), .sl (s.es.map Evt.V), .sl (s.ds.map Do.V)] := rfl
def stepAt (p : Prog) (e : Evt) : Do := ((p[e.t.toNat]?.getD [])[e.s.toNat]?).getD default
def scene (p : Prog) : Sc := ⟨p, events p, (events p).map (stepAt p)⟩
theorem mem_evThr {t : Nat} {l : List Do} {e : Evt} : ∀ {k : Nat}, e ∈ evThr t l k → ∃ j d, j < k ∧ l[j]? = some d ∧ e.t = t ∧ e.s = j ∧ (e.l = true → d.k = 9)
 | 0, h => by simp [evThr] at h
 | k + 1, h => by
  simp only [evThr, List.mem_append] at h
  rcases h with h | h
  ·obtain ⟨j, d, h1, h2⟩ := mem_evThr h
   exact ⟨j, d, by omega, h2⟩
  ·split at h
   ·rename_i d hd
    unfold evsOf at h
    split at h
    ·rename_i h9
     have h9' : d.k = 9 := by simpa using h9
     simp at h
     rcases h with rfl | rfl <;> exact ⟨k, d, by omega, hd, rfl, rfl, fun _ => h9'⟩
    ·simp at h
     subst h
     exact ⟨k, d, by omega, hd, rfl, rfl, fun h => by cases h⟩
   ·cases h
theorem mem_evPro {p : Prog} {e : Evt} : ∀ {i : Nat}, e ∈ evPro p i → ∃ j l, j < i ∧ p[j]? = some l ∧ e ∈ evThr j l l.length
 | 0, h => by simp [evPro] at h
 | i + 1, h => by
  simp only [evPro, List.mem_append] at h
  rcases h with h | h
  ·obtain ⟨j, l, h1, h2⟩ := mem_evPro h
   exact ⟨j, l, by omega, h2⟩
  ·split at h
   ·rename_i l hl
    exact ⟨i, l, by omega, hl, h⟩
   ·cases h
theorem mem_events {p : Prog} {e : Evt} (h : e ∈ events p) : ∃ i l k d, p[i]? = some l ∧ l[k]? = some d ∧ e.t = (i : Nat) ∧ e.s = (k : Nat) ∧ stepAt p e = d ∧ (e.l = true → d.k = 9) := by
 obtain ⟨i, l, _, hl, h1⟩ := mem_evPro h
 obtain ⟨k, d, _, hd, h2, h3, h4⟩ := mem_evThr h1
 exact ⟨i, l, k, d, hl, hd, h2, h3, by simp [stepAt, h2, h3, hl, hd], h4⟩
theorem events_le {p : Prog} (h : progOk p = true) : (events p).length ≤ 42 := by
 simp only [progOk, Bool.and_eq_true, decide_eq_true_eq, List.all_eq_true] at h
 have := evPro_le p (fun l hl => threadOk_le (h.1.1.2 l hl)) p.length
 unfold events; omega
theorem sceneOf_fn (p : Prog) (hok : progOk p = true) : Fp Tryz.prog 34 [progV p] (scene p).V := by
 have hok' := hok
 simp only [progOk, Bool.and_eq_true, decide_eq_true_eq, List.all_eq_true] at hok'
 obtain ⟨⟨⟨hp3, hth⟩, _⟩, _⟩ := hok'
 have h7 : ∀ l ∈ p, l.length ≤ 7 := fun l h => threadOk_le (hth l h)
 have hev := implExecEvents_fn p (by omega) (fun l h => by have := h7 l h; omega)
 rw [hok, if_pos rfl] at hev
 have hel := events_le hok
 refine Fc.start (S := [7]) Tryz.func34 Tryz.ntmps34 Tryz.results34 rfl (by decide) rfl (by kernel_rfl) ?_
 simp (disch := omega) only [push_cast, go_sem, zA, simprocAttr, progV_eq]
 intro g1 g2
 refine Sat.drawnE [(0, 4), (1, 4), (2, 4)] [] [0, 1, 2] (fun f _ _ => if f = 63 then some fun r m => r = .sl ((events p).map Evt.V) ∧ m = noM else none) (by kernel_rfl) (by kernel_rfl) ?_
 simp (disch := omega) only [push_cast, go_sem, zA, simprocAttr]
 refine runD_pure rfl hev rfl rfl ?_ ?_
 ·rfl
 simp (disch := omega) only [push_cast, go_sem, zA, simprocAttr]
 intro g3
 refine Sat.loop (σ := EvS) (fun x => upd (upd (upd (upd (upd (upd noT 1 (.ptr 1 [] 0 0 g1 1)) 2 (.ptr 2 [] 0 0 g2 3)) 3 (.ptr 3 [] 0 0 g3 3)) 11 (.sl ((events p).map Evt.V))) 12 (.int .i64 (events p).length)) 13 (.int .i64 x.k))
  (fun x => ((noM.set 1 (boxP p g1)).set 2 (.own 55 (some g2) 1 [.agg [.own 0 none 0 [], .own 0 none 0 [], .own 0 none 0 []]])).set 3 (.own 55 (some g3) 1 [.agg [.sl (p.map thrV), .sl ((events p).map Evt.V), .own x.e x.γ x.c ((((events p).take x.k).map (stepAt p)).map Do.V)]]))
  (fun x => x.k ≤ (events p).length ∧ (x.γ = none ∨ x.e = 40)) (fun x => (events p).length - x.k) ⟨0, 0, none, 0⟩ (by simp) ?_ ?_
 ·(refine zB ?_; repeat (first | exact zC | exact zD | refine zE (by decide) ?_ | refine zF ?_ ?_ | refine zG ?_ ?_)) <;> (try simp (disch := omega) only [push_cast, go_sem, zA, simprocAttr])
  all_goals rfl
 rintro ⟨k, e, γ, c⟩ ⟨hk, hγ⟩ J hJ
 refine Sat.of (S := []) (by kernel_rfl) ?_
 simp only at hk hγ hJ
 rcases Nat.lt_or_ge k (events p).length with hlt | hge
 ·obtain ⟨ev, he⟩ : ∃ d, (events p)[k]? = some d := ⟨_, List.getElem?_eq_getElem hlt⟩
  obtain ⟨i, l, j, d, hl, hd, h1, h2, h3, _⟩ := mem_events (List.mem_of_getElem? he)
  have hil := (List.getElem?_eq_some_iff.1 hl).1
  have hjl := (List.getElem?_eq_some_iff.1 hd).1
  simp (disch := omega) only [push_cast, go_sem, zA, simprocAttr, he, hlt, Evt.V_eq, boxP_eq]
  intro g4
  have hγ' : (γ = none ∨ e = 40) = True := by simp only [hγ]
  refine Sat.drawnE [(1, 12)] [] [1, 3, 5, 7, 9, 11] (fun _ _ _ => none) (by kernel_rfl) (by kernel_rfl) ?_
  simp (disch := omega) only [push_cast, go_sem, zA, simprocAttr, h1, h2, hl, hd, hil, hjl, thrV_eq, Do.V_eq, hγ']
  have hn : k + 1 ≤ (events p).length := by omega
  have hm : (events p).length - (k + 1) < (events p).length - k := by omega
  intro g5
  refine ⟨?_, fun γ2 c2 _ => ?_⟩
  ·have : ((events p).take k).length ≤ 42 := by rw [List.length_take]; omega
   omega
  refine hJ ⟨k + 1, 40, γ2, c2⟩ _ _ ⟨hn, .inr rfl⟩ hm ?_
  (refine zB ?_; repeat (first | exact zC | exact zD | refine zE (by decide) ?_ | refine zF ?_ ?_ | refine zG ?_ ?_)) <;> (try simp (disch := omega) only [push_cast, go_sem, zA, simprocAttr])
  ·rfl
  ·rw [take_get he, List.map_append, List.map_append]
   simp [h3, Do.V]
 ·have : k = (events p).length := by omega
  subst this
  simp (disch := omega) only [push_cast, go_sem, zA, simprocAttr]
  refine Sat.freezeC 3 [] 0 2 (n0 := .own 55 (some g3) 1 [.agg [.sl (p.map thrV), .sl ((events p).map Evt.V), .own e γ c (((events p).map (stepAt p)).map Do.V)]]) (d := .own e γ c (((events p).map (stepAt p)).map Do.V)) rfl rfl rfl ?_
  have hfz : (V.own e γ c (((events p).map (stepAt p)).map Do.V)).fz = .sl ((scene p).ds.map Do.V) := by
   simp only [V.fz, fzs_map, fzs_Do, scene]
  rw [hfz]
  refine Sat.of (S := []) (by kernel_rfl) ?_
  simp (disch := omega) only [push_cast, go_sem, zA, simprocAttr]
  rfl
end
section
open Go.RowKit
def intsV (l : List Int) : V := .sl (l.map (V.int .i64))
theorem intsV_eq (l : List Int) : intsV l = .sl (l.map (V.int .i64)) := rfl
@[push_cast] theorem fzs_int (l : List Int) : (l.map (V.int .i64)).map V.fz = l.map (V.int .i64) := by rw [List.map_map]; exact List.map_congr_left fun d _ => rfl
@[push_cast] theorem flatL_int (l : List Int) : flatL (l.map (V.int .i64)) = true := by simp [flatL, V.cells, V.flatC]
@[push_cast] theorem okY_int (l : List Int) : okY Tryz.prog 3 (l.map (V.int .i64)) = True := by
 simp only [okY, List.mem_map, eq_iff_iff, iff_true]
 rintro y ⟨d, _, rfl⟩
 exact ⟨by rw [szT_3]; rfl, by simp [V.cells, V.one]⟩
def wrs (ds : List Do) (pl : Int) : Nat → List Int
 | 0 => []
 | k + 1 => wrs ds pl k ++ (match ds[k]? with | some d => if d.writes && d.p == pl then [(k : Int)] else [] | none => [])
def writersOf (ds : List Do) (pl : Int) : List Int := wrs ds pl ds.length
theorem wrs_le (ds : List Do) (pl : Int) (k : Nat) : (wrs ds pl k).length ≤ k := by
 induction k with
 | zero => simp [wrs]
 | succ k ih =>
  simp only [wrs, List.length_append]
  split
  ·split <;> simp <;> omega
  ·simp; omega
theorem writers_fn (s : Sc) (pl : Int) (hs : s.ds.length < 2 ^ 20) : Fp Tryz.prog 113 [s.V, .int .i64 pl] (intsV (writersOf s.ds pl)) := by
 refine Fc.start (S := [8]) Tryz.func113 Tryz.ntmps113 Tryz.results113 rfl (by decide) rfl (by kernel_rfl) ?_
 simp (disch := omega) only [push_cast, go_sem, zA, simprocAttr, Sc.V_eq]
 intro g1
 refine Sat.loop (σ := EvS) (fun x => upd (upd (upd (upd (upd noT 1 (.int .i64 pl)) 9 (.sl (s.ds.map Do.V))) 10 (.int .i64 s.ds.length)) 11 (.int .i64 x.k)) 5 (.msl 5 [] x.γ (wrs s.ds pl x.k).length x.c))
  (fun x => noM.set 5 (.own x.e x.γ x.c ((wrs s.ds pl x.k).map (V.int .i64))))
  (fun x => x.k ≤ s.ds.length ∧ (x.γ = none ∨ x.e = 3)) (fun x => s.ds.length - x.k) ⟨0, 0, none, 0⟩ (by simp) ?_ ?_
 ·(refine zB ?_; repeat (first | exact zC | exact zD | refine zE (by decide) ?_ | refine zF ?_ ?_ | refine zG ?_ ?_)) <;> (try simp (disch := omega) only [push_cast, go_sem, zA, simprocAttr])
  all_goals rfl
 rintro ⟨k, e, γ, c⟩ ⟨hk, hγ⟩ J hJ
 refine Sat.of (S := []) (by kernel_rfl) ?_
 simp only at hk hγ hJ
 have hb := wrs_le s.ds pl k
 rcases Nat.lt_or_ge k s.ds.length with hlt | hge
 ·obtain ⟨d, hd⟩ : ∃ d, s.ds[k]? = some d := ⟨_, List.getElem?_eq_getElem hlt⟩
  have hγ' : (γ = none ∨ e = 3) = True := by simp only [hγ]
  have hn : k + 1 ≤ s.ds.length := by omega
  have hm : s.ds.length - (k + 1) < s.ds.length - k := by omega
  have same : (d.writes && d.p == pl) = false → wrs s.ds pl (k + 1) = wrs s.ds pl k := fun h => by simp only [wrs, hd, h]; simp
  simp (disch := omega) only [push_cast, go_sem, zA, simprocAttr, hd, hlt, Do.V_eq, hγ']
  intro g2
  refine callR.pure (writes_fn d) rfl rfl ?_
  cases hw : d.writes
  ·simp (disch := omega) only [push_cast, go_sem, zA, simprocAttr]
   refine hJ ⟨k + 1, e, γ, c⟩ _ _ ⟨hn, hγ⟩ hm ?_
   (refine zB ?_; repeat (first | exact zC | exact zD | refine zE (by decide) ?_ | refine zF ?_ ?_ | refine zG ?_ ?_)) <;> (try simp (disch := omega) only [push_cast, go_sem, zA, simprocAttr])
   all_goals rw [same (by rw [hw]; rfl)]
  ·cases hp : (d.p == pl)
   ·simp (disch := omega) only [push_cast, go_sem, zA, simprocAttr, hp]
    refine hJ ⟨k + 1, e, γ, c⟩ _ _ ⟨hn, hγ⟩ hm ?_
    (refine zB ?_; repeat (first | exact zC | exact zD | refine zE (by decide) ?_ | refine zF ?_ ?_ | refine zG ?_ ?_)) <;> (try simp (disch := omega) only [push_cast, go_sem, zA, simprocAttr])
    all_goals rw [same (by rw [hw, hp]; rfl)]
   ·simp (disch := omega) only [push_cast, go_sem, zA, simprocAttr, hp, hγ']
    intro g3
    refine ⟨by omega, fun γ2 c2 _ => ?_⟩
    refine hJ ⟨k + 1, 3, γ2, c2⟩ _ _ ⟨hn, .inr rfl⟩ hm ?_
    (refine zB ?_; repeat (first | exact zC | exact zD | refine zE (by decide) ?_ | refine zF ?_ ?_ | refine zG ?_ ?_)) <;> (try simp (disch := omega) only [push_cast, go_sem, zA, simprocAttr])
    all_goals simp [wrs, hd, hw, hp]
 ·have : k = s.ds.length := by omega
  subst this
  simp (disch := omega) only [push_cast, go_sem, zA, simprocAttr]
  refine Sat.freezeT (upd noT 5 (intsV (writersOf s.ds pl))) noM 5 (e := e) (γ := γ) (cap := c) (es := (wrs s.ds pl s.ds.length).map (V.int .i64)) rfl ?_ ?_
  ·(refine zB ?_; repeat (first | exact zC | exact zD | refine zE (by decide) ?_ | refine zF ?_ ?_ | refine zG ?_ ?_)) <;> (try simp (disch := omega) only [push_cast, go_sem, zA, simprocAttr])
   rfl
  refine Sat.of (S := []) (by kernel_rfl) ?_
  simp (disch := omega) only [push_cast, go_sem, zA, simprocAttr, intsV_eq]
theorem lastRead_fn (s : Sc) (a r : Nat) (hs : s.ds.length < 2 ^ 20) (ha : a ≤ s.ds.length) (hr : r < a) (hrd : ∃ d, s.ds[r]? = some d ∧ d.reads = true) (hno : ∀ j d, r < j → j < a → s.ds[j]? = some d → d.reads = false) :
  Fp Tryz.prog 122 [s.V, .int .i64 a] (.int .i64 r) := by
 obtain ⟨dr, hdr, hdr1⟩ := hrd
 refine Fc.start (S := []) Tryz.func122 Tryz.ntmps122 Tryz.results122 rfl (by decide) rfl (by kernel_rfl) ?_
 simp (disch := omega) only [push_cast, go_sem, zA, simprocAttr, Sc.V_eq]
 intro g1
 refine Sat.loop (σ := Nat) (fun k => upd (upd noT 2 (.ptr 2 [] 0 0 g1 3)) 1 (.int .i64 k)) (fun _ => noM.set 2 (.own 55 (some g1) 1 [.agg [.sl (s.p.map thrV), .sl (s.es.map Evt.V), .sl (s.ds.map Do.V)]]))
  (fun k => r ≤ k ∧ k < a) (fun k => k - r) (a - 1) (by omega) ?_ ?_
 ·(refine zB ?_; repeat (first | exact zC | exact zD | refine zE (by decide) ?_ | refine zF ?_ ?_ | refine zG ?_ ?_)) <;> (try simp (disch := omega) only [push_cast, go_sem, zA, simprocAttr])
 rintro k ⟨h1, h2⟩ J hJ
 refine Sat.of (S := []) (by kernel_rfl) ?_
 obtain ⟨d, hd⟩ : ∃ d, s.ds[k]? = some d := ⟨_, List.getElem?_eq_getElem (by omega)⟩
 have hlt : k < s.ds.length := by omega
 simp (disch := omega) only [push_cast, go_sem, zA, simprocAttr, hd, hlt, Do.V_eq]
 refine callR.pure (reads_fn d) rfl rfl ?_
 rcases Nat.lt_or_ge r k with hrk | hrk
 ·have := hno k d hrk h2 hd
  simp (disch := omega) only [push_cast, go_sem, zA, simprocAttr, this]
  have hk1 : ((k : Int) - 1) = ((k - 1 : Nat) : Int) := by omega
  refine hJ (k - 1) _ _ (by omega) (by omega) ?_
  (refine zB ?_; repeat (first | exact zC | exact zD | refine zE (by decide) ?_ | refine zF ?_ ?_ | refine zG ?_ ?_)) <;> (try simp (disch := omega) only [push_cast, go_sem, zA, simprocAttr])
 ·have : k = r := by omega
  subst this
  rw [hdr] at hd; cases hd
  simp (disch := omega) only [push_cast, go_sem, zA, simprocAttr, hdr1]
end
section
open Go.RowKit Go.Sort
section
variable {P : Program} {imm : Nat → Prop} {w w' : World} {sz : TypeId → Nat} {k : IntKind}
theorem inv_no {sz : TypeId → Nat} {imm : Nat → Prop} {w : World} : Inv sz imm w noM :=
 ⟨fun o q v h => (by simp [Mem.getP, noM] at h), fun o v h => (by cases h), fun o q o' q' g e cap es e' cap' es' h => (by simp [Mem.getP, noM] at h)⟩
theorem not_owns_no {g : Nat} : ¬ noM.owns g := by
 rintro ⟨o, q, e, cap, es, h⟩
 simp [Mem.getP, noM] at h
theorem Rp.ints_inv {zs : List Int} {v : Value} (h : Rp imm w (.sl (zs.map (V.int k))) v) : ∃ A c, v = .slice A zs.length c ∧
  (zs ≠ [] → ∃ g off, A = some ⟨g, off, none⟩ ∧ imm g ∧ zs.length ≤ c ∧ ∀ j, j < zs.length → w.cell? ⟨g, off + j, none⟩ = some (.int k (zs.getD j 0))) := by
 generalize he : zs.map (V.int k) = es at h
 cases h with
 | sl0 A c =>
  have : zs = [] := by simpa using he
  subst this
  exact ⟨A, c, rfl, fun h => absurd rfl h⟩
 | sl _ g off cap n cur t fr f hi hg hk hl hc hv =>
  have hlen : es.length = zs.length := by rw [← he, List.length_map]
  refine ⟨_, cap, by rw [hlen], fun hne => ⟨g, off, rfl, hi, by omega, fun j hj => ?_⟩⟩
  have hx : es[j]? = some (.int k (zs.getD j 0)) := by
   rw [← he, List.getElem?_map, List.getElem?_eq_getElem hj]
   simp [List.getD, hj]
  have h1 : n = 1 := by have := hl j _ hx; simpa [V.cells] using this.symm
  subst h1
  have h2 := hc j _ 0 (.int k (zs.getD j 0)) hx rfl
  have h3 := (hv j _ 0 (.int k (zs.getD j 0)) hx rfl).int_inv
  unfold World.cell?
  simp only [hg]
  rw [h3] at h2
  simpa using h2
theorem Step.below (hi : ∀ g, imm g → g < w.heap.size) (h : Below w.heap.size w w') : Step sz imm w noM imm w' noM :=
 ⟨inv_no, fun g hg => Nat.lt_of_lt_of_le (hi g hg) h.size, h.size, h.os, h.tape, h.output, fun g hg _ => ⟨h.block g hg, Iff.rfl⟩, fun g hg => absurd hg not_owns_no⟩
theorem below_drewN (n : Nat) : Below w.heap.size w (w.drewN n) := ⟨rfl, rfl, rfl, Nat.le_refl _, fun _ _ => rfl⟩
theorem Fp.of_calls {f : FuncId} {args : List V} {r : V} (hgo : goFn P f = true)
  (h : ∀ (imm : Nat → Prop) (w : World) (vals : Array Value), (∀ g, imm g → g < w.heap.size) → vals.size = args.length → (∀ (j : Nat) c u, args[j]? = some c → vals[j]? = some u → Rp imm w c u) →
   Calls P f vals w fun e w' => ∃ v, e = .returned v ∧ Rp imm w' r v ∧ Below w.heap.size w w') : Fp P f args r :=
 ⟨fun imm w vals hG _ hi hs hv => (h imm w vals hi hs hv).mono (by rintro e w' ⟨v, rfl, h1, h2⟩; exact ⟨v, r, noM, imm, rfl, ⟨rfl, rfl⟩, h1, Step.below hi h2⟩), hgo⟩
def plainE (x : V) : Prop := x.cells = [x] ∧ x.isOwn = false ∧ x.one = true
theorem plain_int (k : IntKind) (n : Int) : plainE (.int k n) := ⟨rfl, rfl, rfl⟩
theorem plain_sl (l : List V) : plainE (.sl l) := ⟨rfl, rfl, rfl⟩
theorem plain_ints (l : List Int) : ∀ x ∈ l.map (V.int k), plainE x := by
 intro x hx; obtain ⟨z, _, rfl⟩ := List.mem_map.1 hx; exact plain_int k z
theorem plainE.getP {x : V} (h : plainE x) {q : Path} {v : V} (hq : x.getP q = some v) : v = x := by
 cases q with
 | nil => simp [V.getP] at hq; exact hq.symm
 | cons b q =>
  obtain ⟨i, j⟩ := b
  have := h.2.1
  cases x <;> simp [V.getP, V.cellAt, V.isOwn] at hq this
theorem getP_pl {d : Nat} {e : TypeId} {γ : Option Nat} {cap : Nat} {es : List V} (hp : ∀ x ∈ es, plainE x) {o : Nat} {q : Path} {v : V} (h : (noM.set d (.own e γ cap es)).getP o q = some v) :
  (o = d ∧ q = [] ∧ v = .own e γ cap es) ∨ v.isOwn = false := by
 rw [Mem.getP_set] at h
 split at h
 ·cases q with
  | nil => simp [V.getP] at h; exact .inl ⟨‹_›, rfl, h.symm⟩
  | cons a q =>
   obtain ⟨i, j⟩ := a
   simp only [V.getP, V.cellAt, Option.bind_eq_some_iff] at h
   obtain ⟨c, ⟨x, hx, hc⟩, h2⟩ := h
   have hx' := hp x (List.mem_of_getElem? hx)
   rw [hx'.1] at hc
   have : c = x := by cases j <;> simp at hc; exact hc.symm
   subst this
   rw [hx'.getP h2]
   exact .inr hx'.2.1
 ·simp [Mem.getP, noM] at h
theorem inv_plain {d g : Nat} {e : TypeId} {cap : Nat} {es : List V} (hp : ∀ x ∈ es, plainE x) {cur : Array Value} (hsz : sz e = 1) (hni : ¬ imm g) (hl : es.length ≤ cap) (hm : cap ≤ maxLen) (hg : w.heap[g]? = some (.cells cur e (0, 0))) (hs : cur.size = cap)
  (hc : ∀ (i : Nat) (x : V), es[i]? = some x → ∃ u, cur[i]? = some u ∧ Rp imm w x u) : Inv sz imm w (noM.set d (.own e (some g) cap es)) := by
 refine ⟨fun o q v h => ?_, fun o v h => ?_, ?_⟩
 ·rcases getP_pl hp h with ⟨_, _, rfl⟩ | h
  ·refine ⟨hni, hl, hm, cur, hg, by rw [hsz, Nat.mul_one]; exact hs, fun i x hx => ?_⟩
   have hx' := hp x (List.mem_of_getElem? hx)
   refine ⟨by rw [hsz, hx'.1]; rfl, fun j c hj => ?_⟩
   rw [hx'.1] at hj
   have hj0 : j = 0 ∧ c = x := by cases j <;> simp at hj; exact ⟨rfl, hj.symm⟩
   obtain ⟨rfl, rfl⟩ := hj0
   obtain ⟨u, h1, h2⟩ := hc i c hx
   refine ⟨u, by rw [hsz, Nat.mul_one, Nat.add_zero]; exact h1, h2.one hx'.2.2, ?_⟩
   have := hx'.2.1
   cases c <;> first | exact h2 | simp [V.isOwn] at this
  ·cases v <;> first | trivial | simp [V.isOwn] at h
 ·simp only [Mem.set] at h
  split at h
  ·cases h; rfl
  ·cases h
 ·intro o q o' q' g' e1 c1 es1 e2 c2 es2 h1 h2
  rcases getP_pl hp h1 with ⟨rfl, rfl, _⟩ | h
  ·rcases getP_pl hp h2 with ⟨rfl, rfl, _⟩ | h
   ·exact ⟨rfl, rfl⟩
   ·cases h
  ·cases h
theorem owns_plain {d g g' : Nat} {e : TypeId} {cap : Nat} {es : List V} (hp : ∀ x ∈ es, plainE x) (h : (noM.set d (.own e (some g) cap es)).owns g') : g' = g := by
 obtain ⟨o, q, e', c, es, h⟩ := h
 rcases getP_pl hp h with ⟨_, _, h⟩ | h
 ·cases h; rfl
 ·cases h
theorem owns_self {d g : Nat} {e : TypeId} {cap : Nat} {es : List V} : (noM.set d (.own e (some g) cap es)).owns g := ⟨d, [], e, cap, es, by simp [Mem.getP_set, V.getP]⟩
theorem Inv.nil (d : Nat) (e : TypeId) : Inv sz imm w (noM.set d (.own e none 0 [])) := inv_no.nilrow d e
theorem Step.rowP {e : TypeId} {v : Value} {es : List V} {us : List Value} (hp : ∀ x ∈ es, plainE x) (hsz : sz e = 1) (hi : ∀ g, imm g → g < w.heap.size) (h : Below w.heap.size w w') (hr : w'.ownsRow w.heap.size e 1 v es.length us)
  (hu : ∀ (i : Nat) (x : V), es[i]? = some x → ∃ u, us[i]? = some u ∧ Rp imm w x u) :
  ∃ γ cap, v = .slice (γ.map fun g => ⟨g, 0, none⟩) es.length cap ∧ Step sz imm w noM imm w' (noM.set 100 (.own e γ cap es)) := by
 have hev : Ev imm w imm w' := fun g hg => ⟨hg, h.block g (hi g hg)⟩
 obtain ⟨_, ⟨rfl, h0⟩ | ⟨g, cap, cur, rfl, hb, hg, hl, hm, hs, ht⟩⟩ := hr
 ·have : es = [] := List.eq_nil_of_length_eq_zero h0
  subst this
  exact ⟨none, 0, rfl, Inv.nil 100 e, fun g hg => Nat.lt_of_lt_of_le (hi g hg) h.size, h.size, h.os, h.tape, h.output, fun g hg _ => ⟨h.block g hg, Iff.rfl⟩, fun g hg => absurd (owns_nilrow hg) not_owns_no⟩
 ·refine ⟨some g, cap, rfl, inv_plain hp hsz (fun hg' => by have := hi g hg'; omega) hl hm hg (by omega) (fun i x hx => ?_), fun g hg => Nat.lt_of_lt_of_le (hi g hg) h.size, h.size, h.os, h.tape, h.output, fun g hg _ => ⟨h.block g hg, Iff.rfl⟩, fun g' hg' => ?_⟩
  ·obtain ⟨u, h1, h2⟩ := hu i x hx
   have hlt : i < es.length := (List.getElem?_eq_some_iff.1 hx).1
   have e1 : (cur.toList.take (es.length * 1))[i]? = us[i]? := by rw [ht]
   rw [List.getElem?_take_of_lt (by omega), h1] at e1
   exact ⟨u, by simpa using e1, h2.ev hev⟩
  ·rw [owns_plain hp hg']; exact .inr hb
theorem Fc.of_row {f : FuncId} {args : List V} {e : TypeId} {es : List V} (hp : ∀ x ∈ es, plainE x) (hsz : szT P e = 1) (hgo : goFn P f = true)
  (h : ∀ (imm : Nat → Prop) (w : World) (vals : Array Value), (∀ g, imm g → g < w.heap.size) → vals.size = args.length → (∀ (j : Nat) c u, args[j]? = some c → vals[j]? = some u → Rp imm w c u) →
   Calls P f vals w fun e' w' => ∃ v us, e' = .returned v ∧ w'.ownsRow w.heap.size e 1 v es.length us ∧ (∀ (i : Nat) (x : V), es[i]? = some x → ∃ u, us[i]? = some u ∧ Rp imm w x u) ∧ Below w.heap.size w w') :
  Fc P f args noM fun r m => ∃ γ cap, r = .msl 100 [] γ es.length cap ∧ m = noM.set 100 (.own e γ cap es) :=
 ⟨fun imm w vals hG _ hi hs hv => (h imm w vals hi hs hv).mono (by
  rintro e' w' ⟨v, us, rfl, h1, h2, h3⟩
  obtain ⟨γ, cap, rfl, hS⟩ := Step.rowP hp hsz hi h3 h1 h2
  exact ⟨_, _, _, imm, rfl, ⟨γ, cap, rfl, rfl⟩, .msl _ _ _ _ _, hS⟩), hgo⟩
theorem Step.putR {d d' g : Nat} {e : TypeId} {cap : Nat} {es es' : List V} (hp : ∀ x ∈ es, plainE x) (hp' : ∀ x ∈ es', plainE x) {cur' : Array Value} (hsz : sz e = 1) (hI : Inv sz imm w (noM.set d (.own e (some g) cap es))) (hi : ∀ g, imm g → g < w.heap.size)
  (hos : w'.os = w.os) (htp : w'.tape = w.tape) (hou : w'.output = w.output) (hsize : w.heap.size ≤ w'.heap.size) (hbl : ∀ k, k < w.heap.size → k ≠ g → w'.heap[k]? = w.heap[k]?)
  (hl : es'.length ≤ cap) (hg : w'.heap[g]? = some (.cells cur' e (0, 0))) (hs : cur'.size = cap) (hc : ∀ (i : Nat) (x : V), es'[i]? = some x → ∃ u, cur'[i]? = some u ∧ Rp imm w x u) :
  Step sz imm w (noM.set d (.own e (some g) cap es)) imm w' (noM.set d' (.own e (some g) cap es')) := by
 have hnd := hI.nd d [] (.own e (some g) cap es) (by simp [Mem.getP_set, V.getP])
 have hev : Ev imm w imm w' := fun g' hg' => ⟨hg', hbl g' (hi g' hg') (fun e => hnd.1 (e ▸ hg'))⟩
 refine ⟨inv_plain hp' hsz hnd.1 hl hnd.2.2.1 hg hs (fun i x hx => ?_), fun g hg => Nat.lt_of_lt_of_le (hi g hg) hsize, hsize, hos, htp, hou, fun k hk hn => ⟨hbl k hk (fun e => hn (e ▸ owns_self)), Iff.rfl⟩, fun g' hg' => ?_⟩
 ·obtain ⟨u, h1, h2⟩ := hc i x hx
  exact ⟨u, h1, h2.ev hev⟩
 ·rw [owns_plain hp' hg']; exact .inl owns_self
theorem Inv.holds {d g : Nat} {e : TypeId} {cap : Nat} {zs : List Int} (hsz : sz e = 1) (hI : Inv sz imm w (noM.set d (.own e (some g) cap (zs.map (V.int k))))) :
  zs.length ≤ cap ∧ cap ≤ maxLen ∧ ∃ cur, w.heap[g]? = some (.cells cur e (0, 0)) ∧ cur.size = cap ∧ Go.Sort.Holds (Value.int k) w g 0 zs.toArray := by
 obtain ⟨_, h1, h2, cur, h3, h4, h5⟩ := hI.nd d [] (.own e (some g) cap (zs.map (V.int k))) (by simp [Mem.getP_set, V.getP])
 refine ⟨by simpa using h1, h2, cur, h3, by rw [h4, hsz, Nat.mul_one], fun j hj => ?_⟩
 have hj' : j < zs.length := by simpa using hj
 have hx : (zs.map (V.int k))[j]? = some (.int k zs[j]) := by rw [List.getElem?_map, List.getElem?_eq_getElem hj']; rfl
 obtain ⟨u, k1, _, k3⟩ := (h5 j _ hx).2 0 (.int k zs[j]) rfl
 have k4 : u = .int k zs[j] := Rp.int_inv k3
 rw [hsz, Nat.mul_one, Nat.add_zero, k4] at k1
 constructor
 ·unfold World.cell?
  simp only [h3, Nat.zero_add]
  simpa [hj'] using k1
 ·unfold World.frozen?
  simp only [h3]
  simp
end
theorem vals1 {P : Program} {imm : Nat → Prop} {w : World} {x : V} {vals : Array Value} (hs : vals.size = [x].length) (hv : ∀ (j : Nat) c u, [x][j]? = some c → vals[j]? = some u → Rp imm w c u) : ∃ a, vals = #[a] ∧ Rp imm w x a := by
 obtain ⟨l⟩ := vals
 match l, hs with
 | [a], _ => exact ⟨a, rfl, hv 0 x a rfl rfl⟩
theorem vals2 {P : Program} {imm : Nat → Prop} {w : World} {x y : V} {vals : Array Value} (hs : vals.size = [x, y].length) (hv : ∀ (j : Nat) c u, [x, y][j]? = some c → vals[j]? = some u → Rp imm w c u) : ∃ a b, vals = #[a, b] ∧ Rp imm w x a ∧ Rp imm w y b := by
 obtain ⟨l⟩ := vals
 match l, hs with
 | [a, b], _ => exact ⟨a, b, rfl, hv 0 x a rfl rfl, hv 1 y b rfl rfl⟩
theorem vals3 {P : Program} {imm : Nat → Prop} {w : World} {x y z : V} {vals : Array Value} (hs : vals.size = [x, y, z].length) (hv : ∀ (j : Nat) c u, [x, y, z][j]? = some c → vals[j]? = some u → Rp imm w c u) : ∃ a b c, vals = #[a, b, c] ∧ Rp imm w x a ∧ Rp imm w y b ∧ Rp imm w z c := by
 obtain ⟨l⟩ := vals
 match l, hs with
 | [a, b, c], _ => exact ⟨a, b, c, rfl, hv 0 x a rfl rfl, hv 1 y b rfl rfl, hv 2 z c rfl rfl⟩
theorem index_fn (zs : List Int) (x : Int) (hl : zs.length < 2 ^ 40) : Fp Tryz.prog 116 [intsV zs, .int .i64 x] (.int .i64 (Lib.idxOf zs x)) := by
 refine Fp.of_calls (by kernel_rfl) fun imm w vals hi hs hv => ?_
 obtain ⟨a, b, rfl, ha, hb⟩ := vals2 (P := Tryz.prog) hs hv
 rw [hb.int_inv]
 obtain ⟨A, c, rfl, h⟩ := ha.ints_inv
 by_cases hz : zs = []
 ·subst hz
  refine (Tryz.slices_Index_int_empty A c x w).mono ?_
  rintro e w' ⟨rfl, rfl⟩
  exact ⟨_, rfl, .int _ _, Below.refl _ _⟩
 ·obtain ⟨g, off, rfl, _, _, hc⟩ := h hz
  refine (Tryz.slices_Index_int g off zs.length c zs x w (Nat.le_refl _) (by omega) hc).mono ?_
  rintro e w' ⟨rfl, rfl⟩
  rw [List.take_length]
  exact ⟨_, rfl, .int _ _, Below.refl _ _⟩
theorem contains_fn (zs : List Int) (x : Int) (hl : zs.length < 2 ^ 40) : Fp Tryz.prog 104 [intsV zs, .int .i64 x] (.bool (zs.contains x)) := by
 refine Fp.of_calls (by kernel_rfl) fun imm w vals hi hs hv => ?_
 obtain ⟨a, b, rfl, ha, hb⟩ := vals2 (P := Tryz.prog) hs hv
 rw [hb.int_inv]
 obtain ⟨A, c, rfl, h⟩ := ha.ints_inv
 by_cases hz : zs = []
 ·subst hz
  refine (Tryz.slices_Contains_int_empty A c x w).mono ?_
  rintro e w' ⟨rfl, rfl⟩
  exact ⟨_, rfl, .bool _, Below.refl _ _⟩
 ·obtain ⟨g, off, rfl, _, _, hc⟩ := h hz
  refine (Tryz.slices_Contains_int g off zs.length c zs x w (Nat.le_refl _) (by omega) hc).mono ?_
  rintro e w' ⟨rfl, rfl⟩
  rw [List.take_length]
  exact ⟨_, rfl, .bool _, Below.refl _ _⟩
theorem equal_fn (xs ys : List Int) (hl : xs.length < 2 ^ 40) (hl' : ys.length < 2 ^ 40) : Fp Tryz.prog 141 [intsV xs, intsV ys] (.bool (xs == ys)) := by
 refine Fp.of_calls (by kernel_rfl) fun imm w vals hi hs hv => ?_
 obtain ⟨a, b, rfl, ha, hb⟩ := vals2 (P := Tryz.prog) hs hv
 obtain ⟨A, c, rfl, h⟩ := ha.ints_inv
 obtain ⟨B, d, rfl, h'⟩ := hb.ints_inv
 by_cases hz : xs = []
 ·subst hz
  refine (Tryz.slices_Equal_int_empty A B c ys.length d w (by omega)).mono ?_
  rintro e w' ⟨rfl, rfl⟩
  have : ((([] : List Int) == ys)) = decide (ys.length = 0) := by cases ys <;> simp
  rw [this]
  exact ⟨_, rfl, .bool _, Below.refl _ _⟩
 ·obtain ⟨g, off, rfl, _, _, hc⟩ := h hz
  by_cases hy : ys = []
  ·subst hy
   refine (Tryz.slices_Equal_int_lens (some ⟨g, off, none⟩) B xs.length c 0 d w (by intro h; exact hz (List.eq_nil_of_length_eq_zero h))).mono ?_
   rintro e w' ⟨rfl, rfl⟩
   have : (xs == []) = false := by simpa using hz
   rw [this]
   exact ⟨_, rfl, .bool _, Below.refl _ _⟩
  ·obtain ⟨g', off', rfl, _, _, hc'⟩ := h' hy
   refine (Tryz.slices_Equal_int g off xs.length c g' off' ys.length d xs ys w (Nat.le_refl _) (Nat.le_refl _) (by omega) (by omega) hc hc').mono ?_
   rintro e w' ⟨rfl, q, rfl⟩
   rw [List.take_length, List.take_length]
   exact ⟨_, rfl, .bool _, below_drewN q⟩
theorem clone_fn (zs : List Int) (hl : zs.length < 2 ^ 40) : Fc Tryz.prog 51 [intsV zs] noM fun r m => ∃ γ cap, r = .msl 100 [] γ zs.length cap ∧ m = noM.set 100 (.own 3 γ cap (zs.map (V.int .i64))) := by
 have h0 := Fc.of_row (P := Tryz.prog) (f := 51) (args := [intsV zs]) (e := 3) (es := zs.map (V.int .i64)) (plain_ints zs) szT_3 (by kernel_rfl) fun imm w vals hi hs hv => ?_
 ·rw [List.length_map] at h0; exact h0
 obtain ⟨a, rfl, ha⟩ := vals1 (P := Tryz.prog) hs hv
 obtain ⟨A, c, rfl, h⟩ := ha.ints_inv
 have hu : ∀ (i : Nat) (x : V), (zs.map (V.int .i64))[i]? = some x → ∃ u, (zs.map (Value.int .i64))[i]? = some u ∧ Rp imm w x u := by
  intro i x hx
  rw [List.getElem?_map, Option.map_eq_some_iff] at hx
  obtain ⟨z, hz, rfl⟩ := hx
  exact ⟨.int .i64 z, by rw [List.getElem?_map, hz]; rfl, .int _ _⟩
 rw [List.length_map]
 cases A with
 | none =>
  have hz : zs = [] := by
   by_cases hz : zs = []
   ·exact hz
   ·obtain ⟨g, off, h1, _⟩ := h hz; cases h1
  subst hz
  refine (Tryz.slices_Clone_int_nil 0 c w).mono ?_
  rintro e w' ⟨rfl, rfl⟩
  exact ⟨_, [], rfl, ⟨rfl, .inl ⟨rfl, rfl⟩⟩, by simp, Below.refl _ _⟩
 | some a =>
  by_cases hz : zs = []
  ·subst hz
   refine (Tryz.slices_Clone_int_zero a c w).mono ?_
   rintro e w' ⟨v', rfl, h1, _, h2⟩
   exact ⟨_, [], rfl, h1, by simp, h2⟩
  ·obtain ⟨g, off, h1, _, _, hc⟩ := h hz
   cases h1
   refine (Tryz.slices_Clone_int g off zs.length c zs w (Nat.le_refl _) (by omega) hc).mono ?_
   rintro e w' ⟨v', rfl, h1, _, h2⟩
   rw [List.take_length] at h1
   exact ⟨_, _, rfl, h1, hu, h2⟩
theorem put_heap {w : World} {g : Nat} {cur : Array Value} {e : TypeId} (hg : w.heap[g]? = some (.cells cur e (0, 0))) (n : Nat) (d : Array Int) (os : Array Obj) :
  (grow (putRow (Value.int .i64) (Sort.ahead w n) g 0 d) os).heap[g]? = some (.cells (putCells (Value.int .i64) 0 d cur) e (0, 0)) ∧ (∀ k, k < w.heap.size → k ≠ g → (grow (putRow (Value.int .i64) (Sort.ahead w n) g 0 d) os).heap[k]? = w.heap[k]?) ∧
   w.heap.size ≤ (grow (putRow (Value.int .i64) (Sort.ahead w n) g 0 d) os).heap.size := by
 have hlt := (Array.getElem?_eq_some_iff.1 hg).1
 have hh : (grow (putRow (Value.int .i64) (Sort.ahead w n) g 0 d) os).heap = w.heap.modify g (onCells (putCells (Value.int .i64) 0 d)) ++ os := rfl
 refine ⟨?_, fun k hk hne => ?_, ?_⟩
 ·rw [hh, Array.getElem?_append_left (by simpa using hlt), Array.getElem?_modify, if_pos rfl, hg]; rfl
 ·rw [hh, Array.getElem?_append_left (by simpa using hk), Array.getElem?_modify, if_neg (fun e => hne e.symm)]
 ·rw [hh]; simp
theorem put_cells {cur : Array Value} {ds : List Int} (h : ds.length ≤ cur.size) : (putCells (Value.int .i64) 0 ds.toArray cur).size = cur.size ∧ ∀ (i : Nat) (x : V), (ds.map (V.int .i64))[i]? = some x → ∃ u, (putCells (Value.int .i64) 0 ds.toArray cur)[i]? = some u ∧ x = .int .i64 (ds.getD i 0) ∧ u = .int .i64 (ds.getD i 0) := by
 refine ⟨by simp [putCells], fun i x hx => ?_⟩
 rw [List.getElem?_map, Option.map_eq_some_iff] at hx
 obtain ⟨z, hz, rfl⟩ := hx
 have hi := (List.getElem?_eq_some_iff.1 hz).1
 have e1 : ds.getD i 0 = z := by simp [List.getD, hz]
 refine ⟨.int .i64 z, ?_, by rw [e1], by rw [e1]⟩
 have hlt : i < cur.size := by omega
 simp [putCells, Array.getElem?_mapIdx, hlt, hi]
 simpa [List.getElem?_eq_getElem hi] using hz
def sorted (zs : List Int) : List Int := zs.mergeSort fun x y => decide (x ≤ y)
theorem delete_fn (zs : List Int) (γ : Option Nat) (i cap : Nat) (hl : zs.length < 2 ^ 40) (hi' : i < zs.length) : Fc Tryz.prog 140 [.msl 0 [] γ zs.length cap, .int .i64 i, .int .i64 (i + 1 : Nat)] (noM.set 0 (.own 3 γ cap (zs.map (V.int .i64))))
  fun r m => r = .msl 100 [] γ (zs.length - 1) cap ∧ m = noM.set 100 (.own 3 γ cap ((zs.eraseIdx i).map (V.int .i64))) := by
 refine ⟨fun imm w vals hG hI hi hs hv => ?_, by kernel_rfl⟩
 obtain ⟨a, b, c, rfl, ha, hb, hc⟩ := vals3 (P := Tryz.prog) hs hv
 rw [hb.int_inv, hc.int_inv]
 cases ha
 cases γ with
 | none =>
  have hnd := hI.nd 0 [] (.own 3 none cap (zs.map (V.int .i64))) (by simp [Mem.getP_set, V.getP])
  have hz : zs = [] := by simpa using hnd.1
  subst hz
  simp at hi'
 | some g =>
  obtain ⟨h1, h2, cur, h3, h4, h5⟩ := hI.holds szT_3
  refine (Tryz.slices_Delete_int g 0 cap i (i + 1) zs w h5 h1 (by unfold maxLen at h2; omega) (by omega) (by omega)).mono ?_
  rintro e w' ⟨rfl, q, hw⟩
  have hds : zs.take i ++ zs.drop (i + 1) ++ List.replicate (i + 1 - i) 0 = zs.eraseIdx i ++ [0] := by
   rw [List.eraseIdx_eq_take_drop_succ]; simp
  rw [hds] at hw
  have hlen : (zs.eraseIdx i).length = zs.length - 1 := List.length_eraseIdx_of_lt hi'
  obtain ⟨k1, k2, k3⟩ := put_heap h3 q (zs.eraseIdx i ++ [0]).toArray #[]
  rw [grow_empty, ← hw] at k1 k2 k3
  obtain ⟨c1, c2⟩ := put_cells (cur := cur) (ds := zs.eraseIdx i ++ [0]) (by simp; omega)
  refine ⟨_, _, _, imm, rfl, ⟨rfl, rfl⟩, by rw [show i + 1 - i = 1 by omega]; exact .msl _ _ _ _ _, Step.putR (plain_ints zs) (plain_ints _) szT_3 hI hi (by rw [hw]; rfl) (by rw [hw]; rfl) (by rw [hw]; rfl) k3 k2 (by simp; omega) k1 (by omega) fun j x hx => ?_⟩
  have hx2 : ((zs.eraseIdx i ++ [0]).map (V.int .i64))[j]? = some x := by
   rw [List.map_append, List.getElem?_append_left (List.getElem?_eq_some_iff.1 hx).1]; exact hx
  obtain ⟨u, d1, rfl, rfl⟩ := c2 j x hx2
  exact ⟨_, d1, .int _ _⟩
end
section
open Go.RowKit Go.Maps Go.Sort Go.Shelf
attribute [local go_sem] Oper.semAt_some
def GivesB (F : Fence) (n : Nat) (P : Program) (g : Nat) (lb : Array Value) (S : List Int → Prop) (N : Nat) (w : World) : Prop :=
 ∀ (l : Nat) (J : List Int → World → Prop) (W : World), Below w.heap.size w W → (∀ pre W1, J pre W1 → Below w.heap.size w W1) →
  (∀ pre x W1, J pre W1 → pre.length < N → YieldAt F (n - 1) P l #[encZ x] W1 fun e W' => e = .returned (.bool true) ∧ J (pre ++ [x]) W') →
  J [] W →
  CallsIn F n P g (#[.func (.yield l) #[] #[]] ++ lb) W fun e W' => (∃ v, e = .returned v) ∧ ∃ xs, S xs ∧ J xs W'
def Rq.apAssign : Code := (Code.region 2 #[{ dst := some 5, op := Op.assign (Operand.tmp 7), type := 3, pos := "iter.go:51", after := #[], guard := none }] false)
def Rq.apBody : Code := (Code.block 1 (Code.region 3 #[{ dst := some 8, op := Op.load 32 (Operand.tmp 2), type := 32, pos := "iter.go:52", after := #[], guard := none }, { dst := some 9, op := Op.move (Operand.tmp 5), type := 3, pos := "iter.go:52", after := #[], guard := none }, { dst := some 10, op := Op.buildSlice 32 1 #[(0, Operand.tmp 9)], type := 32, pos := "iter.go:52", after := #[{ on := 1, ground := Ground.data }], guard := none }, { dst := some 11, op := Op.call { callee := Callee.builtin Builtin.append, args := #[Operand.tmp 8, Operand.tmp 10], argTypes := #[32, 32] }, type := 32, pos := "iter.go:52", after := #[{ on := 0, ground := Ground.data }, { on := 2, ground := Ground.data }], guard := none }, { dst := none, op := Op.store 32 (Operand.tmp 2) (Operand.tmp 11), type := 0, pos := "iter.go:52", after := #[{ on := 3, ground := Ground.data }, { on := 3, ground := Ground.chain }, { on := 0, ground := Ground.phase }, { on := 1, ground := Ground.phase }, { on := 2, ground := Ground.phase }, { on := 3, ground := Ground.phase }], guard := none }] false))
def Rq.apRec (fn : FuncId) (sv : Value) (Bs D : Nat) (st : LoopState) (pend : Option Code) : Loop :=
 { state := st, pending := pend, fn, tmps := #[.slice none 0 0, sv, .pointer (some ⟨Bs, 0, none⟩), undef, .slice none 0 0, undef, sv, undef, undef, undef, undef, undef, undef], params := #[7], assign := Rq.apAssign, body := Rq.apBody, defers := D }
structure Rq.ApAt (w0 : World) (fn : FuncId) (sv : Value) (Bs l D : Nat) (ss : List Int) (W : World) : Prop where
 box : ∃ v, W.heap[Bs]? = some (.cells #[v] 32 (0, 0)) ∧ W.ownsRow w0.heap.size 3 1 v ss.length (ss.map encZ) ∧ (v = .slice none 0 0 ↔ ss = [])
 L : W.heap[l]? = some (.loop (Rq.apRec fn sv Bs D .ready none))
 K : W.heap[D]? = some (.deferred (some []))
 below : Below w0.heap.size w0 W
theorem Rq.grownBy_putObj (W : World) (l : Nat) (o : Obj) : W.grownBy (W.putObj l o) (some l) :=
 ⟨rfl, rfl, rfl, by simp, fun k _ hk => World.putObj_heap_other (fun e => hk (by rw [e]))⟩
theorem Rq.grownBy_setCell0 (W : World) (b : Nat) (v : Value) : W.grownBy (W.setCell ⟨b, 0, none⟩ v) (some b) :=
 ⟨rfl, rfl, rfl, (KeepsWalks.setCell W _ v).size, fun k _ hk => Below.heap_setCell _ _ _ k (fun e => hk (by rw [e]))⟩
theorem Rq.ownsRow_ne {W : World} {base : Nat} {e : TypeId} {size : Nat} {v : Value} {k : Nat} {xs : List Value} (h : W.ownsRow base e size v k xs) {j : Nat} {o : Obj} (hj : W.heap[j]? = some o) (hno : ∀ cur, o ≠ .cells cur e (0, 0)) :
  v.ownBlock = none ∨ v.ownBlock ≠ some j := by
 rcases h.2 with ⟨rfl, _⟩ | ⟨g, cap, cur, rfl, _, hgb, _⟩
 ·exact .inl rfl
 ·refine .inr fun e' => ?_
  have : g = j := by simpa [Value.ownBlock] using e'
  subst this; rw [hgb] at hj; cases hj; exact hno cur rfl
theorem Rq.cell_of_box {W : World} {B : Nat} {v : Value} {t : TypeId} (h : W.heap[B]? = some (.cells #[v] t (0, 0))) : W.cell? ⟨B, 0, none⟩ = some v ∧ W.frozen? ⟨B, 0, none⟩ = false := by
 constructor <;> simp [World.cell?, World.frozen?, h]
theorem Rq.heap_setCell_box {W : World} {B : Nat} {v : Value} {t : TypeId} (v' : Value) (h : W.heap[B]? = some (.cells #[v] t (0, 0))) : (W.setCell ⟨B, 0, none⟩ v').heap[B]? = some (.cells #[v'] t (0, 0)) := by
 obtain ⟨hlt, hk⟩ := Array.getElem?_eq_some_iff.1 h
 show (W.heap.modify B _)[B]? = _
 rw [Array.getElem?_eq_getElem (by rw [Array.size_modify]; exact hlt), Array.getElem_modify_self, hk]
 rfl
theorem Rq.ownsRow_not_walk {W : World} {base : Nat} {e : TypeId} {size : Nat} {v : Value} {k : Nat} {xs : List Value} (h : W.ownsRow base e size v k xs) : ∀ (j : Nat) (o : Obj), v.ownBlock = some j → W.heap[j]? = some o → o.isWalk = false := by
 intro j o hj ho
 rcases h.2 with ⟨rfl, _⟩ | ⟨g, cap, cur, rfl, _, hgb, _⟩
 ·simp [Value.ownBlock] at hj
 ·have : g = j := by simpa [Value.ownBlock] using hj
  subst this; rw [hgb] at ho; cases ho; rfl
theorem Rq.info26 : (Tryz.prog.info? 3).map (fun i => (i.zero, i.size, i.bytes)) = some (some (.int .i64 0), 1, 8) := by kernel_rfl
set_option maxRecDepth 100000 in
set_option maxHeartbeats 2000000 in
theorem Rq.apYield (F : Fence) (m : Nat) (w0 : World) (fn : FuncId) (hfn : F.fn fn) (sv : Value) (Bs l D : Nat) (hBl : Bs ≠ l) (hDl : D ≠ l) (hDB : D ≠ Bs) (h0B : w0.heap.size ≤ Bs) (h0l : w0.heap.size ≤ l)
    (N : Nat) (hN : N ≤ maxLen) (hNb : N * 8 ≤ 140737488355328) (ss : List Int) (x : Int) (W : World) (h : Rq.ApAt w0 fn sv Bs l D ss W) (hlen : ss.length < N) :
    YieldAt F m Tryz.prog l #[encZ x] W fun e W' => e = .returned (.bool true) ∧ Rq.ApAt w0 fn sv Bs l D (ss ++ [x]) W' ∧ KeepsWalks W W' := by
  obtain ⟨i0, hi, hz0, hz1, hz2⟩ := info_parts Rq.info26
  obtain ⟨v, hv, hrow, _⟩ := h.box
  refine ⟨fn, #[.slice none 0 0, sv, .pointer (some ⟨Bs, 0, none⟩), undef, .slice none 0 0, undef, sv, encZ x, undef, undef, undef, undef, undef], Rq.apAssign, Rq.apBody, by simpa [Rq.apRec] using run_yield (P := Tryz.prog) (args := #[encZ x]) h.L rfl, roundIn_of_wpIn hfn ?_⟩
  have hl : l < W.heap.size := (Array.getElem?_eq_some_iff.1 h.L).1
  have hbr := run_beginRound (P := Tryz.prog) h.L rfl
  obtain ⟨W2, hW2⟩ : ∃ W2, W.putObj l (.loop { Rq.apRec fn sv Bs D .ready none with state := .busy }) = W2 := ⟨_, rfl⟩
  rw [hW2] at hbr
  have hg2 : W.grownBy W2 (some l) := by rw [← hW2]; exact Rq.grownBy_putObj _ _ _
  have hk2 : KeepsWalks W W2 := by rw [← hW2]; exact KeepsWalks.putObj _ h.L rfl
  have hv2 : W2.heap[Bs]? = some (.cells #[v] 32 (0, 0)) := by rw [← hW2]; exact (World.putObj_heap_other hBl).trans hv
  have hK2 : W2.heap[D]? = some (.deferred (some [])) := by rw [← hW2]; exact (World.putObj_heap_other hDl).trans h.K
  have hL2 : W2.heap[l]? = some (.loop { Rq.apRec fn sv Bs D .ready none with state := .busy }) := by rw [← hW2]; exact World.putObj_heap_same hl
  have hrow2 : W2.ownsRow w0.heap.size 3 1 v ss.length (ss.map encZ) := hrow.kept hg2 (Rq.ownsRow_ne hrow h.L (fun cur e => by cases e))
  have hb2 : Below w0.heap.size w0 W2 := h.below.grown hg2 h.below.size (fun k e => by cases e; exact h0l)
  obtain ⟨hc2, hf2⟩ := Rq.cell_of_box hv2
  have hBlt : Bs < W2.heap.size := (Array.getElem?_eq_some_iff.1 hv2).1
  have hl2 : l < W2.heap.size := (Array.getElem?_eq_some_iff.1 hL2).1
  have hDlt : D < W2.heap.size := (Array.getElem?_eq_some_iff.1 hK2).1
  have ne_of : ∀ {j : Nat} {o : Obj}, W2.heap[j]? = some o → (∀ cur, o ≠ .cells cur 3 (0, 0)) → some j ≠ v.ownBlock := fun hj hno => by
    rcases Rq.ownsRow_ne hrow2 hj hno with e | e
    · rw [e]; simp
    · exact fun e' => e e'.symm
  clear hW2
  unfold Rq.apAssign
  gi_wp2_with (rw [Oper.semAt_eq _ _ _ (fun c h => by cases h)]; go_simp; try go_bits)
  unfold Rq.apBody
  gi_wp2_with (first
    | (gi_at_builtin; refine wpListIn_append_own _ rfl _ _ 32 rfl w0.heap.size 3 i0 (.int .i64 0) 1 8 Tryz.underlying32 hi hz0 hz1 hz2 rfl (by decide) _ _ _ rfl (hrow2.alloc _) ⟨W2.heap.size, 0, none⟩ 1 1 [encZ x] rfl rfl (cell_one_new _ _ _) (by simp [Value.oneCell', encZ]) (by omega) (by omega) (by have := hb2.size; simp; omega) ?_; intro v' w3 hown' hg3 hnil3
       have hv3 : w3.heap[Bs]? = some (.cells #[v] 32 (0, 0)) := (hg3.block Bs (by simp; omega) (ne_of hv2 (fun cur e => by cases e))).trans ((Below.heap_alloc _ _ Bs hBlt).trans hv2)
       obtain ⟨hc3, hf3⟩ := Rq.cell_of_box hv3
       obtain ⟨g', cap', cur', rfl, hbase', hgb', hr1, hr2, hr3, hr4⟩ : ∃ g' cap' cur', v' = .slice (some ⟨g', 0, none⟩) (ss.length + 1) cap' ∧ w0.heap.size ≤ g' ∧ w3.heap[g']? = some (.cells cur' 3 (0, 0)) ∧ ss.length + 1 ≤ cap' ∧ cap' ≤ maxLen ∧ cur'.size = cap' * 1 ∧ cur'.toList.take ((ss.length + 1) * 1) = ss.map encZ ++ [encZ x] := by
         rcases hown'.2 with ⟨_, h0⟩ | h'
         · exact absurd h0 (by omega)
         · exact h'
       go_frame)
    | (rw [Oper.semAt_eq _ _ _ (fun c h => by cases h)]; go_simp; try go_bits))
  have hg3' : (W2.alloc (.cells #[encZ x] 3)).grownBy w3 v.ownBlock := hg3
  have hL3 : w3.heap[l]? = some (.loop { Rq.apRec fn sv Bs D .ready none with state := .busy }) := (hg3'.block l (by simp; omega) (ne_of hL2 (fun cur e => by cases e))).trans ((Below.heap_alloc _ _ l hl2).trans hL2)
  have hK3 : w3.heap[D]? = some (.deferred (some [])) := (hg3'.block D (by simp; omega) (ne_of hK2 (fun cur e => by cases e))).trans ((Below.heap_alloc _ _ D hDlt).trans hK2)
  obtain ⟨w4, hw4⟩ : ∃ w4, w3.setCell ⟨Bs, 0, none⟩ (.slice (some ⟨g', 0, none⟩) (ss.length + 1) cap') = w4 := ⟨_, rfl⟩
  rw [hw4]
  have hg4 : w3.grownBy w4 (some Bs) := by rw [← hw4]; exact Rq.grownBy_setCell0 _ _ _
  have hv4 : w4.heap[Bs]? = some (.cells #[.slice (some ⟨g', 0, none⟩) (ss.length + 1) cap'] 32 (0, 0)) := by rw [← hw4]; exact Rq.heap_setCell_box _ hv3
  have hL4 : w4.heap[l]? = some (.loop { Rq.apRec fn sv Bs D .ready none with state := .busy }) := (hg4.block l (Array.getElem?_eq_some_iff.1 hL3).1 (fun e => hBl (by cases e; rfl))).trans hL3
  have hK4 : w4.heap[D]? = some (.deferred (some [])) := (hg4.block D (Array.getElem?_eq_some_iff.1 hK3).1 (fun e => hDB (by cases e; rfl))).trans hK3
  have hrow4 := hown'.kept hg4 (Rq.ownsRow_ne hown' hv3 (fun cur e => by cases e))
  have hl4 : l < w4.heap.size := (Array.getElem?_eq_some_iff.1 hL4).1
  have hb3 : Below w0.heap.size w0 w3 := (hb2.alloc hb2.size _).grown hg3' (by have := hb2.size; simp; omega) (fun k e => (hrow2.lt k e).1)
  have hb4 : Below w0.heap.size w0 w4 := hb3.grown hg4 hb3.size (fun k e => by cases e; exact h0B)
  have hk4 : KeepsWalks W w4 := ((hk2.trans (KeepsWalks.alloc _ _)).trans (KeepsWalks.of_grownBy hg3' (Rq.ownsRow_not_walk (hrow2.alloc _)))).trans (by rw [← hw4]; exact KeepsWalks.setCell _ _ _)
  clear hw4
  refine ⟨_, _, run_endRound none hL4, rfl, ⟨⟨_, (World.putObj_heap_other hBl).trans hv4, ?_, by simp⟩, World.putObj_heap_same hl4, (World.putObj_heap_other hDl).trans hK4, hb4.grown (Rq.grownBy_putObj _ _ _) hb4.size (fun k e => by cases e; exact h0l)⟩, hk4.trans (KeepsWalks.putObj _ hL4 rfl)⟩
  have := hrow4.kept (Rq.grownBy_putObj w4 l (.loop { { Rq.apRec fn sv Bs D .ready none with state := .busy } with state := if (none : Option Code).isNone then .ready else .done, pending := none })) (Rq.ownsRow_ne hrow4 hL4 (fun cur e => by cases e))
  simpa using this
set_option maxRecDepth 100000 in
set_option maxHeartbeats 2000000 in
theorem Rq.appendSeq_in (F : Fence) (n : Nat) (h11 : F.fn 171) (hro : F.round = none) (hn : 2 ≤ n) (g : Nat) (lb : Array Value) (hFg : F.fn g) (eg : ∀ args w, (callFunc g args).run Tryz.prog w = .ok (.enter g args) w)
    (S : List Int → Prop) (N : Nat) (hN : N ≤ maxLen) (hNb : N * 8 ≤ 140737488355328) (w : World) (hseq : GivesB F (n - 1) Tryz.prog g lb S N w) :
    CallsIn F n Tryz.prog 171 #[.slice none 0 0, .func (.func g) #[] lb] w fun e w' => ∃ (v : Value) (ss : List Int), e = .returned v ∧ S ss ∧ w'.ownsRow w.heap.size 3 1 v ss.length (ss.map encZ) ∧ (v = .slice none 0 0 ↔ ss = []) ∧ Below w.heap.size w w' := by
  have h1 : 1 ≤ n := by omega
  refine callsIn_of_wp_marks Tryz.func171 rfl h11 ?_ hro
  simp only [Tryz.ntmps171, List.size_toArray, List.length_cons, List.length_nil, Nat.reduceAdd, Nat.reduceSub, Array.replicate_succ, Array.replicate_zero, List.push_toArray, List.append_toArray, List.nil_append, List.cons_append]
  gi_wp2
  refine wpIn_rangeFunc ?_
  intro fn hfn
  rw [hro]
  obtain ⟨W0, hW0⟩ : ∃ W0, w.alloc (.cells #[.slice none 0 0] 32) = W0 := ⟨_, rfl⟩
  have hs0 : W0.heap.size = w.heap.size + 1 := by rw [← hW0]; simp
  have hv0 : W0.heap[w.heap.size]? = some (.cells #[.slice none 0 0] 32 (0, 0)) := by rw [← hW0]; exact World.alloc_heap_new w _
  have hb0 : Below w.heap.size w W0 := by rw [← hW0]; exact (Below.refl _ w).alloc (Nat.le_refl _) _
  rw [hW0]
  obtain ⟨W1, hW1⟩ : ∃ W1, (W0.alloc (.deferred (some []))).alloc (.loop (Rq.apRec fn (.func (.func g) #[] lb) w.heap.size W0.heap.size .ready none)) = W1 := ⟨_, rfl⟩
  have hold : ∀ k, k < W0.heap.size → W1.heap[k]? = W0.heap[k]? := fun k hk => by
    rw [← hW1]; exact (Below.heap_alloc _ _ k (by simp; omega)).trans (Below.heap_alloc _ _ k hk)
  have hb1 : Below w.heap.size w W1 := by rw [← hW1]; exact (hb0.alloc hb0.size _).alloc (by have := hb0.size; simp; omega) _
  have hs1 : W1.heap.size = W0.heap.size + 2 := by rw [← hW1]; simp
  have hM : Rq.ApAt w fn (.func (.func g) #[] lb) w.heap.size (W0.heap.size + 1) W0.heap.size [] W1 :=
    ⟨⟨_, (hold w.heap.size (by omega)).trans hv0, ⟨rfl, .inl ⟨rfl, rfl⟩⟩, by simp⟩,
     by rw [← hW1]; have := World.alloc_heap_new (W0.alloc (.deferred (some []))) (.loop (Rq.apRec fn (.func (.func g) #[] lb) w.heap.size W0.heap.size .ready none)); rwa [World.size_alloc] at this,
     by rw [← hW1]; exact (Below.heap_alloc _ _ _ (by simp)).trans (World.alloc_heap_new W0 _), hb1⟩
  refine ⟨W0.heap.size + 1, [{ target := .collected W0.heap.size, args := #[] }], W1, { target := .fn (.func g) lb, args := #[.func (.yield (W0.heap.size + 1)) #[] #[]] }, W1, g,
    #[.func (.yield (W0.heap.size + 1)) #[] #[]] ++ lb, W1, ?_, ?_, ?_, ?_, fun _ => h1, ?_⟩
  · rw [← hW1]; exact run_enterLoop_outer _ _ _ _ _
  · simp [resolve, go_sem]
  · intro f' hf'; simp [Target.leads] at hf'; subst hf'; exact hFg
  · simp [invoke, go_sem, eg]
  · refine (hseq (W0.heap.size + 1) (Rq.ApAt w fn (.func (.func g) #[] lb) w.heap.size (W0.heap.size + 1) W0.heap.size) W1 hb1 (fun _ _ h => h.below)
      (fun pre x W hJ hl => (Rq.apYield F (n - 1 - 1) w fn hfn _ w.heap.size (W0.heap.size + 1) W0.heap.size (by omega) (by omega) (by omega) (Nat.le_refl _) (by omega) N hN hNb pre x W hJ hl).mono fun _ _ h => ⟨h.1, h.2.1⟩) hM).mono ?_
    rintro e W2 ⟨⟨v0, rfl⟩, ss, hS, h2⟩
    obtain ⟨v, hv, hrow, hnil⟩ := h2.box
    have hend := run_endLoop (P := Tryz.prog) h2.L (by simp [Rq.apRec])
    obtain ⟨W3, hW3⟩ : ∃ W3, W2.putObj (W0.heap.size + 1) (.loop { Rq.apRec fn (.func (.func g) #[] lb) w.heap.size W0.heap.size .ready none with state := .exhausted }) = W3 := ⟨_, rfl⟩
    rw [hW3] at hend
    have hg3 : W2.grownBy W3 (some (W0.heap.size + 1)) := by rw [← hW3]; exact Rq.grownBy_putObj _ _ _
    have hv3 : W3.heap[w.heap.size]? = some (.cells #[v] 32 (0, 0)) := by rw [← hW3]; exact (World.putObj_heap_other (by omega)).trans hv
    have hK3 : W3.heap[W0.heap.size]? = some (.deferred (some [])) := by rw [← hW3]; exact (World.putObj_heap_other (by omega)).trans h2.K
    have hrow3 := hrow.kept hg3 (Rq.ownsRow_ne hrow h2.L (fun cur e => by cases e))
    have hb3 : Below w.heap.size w W3 := h2.below.grown hg3 h2.below.size (fun k e => by cases e; omega)
    obtain ⟨hc3, hf3⟩ := Rq.cell_of_box hv3
    clear hW3
    refine ⟨none, W3, hend, ?_⟩
    gi_wp2
    rw [← hs0]
    refine ⟨by simp, .inl ⟨_, _, rfl, run_takeDeferred hK3, ?_⟩⟩
    exact ⟨_, results_tmp rfl _ _ _, v, ss, rfl, hS, hrow3.kept (Rq.grownBy_putObj _ _ _) (Rq.ownsRow_ne hrow3 hK3 (fun cur e => by cases e)), hnil, hb3.grown (Rq.grownBy_putObj _ _ _) hb3.size (fun k e => by cases e; omega)⟩
set_option maxHeartbeats 1000000 in
theorem Rq.collect_in (F : Fence) (n : Nat) (h8 : F.fn 161) (h11 : F.fn 171) (hro : F.round = none) (hn : 3 ≤ n) (g : Nat) (lb : Array Value) (hFg : F.fn g) (eg : ∀ args w, (callFunc g args).run Tryz.prog w = .ok (.enter g args) w)
  (S : List Int → Prop) (N : Nat) (hN : N ≤ maxLen) (hNb : N * 8 ≤ 140737488355328) (w : World) (hseq : GivesB F (n - 1 - 1) Tryz.prog g lb S N w) :
  CallsIn F n Tryz.prog 161 #[.func (.func g) #[] lb] w fun e w' => ∃ (v : Value) (ss : List Int), e = .returned v ∧ S ss ∧ w'.ownsRow w.heap.size 3 1 v ss.length (ss.map encZ) ∧ (v = .slice none 0 0 ↔ ss = []) ∧ Below w.heap.size w w' := by
 have h1 : 1 ≤ n := by omega
 refine callsIn_of_wp Tryz.func161 rfl h8 ?_ hro
 simp only [Tryz.ntmps161, List.size_toArray, List.length_cons, List.length_nil, Nat.reduceAdd, Nat.reduceSub, Array.replicate_succ, Array.replicate_zero, List.push_toArray, List.append_toArray, List.nil_append, List.cons_append]
 gi_wp2_with (gi_at_call 171; refine (Rq.appendSeq_in F (n - 1) h11 hro (by omega) g lb hFg eg S N hN hNb _ hseq).mono ?_; rintro e w' ⟨v, ss, rfl, hS, hrow, hnil, hb⟩)
 go_ret
 exact ⟨v, ss, rfl, hS, hrow, hnil, hb⟩
set_option maxRecDepth 100000 in
set_option maxHeartbeats 2000000 in
theorem Rq.sorted_in (F : Fence) (n : Nat) (h6 : F.fn 142) (h8 : F.fn 161) (h9 : F.fn 162) (h11 : F.fn 171) (hro : F.round = none) (hn : 4 ≤ n)
  (hs1 : ∀ (blk off cap : Nat) (ss : List Int) (W : World), Go.Sort.Holds encZ W blk off ss.toArray → blk < W.heap.size → ss.length < 4611686018427387904 →
   CallsIn F (n - 1) Tryz.prog 162 #[.slice (some ⟨blk, off, none⟩) ss.length cap] W fun e w' => e = .returned (.tuple #[]) ∧ ∃ k os, w' = grow (putRow encZ (Sort.ahead W k) blk off (ss.mergeSort fun x y => decide (x ≤ y)).toArray) os)
  (hs2 : ∀ (p : Option Addr) (cap : Nat) (W : World), CallsIn F (n - 1) Tryz.prog 162 #[.slice p 0 cap] W fun e w' => e = .returned (.tuple #[]) ∧ w' = W)
  (g : Nat) (lb : Array Value) (hFg : F.fn g) (eg : ∀ args w, (callFunc g args).run Tryz.prog w = .ok (.enter g args) w)
  (S : List Int → Prop) (N : Nat) (hN : N ≤ maxLen) (hNb : N * 8 ≤ 140737488355328) (hSN : ∀ ss, S ss → ss.length ≤ N) (w : World) (hseq : GivesB F (n - 1 - 1 - 1) Tryz.prog g lb S N w) :
  CallsIn F n Tryz.prog 142 #[.func (.func g) #[] lb] w fun e w' => ∃ (v : Value) (ss : List Int), e = .returned v ∧ S ss ∧
   w'.ownsRow w.heap.size 3 1 v ss.length ((ss.mergeSort (fun x y => decide (x ≤ y))).map encZ) ∧ Below w.heap.size w w' := by
 have h1 : 1 ≤ n := by omega
 refine callsIn_of_wp Tryz.func142 rfl h6 ?_ hro
 simp only [Tryz.ntmps142, List.size_toArray, List.length_cons, List.length_nil, Nat.reduceAdd, Nat.reduceSub, Array.replicate_succ, Array.replicate_zero, List.push_toArray, List.append_toArray, List.nil_append, List.cons_append]
 gi_wp2_with (gi_at_call 161; refine (Rq.collect_in F (n - 1) h8 h11 hro (by omega) g lb hFg eg _ N hN hNb _ hseq).mono ?_; rintro e W ⟨v, ss, rfl, hS, hrow, hnil, hb⟩)
 have hlen := hSN ss hS
 rcases hrow.2 with ⟨rfl, hz⟩ | ⟨gb, cap, cur, rfl, hbase, hgb, r1, r2, r3, r4⟩
 ·have hss : ss = [] := List.eq_nil_of_length_eq_zero hz
  subst hss
  gi_wp2_with (gi_at_call 162; refine (hs2 none 0 W).mono ?_; rintro e w' ⟨rfl, rfl⟩)
  go_ret
  exact ⟨.slice none 0 0, [], rfl, hS, by simpa using hrow, hb⟩
 ·have hH : Go.Sort.Holds encZ W gb 0 ss.toArray := holds_of_block_i hgb (by simpa using r4)
  have hgl : gb < W.heap.size := (Array.getElem?_eq_some_iff.1 hgb).1
  have hsz : ss.length < 4611686018427387904 := by omega
  have cS := hs1 gb 0 cap ss W hH hgl hsz
  gi_wp2_with (gi_at_call 162; refine cS.mono ?_; rintro e w' ⟨rfl, nn, os, rfl⟩)
  go_ret
  exact ⟨_, ss, rfl, hS, ownsRow_sorted_i (by simp) hbase hgb r1 r2 r3, hb.grown (grownBy_sorted_i _) hb.size (fun j hj => by cases hj; exact hbase)⟩
set_option maxRecDepth 100000 in
set_option maxHeartbeats 2000000 in
theorem values1B (F : Fence) (n : Nat) (h7 : F.fn 163) (hro : F.round = none) (hn : 1 ≤ n) (l Bs ob b off len cap : Nat) (zs : List Int) (hreach : len * 8 ≤ 140737488351232) (J : List Int → World → Prop)
  (hJ : ∀ pre W, J pre W → ∀ j, j < len → W.cell? ⟨b, off + j, none⟩ = some (.int .i64 (zs.getD j 0)))
  (hY : ∀ pre x W, J pre W → pre.length < len → YieldAt F (n - 1) Tryz.prog l #[.int .i64 x] W fun e W' => e = .returned (.bool true) ∧ J (pre ++ [x]) W')
  (W : World) (hBs : W.cell? ⟨Bs, ob, none⟩ = some (.slice (some ⟨b, off, none⟩) len cap)) (h0 : J [] W) (hlz : len = zs.length) :
  CallsIn F n Tryz.prog 163 #[.func (.yield l) #[] #[], .pointer (some ⟨Bs, ob, none⟩)] W fun e W' => (∃ v, e = .returned v) ∧ J zs W' := by
 refine callsIn_of_wp Tryz.func163 rfl h7 ?_ hro
 simp only [Tryz.ntmps163, List.size_toArray, List.length_cons, List.length_nil, Nat.reduceAdd, Nat.reduceSub, Array.replicate_succ, Array.replicate_zero, List.push_toArray, List.append_toArray, List.nil_append, List.cons_append]
 gi_wp2
 gi_loopw [7] (fun i wr => ∃ k : Nat, k ≤ len ∧ i = .int .i64 k ∧ J (zs.take k) wr) (fun i _ => len - (intOf i).toNat)
 case atStart => exact ⟨0, Nat.zero_le _, rfl, h0⟩
 case round =>
  obtain ⟨k, hk, rfl, hJs⟩ := hrel
  have hcx : k < len → wr.cell? ⟨b, off + k, none⟩ = some (.int .i64 (zs.getD k 0)) := fun h => hJ _ _ hJs k h
  by_cases hlt : k < len
  ·obtain ⟨x, hx⟩ : ∃ x, zs.getD k 0 = x := ⟨_, rfl⟩
   obtain ⟨fn, tmps, assign, body, hy, hR⟩ := hY _ x wr hJs (by rw [List.length_take]; omega)
   have hcx' := hcx hlt
   rw [hx] at hcx'
   clear hcx
   gi_wp2
   refine hR.mono ?_
   rintro e W3 ⟨rfl, hJ3⟩
   gi_wp2
   go_roundw
   case rel =>
    refine ⟨k + 1, by omega, by simp, ?_⟩
    have : zs.take (k + 1) = zs.take k ++ [zs.getD k 0] := by
     rw [List.take_add_one, List.getElem?_eq_getElem (by omega)]
     simp [List.getD, List.getElem?_eq_getElem (show k < zs.length by omega)]
    rw [this, hx]; exact hJ3
   case measure => simp [intOf]; omega
  ·obtain rfl : k = len := by omega
   gi_wp2
   go_end0
   subst hlz
   rw [List.take_length] at hJs
   exact ⟨⟨_, rfl⟩, hJs⟩
set_option maxRecDepth 100000 in
set_option maxHeartbeats 1000000 in
theorem values1B_nil (F : Fence) (n : Nat) (h7 : F.fn 163) (hro : F.round = none) (l Bs ob c : Nat) (A : Option Addr) (J : List Int → World → Prop) (W : World) (hBs : W.cell? ⟨Bs, ob, none⟩ = some (.slice A 0 c)) (h0 : J [] W) :
  CallsIn F n Tryz.prog 163 #[.func (.yield l) #[] #[], .pointer (some ⟨Bs, ob, none⟩)] W fun e W' => (∃ v, e = .returned v) ∧ J [] W' := by
 refine callsIn_of_wp Tryz.func163 rfl h7 ?_ hro
 simp only [Tryz.ntmps163, List.size_toArray, List.length_cons, List.length_nil, Nat.reduceAdd, Nat.reduceSub, Array.replicate_succ, Array.replicate_zero, List.push_toArray, List.append_toArray, List.nil_append, List.cons_append]
 gi_wp2
 gi_loopw [7] (fun i wr => i = .int .i64 0 ∧ J [] wr) (fun _ _ => 0)
 case atStart => exact ⟨rfl, h0⟩
 case round =>
  obtain ⟨rfl, hJs⟩ := hrel
  gi_wp2
  go_end0
  exact ⟨⟨_, rfl⟩, hJs⟩
set_option maxHeartbeats 1000000 in
theorem valuesC (A : Option Addr) (len cap : Nat) (w : World) :
  Calls Tryz.prog 143 #[.slice A len cap] w fun e w' => e = .returned (.func (.func 163) #[] #[.pointer (some ⟨w.heap.size, 0, none⟩)]) ∧ w' = w.alloc (.cells #[.slice A len cap] 32) := by
 refine (callsIn_wide (n := 6)).1 ?_
 refine callsIn_of_wp Tryz.func143 rfl trivial ?_ rfl
 simp only [Tryz.ntmps143, List.size_toArray, List.length_cons, List.length_nil, Nat.reduceAdd, Nat.reduceSub, Array.replicate_succ, Array.replicate_zero, List.push_toArray, List.append_toArray, List.nil_append, List.cons_append]
 gi_wp2
 go_ret
 exact ⟨rfl, rfl⟩
def valuesV (zs : List Int) : V := .fn (.func 163) [] [.eptr [intsV zs]]
theorem values_fn (zs : List Int) : Fp Tryz.prog 143 [intsV zs] (valuesV zs) := by
 refine ⟨fun imm w vals hG _ hi hs hv => ?_, by kernel_rfl⟩
 obtain ⟨a, rfl, ha⟩ := vals1 (P := Tryz.prog) hs hv
 obtain ⟨A, c, rfl, h⟩ := ha.ints_inv
 refine (valuesC A zs.length c w).mono ?_
 rintro e w' ⟨rfl, rfl⟩
 have hb : Below w.heap.size w (w.alloc (.cells #[.slice A zs.length c] 32)) := (Below.refl _ w).alloc (Nat.le_refl _) _
 have hev : Ev imm w (fun g => imm g ∨ g = w.heap.size) (w.alloc (.cells #[.slice A zs.length c] 32)) := fun g hg => ⟨.inl hg, hb.block g (hi g hg)⟩
 refine ⟨_, valuesV zs, noM, (fun g => imm g ∨ g = w.heap.size), rfl, ⟨rfl, rfl⟩, ?_, ⟨inv_no, fun g hg => ?_, hb.size, hb.os, hb.tape, hb.output, fun g hg _ => ⟨hb.block g hg, fun h => h.elim id (fun e => absurd e (by omega)), .inl⟩, fun g hg => absurd hg not_owns_no⟩⟩
 ·refine .fn _ [] [.eptr [intsV zs]] #[] #[.pointer (some ⟨w.heap.size, 0, none⟩)] rfl rfl (fun j c u h _ => by simp at h) fun j c u hc hu => ?_
  have hj : j = 0 := by cases j <;> simp at hc; rfl
  subst hj
  simp at hc hu
  subst hc; subst hu
  refine .eptr [intsV zs] w.heap.size 0 #[.slice A zs.length c] 32 (0, 0) (fun _ => .slice A zs.length c) (.inr rfl) (heap_alloc_new w _) (fun j c' hj => ?_) (fun j c' hj => ?_)
  ·have hj0 : j = 0 := by cases j <;> simp at hj; rfl
   subst hj0; rfl
  ·have hj0 : j = 0 := by cases j <;> simp at hj; rfl
   subst hj0
   simp at hj; subst hj
   exact ha.ev hev
 ·rcases hg with hg | rfl
  ·exact Nat.lt_of_lt_of_le (hi g hg) hb.size
  ·simp
theorem Rp.values_inv {imm : Nat → Prop} {w : World} {zs : List Int} {v : Value} (h : Rp imm w (valuesV zs) v) : ∃ g off A c, v = .func (.func 163) #[] #[.pointer (some ⟨g, off, none⟩)] ∧ imm g ∧ w.cell? ⟨g, off, none⟩ = some (.slice A zs.length c) ∧
  (zs ≠ [] → ∃ g' off', A = some ⟨g', off', none⟩ ∧ imm g' ∧ zs.length ≤ c ∧ ∀ j, j < zs.length → w.cell? ⟨g', off' + j, none⟩ = some (.int .i64 (zs.getD j 0))) := by
 unfold valuesV at h
 cases h with
 | fn f xs bs ar br ha hb h h' =>
  have e1 : ar = #[] := by simpa using ha
  obtain ⟨l⟩ := br
  match l, hb with
  | [b], _ =>
   have hb := h' 0 _ b rfl rfl
   cases hb with
   | eptr cs g off cur t fr f hi hg hc hcs =>
    have h1 := hc 0 _ rfl
    obtain ⟨A, c, h2, h3⟩ := (hcs 0 _ rfl).ints_inv
    refine ⟨g, off, A, c, by rw [e1], hi, ?_, h3⟩
    unfold World.cell?
    simp only [hg]
    rw [h2] at h1
    simpa using h1
theorem sorted_fn (zs : List Int) (hl : zs.length < 2 ^ 40) : Fc Tryz.prog 142 [valuesV zs] noM fun r m => ∃ γ cap, r = .msl 100 [] γ zs.length cap ∧ m = noM.set 100 (.own 3 γ cap ((sorted zs).map (V.int .i64))) := by
 have hlen : (sorted zs).length = zs.length := by simp [sorted]
 have h0 := Fc.of_row (P := Tryz.prog) (f := 142) (args := [valuesV zs]) (e := 3) (es := (sorted zs).map (V.int .i64)) (plain_ints _) szT_3 (by kernel_rfl) fun imm w vals hi hs hv => ?_
 ·rw [List.length_map, hlen] at h0; exact h0
 obtain ⟨a, rfl, ha⟩ := vals1 (P := Tryz.prog) hs hv
 obtain ⟨g, off, A, c, rfl, hg, hbox, h⟩ := ha.values_inv
 have hgl := hi g hg
 have hseq : GivesB Fence.wide 2 Tryz.prog 163 #[.pointer (some ⟨g, off, none⟩)] (fun ss => ss = zs) zs.length w := by
  intro l J W hW hJB hY h0
  have hb' : W.cell? ⟨g, off, none⟩ = some (.slice A zs.length c) := (hW.cell (p := ⟨g, off, none⟩) hgl).trans hbox
  by_cases hz : zs = []
  ·subst hz
   refine (values1B_nil Fence.wide 2 trivial rfl l g off c A J W hb' h0).mono ?_
   rintro e W' ⟨he, hJ⟩
   exact ⟨he, [], rfl, hJ⟩
  ·obtain ⟨g', off', rfl, hg', _, hc⟩ := h hz
   refine (values1B Fence.wide 2 trivial rfl (by omega) l g off g' off' zs.length c zs (by omega) J (fun pre W1 hJ j hj => ((hJB _ _ hJ).cell (p := ⟨g', off' + j, none⟩) (hi g' hg')).trans (hc j hj)) hY W hb' h0 rfl).mono ?_
   rintro e W' ⟨he, hJ⟩
   exact ⟨he, zs, rfl, hJ⟩
 refine (callsIn_wide (n := 5)).1 ((Rq.sorted_in Fence.wide 5 trivial trivial trivial trivial rfl (by omega) (fun blk off cap ss W h1 h2 h3 => callsIn_wide.2 (Tryz.slices_Sort_int blk off cap ss W h1 h2 h3)) (fun p cap W => callsIn_wide.2 (Tryz.slices_Sort_int_none p cap W)) 163 _ trivial (enters_of Tryz.func163 (by kernel_rfl) rfl) (fun ss => ss = zs) zs.length (by unfold maxLen; omega) (by omega) (fun ss h => Nat.le_of_eq (congrArg List.length h)) w hseq).mono ?_)
 rintro e w' ⟨v, ss, rfl, rfl, hr, hb⟩
 refine ⟨v, (sorted ss).map (Value.int .i64), rfl, ?_, fun i x hx => ?_, hb⟩
 ·rw [List.length_map, hlen]; exact hr
 ·rw [List.getElem?_map, Option.map_eq_some_iff] at hx
  obtain ⟨z, hz, rfl⟩ := hx
  exact ⟨.int .i64 z, by rw [List.getElem?_map, hz]; rfl, .int _ _⟩
end
end Go.Proofs.YtkdolbffabmemaaGreatDoor
