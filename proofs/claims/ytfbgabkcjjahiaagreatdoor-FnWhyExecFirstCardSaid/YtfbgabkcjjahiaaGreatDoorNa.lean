/-
  A draw: an order. Contracts: what a step is, told by the reference. Contracts: what a thread is, told by the reference; what a program is, by both. Contracts: what a program is, by the text and by the reference. Draws: a step, a thread. Draws: a program. Draws: the reader is opened. What was seen stands ahead of another, is the same, or stands behind: by both. Contracts: events. Contracts: scenes. Contracts: who writes to a place; the last read ahead of an event. Contracts of the library's, carried over.
-/
import Derived.Test.YtfbgabkcjjahiaaGreatDoorVx
import Derived.Test.YtfbgabkcjjahiaaGreatDoorVz
import Derived.Test.YtfbgabkcjjahiaaGreatDoorVt
import Derived.Test.YtfbgabkcjjahiaaGreatDoorShelf
set_option linter.unusedSimpArgs false
set_option linter.unusedVariables false
namespace Go.Proofs.YtfbgabkcjjahiaaGreatDoor
open Go.RowKit
abbrev zA := @wpS_tt
abbrev zB := @wpS_tf
abbrev zC := @wpS_ft
abbrev zD := @wpS_ff
abbrev zE := @wpCond_tt
abbrev zF := @wpCond_ff

end Go.Proofs.YtfbgabkcjjahiaaGreatDoor
namespace Go.Proofs.YtfbgabkcjjahiaaGreatDoor
open Go.RowKit
set_option pp.maxSteps 3000

theorem l6In_fn (n lo hi : Int) : Fp Tryz.prog 58 [.int .i64 n, .int .i64 lo, .int .i64 hi] (.bool (inB n lo hi)) := by
  refine Fc.start (S := []) Tryz.func58 Tryz.ntmps58 Tryz.results58 rfl (by decide) rfl (by kernel_rfl) ?_
  simp (maxSteps := 1000000) (disch := omega) only [push_cast, go_sem, zA, zB, zC, zD, zE, zF, simprocAttr]
  refine ⟨fun h => ?_, fun h => ?_⟩ <;> simp [inB, h] <;> omega

theorem l1Do_fn (d : Do) : Fp Tryz.prog 116 [d.V] (.bool d.formed) := by
  refine Fc.start (S := [1]) Tryz.func116 Tryz.ntmps116 Tryz.results116 rfl (by decide) rfl (by kernel_rfl) ?_
  simp (maxSteps := 1000000) (disch := omega) only [push_cast, go_sem, zA, zB, zC, zD, zE, zF, simprocAttr, Do.V_eq]
  intro g
  refine Sat.cutS (upd (upd noT 1 (.ptr 1 [] 0 0 g 3)) 3 (.bool d.valued)) (noM.set 1 (.own 62 (some g) 1 [.agg [.int .i64 d.k, .int .i64 d.p, .int .i64 d.v]])) (Sat.of (S := []) (by kernel_rfl) ?_) ?_
  · simp (maxSteps := 1000000) (disch := omega) only [push_cast, go_sem, zA, zB, zC, zD, zE, zF, simprocAttr]
    (repeat' (with_reducible first | apply And.intro | intro _)) <;> (refine Less.start ?_; repeat (first | exact LessO.nil | exact LessO.all | refine LessO.skip (by decide) ?_ | refine LessO.upd ?_ ?_ | refine LessO.set ?_ ?_)) <;> (try simp (maxSteps := 1000000) (disch := omega) only [push_cast, go_sem, zA, zB, zC, zD, zE, zF, simprocAttr])
    all_goals simp_all [Do.valued]
  refine Sat.of (S := [2]) (by kernel_rfl) ?_
  simp (maxSteps := 1000000) (disch := omega) only [push_cast, go_sem, zA, zB, zC, zD, zE, zF, simprocAttr]
  refine Sat.cutS (upd (upd (upd noT 1 (.ptr 1 [] 0 0 g 3)) 3 (.bool d.valued)) 4 (.bool d.uses)) (noM.set 1 (.own 62 (some g) 1 [.agg [.int .i64 d.k, .int .i64 d.p, .int .i64 d.v]])) (Sat.of (S := []) (by kernel_rfl) ?_) ?_
  · simp (maxSteps := 1000000) (disch := omega) only [push_cast, go_sem, zA, zB, zC, zD, zE, zF, simprocAttr]
    (repeat' (first | (with_reducible first | apply And.intro | intro _) | (first | refine callR.pure (l1Reads_fn d) rfl rfl ?_ | refine callR.pure (l1Writes_fn d) rfl rfl ?_) <;> (simp (maxSteps := 1000000) (disch := omega) only [push_cast, go_sem, zA, zB, zC, zD, zE, zF, simprocAttr])))
    all_goals (refine Less.start ?_; repeat (first | exact LessO.nil | exact LessO.all | refine LessO.skip (by decide) ?_ | refine LessO.upd ?_ ?_ | refine LessO.set ?_ ?_)) <;> (try simp (maxSteps := 1000000) (disch := omega) only [push_cast, go_sem, zA, zB, zC, zD, zE, zF, simprocAttr])
    all_goals simp_all [Do.uses]
  refine Sat.of (S := []) (by kernel_rfl) ?_
  cases hv : d.valued <;> cases hu : d.uses
  all_goals simp (maxSteps := 1000000) (disch := omega) only [push_cast, go_sem, zA, zB, zC, zD, zE, zF, simprocAttr]
  all_goals (repeat' (first | (with_reducible first | apply And.intro | intro _) | (first | refine callR.pure (l6In_fn _ _ _) rfl rfl ?_) <;> (simp (maxSteps := 1000000) (disch := omega) only [push_cast, go_sem, zA, zB, zC, zD, zE, zF, simprocAttr])))
  all_goals simp_all [Do.formed]
end Go.Proofs.YtfbgabkcjjahiaaGreatDoor
namespace Go.Proofs.YtfbgabkcjjahiaaGreatDoor
open Go.RowKit
set_option pp.maxSteps 3000

set_option maxHeartbeats 4000000 in
theorem l1Thread_fn (l : List Do) : Fp Tryz.prog 71 [.sl (l.map Do.V)] (.bool (threadOk l)) := by
  refine Fc.start (S := []) Tryz.func71 Tryz.ntmps71 Tryz.results71 rfl (by decide) rfl (by kernel_rfl) ?_
  by_cases h7 : (7 : Int) < l.length
  · simp (maxSteps := 1000000) (disch := omega) only [push_cast, go_sem, zA, zB, zC, zD, zE, zF, simprocAttr, h7]
    simp [threadOk]; omega
  simp (maxSteps := 1000000) (disch := omega) only [push_cast, go_sem, zA, zB, zC, zD, zE, zF, simprocAttr, h7]
  refine Sat.loop (σ := Nat × Bool × Bool) (fun x => upd (upd (upd (upd noT 0 (.sl (l.map Do.V))) 5 (.int .i64 x.1)) 3 (.bool x.2.1)) 4 (.bool x.2.2)) (fun _ => noM)
    (fun x => x.1 ≤ l.length ∧ thrGo l false false = thrGo (l.drop x.1) x.2.1 x.2.2) (fun x => l.length - x.1) (0, false, false) (by simp) ?_ ?_
  · (refine Less.start ?_; repeat (first | exact LessO.nil | exact LessO.all | refine LessO.skip (by decide) ?_ | refine LessO.upd ?_ ?_ | refine LessO.set ?_ ?_)) <;> (try simp (maxSteps := 1000000) (disch := omega) only [push_cast, go_sem, zA, zB, zC, zD, zE, zF, simprocAttr])
  rintro ⟨i, r, n⟩ ⟨hi, hg⟩ J hJ
  refine Sat.of (S := [1001]) (by kernel_rfl) ?_
  simp only at hi hg hJ
  rcases Nat.lt_or_ge i l.length with hlt | hge
  · obtain ⟨d, he⟩ : ∃ d, l[i]? = some d := ⟨_, List.getElem?_eq_getElem hlt⟩
    rw [drop_get he, thrGo] at hg
    simp (maxSteps := 1000000) (disch := omega) only [push_cast, go_sem, zA, zB, zC, zD, zE, zF, simprocAttr, he, hlt, Do.V_eq]
    refine Sat.cutP (upd (upd (upd (upd noT 0 (.sl (l.map Do.V))) 5 (.int .i64 i)) 3 (.bool (r || d.reads))) 4 (.bool (d.k == 7 || (n && !(d.k == 8))))) noM (d.formed = true ∧ d.wrong r n = false) (Sat.of (S := [9, 11]) (by kernel_rfl) ?_) ?_
    · simp (maxSteps := 1000000) (disch := omega) only [push_cast, go_sem, zA, zB, zC, zD, zE, zF, simprocAttr, he, hlt, Do.V_eq]
      intro g
      refine Sat.cutS (upd (upd (upd (upd (upd (upd noT 0 (.sl (l.map Do.V))) 5 (.int .i64 i)) 3 (.bool r)) 4 (.bool n)) 6 (.ptr 6 [] 0 0 g 3)) 56 (.bool (!d.formed || d.wrong r n))) (noM.set 6 (.own 62 (some g) 1 [.agg [.int .i64 d.k, .int .i64 d.p, .int .i64 d.v]])) (Sat.of (S := []) (by kernel_rfl) ?_) ?_
      · simp (maxSteps := 1000000) (disch := omega) only [push_cast, go_sem, zA, zB, zC, zD, zE, zF, simprocAttr, Do.V_eq]
        refine callR.pure (l1Do_fn d) rfl rfl ?_
        cases r <;> cases n <;> simp (maxSteps := 1000000) (disch := omega) only [push_cast, go_sem, zA, zB, zC, zD, zE, zF, simprocAttr, Do.V_eq]
        all_goals (repeat' (with_reducible first | apply And.intro | intro _)) <;> (refine Less.start ?_; repeat (first | exact LessO.nil | exact LessO.all | refine LessO.skip (by decide) ?_ | refine LessO.upd ?_ ?_ | refine LessO.set ?_ ?_)) <;> (try simp (maxSteps := 1000000) (disch := omega) only [push_cast, go_sem, zA, zB, zC, zD, zE, zF, simprocAttr])
        all_goals (clear hJ; cases hf : d.formed <;> simp_all [Do.wrong])
      refine Sat.of (S := [11]) (by kernel_rfl) ?_
      cases hf : d.formed
      · simp (maxSteps := 1000000) (disch := omega) only [push_cast, go_sem, zA, zB, zC, zD, zE, zF, simprocAttr]
        simp [threadOk, hg, hf]
      cases hw : d.wrong r n
      · simp (maxSteps := 1000000) (disch := omega) only [push_cast, go_sem, zA, zB, zC, zD, zE, zF, simprocAttr]
        refine Sat.cut1 [] 3 (.bool (r || d.reads)) (by kernel_rfl) ?_ ?_
        · cases r <;> simp (maxSteps := 1000000) (disch := omega) only [push_cast, go_sem, zA, zB, zC, zD, zE, zF, simprocAttr]
          · refine callR.pure (l1Reads_fn d) rfl rfl ?_
            simp (maxSteps := 1000000) (disch := omega) only [push_cast, go_sem, zA, zB, zC, zD, zE, zF, simprocAttr]
            (refine Less.start ?_; repeat (first | exact LessO.nil | exact LessO.all | refine LessO.skip (by decide) ?_ | refine LessO.upd ?_ ?_ | refine LessO.set ?_ ?_)) <;> (try simp (maxSteps := 1000000) (disch := omega) only [push_cast, go_sem, zA, zB, zC, zD, zE, zF, simprocAttr])
          · (refine Less.start ?_; repeat (first | exact LessO.nil | exact LessO.all | refine LessO.skip (by decide) ?_ | refine LessO.upd ?_ ?_ | refine LessO.set ?_ ?_)) <;> (try simp (maxSteps := 1000000) (disch := omega) only [push_cast, go_sem, zA, zB, zC, zD, zE, zF, simprocAttr])
        refine Sat.of (S := []) (by kernel_rfl) ?_
        cases n <;> simp (maxSteps := 1000000) (disch := omega) only [push_cast, go_sem, zA, zB, zC, zD, zE, zF, simprocAttr]
        all_goals (repeat' (with_reducible first | apply And.intro | intro _)) <;> (refine Less.start ?_; repeat (first | exact LessO.nil | exact LessO.all | refine LessO.skip (by decide) ?_ | refine LessO.upd ?_ ?_ | refine LessO.set ?_ ?_)) <;> (try simp (maxSteps := 1000000) (disch := omega) only [push_cast, go_sem, zA, zB, zC, zD, zE, zF, simprocAttr])
        all_goals (clear hJ; simp_all [bne])
      · simp (maxSteps := 1000000) (disch := omega) only [push_cast, go_sem, zA, zB, zC, zD, zE, zF, simprocAttr]
        simp [threadOk, hg, hw]
    rintro ⟨hf, hw⟩
    refine Sat.of (S := []) (by kernel_rfl) ?_
    simp (maxSteps := 1000000) (disch := omega) only [push_cast, go_sem, zA, zB, zC, zD, zE, zF, simprocAttr]
    refine hJ (i + 1, _, _) _ _ ⟨by omega, by simp only [hg, hf, hw]; rfl⟩ (by simp only; omega) ?_
    (refine Less.start ?_; repeat (first | exact LessO.nil | exact LessO.all | refine LessO.skip (by decide) ?_ | refine LessO.upd ?_ ?_ | refine LessO.set ?_ ?_)) <;> (try simp (maxSteps := 1000000) (disch := omega) only [push_cast, go_sem, zA, zB, zC, zD, zE, zF, simprocAttr])
  · have : i = l.length := by omega
    subst this
    simp (maxSteps := 1000000) (disch := omega) only [push_cast, go_sem, zA, zB, zC, zD, zE, zF, simprocAttr]
    cases n <;> simp (maxSteps := 1000000) (disch := omega) only [push_cast, go_sem, zA, zB, zC, zD, zE, zF, simprocAttr] <;> (simp [threadOk, hg, thrGo]; try omega)
end Go.Proofs.YtfbgabkcjjahiaaGreatDoor
namespace Go.Proofs.YtfbgabkcjjahiaaGreatDoor
open Go.RowKit
set_option pp.maxSteps 3000

def thrV (l : List Do) : V := .sl (l.map Do.V)
theorem thrV_eq (l : List Do) : thrV l = .sl (l.map Do.V) := rfl
@[push_cast] theorem flatL_thr (p : Prog) : flatL (p.map thrV) = true := by simp [flatL, thrV, V.cells, V.flatC]
@[push_cast] theorem okY_thr (p : Prog) : okY Tryz.prog 60 (p.map thrV) = True := by
  simp only [okY, List.mem_map, eq_iff_iff, iff_true]
  rintro y ⟨d, _, rfl⟩
  exact ⟨by rw [szT_60]; rfl, by simp [thrV, V.cells, V.one]⟩
def progV (p : Prog) : V := .agg [.sl (p.map thrV)]
theorem progV_eq (p : Prog) : progV p = .agg [.sl (p.map thrV)] := rfl

theorem usesOf_le (l : List Do) : usesOf l ≤ l.length := List.length_filter_le _ _
theorem threadOk_le {l : List Do} (h : threadOk l = true) : l.length ≤ 7 := by
  simp [threadOk] at h; exact h.2
theorem ok_le : ∀ {p : Prog}, p.all threadOk = true → stepsP p ≤ 7 * p.length ∧ usesP p ≤ stepsP p
  | [], _ => by simp [stepsP, usesP]
  | l :: p, h => by
    simp only [List.all_cons, Bool.and_eq_true] at h
    have h1 := threadOk_le h.1
    have h2 := ok_le h.2
    have h3 := usesOf_le l
    simp only [stepsP, usesP, List.map_cons, List.sum_cons, List.length_cons] at h2 ⊢
    omega
theorem take_all {p : Prog} {i : Nat} {l : List Do} (he : p[i]? = some l) : (p.take (i + 1)).all threadOk = ((p.take i).all threadOk && threadOk l) ∧ stepsP (p.take (i + 1)) = stepsP (p.take i) + l.length ∧ usesP (p.take (i + 1)) = usesP (p.take i) + usesOf l := by
  rw [take_get he]
  simp [stepsP, usesP]
theorem all_take {p : Prog} {i : Nat} {l : List Do} (he : p[i]? = some l) (h : threadOk l = false) : p.all threadOk = false := by
  rw [List.all_eq_false]
  exact ⟨l, List.mem_of_getElem? he, by simp [h]⟩
theorem usesOf_take {l : List Do} {i : Nat} {d : Do} (he : l[i]? = some d) : usesOf (l.take (i + 1)) = usesOf (l.take i) + if d.uses then 1 else 0 := by
  rw [take_get he]
  simp only [usesOf, List.filter_append, List.length_append]
  cases h : d.uses <;> simp [h]

theorem implProgOk_fn (p : Prog) (hp : p.length < 2 ^ 40) (hl : ∀ l ∈ p, l.length < 2 ^ 40) : Fp Tryz.prog 46 [progV p] (.bool (progOk p)) := by
  refine Fc.start (S := []) Tryz.func46 Tryz.ntmps46 Tryz.results46 rfl (by decide) rfl (by kernel_rfl) ?_
  by_cases h3 : (3 : Int) < p.length
  · simp (maxSteps := 1000000) (disch := omega) only [push_cast, go_sem, zA, zB, zC, zD, zE, zF, simprocAttr, h3, progV_eq]
    simp [progOk]; omega
  simp (maxSteps := 1000000) (disch := omega) only [push_cast, go_sem, zA, zB, zC, zD, zE, zF, simprocAttr, h3, progV_eq]
  intro g
  have hp3 : p.length ≤ 3 := by omega
  refine Sat.loop (σ := Nat) (fun i => upd (upd (upd (upd (upd noT 14 (.sl (p.map thrV))) 15 (.int .i64 p.length)) 16 (.int .i64 i)) 3 (.int .i64 (stepsP (p.take i)))) 4 (.int .i64 (usesP (p.take i)))) (fun _ => noM)
    (fun i => i ≤ p.length ∧ (p.take i).all threadOk = true) (fun i => p.length - i) 0 (by simp) ?_ ?_
  · (refine Less.start ?_; repeat (first | exact LessO.nil | exact LessO.all | refine LessO.skip (by decide) ?_ | refine LessO.upd ?_ ?_ | refine LessO.set ?_ ?_)) <;> (try simp (maxSteps := 1000000) (disch := omega) only [push_cast, go_sem, zA, zB, zC, zD, zE, zF, simprocAttr])
    all_goals simp [stepsP, usesP]
  rintro i ⟨hi, hg⟩ J hJ
  refine Sat.of (S := [1001]) (by kernel_rfl) ?_
  have hb := ok_le hg
  simp only [List.length_take] at hb
  rcases Nat.lt_or_ge i p.length with hlt | hge
  · obtain ⟨l, he⟩ : ∃ l, p[i]? = some l := ⟨_, List.getElem?_eq_getElem hlt⟩
    have hln := hl l (List.mem_of_getElem? he)
    obtain ⟨t1, t2, t3⟩ := take_all he
    simp (maxSteps := 1000000) (disch := omega) only [push_cast, go_sem, zA, zB, zC, zD, zE, zF, simprocAttr, he, hlt, progV_eq, thrV_eq]
    refine Sat.cutP (upd (upd (upd (upd (upd noT 14 (.sl (p.map thrV))) 15 (.int .i64 p.length)) 16 (.int .i64 i)) 3 (.int .i64 (stepsP (p.take (i + 1))))) 4 (.int .i64 (usesP (p.take (i + 1))))) noM (threadOk l = true) (Sat.of (S := []) (by kernel_rfl) ?_) ?_
    · simp (maxSteps := 1000000) (disch := omega) only [push_cast, go_sem, zA, zB, zC, zD, zE, zF, simprocAttr, he, hlt, progV_eq, thrV_eq]
      refine callR.pure (threadOk_fn l hln) rfl rfl ?_
      cases ht : threadOk l
      · simp (maxSteps := 1000000) (disch := omega) only [push_cast, go_sem, zA, zB, zC, zD, zE, zF, simprocAttr]
        simp [progOk, all_take he ht]
      have hl7 := threadOk_le ht
      simp (maxSteps := 1000000) (disch := omega) only [push_cast, go_sem, zA, zB, zC, zD, zE, zF, simprocAttr]
      refine Sat.loop (σ := Nat) (fun k => upd (upd (upd (upd (upd (upd (upd (upd noT 14 (.sl (p.map thrV))) 15 (.int .i64 p.length)) 16 (.int .i64 i)) 3 (.int .i64 (stepsP (p.take (i + 1))))) 27 (.sl (l.map Do.V))) 28 (.int .i64 l.length)) 29 (.int .i64 k)) 4 (.int .i64 (usesP (p.take i) + usesOf (l.take k) : Nat))) (fun _ => noM)
        (fun k => k ≤ l.length) (fun k => l.length - k) 0 (by simp) ?_ ?_
      · (refine Less.start ?_; repeat (first | exact LessO.nil | exact LessO.all | refine LessO.skip (by decide) ?_ | refine LessO.upd ?_ ?_ | refine LessO.set ?_ ?_)) <;> (try simp (maxSteps := 1000000) (disch := omega) only [push_cast, go_sem, zA, zB, zC, zD, zE, zF, simprocAttr])
        all_goals simp [usesOf, t2]
      intro k hk J2 hJ2
      refine Sat.of (S := []) (by kernel_rfl) ?_
      rcases Nat.lt_or_ge k l.length with hkl | hkg
      · obtain ⟨d, hd⟩ : ∃ d, l[k]? = some d := ⟨_, List.getElem?_eq_getElem hkl⟩
        have hu := usesOf_take hd
        have hv := usesOf_le (l.take k)
        simp only [List.length_take] at hv
        simp (maxSteps := 1000000) (disch := omega) only [push_cast, go_sem, zA, zB, zC, zD, zE, zF, simprocAttr, hd, hkl, Do.V_eq]
        refine fun g2 => callR.pure (uses_fn d) rfl rfl ?_
        cases hdu : d.uses
        · simp (maxSteps := 1000000) (disch := omega) only [push_cast, go_sem, zA, zB, zC, zD, zE, zF, simprocAttr]
          refine hJ2 (k + 1) _ _ (by omega) (by omega) ?_
          (refine Less.start ?_; repeat (first | exact LessO.nil | exact LessO.all | refine LessO.skip (by decide) ?_ | refine LessO.upd ?_ ?_ | refine LessO.set ?_ ?_)) <;> (try simp (maxSteps := 1000000) (disch := omega) only [push_cast, go_sem, zA, zB, zC, zD, zE, zF, simprocAttr])
          rw [hu, hdu]; rfl
        · simp (maxSteps := 1000000) (disch := omega) only [push_cast, go_sem, zA, zB, zC, zD, zE, zF, simprocAttr]
          refine hJ2 (k + 1) _ _ (by omega) (by omega) ?_
          (refine Less.start ?_; repeat (first | exact LessO.nil | exact LessO.all | refine LessO.skip (by decide) ?_ | refine LessO.upd ?_ ?_ | refine LessO.set ?_ ?_)) <;> (try simp (maxSteps := 1000000) (disch := omega) only [push_cast, go_sem, zA, zB, zC, zD, zE, zF, simprocAttr])
          rw [hu, hdu]; simp; omega
      · have : k = l.length := by omega
        subst this
        simp (maxSteps := 1000000) (disch := omega) only [push_cast, go_sem, zA, zB, zC, zD, zE, zF, simprocAttr]
        (refine Less.start ?_; repeat (first | exact LessO.nil | exact LessO.all | refine LessO.skip (by decide) ?_ | refine LessO.upd ?_ ?_ | refine LessO.set ?_ ?_)) <;> (try simp (maxSteps := 1000000) (disch := omega) only [push_cast, go_sem, zA, zB, zC, zD, zE, zF, simprocAttr])
        rw [t3]; simp
    intro ht
    refine Sat.of (S := []) (by kernel_rfl) ?_
    simp (maxSteps := 1000000) (disch := omega) only [push_cast, go_sem, zA, zB, zC, zD, zE, zF, simprocAttr]
    refine hJ (i + 1) _ _ ⟨by omega, by rw [t1, hg, ht]; rfl⟩ (by omega) ?_
    (refine Less.start ?_; repeat (first | exact LessO.nil | exact LessO.all | refine LessO.skip (by decide) ?_ | refine LessO.upd ?_ ?_ | refine LessO.set ?_ ?_)) <;> (try simp (maxSteps := 1000000) (disch := omega) only [push_cast, go_sem, zA, zB, zC, zD, zE, zF, simprocAttr])
  · have : i = p.length := by omega
    subst this
    simp only [List.take_length] at hb hg
    simp (maxSteps := 1000000) (disch := omega) only [push_cast, go_sem, zA, zB, zC, zD, zE, zF, simprocAttr]
    simp only [progOk, hg]
    refine ⟨fun h => ?_, fun h => ?_⟩
    · have h' : stepsP p ≤ 14 := by omega
      simp [h', hp3]; omega
    · have h' : ¬ stepsP p ≤ 14 := by omega
      simp [h']

/-- The box of a program. -/
def boxP (p : Prog) (g : Nat) : V := .own 25 (some g) 1 [.agg [.sl (p.map thrV)]]
theorem boxP_eq (p : Prog) (g : Nat) : boxP p g = .own 25 (some g) 1 [.agg [.sl (p.map thrV)]] := rfl

theorem specProgOk_fn (p : Prog) (hp : p.length < 2 ^ 40) : Fp Tryz.prog 36 [progV p] (.bool (progOk p)) := by
  refine Fc.start (S := []) Tryz.func36 Tryz.ntmps36 Tryz.results36 rfl (by decide) rfl (by kernel_rfl) ?_
  by_cases h3 : (3 : Int) < p.length
  · simp (maxSteps := 1000000) (disch := omega) only [push_cast, go_sem, zA, zB, zC, zD, zE, zF, simprocAttr, h3, progV_eq]
    simp [progOk]; omega
  simp (maxSteps := 1000000) (disch := omega) only [push_cast, go_sem, zA, zB, zC, zD, zE, zF, simprocAttr, h3, progV_eq]
  intro g
  have hp3 : p.length ≤ 3 := by omega
  refine Sat.loop (σ := Nat) (fun i => upd (upd (upd (upd noT 1 (.ptr 1 [] 0 0 g 1)) 5 (.int .i64 i)) 3 (.int .i64 (stepsP (p.take i)))) 4 (.int .i64 (usesP (p.take i)))) (fun _ => noM.set 1 (boxP p g))
    (fun i => i ≤ p.length ∧ (p.take i).all threadOk = true) (fun i => p.length - i) 0 (by simp) ?_ ?_
  · (refine Less.start ?_; repeat (first | exact LessO.nil | exact LessO.all | refine LessO.skip (by decide) ?_ | refine LessO.upd ?_ ?_ | refine LessO.set ?_ ?_)) <;> (try simp (maxSteps := 1000000) (disch := omega) only [push_cast, go_sem, zA, zB, zC, zD, zE, zF, simprocAttr])
    all_goals simp [stepsP, usesP, boxP]
  rintro i ⟨hi, hg⟩ J hJ
  refine Sat.of (S := [1001]) (by kernel_rfl) ?_
  have hb := ok_le hg
  simp only [List.length_take] at hb
  rcases Nat.lt_or_ge i p.length with hlt | hge
  · obtain ⟨l, he⟩ : ∃ l, p[i]? = some l := ⟨_, List.getElem?_eq_getElem hlt⟩
    obtain ⟨t1, t2, t3⟩ := take_all he
    simp (maxSteps := 1000000) (disch := omega) only [push_cast, go_sem, zA, zB, zC, zD, zE, zF, simprocAttr, he, hlt, boxP_eq, thrV_eq]
    refine Sat.cutP (upd (upd (upd (upd noT 1 (.ptr 1 [] 0 0 g 1)) 5 (.int .i64 i)) 3 (.int .i64 (stepsP (p.take (i + 1))))) 4 (.int .i64 (usesP (p.take (i + 1))))) (noM.set 1 (boxP p g)) (threadOk l = true) (Sat.of (S := []) (by kernel_rfl) ?_) ?_
    · simp (maxSteps := 1000000) (disch := omega) only [push_cast, go_sem, zA, zB, zC, zD, zE, zF, simprocAttr, he, hlt, boxP_eq, thrV_eq]
      refine callR.pure (l1Thread_fn l) rfl rfl ?_
      cases ht : threadOk l
      · simp (maxSteps := 1000000) (disch := omega) only [push_cast, go_sem, zA, zB, zC, zD, zE, zF, simprocAttr]
        simp [progOk, all_take he ht]
      have hl7 := threadOk_le ht
      simp (maxSteps := 1000000) (disch := omega) only [push_cast, go_sem, zA, zB, zC, zD, zE, zF, simprocAttr, he, hlt, boxP_eq, thrV_eq]
      refine Sat.loop (σ := Nat) (fun k => upd (upd (upd (upd (upd noT 1 (.ptr 1 [] 0 0 g 1)) 5 (.int .i64 i)) 3 (.int .i64 (stepsP (p.take (i + 1))))) 6 (.int .i64 k)) 4 (.int .i64 (usesP (p.take i) + usesOf (l.take k) : Nat))) (fun _ => noM.set 1 (boxP p g))
        (fun k => k ≤ l.length) (fun k => l.length - k) 0 (by simp) ?_ ?_
      · (refine Less.start ?_; repeat (first | exact LessO.nil | exact LessO.all | refine LessO.skip (by decide) ?_ | refine LessO.upd ?_ ?_ | refine LessO.set ?_ ?_)) <;> (try simp (maxSteps := 1000000) (disch := omega) only [push_cast, go_sem, zA, zB, zC, zD, zE, zF, simprocAttr])
        all_goals simp [usesOf, t2, boxP]
      intro k hk J2 hJ2
      refine Sat.of (S := []) (by kernel_rfl) ?_
      rcases Nat.lt_or_ge k l.length with hkl | hkg
      · obtain ⟨d, hd⟩ : ∃ d, l[k]? = some d := ⟨_, List.getElem?_eq_getElem hkl⟩
        have hu := usesOf_take hd
        have hv := usesOf_le (l.take k)
        simp only [List.length_take] at hv
        simp (maxSteps := 1000000) (disch := omega) only [push_cast, go_sem, zA, zB, zC, zD, zE, zF, simprocAttr, he, hlt, hd, hkl, Do.V_eq, boxP_eq, thrV_eq]
        refine callR.pure (l1Reads_fn d) rfl rfl ?_
        cases hr : d.reads
        · simp (maxSteps := 1000000) (disch := omega) only [push_cast, go_sem, zA, zB, zC, zD, zE, zF, simprocAttr, he, hlt, hd, hkl, Do.V_eq, boxP_eq, thrV_eq]
          refine callR.pure (l1Writes_fn d) rfl rfl ?_
          cases hw : d.writes
          · simp (maxSteps := 1000000) (disch := omega) only [push_cast, go_sem, zA, zB, zC, zD, zE, zF, simprocAttr]
            refine hJ2 (k + 1) _ _ (by omega) (by omega) ?_
            (refine Less.start ?_; repeat (first | exact LessO.nil | exact LessO.all | refine LessO.skip (by decide) ?_ | refine LessO.upd ?_ ?_ | refine LessO.set ?_ ?_)) <;> (try simp (maxSteps := 1000000) (disch := omega) only [push_cast, go_sem, zA, zB, zC, zD, zE, zF, simprocAttr])
            · rfl
            · rw [hu]; simp [Do.uses, hr, hw]
          · simp (maxSteps := 1000000) (disch := omega) only [push_cast, go_sem, zA, zB, zC, zD, zE, zF, simprocAttr]
            refine hJ2 (k + 1) _ _ (by omega) (by omega) ?_
            (refine Less.start ?_; repeat (first | exact LessO.nil | exact LessO.all | refine LessO.skip (by decide) ?_ | refine LessO.upd ?_ ?_ | refine LessO.set ?_ ?_)) <;> (try simp (maxSteps := 1000000) (disch := omega) only [push_cast, go_sem, zA, zB, zC, zD, zE, zF, simprocAttr])
            · rfl
            · rw [hu]; simp [Do.uses, hr, hw]; omega
        · simp (maxSteps := 1000000) (disch := omega) only [push_cast, go_sem, zA, zB, zC, zD, zE, zF, simprocAttr]
          refine hJ2 (k + 1) _ _ (by omega) (by omega) ?_
          (refine Less.start ?_; repeat (first | exact LessO.nil | exact LessO.all | refine LessO.skip (by decide) ?_ | refine LessO.upd ?_ ?_ | refine LessO.set ?_ ?_)) <;> (try simp (maxSteps := 1000000) (disch := omega) only [push_cast, go_sem, zA, zB, zC, zD, zE, zF, simprocAttr])
          · rfl
          · rw [hu]; simp [Do.uses, hr]; omega
      · have : k = l.length := by omega
        subst this
        simp (maxSteps := 1000000) (disch := omega) only [push_cast, go_sem, zA, zB, zC, zD, zE, zF, simprocAttr, he, hlt, boxP_eq, thrV_eq]
        (refine Less.start ?_; repeat (first | exact LessO.nil | exact LessO.all | refine LessO.skip (by decide) ?_ | refine LessO.upd ?_ ?_ | refine LessO.set ?_ ?_)) <;> (try simp (maxSteps := 1000000) (disch := omega) only [push_cast, go_sem, zA, zB, zC, zD, zE, zF, simprocAttr])
        rw [t3]; simp
    intro ht
    refine Sat.of (S := []) (by kernel_rfl) ?_
    simp (maxSteps := 1000000) (disch := omega) only [push_cast, go_sem, zA, zB, zC, zD, zE, zF, simprocAttr]
    refine hJ (i + 1) _ _ ⟨by omega, by rw [t1, hg, ht]; rfl⟩ (by omega) ?_
    (refine Less.start ?_; repeat (first | exact LessO.nil | exact LessO.all | refine LessO.skip (by decide) ?_ | refine LessO.upd ?_ ?_ | refine LessO.set ?_ ?_)) <;> (try simp (maxSteps := 1000000) (disch := omega) only [push_cast, go_sem, zA, zB, zC, zD, zE, zF, simprocAttr])
  · have : i = p.length := by omega
    subst this
    simp only [List.take_length] at hb hg
    simp (maxSteps := 1000000) (disch := omega) only [push_cast, go_sem, zA, zB, zC, zD, zE, zF, simprocAttr, boxP_eq]
    simp only [progOk, hg]
    refine ⟨fun h => ?_, fun h => ?_⟩
    · have h' : stepsP p ≤ 14 := by omega
      simp [h', hp3]; omega
    · have h' : ¬ stepsP p ≤ 14 := by omega
      simp [h']
end Go.Proofs.YtfbgabkcjjahiaaGreatDoor
namespace Go.Proofs.YtfbgabkcjjahiaaGreatDoor
open Go.RowKit
set_option pp.maxSteps 3000

theorem l71Do_rd (bs : List Int) (hb : Bytes bs) (g p : Nat) (hp : p < 2 ^ 29) (n : Int) (hn : n < 2 ^ 30) : Fr Tryz.prog 147 [.int .i64 n] g (rdO bs g p)
    (fun r o' => ∃ d : Do, r = d.V ∧ ∃ q, p ≤ q ∧ q ≤ p + 3 ∧ o' = rdO bs g q) := by
  refine Fc.start (S := [2002, 2004]) Tryz.func147 Tryz.ntmps147 Tryz.results147 rfl (by decide) rfl (by kernel_rfl) ?_
  simp (maxSteps := 1000000) (disch := omega) only [push_cast, go_sem, zA, zB, zC, zD, zE, zF, simprocAttr]
  intro g1 g2
  refine callR.rd (pick_rd bs hb g p (by omega) 10 (by omega)) rfl rfl rfl ?_
  rintro r o' ⟨v, rfl, hv0, hv1, _, rfl⟩
  have hv : v < 10 := hv1 (by omega)
  obtain ⟨m, rfl⟩ := Int.eq_ofNat_of_zero_le hv0
  obtain ⟨z, hz⟩ := ints_get (l := [.int .i64 1, .int .i64 1, .int .i64 1, .int .i64 2, .int .i64 2, .int .i64 2, .int .i64 3, .int .i64 4, .int .i64 5, .int .i64 6]) (n := m) rfl (by simp; omega)
  simp (maxSteps := 1000000) (disch := omega) only [push_cast, go_sem, zA, zB, zC, zD, zE, zF, simprocAttr, hz]
  refine ⟨by omega, fun g3 => ?_⟩
  refine Sat.cut (σ := Do × Nat) [] (fun x => upd (upd (upd (upd noT 0 (.ptr 0 [] 0 0 g 2)) 1 (.int .i64 n)) 4 (.ptr 4 [] 0 0 g1 3)) 5 (.ptr 5 [] 0 0 g3 3))
    (fun x => ((noM.set 0 (rdO bs g x.2)).set 4 (.own 62 (some g1) 1 [.agg [.int .i64 0, .int .i64 0, .int .i64 0]])).set 5 (.own 62 (some g3) 1 [.agg [.int .i64 x.1.k, .int .i64 x.1.p, .int .i64 x.1.v]]))
    (fun x => p ≤ x.2 ∧ x.2 ≤ p + 2) (by kernel_rfl) ?_ ?_
  · simp (maxSteps := 1000000) (disch := omega) only [push_cast, go_sem, zA, zB, zC, zD, zE, zF, simprocAttr]
    refine callR.pure (l1Reads_fn ⟨z, 0, 0⟩) rfl rfl ?_
    cases hr : (Do.reads ⟨z, 0, 0⟩)
    · simp (maxSteps := 1000000) (disch := omega) only [push_cast, go_sem, zA, zB, zC, zD, zE, zF, simprocAttr]
      refine callR.pure (l1Writes_fn ⟨z, 0, 0⟩) rfl rfl ?_
      cases hw : (Do.writes ⟨z, 0, 0⟩)
      · simp (maxSteps := 1000000) (disch := omega) only [push_cast, go_sem, zA, zB, zC, zD, zE, zF, simprocAttr]
        refine ⟨(⟨z, 0, 0⟩, p + 1), by simp, ?_⟩
        (refine Less.start ?_; repeat (first | exact LessO.nil | exact LessO.all | refine LessO.skip (by decide) ?_ | refine LessO.upd ?_ ?_ | refine LessO.set ?_ ?_)) <;> (try simp (maxSteps := 1000000) (disch := omega) only [push_cast, go_sem, zA, zB, zC, zD, zE, zF, simprocAttr])
      · simp (maxSteps := 1000000) (disch := omega) only [push_cast, go_sem, zA, zB, zC, zD, zE, zF, simprocAttr]
        refine callR.rd (pick_rd bs hb g (p + 1) (by omega) n hn) rfl rfl rfl ?_
        rintro r o' ⟨v, rfl, hv0, hv1, _, rfl⟩
        simp (maxSteps := 1000000) (disch := omega) only [push_cast, go_sem, zA, zB, zC, zD, zE, zF, simprocAttr]
        refine ⟨(⟨z, v, 0⟩, p + 2), by simp, ?_⟩
        (refine Less.start ?_; repeat (first | exact LessO.nil | exact LessO.all | refine LessO.skip (by decide) ?_ | refine LessO.upd ?_ ?_ | refine LessO.set ?_ ?_)) <;> (try simp (maxSteps := 1000000) (disch := omega) only [push_cast, go_sem, zA, zB, zC, zD, zE, zF, simprocAttr])
    · simp (maxSteps := 1000000) (disch := omega) only [push_cast, go_sem, zA, zB, zC, zD, zE, zF, simprocAttr]
      refine callR.rd (pick_rd bs hb g (p + 1) (by omega) n hn) rfl rfl rfl ?_
      rintro r o' ⟨v, rfl, hv0, hv1, _, rfl⟩
      simp (maxSteps := 1000000) (disch := omega) only [push_cast, go_sem, zA, zB, zC, zD, zE, zF, simprocAttr]
      refine ⟨(⟨z, v, 0⟩, p + 2), by simp, ?_⟩
      (refine Less.start ?_; repeat (first | exact LessO.nil | exact LessO.all | refine LessO.skip (by decide) ?_ | refine LessO.upd ?_ ?_ | refine LessO.set ?_ ?_)) <;> (try simp (maxSteps := 1000000) (disch := omega) only [push_cast, go_sem, zA, zB, zC, zD, zE, zF, simprocAttr])
  rintro ⟨d, q⟩ ⟨hq1, hq2⟩
  refine Sat.of (S := []) (by kernel_rfl) ?_
  simp only at hq1 hq2
  have fin : ∀ {M : Mem} (d' : Do) (q' : Nat), p ≤ q' → q' ≤ p + 3 → M 0 = some (rdO bs g q') →
      ∃ m, Sub m M ∧ ∃ o', (∃ e : Do, d'.V = e.V ∧ ∃ q, p ≤ q ∧ q ≤ p + 3 ∧ o' = rdO bs g q) ∧ m = noM.set 0 o' :=
    fun d' q' h1 h2 h3 => ⟨_, Sub.set Sub.no h3, _, ⟨d', rfl, q', h1, h2, rfl⟩, rfl⟩
  cases h1 : (d.k == 1) <;> cases h6 : (d.k == 6)
  · simp (maxSteps := 1000000) (disch := omega) only [push_cast, go_sem, zA, zB, zC, zD, zE, zF, simprocAttr, h1, h6]
    refine fin d q hq1 (by omega) ?_
    simp (maxSteps := 1000000) (disch := omega) only [push_cast, go_sem, zA, zB, zC, zD, zE, zF, simprocAttr]
  all_goals
    simp (maxSteps := 1000000) (disch := omega) only [push_cast, go_sem, zA, zB, zC, zD, zE, zF, simprocAttr, h1, h6]
    refine callR.rd (pick_rd bs hb g q (by omega) 3 (by omega)) rfl rfl rfl ?_
    rintro r o' ⟨v, rfl, hv0, hv1, _, rfl⟩
    have hv : v < 3 := hv1 (by omega)
    simp (maxSteps := 1000000) (disch := omega) only [push_cast, go_sem, zA, zB, zC, zD, zE, zF, simprocAttr]
    refine fin ⟨d.k, d.p, 1 + v⟩ (q + 1) (by omega) (by omega) ?_
    simp (maxSteps := 1000000) (disch := omega) only [push_cast, go_sem, zA, zB, zC, zD, zE, zF, simprocAttr]

theorem l71Do_pl (bs : List Int) (hb : Bytes bs) (g p : Nat) (hp : p < 2 ^ 29) (n : Int) (hn : n < 2 ^ 30) : Fr Tryz.prog 147 [.int .i64 n] g (rdO bs g p) (fun r o' => (∃ d : Do, r = d.V) ∧ ∃ q, p ≤ q ∧ q ≤ p + 3 ∧ o' = rdO bs g q) :=
  (l71Do_rd bs hb g p hp n hn).mono (by rintro r o' ⟨d, h1, h2⟩; exact ⟨⟨d, h1⟩, h2⟩)
theorem l71Steps_fn (p : Prog) (hp : p.length < 2 ^ 10) (hl : ∀ l ∈ p, l.length < 2 ^ 10) : Fp Tryz.prog 149 [progV p] (.int .i64 (stepsP p)) := by
  have hb : ∀ i, stepsP (p.take i) ≤ 2 ^ 10 * i := by
    intro i
    induction i with
    | zero => simp [stepsP]
    | succ i ih =>
      cases he : p[i]? with
      | none => rw [List.take_add_one, he]; simp [stepsP] at ih ⊢; omega
      | some l =>
        have := hl l (List.mem_of_getElem? he)
        have h2 := (take_all he).2.1
        omega
  refine Fc.start (S := []) Tryz.func149 Tryz.ntmps149 Tryz.results149 rfl (by decide) rfl (by kernel_rfl) ?_
  simp (maxSteps := 1000000) (disch := omega) only [push_cast, go_sem, zA, zB, zC, zD, zE, zF, simprocAttr, progV_eq]
  intro g
  refine Sat.loop (σ := Nat) (fun i => upd (upd (upd noT 1 (.ptr 1 [] 0 0 g 1)) 4 (.int .i64 i)) 3 (.int .i64 (stepsP (p.take i)))) (fun _ => noM.set 1 (boxP p g))
    (fun i => i ≤ p.length) (fun i => p.length - i) 0 (by simp) ?_ ?_
  · (refine Less.start ?_; repeat (first | exact LessO.nil | exact LessO.all | refine LessO.skip (by decide) ?_ | refine LessO.upd ?_ ?_ | refine LessO.set ?_ ?_)) <;> (try simp (maxSteps := 1000000) (disch := omega) only [push_cast, go_sem, zA, zB, zC, zD, zE, zF, simprocAttr])
    all_goals simp [stepsP, boxP]
  rintro i hi J hJ
  refine Sat.of (S := []) (by kernel_rfl) ?_
  have hbi := hb i
  rcases Nat.lt_or_ge i p.length with hlt | hge
  · obtain ⟨l, he⟩ : ∃ l, p[i]? = some l := ⟨_, List.getElem?_eq_getElem hlt⟩
    have hln := hl l (List.mem_of_getElem? he)
    obtain ⟨t1, t2, t3⟩ := take_all he
    simp (maxSteps := 1000000) (disch := omega) only [push_cast, go_sem, zA, zB, zC, zD, zE, zF, simprocAttr, he, hlt, boxP_eq, thrV_eq]
    refine hJ (i + 1) _ _ (by omega) (by omega) ?_
    (refine Less.start ?_; repeat (first | exact LessO.nil | exact LessO.all | refine LessO.skip (by decide) ?_ | refine LessO.upd ?_ ?_ | refine LessO.set ?_ ?_)) <;> (try simp (maxSteps := 1000000) (disch := omega) only [push_cast, go_sem, zA, zB, zC, zD, zE, zF, simprocAttr])
    · rfl
    · simp [t2]
  · have : i = p.length := by omega
    subst this
    simp (maxSteps := 1000000) (disch := omega) only [push_cast, go_sem, zA, zB, zC, zD, zE, zF, simprocAttr, boxP_eq]

structure ThS where
  l : List Do
  q : Nat
  n : Nat
  γ : Option Nat
  c : Nat
theorem l71Thread_rd (bs : List Int) (hb : Bytes bs) (g p : Nat) (hp : p < 2 ^ 28) (most : Int) (hm : 0 ≤ most) (hm2 : most < 1000) (n : Int) (hn : n < 2 ^ 30) : FrR Tryz.prog 148 [.int .i64 most, .int .i64 n] g (rdO bs g p)
    (fun es o' => ∃ l : List Do, es = l.map Do.V ∧ l.length ≤ most ∧ ∃ q, p ≤ q ∧ q ≤ p + 3001 ∧ o' = rdO bs g q) 62 := by
  refine FrR.of 6 (by decide) ?_
  refine Fc.start (S := []) Tryz.func148 Tryz.ntmps148 Tryz.results148 rfl (by decide) rfl (by kernel_rfl) ?_
  simp (maxSteps := 1000000) (disch := omega) only [push_cast, go_sem, zA, zB, zC, zD, zE, zF, simprocAttr]
  intro g1
  refine callR.rd (pick_rd bs hb g p (by omega) (most + 1) (by omega)) rfl rfl rfl ?_
  rintro r o' ⟨v, rfl, hv0, hv1, _, rfl⟩
  have hv := hv1 (by omega)
  obtain ⟨m, rfl⟩ := Int.eq_ofNat_of_zero_le hv0
  simp (maxSteps := 1000000) (disch := omega) only [push_cast, go_sem, zA, zB, zC, zD, zE, zF, simprocAttr]
  refine Sat.loop (σ := ThS) (fun x => upd (upd (upd (upd noT 0 (.ptr 0 [] 0 0 g 2)) 2 (.int .i64 n)) 7 (.msl 7 [] x.γ x.l.length x.c)) 8 (.int .i64 x.n))
    (fun x => (noM.set 0 (rdO bs g x.q)).set 7 (.own 62 x.γ x.c (x.l.map Do.V)))
    (fun x => (x.l.length + x.n : Int) ≤ most ∧ p ≤ x.q ∧ x.q ≤ p + 1 + 3 * x.l.length) (fun x => x.n) ⟨[], p + 1, m, some g1, 0⟩ (by simp; omega) ?_ ?_
  · (refine Less.start ?_; repeat (first | exact LessO.nil | exact LessO.all | refine LessO.skip (by decide) ?_ | refine LessO.upd ?_ ?_ | refine LessO.set ?_ ?_)) <;> (try simp (maxSteps := 1000000) (disch := omega) only [push_cast, go_sem, zA, zB, zC, zD, zE, zF, simprocAttr])
    all_goals rfl
  rintro ⟨l, q, k, γ, c⟩ ⟨h1, h2, h3⟩ J hJ
  refine Sat.of (S := []) (by kernel_rfl) ?_
  simp only at h1 h2 h3 hJ
  cases k with
  | zero =>
    simp (maxSteps := 1000000) (disch := omega) only [push_cast, go_sem, zA, zB, zC, zD, zE, zF, simprocAttr]
    refine ⟨_, ?_, rdO bs g q, γ, c, l.map Do.V, ⟨l, rfl, by omega, q, h2, by omega, rfl⟩, by rw [List.length_map], rfl⟩
    ((repeat (first | exact Sub.no | refine Sub.set ?_ ?_)) <;> (try simp (disch := omega) only [push_cast, go_sem, zA, zB, zC, zD, zE, zF, simprocAttr]))
  | succ k =>
    have hk : (0 : Int) < (k : Int) + 1 := by omega
    simp (maxSteps := 1000000) (disch := omega) only [push_cast, go_sem, zA, zB, zC, zD, zE, zF, simprocAttr, hk]
    refine callR.rd (l71Do_rd bs hb g q (by omega) n hn) rfl rfl rfl ?_
    rintro r o' ⟨d, rfl, q', hq1, hq2, rfl⟩
    simp (maxSteps := 1000000) (disch := omega) only [push_cast, go_sem, zA, zB, zC, zD, zE, zF, simprocAttr, Do.V_eq]
    intro g2
    refine ⟨by omega, fun γ' c' _ => hJ ⟨l ++ [d], q', k, γ', c'⟩ _ _ ?_ (by simp only; omega) ?_⟩
    · simp; omega
    · (refine Less.start ?_; repeat (first | exact LessO.nil | exact LessO.all | refine LessO.skip (by decide) ?_ | refine LessO.upd ?_ ?_ | refine LessO.set ?_ ?_)) <;> (try simp (maxSteps := 1000000) (disch := omega) only [push_cast, go_sem, zA, zB, zC, zD, zE, zF, simprocAttr])
      all_goals first | rfl | omega | simp [Do.V]

def thrQ (args : List V) (es : List V) : Prop := ∃ (l : List Do) (most : Int), args[1]? = some (.int .i64 most) ∧ es = l.map Do.V ∧ l.length ≤ most
theorem l71Thread_pl (bs : List Int) (hb : Bytes bs) (g p : Nat) (hp : p < 2 ^ 28) (most : Int) (hm : 0 ≤ most) (hm2 : most < 1000) (n : Int) (hn : n < 2 ^ 30) : FrR Tryz.prog 148 [.int .i64 most, .int .i64 n] g (rdO bs g p)
    (fun es o' => thrQ (.ptr 0 [] 0 0 g 2 :: [.int .i64 most, .int .i64 n]) es ∧ ∃ q, p ≤ q ∧ q ≤ p + 3001 ∧ o' = rdO bs g q) 62 :=
  (l71Thread_rd bs hb g p hp most hm hm2 n hn).mono (by rintro r o' ⟨l, h1, h2, h3⟩; exact ⟨⟨l, most, rfl, h1, h2⟩, h3⟩)

theorem l71Reader_rd (bs : List Int) (hb : Bytes bs) (g p : Nat) (hp : p < 2 ^ 28) (n : Int) (hn : n < 2 ^ 30) : FrR Tryz.prog 145 [.int .i64 n] g (rdO bs g p)
    (fun es o' => ∃ l : List Do, es = l.map Do.V ∧ l.length = 4 ∧ ∃ q, p ≤ q ∧ q ≤ p + 6 ∧ o' = rdO bs g q) 62 := by
  refine FrR.of 4 (by decide) ?_
  refine Fc.start (S := []) Tryz.func145 Tryz.ntmps145 Tryz.results145 rfl (by decide) rfl (by kernel_rfl) ?_
  simp (maxSteps := 1000000) (disch := omega) only [push_cast, go_sem, zA, zB, zC, zD, zE, zF, simprocAttr]
  refine callR.rd (pick_rd bs hb g p (by omega) n hn) rfl rfl rfl ?_
  rintro r o' ⟨v, rfl, _, _, _, rfl⟩
  simp (maxSteps := 1000000) (disch := omega) only [push_cast, go_sem, zA, zB, zC, zD, zE, zF, simprocAttr]
  refine callR.rd (pick_rd bs hb g (p + 1) (by omega) n hn) rfl rfl rfl ?_
  rintro r o' ⟨v2, rfl, _, _, _, rfl⟩
  simp (maxSteps := 1000000) (disch := omega) only [push_cast, go_sem, zA, zB, zC, zD, zE, zF, simprocAttr]
  intro g1
  refine callR.rd (pick_rd bs hb g (p + 2) (by omega) 3 (by omega)) rfl rfl rfl ?_
  rintro r o' ⟨v3, rfl, _, _, _, rfl⟩
  simp (maxSteps := 1000000) (disch := omega) only [push_cast, go_sem, zA, zB, zC, zD, zE, zF, simprocAttr]
  have fin : ∀ {M : Mem} (d : Do) (q : Nat), p ≤ q → q ≤ p + 6 → M 0 = some (rdO bs g q) → M 4 = some (.own 62 (some g1) 4 [.agg [.int .i64 7, .int .i64 0, .int .i64 0], .agg [.int .i64 2, .int .i64 v, .int .i64 0], .agg [.int .i64 d.k, .int .i64 d.p, .int .i64 d.v], .agg [.int .i64 8, .int .i64 0, .int .i64 0]]) →
      ∃ m, Sub m M ∧ ∃ o' γ cap es, (∃ l : List Do, es = l.map Do.V ∧ l.length = 4 ∧ ∃ q, p ≤ q ∧ q ≤ p + 6 ∧ o' = rdO bs g q) ∧ V.msl 4 [] (some g1) 4 4 = .msl 4 [] γ es.length cap ∧ m = (noM.set 0 o').set 4 (.own 62 γ cap es) :=
    fun d q h1 h2 h3 h4 => ⟨_, Sub.set (Sub.set Sub.no h3) h4, _, some g1, 4, _, ⟨[⟨7, 0, 0⟩, ⟨2, v, 0⟩, d, ⟨8, 0, 0⟩], rfl, rfl, q, h1, h2, rfl⟩, rfl, rfl⟩
  refine ⟨fun hv => ?_, fun hv => ?_⟩
  · refine callR.rd (l71Do_rd bs hb g (p + 3) (by omega) n hn) rfl rfl rfl ?_
    rintro r o' ⟨d, rfl, q, hq1, hq2, rfl⟩
    simp (maxSteps := 1000000) (disch := omega) only [push_cast, go_sem, zA, zB, zC, zD, zE, zF, simprocAttr, Do.V_eq]
    refine fin d q (by omega) (by omega) ?_ ?_ <;> simp (maxSteps := 1000000) (disch := omega) only [push_cast, go_sem, zA, zB, zC, zD, zE, zF, simprocAttr]
  · refine fin ⟨2, v2, 0⟩ (p + 3) (by omega) (by omega) ?_ ?_ <;> simp (maxSteps := 1000000) (disch := omega) only [push_cast, go_sem, zA, zB, zC, zD, zE, zF, simprocAttr]

theorem l71Waiter_rd (bs : List Int) (hb : Bytes bs) (g p : Nat) (hp : p < 2 ^ 28) (n : Int) (hn : n < 2 ^ 30) : FrR Tryz.prog 146 [.int .i64 n] g (rdO bs g p)
    (fun es o' => ∃ l : List Do, es = l.map Do.V ∧ l.length = 3 ∧ ∃ q, p ≤ q ∧ q ≤ p + 5 ∧ o' = rdO bs g q) 62 := by
  refine FrR.of 4 (by decide) ?_
  refine Fc.start (S := []) Tryz.func146 Tryz.ntmps146 Tryz.results146 rfl (by decide) rfl (by kernel_rfl) ?_
  simp (maxSteps := 1000000) (disch := omega) only [push_cast, go_sem, zA, zB, zC, zD, zE, zF, simprocAttr]
  refine Sat.drawnE [(2, 8), (4, 8), (8, 10), (8, 15), (12, 15), (8, 17), (12, 17)] [] [] (rdTab bs g [(70, 1, pickQ)] []) (by kernel_rfl) (by kernel_rfl) ?_
  simp (maxSteps := 1000000) (disch := omega) only [push_cast, go_sem, zA, zB, zC, zD, zE, zF, simprocAttr]
  refine runD_pl (pick_pl bs hb g p (by omega) n hn) rfl rfl rfl rfl pickQ_ne ?_ ?_
  · rfl
  rintro r q hq1 hq2 ⟨n', v, hn', rfl, hv⟩
  simp (maxSteps := 1000000) (disch := omega) only [push_cast, go_sem, zA, zB, zC, zD, zE, zF, simprocAttr]
  refine runD_pl (pick_pl bs hb g q (by omega) 2 (by omega)) rfl rfl rfl rfl pickQ_ne ?_ ?_
  · rfl
  rintro r q2 hq3 hq4 ⟨n2, v2, hn2, rfl, hv2⟩
  cases hn2
  have hv21 := hv2.2.1 (by omega)
  have hv20 := hv2.1
  simp (maxSteps := 1000000) (disch := omega) only [push_cast, go_sem, zA, zB, zC, zD, zE, zF, simprocAttr]
  intro g1
  refine runD_pl (pick_pl bs hb g q2 (by omega) 2 (by omega)) rfl rfl rfl rfl pickQ_ne ?_ ?_
  · simp (maxSteps := 1000000) (disch := omega) only [push_cast, go_sem, zA, zB, zC, zD, zE, zF, simprocAttr]
  rintro r q3 hq5 hq6 ⟨n3, v3, hn3, rfl, hv3⟩
  cases hn3
  have hv31 := hv3.2.1 (by omega)
  obtain ⟨m, rfl⟩ := Int.eq_ofNat_of_zero_le hv3.1
  obtain ⟨z, hz⟩ := ints_get (l := [.int .i64 1, .int .i64 6]) (n := m) rfl (by simp; omega)
  simp (maxSteps := 1000000) (disch := omega) only [push_cast, go_sem, zA, zB, zC, zD, zE, zF, simprocAttr, hz]
  refine ⟨by omega, ?_⟩
  refine runD_pl (pick_pl bs hb g q3 (by omega) n hn) rfl rfl rfl rfl pickQ_ne ?_ ?_
  · simp (maxSteps := 1000000) (disch := omega) only [push_cast, go_sem, zA, zB, zC, zD, zE, zF, simprocAttr]
  rintro r q4 hq7 hq8 ⟨n4, v4, hn4, rfl, hv4⟩
  simp (maxSteps := 1000000) (disch := omega) only [push_cast, go_sem, zA, zB, zC, zD, zE, zF, simprocAttr]
  refine runD_pl (pick_pl bs hb g q4 (by omega) 2 (by omega)) rfl rfl rfl rfl pickQ_ne ?_ ?_
  · simp (maxSteps := 1000000) (disch := omega) only [push_cast, go_sem, zA, zB, zC, zD, zE, zF, simprocAttr]
  rintro r q5 hq9 hq10 ⟨n5, v5, hn5, rfl, hv5⟩
  cases hn5
  have hv51 := hv5.2.1 (by omega)
  have hv50 := hv5.1
  simp (maxSteps := 1000000) (disch := omega) only [push_cast, go_sem, zA, zB, zC, zD, zE, zF, simprocAttr]
  intro g2
  refine ⟨_, ?_, rdO bs g q5, some g2, 3, [⟨1, v, 1 + v2⟩, ⟨9, 0, 0⟩, ⟨z, v4, 1 + v5⟩].map Do.V, ⟨_, rfl, rfl, q5, by omega, by omega, rfl⟩, rfl, rfl⟩
  ((repeat (first | exact Sub.no | refine Sub.set ?_ ?_)) <;> (try simp (disch := omega) only [push_cast, go_sem, zA, zB, zC, zD, zE, zF, simprocAttr]))
  rfl
end Go.Proofs.YtfbgabkcjjahiaaGreatDoor
namespace Go.Proofs.YtfbgabkcjjahiaaGreatDoor
open Go.RowKit
set_option pp.maxSteps 3000

/-- A thread that is owned. -/
structure RowO where
  γ : Option Nat
  c : Nat
  l : List Do
def RowO.V (x : RowO) : V := .own 62 x.γ x.c (x.l.map Do.V)
theorem RowO.V_eq (x : RowO) : x.V = .own 62 x.γ x.c (x.l.map Do.V) := rfl
/-- A program in the making. -/
structure BoxO where
  e : TypeId
  γ : Option Nat
  c : Nat
  xs : List RowO
def BoxO.V (x : BoxO) (g : Nat) : V := .own 25 (some g) 1 [.agg [.own x.e x.γ x.c (x.xs.map RowO.V)]]
theorem BoxO.V_eq (x : BoxO) (g : Nat) : x.V g = .own 25 (some g) 1 [.agg [.own x.e x.γ x.c (x.xs.map RowO.V)]] := rfl
def BoxO.p (x : BoxO) : Prog := x.xs.map RowO.l
theorem fz_row (x : RowO) : x.V.fz = thrV x.l := by
  simp only [RowO.V, V.fz, fzs_map, List.map_map, thrV, V.sl.injEq]
  exact List.map_congr_left fun d _ => fz_Do d
theorem fz_box (x : BoxO) : (V.own x.e x.γ x.c (x.xs.map RowO.V)).fz = .sl (x.p.map thrV) := by
  simp only [V.fz, fzs_map, List.map_map, BoxO.p, V.sl.injEq]
  exact List.map_congr_left fun d _ => fz_row d

/-- A drawn program. -/
structure Drawn (p : Prog) : Prop where
  ok : progOk p = true
  two : 2 ≤ p.length
  few : stepsP p ≤ 8

@[irreducible] def wide (n : Nat) : Nat := 65536 * n
theorem wide_succ (n : Nat) : wide (n + 1) = wide n + 65536 := by simp only [wide, Nat.mul_succ]
theorem wide_zero : wide 0 = 0 := by simp only [wide, Nat.mul_zero]
theorem wide_le {n : Nat} (h : n ≤ 12) : wide n ≤ 786432 := by simp only [wide]; exact Nat.mul_le_mul_left 65536 h
@[irreducible] def wide3 (n : Nat) : Nat := 3002 * n
theorem wide3_succ (n : Nat) : wide3 (n + 1) = wide3 n + 3002 := by simp only [wide3, Nat.mul_succ]
theorem wide3_zero : wide3 0 = 0 := by simp only [wide3, Nat.mul_zero]
theorem wide3_le {n : Nat} (h : n ≤ 3) : wide3 n ≤ 9006 := by simp only [wide3]; exact Nat.mul_le_mul_left 3002 h
theorem l71Prog_rd (bs : List Int) (hb : Bytes bs) (g p : Nat) (hp : p < 2 ^ 27) : Fr Tryz.prog 113 [] g (rdO bs g p)
    (fun r o' => ∃ x : Prog, r = progV x ∧ Drawn x ∧ ∃ q, p ≤ q ∧ q ≤ p + 2 ^ 20 ∧ o' = rdO bs g q) := by
  refine Fc.start (S := [17]) Tryz.func113 Tryz.ntmps113 Tryz.results113 rfl (by decide) rfl (by kernel_rfl) ?_
  simp (maxSteps := 1000000) (disch := omega) only [push_cast, go_sem, zA, zB, zC, zD, zE, zF, simprocAttr]
  intro g2
  refine Sat.loop (σ := Nat × Nat) (fun x => upd (upd (upd noT 0 (.ptr 0 [] 0 0 g 2)) 2 (.ptr 2 [] 0 0 g2 1)) 3 (.int .i64 x.1))
    (fun x => (noM.set 0 (rdO bs g x.2)).set 2 (.own 25 (some g2) 1 [.agg [.own 0 none 0 []]]))
    (fun x => x.1 ≤ 12 ∧ p ≤ x.2 ∧ x.2 ≤ p + wide x.1) (fun x => 12 - x.1) (0, p) (by simp [wide_zero]) ?_ ?_
  · (refine Less.start ?_; repeat (first | exact LessO.nil | exact LessO.all | refine LessO.skip (by decide) ?_ | refine LessO.upd ?_ ?_ | refine LessO.set ?_ ?_)) <;> (try simp (maxSteps := 1000000) (disch := omega) only [push_cast, go_sem, zA, zB, zC, zD, zE, zF, simprocAttr])
  rintro ⟨i, q⟩ ⟨h1, h2, h3⟩ J hJ
  refine Sat.of (S := [2006]) (by kernel_rfl) ?_
  simp only at h1 h2 h3 hJ
  have hw := wide_le h1
  by_cases hi : (i : Int) < 12
  · simp (maxSteps := 1000000) (disch := omega) only [push_cast, go_sem, zA, zB, zC, zD, zE, zF, simprocAttr, hi]
    intro g4
    refine callR.rd (pick_rd bs hb g q (by omega) 2 (by omega)) rfl rfl rfl ?_
    rintro r o' ⟨v, rfl, hv0, hv1, _, rfl⟩
    have hv := hv1 (by omega)
    simp (maxSteps := 1000000) (disch := omega) only [push_cast, go_sem, zA, zB, zC, zD, zE, zF, simprocAttr]
    refine Sat.cut (σ := BoxO × Nat) [] (fun x => upd (upd (upd (upd noT 0 (.ptr 0 [] 0 0 g 2)) 2 (.ptr 2 [] 0 0 g2 1)) 3 (.int .i64 i)) 4 (.ptr 4 [] 0 0 g4 1))
      (fun x => ((noM.set 0 (rdO bs g x.2)).set 2 (.own 25 (some g2) 1 [.agg [.own 0 none 0 []]])).set 4 (x.1.V g4))
      (fun x => 2 ≤ x.1.p.length ∧ x.1.p.length ≤ 3 ∧ (∀ l ∈ x.1.p, l.length < 2 ^ 10) ∧ p ≤ x.2 ∧ x.2 ≤ q + 2 ^ 15) (by kernel_rfl) ?_ ?_
    · simp (maxSteps := 1000000) (disch := omega) only [push_cast, go_sem, zA, zB, zC, zD, zE, zF, simprocAttr]
      refine callR.rd (pick_rd bs hb g (q + 1) (by omega) 4 (by omega)) rfl rfl rfl ?_
      rintro r o' ⟨v2, rfl, hv20, hv21, _, rfl⟩
      simp (maxSteps := 1000000) (disch := omega) only [push_cast, go_sem, zA, zB, zC, zD, zE, zF, simprocAttr]
      refine ⟨fun hz => ?_, fun hz => ?_⟩
      · refine callR.rdRow (l71Reader_rd bs hb g (q + 2) (by omega) 2 (by omega)) rfl rfl rfl ?_
        rintro es o' γ1 c1 ⟨l1, rfl, hl1, q1, hq1, hq2, rfl⟩
        simp (maxSteps := 1000000) (disch := omega) only [push_cast, go_sem, zA, zB, zC, zD, zE, zF, simprocAttr]
        refine callR.rdRow (l71Waiter_rd bs hb g q1 (by omega) 2 (by omega)) rfl rfl rfl ?_
        rintro es o' γ2 c2 ⟨l2, rfl, hl2, q2, hq3, hq4, rfl⟩
        simp (maxSteps := 1000000) (disch := omega) only [push_cast, go_sem, zA, zB, zC, zD, zE, zF, simprocAttr]
        intro g5
        refine callR.rd (pick_rd bs hb g q2 (by omega) 3 (by omega)) rfl rfl rfl ?_
        rintro r o' ⟨v3, rfl, hv30, hv31, _, rfl⟩
        simp (maxSteps := 1000000) (disch := omega) only [push_cast, go_sem, zA, zB, zC, zD, zE, zF, simprocAttr]
        refine ⟨fun hz3 => ?_, fun hz3 => ?_⟩
        · refine Sat.drawnE [(1, 7), (3, 7), (5, 7), (1, 8), (3, 8), (5, 8)] [(1, 9)] [1, 3, 5] (rdTab bs g [(147, 3, fun _ r => ∃ d : Do, r = d.V)] []) (by kernel_rfl) (by kernel_rfl) ?_
          simp (maxSteps := 1000000) (disch := omega) only [push_cast, go_sem, zA, zB, zC, zD, zE, zF, simprocAttr]
          refine runD_pl (l71Do_pl bs hb g (q2 + 1) (by omega) 2 (by omega)) rfl rfl rfl rfl ⟨_, ⟨0, 0, 0⟩, rfl⟩ ?_ ?_
          · simp (maxSteps := 1000000) (disch := omega) only [push_cast, go_sem, zA, zB, zC, zD, zE, zF, simprocAttr]
          rintro r q3 hq5 hq6 ⟨d, rfl⟩
          simp (maxSteps := 1000000) (disch := omega) only [push_cast, go_sem, zA, zB, zC, zD, zE, zF, simprocAttr, Do.V_eq]
          intro g6
          refine ⟨by omega, fun γ c _ => ⟨(⟨60, some g5, 2, [⟨γ, c, l1 ++ [d]⟩, ⟨γ2, c2, l2⟩]⟩, q3), ?_, ?_⟩⟩
          · simp [BoxO.p]; omega
          · (refine Less.start ?_; repeat (first | exact LessO.nil | exact LessO.all | refine LessO.skip (by decide) ?_ | refine LessO.upd ?_ ?_ | refine LessO.set ?_ ?_)) <;> (try simp (maxSteps := 1000000) (disch := omega) only [push_cast, go_sem, zA, zB, zC, zD, zE, zF, simprocAttr])
            simp [BoxO.V, RowO.V, Do.V]
        · refine ⟨(⟨60, some g5, 2, [⟨γ1, c1, l1⟩, ⟨γ2, c2, l2⟩]⟩, q2 + 1), ?_, ?_⟩
          · simp [BoxO.p]; omega
          · (refine Less.start ?_; repeat (first | exact LessO.nil | exact LessO.all | refine LessO.skip (by decide) ?_ | refine LessO.upd ?_ ?_ | refine LessO.set ?_ ?_)) <;> (try simp (maxSteps := 1000000) (disch := omega) only [push_cast, go_sem, zA, zB, zC, zD, zE, zF, simprocAttr])
            simp [BoxO.V, RowO.V, Do.V]
      · refine callR.rd (pick_rd bs hb g (q + 2) (by omega) 2 (by omega)) rfl rfl rfl ?_
        rintro r o' ⟨v3, rfl, hv30, hv31, _, rfl⟩
        have hv3 := hv31 (by omega)
        obtain ⟨m, rfl⟩ := Int.eq_ofNat_of_zero_le hv30
        simp (maxSteps := 1000000) (disch := omega) only [push_cast, go_sem, zA, zB, zC, zD, zE, zF, simprocAttr]
        refine Sat.loop (σ := BoxO × Nat × Nat) (fun x => upd (upd (upd (upd (upd (upd (upd noT 0 (.ptr 0 [] 0 0 g 2)) 2 (.ptr 2 [] 0 0 g2 1)) 3 (.int .i64 i)) 4 (.ptr 4 [] 0 0 g4 1)) 5 (.int .i64 (1 + v))) 6 (.int .i64 (2 + m))) 7 (.int .i64 x.2.2))
          (fun x => ((noM.set 0 (rdO bs g x.2.1)).set 2 (.own 25 (some g2) 1 [.agg [.own 0 none 0 []]])).set 4 (x.1.V g4))
          (fun x => x.1.p.length = x.2.2 ∧ x.2.2 ≤ 2 + m ∧ (∀ l ∈ x.1.p, l.length < 2 ^ 10) ∧ p ≤ x.2.1 ∧ x.2.1 ≤ q + 3 + wide3 x.2.2 ∧ (x.1.γ = none ∨ x.1.e = 60)) (fun x => 2 + m - x.2.2) (⟨0, none, 0, []⟩, q + 2 + 1, 0) (by simp [BoxO.p, wide3_zero]; omega) ?_ ?_
        · (refine Less.start ?_; repeat (first | exact LessO.nil | exact LessO.all | refine LessO.skip (by decide) ?_ | refine LessO.upd ?_ ?_ | refine LessO.set ?_ ?_)) <;> (try simp (maxSteps := 1000000) (disch := omega) only [push_cast, go_sem, zA, zB, zC, zD, zE, zF, simprocAttr])
          rfl
        rintro ⟨x, q1, k⟩ ⟨k1, k2, k3, k4, k5, k6⟩ J2 hJ2
        refine Sat.of (S := []) (by kernel_rfl) ?_
        simp only at k1 k2 k3 k4 k5 k6 hJ2
        have hw3 := wide3_le (n := k) (by omega)
        by_cases hk : (k : Int) < 2 + m
        · obtain ⟨s6, hs6, hb6, hb7⟩ : ∃ s : Int, (6 : Int).tdiv (2 + (m : Int)) = s ∧ 0 ≤ s ∧ s ≤ 3 := by
            obtain rfl | rfl : m = 0 ∨ m = 1 := by omega
            · exact ⟨3, by decide, by decide, by decide⟩
            · exact ⟨2, by decide, by decide, by decide⟩
          have hne : ¬ (2 + (m : Int) = 0) := by omega
          simp (maxSteps := 1000000) (disch := omega) only [push_cast, go_sem, zA, zB, zC, zD, zE, zF, simprocAttr, hk]
          refine Sat.drawnE [(1, 6), (1, 9), (1, 10)] [] [1] (rdTab bs g [(70, 1, pickQ)] [(148, 3001, 62, thrQ)]) (by kernel_rfl) (by kernel_rfl) ?_
          simp (maxSteps := 1000000) (disch := omega) only [push_cast, go_sem, zA, zB, zC, zD, zE, zF, simprocAttr, hs6, hne, BoxO.V_eq]
          refine runD_pl (pick_pl bs hb g q1 (by omega) 2 (by omega)) rfl rfl rfl rfl pickQ_ne ?_ ?_
          · simp (maxSteps := 1000000) (disch := omega) only [push_cast, go_sem, zA, zB, zC, zD, zE, zF, simprocAttr]
          rintro r q3 hq1 hq2 ⟨n4, v4, hn4, rfl, hv4⟩
          cases hn4
          have hv41 := hv4.2.1 (by omega)
          have hv40 := hv4.1
          simp (maxSteps := 1000000) (disch := omega) only [push_cast, go_sem, zA, zB, zC, zD, zE, zF, simprocAttr]
          refine runD_rw (l71Thread_pl bs hb g q3 (by omega) (s6 + v4) (by omega) (by omega) (1 + v) (by omega)) rfl rfl rfl rfl rfl ⟨_, [], _, rfl, rfl, by simp; omega⟩ ?_ ?_
          · simp (maxSteps := 1000000) (disch := omega) only [push_cast, go_sem, zA, zB, zC, zD, zE, zF, simprocAttr]
          rintro es q4 γ c hq3 hq4 ⟨l, most, hmo, rfl, hl⟩
          cases hmo
          have k6' : (x.γ = none ∨ x.e = 60) = True := by simp only [k6]
          cases hfl : (V.own 62 γ c (l.map Do.V)).flatC <;> simp (maxSteps := 1000000) (disch := omega) only [push_cast, go_sem, zA, zB, zC, zD, zE, zF, simprocAttr, k6', hfl]
          all_goals
            intro g6
            refine ⟨?_, fun γ2 c2 _ => ?_⟩
            · have : x.xs.length = k := by simpa [BoxO.p] using k1
              omega
            have e1 : k + 1 ≤ 2 + m := by omega
            have e2 : p ≤ q4 := by omega
            have e3 : q4 ≤ q + 3 + wide3 (k + 1) := by have := wide3_succ k; omega
            have e4 : 2 + m - (k + 1) < 2 + m - k := by omega
            have e5 : (BoxO.p ⟨60, γ2, c2, x.xs ++ [⟨γ, c, l⟩]⟩).length = k + 1 := by simpa [BoxO.p] using k1
            refine hJ2 (⟨60, γ2, c2, x.xs ++ [⟨γ, c, l⟩]⟩, q4, k + 1) _ _ ?_ (by dsimp only; exact e4) ?_
            · dsimp only
              refine ⟨e5, e1, ?_, e2, e3, .inr rfl⟩
              intro l' hl'
              simp only [BoxO.p, List.map_append, List.map_cons, List.map_nil, List.mem_append, List.mem_singleton] at hl'
              rcases hl' with h | rfl
              · exact k3 l' h
              · omega
            · (refine Less.start ?_; repeat (first | exact LessO.nil | exact LessO.all | refine LessO.skip (by decide) ?_ | refine LessO.upd ?_ ?_ | refine LessO.set ?_ ?_)) <;> (try simp (maxSteps := 1000000) (disch := omega) only [push_cast, go_sem, zA, zB, zC, zD, zE, zF, simprocAttr])
              all_goals simp [BoxO.V, RowO.V]
        · simp (maxSteps := 1000000) (disch := omega) only [push_cast, go_sem, zA, zB, zC, zD, zE, zF, simprocAttr, hk]
          refine ⟨(x, q1), ?_, ?_⟩
          · exact ⟨by simp only; omega, by simp only; omega, k3, k4, by simp only; omega⟩
          · (refine Less.start ?_; repeat (first | exact LessO.nil | exact LessO.all | refine LessO.skip (by decide) ?_ | refine LessO.upd ?_ ?_ | refine LessO.set ?_ ?_)) <;> (try simp (maxSteps := 1000000) (disch := omega) only [push_cast, go_sem, zA, zB, zC, zD, zE, zF, simprocAttr])
    rintro ⟨x, q1⟩ ⟨k1, k2, k3, k4, k5⟩
    simp only at k1 k2 k3 k4 k5
    refine Sat.freezeC 4 [] 0 0 (n0 := x.V g4) (d := .own x.e x.γ x.c (x.xs.map RowO.V)) rfl rfl rfl ?_
    rw [fz_box]
    refine Sat.of (S := []) (by kernel_rfl) ?_
    simp (maxSteps := 1000000) (disch := omega) only [push_cast, go_sem, zA, zB, zC, zD, zE, zF, simprocAttr, BoxO.V_eq]
    refine callR.pure (specProgOk_fn x.p (by omega)) rfl rfl ?_
    have next : ∀ t' M', Less (upd (upd (upd noT 0 (.ptr 0 [] 0 0 g 2)) 2 (.ptr 2 [] 0 0 g2 1)) 3 (.int .i64 (i + 1 : Nat))) t' ((noM.set 0 (rdO bs g q1)).set 2 (.own 25 (some g2) 1 [.agg [.own 0 none 0 []]])) M' → J t' M' := by
      intro t' M' hl
      have e1 : i + 1 ≤ 12 := by omega
      have e2 : q1 ≤ p + wide (i + 1) := by have := wide_succ i; omega
      have e3 : 12 - (i + 1) < 12 - i := by omega
      exact hJ (i + 1, q1) _ _ (by dsimp only; exact ⟨e1, k4, e2⟩) (by dsimp only; exact e3) hl
    cases hok : progOk x.p
    · simp (maxSteps := 1000000) (disch := omega) only [push_cast, go_sem, zA, zB, zC, zD, zE, zF, simprocAttr]
      refine next _ _ ?_
      (refine Less.start ?_; repeat (first | exact LessO.nil | exact LessO.all | refine LessO.skip (by decide) ?_ | refine LessO.upd ?_ ?_ | refine LessO.set ?_ ?_)) <;> (try simp (maxSteps := 1000000) (disch := omega) only [push_cast, go_sem, zA, zB, zC, zD, zE, zF, simprocAttr])
    · simp (maxSteps := 1000000) (disch := omega) only [push_cast, go_sem, zA, zB, zC, zD, zE, zF, simprocAttr]
      refine callR.pure (l71Steps_fn x.p (by omega) k3) rfl rfl ?_
      simp (maxSteps := 1000000) (disch := omega) only [push_cast, go_sem, zA, zB, zC, zD, zE, zF, simprocAttr]
      refine ⟨fun h8 => ?_, fun h8 => ?_⟩
      · have h8' : stepsP x.p ≤ 8 := by omega
        refine ⟨_, ?_, _, ⟨x.p, rfl, ⟨hok, k1, h8'⟩, q1, k4, by omega, rfl⟩, rfl⟩
        ((repeat (first | exact Sub.no | refine Sub.set ?_ ?_)) <;> (try simp (disch := omega) only [push_cast, go_sem, zA, zB, zC, zD, zE, zF, simprocAttr]))
      · refine next _ _ ?_
        (refine Less.start ?_; repeat (first | exact LessO.nil | exact LessO.all | refine LessO.skip (by decide) ?_ | refine LessO.upd ?_ ?_ | refine LessO.set ?_ ?_)) <;> (try simp (maxSteps := 1000000) (disch := omega) only [push_cast, go_sem, zA, zB, zC, zD, zE, zF, simprocAttr])
  · have : i = 12 := by omega
    subst this
    simp (maxSteps := 1000000) (disch := omega) only [push_cast, go_sem, zA, zB, zC, zD, zE, zF, simprocAttr]
    refine Sat.cut (σ := Nat × Nat × Nat) [] (fun _ => upd noT 2 (.ptr 2 [] 0 0 g2 1))
      (fun x => (noM.set 0 (rdO bs g q)).set 2 (BoxO.V ⟨60, some x.1, 2, [⟨some x.2.1, 1, [⟨1, 0, 1⟩]⟩, ⟨some x.2.2, 1, [⟨2, 0, 0⟩]⟩]⟩ g2)) (fun _ => True) (by kernel_rfl) ?_ ?_
    · simp (maxSteps := 1000000) (disch := omega) only [push_cast, go_sem, zA, zB, zC, zD, zE, zF, simprocAttr]
      intro a b c
      refine ⟨(c, a, b), ?_⟩
      (refine Less.start ?_; repeat (first | exact LessO.nil | exact LessO.all | refine LessO.skip (by decide) ?_ | refine LessO.upd ?_ ?_ | refine LessO.set ?_ ?_)) <;> (try simp (maxSteps := 1000000) (disch := omega) only [push_cast, go_sem, zA, zB, zC, zD, zE, zF, simprocAttr])
      rfl
    rintro ⟨a, b, c⟩ _
    refine Sat.freezeC 2 [] 0 0 (n0 := BoxO.V ⟨60, some a, 2, [⟨some b, 1, [⟨1, 0, 1⟩]⟩, ⟨some c, 1, [⟨2, 0, 0⟩]⟩]⟩ g2) (d := .own 60 (some a) 2 ([⟨some b, 1, [⟨1, 0, 1⟩]⟩, ⟨some c, 1, [⟨2, 0, 0⟩]⟩].map RowO.V)) rfl rfl rfl ?_
    rw [fz_box ⟨60, some a, 2, [⟨some b, 1, [⟨1, 0, 1⟩]⟩, ⟨some c, 1, [⟨2, 0, 0⟩]⟩]⟩]
    refine Sat.of (S := []) (by kernel_rfl) ?_
    simp (maxSteps := 1000000) (disch := omega) only [push_cast, go_sem, zA, zB, zC, zD, zE, zF, simprocAttr, BoxO.V_eq]
    refine ⟨_, ?_, _, ⟨[[⟨1, 0, 1⟩], [⟨2, 0, 0⟩]], rfl, ⟨by decide, by decide, by decide⟩, q, h2, by omega, rfl⟩, rfl⟩
    ((repeat (first | exact Sub.no | refine Sub.set ?_ ?_)) <;> (try simp (disch := omega) only [push_cast, go_sem, zA, zB, zC, zD, zE, zF, simprocAttr]))
end Go.Proofs.YtfbgabkcjjahiaaGreatDoor
namespace Go.Proofs.YtfbgabkcjjahiaaGreatDoor
open Go.RowKit
set_option pp.maxSteps 3000

/-- Bytes of an argument. -/
def Code8 (bs : List Int) : Prop := ∀ b ∈ bs, 0 ≤ b ∧ b < 256
def codeV (bs : List Int) : V := .sl (bs.map (V.int .u8))
theorem codeV_eq (bs : List Int) : codeV bs = .sl (bs.map (V.int .u8)) := rfl
theorem Code8.take {bs : List Int} (h : Code8 bs) : Bytes (bs.take 2000) := ⟨by simp; omega, fun b hb => h b (List.mem_of_mem_take hb)⟩
theorem cells_code (bs : List Int) {s : Nat} (hs : s = 1) : (∀ x ∈ bs.map (V.int .u8), x.cells.length = s) = True := by
  simp only [List.mem_map, eq_iff_iff, iff_true]
  rintro x ⟨b, _, rfl⟩
  rw [hs]; rfl
theorem l6Open_fn (bs : List Int) (hl : bs.length < 2 ^ 40) : Fc Tryz.prog 40 [codeV bs] noM (fun r m => ∃ ob, (∃ g, r = .ptr 100 [] 0 0 g 2 ∧ ob = rdO (bs.take 2000) g 0) ∧ m = noM.set 100 ob) := by
  refine Fc.rekeyP (R' := fun r m => ∃ g, r = .ptr 2 [] 0 0 g 2 ∧ m = noM.set 2 (rdO (bs.take 2000) g 0)) ?_ ?_
  · refine Fc.start (S := []) Tryz.func40 Tryz.ntmps40 Tryz.results40 rfl (by decide) rfl (by kernel_rfl) ?_
    by_cases h : (2000 : Int) < bs.length
    · simp (maxSteps := 1000000) (disch := omega) only [push_cast, go_sem, zA, zB, zC, zD, zE, zF, simprocAttr, codeV_eq, h, cells_code bs rfl]
      refine ⟨by omega, fun g => ⟨_, ?_, g, rfl, rfl⟩⟩
      ((repeat (first | exact Sub.no | refine Sub.set ?_ ?_)) <;> (try simp (disch := omega) only [push_cast, go_sem, zA, zB, zC, zD, zE, zF, simprocAttr]))
      simp [rdO, List.map_take]
    · simp (maxSteps := 1000000) (disch := omega) only [push_cast, go_sem, zA, zB, zC, zD, zE, zF, simprocAttr, codeV_eq, h]
      refine fun g => ⟨_, ?_, g, rfl, rfl⟩
      ((repeat (first | exact Sub.no | refine Sub.set ?_ ?_)) <;> (try simp (disch := omega) only [push_cast, go_sem, zA, zB, zC, zD, zE, zF, simprocAttr]))
      rw [List.take_of_length_le (by omega)]; rfl
  · rintro r m ⟨g, rfl, rfl⟩
    refine ⟨2, g, 2, _, rfl, rfl, _, ⟨g, rfl, rfl⟩, era_set rfl⟩
end Go.Proofs.YtfbgabkcjjahiaaGreatDoor
namespace Go.Proofs.YtfbgabkcjjahiaaGreatDoor
open Go.RowKit
set_option pp.maxSteps 3000

/-- What was seen. -/
structure Sn where
  rd : List Int
  ls : List Int
deriving DecidableEq
def Sn.V (s : Sn) : V := .agg [.sl (s.rd.map (V.int .i64)), .sl (s.ls.map (V.int .i64))]
theorem Sn.V_eq (s : Sn) : s.V = .agg [.sl (s.rd.map (V.int .i64)), .sl (s.ls.map (V.int .i64))] := rfl
structure Sn.small (s : Sn) : Prop where
  rd : s.rd.length < 2 ^ 40
  ls : s.ls.length < 2 ^ 40
def cmpI (a b : Int) : Int := if a < b then -1 else if b < a then 1 else 0
/-- Numbers one by one, then how many. -/
def cmpL : List Int → List Int → Int
  | [], [] => 0
  | [], _ :: _ => -1
  | _ :: _, [] => 1
  | a :: l, b :: m => if a < b then -1 else if b < a then 1 else cmpL l m
def orI (a b : Int) : Int := if a = 0 then b else a
def cmpS (s t : Sn) : Int := orI (cmpL s.rd t.rd) (cmpL s.ls t.ls)
theorem cmpL_zero : ∀ {l m : List Int}, cmpL l m = 0 ↔ l = m
  | [], [] => by simp [cmpL]
  | [], _ :: _ => by simp [cmpL]
  | _ :: _, [] => by simp [cmpL]
  | a :: l, b :: m => by
    rw [cmpL]
    by_cases h1 : a < b
    · rw [if_pos h1]; simp; intro h; omega
    · rw [if_neg h1]
      by_cases h2 : b < a
      · rw [if_pos h2]; simp; intro h; omega
      · rw [if_neg h2, cmpL_zero]; simp
        intro _; omega
theorem cmpS_zero {s t : Sn} : cmpS s t = 0 ↔ s = t := by
  obtain ⟨a, b⟩ := s
  obtain ⟨c, d⟩ := t
  simp only [cmpS, orI, Sn.mk.injEq]
  by_cases h : cmpL a c = 0
  · rw [if_pos h, cmpL_zero, cmpL_zero.1 h]; simp
  · rw [if_neg h]
    exact ⟨fun h2 => absurd h2 h, fun h2 => absurd (cmpL_zero.2 h2.1) h⟩
theorem isNaN_fn (a : Int) : Fp Tryz.prog 165 [.int .i64 a] (.bool false) := by
  refine Fc.start (S := []) Tryz.func165 Tryz.ntmps165 Tryz.results165 rfl (by decide) rfl (by kernel_rfl) ?_
  have h : (a != a) = false := by simp
  simp (maxSteps := 1000000) (disch := omega) only [push_cast, go_sem, zA, zB, zC, zD, zE, zF, simprocAttr, h]
theorem cmpI_fn (a b : Int) : Fp Tryz.prog 156 [.int .i64 a, .int .i64 b] (.int .i64 (cmpI a b)) := by
  refine Fc.start (S := []) Tryz.func156 Tryz.ntmps156 Tryz.results156 rfl (by decide) rfl (by kernel_rfl) ?_
  simp (maxSteps := 1000000) (disch := omega) only [push_cast, go_sem, zA, zB, zC, zD, zE, zF, simprocAttr]
  refine callR.pure (isNaN_fn a) rfl rfl ?_
  simp (maxSteps := 1000000) (disch := omega) only [push_cast, go_sem, zA, zB, zC, zD, zE, zF, simprocAttr]
  refine callR.pure (isNaN_fn b) rfl rfl ?_
  by_cases h1 : a < b
  · simp (maxSteps := 1000000) (disch := omega) only [push_cast, go_sem, zA, zB, zC, zD, zE, zF, simprocAttr, h1]
    simp [cmpI, h1]
  · by_cases h2 : b < a
    · simp (maxSteps := 1000000) (disch := omega) only [push_cast, go_sem, zA, zB, zC, zD, zE, zF, simprocAttr, h1, h2]
      simp [cmpI, h1, h2]
    · simp (maxSteps := 1000000) (disch := omega) only [push_cast, go_sem, zA, zB, zC, zD, zE, zF, simprocAttr, h1, h2]
      simp [cmpI, h1, h2]
theorem cmpL_step {l m : List Int} {i : Nat} {a b : Int} (ha : l[i]? = some a) (hb : m[i]? = some b) : cmpL (l.drop i) (m.drop i) = if cmpI a b = 0 then cmpL (l.drop (i + 1)) (m.drop (i + 1)) else cmpI a b := by
  rw [drop_get ha, drop_get hb, cmpL, cmpI]
  by_cases h1 : a < b
  · simp [h1]
  · by_cases h2 : b < a <;> simp [h1, h2]
theorem sCompare_fn (l m : List Int) (hl : l.length < 2 ^ 40) (hm : m.length < 2 ^ 40) : Fp Tryz.prog 131 [.sl (l.map (V.int .i64)), .sl (m.map (V.int .i64))] (.int .i64 (cmpL l m)) := by
  refine Fc.start (S := []) Tryz.func131 Tryz.ntmps131 Tryz.results131 rfl (by decide) rfl (by kernel_rfl) ?_
  simp (maxSteps := 1000000) (disch := omega) only [push_cast, go_sem, zA, zB, zC, zD, zE, zF, simprocAttr]
  refine Sat.loop (σ := Nat) (fun i => upd (upd (upd (upd (upd noT 0 (.sl (l.map (V.int .i64)))) 1 (.sl (m.map (V.int .i64)))) 9 (.sl (l.map (V.int .i64)))) 10 (.int .i64 l.length)) 11 (.int .i64 i)) (fun _ => noM)
    (fun i => i ≤ l.length ∧ i ≤ m.length ∧ cmpL (l.drop i) (m.drop i) = cmpL l m) (fun i => l.length - i) 0 ⟨by omega, by omega, rfl⟩ ?_ ?_
  · (refine Less.start ?_; repeat (first | exact LessO.nil | exact LessO.all | refine LessO.skip (by decide) ?_ | refine LessO.upd ?_ ?_ | refine LessO.set ?_ ?_)) <;> (try simp (maxSteps := 1000000) (disch := omega) only [push_cast, go_sem, zA, zB, zC, zD, zE, zF, simprocAttr])
  rintro i ⟨hi, hi2, he⟩ J hJ
  refine Sat.of (S := []) (by kernel_rfl) ?_
  rcases Nat.lt_or_ge i l.length with hlt | hge
  · obtain ⟨a, ha⟩ : ∃ a, l[i]? = some a := ⟨_, List.getElem?_eq_getElem hlt⟩
    rcases Nat.lt_or_ge i m.length with hlt2 | hge2
    · obtain ⟨b, hb⟩ : ∃ b, m[i]? = some b := ⟨_, List.getElem?_eq_getElem hlt2⟩
      have hs := cmpL_step ha hb
      have hc := cmpI_fn a b
      obtain ⟨c, hcc⟩ : ∃ c, cmpI a b = c := ⟨_, rfl⟩
      rw [hcc] at hs hc
      have h3 : ¬ ((m.length : Int) ≤ i) := by omega
      simp (maxSteps := 1000000) (disch := omega) only [push_cast, go_sem, zA, zB, zC, zD, zE, zF, simprocAttr, hlt, ha, h3, hlt2, hb]
      refine callR.pure hc rfl rfl ?_
      by_cases h0 : c = 0
      · subst h0
        simp (maxSteps := 1000000) (disch := omega) only [push_cast, go_sem, zA, zB, zC, zD, zE, zF, simprocAttr]
        refine hJ (i + 1) _ _ ⟨by omega, by omega, by rw [← he, hs]; rfl⟩ (by omega) ?_
        (refine Less.start ?_; repeat (first | exact LessO.nil | exact LessO.all | refine LessO.skip (by decide) ?_ | refine LessO.upd ?_ ?_ | refine LessO.set ?_ ?_)) <;> (try simp (maxSteps := 1000000) (disch := omega) only [push_cast, go_sem, zA, zB, zC, zD, zE, zF, simprocAttr])
      · have h1 : (c != 0) = true := by simpa using h0
        simp (maxSteps := 1000000) (disch := omega) only [push_cast, go_sem, zA, zB, zC, zD, zE, zF, simprocAttr, h1]
        rw [← he, hs, if_neg h0]
    · have h3 : ((m.length : Int) ≤ i) := by omega
      simp (maxSteps := 1000000) (disch := omega) only [push_cast, go_sem, zA, zB, zC, zD, zE, zF, simprocAttr, hlt, ha, h3]
      rw [← he, drop_get ha, List.drop_of_length_le hge2]; rfl
  · have : i = l.length := by omega
    subst this
    rw [List.drop_of_length_le (Nat.le_refl _)] at he
    by_cases h1 : l.length < m.length
    · simp (maxSteps := 1000000) (disch := omega) only [push_cast, go_sem, zA, zB, zC, zD, zE, zF, simprocAttr, h1]
      obtain ⟨b, hb⟩ : ∃ b, m[l.length]? = some b := ⟨_, List.getElem?_eq_getElem h1⟩
      rw [← he, drop_get hb]; rfl
    · simp (maxSteps := 1000000) (disch := omega) only [push_cast, go_sem, zA, zB, zC, zD, zE, zF, simprocAttr, h1]
      rw [← he, List.drop_of_length_le (by omega)]; rfl
theorem l2Comp_fn (l m : List Int) (hl : l.length < 2 ^ 40) (hm : m.length < 2 ^ 40) : Fp Tryz.prog 80 [.sl (l.map (V.int .i64)), .sl (m.map (V.int .i64))] (.int .i64 (cmpL l m)) := by
  refine Fc.start (S := []) Tryz.func80 Tryz.ntmps80 Tryz.results80 rfl (by decide) rfl (by kernel_rfl) ?_
  simp (maxSteps := 1000000) (disch := omega) only [push_cast, go_sem, zA, zB, zC, zD, zE, zF, simprocAttr]
  refine Sat.loop (σ := Nat) (fun i => upd (upd (upd noT 0 (.sl (l.map (V.int .i64)))) 1 (.sl (m.map (V.int .i64)))) 5 (.int .i64 i)) (fun _ => noM)
    (fun i => i ≤ l.length ∧ i ≤ m.length ∧ cmpL (l.drop i) (m.drop i) = cmpL l m) (fun i => l.length - i) 0 ⟨by omega, by omega, rfl⟩ ?_ ?_
  · (refine Less.start ?_; repeat (first | exact LessO.nil | exact LessO.all | refine LessO.skip (by decide) ?_ | refine LessO.upd ?_ ?_ | refine LessO.set ?_ ?_)) <;> (try simp (maxSteps := 1000000) (disch := omega) only [push_cast, go_sem, zA, zB, zC, zD, zE, zF, simprocAttr])
  rintro i ⟨hi, hi2, he⟩ J hJ
  refine Sat.of (S := []) (by kernel_rfl) ?_
  by_cases hlt : i < l.length
  · obtain ⟨a, ha⟩ : ∃ a, l[i]? = some a := ⟨_, List.getElem?_eq_getElem hlt⟩
    by_cases hlt2 : i < m.length
    · obtain ⟨b, hb⟩ : ∃ b, m[i]? = some b := ⟨_, List.getElem?_eq_getElem hlt2⟩
      have hs := cmpL_step ha hb
      rw [cmpI] at hs
      simp (maxSteps := 1000000) (disch := omega) only [push_cast, go_sem, zA, zB, zC, zD, zE, zF, simprocAttr, hlt, hlt2]
      refine Sat.drawnE [] [] (List.range 9) (fun _ _ _ => none) (by kernel_rfl) (by kernel_rfl) ?_
      by_cases h1 : a < b
      · simp (maxSteps := 1000000) (disch := omega) only [push_cast, go_sem, zA, zB, zC, zD, zE, zF, simprocAttr, hlt, hlt2, ha, hb, h1]
        rw [← he, hs]; simp [h1]
      · simp (maxSteps := 1000000) (disch := omega) only [push_cast, go_sem, zA, zB, zC, zD, zE, zF, simprocAttr, hlt, hlt2, ha, hb, h1]
        refine Sat.drawnE [] [] (List.range 9) (fun _ _ _ => none) (by kernel_rfl) (by kernel_rfl) ?_
        by_cases h2 : b < a
        · simp (maxSteps := 1000000) (disch := omega) only [push_cast, go_sem, zA, zB, zC, zD, zE, zF, simprocAttr, hlt, hlt2, ha, hb, h2]
          rw [← he, hs]; simp [h1, h2]
        · simp (maxSteps := 1000000) (disch := omega) only [push_cast, go_sem, zA, zB, zC, zD, zE, zF, simprocAttr, hlt, hlt2, ha, hb, h2]
          refine hJ (i + 1) _ _ ⟨by omega, by omega, by rw [← he, hs]; simp [h1, h2]⟩ (by omega) ?_
          (refine Less.start ?_; repeat (first | exact LessO.nil | exact LessO.all | refine LessO.skip (by decide) ?_ | refine LessO.upd ?_ ?_ | refine LessO.set ?_ ?_)) <;> (try simp (maxSteps := 1000000) (disch := omega) only [push_cast, go_sem, zA, zB, zC, zD, zE, zF, simprocAttr])
    · have : i = m.length := by omega
      subst this
      simp (maxSteps := 1000000) (disch := omega) only [push_cast, go_sem, zA, zB, zC, zD, zE, zF, simprocAttr, hlt, hlt2]
      rw [List.drop_of_length_le (Nat.le_refl m.length)] at he
      have h3 : ¬ l.length < m.length := by omega
      rw [drop_get ha] at he
      simp (maxSteps := 1000000) (disch := omega) only [push_cast, go_sem, zA, zB, zC, zD, zE, zF, simprocAttr, h3, hlt]
      rw [← he]; rfl
  · have : i = l.length := by omega
    subst this
    rw [List.drop_of_length_le (Nat.le_refl l.length)] at he
    simp (maxSteps := 1000000) (disch := omega) only [push_cast, go_sem, zA, zB, zC, zD, zE, zF, simprocAttr, hlt]
    by_cases h1 : l.length < m.length
    · simp (maxSteps := 1000000) (disch := omega) only [push_cast, go_sem, zA, zB, zC, zD, zE, zF, simprocAttr, h1]
      obtain ⟨b, hb⟩ : ∃ b, m[l.length]? = some b := ⟨_, List.getElem?_eq_getElem h1⟩
      rw [← he, drop_get hb]; rfl
    · have : l.length = m.length := by omega
      have h2 : ¬ m.length < l.length := by omega
      simp (maxSteps := 1000000) (disch := omega) only [push_cast, go_sem, zA, zB, zC, zD, zE, zF, simprocAttr, h1, h2]
      rw [← he, List.drop_of_length_le (by omega)]; rfl
theorem l2Seen_fn (s t : Sn) (hs : s.small) (ht : t.small) : Fp Tryz.prog 45 [s.V, t.V] (.int .i64 (cmpS s t)) := by
  have h1 := l2Comp_fn s.rd t.rd hs.rd ht.rd
  have h2 := l2Comp_fn s.ls t.ls hs.ls ht.ls
  obtain ⟨c, hc⟩ : ∃ c, cmpL s.rd t.rd = c := ⟨_, rfl⟩
  rw [cmpS, hc]
  rw [hc] at h1
  refine Fc.start (S := []) Tryz.func45 Tryz.ntmps45 Tryz.results45 rfl (by decide) rfl (by kernel_rfl) ?_
  simp (maxSteps := 1000000) (disch := omega) only [push_cast, go_sem, zA, zB, zC, zD, zE, zF, simprocAttr, Sn.V_eq]
  intro g2 g3
  refine callR.pure h1 rfl rfl ?_
  by_cases h0 : c = 0
  · subst h0
    simp (maxSteps := 1000000) (disch := omega) only [push_cast, go_sem, zA, zB, zC, zD, zE, zF, simprocAttr]
    refine callR.pure h2 rfl rfl ?_
    simp (maxSteps := 1000000) (disch := omega) only [push_cast, go_sem, zA, zB, zC, zD, zE, zF, simprocAttr]
    rfl
  · have h3 : (c != 0) = true := by simpa using h0
    simp (maxSteps := 1000000) (disch := omega) only [push_cast, go_sem, zA, zB, zC, zD, zE, zF, simprocAttr, h3]
    rw [orI, if_neg h0]
end Go.Proofs.YtfbgabkcjjahiaaGreatDoor
namespace Go.Proofs.YtfbgabkcjjahiaaGreatDoor
open Go.RowKit
set_option pp.maxSteps 3000

structure Evt where
  t : Int
  s : Int
  l : Bool
deriving DecidableEq, Inhabited
def Evt.V (e : Evt) : V := .agg [.int .i64 e.t, .int .i64 e.s, .bool e.l]
theorem Evt.V_eq (e : Evt) : e.V = .agg [.int .i64 e.t, .int .i64 e.s, .bool e.l] := rfl
theorem fz_Evt (e : Evt) : e.V.fz = e.V := by simp [Evt.V, V.fz, V.fz.fzs]
@[push_cast] theorem fzs_Evt (l : List Evt) : (l.map Evt.V).map V.fz = l.map Evt.V := by rw [List.map_map]; exact List.map_congr_left fun d _ => fz_Evt d
@[push_cast] theorem flatL_Evt (l : List Evt) : flatL (l.map Evt.V) = true := by simp [flatL, Evt.V, V.cells, V.flatC]
/-- The events of a step. -/
def evsOf (t k : Nat) (d : Do) : List Evt := if d.k == 9 then [⟨t, k, false⟩, ⟨t, k, true⟩] else [⟨t, k, false⟩]
/-- The events of the first k steps of thread t; of the first i threads. -/
def evThr (t : Nat) (l : List Do) : Nat → List Evt
  | 0 => []
  | k + 1 => evThr t l k ++ (match l[k]? with | some d => evsOf t k d | none => [])
def evPro (p : Prog) : Nat → List Evt
  | 0 => []
  | i + 1 => evPro p i ++ (match p[i]? with | some l => evThr i l l.length | none => [])
def events (p : Prog) : List Evt := evPro p p.length
theorem evThr_le (t : Nat) (l : List Do) (k : Nat) : (evThr t l k).length ≤ 2 * k := by
  induction k with
  | zero => simp [evThr]
  | succ k ih =>
    simp only [evThr, List.length_append]
    have : (match l[k]? with | some d => evsOf t k d | none => []).length ≤ 2 := by
      split
      · unfold evsOf; split <;> simp
      · simp
    omega
theorem evPro_le (p : Prog) (h : ∀ l ∈ p, l.length ≤ 7) (i : Nat) : (evPro p i).length ≤ 14 * i := by
  induction i with
  | zero => simp [evPro]
  | succ i ih =>
    simp only [evPro, List.length_append]
    have : (match p[i]? with | some l => evThr i l l.length | none => []).length ≤ 14 := by
      split
      · rename_i l hl
        have := h l (List.mem_of_getElem? hl)
        have := evThr_le i l l.length
        omega
      · simp
    omega

/-- A row in the making. -/
structure Rw where
  e : TypeId
  γ : Option Nat
  c : Nat
structure EvS where
  k : Nat
  e : TypeId
  γ : Option Nat
  c : Nat
theorem implExecEvents_fn (p : Prog) (hp : p.length < 2 ^ 40) (hl : ∀ l ∈ p, l.length < 2 ^ 40) : Fp Tryz.prog 24 [progV p] (.sl ((if progOk p then events p else []).map Evt.V)) := by
  cases hok : progOk p
  · refine Fc.nilrow (R' := fun r _ => r = .msl 2 [] none 0 0) ?_ (fun r m hr => ⟨2, [], hr, rfl, rfl⟩)
    refine Fc.start (S := []) Tryz.func24 Tryz.ntmps24 Tryz.results24 rfl (by decide) rfl (by kernel_rfl) ?_
    simp (maxSteps := 1000000) (disch := omega) only [push_cast, go_sem, zA, zB, zC, zD, zE, zF, simprocAttr, progV_eq]
    intro g
    refine callR.pure (implProgOk_fn p hp hl) rfl rfl ?_
    simp (maxSteps := 1000000) (disch := omega) only [push_cast, go_sem, zA, zB, zC, zD, zE, zF, simprocAttr, hok]
    exact ⟨noM, Sub.no⟩
  have hok' := hok
  simp only [progOk, Bool.and_eq_true, decide_eq_true_eq, List.all_eq_true] at hok'
  obtain ⟨⟨⟨hp3, hth⟩, _⟩, _⟩ := hok'
  have h7 : ∀ l ∈ p, l.length ≤ 7 := fun l h => threadOk_le (hth l h)
  refine Fc.start (S := [15]) Tryz.func24 Tryz.ntmps24 Tryz.results24 rfl (by decide) rfl (by kernel_rfl) ?_
  simp (maxSteps := 1000000) (disch := omega) only [push_cast, go_sem, zA, zB, zC, zD, zE, zF, simprocAttr, progV_eq]
  intro g
  refine callR.pure (implProgOk_fn p hp hl) rfl rfl ?_
  simp (maxSteps := 1000000) (disch := omega) only [push_cast, go_sem, zA, zB, zC, zD, zE, zF, simprocAttr, hok]
  refine Sat.loop (σ := EvS) (fun x => upd (upd (upd (upd noT 12 (.sl (p.map thrV))) 13 (.int .i64 p.length)) 14 (.int .i64 x.k)) 3 (.msl 3 [] x.γ (evPro p x.k).length x.c))
    (fun x => noM.set 3 (.own x.e x.γ x.c ((evPro p x.k).map Evt.V)))
    (fun x => x.k ≤ p.length ∧ (x.γ = none ∨ x.e = 87)) (fun x => p.length - x.k) ⟨0, 0, none, 0⟩ (by simp) ?_ ?_
  · (refine Less.start ?_; repeat (first | exact LessO.nil | exact LessO.all | refine LessO.skip (by decide) ?_ | refine LessO.upd ?_ ?_ | refine LessO.set ?_ ?_)) <;> (try simp (maxSteps := 1000000) (disch := omega) only [push_cast, go_sem, zA, zB, zC, zD, zE, zF, simprocAttr])
    all_goals rfl
  rintro ⟨i, e, γ, c⟩ ⟨hi, hγ⟩ J hJ
  refine Sat.of (S := [1001]) (by kernel_rfl) ?_
  simp only at hi hγ hJ
  have hb := evPro_le p h7 i
  rcases Nat.lt_or_ge i p.length with hlt | hge
  · obtain ⟨l, he⟩ : ∃ l, p[i]? = some l := ⟨_, List.getElem?_eq_getElem hlt⟩
    have hl7 := h7 l (List.mem_of_getElem? he)
    simp (maxSteps := 1000000) (disch := omega) only [push_cast, go_sem, zA, zB, zC, zD, zE, zF, simprocAttr, he, hlt, thrV_eq]
    have T2 : ∀ k, k ≤ l.length → (evPro p i ++ evThr i l k).length ≤ 60 := by
      intro k hk
      have := evThr_le i l k
      rw [List.length_append]; omega
    refine Sat.cut (σ := Rw) [] (fun x => upd (upd (upd (upd noT 12 (.sl (p.map thrV))) 13 (.int .i64 p.length)) 14 (.int .i64 i)) 3 (.msl 3 [] x.γ (evPro p (i + 1)).length x.c))
      (fun x => noM.set 3 (.own x.e x.γ x.c ((evPro p (i + 1)).map Evt.V))) (fun x => x.γ = none ∨ x.e = 87) (by kernel_rfl) ?_ ?_
    · simp (maxSteps := 1000000) (disch := omega) only [push_cast, go_sem, zA, zB, zC, zD, zE, zF, simprocAttr, he, hlt, thrV_eq]
      refine Sat.loop (σ := EvS) (fun x => upd (upd (upd (upd (upd (upd (upd (upd noT 12 (.sl (p.map thrV))) 13 (.int .i64 p.length)) 14 (.int .i64 i)) 4 (.int .i64 i)) 19 (.sl (l.map Do.V))) 20 (.int .i64 l.length)) 21 (.int .i64 x.k)) 3 (.msl 3 [] x.γ (evPro p i ++ evThr i l x.k).length x.c))
        (fun x => noM.set 3 (.own x.e x.γ x.c ((evPro p i ++ evThr i l x.k).map Evt.V)))
        (fun x => x.k ≤ l.length ∧ (x.γ = none ∨ x.e = 87)) (fun x => l.length - x.k) ⟨0, e, γ, c⟩ (by simp [hγ]) ?_ ?_
      · (refine Less.start ?_; repeat (first | exact LessO.nil | exact LessO.all | refine LessO.skip (by decide) ?_ | refine LessO.upd ?_ ?_ | refine LessO.set ?_ ?_)) <;> (try simp (maxSteps := 1000000) (disch := omega) only [push_cast, go_sem, zA, zB, zC, zD, zE, zF, simprocAttr])
        all_goals simp [evThr]
      rintro ⟨k, e2, γ2, c2⟩ ⟨hk, hγ2⟩ J2 hJ2
      refine Sat.of (S := []) (by kernel_rfl) ?_
      simp only at hk hγ2 hJ2
      have hb2 := T2 k hk
      rcases Nat.lt_or_ge k l.length with hkl | hkg
      · obtain ⟨d, hd⟩ : ∃ d, l[k]? = some d := ⟨_, List.getElem?_eq_getElem hkl⟩
        have hγ2' : (γ2 = none ∨ e2 = 87) = True := by simp only [hγ2]
        simp (maxSteps := 1000000) (disch := omega) only [push_cast, go_sem, zA, zB, zC, zD, zE, zF, simprocAttr, hd, hkl, Do.V_eq, hγ2']
        rw [List.length_append] at hb2
        have hn : k + 1 ≤ l.length := by omega
        have hm : l.length - (k + 1) < l.length - k := by omega
        intro g3 g4
        refine ⟨by omega, fun γ3 c3 _ => ⟨fun h9 g5 => ⟨by omega, fun γ4 c4 _ => ?_⟩, fun h9 => ?_⟩⟩
        · refine hJ2 ⟨k + 1, 87, γ4, c4⟩ _ _ ⟨hn, .inr rfl⟩ hm ?_
          (refine Less.start ?_; repeat (first | exact LessO.nil | exact LessO.all | refine LessO.skip (by decide) ?_ | refine LessO.upd ?_ ?_ | refine LessO.set ?_ ?_)) <;> (try simp (maxSteps := 1000000) (disch := omega) only [push_cast, go_sem, zA, zB, zC, zD, zE, zF, simprocAttr])
          all_goals simp [evThr, hd, evsOf, h9, Evt.V, Nat.add_assoc]
        · refine hJ2 ⟨k + 1, 87, γ3, c3⟩ _ _ ⟨hn, .inr rfl⟩ hm ?_
          (refine Less.start ?_; repeat (first | exact LessO.nil | exact LessO.all | refine LessO.skip (by decide) ?_ | refine LessO.upd ?_ ?_ | refine LessO.set ?_ ?_)) <;> (try simp (maxSteps := 1000000) (disch := omega) only [push_cast, go_sem, zA, zB, zC, zD, zE, zF, simprocAttr])
          all_goals simp [evThr, hd, evsOf, h9, Evt.V, Nat.add_assoc]
      · have : k = l.length := by omega
        subst this
        simp (maxSteps := 1000000) (disch := omega) only [push_cast, go_sem, zA, zB, zC, zD, zE, zF, simprocAttr]
        refine ⟨⟨e2, γ2, c2⟩, hγ2, ?_⟩
        (refine Less.start ?_; repeat (first | exact LessO.nil | exact LessO.all | refine LessO.skip (by decide) ?_ | refine LessO.upd ?_ ?_ | refine LessO.set ?_ ?_)) <;> (try simp (maxSteps := 1000000) (disch := omega) only [push_cast, go_sem, zA, zB, zC, zD, zE, zF, simprocAttr])
        all_goals simp [evPro, he, Nat.add_assoc]
    rintro ⟨e2, γ2, c2⟩ hγ2
    refine Sat.of (S := []) (by kernel_rfl) ?_
    simp only at hγ2
    simp (maxSteps := 1000000) (disch := omega) only [push_cast, go_sem, zA, zB, zC, zD, zE, zF, simprocAttr]
    refine hJ ⟨i + 1, e2, γ2, c2⟩ _ _ ⟨by simp only; omega, hγ2⟩ (by simp only; omega) ?_
    (refine Less.start ?_; repeat (first | exact LessO.nil | exact LessO.all | refine LessO.skip (by decide) ?_ | refine LessO.upd ?_ ?_ | refine LessO.set ?_ ?_)) <;> (try simp (maxSteps := 1000000) (disch := omega) only [push_cast, go_sem, zA, zB, zC, zD, zE, zF, simprocAttr])
  · have : i = p.length := by omega
    subst this
    simp (maxSteps := 1000000) (disch := omega) only [push_cast, go_sem, zA, zB, zC, zD, zE, zF, simprocAttr]
    refine Sat.freezeT (upd noT 3 (.sl ((evPro p p.length).map Evt.V))) noM 3 (e := e) (γ := γ) (cap := c) (es := (evPro p p.length).map Evt.V) rfl ?_ ?_
    · (refine Less.start ?_; repeat (first | exact LessO.nil | exact LessO.all | refine LessO.skip (by decide) ?_ | refine LessO.upd ?_ ?_ | refine LessO.set ?_ ?_)) <;> (try simp (maxSteps := 1000000) (disch := omega) only [push_cast, go_sem, zA, zB, zC, zD, zE, zF, simprocAttr])
    refine Sat.of (S := []) (by kernel_rfl) ?_
    simp (maxSteps := 1000000) (disch := omega) only [push_cast, go_sem, zA, zB, zC, zD, zE, zF, simprocAttr]
    rfl
end Go.Proofs.YtfbgabkcjjahiaaGreatDoor
namespace Go.Proofs.YtfbgabkcjjahiaaGreatDoor
open Go.RowKit
set_option pp.maxSteps 3000

/-- What a program's events are looked at with. -/
structure Sc where
  p : Prog
  es : List Evt
  ds : List Do
def Sc.V (s : Sc) : V := .agg [.sl (s.p.map thrV), .sl (s.es.map Evt.V), .sl (s.ds.map Do.V)]
theorem Sc.V_eq (s : Sc) : s.V = .agg [.sl (s.p.map thrV), .sl (s.es.map Evt.V), .sl (s.ds.map Do.V)] := rfl
def stepAt (p : Prog) (e : Evt) : Do := ((p[e.t.toNat]?.getD [])[e.s.toNat]?).getD default
def scene (p : Prog) : Sc := ⟨p, events p, (events p).map (stepAt p)⟩
/-- Each event is one of a step of the program. -/
theorem mem_evThr {t : Nat} {l : List Do} {e : Evt} : ∀ {k : Nat}, e ∈ evThr t l k → ∃ j d, j < k ∧ l[j]? = some d ∧ e.t = t ∧ e.s = j ∧ (e.l = true → d.k = 9)
  | 0, h => by simp [evThr] at h
  | k + 1, h => by
    simp only [evThr, List.mem_append] at h
    rcases h with h | h
    · obtain ⟨j, d, h1, h2⟩ := mem_evThr h
      exact ⟨j, d, by omega, h2⟩
    · split at h
      · rename_i d hd
        unfold evsOf at h
        split at h
        · rename_i h9
          have h9' : d.k = 9 := by simpa using h9
          simp at h
          rcases h with rfl | rfl <;> exact ⟨k, d, by omega, hd, rfl, rfl, fun _ => h9'⟩
        · simp at h
          subst h
          exact ⟨k, d, by omega, hd, rfl, rfl, fun h => by cases h⟩
      · cases h
theorem mem_evPro {p : Prog} {e : Evt} : ∀ {i : Nat}, e ∈ evPro p i → ∃ j l, j < i ∧ p[j]? = some l ∧ e ∈ evThr j l l.length
  | 0, h => by simp [evPro] at h
  | i + 1, h => by
    simp only [evPro, List.mem_append] at h
    rcases h with h | h
    · obtain ⟨j, l, h1, h2⟩ := mem_evPro h
      exact ⟨j, l, by omega, h2⟩
    · split at h
      · rename_i l hl
        exact ⟨i, l, by omega, hl, h⟩
      · cases h
theorem mem_events {p : Prog} {e : Evt} (h : e ∈ events p) : ∃ i l k d, p[i]? = some l ∧ l[k]? = some d ∧ e.t = (i : Nat) ∧ e.s = (k : Nat) ∧ stepAt p e = d ∧ (e.l = true → d.k = 9) := by
  obtain ⟨i, l, _, hl, h1⟩ := mem_evPro h
  obtain ⟨k, d, _, hd, h2, h3, h4⟩ := mem_evThr h1
  exact ⟨i, l, k, d, hl, hd, h2, h3, by simp [stepAt, h2, h3, hl, hd], h4⟩
theorem events_le {p : Prog} (h : progOk p = true) : (events p).length ≤ 42 := by
  simp only [progOk, Bool.and_eq_true, decide_eq_true_eq, List.all_eq_true] at h
  have := evPro_le p (fun l hl => threadOk_le (h.1.1.2 l hl)) p.length
  unfold events; omega
theorem sceneOf_fn (p : Prog) (hok : progOk p = true) : Fp Tryz.prog 48 [progV p] (scene p).V := by
  have hok' := hok
  simp only [progOk, Bool.and_eq_true, decide_eq_true_eq, List.all_eq_true] at hok'
  obtain ⟨⟨⟨hp3, hth⟩, _⟩, _⟩ := hok'
  have h7 : ∀ l ∈ p, l.length ≤ 7 := fun l h => threadOk_le (hth l h)
  have hev := implExecEvents_fn p (by omega) (fun l h => by have := h7 l h; omega)
  rw [hok, if_pos rfl] at hev
  have hel := events_le hok
  refine Fc.start (S := [7]) Tryz.func48 Tryz.ntmps48 Tryz.results48 rfl (by decide) rfl (by kernel_rfl) ?_
  simp (maxSteps := 1000000) (disch := omega) only [push_cast, go_sem, zA, zB, zC, zD, zE, zF, simprocAttr, progV_eq]
  intro g1 g2
  refine Sat.drawnE [(0, 4), (1, 4), (2, 4)] [] [0, 1, 2] (fun f _ _ => if f = 24 then some fun r m => r = .sl ((events p).map Evt.V) ∧ m = noM else none) (by kernel_rfl) (by kernel_rfl) ?_
  simp (maxSteps := 1000000) (disch := omega) only [push_cast, go_sem, zA, zB, zC, zD, zE, zF, simprocAttr]
  refine runD_pure rfl hev rfl rfl ?_ ?_
  · rfl
  simp (maxSteps := 1000000) (disch := omega) only [push_cast, go_sem, zA, zB, zC, zD, zE, zF, simprocAttr]
  intro g3
  refine Sat.loop (σ := EvS) (fun x => upd (upd (upd (upd (upd (upd noT 1 (.ptr 1 [] 0 0 g1 1)) 2 (.ptr 2 [] 0 0 g2 3)) 3 (.ptr 3 [] 0 0 g3 3)) 11 (.sl ((events p).map Evt.V))) 12 (.int .i64 (events p).length)) 13 (.int .i64 x.k))
    (fun x => ((noM.set 1 (boxP p g1)).set 2 (.own 74 (some g2) 1 [.agg [.own 0 none 0 [], .own 0 none 0 [], .own 0 none 0 []]])).set 3 (.own 74 (some g3) 1 [.agg [.sl (p.map thrV), .sl ((events p).map Evt.V), .own x.e x.γ x.c ((((events p).take x.k).map (stepAt p)).map Do.V)]]))
    (fun x => x.k ≤ (events p).length ∧ (x.γ = none ∨ x.e = 62)) (fun x => (events p).length - x.k) ⟨0, 0, none, 0⟩ (by simp) ?_ ?_
  · (refine Less.start ?_; repeat (first | exact LessO.nil | exact LessO.all | refine LessO.skip (by decide) ?_ | refine LessO.upd ?_ ?_ | refine LessO.set ?_ ?_)) <;> (try simp (maxSteps := 1000000) (disch := omega) only [push_cast, go_sem, zA, zB, zC, zD, zE, zF, simprocAttr])
    all_goals rfl
  rintro ⟨k, e, γ, c⟩ ⟨hk, hγ⟩ J hJ
  refine Sat.of (S := []) (by kernel_rfl) ?_
  simp only at hk hγ hJ
  rcases Nat.lt_or_ge k (events p).length with hlt | hge
  · obtain ⟨ev, he⟩ : ∃ d, (events p)[k]? = some d := ⟨_, List.getElem?_eq_getElem hlt⟩
    obtain ⟨i, l, j, d, hl, hd, h1, h2, h3, _⟩ := mem_events (List.mem_of_getElem? he)
    have hil := (List.getElem?_eq_some_iff.1 hl).1
    have hjl := (List.getElem?_eq_some_iff.1 hd).1
    simp (maxSteps := 1000000) (disch := omega) only [push_cast, go_sem, zA, zB, zC, zD, zE, zF, simprocAttr, he, hlt, Evt.V_eq, boxP_eq]
    intro g4
    have hγ' : (γ = none ∨ e = 62) = True := by simp only [hγ]
    refine Sat.drawnE [(1, 12)] [] [1, 3, 5, 7, 9, 11] (fun _ _ _ => none) (by kernel_rfl) (by kernel_rfl) ?_
    simp (maxSteps := 1000000) (disch := omega) only [push_cast, go_sem, zA, zB, zC, zD, zE, zF, simprocAttr, h1, h2, hl, hd, hil, hjl, thrV_eq, Do.V_eq, hγ']
    have hn : k + 1 ≤ (events p).length := by omega
    have hm : (events p).length - (k + 1) < (events p).length - k := by omega
    intro g5
    refine ⟨?_, fun γ2 c2 _ => ?_⟩
    · have : ((events p).take k).length ≤ 42 := by rw [List.length_take]; omega
      omega
    refine hJ ⟨k + 1, 62, γ2, c2⟩ _ _ ⟨hn, .inr rfl⟩ hm ?_
    (refine Less.start ?_; repeat (first | exact LessO.nil | exact LessO.all | refine LessO.skip (by decide) ?_ | refine LessO.upd ?_ ?_ | refine LessO.set ?_ ?_)) <;> (try simp (maxSteps := 1000000) (disch := omega) only [push_cast, go_sem, zA, zB, zC, zD, zE, zF, simprocAttr])
    · rfl
    · rw [take_get he, List.map_append, List.map_append]
      simp [h3, Do.V]
  · have : k = (events p).length := by omega
    subst this
    simp (maxSteps := 1000000) (disch := omega) only [push_cast, go_sem, zA, zB, zC, zD, zE, zF, simprocAttr]
    refine Sat.freezeC 3 [] 0 2 (n0 := .own 74 (some g3) 1 [.agg [.sl (p.map thrV), .sl ((events p).map Evt.V), .own e γ c (((events p).map (stepAt p)).map Do.V)]]) (d := .own e γ c (((events p).map (stepAt p)).map Do.V)) rfl rfl rfl ?_
    have hfz : (V.own e γ c (((events p).map (stepAt p)).map Do.V)).fz = .sl ((scene p).ds.map Do.V) := by
      simp only [V.fz, fzs_map, fzs_Do, scene]
    rw [hfz]
    refine Sat.of (S := []) (by kernel_rfl) ?_
    simp (maxSteps := 1000000) (disch := omega) only [push_cast, go_sem, zA, zB, zC, zD, zE, zF, simprocAttr]
    rfl
end Go.Proofs.YtfbgabkcjjahiaaGreatDoor
namespace Go.Proofs.YtfbgabkcjjahiaaGreatDoor
open Go.RowKit
set_option pp.maxSteps 3000

def intsV (l : List Int) : V := .sl (l.map (V.int .i64))
theorem intsV_eq (l : List Int) : intsV l = .sl (l.map (V.int .i64)) := rfl
@[push_cast] theorem fzs_int (l : List Int) : (l.map (V.int .i64)).map V.fz = l.map (V.int .i64) := by rw [List.map_map]; exact List.map_congr_left fun d _ => rfl
@[push_cast] theorem flatL_int (l : List Int) : flatL (l.map (V.int .i64)) = true := by simp [flatL, V.cells, V.flatC]
@[push_cast] theorem okY_int (l : List Int) : okY Tryz.prog 3 (l.map (V.int .i64)) = True := by
  simp only [okY, List.mem_map, eq_iff_iff, iff_true]
  rintro y ⟨d, _, rfl⟩
  exact ⟨by rw [szT_3]; rfl, by simp [V.cells, V.one]⟩
/-- The first k events' places that write to a place. -/
def wrs (ds : List Do) (pl : Int) : Nat → List Int
  | 0 => []
  | k + 1 => wrs ds pl k ++ (match ds[k]? with | some d => if d.writes && d.p == pl then [(k : Int)] else [] | none => [])
def writersOf (ds : List Do) (pl : Int) : List Int := wrs ds pl ds.length
theorem wrs_le (ds : List Do) (pl : Int) (k : Nat) : (wrs ds pl k).length ≤ k := by
  induction k with
  | zero => simp [wrs]
  | succ k ih =>
    simp only [wrs, List.length_append]
    split
    · split <;> simp <;> omega
    · simp; omega
theorem writers_fn (s : Sc) (pl : Int) (hs : s.ds.length < 2 ^ 20) : Fp Tryz.prog 125 [s.V, .int .i64 pl] (intsV (writersOf s.ds pl)) := by
  refine Fc.start (S := [8]) Tryz.func125 Tryz.ntmps125 Tryz.results125 rfl (by decide) rfl (by kernel_rfl) ?_
  simp (maxSteps := 1000000) (disch := omega) only [push_cast, go_sem, zA, zB, zC, zD, zE, zF, simprocAttr, Sc.V_eq]
  intro g1
  refine Sat.loop (σ := EvS) (fun x => upd (upd (upd (upd (upd noT 1 (.int .i64 pl)) 9 (.sl (s.ds.map Do.V))) 10 (.int .i64 s.ds.length)) 11 (.int .i64 x.k)) 5 (.msl 5 [] x.γ (wrs s.ds pl x.k).length x.c))
    (fun x => noM.set 5 (.own x.e x.γ x.c ((wrs s.ds pl x.k).map (V.int .i64))))
    (fun x => x.k ≤ s.ds.length ∧ (x.γ = none ∨ x.e = 3)) (fun x => s.ds.length - x.k) ⟨0, 0, none, 0⟩ (by simp) ?_ ?_
  · (refine Less.start ?_; repeat (first | exact LessO.nil | exact LessO.all | refine LessO.skip (by decide) ?_ | refine LessO.upd ?_ ?_ | refine LessO.set ?_ ?_)) <;> (try simp (maxSteps := 1000000) (disch := omega) only [push_cast, go_sem, zA, zB, zC, zD, zE, zF, simprocAttr])
    all_goals rfl
  rintro ⟨k, e, γ, c⟩ ⟨hk, hγ⟩ J hJ
  refine Sat.of (S := []) (by kernel_rfl) ?_
  simp only at hk hγ hJ
  have hb := wrs_le s.ds pl k
  rcases Nat.lt_or_ge k s.ds.length with hlt | hge
  · obtain ⟨d, hd⟩ : ∃ d, s.ds[k]? = some d := ⟨_, List.getElem?_eq_getElem hlt⟩
    have hγ' : (γ = none ∨ e = 3) = True := by simp only [hγ]
    have hn : k + 1 ≤ s.ds.length := by omega
    have hm : s.ds.length - (k + 1) < s.ds.length - k := by omega
    have same : (d.writes && d.p == pl) = false → wrs s.ds pl (k + 1) = wrs s.ds pl k := fun h => by simp only [wrs, hd, h]; simp
    simp (maxSteps := 1000000) (disch := omega) only [push_cast, go_sem, zA, zB, zC, zD, zE, zF, simprocAttr, hd, hlt, Do.V_eq, hγ']
    intro g2
    refine callR.pure (writes_fn d) rfl rfl ?_
    cases hw : d.writes
    · simp (maxSteps := 1000000) (disch := omega) only [push_cast, go_sem, zA, zB, zC, zD, zE, zF, simprocAttr]
      refine hJ ⟨k + 1, e, γ, c⟩ _ _ ⟨hn, hγ⟩ hm ?_
      (refine Less.start ?_; repeat (first | exact LessO.nil | exact LessO.all | refine LessO.skip (by decide) ?_ | refine LessO.upd ?_ ?_ | refine LessO.set ?_ ?_)) <;> (try simp (maxSteps := 1000000) (disch := omega) only [push_cast, go_sem, zA, zB, zC, zD, zE, zF, simprocAttr])
      all_goals rw [same (by rw [hw]; rfl)]
    · cases hp : (d.p == pl)
      · simp (maxSteps := 1000000) (disch := omega) only [push_cast, go_sem, zA, zB, zC, zD, zE, zF, simprocAttr, hp]
        refine hJ ⟨k + 1, e, γ, c⟩ _ _ ⟨hn, hγ⟩ hm ?_
        (refine Less.start ?_; repeat (first | exact LessO.nil | exact LessO.all | refine LessO.skip (by decide) ?_ | refine LessO.upd ?_ ?_ | refine LessO.set ?_ ?_)) <;> (try simp (maxSteps := 1000000) (disch := omega) only [push_cast, go_sem, zA, zB, zC, zD, zE, zF, simprocAttr])
        all_goals rw [same (by rw [hw, hp]; rfl)]
      · simp (maxSteps := 1000000) (disch := omega) only [push_cast, go_sem, zA, zB, zC, zD, zE, zF, simprocAttr, hp, hγ']
        intro g3
        refine ⟨by omega, fun γ2 c2 _ => ?_⟩
        refine hJ ⟨k + 1, 3, γ2, c2⟩ _ _ ⟨hn, .inr rfl⟩ hm ?_
        (refine Less.start ?_; repeat (first | exact LessO.nil | exact LessO.all | refine LessO.skip (by decide) ?_ | refine LessO.upd ?_ ?_ | refine LessO.set ?_ ?_)) <;> (try simp (maxSteps := 1000000) (disch := omega) only [push_cast, go_sem, zA, zB, zC, zD, zE, zF, simprocAttr])
        all_goals simp [wrs, hd, hw, hp]
  · have : k = s.ds.length := by omega
    subst this
    simp (maxSteps := 1000000) (disch := omega) only [push_cast, go_sem, zA, zB, zC, zD, zE, zF, simprocAttr]
    refine Sat.freezeT (upd noT 5 (intsV (writersOf s.ds pl))) noM 5 (e := e) (γ := γ) (cap := c) (es := (wrs s.ds pl s.ds.length).map (V.int .i64)) rfl ?_ ?_
    · (refine Less.start ?_; repeat (first | exact LessO.nil | exact LessO.all | refine LessO.skip (by decide) ?_ | refine LessO.upd ?_ ?_ | refine LessO.set ?_ ?_)) <;> (try simp (maxSteps := 1000000) (disch := omega) only [push_cast, go_sem, zA, zB, zC, zD, zE, zF, simprocAttr])
      rfl
    refine Sat.of (S := []) (by kernel_rfl) ?_
    simp (maxSteps := 1000000) (disch := omega) only [push_cast, go_sem, zA, zB, zC, zD, zE, zF, simprocAttr, intsV_eq]

theorem lastRead_fn (s : Sc) (a r : Nat) (hs : s.ds.length < 2 ^ 20) (ha : a ≤ s.ds.length) (hr : r < a) (hrd : ∃ d, s.ds[r]? = some d ∧ d.reads = true) (hno : ∀ j d, r < j → j < a → s.ds[j]? = some d → d.reads = false) :
    Fp Tryz.prog 129 [s.V, .int .i64 a] (.int .i64 r) := by
  obtain ⟨dr, hdr, hdr1⟩ := hrd
  refine Fc.start (S := []) Tryz.func129 Tryz.ntmps129 Tryz.results129 rfl (by decide) rfl (by kernel_rfl) ?_
  simp (maxSteps := 1000000) (disch := omega) only [push_cast, go_sem, zA, zB, zC, zD, zE, zF, simprocAttr, Sc.V_eq]
  intro g1
  refine Sat.loop (σ := Nat) (fun k => upd (upd noT 2 (.ptr 2 [] 0 0 g1 3)) 1 (.int .i64 k)) (fun _ => noM.set 2 (.own 74 (some g1) 1 [.agg [.sl (s.p.map thrV), .sl (s.es.map Evt.V), .sl (s.ds.map Do.V)]]))
    (fun k => r ≤ k ∧ k < a) (fun k => k - r) (a - 1) (by omega) ?_ ?_
  · (refine Less.start ?_; repeat (first | exact LessO.nil | exact LessO.all | refine LessO.skip (by decide) ?_ | refine LessO.upd ?_ ?_ | refine LessO.set ?_ ?_)) <;> (try simp (maxSteps := 1000000) (disch := omega) only [push_cast, go_sem, zA, zB, zC, zD, zE, zF, simprocAttr])
  rintro k ⟨h1, h2⟩ J hJ
  refine Sat.of (S := []) (by kernel_rfl) ?_
  obtain ⟨d, hd⟩ : ∃ d, s.ds[k]? = some d := ⟨_, List.getElem?_eq_getElem (by omega)⟩
  have hlt : k < s.ds.length := by omega
  simp (maxSteps := 1000000) (disch := omega) only [push_cast, go_sem, zA, zB, zC, zD, zE, zF, simprocAttr, hd, hlt, Do.V_eq]
  refine callR.pure (reads_fn d) rfl rfl ?_
  rcases Nat.lt_or_ge r k with hrk | hrk
  · have := hno k d hrk h2 hd
    simp (maxSteps := 1000000) (disch := omega) only [push_cast, go_sem, zA, zB, zC, zD, zE, zF, simprocAttr, this]
    have hk1 : ((k : Int) - 1) = ((k - 1 : Nat) : Int) := by omega
    refine hJ (k - 1) _ _ (by omega) (by omega) ?_
    (refine Less.start ?_; repeat (first | exact LessO.nil | exact LessO.all | refine LessO.skip (by decide) ?_ | refine LessO.upd ?_ ?_ | refine LessO.set ?_ ?_)) <;> (try simp (maxSteps := 1000000) (disch := omega) only [push_cast, go_sem, zA, zB, zC, zD, zE, zF, simprocAttr])
  · have : k = r := by omega
    subst this
    rw [hdr] at hd; cases hd
    simp (maxSteps := 1000000) (disch := omega) only [push_cast, go_sem, zA, zB, zC, zD, zE, zF, simprocAttr, hdr1]
end Go.Proofs.YtfbgabkcjjahiaaGreatDoor
namespace Go.Proofs.YtfbgabkcjjahiaaGreatDoor
open Go.RowKit Go.Sort

section
variable {P : Program} {imm : Nat → Prop} {w w' : World} {sz : TypeId → Nat} {k : IntKind}
theorem inv_no {sz : TypeId → Nat} {imm : Nat → Prop} {w : World} : Inv sz imm w noM :=
  ⟨fun o q v h => (by simp [Mem.getP, noM] at h), fun o v h => (by cases h), fun o q o' q' g e cap es e' cap' es' h => (by simp [Mem.getP, noM] at h)⟩
theorem not_owns_no {g : Nat} : ¬ noM.owns g := by
  rintro ⟨o, q, e, cap, es, h⟩
  simp [Mem.getP, noM] at h
/-- Numbers in a row that stays. -/
theorem Rp.ints_inv {zs : List Int} {v : Value} (h : Rp imm w (.sl (zs.map (V.int k))) v) : ∃ A c, v = .slice A zs.length c ∧
    (zs ≠ [] → ∃ g off, A = some ⟨g, off, none⟩ ∧ imm g ∧ zs.length ≤ c ∧ ∀ j, j < zs.length → w.cell? ⟨g, off + j, none⟩ = some (.int k (zs.getD j 0))) := by
  generalize he : zs.map (V.int k) = es at h
  cases h with
  | sl0 A c =>
    have : zs = [] := by simpa using he
    subst this
    exact ⟨A, c, rfl, fun h => absurd rfl h⟩
  | sl _ g off cap n cur t fr f hi hg hk hl hc hv =>
    have hlen : es.length = zs.length := by rw [← he, List.length_map]
    refine ⟨_, cap, by rw [hlen], fun hne => ⟨g, off, rfl, hi, by omega, fun j hj => ?_⟩⟩
    have hx : es[j]? = some (.int k (zs.getD j 0)) := by
      rw [← he, List.getElem?_map, List.getElem?_eq_getElem hj]
      simp [List.getD, hj]
    have h1 : n = 1 := by have := hl j _ hx; simpa [V.cells] using this.symm
    subst h1
    have h2 := hc j _ 0 (.int k (zs.getD j 0)) hx rfl
    have h3 := (hv j _ 0 (.int k (zs.getD j 0)) hx rfl).int_inv
    unfold World.cell?
    simp only [hg]
    rw [h3] at h2
    simpa using h2
theorem Step.below (hi : ∀ g, imm g → g < w.heap.size) (h : Below w.heap.size w w') : Step sz imm w noM imm w' noM :=
  ⟨inv_no, fun g hg => Nat.lt_of_lt_of_le (hi g hg) h.size, h.size, h.os, h.tape, h.output, fun g hg _ => ⟨h.block g hg, Iff.rfl⟩, fun g hg => absurd hg not_owns_no⟩
theorem below_drewN (n : Nat) : Below w.heap.size w (w.drewN n) := ⟨rfl, rfl, rfl, Nat.le_refl _, fun _ _ => rfl⟩
/-- A function that only answers. -/
theorem Fp.of_calls {f : FuncId} {args : List V} {r : V} (hgo : goFn P f = true)
    (h : ∀ (imm : Nat → Prop) (w : World) (vals : Array Value), (∀ g, imm g → g < w.heap.size) → vals.size = args.length → (∀ (j : Nat) c u, args[j]? = some c → vals[j]? = some u → Rp imm w c u) →
      Calls P f vals w fun e w' => ∃ v, e = .returned v ∧ Rp imm w' r v ∧ Below w.heap.size w w') : Fp P f args r :=
  ⟨fun imm w vals hG _ hi hs hv => (h imm w vals hi hs hv).mono (by rintro e w' ⟨v, rfl, h1, h2⟩; exact ⟨v, r, noM, imm, rfl, ⟨rfl, rfl⟩, h1, Step.below hi h2⟩), hgo⟩

/-- Values of one cell that own nothing. -/
def plainE (x : V) : Prop := x.cells = [x] ∧ x.isOwn = false ∧ x.one = true
theorem plain_int (k : IntKind) (n : Int) : plainE (.int k n) := ⟨rfl, rfl, rfl⟩
theorem plain_sl (l : List V) : plainE (.sl l) := ⟨rfl, rfl, rfl⟩
theorem plain_ints (l : List Int) : ∀ x ∈ l.map (V.int k), plainE x := by
  intro x hx; obtain ⟨z, _, rfl⟩ := List.mem_map.1 hx; exact plain_int k z
theorem plainE.getP {x : V} (h : plainE x) {q : Path} {v : V} (hq : x.getP q = some v) : v = x := by
  cases q with
  | nil => simp [V.getP] at hq; exact hq.symm
  | cons b q =>
    obtain ⟨i, j⟩ := b
    have := h.2.1
    cases x <;> simp [V.getP, V.cellAt, V.isOwn] at hq this
theorem getP_pl {d : Nat} {e : TypeId} {γ : Option Nat} {cap : Nat} {es : List V} (hp : ∀ x ∈ es, plainE x) {o : Nat} {q : Path} {v : V} (h : (noM.set d (.own e γ cap es)).getP o q = some v) :
    (o = d ∧ q = [] ∧ v = .own e γ cap es) ∨ v.isOwn = false := by
  rw [Mem.getP_set] at h
  split at h
  · cases q with
    | nil => simp [V.getP] at h; exact .inl ⟨‹_›, rfl, h.symm⟩
    | cons a q =>
      obtain ⟨i, j⟩ := a
      simp only [V.getP, V.cellAt, Option.bind_eq_some_iff] at h
      obtain ⟨c, ⟨x, hx, hc⟩, h2⟩ := h
      have hx' := hp x (List.mem_of_getElem? hx)
      rw [hx'.1] at hc
      have : c = x := by cases j <;> simp at hc; exact hc.symm
      subst this
      rw [hx'.getP h2]
      exact .inr hx'.2.1
  · simp [Mem.getP, noM] at h
theorem inv_plain {d g : Nat} {e : TypeId} {cap : Nat} {es : List V} (hp : ∀ x ∈ es, plainE x) {cur : Array Value} (hsz : sz e = 1) (hni : ¬ imm g) (hl : es.length ≤ cap) (hm : cap ≤ maxLen) (hg : w.heap[g]? = some (.cells cur e (0, 0))) (hs : cur.size = cap)
    (hc : ∀ (i : Nat) (x : V), es[i]? = some x → ∃ u, cur[i]? = some u ∧ Rp imm w x u) : Inv sz imm w (noM.set d (.own e (some g) cap es)) := by
  refine ⟨fun o q v h => ?_, fun o v h => ?_, ?_⟩
  · rcases getP_pl hp h with ⟨_, _, rfl⟩ | h
    · refine ⟨hni, hl, hm, cur, hg, by rw [hsz, Nat.mul_one]; exact hs, fun i x hx => ?_⟩
      have hx' := hp x (List.mem_of_getElem? hx)
      refine ⟨by rw [hsz, hx'.1]; rfl, fun j c hj => ?_⟩
      rw [hx'.1] at hj
      have hj0 : j = 0 ∧ c = x := by cases j <;> simp at hj; exact ⟨rfl, hj.symm⟩
      obtain ⟨rfl, rfl⟩ := hj0
      obtain ⟨u, h1, h2⟩ := hc i c hx
      refine ⟨u, by rw [hsz, Nat.mul_one, Nat.add_zero]; exact h1, h2.one hx'.2.2, ?_⟩
      have := hx'.2.1
      cases c <;> first | exact h2 | simp [V.isOwn] at this
    · cases v <;> first | trivial | simp [V.isOwn] at h
  · simp only [Mem.set] at h
    split at h
    · cases h; rfl
    · cases h
  · intro o q o' q' g' e1 c1 es1 e2 c2 es2 h1 h2
    rcases getP_pl hp h1 with ⟨rfl, rfl, _⟩ | h
    · rcases getP_pl hp h2 with ⟨rfl, rfl, _⟩ | h
      · exact ⟨rfl, rfl⟩
      · cases h
    · cases h
theorem owns_plain {d g g' : Nat} {e : TypeId} {cap : Nat} {es : List V} (hp : ∀ x ∈ es, plainE x) (h : (noM.set d (.own e (some g) cap es)).owns g') : g' = g := by
  obtain ⟨o, q, e', c, es, h⟩ := h
  rcases getP_pl hp h with ⟨_, _, h⟩ | h
  · cases h; rfl
  · cases h
theorem owns_self {d g : Nat} {e : TypeId} {cap : Nat} {es : List V} : (noM.set d (.own e (some g) cap es)).owns g := ⟨d, [], e, cap, es, by simp [Mem.getP_set, V.getP]⟩
theorem Inv.nil (d : Nat) (e : TypeId) : Inv sz imm w (noM.set d (.own e none 0 [])) := inv_no.nilrow d e
/-- A new row. -/
theorem Step.rowP {e : TypeId} {v : Value} {es : List V} {us : List Value} (hp : ∀ x ∈ es, plainE x) (hsz : sz e = 1) (hi : ∀ g, imm g → g < w.heap.size) (h : Below w.heap.size w w') (hr : w'.ownsRow w.heap.size e 1 v es.length us)
    (hu : ∀ (i : Nat) (x : V), es[i]? = some x → ∃ u, us[i]? = some u ∧ Rp imm w x u) :
    ∃ γ cap, v = .slice (γ.map fun g => ⟨g, 0, none⟩) es.length cap ∧ Step sz imm w noM imm w' (noM.set 100 (.own e γ cap es)) := by
  have hev : Ev imm w imm w' := fun g hg => ⟨hg, h.block g (hi g hg)⟩
  obtain ⟨_, ⟨rfl, h0⟩ | ⟨g, cap, cur, rfl, hb, hg, hl, hm, hs, ht⟩⟩ := hr
  · have : es = [] := List.eq_nil_of_length_eq_zero h0
    subst this
    exact ⟨none, 0, rfl, Inv.nil 100 e, fun g hg => Nat.lt_of_lt_of_le (hi g hg) h.size, h.size, h.os, h.tape, h.output, fun g hg _ => ⟨h.block g hg, Iff.rfl⟩, fun g hg => absurd (owns_nilrow hg) not_owns_no⟩
  · refine ⟨some g, cap, rfl, inv_plain hp hsz (fun hg' => by have := hi g hg'; omega) hl hm hg (by omega) (fun i x hx => ?_), fun g hg => Nat.lt_of_lt_of_le (hi g hg) h.size, h.size, h.os, h.tape, h.output, fun g hg _ => ⟨h.block g hg, Iff.rfl⟩, fun g' hg' => ?_⟩
    · obtain ⟨u, h1, h2⟩ := hu i x hx
      have hlt : i < es.length := (List.getElem?_eq_some_iff.1 hx).1
      have e1 : (cur.toList.take (es.length * 1))[i]? = us[i]? := by rw [ht]
      rw [List.getElem?_take_of_lt (by omega), h1] at e1
      exact ⟨u, by simpa using e1, h2.ev hev⟩
    · rw [owns_plain hp hg']; exact .inr hb
/-- A function that answers a new row. -/
theorem Fc.of_row {f : FuncId} {args : List V} {e : TypeId} {es : List V} (hp : ∀ x ∈ es, plainE x) (hsz : szT P e = 1) (hgo : goFn P f = true)
    (h : ∀ (imm : Nat → Prop) (w : World) (vals : Array Value), (∀ g, imm g → g < w.heap.size) → vals.size = args.length → (∀ (j : Nat) c u, args[j]? = some c → vals[j]? = some u → Rp imm w c u) →
      Calls P f vals w fun e' w' => ∃ v us, e' = .returned v ∧ w'.ownsRow w.heap.size e 1 v es.length us ∧ (∀ (i : Nat) (x : V), es[i]? = some x → ∃ u, us[i]? = some u ∧ Rp imm w x u) ∧ Below w.heap.size w w') :
    Fc P f args noM fun r m => ∃ γ cap, r = .msl 100 [] γ es.length cap ∧ m = noM.set 100 (.own e γ cap es) :=
  ⟨fun imm w vals hG _ hi hs hv => (h imm w vals hi hs hv).mono (by
    rintro e' w' ⟨v, us, rfl, h1, h2, h3⟩
    obtain ⟨γ, cap, rfl, hS⟩ := Step.rowP hp hsz hi h3 h1 h2
    exact ⟨_, _, _, imm, rfl, ⟨γ, cap, rfl, rfl⟩, .msl _ _ _ _ _, hS⟩), hgo⟩
/-- A row that is written in place, and may be told under another key. -/
theorem Step.putR {d d' g : Nat} {e : TypeId} {cap : Nat} {es es' : List V} (hp : ∀ x ∈ es, plainE x) (hp' : ∀ x ∈ es', plainE x) {cur' : Array Value} (hsz : sz e = 1) (hI : Inv sz imm w (noM.set d (.own e (some g) cap es))) (hi : ∀ g, imm g → g < w.heap.size)
    (hos : w'.os = w.os) (htp : w'.tape = w.tape) (hou : w'.output = w.output) (hsize : w.heap.size ≤ w'.heap.size) (hbl : ∀ k, k < w.heap.size → k ≠ g → w'.heap[k]? = w.heap[k]?)
    (hl : es'.length ≤ cap) (hg : w'.heap[g]? = some (.cells cur' e (0, 0))) (hs : cur'.size = cap) (hc : ∀ (i : Nat) (x : V), es'[i]? = some x → ∃ u, cur'[i]? = some u ∧ Rp imm w x u) :
    Step sz imm w (noM.set d (.own e (some g) cap es)) imm w' (noM.set d' (.own e (some g) cap es')) := by
  have hnd := hI.nd d [] (.own e (some g) cap es) (by simp [Mem.getP_set, V.getP])
  have hev : Ev imm w imm w' := fun g' hg' => ⟨hg', hbl g' (hi g' hg') (fun e => hnd.1 (e ▸ hg'))⟩
  refine ⟨inv_plain hp' hsz hnd.1 hl hnd.2.2.1 hg hs (fun i x hx => ?_), fun g hg => Nat.lt_of_lt_of_le (hi g hg) hsize, hsize, hos, htp, hou, fun k hk hn => ⟨hbl k hk (fun e => hn (e ▸ owns_self)), Iff.rfl⟩, fun g' hg' => ?_⟩
  · obtain ⟨u, h1, h2⟩ := hc i x hx
    exact ⟨u, h1, h2.ev hev⟩
  · rw [owns_plain hp' hg']; exact .inl owns_self
/-- What an owned row of numbers holds. -/
theorem Inv.holds {d g : Nat} {e : TypeId} {cap : Nat} {zs : List Int} (hsz : sz e = 1) (hI : Inv sz imm w (noM.set d (.own e (some g) cap (zs.map (V.int k))))) :
    zs.length ≤ cap ∧ cap ≤ maxLen ∧ ∃ cur, w.heap[g]? = some (.cells cur e (0, 0)) ∧ cur.size = cap ∧ Go.Sort.Holds (Value.int k) w g 0 zs.toArray := by
  obtain ⟨_, h1, h2, cur, h3, h4, h5⟩ := hI.nd d [] (.own e (some g) cap (zs.map (V.int k))) (by simp [Mem.getP_set, V.getP])
  refine ⟨by simpa using h1, h2, cur, h3, by rw [h4, hsz, Nat.mul_one], fun j hj => ?_⟩
  have hj' : j < zs.length := by simpa using hj
  have hx : (zs.map (V.int k))[j]? = some (.int k zs[j]) := by rw [List.getElem?_map, List.getElem?_eq_getElem hj']; rfl
  obtain ⟨u, k1, _, k3⟩ := (h5 j _ hx).2 0 (.int k zs[j]) rfl
  have k4 : u = .int k zs[j] := Rp.int_inv k3
  rw [hsz, Nat.mul_one, Nat.add_zero, k4] at k1
  constructor
  · unfold World.cell?
    simp only [h3, Nat.zero_add]
    simpa [hj'] using k1
  · unfold World.frozen?
    simp only [h3]
    simp
end

theorem vals1 {P : Program} {imm : Nat → Prop} {w : World} {x : V} {vals : Array Value} (hs : vals.size = [x].length) (hv : ∀ (j : Nat) c u, [x][j]? = some c → vals[j]? = some u → Rp imm w c u) : ∃ a, vals = #[a] ∧ Rp imm w x a := by
  obtain ⟨l⟩ := vals
  match l, hs with
  | [a], _ => exact ⟨a, rfl, hv 0 x a rfl rfl⟩
theorem vals2 {P : Program} {imm : Nat → Prop} {w : World} {x y : V} {vals : Array Value} (hs : vals.size = [x, y].length) (hv : ∀ (j : Nat) c u, [x, y][j]? = some c → vals[j]? = some u → Rp imm w c u) : ∃ a b, vals = #[a, b] ∧ Rp imm w x a ∧ Rp imm w y b := by
  obtain ⟨l⟩ := vals
  match l, hs with
  | [a, b], _ => exact ⟨a, b, rfl, hv 0 x a rfl rfl, hv 1 y b rfl rfl⟩
theorem vals3 {P : Program} {imm : Nat → Prop} {w : World} {x y z : V} {vals : Array Value} (hs : vals.size = [x, y, z].length) (hv : ∀ (j : Nat) c u, [x, y, z][j]? = some c → vals[j]? = some u → Rp imm w c u) : ∃ a b c, vals = #[a, b, c] ∧ Rp imm w x a ∧ Rp imm w y b ∧ Rp imm w z c := by
  obtain ⟨l⟩ := vals
  match l, hs with
  | [a, b, c], _ => exact ⟨a, b, c, rfl, hv 0 x a rfl rfl, hv 1 y b rfl rfl, hv 2 z c rfl rfl⟩

theorem index_fn (zs : List Int) (x : Int) (hl : zs.length < 2 ^ 40) : Fp Tryz.prog 132 [intsV zs, .int .i64 x] (.int .i64 (Lib.idxOf zs x)) := by
  refine Fp.of_calls (by kernel_rfl) fun imm w vals hi hs hv => ?_
  obtain ⟨a, b, rfl, ha, hb⟩ := vals2 (P := Tryz.prog) hs hv
  rw [hb.int_inv]
  obtain ⟨A, c, rfl, h⟩ := ha.ints_inv
  by_cases hz : zs = []
  · subst hz
    refine (Tryz.slices_Index_int_empty A c x w).mono ?_
    rintro e w' ⟨rfl, rfl⟩
    exact ⟨_, rfl, .int _ _, Below.refl _ _⟩
  · obtain ⟨g, off, rfl, _, _, hc⟩ := h hz
    refine (Tryz.slices_Index_int g off zs.length c zs x w (Nat.le_refl _) (by omega) hc).mono ?_
    rintro e w' ⟨rfl, rfl⟩
    rw [List.take_length]
    exact ⟨_, rfl, .int _ _, Below.refl _ _⟩
theorem contains_fn (zs : List Int) (x : Int) (hl : zs.length < 2 ^ 40) : Fp Tryz.prog 152 [intsV zs, .int .i64 x] (.bool (zs.contains x)) := by
  refine Fp.of_calls (by kernel_rfl) fun imm w vals hi hs hv => ?_
  obtain ⟨a, b, rfl, ha, hb⟩ := vals2 (P := Tryz.prog) hs hv
  rw [hb.int_inv]
  obtain ⟨A, c, rfl, h⟩ := ha.ints_inv
  by_cases hz : zs = []
  · subst hz
    refine (Tryz.slices_Contains_int_empty A c x w).mono ?_
    rintro e w' ⟨rfl, rfl⟩
    exact ⟨_, rfl, .bool _, Below.refl _ _⟩
  · obtain ⟨g, off, rfl, _, _, hc⟩ := h hz
    refine (Tryz.slices_Contains_int g off zs.length c zs x w (Nat.le_refl _) (by omega) hc).mono ?_
    rintro e w' ⟨rfl, rfl⟩
    rw [List.take_length]
    exact ⟨_, rfl, .bool _, Below.refl _ _⟩
theorem equal_fn (xs ys : List Int) (hl : xs.length < 2 ^ 40) (hl' : ys.length < 2 ^ 40) : Fp Tryz.prog 153 [intsV xs, intsV ys] (.bool (xs == ys)) := by
  refine Fp.of_calls (by kernel_rfl) fun imm w vals hi hs hv => ?_
  obtain ⟨a, b, rfl, ha, hb⟩ := vals2 (P := Tryz.prog) hs hv
  obtain ⟨A, c, rfl, h⟩ := ha.ints_inv
  obtain ⟨B, d, rfl, h'⟩ := hb.ints_inv
  by_cases hz : xs = []
  · subst hz
    refine (Tryz.slices_Equal_int_empty A B c ys.length d w (by omega)).mono ?_
    rintro e w' ⟨rfl, rfl⟩
    have : ((([] : List Int) == ys)) = decide (ys.length = 0) := by cases ys <;> simp
    rw [this]
    exact ⟨_, rfl, .bool _, Below.refl _ _⟩
  · obtain ⟨g, off, rfl, _, _, hc⟩ := h hz
    by_cases hy : ys = []
    · subst hy
      refine (Tryz.slices_Equal_int_lens (some ⟨g, off, none⟩) B xs.length c 0 d w (by intro h; exact hz (List.eq_nil_of_length_eq_zero h))).mono ?_
      rintro e w' ⟨rfl, rfl⟩
      have : (xs == []) = false := by simpa using hz
      rw [this]
      exact ⟨_, rfl, .bool _, Below.refl _ _⟩
    · obtain ⟨g', off', rfl, _, _, hc'⟩ := h' hy
      refine (Tryz.slices_Equal_int g off xs.length c g' off' ys.length d xs ys w (Nat.le_refl _) (Nat.le_refl _) (by omega) (by omega) hc hc').mono ?_
      rintro e w' ⟨rfl, q, rfl⟩
      rw [List.take_length, List.take_length]
      exact ⟨_, rfl, .bool _, below_drewN q⟩
theorem clone_fn (zs : List Int) (hl : zs.length < 2 ^ 40) : Fc Tryz.prog 86 [intsV zs] noM fun r m => ∃ γ cap, r = .msl 100 [] γ zs.length cap ∧ m = noM.set 100 (.own 3 γ cap (zs.map (V.int .i64))) := by
  have h0 := Fc.of_row (P := Tryz.prog) (f := 86) (args := [intsV zs]) (e := 3) (es := zs.map (V.int .i64)) (plain_ints zs) szT_3 (by kernel_rfl) fun imm w vals hi hs hv => ?_
  · rw [List.length_map] at h0; exact h0
  obtain ⟨a, rfl, ha⟩ := vals1 (P := Tryz.prog) hs hv
  obtain ⟨A, c, rfl, h⟩ := ha.ints_inv
  have hu : ∀ (i : Nat) (x : V), (zs.map (V.int .i64))[i]? = some x → ∃ u, (zs.map (Value.int .i64))[i]? = some u ∧ Rp imm w x u := by
    intro i x hx
    rw [List.getElem?_map, Option.map_eq_some_iff] at hx
    obtain ⟨z, hz, rfl⟩ := hx
    exact ⟨.int .i64 z, by rw [List.getElem?_map, hz]; rfl, .int _ _⟩
  rw [List.length_map]
  cases A with
  | none =>
    have hz : zs = [] := by
      by_cases hz : zs = []
      · exact hz
      · obtain ⟨g, off, h1, _⟩ := h hz; cases h1
    subst hz
    refine (Tryz.slices_Clone_int_nil 0 c w).mono ?_
    rintro e w' ⟨rfl, rfl⟩
    exact ⟨_, [], rfl, ⟨rfl, .inl ⟨rfl, rfl⟩⟩, by simp, Below.refl _ _⟩
  | some a =>
    by_cases hz : zs = []
    · subst hz
      refine (Tryz.slices_Clone_int_zero a c w).mono ?_
      rintro e w' ⟨v', rfl, h1, _, h2⟩
      exact ⟨_, [], rfl, h1, by simp, h2⟩
    · obtain ⟨g, off, h1, _, _, hc⟩ := h hz
      cases h1
      refine (Tryz.slices_Clone_int g off zs.length c zs w (Nat.le_refl _) (by omega) hc).mono ?_
      rintro e w' ⟨v', rfl, h1, _, h2⟩
      rw [List.take_length] at h1
      exact ⟨_, _, rfl, h1, hu, h2⟩

theorem put_heap {w : World} {g : Nat} {cur : Array Value} {e : TypeId} (hg : w.heap[g]? = some (.cells cur e (0, 0))) (n : Nat) (d : Array Int) (os : Array Obj) :
    (grow (putRow (Value.int .i64) (Sort.ahead w n) g 0 d) os).heap[g]? = some (.cells (putCells (Value.int .i64) 0 d cur) e (0, 0)) ∧ (∀ k, k < w.heap.size → k ≠ g → (grow (putRow (Value.int .i64) (Sort.ahead w n) g 0 d) os).heap[k]? = w.heap[k]?) ∧
      w.heap.size ≤ (grow (putRow (Value.int .i64) (Sort.ahead w n) g 0 d) os).heap.size := by
  have hlt := (Array.getElem?_eq_some_iff.1 hg).1
  have hh : (grow (putRow (Value.int .i64) (Sort.ahead w n) g 0 d) os).heap = w.heap.modify g (onCells (putCells (Value.int .i64) 0 d)) ++ os := rfl
  refine ⟨?_, fun k hk hne => ?_, ?_⟩
  · rw [hh, Array.getElem?_append_left (by simpa using hlt), Array.getElem?_modify, if_pos rfl, hg]; rfl
  · rw [hh, Array.getElem?_append_left (by simpa using hk), Array.getElem?_modify, if_neg (fun e => hne e.symm)]
  · rw [hh]; simp
theorem put_cells {cur : Array Value} {ds : List Int} (h : ds.length ≤ cur.size) : (putCells (Value.int .i64) 0 ds.toArray cur).size = cur.size ∧ ∀ (i : Nat) (x : V), (ds.map (V.int .i64))[i]? = some x → ∃ u, (putCells (Value.int .i64) 0 ds.toArray cur)[i]? = some u ∧ x = .int .i64 (ds.getD i 0) ∧ u = .int .i64 (ds.getD i 0) := by
  refine ⟨by simp [putCells], fun i x hx => ?_⟩
  rw [List.getElem?_map, Option.map_eq_some_iff] at hx
  obtain ⟨z, hz, rfl⟩ := hx
  have hi := (List.getElem?_eq_some_iff.1 hz).1
  have e1 : ds.getD i 0 = z := by simp [List.getD, hz]
  refine ⟨.int .i64 z, ?_, by rw [e1], by rw [e1]⟩
  have hlt : i < cur.size := by omega
  simp [putCells, Array.getElem?_mapIdx, hlt, hi]
  simpa [List.getElem?_eq_getElem hi] using hz
def sorted (zs : List Int) : List Int := zs.mergeSort fun x y => decide (x ≤ y)
theorem delete_fn (zs : List Int) (γ : Option Nat) (i cap : Nat) (hl : zs.length < 2 ^ 40) (hi' : i < zs.length) : Fc Tryz.prog 151 [.msl 0 [] γ zs.length cap, .int .i64 i, .int .i64 (i + 1 : Nat)] (noM.set 0 (.own 3 γ cap (zs.map (V.int .i64))))
    fun r m => r = .msl 100 [] γ (zs.length - 1) cap ∧ m = noM.set 100 (.own 3 γ cap ((zs.eraseIdx i).map (V.int .i64))) := by
  refine ⟨fun imm w vals hG hI hi hs hv => ?_, by kernel_rfl⟩
  obtain ⟨a, b, c, rfl, ha, hb, hc⟩ := vals3 (P := Tryz.prog) hs hv
  rw [hb.int_inv, hc.int_inv]
  cases ha
  cases γ with
  | none =>
    have hnd := hI.nd 0 [] (.own 3 none cap (zs.map (V.int .i64))) (by simp [Mem.getP_set, V.getP])
    have hz : zs = [] := by simpa using hnd.1
    subst hz
    simp at hi'
  | some g =>
    obtain ⟨h1, h2, cur, h3, h4, h5⟩ := hI.holds szT_3
    refine (Tryz.slices_Delete_int g 0 cap i (i + 1) zs w h5 h1 (by unfold maxLen at h2; omega) (by omega) (by omega)).mono ?_
    rintro e w' ⟨rfl, q, hw⟩
    have hds : zs.take i ++ zs.drop (i + 1) ++ List.replicate (i + 1 - i) 0 = zs.eraseIdx i ++ [0] := by
      rw [List.eraseIdx_eq_take_drop_succ]; simp
    rw [hds] at hw
    have hlen : (zs.eraseIdx i).length = zs.length - 1 := List.length_eraseIdx_of_lt hi'
    obtain ⟨k1, k2, k3⟩ := put_heap h3 q (zs.eraseIdx i ++ [0]).toArray #[]
    rw [grow_empty, ← hw] at k1 k2 k3
    obtain ⟨c1, c2⟩ := put_cells (cur := cur) (ds := zs.eraseIdx i ++ [0]) (by simp; omega)
    refine ⟨_, _, _, imm, rfl, ⟨rfl, rfl⟩, by rw [show i + 1 - i = 1 by omega]; exact .msl _ _ _ _ _, Step.putR (plain_ints zs) (plain_ints _) szT_3 hI hi (by rw [hw]; rfl) (by rw [hw]; rfl) (by rw [hw]; rfl) k3 k2 (by simp; omega) k1 (by omega) fun j x hx => ?_⟩
    have hx2 : ((zs.eraseIdx i ++ [0]).map (V.int .i64))[j]? = some x := by
      rw [List.map_append, List.getElem?_append_left (List.getElem?_eq_some_iff.1 hx).1]; exact hx
    obtain ⟨u, d1, rfl, rfl⟩ := c2 j x hx2
    exact ⟨_, d1, .int _ _⟩
end Go.Proofs.YtfbgabkcjjahiaaGreatDoor
