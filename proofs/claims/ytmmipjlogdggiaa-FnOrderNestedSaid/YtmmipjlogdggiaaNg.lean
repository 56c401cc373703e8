/-
  Draws: a program that is spoilt. Draws: a program, seldom a spoilt one. A look at what is still owned: a region that only answers, walked with all objects frozen for it alone. And a tree that becomes an object of its own. All ways, by the reference: handed over, so that who asked may write into them. A region walked in two parts, with another look at memory between them. Draws: a program and one way in which all may have been, mostly.
-/
import Derived.Test.YtmmipjlogdggiaaNf
import Derived.Test.YtmmipjlogdggiaaVy
/-! ## Draws: a program that is spoilt -/
namespace Go.Proofs.Ytmmipjlogdggiaa
open Go.RowKit
set_option linter.unusedSimpArgs false
set_option linter.unusedVariables false
set_option pp.maxSteps 3000

theorem set_thr (x : Prog) (k : Nat) (l : List Do) : (x.map thrV).modify k (fun v => v.setC 0 (thrV l)) = (List.map thrV (x.set k l)) := by
  apply List.ext_getElem?
  intro i
  rw [List.getElem?_modify, List.getElem?_map]
  simp only [List.getElem?_map, List.getElem?_set]
  by_cases h : k = i
  · subst h
    by_cases h2 : k < x.length
    · simp [h2, thrV, V.setC]
    · simp [h2]
  · simp [h]
theorem fz_thrs (e : TypeId) (γ : Option Nat) (c : Nat) (x : Prog) : (V.own e γ c (x.map thrV)).fz = .sl (x.map thrV) := by
  simp only [V.fz, fzs_map, List.map_map, V.sl.injEq]
  exact List.map_congr_left fun d _ => rfl
theorem l71Bad_rd (bs : List Int) (hb : Bytes bs) (g p : Nat) (hp : p < 2 ^ 29) (x : Prog) (hx1 : 1 ≤ x.length) (hx2 : x.length < 2 ^ 10) (hx3 : ∀ l ∈ x, l.length < 2 ^ 10) : Fr Try.prog 65 [progV x] g (rdO bs g p)
    (fun r o' => ∃ y : Prog, r = progV y ∧ y.length = x.length ∧ (∀ l ∈ y, l.length < 2 ^ 11) ∧ ∃ q, p ≤ q ∧ q ≤ p + 20 ∧ o' = rdO bs g q) := by
  refine Fc.start (S := [2003]) Try.func65 Try.ntmps65 Try.results65 rfl (by decide) rfl (by kernel_rfl) ?_
  simp (maxSteps := 1000000) (disch := omega) only [push_cast, go_sem, wpS_tt, wpS_tf, wpS_ft, wpS_ff, wpCond_tt, wpCond_ff, Nat.reducePow, Int.reduceEq, Int.reduceLT, Int.reduceLE, Int.reduceAdd, Int.reduceSub, Int.reduceMul, Int.reduceToNat, Int.reduceBEq, Int.reduceBNe, ↓reduceIte, reduceCtorEq, Nat.reduceEqDiff, Nat.reduceAdd, Nat.reduceMul, Nat.reduceLT, Nat.reduceLeDiff, Nat.reduceSub, Nat.reduceDiv, Nat.reduceBEq, Nat.reduceBneDiff, Nat.reduceBeqDiff, progV_eq]
  intro g3 g4
  refine callR.rd (pick_rd bs hb g p (by omega) x.length (by omega)) rfl rfl rfl ?_
  rintro r o' ⟨v, rfl, hv0, hv1, _, rfl⟩
  have hv := hv1 (by omega)
  obtain ⟨k, rfl⟩ := Int.eq_ofNat_of_zero_le hv0
  have hk : k < x.length := by omega
  obtain ⟨l, hl⟩ : ∃ l, x[k]? = some l := ⟨_, List.getElem?_eq_getElem hk⟩
  have hll := hx3 l (List.mem_of_getElem? hl)
  simp (maxSteps := 1000000) (disch := omega) only [push_cast, go_sem, wpS_tt, wpS_tf, wpS_ft, wpS_ff, wpCond_tt, wpCond_ff, Nat.reducePow, Int.reduceEq, Int.reduceLT, Int.reduceLE, Int.reduceAdd, Int.reduceSub, Int.reduceMul, Int.reduceToNat, Int.reduceBEq, Int.reduceBNe, ↓reduceIte, reduceCtorEq, Nat.reduceEqDiff, Nat.reduceAdd, Nat.reduceMul, Nat.reduceLT, Nat.reduceLeDiff, Nat.reduceSub, Nat.reduceDiv, Nat.reduceBEq, Nat.reduceBneDiff, Nat.reduceBeqDiff, hl, hk, thrV_eq]
  refine fun g5 => ⟨by omega, fun γ c _ => ?_⟩
  refine Sat.cut (σ := RowO × Nat) [] (fun y => upd (upd (upd (upd (upd noT 0 (.ptr 0 [] 0 0 g 2)) 3 (.ptr 3 [] 0 0 g3 1)) 4 (.ptr 4 [] 0 0 g4 1)) 5 (.int .i64 k)) 6 (.msl 6 [] y.1.γ y.1.l.length y.1.c))
    (fun y => (((noM.set 0 (rdO bs g y.2)).set 3 (boxP x g3)).set 4 (.own 25 (some g4) 1 [.agg [.own 0 none 0 []]])).set 6 y.1.V)
    (fun y => y.1.l.length ≤ 1050 ∧ p ≤ y.2 ∧ y.2 ≤ p + 20) (by kernel_rfl) ?_ ?_
  · simp (maxSteps := 1000000) (disch := omega) only [push_cast, go_sem, wpS_tt, wpS_tf, wpS_ft, wpS_ff, wpCond_tt, wpCond_ff, Nat.reducePow, Int.reduceEq, Int.reduceLT, Int.reduceLE, Int.reduceAdd, Int.reduceSub, Int.reduceMul, Int.reduceToNat, Int.reduceBEq, Int.reduceBNe, ↓reduceIte, reduceCtorEq, Nat.reduceEqDiff, Nat.reduceAdd, Nat.reduceMul, Nat.reduceLT, Nat.reduceLeDiff, Nat.reduceSub, Nat.reduceDiv, Nat.reduceBEq, Nat.reduceBneDiff, Nat.reduceBeqDiff]
    refine callR.rd (pick_rd bs hb g (p + 1) (by omega) 8 (by omega)) rfl rfl rfl ?_
    rintro r o' ⟨v2, rfl, hv20, hv21, _, rfl⟩
    have hv2 := hv21 (by omega)
    obtain ⟨m, rfl⟩ := Int.eq_ofNat_of_zero_le hv20
    have hm : m = 0 ∨ m = 1 ∨ m = 2 ∨ m = 3 ∨ m = 4 ∨ m = 5 ∨ m = 6 ∨ m = 7 := by omega
    rcases hm with rfl | rfl | rfl | rfl | rfl | rfl | rfl | rfl
    · simp (maxSteps := 1000000) (disch := omega) only [push_cast, go_sem, wpS_tt, wpS_tf, wpS_ft, wpS_ff, wpCond_tt, wpCond_ff, Nat.reducePow, Int.reduceEq, Int.reduceLT, Int.reduceLE, Int.reduceAdd, Int.reduceSub, Int.reduceMul, Int.reduceToNat, Int.reduceBEq, Int.reduceBNe, ↓reduceIte, reduceCtorEq, Nat.reduceEqDiff, Nat.reduceAdd, Nat.reduceMul, Nat.reduceLT, Nat.reduceLeDiff, Nat.reduceSub, Nat.reduceDiv, Nat.reduceBEq, Nat.reduceBneDiff, Nat.reduceBeqDiff]
      refine callR.rd (pick_rd bs hb g (p + 2) (by omega) 12 (by omega)) rfl rfl rfl ?_
      rintro r o' ⟨v3, rfl, hv30, hv31, _, rfl⟩
      have hv3 := hv31 (by omega)
      simp (maxSteps := 1000000) (disch := omega) only [push_cast, go_sem, wpS_tt, wpS_tf, wpS_ft, wpS_ff, wpCond_tt, wpCond_ff, Nat.reducePow, Int.reduceEq, Int.reduceLT, Int.reduceLE, Int.reduceAdd, Int.reduceSub, Int.reduceMul, Int.reduceToNat, Int.reduceBEq, Int.reduceBNe, ↓reduceIte, reduceCtorEq, Nat.reduceEqDiff, Nat.reduceAdd, Nat.reduceMul, Nat.reduceLT, Nat.reduceLeDiff, Nat.reduceSub, Nat.reduceDiv, Nat.reduceBEq, Nat.reduceBneDiff, Nat.reduceBeqDiff]
      intro g6
      refine ⟨by omega, fun γ' c' _ => ⟨(⟨γ', c', l ++ [⟨v3 - 1, 0, 0⟩]⟩, p + 3), ⟨by simp; omega, by simp only; omega, by simp only; omega⟩, ?_⟩⟩
      (refine Less.start ?_; repeat (first | exact LessO.nil | exact LessO.all | refine LessO.skip (by decide) ?_ | refine LessO.upd ?_ ?_ | refine LessO.set ?_ ?_)) <;> (try simp (maxSteps := 1000000) (disch := omega) only [push_cast, go_sem, wpS_tt, wpS_tf, wpS_ft, wpS_ff, wpCond_tt, wpCond_ff, Nat.reducePow, Int.reduceEq, Int.reduceLT, Int.reduceLE, Int.reduceAdd, Int.reduceSub, Int.reduceMul, Int.reduceToNat, Int.reduceBEq, Int.reduceBNe, ↓reduceIte, reduceCtorEq, Nat.reduceEqDiff, Nat.reduceAdd, Nat.reduceMul, Nat.reduceLT, Nat.reduceLeDiff, Nat.reduceSub, Nat.reduceDiv, Nat.reduceBEq, Nat.reduceBneDiff, Nat.reduceBeqDiff])
      all_goals first | rfl | omega | simp [RowO.V, Do.V, Nat.add_comm]
    · simp (maxSteps := 1000000) (disch := omega) only [push_cast, go_sem, wpS_tt, wpS_tf, wpS_ft, wpS_ff, wpCond_tt, wpCond_ff, Nat.reducePow, Int.reduceEq, Int.reduceLT, Int.reduceLE, Int.reduceAdd, Int.reduceSub, Int.reduceMul, Int.reduceToNat, Int.reduceBEq, Int.reduceBNe, ↓reduceIte, reduceCtorEq, Nat.reduceEqDiff, Nat.reduceAdd, Nat.reduceMul, Nat.reduceLT, Nat.reduceLeDiff, Nat.reduceSub, Nat.reduceDiv, Nat.reduceBEq, Nat.reduceBneDiff, Nat.reduceBeqDiff]
      intro g6
      refine ⟨by omega, fun γ' c' _ => ⟨(⟨γ', c', ⟨3, 0, 0⟩ :: l⟩, p + 2), ⟨by simp; omega, by simp only; omega, by simp only; omega⟩, ?_⟩⟩
      (refine Less.start ?_; repeat (first | exact LessO.nil | exact LessO.all | refine LessO.skip (by decide) ?_ | refine LessO.upd ?_ ?_ | refine LessO.set ?_ ?_)) <;> (try simp (maxSteps := 1000000) (disch := omega) only [push_cast, go_sem, wpS_tt, wpS_tf, wpS_ft, wpS_ff, wpCond_tt, wpCond_ff, Nat.reducePow, Int.reduceEq, Int.reduceLT, Int.reduceLE, Int.reduceAdd, Int.reduceSub, Int.reduceMul, Int.reduceToNat, Int.reduceBEq, Int.reduceBNe, ↓reduceIte, reduceCtorEq, Nat.reduceEqDiff, Nat.reduceAdd, Nat.reduceMul, Nat.reduceLT, Nat.reduceLeDiff, Nat.reduceSub, Nat.reduceDiv, Nat.reduceBEq, Nat.reduceBneDiff, Nat.reduceBeqDiff])
      all_goals first | rfl | omega | simp [RowO.V, Do.V, Nat.add_comm]
    · simp (maxSteps := 1000000) (disch := omega) only [push_cast, go_sem, wpS_tt, wpS_tf, wpS_ft, wpS_ff, wpCond_tt, wpCond_ff, Nat.reducePow, Int.reduceEq, Int.reduceLT, Int.reduceLE, Int.reduceAdd, Int.reduceSub, Int.reduceMul, Int.reduceToNat, Int.reduceBEq, Int.reduceBNe, ↓reduceIte, reduceCtorEq, Nat.reduceEqDiff, Nat.reduceAdd, Nat.reduceMul, Nat.reduceLT, Nat.reduceLeDiff, Nat.reduceSub, Nat.reduceDiv, Nat.reduceBEq, Nat.reduceBneDiff, Nat.reduceBeqDiff]
      intro g6
      refine ⟨by omega, fun γ' c' _ => ⟨(⟨γ', c', l ++ [⟨7, 0, 0⟩]⟩, p + 2), ⟨by simp; omega, by simp only; omega, by simp only; omega⟩, ?_⟩⟩
      (refine Less.start ?_; repeat (first | exact LessO.nil | exact LessO.all | refine LessO.skip (by decide) ?_ | refine LessO.upd ?_ ?_ | refine LessO.set ?_ ?_)) <;> (try simp (maxSteps := 1000000) (disch := omega) only [push_cast, go_sem, wpS_tt, wpS_tf, wpS_ft, wpS_ff, wpCond_tt, wpCond_ff, Nat.reducePow, Int.reduceEq, Int.reduceLT, Int.reduceLE, Int.reduceAdd, Int.reduceSub, Int.reduceMul, Int.reduceToNat, Int.reduceBEq, Int.reduceBNe, ↓reduceIte, reduceCtorEq, Nat.reduceEqDiff, Nat.reduceAdd, Nat.reduceMul, Nat.reduceLT, Nat.reduceLeDiff, Nat.reduceSub, Nat.reduceDiv, Nat.reduceBEq, Nat.reduceBneDiff, Nat.reduceBeqDiff])
      all_goals first | rfl | omega | simp [RowO.V, Do.V, Nat.add_comm]
    · simp (maxSteps := 1000000) (disch := omega) only [push_cast, go_sem, wpS_tt, wpS_tf, wpS_ft, wpS_ff, wpCond_tt, wpCond_ff, Nat.reducePow, Int.reduceEq, Int.reduceLT, Int.reduceLE, Int.reduceAdd, Int.reduceSub, Int.reduceMul, Int.reduceToNat, Int.reduceBEq, Int.reduceBNe, ↓reduceIte, reduceCtorEq, Nat.reduceEqDiff, Nat.reduceAdd, Nat.reduceMul, Nat.reduceLT, Nat.reduceLeDiff, Nat.reduceSub, Nat.reduceDiv, Nat.reduceBEq, Nat.reduceBneDiff, Nat.reduceBeqDiff]
      intro g6
      refine ⟨by omega, fun γ' c' _ => ⟨(⟨γ', c', ⟨8, 0, 0⟩ :: l⟩, p + 2), ⟨by simp; omega, by simp only; omega, by simp only; omega⟩, ?_⟩⟩
      (refine Less.start ?_; repeat (first | exact LessO.nil | exact LessO.all | refine LessO.skip (by decide) ?_ | refine LessO.upd ?_ ?_ | refine LessO.set ?_ ?_)) <;> (try simp (maxSteps := 1000000) (disch := omega) only [push_cast, go_sem, wpS_tt, wpS_tf, wpS_ft, wpS_ff, wpCond_tt, wpCond_ff, Nat.reducePow, Int.reduceEq, Int.reduceLT, Int.reduceLE, Int.reduceAdd, Int.reduceSub, Int.reduceMul, Int.reduceToNat, Int.reduceBEq, Int.reduceBNe, ↓reduceIte, reduceCtorEq, Nat.reduceEqDiff, Nat.reduceAdd, Nat.reduceMul, Nat.reduceLT, Nat.reduceLeDiff, Nat.reduceSub, Nat.reduceDiv, Nat.reduceBEq, Nat.reduceBneDiff, Nat.reduceBeqDiff])
      all_goals first | rfl | omega | simp [RowO.V, Do.V, Nat.add_comm]
    · simp (maxSteps := 1000000) (disch := omega) only [push_cast, go_sem, wpS_tt, wpS_tf, wpS_ft, wpS_ff, wpCond_tt, wpCond_ff, Nat.reducePow, Int.reduceEq, Int.reduceLT, Int.reduceLE, Int.reduceAdd, Int.reduceSub, Int.reduceMul, Int.reduceToNat, Int.reduceBEq, Int.reduceBNe, ↓reduceIte, reduceCtorEq, Nat.reduceEqDiff, Nat.reduceAdd, Nat.reduceMul, Nat.reduceLT, Nat.reduceLeDiff, Nat.reduceSub, Nat.reduceDiv, Nat.reduceBEq, Nat.reduceBneDiff, Nat.reduceBeqDiff]
      intro g6
      refine callR.rd (pick_rd bs hb g (p + 2) (by omega) 2 (by omega)) rfl rfl rfl ?_
      rintro r o' ⟨v3, rfl, hv30, hv31, _, rfl⟩
      have hv3 := hv31 (by omega)
      obtain ⟨m, rfl⟩ := Int.eq_ofNat_of_zero_le hv30
      obtain ⟨z, hz⟩ := ints_get (l := [.int .i64 (-1), .int .i64 3]) (n := m) rfl (by simp; omega)
      simp (maxSteps := 1000000) (disch := omega) only [push_cast, go_sem, wpS_tt, wpS_tf, wpS_ft, wpS_ff, wpCond_tt, wpCond_ff, Nat.reducePow, Int.reduceEq, Int.reduceLT, Int.reduceLE, Int.reduceAdd, Int.reduceSub, Int.reduceMul, Int.reduceToNat, Int.reduceBEq, Int.reduceBNe, ↓reduceIte, reduceCtorEq, Nat.reduceEqDiff, Nat.reduceAdd, Nat.reduceMul, Nat.reduceLT, Nat.reduceLeDiff, Nat.reduceSub, Nat.reduceDiv, Nat.reduceBEq, Nat.reduceBneDiff, Nat.reduceBeqDiff, hz]
      refine ⟨by omega, fun g7 => ?_⟩
      refine ⟨by omega, fun γ' c' _ => ⟨(⟨γ', c', l ++ [⟨1, z, 1⟩]⟩, p + 3), ⟨by simp; omega, by simp only; omega, by simp only; omega⟩, ?_⟩⟩
      (refine Less.start ?_; repeat (first | exact LessO.nil | exact LessO.all | refine LessO.skip (by decide) ?_ | refine LessO.upd ?_ ?_ | refine LessO.set ?_ ?_)) <;> (try simp (maxSteps := 1000000) (disch := omega) only [push_cast, go_sem, wpS_tt, wpS_tf, wpS_ft, wpS_ff, wpCond_tt, wpCond_ff, Nat.reducePow, Int.reduceEq, Int.reduceLT, Int.reduceLE, Int.reduceAdd, Int.reduceSub, Int.reduceMul, Int.reduceToNat, Int.reduceBEq, Int.reduceBNe, ↓reduceIte, reduceCtorEq, Nat.reduceEqDiff, Nat.reduceAdd, Nat.reduceMul, Nat.reduceLT, Nat.reduceLeDiff, Nat.reduceSub, Nat.reduceDiv, Nat.reduceBEq, Nat.reduceBneDiff, Nat.reduceBeqDiff])
      all_goals first | rfl | omega | simp [RowO.V, Do.V, Nat.add_comm]
    · simp (maxSteps := 1000000) (disch := omega) only [push_cast, go_sem, wpS_tt, wpS_tf, wpS_ft, wpS_ff, wpCond_tt, wpCond_ff, Nat.reducePow, Int.reduceEq, Int.reduceLT, Int.reduceLE, Int.reduceAdd, Int.reduceSub, Int.reduceMul, Int.reduceToNat, Int.reduceBEq, Int.reduceBNe, ↓reduceIte, reduceCtorEq, Nat.reduceEqDiff, Nat.reduceAdd, Nat.reduceMul, Nat.reduceLT, Nat.reduceLeDiff, Nat.reduceSub, Nat.reduceDiv, Nat.reduceBEq, Nat.reduceBneDiff, Nat.reduceBeqDiff]
      intro g6
      refine callR.rd (pick_rd bs hb g (p + 2) (by omega) 2 (by omega)) rfl rfl rfl ?_
      rintro r o' ⟨v3, rfl, hv30, hv31, _, rfl⟩
      have hv3 := hv31 (by omega)
      obtain ⟨m, rfl⟩ := Int.eq_ofNat_of_zero_le hv30
      obtain ⟨z, hz⟩ := ints_get (l := [.int .i64 0, .int .i64 4]) (n := m) rfl (by simp; omega)
      simp (maxSteps := 1000000) (disch := omega) only [push_cast, go_sem, wpS_tt, wpS_tf, wpS_ft, wpS_ff, wpCond_tt, wpCond_ff, Nat.reducePow, Int.reduceEq, Int.reduceLT, Int.reduceLE, Int.reduceAdd, Int.reduceSub, Int.reduceMul, Int.reduceToNat, Int.reduceBEq, Int.reduceBNe, ↓reduceIte, reduceCtorEq, Nat.reduceEqDiff, Nat.reduceAdd, Nat.reduceMul, Nat.reduceLT, Nat.reduceLeDiff, Nat.reduceSub, Nat.reduceDiv, Nat.reduceBEq, Nat.reduceBneDiff, Nat.reduceBeqDiff, hz]
      refine ⟨by omega, fun g7 => ?_⟩
      refine ⟨by omega, fun γ' c' _ => ⟨(⟨γ', c', l ++ [⟨1, 0, z⟩]⟩, p + 3), ⟨by simp; omega, by simp only; omega, by simp only; omega⟩, ?_⟩⟩
      (refine Less.start ?_; repeat (first | exact LessO.nil | exact LessO.all | refine LessO.skip (by decide) ?_ | refine LessO.upd ?_ ?_ | refine LessO.set ?_ ?_)) <;> (try simp (maxSteps := 1000000) (disch := omega) only [push_cast, go_sem, wpS_tt, wpS_tf, wpS_ft, wpS_ff, wpCond_tt, wpCond_ff, Nat.reducePow, Int.reduceEq, Int.reduceLT, Int.reduceLE, Int.reduceAdd, Int.reduceSub, Int.reduceMul, Int.reduceToNat, Int.reduceBEq, Int.reduceBNe, ↓reduceIte, reduceCtorEq, Nat.reduceEqDiff, Nat.reduceAdd, Nat.reduceMul, Nat.reduceLT, Nat.reduceLeDiff, Nat.reduceSub, Nat.reduceDiv, Nat.reduceBEq, Nat.reduceBneDiff, Nat.reduceBeqDiff])
      all_goals first | rfl | omega | simp [RowO.V, Do.V, Nat.add_comm]
    · simp (maxSteps := 1000000) (disch := omega) only [push_cast, go_sem, wpS_tt, wpS_tf, wpS_ft, wpS_ff, wpCond_tt, wpCond_ff, Nat.reducePow, Int.reduceEq, Int.reduceLT, Int.reduceLE, Int.reduceAdd, Int.reduceSub, Int.reduceMul, Int.reduceToNat, Int.reduceBEq, Int.reduceBNe, ↓reduceIte, reduceCtorEq, Nat.reduceEqDiff, Nat.reduceAdd, Nat.reduceMul, Nat.reduceLT, Nat.reduceLeDiff, Nat.reduceSub, Nat.reduceDiv, Nat.reduceBEq, Nat.reduceBneDiff, Nat.reduceBeqDiff]
      refine Sat.loop (σ := RowO × Nat × Nat) (fun y => upd (upd (upd (upd (upd (upd noT 0 (.ptr 0 [] 0 0 g 2)) 3 (.ptr 3 [] 0 0 g3 1)) 4 (.ptr 4 [] 0 0 g4 1)) 5 (.int .i64 k)) 6 (.msl 6 [] y.1.γ y.1.l.length y.1.c)) 7 (.int .i64 y.2.2))
        (fun y => (((noM.set 0 (rdO bs g y.2.1)).set 3 (boxP x g3)).set 4 (.own 25 (some g4) 1 [.agg [.own 0 none 0 []]])).set 6 y.1.V)
        (fun y => y.1.l.length = l.length + y.2.2 ∧ y.2.2 ≤ 7 ∧ y.2.1 = p + 2 + y.2.2) (fun y => 7 - y.2.2) (⟨γ, c, l⟩, p + 2, 0) (by simp) ?_ ?_
      · (refine Less.start ?_; repeat (first | exact LessO.nil | exact LessO.all | refine LessO.skip (by decide) ?_ | refine LessO.upd ?_ ?_ | refine LessO.set ?_ ?_)) <;> (try simp (maxSteps := 1000000) (disch := omega) only [push_cast, go_sem, wpS_tt, wpS_tf, wpS_ft, wpS_ff, wpCond_tt, wpCond_ff, Nat.reducePow, Int.reduceEq, Int.reduceLT, Int.reduceLE, Int.reduceAdd, Int.reduceSub, Int.reduceMul, Int.reduceToNat, Int.reduceBEq, Int.reduceBNe, ↓reduceIte, reduceCtorEq, Nat.reduceEqDiff, Nat.reduceAdd, Nat.reduceMul, Nat.reduceLT, Nat.reduceLeDiff, Nat.reduceSub, Nat.reduceDiv, Nat.reduceBEq, Nat.reduceBneDiff, Nat.reduceBeqDiff])
        all_goals first | rfl | omega | simp [RowO.V, Do.V, Nat.add_comm]
      rintro ⟨y, q, i⟩ ⟨h1, h2, h3⟩ J hJ
      refine Sat.of (S := []) (by kernel_rfl) ?_
      simp only at h1 h2 h3 hJ
      by_cases hi : (i : Int) < 7
      · simp (maxSteps := 1000000) (disch := omega) only [push_cast, go_sem, wpS_tt, wpS_tf, wpS_ft, wpS_ff, wpCond_tt, wpCond_ff, Nat.reducePow, Int.reduceEq, Int.reduceLT, Int.reduceLE, Int.reduceAdd, Int.reduceSub, Int.reduceMul, Int.reduceToNat, Int.reduceBEq, Int.reduceBNe, ↓reduceIte, reduceCtorEq, Nat.reduceEqDiff, Nat.reduceAdd, Nat.reduceMul, Nat.reduceLT, Nat.reduceLeDiff, Nat.reduceSub, Nat.reduceDiv, Nat.reduceBEq, Nat.reduceBneDiff, Nat.reduceBeqDiff, hi, RowO.V_eq]
        intro g6
        refine callR.rd (pick_rd bs hb g q (by omega) 2 (by omega)) rfl rfl rfl ?_
        rintro r o' ⟨v3, rfl, hv30, hv31, _, rfl⟩
        have hv3 := hv31 (by omega)
        obtain ⟨m, rfl⟩ := Int.eq_ofNat_of_zero_le hv30
        obtain ⟨z, hz⟩ := ints_get (l := [.int .i64 4, .int .i64 2]) (n := m) rfl (by simp; omega)
        simp (maxSteps := 1000000) (disch := omega) only [push_cast, go_sem, wpS_tt, wpS_tf, wpS_ft, wpS_ff, wpCond_tt, wpCond_ff, Nat.reducePow, Int.reduceEq, Int.reduceLT, Int.reduceLE, Int.reduceAdd, Int.reduceSub, Int.reduceMul, Int.reduceToNat, Int.reduceBEq, Int.reduceBNe, ↓reduceIte, reduceCtorEq, Nat.reduceEqDiff, Nat.reduceAdd, Nat.reduceMul, Nat.reduceLT, Nat.reduceLeDiff, Nat.reduceSub, Nat.reduceDiv, Nat.reduceBEq, Nat.reduceBneDiff, Nat.reduceBeqDiff, hz]
        refine ⟨by omega, fun g7 => ⟨by omega, fun γ' c' _ => ?_⟩⟩
        refine hJ (⟨γ', c', y.l ++ [⟨z, 0, 0⟩]⟩, q + 1, i + 1) _ _ ⟨by simp; omega, by simp only; omega, by simp only; omega⟩ (by simp only; omega) ?_
        (refine Less.start ?_; repeat (first | exact LessO.nil | exact LessO.all | refine LessO.skip (by decide) ?_ | refine LessO.upd ?_ ?_ | refine LessO.set ?_ ?_)) <;> (try simp (maxSteps := 1000000) (disch := omega) only [push_cast, go_sem, wpS_tt, wpS_tf, wpS_ft, wpS_ff, wpCond_tt, wpCond_ff, Nat.reducePow, Int.reduceEq, Int.reduceLT, Int.reduceLE, Int.reduceAdd, Int.reduceSub, Int.reduceMul, Int.reduceToNat, Int.reduceBEq, Int.reduceBNe, ↓reduceIte, reduceCtorEq, Nat.reduceEqDiff, Nat.reduceAdd, Nat.reduceMul, Nat.reduceLT, Nat.reduceLeDiff, Nat.reduceSub, Nat.reduceDiv, Nat.reduceBEq, Nat.reduceBneDiff, Nat.reduceBeqDiff])
        all_goals first | rfl | omega | simp [RowO.V, Do.V, Nat.add_comm]
      · simp (maxSteps := 1000000) (disch := omega) only [push_cast, go_sem, wpS_tt, wpS_tf, wpS_ft, wpS_ff, wpCond_tt, wpCond_ff, Nat.reducePow, Int.reduceEq, Int.reduceLT, Int.reduceLE, Int.reduceAdd, Int.reduceSub, Int.reduceMul, Int.reduceToNat, Int.reduceBEq, Int.reduceBNe, ↓reduceIte, reduceCtorEq, Nat.reduceEqDiff, Nat.reduceAdd, Nat.reduceMul, Nat.reduceLT, Nat.reduceLeDiff, Nat.reduceSub, Nat.reduceDiv, Nat.reduceBEq, Nat.reduceBneDiff, Nat.reduceBeqDiff, hi]
        refine ⟨(y, q), ⟨by simp only; omega, by simp only; omega, by simp only; omega⟩, ?_⟩
        (refine Less.start ?_; repeat (first | exact LessO.nil | exact LessO.all | refine LessO.skip (by decide) ?_ | refine LessO.upd ?_ ?_ | refine LessO.set ?_ ?_)) <;> (try simp (maxSteps := 1000000) (disch := omega) only [push_cast, go_sem, wpS_tt, wpS_tf, wpS_ft, wpS_ff, wpCond_tt, wpCond_ff, Nat.reducePow, Int.reduceEq, Int.reduceLT, Int.reduceLE, Int.reduceAdd, Int.reduceSub, Int.reduceMul, Int.reduceToNat, Int.reduceBEq, Int.reduceBNe, ↓reduceIte, reduceCtorEq, Nat.reduceEqDiff, Nat.reduceAdd, Nat.reduceMul, Nat.reduceLT, Nat.reduceLeDiff, Nat.reduceSub, Nat.reduceDiv, Nat.reduceBEq, Nat.reduceBneDiff, Nat.reduceBeqDiff])
    · simp (maxSteps := 1000000) (disch := omega) only [push_cast, go_sem, wpS_tt, wpS_tf, wpS_ft, wpS_ff, wpCond_tt, wpCond_ff, Nat.reducePow, Int.reduceEq, Int.reduceLT, Int.reduceLE, Int.reduceAdd, Int.reduceSub, Int.reduceMul, Int.reduceToNat, Int.reduceBEq, Int.reduceBNe, ↓reduceIte, reduceCtorEq, Nat.reduceEqDiff, Nat.reduceAdd, Nat.reduceMul, Nat.reduceLT, Nat.reduceLeDiff, Nat.reduceSub, Nat.reduceDiv, Nat.reduceBEq, Nat.reduceBneDiff, Nat.reduceBeqDiff]
      intro g6
      refine ⟨by omega, fun γ' c' _ => ⟨(⟨γ', c', l ++ [⟨4, 0, 1⟩]⟩, p + 2), ⟨by simp; omega, by simp only; omega, by simp only; omega⟩, ?_⟩⟩
      (refine Less.start ?_; repeat (first | exact LessO.nil | exact LessO.all | refine LessO.skip (by decide) ?_ | refine LessO.upd ?_ ?_ | refine LessO.set ?_ ?_)) <;> (try simp (maxSteps := 1000000) (disch := omega) only [push_cast, go_sem, wpS_tt, wpS_tf, wpS_ft, wpS_ff, wpCond_tt, wpCond_ff, Nat.reducePow, Int.reduceEq, Int.reduceLT, Int.reduceLE, Int.reduceAdd, Int.reduceSub, Int.reduceMul, Int.reduceToNat, Int.reduceBEq, Int.reduceBNe, ↓reduceIte, reduceCtorEq, Nat.reduceEqDiff, Nat.reduceAdd, Nat.reduceMul, Nat.reduceLT, Nat.reduceLeDiff, Nat.reduceSub, Nat.reduceDiv, Nat.reduceBEq, Nat.reduceBneDiff, Nat.reduceBeqDiff])
      all_goals first | rfl | omega | simp [RowO.V, Do.V, Nat.add_comm]
  rintro ⟨y, q⟩ ⟨h1, h2, h3⟩
  simp only at h1 h2 h3
  refine Sat.freezeT (upd (upd (upd (upd (upd noT 0 (.ptr 0 [] 0 0 g 2)) 3 (.ptr 3 [] 0 0 g3 1)) 4 (.ptr 4 [] 0 0 g4 1)) 5 (.int .i64 k)) 6 (.sl (y.l.map Do.V))) (((noM.set 0 (rdO bs g q)).set 3 (boxP x g3)).set 4 (.own 25 (some g4) 1 [.agg [.own 0 none 0 []]]))
    6 (e := 70) (γ := y.γ) (cap := y.c) (es := y.l.map Do.V) rfl ?_ ?_
  · (refine Less.start ?_; repeat (first | exact LessO.nil | exact LessO.all | refine LessO.skip (by decide) ?_ | refine LessO.upd ?_ ?_ | refine LessO.set ?_ ?_)) <;> (try simp (maxSteps := 1000000) (disch := omega) only [push_cast, go_sem, wpS_tt, wpS_tf, wpS_ft, wpS_ff, wpCond_tt, wpCond_ff, Nat.reducePow, Int.reduceEq, Int.reduceLT, Int.reduceLE, Int.reduceAdd, Int.reduceSub, Int.reduceMul, Int.reduceToNat, Int.reduceBEq, Int.reduceBNe, ↓reduceIte, reduceCtorEq, Nat.reduceEqDiff, Nat.reduceAdd, Nat.reduceMul, Nat.reduceLT, Nat.reduceLeDiff, Nat.reduceSub, Nat.reduceDiv, Nat.reduceBEq, Nat.reduceBneDiff, Nat.reduceBeqDiff])
  refine Sat.of (S := [24]) (by kernel_rfl) ?_
  simp (maxSteps := 1000000) (disch := omega) only [push_cast, go_sem, wpS_tt, wpS_tf, wpS_ft, wpS_ff, wpCond_tt, wpCond_ff, Nat.reducePow, Int.reduceEq, Int.reduceLT, Int.reduceLE, Int.reduceAdd, Int.reduceSub, Int.reduceMul, Int.reduceToNat, Int.reduceBEq, Int.reduceBNe, ↓reduceIte, reduceCtorEq, Nat.reduceEqDiff, Nat.reduceAdd, Nat.reduceMul, Nat.reduceLT, Nat.reduceLeDiff, Nat.reduceSub, Nat.reduceDiv, Nat.reduceBEq, Nat.reduceBneDiff, Nat.reduceBeqDiff, boxP_eq]
  refine fun g6 => ⟨by omega, fun γ' c' hγ => ?_⟩
  cases γ' with
  | none =>
    have := hγ rfl
    simp at this
    subst this
    simp at hk
  | some g7 =>
  intro g8
  simp (maxSteps := 1000000) (disch := omega) only [push_cast, go_sem, wpS_tt, wpS_tf, wpS_ft, wpS_ff, wpCond_tt, wpCond_ff, Nat.reducePow, Int.reduceEq, Int.reduceLT, Int.reduceLE, Int.reduceAdd, Int.reduceSub, Int.reduceMul, Int.reduceToNat, Int.reduceBEq, Int.reduceBNe, ↓reduceIte, reduceCtorEq, Nat.reduceEqDiff, Nat.reduceAdd, Nat.reduceMul, Nat.reduceLT, Nat.reduceLeDiff, Nat.reduceSub, Nat.reduceDiv, Nat.reduceBEq, Nat.reduceBneDiff, Nat.reduceBeqDiff, hl, hk, thrV_eq]
  refine Sat.less (t' := upd (upd noT 4 (.ptr 4 [] 0 0 g4 1)) 8 (.ptr 8 [] 0 0 g8 1))
    (M' := ((noM.set 0 (rdO bs g q)).set 4 (.own 25 (some g4) 1 [.agg [.own 0 none 0 []]])).set 8 (.own 25 (some g8) 1 [.agg [.own 45 (some g7) c' ((x.set k y.l).map thrV)]])) ?_ ?_
  rotate_left
  · (refine Less.start ?_; repeat (first | exact LessO.nil | exact LessO.all | refine LessO.skip (by decide) ?_ | refine LessO.upd ?_ ?_ | refine LessO.set ?_ ?_)) <;> (try simp (maxSteps := 1000000) (disch := omega) only [push_cast, go_sem, wpS_tt, wpS_tf, wpS_ft, wpS_ff, wpCond_tt, wpCond_ff, Nat.reducePow, Int.reduceEq, Int.reduceLT, Int.reduceLE, Int.reduceAdd, Int.reduceSub, Int.reduceMul, Int.reduceToNat, Int.reduceBEq, Int.reduceBNe, ↓reduceIte, reduceCtorEq, Nat.reduceEqDiff, Nat.reduceAdd, Nat.reduceMul, Nat.reduceLT, Nat.reduceLeDiff, Nat.reduceSub, Nat.reduceDiv, Nat.reduceBEq, Nat.reduceBneDiff, Nat.reduceBeqDiff])
    have := set_thr x k y.l
    simp only [thrV_eq] at this
    rw [this]
  refine Sat.freezeC 8 [] 0 0 (n0 := .own 25 (some g8) 1 [.agg [.own 45 (some g7) c' ((x.set k y.l).map thrV)]]) (d := .own 45 (some g7) c' ((x.set k y.l).map thrV)) rfl rfl rfl ?_
  rw [fz_thrs]
  refine Sat.of (S := []) (by kernel_rfl) ?_
  simp (maxSteps := 1000000) (disch := omega) only [push_cast, go_sem, wpS_tt, wpS_tf, wpS_ft, wpS_ff, wpCond_tt, wpCond_ff, Nat.reducePow, Int.reduceEq, Int.reduceLT, Int.reduceLE, Int.reduceAdd, Int.reduceSub, Int.reduceMul, Int.reduceToNat, Int.reduceBEq, Int.reduceBNe, ↓reduceIte, reduceCtorEq, Nat.reduceEqDiff, Nat.reduceAdd, Nat.reduceMul, Nat.reduceLT, Nat.reduceLeDiff, Nat.reduceSub, Nat.reduceDiv, Nat.reduceBEq, Nat.reduceBneDiff, Nat.reduceBeqDiff]
  refine ⟨_, ?_, _, ⟨x.set k y.l, rfl, by simp, ?_, q, h2, h3, rfl⟩, rfl⟩
  · ((repeat (first | exact Sub.no | refine Sub.set ?_ ?_)) <;> (try simp (disch := omega) only [push_cast, go_sem, wpS_tt, wpS_tf, wpS_ft, wpS_ff, wpCond_tt, wpCond_ff, Nat.reducePow, Int.reduceEq, Int.reduceLT, Int.reduceLE, Int.reduceAdd, Int.reduceSub, Int.reduceMul, Int.reduceToNat, Int.reduceBEq, Int.reduceBNe, ↓reduceIte, reduceCtorEq, Nat.reduceEqDiff, Nat.reduceAdd, Nat.reduceMul, Nat.reduceLT, Nat.reduceLeDiff, Nat.reduceSub, Nat.reduceDiv, Nat.reduceBEq, Nat.reduceBneDiff, Nat.reduceBeqDiff]))
  · intro l' hl'
    rcases List.mem_or_eq_of_mem_set hl' with h | rfl
    · have := hx3 l' h; omega
    · omega
end Go.Proofs.Ytmmipjlogdggiaa
/-! ## Draws: a program, seldom a spoilt one -/
namespace Go.Proofs.Ytmmipjlogdggiaa
open Go.RowKit
set_option linter.unusedSimpArgs false
set_option linter.unusedVariables false
set_option pp.maxSteps 3000

theorem l71Any_rd (bs : List Int) (hb : Bytes bs) (g p : Nat) (hp : p < 2 ^ 27) : Fr Try.prog 35 [] g (rdO bs g p)
    (fun r o' => ∃ x : Prog, r = progV x ∧ x.length ≤ 3 ∧ (∀ l ∈ x, l.length < 2 ^ 11) ∧ ∃ q, p ≤ q ∧ q ≤ p + 2 ^ 21 ∧ o' = rdO bs g q) := by
  refine Fc.start (S := []) Try.func35 Try.ntmps35 Try.results35 rfl (by decide) rfl (by kernel_rfl) ?_
  simp (maxSteps := 1000000) (disch := omega) only [push_cast, go_sem, wpS_tt, wpS_tf, wpS_ft, wpS_ff, wpCond_tt, wpCond_ff, Nat.reducePow, Int.reduceEq, Int.reduceLT, Int.reduceLE, Int.reduceAdd, Int.reduceSub, Int.reduceMul, Int.reduceToNat, Int.reduceBEq, Int.reduceBNe, ↓reduceIte, reduceCtorEq, Nat.reduceEqDiff, Nat.reduceAdd, Nat.reduceMul, Nat.reduceLT, Nat.reduceLeDiff, Nat.reduceSub, Nat.reduceDiv, Nat.reduceBEq, Nat.reduceBneDiff, Nat.reduceBeqDiff]
  intro g2
  refine callR.rd (l71Prog_rd bs hb g p hp) rfl rfl rfl ?_
  rintro r o' ⟨x, rfl, ⟨hx1, hx2, hx3⟩, q, hq1, hq2, rfl⟩
  have hx1' := hx1
  simp only [progOk, Bool.and_eq_true, decide_eq_true_eq, List.all_eq_true] at hx1'
  have hx4 : ∀ l ∈ x, l.length ≤ 7 := fun l h => threadOk_le (hx1'.1.1.2 l h)
  have hx5 := hx1'.1.1.1
  simp (maxSteps := 1000000) (disch := omega) only [push_cast, go_sem, wpS_tt, wpS_tf, wpS_ft, wpS_ff, wpCond_tt, wpCond_ff, Nat.reducePow, Int.reduceEq, Int.reduceLT, Int.reduceLE, Int.reduceAdd, Int.reduceSub, Int.reduceMul, Int.reduceToNat, Int.reduceBEq, Int.reduceBNe, ↓reduceIte, reduceCtorEq, Nat.reduceEqDiff, Nat.reduceAdd, Nat.reduceMul, Nat.reduceLT, Nat.reduceLeDiff, Nat.reduceSub, Nat.reduceDiv, Nat.reduceBEq, Nat.reduceBneDiff, Nat.reduceBeqDiff, progV_eq]
  intro g3
  refine callR.rd (pick_rd bs hb g q (by omega) 16 (by omega)) rfl rfl rfl ?_
  rintro r o' ⟨v, rfl, hv0, hv1, _, rfl⟩
  simp (maxSteps := 1000000) (disch := omega) only [push_cast, go_sem, wpS_tt, wpS_tf, wpS_ft, wpS_ff, wpCond_tt, wpCond_ff, Nat.reducePow, Int.reduceEq, Int.reduceLT, Int.reduceLE, Int.reduceAdd, Int.reduceSub, Int.reduceMul, Int.reduceToNat, Int.reduceBEq, Int.reduceBNe, ↓reduceIte, reduceCtorEq, Nat.reduceEqDiff, Nat.reduceAdd, Nat.reduceMul, Nat.reduceLT, Nat.reduceLeDiff, Nat.reduceSub, Nat.reduceDiv, Nat.reduceBEq, Nat.reduceBneDiff, Nat.reduceBeqDiff]
  refine ⟨fun _ => ?_, fun _ => ?_⟩
  · refine callR.rd (l71Bad_rd bs hb g (q + 1) (by omega) x (by omega) (by omega) (fun l h => by have := hx4 l h; omega)) rfl rfl rfl ?_
    rintro r o' ⟨y, rfl, hy1, hy2, q2, hq3, hq4, rfl⟩
    simp (maxSteps := 1000000) (disch := omega) only [push_cast, go_sem, wpS_tt, wpS_tf, wpS_ft, wpS_ff, wpCond_tt, wpCond_ff, Nat.reducePow, Int.reduceEq, Int.reduceLT, Int.reduceLE, Int.reduceAdd, Int.reduceSub, Int.reduceMul, Int.reduceToNat, Int.reduceBEq, Int.reduceBNe, ↓reduceIte, reduceCtorEq, Nat.reduceEqDiff, Nat.reduceAdd, Nat.reduceMul, Nat.reduceLT, Nat.reduceLeDiff, Nat.reduceSub, Nat.reduceDiv, Nat.reduceBEq, Nat.reduceBneDiff, Nat.reduceBeqDiff, progV_eq]
    refine ⟨_, ?_, _, ⟨y, rfl, by omega, hy2, q2, by omega, by omega, rfl⟩, rfl⟩
    ((repeat (first | exact Sub.no | refine Sub.set ?_ ?_)) <;> (try simp (disch := omega) only [push_cast, go_sem, wpS_tt, wpS_tf, wpS_ft, wpS_ff, wpCond_tt, wpCond_ff, Nat.reducePow, Int.reduceEq, Int.reduceLT, Int.reduceLE, Int.reduceAdd, Int.reduceSub, Int.reduceMul, Int.reduceToNat, Int.reduceBEq, Int.reduceBNe, ↓reduceIte, reduceCtorEq, Nat.reduceEqDiff, Nat.reduceAdd, Nat.reduceMul, Nat.reduceLT, Nat.reduceLeDiff, Nat.reduceSub, Nat.reduceDiv, Nat.reduceBEq, Nat.reduceBneDiff, Nat.reduceBeqDiff]))
  · refine ⟨_, ?_, _, ⟨x, rfl, hx5, fun l h => by have := hx4 l h; omega, q + 1, by omega, by omega, rfl⟩, rfl⟩
    ((repeat (first | exact Sub.no | refine Sub.set ?_ ?_)) <;> (try simp (disch := omega) only [push_cast, go_sem, wpS_tt, wpS_tf, wpS_ft, wpS_ff, wpCond_tt, wpCond_ff, Nat.reducePow, Int.reduceEq, Int.reduceLT, Int.reduceLE, Int.reduceAdd, Int.reduceSub, Int.reduceMul, Int.reduceToNat, Int.reduceBEq, Int.reduceBNe, ↓reduceIte, reduceCtorEq, Nat.reduceEqDiff, Nat.reduceAdd, Nat.reduceMul, Nat.reduceLT, Nat.reduceLeDiff, Nat.reduceSub, Nat.reduceDiv, Nat.reduceBEq, Nat.reduceBneDiff, Nat.reduceBeqDiff]))
end Go.Proofs.Ytmmipjlogdggiaa
/-! ## A look at what is still owned: a region that only answers, walked with all objects frozen for it alone. And a tree that becomes an object of its own -/
namespace Go.Proofs.Ytmmipjlogdggiaa
open Go.RowKit
set_option linter.unusedSimpArgs false
set_option linter.unusedVariables false

section
variable {P : Program} {N : Nat} {imm imm' imm0 : Nat → Prop} {w w' w0 : World} {M M0 M' Mm : Mem} {t T : Nat → V} {a : Act} {C : Kont} {ops : Array Oper} {Q : Exit → Act → World → Prop}

/-! ### slots that nothing writes -/
def SameBut (ds : List (Option Nat)) (a a' : Act) : Prop := a'.defers.length ≥ a.defers.length ∧ ∀ i, some i ∉ ds → a'.tmps.getD i undef = a.tmps.getD i undef
theorem SameBut.put (ds : List (Option Nat)) (a : Act) (d : Option Nat) (v : Value) (hd : d ∈ ds) : SameBut ds a (a.put d v) := by
  refine ⟨by rw [put_defers]; exact Nat.le_refl _, fun i hi => ?_⟩
  cases d with
  | none => rfl
  | some d =>
    have : ¬ d = i := fun e => hi (e ▸ hd)
    simp only [Act.put, Array.getD_eq_getD_getElem?]
    rw [Array.getElem?_setIfInBounds_ne this]
theorem Oper.wp_but {o : Oper} {K : Act → World → Prop} (h : o.wp P a w K Q) : o.wp P a w (fun a' w' => K a' w' ∧ ∀ i, o.dst ≠ some i → a'.tmps.getD i undef = a.tmps.getD i undef) Q := by
  have fr : ∀ (a : Act) v, ∀ i, o.dst ≠ some i → (a.put o.dst v).tmps.getD i undef = a.tmps.getD i undef := fun a v i hi => (SameBut.put [o.dst] a o.dst v (by simp)).2 i (by simpa [eq_comm] using hi)
  unfold Oper.wp at *
  generalize (execOp a.eval o).run P w = r at *
  cases r with
  | ok n w' =>
    cases n <;> simp only [Oper.upon] at h ⊢ <;>
      first
        | exact ⟨h, fr _ _⟩
        | exact ⟨h, fun i hi => fr _ _ i hi⟩
        | exact Calls.mono h (fun e w'' he => by cases e <;> first | exact ⟨he, fr _ _⟩ | exact he)
        | exact Rows.mono h (fun _ _ he => ⟨he, fr _ _⟩)
  | halt x w' => cases x <;> simp only [Oper.upon] at h ⊢ <;> exact h
theorem wpList_mono {Q' : Exit → Act → World → Prop} (hq : ∀ e a w, Q e a w → Q' e a w) : ∀ (l : List Oper) (a : Act) (w : World), wpList P ops Q l a w → wpList P ops Q' l a w
  | [], a, w, h => hq _ _ _ h
  | o :: l, a, w, h => by
    unfold wpList at *
    split at h
    · rename_i hw
      rw [if_pos hw]
      refine h.imp (fun h => ?_) (fun h => ⟨h.1, h.2.elim fun a h => h.elim fun w h => ⟨a, w, hq _ _ _ h⟩⟩)
      refine Oper.wp_mono (Q := Q') (K := wpList P ops Q l) (fun a w => wpList_mono hq l a w) ?_
      unfold Oper.wp at *
      generalize (execOp a.eval o).run P w = r at *
      cases r with
      | ok n w' =>
        cases n <;> simp only [Oper.upon] at h ⊢ <;>
          first
            | exact h
            | exact Calls.mono h (fun e w'' he => by cases e <;> first | exact he | exact hq _ _ _ he | exact he.elim fun a h => h.elim fun w h => ⟨a, w, hq _ _ _ h⟩)
      | halt x w' => cases x <;> simp only [Oper.upon] at h ⊢ <;> first | exact hq _ _ _ h | exact h
    · rename_i hw
      rw [if_neg hw]
      exact wpList_mono hq l _ _ h
theorem wpList_but : ∀ (l : List Oper) (a : Act) (w : World), wpList P ops Q l a w → wpList P ops (fun e a' w' => Q e a' w' ∧ (e = .normal → ∀ i, some i ∉ l.map (·.dst) → a'.tmps.getD i undef = a.tmps.getD i undef)) l a w
  | [], a, w, h => ⟨h, fun _ _ _ => rfl⟩
  | o :: l, a, w, h => by
    have go : ∀ (a1 : Act) (w1 : World), (∀ i, o.dst ≠ some i → a1.tmps.getD i undef = a.tmps.getD i undef) → wpList P ops Q l a1 w1 →
        wpList P ops (fun e a' w' => Q e a' w' ∧ (e = .normal → ∀ i, some i ∉ (o :: l).map (·.dst) → a'.tmps.getD i undef = a.tmps.getD i undef)) l a1 w1 := by
      intro a1 w1 h1 h2
      refine wpList_mono ?_ l a1 w1 (wpList_but l a1 w1 h2)
      rintro e a' w' ⟨k1, k2⟩
      refine ⟨k1, fun he i hi => ?_⟩
      simp only [List.map_cons, List.mem_cons, not_or] at hi
      rw [k2 he i hi.2]
      exact h1 i (fun e => hi.1 e.symm)
    unfold wpList at h ⊢
    split at h
    · rename_i hw
      rw [if_pos hw]
      have out : ∀ a0 : Act, LetsOut Q → LetsOut (fun e a' w' => Q e a' w' ∧ (e = .normal → ∀ i, some i ∉ (o :: l).map (·.dst) → a'.tmps.getD i undef = a.tmps.getD i undef)) := fun _ h => h.elim fun a h => h.elim fun w h => ⟨a, w, h, nofun⟩
      refine h.imp (fun h => ?_) (fun h => ⟨h.1, out a h.2⟩)
      replace h := Oper.wp_but h
      refine Oper.wp_mono (K := fun a' w' => wpList P ops Q l a' w' ∧ ∀ i, o.dst ≠ some i → a'.tmps.getD i undef = a.tmps.getD i undef) (fun a1 w1 h => go a1 w1 h.2 h.1) ?_
      unfold Oper.wp at *
      generalize (execOp a.eval o).run P w = r at *
      cases r with
      | ok n w' =>
        cases n <;> simp only [Oper.upon] at h ⊢ <;>
          first
            | exact h
            | exact Calls.mono h (fun e w'' he => by cases e <;> first | exact he | exact ⟨he, nofun⟩ | exact out a he)
      | halt x w' => cases x <;> simp only [Oper.upon] at h ⊢ <;> first | exact ⟨h, nofun⟩ | exact h
    · rename_i hw
      rw [if_neg hw]
      refine go _ w (fun i hi => ?_) h
      exact (SameBut.put [o.dst] a o.dst undef (by simp)).2 i (by simpa [eq_comm] using hi)

/-! ### all objects frozen, for a look -/
/-- A slot as it looks with all objects frozen. -/
def Pk (P : Program) (M : Mem) (T t : Nat → V) : Prop := ∀ i, T i = .undef ∨ T i = t i ∨
  ∃ o r j g k e cap es x, t i = .ptr o [] r j g k ∧ M o = some (.own e (some g) cap es) ∧ es[r]? = some x ∧ k = szT P e ∧ T i = .eptr ((x.cells.drop j).map V.fz)
theorem Pk.nil : Pk P M noT t := fun _ => .inl rfl
theorem Pk.upd {d : Nat} {v : V} (h : Pk P M T t) (hv : t d = v) : Pk P M (upd T d v) t := fun i => by
  by_cases hi : i = d
  · subst hi; exact .inr (.inl (by simp [Go.Proofs.Ytmmipjlogdggiaa.upd, hv]))
  · have := h i; simpa [Go.Proofs.Ytmmipjlogdggiaa.upd, hi] using this
theorem Pk.ptr {d : Nat} {o r j g k : Nat} {e : TypeId} {cap : Nat} {es cs : List V} {x : V} (h : Pk P M T t) (hv : t d = .ptr o [] r j g k) (ho : M o = some (.own e (some g) cap es)) (hx : es[r]? = some x) (hk : k = szT P e) (hcs : (x.cells.drop j).map V.fz = cs) :
    Pk P M (Go.Proofs.Ytmmipjlogdggiaa.upd T d (.eptr cs)) t := fun i => by
  subst hcs
  by_cases hi : i = d
  · subst hi; exact .inr (.inr ⟨o, r, j, g, k, e, cap, es, x, hv, ho, hx, hk, by simp [Go.Proofs.Ytmmipjlogdggiaa.upd]⟩)
  · have := h i; simpa [Go.Proofs.Ytmmipjlogdggiaa.upd, hi] using this
/-- Slots that stay as they are. -/
def Keep (ds : List (Option Nat)) (T t : Nat → V) : Prop := ∀ i, T i = .undef ∨ (T i = t i ∧ some i ∉ ds)
theorem Keep.nil {ds : List (Option Nat)} : Keep ds noT t := fun _ => .inl rfl
theorem Keep.upd {ds : List (Option Nat)} {d : Nat} {v : V} (h : Keep ds T t) (hv : t d = v) (hd : ds.contains (some d) = false) : Keep ds (upd T d v) t := fun i => by
  by_cases hi : i = d
  · subst hi; exact .inr ⟨by simp [Go.Proofs.Ytmmipjlogdggiaa.upd, hv], by simpa using hd⟩
  · have := h i; simpa [Go.Proofs.Ytmmipjlogdggiaa.upd, hi] using this

theorem Rel.look (h : Rel P N imm0 w0 M0 imm t M a w) (hT : Pk P M T t) : Rel P N (fun g => imm g ∨ M.owns g) w noM (fun g => imm g ∨ M.owns g) T noM a w := by
  have hI := h.step.inv
  have he : Ev imm w (fun g => imm g ∨ M.owns g) w := fun g hg => ⟨.inl hg, rfl⟩
  have hlt : ∀ g, (imm g ∨ M.owns g) → g < w.heap.size := fun g hg => hg.elim (h.step.lt g) hI.own_lt
  refine ⟨h.size, h.defers, fun i => ?_, Step.refl ⟨fun o q v hv => by simp [Mem.getP, noM] at hv, fun o v hv => by simp [noM] at hv, fun o q o' q' g e cap es e' cap' es' hv _ => by simp [Mem.getP, noM] at hv⟩ hlt⟩
  rcases hT i with e | e | ⟨o, r, j, g, k, e, cap, es, x, h1, h2, h3, h4, h5⟩
  · rw [e]; exact .undef _
  · rw [e]; exact (h.tm i).ev he
  · have hv := (h1 ▸ h.tm i : Rp imm w (.ptr o [] r j g k) _).ptr_inv
    obtain ⟨_, k2, k3⟩ := hI.freeze h2
    replace k2 := k2.ev (imm' := fun g => imm g ∨ M.owns g) (w' := w) (fun g hg => ⟨hg.imp_right fun hb => (k3 g hb).2, rfl⟩)
    have hnd := hI.nd o [] (.own e (some g) cap es) (by simp [Mem.getP, h2, V.getP])
    obtain ⟨n1, n2, n3, cur0, n4, n5, n6⟩ := hnd
    have hxl := (n6 r x h3).1
    have hxz : (es.map V.fz)[r]? = some x.fz := by rw [List.getElem?_map, h3]; rfl
    rw [h5, hv]
    generalize hes : es.map V.fz = zs at k2 hxz
    generalize hu : Value.slice ((some g).map fun g => (⟨g, 0, none⟩ : Addr)) es.length cap = u at k2
    cases k2 with
    | sl0 => simp at hxz
    | sl _ g' off cap' kk cur tt fr f hi hg hk hl hc hh =>
      simp only [Option.map_some, Value.slice.injEq, Option.some.injEq, Addr.mk.injEq] at hu
      obtain ⟨⟨rfl, rfl, _⟩, _, _⟩ := hu
      have hkk : kk = szT P e := by
        have := hl r x.fz hxz
        rw [cells_fz, List.length_map, hxl] at this
        exact this.symm
      subst hkk
      subst h4
      refine .eptr _ g (r * szT P e + j) cur tt fr (fun l => f r (j + l)) hi hg (fun l c hlc => ?_) (fun l c hlc => ?_)
      · rw [List.getElem?_map, Option.map_eq_some_iff] at hlc
        obtain ⟨c0, hc0, rfl⟩ := hlc
        rw [List.getElem?_drop] at hc0
        have := hc r x.fz (j + l) c0.fz hxz (by rw [cells_fz, List.getElem?_map, hc0]; rfl)
        rw [← this]; congr 1; omega
      · rw [List.getElem?_map, Option.map_eq_some_iff] at hlc
        obtain ⟨c0, hc0, rfl⟩ := hlc
        rw [List.getElem?_drop] at hc0
        exact hh r x.fz (j + l) c0.fz hxz (by rw [cells_fz, List.getElem?_map, hc0]; rfl)

theorem Sat.look {id : Nat} {l : List Oper} {y : Code} (T T2 : Nat → V) (d : Nat) (b : Bool) (hT : Pk P M T t) (hd : dstOk N ⟨l⟩ = true) (h : wpL P (l.map (·.dst)) l T noM (fun t' _ => t' d = .bool b))
    (hk : Keep (l.map (·.dst)) T2 t) (h2 : Sat P N y (upd T2 d (.bool b)) M C) : Sat P N (.seq (.region id ⟨l⟩ false) y) t M C := by
  intro imm0 w0 M0 imm a w hr
  have hr1 := hr.look hT
  have hds : ∀ o ∈ l, (∀ i, o.dst = some i → i < N) ∧ ∀ j b, o.guard = some (j, b) → ∃ d, ((⟨l⟩ : Array Oper)[j]?).bind (·.dst) = some d := by
    intro o ho
    have := Array.all_eq_true'.1 hd o (by simpa using ho)
    rw [Bool.and_eq_true] at this
    refine ⟨fun i hi => ?_, fun j b hj => ?_⟩
    · have h1 := this.1; rw [hi] at h1; simpa using h1
    · have h1 := this.2; rw [hj] at h1; exact Option.isSome_iff_exists.1 h1
  have hw := wpL_sound (ops := ⟨l⟩) (Q := fun e a' w' => e = .normal ∧ ∃ imm' t' M', Rel P N (fun g => imm g ∨ M.owns g) w noM imm' t' M' a' w' ∧ t' d = .bool b) l T noM _ a w hds h hr1
    (fun imm' t' M' a' w' k1 k2 => ⟨rfl, imm', t', M', k1, k2⟩)
  replace hw := wpList_but l a w hw
  refine wp_seq (Code.wp_mono ?_ (wp_region_list hw))
  rintro e a' w' ⟨⟨rfl, imm', t', M', hr', hb⟩, hfr⟩
  replace hfr := hfr rfl
  have hI := hr.step.inv
  have hS := hr'.step
  have hblk : ∀ g, g < w.heap.size → w'.heap[g]? = w.heap[g]? := fun g hg => (hS.block g hg (fun ⟨o, q, e, cap, es, hq⟩ => by simp [Mem.getP, noM] at hq)).1
  have he : Ev imm w imm w' := fun g hg => ⟨hg, hblk g (hr.step.lt g hg)⟩
  have hI' : Inv (szT P) imm w' M := by
    refine ⟨fun o q v hv => ?_, hI.top, hI.inj⟩
    refine Nd.up (here := fun _ _ => False) (c := .undef) he (hI.nd o q v hv) (.inl rfl) (fun _ _ h => h) (fun e g cap es hq => ?_)
    subst hq
    exact ⟨hblk g (hI.nd _ _ _ hv).lt, (hI.nd _ _ _ hv).1⟩
  have hr2 : Rel P N imm0 w0 M0 imm (upd T2 d (.bool b)) M a' w' := by
    refine ⟨hr'.size, hr'.defers, fun i => ?_, hr.step.trans ⟨hI', fun g hg => Nat.lt_of_lt_of_le (hr.step.lt g hg) hS.size, hS.size, hS.os, hS.tape, hS.output, fun g hg _ => ⟨hblk g hg, Iff.rfl⟩, fun g hg => .inl hg⟩⟩
    by_cases hi : i = d
    · subst hi
      have := (hb ▸ hr'.tm i : Rp imm' w' (.bool b) _).bool_inv
      rw [this]
      simp only [upd, if_true]
      exact .bool b
    · simp only [upd, if_neg hi]
      rcases hk i with e | ⟨e, hni⟩
      · rw [e]; exact .undef _
      · rw [e, hfr i hni]
        exact (hr.tm i).ev he
  exact h2 _ _ _ _ _ _ hr2

/-! ### a tree becomes an object of its own -/
theorem Inv.lift {sz : TypeId → Nat} (h : Inv sz imm w M) {o n : Nat} {q : Path} {i j : Nat} {n0 : V} {e : TypeId} {γ : Option Nat} {cap : Nat} {es : List V} (hn : M.getP o q = some n0) (hc : n0.cellAt i j = some (.own e γ cap es)) (hf : M n = none) :
    Inv sz imm w ((M.setP o q i j (.msl n [] γ es.length cap)).set n (.own e γ cap es)) ∧ ∀ g, ((M.setP o q i j (.msl n [] γ es.length cap)).set n (.own e γ cap es)).owns g → M.owns g := by
  have hgc : ∀ r, M.getP o (q ++ (i, j) :: r) = (V.own e γ cap es).getP r := by
    intro r
    obtain ⟨t, ht⟩ := Mem.getP_top hn
    simp only [Mem.getP, ht, Option.bind_some] at hn ⊢
    rw [V.getP_append, hn]
    simp [V.getP, hc]
  have hon : o ≠ n := by
    rintro rfl
    obtain ⟨t, ht⟩ := Mem.getP_top hn
    rw [hf] at ht; cases ht
  have key : ∀ o' p n', ((M.setP o q i j (.msl n [] γ es.length cap)).set n (.own e γ cap es)).getP o' p = some n' →
      (o' = n ∧ M.getP o (q ++ (i, j) :: p) = some n') ∨ (o' ≠ n ∧ n' = .msl n [] γ es.length cap) ∨
      (o' ≠ n ∧ (¬ (o' = o ∧ ∃ r, p = q ++ (i, j) :: r)) ∧ ∃ n1, M.getP o' p = some n1 ∧ Up (fun i' j' => o' = o ∧ p = q ∧ i' = i ∧ j' = j) (.msl n [] γ es.length cap) n1 n') := by
    intro o' p n' hp
    rw [Mem.getP_set] at hp
    split at hp
    · rename_i ho
      exact .inl ⟨ho, by rw [hgc]; exact hp⟩
    · rename_i ho
      rcases Mem.getP_setP rfl hn hc hp with ⟨rfl, r, hr, hcr⟩ | ⟨hno, n1, hn1, hu⟩
      · obtain ⟨_, rfl⟩ := getP_nonown rfl hcr
        exact .inr (.inl ⟨ho, rfl⟩)
      · exact .inr (.inr ⟨ho, hno, n1, hn1, hu⟩)
  have keyo : ∀ o' p e' g cap' es', ((M.setP o q i j (.msl n [] γ es.length cap)).set n (.own e γ cap es)).getP o' p = some (.own e' (some g) cap' es') →
      (o' = n ∧ M.getP o (q ++ (i, j) :: p) = some (.own e' (some g) cap' es')) ∨ (o' ≠ n ∧ (¬ (o' = o ∧ ∃ r, p = q ++ (i, j) :: r)) ∧ ∃ es0, M.getP o' p = some (.own e' (some g) cap' es0)) := by
    intro o' p e' g cap' es' hp
    rcases key _ _ _ hp with h1 | ⟨_, h2⟩ | ⟨ho, hno, n1, hn1, hu⟩
    · exact .inl h1
    · cases h2
    · obtain ⟨es0, rfl⟩ := hu.block rfl
      exact .inr ⟨ho, hno, es0, hn1⟩
  refine ⟨⟨fun o' p n' hp => ?_, fun o' v hv => ?_, ?_⟩, ?_⟩
  · rcases key _ _ _ hp with ⟨_, h1⟩ | ⟨_, rfl⟩ | ⟨ho, hno, n1, hn1, hu⟩
    · exact h.nd _ _ _ h1
    · trivial
    · refine Nd.up2 (fun g hg => ⟨hg, rfl⟩) (h.nd _ _ _ hn1) hu (fun i' j' d u hh hd hrc => ?_) (fun e g cap es hq => ?_)
      · obtain ⟨rfl, rfl, rfl, rfl⟩ := hh
        rw [hn] at hn1
        cases hn1
        rw [hc] at hd
        cases hd
        have hrc : u = .slice (γ.map fun g => ⟨g, 0, none⟩) es.length cap := hrc
        subst hrc
        exact Rp.msl ..
      · subst hq
        exact (h.nd _ _ _ hn1).1
  · simp only [Mem.set] at hv
    split at hv
    · cases hv; rfl
    · unfold Mem.setP at hv
      obtain ⟨t, ht⟩ := Mem.getP_top hn
      simp only [ht, Mem.set] at hv
      split at hv
      · cases hv
        exact setP_own (h.top o t ht)
      · exact h.top o' v hv
  · intro o1 q1 o2 q2 g e1 c1 es1 e2 c2 es2 h1 h2
    rcases keyo _ _ _ _ _ _ h1 with ⟨a1, b1⟩ | ⟨a1, k1, x1, b1⟩ <;> rcases keyo _ _ _ _ _ _ h2 with ⟨a2, b2⟩ | ⟨a2, k2, x2, b2⟩
    · obtain ⟨_, hq⟩ := h.inj _ _ _ _ _ _ _ _ _ _ _ b1 b2
      have := List.append_cancel_left hq
      simp only [List.cons.injEq, true_and] at this
      exact ⟨a1.trans a2.symm, this⟩
    · obtain ⟨ho, hq⟩ := h.inj _ _ _ _ _ _ _ _ _ _ _ b1 b2
      exact absurd ⟨ho.symm, _, hq.symm⟩ k2
    · obtain ⟨ho, hq⟩ := h.inj _ _ _ _ _ _ _ _ _ _ _ b1 b2
      exact absurd ⟨ho, _, hq⟩ k1
    · exact h.inj _ _ _ _ _ _ _ _ _ _ _ b1 b2
  · rintro g ⟨o', p, e', cap', es', hp⟩
    rcases keyo _ _ _ _ _ _ hp with ⟨_, h1⟩ | ⟨_, _, es0, h1⟩
    · exact ⟨_, _, _, _, _, h1⟩
    · exact ⟨_, _, _, _, _, h1⟩
theorem Sat.lift {c : Code} (o : Nat) (q : Path) (i j n : Nat) {n0 : V} {e : TypeId} {γ : Option Nat} {cap : Nat} {es : List V} (hn : M.getP o q = some n0) (hc : n0.cellAt i j = some (.own e γ cap es)) (hf : M n = none)
    (h : Sat P N c t ((M.setP o q i j (.msl n [] γ es.length cap)).set n (.own e γ cap es)) C) : Sat P N c t M C := by
  intro imm0 w0 M0 imm a w hr
  obtain ⟨h1, h2⟩ := hr.step.inv.lift hn hc hf
  exact h _ _ _ _ _ _ ⟨hr.size, hr.defers, hr.tm, hr.step.mem h1 (fun g hg => hr.step.owns g (h2 g hg))⟩
end
end Go.Proofs.Ytmmipjlogdggiaa
/-! ## All ways, by the reference: handed over, so that who asked may write into them -/
namespace Go.Proofs.Ytmmipjlogdggiaa
open Go.RowKit
set_option linter.unusedSimpArgs false
set_option linter.unusedVariables false
set_option pp.maxSteps 3000

/-- A way as it lies in an object: its rows are its own. -/
structure RowE where
  γ : Option Nat
  c : Nat
  f : List Int
  e : TypeId
  γ' : Option Nat
  c' : Nat
  ws : List RowI
def RowE.V (x : RowE) : V := .agg [.own 3 x.γ x.c (x.f.map (V.int .i64)), .own x.e x.γ' x.c' (x.ws.map RowI.V)]
theorem RowE.V_eq (x : RowE) : x.V = .agg [.own 3 x.γ x.c (x.f.map (V.int .i64)), .own x.e x.γ' x.c' (x.ws.map RowI.V)] := rfl
def RowE.x (x : RowE) : Exe := ⟨x.f, x.ws.map RowI.l⟩
theorem specExecAllO_ok (p : Prog) (hp : p.length < 2 ^ 40) (hok : progOk p = true) (hn : (events p).length ≤ 42) (hF : (compl (scene p).ds (events p).length []).length < 2 ^ 30) (hR : ∀ k : Nat, k < 3 → (rowsR (writersOf (scene p).ds k) (writersOf (scene p).ds k).length []).length < 2 ^ 20) (hB : ∀ k, k ≤ 3 → (ordersSK (scene p).ds k).length < 2 ^ 30)
    (hP : (compl (scene p).ds (events p).length []).length * (ordersSK (scene p).ds 3).length < 2 ^ 30) (hrows : ∀ o ∈ ordersSK (scene p).ds 3, ∀ row ∈ o, row.length < 2 ^ 20) : Fc Try.prog 36 [progV p] noM
    (fun r m => ∃ (γ : Option Nat) (cap : Nat) (e : TypeId) (es : List RowE), es.map RowE.x = allS p ∧ (∀ x ∈ es, x.γ' = none ∨ x.e = 26) ∧ (γ = none ∨ e = 29) ∧ r = .msl 100 [] γ es.length cap ∧ m = noM.set 100 (.own e γ cap (es.map RowE.V))) := by
  have hsl : (scene p).ds.length = (events p).length := by simp [scene]
  have hev := specExecEvents_fn p hp
  rw [hok, if_pos rfl] at hev
  refine Fc.rekey (R' := fun r m => ∃ (γ : Option Nat) (cap : Nat) (e : TypeId) (es : List RowE), es.map RowE.x = allS p ∧ (∀ x ∈ es, x.γ' = none ∨ x.e = 26) ∧ (γ = none ∨ e = 29) ∧ r = .msl 2 [] γ es.length cap ∧ m = noM.set 2 (.own e γ cap (es.map RowE.V))) ?_ ?_
  rotate_left
  · rintro r m ⟨γ, cap, e, es, h1, h2, h3, rfl, rfl⟩
    exact .inr ⟨2, γ, es.length, cap, _, rfl, by simp [Mem.set], γ, cap, e, es, h1, h2, h3, rfl, era_set rfl⟩
  refine Fc.start (S := [20]) Try.func36 Try.ntmps36 Try.results36 rfl (by decide) rfl (by kernel_rfl) ?_
  simp (maxSteps := 1000000) (disch := omega) only [push_cast, go_sem, wpS_tt, wpS_tf, wpS_ft, wpS_ff, wpCond_tt, wpCond_ff, Nat.reducePow, Int.reduceEq, Int.reduceLT, Int.reduceLE, Int.reduceAdd, Int.reduceSub, Int.reduceMul, Int.reduceToNat, Int.reduceBEq, Int.reduceBNe, ↓reduceIte, reduceCtorEq, Nat.reduceEqDiff, Nat.reduceAdd, Nat.reduceMul, Nat.reduceLT, Nat.reduceLeDiff, Nat.reduceSub, Nat.reduceDiv, Nat.reduceBEq, Nat.reduceBneDiff, Nat.reduceBeqDiff, progV_eq]
  intro g1 g2
  refine callR.pure (specProgOk_fn p hp) rfl rfl ?_
  simp (maxSteps := 1000000) (disch := omega) only [push_cast, go_sem, wpS_tt, wpS_tf, wpS_ft, wpS_ff, wpCond_tt, wpCond_ff, Nat.reducePow, Int.reduceEq, Int.reduceLT, Int.reduceLE, Int.reduceAdd, Int.reduceSub, Int.reduceMul, Int.reduceToNat, Int.reduceBEq, Int.reduceBNe, ↓reduceIte, reduceCtorEq, Nat.reduceEqDiff, Nat.reduceAdd, Nat.reduceMul, Nat.reduceLT, Nat.reduceLeDiff, Nat.reduceSub, Nat.reduceDiv, Nat.reduceBEq, Nat.reduceBneDiff, Nat.reduceBeqDiff, hok]
  refine callR.pure hev rfl rfl ?_
  simp (maxSteps := 1000000) (disch := omega) only [push_cast, go_sem, wpS_tt, wpS_tf, wpS_ft, wpS_ff, wpCond_tt, wpCond_ff, Nat.reducePow, Int.reduceEq, Int.reduceLT, Int.reduceLE, Int.reduceAdd, Int.reduceSub, Int.reduceMul, Int.reduceToNat, Int.reduceBEq, Int.reduceBNe, ↓reduceIte, reduceCtorEq, Nat.reduceEqDiff, Nat.reduceAdd, Nat.reduceMul, Nat.reduceLT, Nat.reduceLeDiff, Nat.reduceSub, Nat.reduceDiv, Nat.reduceBEq, Nat.reduceBneDiff, Nat.reduceBeqDiff]
  refine callR.pure (l12Froms0_fn p hn hF) rfl rfl ?_
  simp (maxSteps := 1000000) (disch := omega) only [push_cast, go_sem, wpS_tt, wpS_tf, wpS_ft, wpS_ff, wpCond_tt, wpCond_ff, Nat.reducePow, Int.reduceEq, Int.reduceLT, Int.reduceLE, Int.reduceAdd, Int.reduceSub, Int.reduceMul, Int.reduceToNat, Int.reduceBEq, Int.reduceBNe, ↓reduceIte, reduceCtorEq, Nat.reduceEqDiff, Nat.reduceAdd, Nat.reduceMul, Nat.reduceLT, Nat.reduceLeDiff, Nat.reduceSub, Nat.reduceDiv, Nat.reduceBEq, Nat.reduceBneDiff, Nat.reduceBeqDiff]
  refine callR.pure (l12Orders_fn p hn hR hB) rfl rfl ?_
  simp (maxSteps := 1000000) (disch := omega) only [push_cast, go_sem, wpS_tt, wpS_tf, wpS_ft, wpS_ff, wpCond_tt, wpCond_ff, Nat.reducePow, Int.reduceEq, Int.reduceLT, Int.reduceLE, Int.reduceAdd, Int.reduceSub, Int.reduceMul, Int.reduceToNat, Int.reduceBEq, Int.reduceBNe, ↓reduceIte, reduceCtorEq, Nat.reduceEqDiff, Nat.reduceAdd, Nat.reduceMul, Nat.reduceLT, Nat.reduceLeDiff, Nat.reduceSub, Nat.reduceDiv, Nat.reduceBEq, Nat.reduceBneDiff, Nat.reduceBeqDiff]
  have ho1 : (ordersSK (scene p).ds 3).length < 2 ^ 30 := hB 3 (Nat.le_refl _)
  refine Sat.loop (σ := EvS × List RowE) (fun x => upd (upd (upd (upd (upd (upd noT 1 (.ptr 1 [] 0 0 g1 1)) 4 (.sl ((events p).map Evt.V))) 5 (.sl ((compl (scene p).ds (events p).length []).map intsV))) 6 (.sl ((ordersSK (scene p).ds 3).map rowsV))) 7 (.int .i64 x.1.k)) 3 (.msl 3 [] x.1.γ x.2.length x.1.c)) (fun x => (noM.set 1 (.own 25 (some g1) 1 [.agg [.sl (p.map thrV)]])).set 3 (.own x.1.e x.1.γ x.1.c (x.2.map RowE.V)))
    (fun x => x.1.k ≤ (compl (scene p).ds (events p).length []).length ∧ (x.1.γ = none ∨ x.1.e = 29) ∧ (∀ y ∈ x.2, y.γ' = none ∨ y.e = 26) ∧ x.2.map RowE.x = ((compl (scene p).ds (events p).length []).take x.1.k).flatMap fun f => (ordersSK (scene p).ds 3).flatMap fun o => oneS p f o) (fun x => (compl (scene p).ds (events p).length []).length - x.1.k) (⟨0, 29, some g2, 0⟩, []) (by simp) ?_ ?_
  · (refine Less.start ?_; repeat (first | exact LessO.nil | exact LessO.all | refine LessO.skip (by decide) ?_ | refine LessO.upd ?_ ?_ | refine LessO.set ?_ ?_)) <;> (try simp (maxSteps := 1000000) (disch := omega) only [push_cast, go_sem, wpS_tt, wpS_tf, wpS_ft, wpS_ff, wpCond_tt, wpCond_ff, Nat.reducePow, Int.reduceEq, Int.reduceLT, Int.reduceLE, Int.reduceAdd, Int.reduceSub, Int.reduceMul, Int.reduceToNat, Int.reduceBEq, Int.reduceBNe, ↓reduceIte, reduceCtorEq, Nat.reduceEqDiff, Nat.reduceAdd, Nat.reduceMul, Nat.reduceLT, Nat.reduceLeDiff, Nat.reduceSub, Nat.reduceDiv, Nat.reduceBEq, Nat.reduceBneDiff, Nat.reduceBeqDiff])
    all_goals rfl
  rintro ⟨⟨i, e, γ, c⟩, ys⟩ ⟨hi, hγ, hye, hys⟩ J hJ
  simp only at hi hγ hye hys hJ
  refine Sat.of (S := []) (by kernel_rfl) ?_
  rcases Nat.lt_or_ge i (compl (scene p).ds (events p).length []).length with hlt | hge
  · obtain ⟨f, hf⟩ : ∃ f, (compl (scene p).ds (events p).length [])[i]? = some f := ⟨_, List.getElem?_eq_getElem hlt⟩
    obtain ⟨hfl, hfx⟩ := compl_row (by simp; omega) (by simp) (List.mem_of_getElem? hf)
    rw [hsl] at hfl hfx
    simp (maxSteps := 1000000) (disch := omega) only [push_cast, go_sem, wpS_tt, wpS_tf, wpS_ft, wpS_ff, wpCond_tt, wpCond_ff, Nat.reducePow, Int.reduceEq, Int.reduceLT, Int.reduceLE, Int.reduceAdd, Int.reduceSub, Int.reduceMul, Int.reduceToNat, Int.reduceBEq, Int.reduceBNe, ↓reduceIte, reduceCtorEq, Nat.reduceEqDiff, Nat.reduceAdd, Nat.reduceMul, Nat.reduceLT, Nat.reduceLeDiff, Nat.reduceSub, Nat.reduceDiv, Nat.reduceBEq, Nat.reduceBneDiff, Nat.reduceBeqDiff, hlt]
    refine Sat.loop (σ := EvS × List RowE) (fun x => upd (upd (upd (upd (upd (upd (upd noT 1 (.ptr 1 [] 0 0 g1 1)) 4 (.sl ((events p).map Evt.V))) 5 (.sl ((compl (scene p).ds (events p).length []).map intsV))) 6 (.sl ((ordersSK (scene p).ds 3).map rowsV))) 7 (.int .i64 i)) 8 (.int .i64 x.1.k)) 3 (.msl 3 [] x.1.γ x.2.length x.1.c)) (fun x => (noM.set 1 (.own 25 (some g1) 1 [.agg [.sl (p.map thrV)]])).set 3 (.own x.1.e x.1.γ x.1.c (x.2.map RowE.V)))
      (fun x => x.1.k ≤ (ordersSK (scene p).ds 3).length ∧ (x.1.γ = none ∨ x.1.e = 29) ∧ (∀ y ∈ x.2, y.γ' = none ∨ y.e = 26) ∧ x.2.map RowE.x = (((compl (scene p).ds (events p).length []).take i).flatMap fun f => (ordersSK (scene p).ds 3).flatMap fun o => oneS p f o) ++ ((ordersSK (scene p).ds 3).take x.1.k).flatMap fun o => oneS p f o) (fun x => (ordersSK (scene p).ds 3).length - x.1.k) (⟨0, e, γ, c⟩, ys) (by simp [hγ, hys]; exact hye) ?_ ?_
    · (refine Less.start ?_; repeat (first | exact LessO.nil | exact LessO.all | refine LessO.skip (by decide) ?_ | refine LessO.upd ?_ ?_ | refine LessO.set ?_ ?_)) <;> (try simp (maxSteps := 1000000) (disch := omega) only [push_cast, go_sem, wpS_tt, wpS_tf, wpS_ft, wpS_ff, wpCond_tt, wpCond_ff, Nat.reducePow, Int.reduceEq, Int.reduceLT, Int.reduceLE, Int.reduceAdd, Int.reduceSub, Int.reduceMul, Int.reduceToNat, Int.reduceBEq, Int.reduceBNe, ↓reduceIte, reduceCtorEq, Nat.reduceEqDiff, Nat.reduceAdd, Nat.reduceMul, Nat.reduceLT, Nat.reduceLeDiff, Nat.reduceSub, Nat.reduceDiv, Nat.reduceBEq, Nat.reduceBneDiff, Nat.reduceBeqDiff])
    rintro ⟨⟨j, e2, γ2, c2⟩, zs⟩ ⟨hj, hγ2, hze, hzs⟩ J2 hJ2
    simp only at hj hγ2 hze hzs hJ2
    refine Sat.of (S := [18]) (by kernel_rfl) ?_
    rcases Nat.lt_or_ge j (ordersSK (scene p).ds 3).length with hlt2 | hge2
    · obtain ⟨o, ho⟩ : ∃ o, (ordersSK (scene p).ds 3)[j]? = some o := ⟨_, List.getElem?_eq_getElem hlt2⟩
      have hol : o.length = 3 := ordersSK_row (List.mem_of_getElem? ho)
      simp (maxSteps := 1000000) (disch := omega) only [push_cast, go_sem, wpS_tt, wpS_tf, wpS_ft, wpS_ff, wpCond_tt, wpCond_ff, Nat.reducePow, Int.reduceEq, Int.reduceLT, Int.reduceLE, Int.reduceAdd, Int.reduceSub, Int.reduceMul, Int.reduceToNat, Int.reduceBEq, Int.reduceBNe, ↓reduceIte, reduceCtorEq, Nat.reduceEqDiff, Nat.reduceAdd, Nat.reduceMul, Nat.reduceLT, Nat.reduceLeDiff, Nat.reduceSub, Nat.reduceDiv, Nat.reduceBEq, Nat.reduceBneDiff, Nat.reduceBeqDiff, hf, hlt, ho, hlt2, intsV_eq, rowsV_eq]
      intro g4
      refine ⟨by omega, fun γ3 c3 _ => ?_⟩
      intro g3
      refine Sat.loop (σ := EvS × List RowI) (fun x => upd (upd (upd (upd (upd (upd (upd (upd (upd noT 1 (.ptr 1 [] 0 0 g1 1)) 4 (.sl ((events p).map Evt.V))) 5 (.sl ((compl (scene p).ds (events p).length []).map intsV))) 6 (.sl ((ordersSK (scene p).ds 3).map rowsV))) 7 (.int .i64 i)) 8 (.int .i64 j)) 3 (.msl 3 [] γ2 zs.length c2)) 9 (.ptr 9 [] 0 0 g3 2)) 10 (.int .i64 x.1.k)) (fun x => ((noM.set 1 (.own 25 (some g1) 1 [.agg [.sl (p.map thrV)]])).set 3 (.own e2 γ2 c2 (zs.map RowE.V))).set 9 (.own 29 (some g3) 1 [.agg [.own 3 γ3 c3 (f.map (V.int .i64)), .own x.1.e x.1.γ x.1.c (x.2.map RowI.V)]]))
        (fun x => x.1.k ≤ o.length ∧ (x.1.γ = none ∨ x.1.e = 26) ∧ x.2.map RowI.l = o.take x.1.k) (fun x => o.length - x.1.k) (⟨0, 0, none, 0⟩, []) (by simp) ?_ ?_
      · (refine Less.start ?_; repeat (first | exact LessO.nil | exact LessO.all | refine LessO.skip (by decide) ?_ | refine LessO.upd ?_ ?_ | refine LessO.set ?_ ?_)) <;> (try simp (maxSteps := 1000000) (disch := omega) only [push_cast, go_sem, wpS_tt, wpS_tf, wpS_ft, wpS_ff, wpCond_tt, wpCond_ff, Nat.reducePow, Int.reduceEq, Int.reduceLT, Int.reduceLE, Int.reduceAdd, Int.reduceSub, Int.reduceMul, Int.reduceToNat, Int.reduceBEq, Int.reduceBNe, ↓reduceIte, reduceCtorEq, Nat.reduceEqDiff, Nat.reduceAdd, Nat.reduceMul, Nat.reduceLT, Nat.reduceLeDiff, Nat.reduceSub, Nat.reduceDiv, Nat.reduceBEq, Nat.reduceBneDiff, Nat.reduceBeqDiff])
        all_goals rfl
      rintro ⟨⟨m, e4, γ4, c4⟩, ws⟩ ⟨hm, hγ4, hws⟩ J3 hJ3
      simp only at hm hγ4 hws hJ3
      refine Sat.of (S := []) (by kernel_rfl) ?_
      rcases Nat.lt_or_ge m o.length with hlt3 | hge3
      · obtain ⟨row, hr⟩ : ∃ row, o[m]? = some row := ⟨_, List.getElem?_eq_getElem hlt3⟩
        have hrl := hrows o (List.mem_of_getElem? ho) row (List.mem_of_getElem? hr)
        have hwl : ws.length = m := by have := congrArg List.length hws; rw [List.length_map, List.length_take, Nat.min_eq_left hm] at this; exact this
        have hγ4' : (γ4 = none ∨ e4 = 26) = True := by simp only [hγ4]
        simp (maxSteps := 1000000) (disch := omega) only [push_cast, go_sem, wpS_tt, wpS_tf, wpS_ft, wpS_ff, wpCond_tt, wpCond_ff, Nat.reducePow, Int.reduceEq, Int.reduceLT, Int.reduceLE, Int.reduceAdd, Int.reduceSub, Int.reduceMul, Int.reduceToNat, Int.reduceBEq, Int.reduceBNe, ↓reduceIte, reduceCtorEq, Nat.reduceEqDiff, Nat.reduceAdd, Nat.reduceMul, Nat.reduceLT, Nat.reduceLeDiff, Nat.reduceSub, Nat.reduceDiv, Nat.reduceBEq, Nat.reduceBneDiff, Nat.reduceBeqDiff, ho, hlt2, hr, hlt3, rowsV_eq, intsV_eq]
        refine Sat.drawnE [(1, 2), (1, 6), (2, 6), (1, 9), (2, 9), (1, 10), (1, 11)] [] [] (fun _ _ _ => none) (by kernel_rfl) (by kernel_rfl) ?_
        simp (maxSteps := 1000000) (disch := omega) only [push_cast, go_sem, wpS_tt, wpS_tf, wpS_ft, wpS_ff, wpCond_tt, wpCond_ff, Nat.reducePow, Int.reduceEq, Int.reduceLT, Int.reduceLE, Int.reduceAdd, Int.reduceSub, Int.reduceMul, Int.reduceToNat, Int.reduceBEq, Int.reduceBNe, ↓reduceIte, reduceCtorEq, Nat.reduceEqDiff, Nat.reduceAdd, Nat.reduceMul, Nat.reduceLT, Nat.reduceLeDiff, Nat.reduceSub, Nat.reduceDiv, Nat.reduceBEq, Nat.reduceBneDiff, Nat.reduceBeqDiff, ho, hlt2, hr, hlt3, rowsV_eq, intsV_eq]
        intro g5
        refine ⟨by omega, fun γ5 c5 _ => ?_⟩
        intro g6
        cases hfl : (V.own 3 γ5 c5 (row.map (V.int .i64))).flatC <;> simp (maxSteps := 1000000) (disch := omega) only [push_cast, go_sem, wpS_tt, wpS_tf, wpS_ft, wpS_ff, wpCond_tt, wpCond_ff, Nat.reducePow, Int.reduceEq, Int.reduceLT, Int.reduceLE, Int.reduceAdd, Int.reduceSub, Int.reduceMul, Int.reduceToNat, Int.reduceBEq, Int.reduceBNe, ↓reduceIte, reduceCtorEq, Nat.reduceEqDiff, Nat.reduceAdd, Nat.reduceMul, Nat.reduceLT, Nat.reduceLeDiff, Nat.reduceSub, Nat.reduceDiv, Nat.reduceBEq, Nat.reduceBneDiff, Nat.reduceBeqDiff, hγ4', hfl]
        all_goals
          refine ⟨by omega, fun γ6 c6 _ => ?_⟩
          refine hJ3 (⟨m + 1, 26, γ6, c6⟩, ws ++ [⟨γ5, c5, row⟩]) _ _ ⟨by dsimp only; omega, .inr rfl, ?_⟩ (by dsimp only; omega) ?_
          · dsimp only
            rw [List.map_append, hws, take_get hr]
            rfl
          · (refine Less.start ?_; repeat (first | exact LessO.nil | exact LessO.all | refine LessO.skip (by decide) ?_ | refine LessO.upd ?_ ?_ | refine LessO.set ?_ ?_)) <;> (try simp (maxSteps := 1000000) (disch := omega) only [push_cast, go_sem, wpS_tt, wpS_tf, wpS_ft, wpS_ff, wpCond_tt, wpCond_ff, Nat.reducePow, Int.reduceEq, Int.reduceLT, Int.reduceLE, Int.reduceAdd, Int.reduceSub, Int.reduceMul, Int.reduceToNat, Int.reduceBEq, Int.reduceBNe, ↓reduceIte, reduceCtorEq, Nat.reduceEqDiff, Nat.reduceAdd, Nat.reduceMul, Nat.reduceLT, Nat.reduceLeDiff, Nat.reduceSub, Nat.reduceDiv, Nat.reduceBEq, Nat.reduceBneDiff, Nat.reduceBeqDiff])
            all_goals simp [RowI.V]
      · have : m = o.length := by omega
        subst this
        rw [List.take_length] at hws
        simp (maxSteps := 1000000) (disch := omega) only [push_cast, go_sem, wpS_tt, wpS_tf, wpS_ft, wpS_ff, wpCond_tt, wpCond_ff, Nat.reducePow, Int.reduceEq, Int.reduceLT, Int.reduceLE, Int.reduceAdd, Int.reduceSub, Int.reduceMul, Int.reduceToNat, Int.reduceBEq, Int.reduceBNe, ↓reduceIte, reduceCtorEq, Nat.reduceEqDiff, Nat.reduceAdd, Nat.reduceMul, Nat.reduceLT, Nat.reduceLeDiff, Nat.reduceSub, Nat.reduceDiv, Nat.reduceBEq, Nat.reduceBneDiff, Nat.reduceBeqDiff, ho, hlt2, rowsV_eq]
        refine Sat.look (upd (upd (upd noT 1 (.eptr [.sl (p.map thrV)])) 4 (.sl ((events p).map Evt.V))) 9 (.eptr [.sl (f.map (V.int .i64)), .sl (o.map intsV)]))
          (upd (upd (upd (upd (upd (upd (upd (upd noT 1 (.ptr 1 [] 0 0 g1 1)) 4 (.sl ((events p).map Evt.V))) 5 (.sl ((compl (scene p).ds (events p).length []).map intsV))) 6 (.sl ((ordersSK (scene p).ds 3).map rowsV))) 7 (.int .i64 i)) 8 (.int .i64 j)) 3 (.msl 3 [] γ2 zs.length c2)) 9 (.ptr 9 [] 0 0 g3 2))
          69 (endsS p ⟨f, o⟩) ?_ (by kernel_rfl) ?_ ?_ ?_
        · refine Pk.ptr (Pk.upd (Pk.ptr Pk.nil rfl rfl rfl (by kernel_rfl) ?_) rfl) rfl rfl rfl (by kernel_rfl) ?_
          · rfl
          · simp only [V.cells, List.drop_zero, List.map_cons, List.map_nil, V.fz, fzs_map, fzs_int, fz_rowsI, hws]
        · simp (maxSteps := 1000000) (disch := omega) only [push_cast, go_sem, wpS_tt, wpS_tf, wpS_ft, wpS_ff, wpCond_tt, wpCond_ff, Nat.reducePow, Int.reduceEq, Int.reduceLT, Int.reduceLE, Int.reduceAdd, Int.reduceSub, Int.reduceMul, Int.reduceToNat, Int.reduceBEq, Int.reduceBNe, ↓reduceIte, reduceCtorEq, Nat.reduceEqDiff, Nat.reduceAdd, Nat.reduceMul, Nat.reduceLT, Nat.reduceLeDiff, Nat.reduceSub, Nat.reduceDiv, Nat.reduceBEq, Nat.reduceBneDiff, Nat.reduceBeqDiff, Exe.V_eq]
          refine callR.pure (l12Ends_fn p ⟨f, o⟩ hn hfl hfx) rfl rfl ?_
          simp (maxSteps := 1000000) (disch := omega) only [push_cast, go_sem, wpS_tt, wpS_tf, wpS_ft, wpS_ff, wpCond_tt, wpCond_ff, Nat.reducePow, Int.reduceEq, Int.reduceLT, Int.reduceLE, Int.reduceAdd, Int.reduceSub, Int.reduceMul, Int.reduceToNat, Int.reduceBEq, Int.reduceBNe, ↓reduceIte, reduceCtorEq, Nat.reduceEqDiff, Nat.reduceAdd, Nat.reduceMul, Nat.reduceLT, Nat.reduceLeDiff, Nat.reduceSub, Nat.reduceDiv, Nat.reduceBEq, Nat.reduceBneDiff, Nat.reduceBeqDiff]
        · exact Keep.upd (Keep.upd (Keep.upd (Keep.upd (Keep.upd (Keep.upd (Keep.upd (Keep.upd Keep.nil rfl rfl) rfl rfl) rfl rfl) rfl rfl) rfl rfl) rfl rfl) rfl rfl) rfl rfl
        refine Sat.lift 9 [] 0 0 200 (n0 := .own 29 (some g3) 1 [.agg [.own 3 γ3 c3 (f.map (V.int .i64)), .own e4 γ4 c4 (ws.map RowI.V)]]) rfl rfl rfl ?_
        refine Sat.lift 9 [] 0 1 201 (n0 := .own 29 (some g3) 1 [.agg [.msl 200 [] γ3 (f.map (V.int .i64)).length c3, .own e4 γ4 c4 (ws.map RowI.V)]]) rfl rfl rfl ?_
        refine Sat.of (S := []) (by kernel_rfl) ?_
        cases hend : endsS p ⟨f, o⟩
        · simp (maxSteps := 1000000) (disch := omega) only [push_cast, go_sem, wpS_tt, wpS_tf, wpS_ft, wpS_ff, wpCond_tt, wpCond_ff, Nat.reducePow, Int.reduceEq, Int.reduceLT, Int.reduceLE, Int.reduceAdd, Int.reduceSub, Int.reduceMul, Int.reduceToNat, Int.reduceBEq, Int.reduceBNe, ↓reduceIte, reduceCtorEq, Nat.reduceEqDiff, Nat.reduceAdd, Nat.reduceMul, Nat.reduceLT, Nat.reduceLeDiff, Nat.reduceSub, Nat.reduceDiv, Nat.reduceBEq, Nat.reduceBneDiff, Nat.reduceBeqDiff]
          refine hJ2 (⟨j + 1, e2, γ2, c2⟩, zs) _ _ ⟨by dsimp only; omega, hγ2, hze, ?_⟩ (by dsimp only; omega) ?_
          · dsimp only
            rw [hzs, take_get ho, List.flatMap_append]
            simp [oneS, hend]
          · (refine Less.start ?_; repeat (first | exact LessO.nil | exact LessO.all | refine LessO.skip (by decide) ?_ | refine LessO.upd ?_ ?_ | refine LessO.set ?_ ?_)) <;> (try simp (maxSteps := 1000000) (disch := omega) only [push_cast, go_sem, wpS_tt, wpS_tf, wpS_ft, wpS_ff, wpCond_tt, wpCond_ff, Nat.reducePow, Int.reduceEq, Int.reduceLT, Int.reduceLE, Int.reduceAdd, Int.reduceSub, Int.reduceMul, Int.reduceToNat, Int.reduceBEq, Int.reduceBNe, ↓reduceIte, reduceCtorEq, Nat.reduceEqDiff, Nat.reduceAdd, Nat.reduceMul, Nat.reduceLT, Nat.reduceLeDiff, Nat.reduceSub, Nat.reduceDiv, Nat.reduceBEq, Nat.reduceBneDiff, Nat.reduceBeqDiff])
        · have hγ2' : (γ2 = none ∨ e2 = 29) = True := by simp only [hγ2]
          have hzb : zs.length ≤ i * (ordersSK (scene p).ds 3).length + j := by
            have hzl := congrArg List.length hzs
            rw [List.length_map, List.length_append] at hzl
            rw [hzl]
            have k1 := flatMap_le (f := fun f => (ordersSK (scene p).ds 3).flatMap fun o => oneS p f o) (n := (ordersSK (scene p).ds 3).length) (fun f => by have := flatMap_le (oneS_le p f) (ordersSK (scene p).ds 3); rw [Nat.mul_one] at this; exact this) ((compl (scene p).ds (events p).length []).take i)
            have k2 := flatMap_le (oneS_le p f) ((ordersSK (scene p).ds 3).take j)
            rw [List.length_take, Nat.min_eq_left hi] at k1
            rw [List.length_take, Nat.min_eq_left hj, Nat.mul_one] at k2
            exact Nat.add_le_add k1 k2
          have hm1 : (i + 1) * (ordersSK (scene p).ds 3).length ≤ (compl (scene p).ds (events p).length []).length * (ordersSK (scene p).ds 3).length := Nat.mul_le_mul_right _ (by omega)
          rw [Nat.succ_mul] at hm1
          have hzc : zs.length + 1 < 2 ^ 30 + 1 := by generalize i * (ordersSK (scene p).ds 3).length = A at *; generalize (compl (scene p).ds (events p).length []).length * (ordersSK (scene p).ds 3).length = B at *; omega
          simp (maxSteps := 1000000) (disch := omega) only [push_cast, go_sem, wpS_tt, wpS_tf, wpS_ft, wpS_ff, wpCond_tt, wpCond_ff, Nat.reducePow, Int.reduceEq, Int.reduceLT, Int.reduceLE, Int.reduceAdd, Int.reduceSub, Int.reduceMul, Int.reduceToNat, Int.reduceBEq, Int.reduceBNe, ↓reduceIte, reduceCtorEq, Nat.reduceEqDiff, Nat.reduceAdd, Nat.reduceMul, Nat.reduceLT, Nat.reduceLeDiff, Nat.reduceSub, Nat.reduceDiv, Nat.reduceBEq, Nat.reduceBneDiff, Nat.reduceBeqDiff, hγ2']
          intro g5
          cases hfl : ((V.own 3 γ3 c3 (f.map (V.int .i64))).flatC && (V.own e4 γ4 c4 (ws.map RowI.V)).flatC) <;> simp (maxSteps := 1000000) (disch := omega) only [push_cast, go_sem, wpS_tt, wpS_tf, wpS_ft, wpS_ff, wpCond_tt, wpCond_ff, Nat.reducePow, Int.reduceEq, Int.reduceLT, Int.reduceLE, Int.reduceAdd, Int.reduceSub, Int.reduceMul, Int.reduceToNat, Int.reduceBEq, Int.reduceBNe, ↓reduceIte, reduceCtorEq, Nat.reduceEqDiff, Nat.reduceAdd, Nat.reduceMul, Nat.reduceLT, Nat.reduceLeDiff, Nat.reduceSub, Nat.reduceDiv, Nat.reduceBEq, Nat.reduceBneDiff, Nat.reduceBeqDiff, hfl]
          all_goals
            refine ⟨by omega, fun γ5 c5 _ => ?_⟩
            refine hJ2 (⟨j + 1, 29, γ5, c5⟩, zs ++ [⟨γ3, c3, f, e4, γ4, c4, ws⟩]) _ _ ⟨by dsimp only; omega, .inr rfl, ?_, ?_⟩ (by dsimp only; omega) ?_
            · intro y hy
              rcases List.mem_append.1 hy with hy | hy
              · exact hze y hy
              · obtain rfl := List.mem_singleton.1 hy; exact hγ4
            · dsimp only
              rw [List.map_append, hzs, take_get ho, List.flatMap_append, List.append_assoc]
              simp [oneS, hend, RowE.x, hws]
            · (refine Less.start ?_; repeat (first | exact LessO.nil | exact LessO.all | refine LessO.skip (by decide) ?_ | refine LessO.upd ?_ ?_ | refine LessO.set ?_ ?_)) <;> (try simp (maxSteps := 1000000) (disch := omega) only [push_cast, go_sem, wpS_tt, wpS_tf, wpS_ft, wpS_ff, wpCond_tt, wpCond_ff, Nat.reducePow, Int.reduceEq, Int.reduceLT, Int.reduceLE, Int.reduceAdd, Int.reduceSub, Int.reduceMul, Int.reduceToNat, Int.reduceBEq, Int.reduceBNe, ↓reduceIte, reduceCtorEq, Nat.reduceEqDiff, Nat.reduceAdd, Nat.reduceMul, Nat.reduceLT, Nat.reduceLeDiff, Nat.reduceSub, Nat.reduceDiv, Nat.reduceBEq, Nat.reduceBneDiff, Nat.reduceBeqDiff])
              all_goals simp [RowE.V]
    · have : j = (ordersSK (scene p).ds 3).length := by omega
      subst this
      simp (maxSteps := 1000000) (disch := omega) only [push_cast, go_sem, wpS_tt, wpS_tf, wpS_ft, wpS_ff, wpCond_tt, wpCond_ff, Nat.reducePow, Int.reduceEq, Int.reduceLT, Int.reduceLE, Int.reduceAdd, Int.reduceSub, Int.reduceMul, Int.reduceToNat, Int.reduceBEq, Int.reduceBNe, ↓reduceIte, reduceCtorEq, Nat.reduceEqDiff, Nat.reduceAdd, Nat.reduceMul, Nat.reduceLT, Nat.reduceLeDiff, Nat.reduceSub, Nat.reduceDiv, Nat.reduceBEq, Nat.reduceBneDiff, Nat.reduceBeqDiff]
      refine hJ (⟨i + 1, e2, γ2, c2⟩, zs) _ _ ⟨by dsimp only; omega, hγ2, hze, ?_⟩ (by dsimp only; omega) ?_
      · dsimp only
        rw [hzs, List.take_length, take_get hf, List.flatMap_append]
        simp
      · (refine Less.start ?_; repeat (first | exact LessO.nil | exact LessO.all | refine LessO.skip (by decide) ?_ | refine LessO.upd ?_ ?_ | refine LessO.set ?_ ?_)) <;> (try simp (maxSteps := 1000000) (disch := omega) only [push_cast, go_sem, wpS_tt, wpS_tf, wpS_ft, wpS_ff, wpCond_tt, wpCond_ff, Nat.reducePow, Int.reduceEq, Int.reduceLT, Int.reduceLE, Int.reduceAdd, Int.reduceSub, Int.reduceMul, Int.reduceToNat, Int.reduceBEq, Int.reduceBNe, ↓reduceIte, reduceCtorEq, Nat.reduceEqDiff, Nat.reduceAdd, Nat.reduceMul, Nat.reduceLT, Nat.reduceLeDiff, Nat.reduceSub, Nat.reduceDiv, Nat.reduceBEq, Nat.reduceBneDiff, Nat.reduceBeqDiff])
  · have : i = (compl (scene p).ds (events p).length []).length := by omega
    subst this
    rw [List.take_length] at hys
    simp (maxSteps := 1000000) (disch := omega) only [push_cast, go_sem, wpS_tt, wpS_tf, wpS_ft, wpS_ff, wpCond_tt, wpCond_ff, Nat.reducePow, Int.reduceEq, Int.reduceLT, Int.reduceLE, Int.reduceAdd, Int.reduceSub, Int.reduceMul, Int.reduceToNat, Int.reduceBEq, Int.reduceBNe, ↓reduceIte, reduceCtorEq, Nat.reduceEqDiff, Nat.reduceAdd, Nat.reduceMul, Nat.reduceLT, Nat.reduceLeDiff, Nat.reduceSub, Nat.reduceDiv, Nat.reduceBEq, Nat.reduceBneDiff, Nat.reduceBeqDiff]
    refine Sat.of (S := []) (by kernel_rfl) ?_
    simp (maxSteps := 1000000) (disch := omega) only [push_cast, go_sem, wpS_tt, wpS_tf, wpS_ft, wpS_ff, wpCond_tt, wpCond_ff, Nat.reducePow, Int.reduceEq, Int.reduceLT, Int.reduceLE, Int.reduceAdd, Int.reduceSub, Int.reduceMul, Int.reduceToNat, Int.reduceBEq, Int.reduceBNe, ↓reduceIte, reduceCtorEq, Nat.reduceEqDiff, Nat.reduceAdd, Nat.reduceMul, Nat.reduceLT, Nat.reduceLeDiff, Nat.reduceSub, Nat.reduceDiv, Nat.reduceBEq, Nat.reduceBneDiff, Nat.reduceBeqDiff]
    refine ⟨_, ?_, γ, c, e, ys, hys, hye, hγ, rfl, rfl⟩
    ((repeat (first | exact Sub.no | refine Sub.set ?_ ?_)) <;> (try simp (disch := omega) only [push_cast, go_sem, wpS_tt, wpS_tf, wpS_ft, wpS_ff, wpCond_tt, wpCond_ff, Nat.reducePow, Int.reduceEq, Int.reduceLT, Int.reduceLE, Int.reduceAdd, Int.reduceSub, Int.reduceMul, Int.reduceToNat, Int.reduceBEq, Int.reduceBNe, ↓reduceIte, reduceCtorEq, Nat.reduceEqDiff, Nat.reduceAdd, Nat.reduceMul, Nat.reduceLT, Nat.reduceLeDiff, Nat.reduceSub, Nat.reduceDiv, Nat.reduceBEq, Nat.reduceBneDiff, Nat.reduceBeqDiff]))
theorem specExecAllO_fn (p : Prog) (hp : p.length < 2 ^ 40) : Fc Try.prog 36 [progV p] noM
    (fun r m => ∃ (γ : Option Nat) (cap : Nat) (e : TypeId) (es : List RowE), es.map RowE.x = specAll p ∧ (∀ x ∈ es, x.γ' = none ∨ x.e = 26) ∧ (γ = none ∨ e = 29) ∧ r = .msl 100 [] γ es.length cap ∧ m = noM.set 100 (.own e γ cap (es.map RowE.V))) := by
  cases hok : progOk p
  · refine Fc.rekey (R' := fun r m => ∃ γ cap, r = .msl 2 [] γ 0 cap ∧ m = noM.set 2 (.own 29 γ cap [])) ?_ ?_
    rotate_left
    · rintro r m ⟨γ, cap, rfl, rfl⟩
      exact .inr ⟨2, γ, 0, cap, _, rfl, by simp [Mem.set], γ, cap, 29, [], by simp [specAll, hok], by simp, .inr rfl, rfl, era_set rfl⟩
    refine Fc.start (S := []) Try.func36 Try.ntmps36 Try.results36 rfl (by decide) rfl (by kernel_rfl) ?_
    simp (maxSteps := 1000000) (disch := omega) only [push_cast, go_sem, wpS_tt, wpS_tf, wpS_ft, wpS_ff, wpCond_tt, wpCond_ff, Nat.reducePow, Int.reduceEq, Int.reduceLT, Int.reduceLE, Int.reduceAdd, Int.reduceSub, Int.reduceMul, Int.reduceToNat, Int.reduceBEq, Int.reduceBNe, ↓reduceIte, reduceCtorEq, Nat.reduceEqDiff, Nat.reduceAdd, Nat.reduceMul, Nat.reduceLT, Nat.reduceLeDiff, Nat.reduceSub, Nat.reduceDiv, Nat.reduceBEq, Nat.reduceBneDiff, Nat.reduceBeqDiff, progV_eq]
    intro g1 g2
    refine callR.pure (specProgOk_fn p hp) rfl rfl ?_
    simp (maxSteps := 1000000) (disch := omega) only [push_cast, go_sem, wpS_tt, wpS_tf, wpS_ft, wpS_ff, wpCond_tt, wpCond_ff, Nat.reducePow, Int.reduceEq, Int.reduceLT, Int.reduceLE, Int.reduceAdd, Int.reduceSub, Int.reduceMul, Int.reduceToNat, Int.reduceBEq, Int.reduceBNe, ↓reduceIte, reduceCtorEq, Nat.reduceEqDiff, Nat.reduceAdd, Nat.reduceMul, Nat.reduceLT, Nat.reduceLeDiff, Nat.reduceSub, Nat.reduceDiv, Nat.reduceBEq, Nat.reduceBneDiff, Nat.reduceBeqDiff, hok]
    refine ⟨_, ?_, some g2, 0, rfl, rfl⟩
    ((repeat (first | exact Sub.no | refine Sub.set ?_ ?_)) <;> (try simp (disch := omega) only [push_cast, go_sem, wpS_tt, wpS_tf, wpS_ft, wpS_ff, wpCond_tt, wpCond_ff, Nat.reducePow, Int.reduceEq, Int.reduceLT, Int.reduceLE, Int.reduceAdd, Int.reduceSub, Int.reduceMul, Int.reduceToNat, Int.reduceBEq, Int.reduceBNe, ↓reduceIte, reduceCtorEq, Nat.reduceEqDiff, Nat.reduceAdd, Nat.reduceMul, Nat.reduceLT, Nat.reduceLeDiff, Nat.reduceSub, Nat.reduceDiv, Nat.reduceBEq, Nat.reduceBneDiff, Nat.reduceBeqDiff]))
  · have hel := events_le hok
    have hus := scene_uses hok
    have hsl : (scene p).ds.length = (events p).length := by simp [scene]
    have hc := compl_le hus
    rw [hsl] at hc
    have := specExecAllO_ok p hp hok hel (by omega) (fun k hk => by
      rw [rowsW_len]
      have := fac_le (wrN_any hus k)
      omega) (fun k hk => by have := ordersS_le hus k hk; omega) (Nat.lt_of_le_of_lt (Nat.mul_le_mul hc (ordersS_le hus 3 (Nat.le_refl _))) (by decide)) (fun o ho row hr => by have := ordersS_in ho hr; omega)
    rw [specAll, hok, if_pos rfl]
    exact this
/-- What is put among all is small. -/
theorem specAll_small {p : Prog} {y : Exe} (h : y ∈ specAll p) : y.fr.length ≤ 42 ∧ y.od.length = 3 ∧ ∀ r ∈ y.od, r.length ≤ 42 := by
  unfold specAll at h
  cases hok : progOk p
  · rw [hok] at h; cases h
  rw [hok, if_pos rfl] at h
  have hel := events_le hok
  have hsl : (scene p).ds.length = (events p).length := by simp [scene]
  simp only [allS, List.mem_flatMap] at h
  obtain ⟨f, hf, o, ho, h⟩ := h
  unfold oneS at h
  split at h
  · simp at h; subst h
    have h1 := (compl_row (by simp; omega) (by simp) hf).1
    have h2 := ordersSK_row ho
    exact ⟨by dsimp only; omega, h2, fun r hr => by have := ordersS_in ho hr; omega⟩
  · cases h
theorem specAll_le (p : Prog) : (specAll p).length < 2 ^ 30 := by
  unfold specAll
  cases hok : progOk p
  · simp
  have hus := scene_uses hok
  have hsl : (scene p).ds.length = (events p).length := by simp [scene]
  have hc := compl_le hus
  rw [hsl] at hc
  rw [if_pos rfl]
  have k1 := flatMap_le (f := fun f => (ordersSK (scene p).ds 3).flatMap fun o => oneS p f o) (n := (ordersSK (scene p).ds 3).length) (fun f => by have := flatMap_le (oneS_le p f) (ordersSK (scene p).ds 3); rw [Nat.mul_one] at this; exact this) (compl (scene p).ds (events p).length [])
  exact Nat.lt_of_le_of_lt k1 (Nat.lt_of_le_of_lt (Nat.mul_le_mul hc (ordersS_le hus 3 (Nat.le_refl _))) (by decide))
end Go.Proofs.Ytmmipjlogdggiaa
/-! ## A region walked in two parts, with another look at memory between them -/
namespace Go.Proofs.Ytmmipjlogdggiaa
open Go.RowKit
set_option linter.unusedSimpArgs false
set_option linter.unusedVariables false

section
variable {P : Program} {N : Nat} {imm imm' imm0 : Nat → Prop} {w w' w0 : World} {M M0 M' Mm : Mem} {t T : Nat → V} {a : Act} {C : Kont} {ops : Array Oper} {Q : Exit → Act → World → Prop} {K : (Nat → V) → Mem → Prop}
theorem wpL_soundA {l2 : List Oper} : ∀ (l : List Oper) (t : Nat → V) (M : Mem) (imm : Nat → Prop) (a : Act) (w : World), (∀ o ∈ l, (∀ i, o.dst = some i → i < N) ∧ ∀ j b, o.guard = some (j, b) → ∃ d, (ops[j]?).bind (·.dst) = some d) → wpL P (ops.toList.map (·.dst)) l t M K →
    Rel P N imm0 w0 M0 imm t M a w → (∀ imm' t' M' a' w', Rel P N imm0 w0 M0 imm' t' M' a' w' → K t' M' → wpList P ops Q l2 a' w') → wpList P ops Q (l ++ l2) a w
  | [], t, M, imm, a, w, _, h, hr, hn => hn _ _ _ _ _ hr h
  | o :: l, t, M, imm, a, w, hd, h, hr, hn => by
    have := wpOp_sound (Q := Q) h (hd o (by simp)).1 (hd o (by simp)).2 hr (next := fun a w => wpList P ops Q (l ++ l2) a w) (fun imm' t' M' a' w' hr' h' => wpL_soundA l t' M' imm' a' w' (fun o ho => hd o (by simp [ho])) h' hr' hn)
    rw [List.cons_append]
    unfold wpList
    split
    · rename_i hw
      rw [if_pos hw] at this
      exact .inl this
    · rename_i hw
      rw [if_neg hw] at this
      exact this
/-- What the rest of a region comes to. -/
def SatW (P : Program) (N : Nat) (ops : Array Oper) (l : List Oper) (t : Nat → V) (M : Mem) (K : (Nat → V) → Mem → Prop) : Prop :=
  ∀ (imm0 : Nat → Prop) (w0 : World) (M0 : Mem) (imm : Nat → Prop) (a : Act) (w : World), Rel P N imm0 w0 M0 imm t M a w →
    wpList P ops (fun e a' w' => e = .normal ∧ ∃ t' M' imm', Rel P N imm0 w0 M0 imm' t' M' a' w' ∧ K t' M') l a w
theorem dstOk_mem {l : List Oper} (hd : dstOk N ⟨l⟩ = true) : ∀ o ∈ l, (∀ i, o.dst = some i → i < N) ∧ ∀ j b, o.guard = some (j, b) → ∃ d, ((⟨l⟩ : Array Oper)[j]?).bind (·.dst) = some d := by
  intro o ho
  have := Array.all_eq_true'.1 hd o (by simpa using ho)
  rw [Bool.and_eq_true] at this
  refine ⟨fun i hi => ?_, fun j b hj => ?_⟩
  · have h1 := this.1; rw [hi] at h1; simpa using h1
  · have h1 := this.2; rw [hj] at h1; exact Option.isSome_iff_exists.1 h1
theorem SatW.of {l l' : List Oper} (hd : dstOk N ⟨l⟩ = true) (hl : ∀ o ∈ l', o ∈ l) (h : wpL P (l.map (·.dst)) l' t M K) : SatW P N ⟨l⟩ l' t M K := by
  intro imm0 w0 M0 imm a w hr
  exact wpL_sound (ops := ⟨l⟩) l' t M imm a w (fun o ho => dstOk_mem hd o (hl o ho)) h hr (fun imm' t' M' a' w' hr' hk => ⟨rfl, t', M', imm', hr', hk⟩)
theorem SatW.less {l : List Oper} (h : SatW P N ops l T Mm K) (hl : Less T t Mm M) : SatW P N ops l t M K := fun imm0 w0 M0 imm a w hr => h _ _ _ _ _ _ (hr.less hl)
theorem SatW.lift {l : List Oper} (o : Nat) (q : Path) (i j n : Nat) {n0 : V} {e : TypeId} {γ : Option Nat} {cap : Nat} {es : List V} (hn : M.getP o q = some n0) (hc : n0.cellAt i j = some (.own e γ cap es)) (hf : M n = none)
    (h : SatW P N ops l t ((M.setP o q i j (.msl n [] γ es.length cap)).set n (.own e γ cap es)) K) : SatW P N ops l t M K := by
  intro imm0 w0 M0 imm a w hr
  obtain ⟨h1, h2⟩ := hr.step.inv.lift hn hc hf
  exact h _ _ _ _ _ _ ⟨hr.size, hr.defers, hr.tm, hr.step.mem h1 (fun g hg => hr.step.owns g (h2 g hg))⟩
/-- A region in two parts. -/
theorem Sat.cutW {id : Nat} {l : List Oper} {y : Code} {σ : Type} (n : Nat) (T : σ → Nat → V) (Mm : σ → Mem) (I : σ → Prop) (hd : dstOk N ⟨l⟩ = true) (h : wpL P (l.map (·.dst)) (l.take n) t M (fun t' M' => ∃ s, I s ∧ Less (T s) t' (Mm s) M'))
    (h2 : ∀ s, I s → SatW P N ⟨l⟩ (l.drop n) (T s) (Mm s) (fun t' M' => Sat P N y t' M' C)) : Sat P N (.seq (.region id ⟨l⟩ false) y) t M C := by
  intro imm0 w0 M0 imm a w hr
  refine wp_seq (Code.wp_mono (Q := fun e a' w' => e = .normal ∧ ∃ t' M' imm', Rel P N imm0 w0 M0 imm' t' M' a' w' ∧ Sat P N y t' M' C) ?_ (wp_region_list ?_))
  · rintro e a' w' ⟨rfl, t', M', imm', hr', hk⟩
    exact hk _ _ _ _ _ _ hr'
  · have := wpL_soundA (ops := ⟨l⟩) (Q := fun e a' w' => e = .normal ∧ ∃ t' M' imm', Rel P N imm0 w0 M0 imm' t' M' a' w' ∧ Sat P N y t' M' C) (l2 := l.drop n) (l.take n) t M imm a w (fun o ho => dstOk_mem hd o (List.mem_of_mem_take ho)) h hr
      (fun imm' t' M' a' w' hr' hk => by obtain ⟨s, hs, hl⟩ := hk; exact h2 s hs _ _ _ _ _ _ (hr'.less hl))
    rw [List.take_append_drop] at this
    exact this
/-- A row that holds something has its block, wherever it stands. -/
theorem Sat.someP {cd : Code} {K : Kont} {o : Nat} {q : Path} {e : TypeId} {γ : Option Nat} {cap : Nat} {es : List V} (ho : M.getP o q = some (.own e γ cap es)) (hne : es ≠ []) (h : ∀ g, γ = some g → Sat P N cd t M K) : Sat P N cd t M K := by
  intro imm0 w0 M0 imm a w hr
  cases γ with
  | some g => exact h g rfl _ _ _ _ _ _ hr
  | none =>
    have := hr.step.inv.nd o q (.own e none cap es) ho
    exact absurd this.1 hne
theorem Fc.imp {f : FuncId} {xs : List V} {F : Mem} {R R' : Post} (h : Fc P f xs F R) (hR : ∀ r m, R r m → R' r m) : Fc P f xs F R' :=
  ⟨fun imm w vals hI hi hs hv => (h.fn imm w vals hI hi hs hv).mono (by rintro e w' ⟨v, r, m, imm', h1, h2, h3, h4⟩; exact ⟨v, r, m, imm', h1, hR _ _ h2, h3, h4⟩), h.go⟩
end
end Go.Proofs.Ytmmipjlogdggiaa
/-! ## Draws: a program and one way in which all may have been, mostly -/
namespace Go.Proofs.Ytmmipjlogdggiaa
open Go.RowKit
set_option linter.unusedSimpArgs false
set_option linter.unusedVariables false
set_option pp.maxSteps 3000

/-- What is drawn: within these bounds. -/
structure Exe.few (x : Exe) : Prop where
  fr : x.fr.length ≤ 43
  od : x.od.length = 3
  row : ∀ r ∈ x.od, r.length ≤ 43
theorem modInts (l : List Int) (k : Nat) (z : Int) : (l.map (V.int .i64)).modify k (fun x => x.setC 0 (V.int .i64 z)) = (l.set k z).map (V.int .i64) := by
  apply List.ext_getElem?
  intro i
  rw [List.getElem?_modify, List.getElem?_map, List.getElem?_map, List.getElem?_set]
  by_cases h : k = i
  · subst h
    cases hl : l[k]? with
    | none => have := List.getElem?_eq_none_iff.1 hl; simp; omega
    | some a => have := (List.getElem?_eq_some_iff.1 hl).1; simp [this, V.setC]
  · simp [h]
theorem l71Exec_rd (bs : List Int) (hb : Bytes bs) (g p : Nat) (hp : p < 2 ^ 27) : Fr Try.prog 14 [] g (rdO bs g p)
    (fun r o' => ∃ (x : Prog) (y : Exe), r = .tuple [progV x, y.V] ∧ x.length ≤ 3 ∧ (∀ l ∈ x, l.length < 2 ^ 11) ∧ y.few ∧ ∃ q, p ≤ q ∧ q ≤ p + 2 ^ 22 ∧ o' = rdO bs g q) := by
  refine Fc.start (S := [4, 5, 2006]) Try.func14 Try.ntmps14 Try.results14 rfl (by decide) rfl (by kernel_rfl) ?_
  simp (maxSteps := 1000000) (disch := omega) only [push_cast, go_sem, wpS_tt, wpS_tf, wpS_ft, wpS_ff, wpCond_tt, wpCond_ff, Nat.reducePow, Int.reduceEq, Int.reduceLT, Int.reduceLE, Int.reduceAdd, Int.reduceSub, Int.reduceMul, Int.reduceToNat, Int.reduceBEq, Int.reduceBNe, ↓reduceIte, reduceCtorEq, Nat.reduceEqDiff, Nat.reduceAdd, Nat.reduceMul, Nat.reduceLT, Nat.reduceLeDiff, Nat.reduceSub, Nat.reduceDiv, Nat.reduceBEq, Nat.reduceBneDiff, Nat.reduceBeqDiff]
  intro g2 g3
  refine callR.rd (l71Any_rd bs hb g p hp) rfl rfl rfl ?_
  rintro r o' ⟨x, rfl, hx1, hx2, q, hq1, hq2, rfl⟩
  simp (maxSteps := 1000000) (disch := omega) only [push_cast, go_sem, wpS_tt, wpS_tf, wpS_ft, wpS_ff, wpCond_tt, wpCond_ff, Nat.reducePow, Int.reduceEq, Int.reduceLT, Int.reduceLE, Int.reduceAdd, Int.reduceSub, Int.reduceMul, Int.reduceToNat, Int.reduceBEq, Int.reduceBNe, ↓reduceIte, reduceCtorEq, Nat.reduceEqDiff, Nat.reduceAdd, Nat.reduceMul, Nat.reduceLT, Nat.reduceLeDiff, Nat.reduceSub, Nat.reduceDiv, Nat.reduceBEq, Nat.reduceBneDiff, Nat.reduceBeqDiff, progV_eq]
  intro g4
  refine callR.new (Q := fun r ob => ∃ (γ : Option Nat) (cap : Nat) (e : TypeId) (es : List RowE), es.map RowE.x = specAll x ∧ (∀ x ∈ es, x.γ' = none ∨ x.e = 26) ∧ (γ = none ∨ e = 29) ∧ r = .msl 100 [] γ es.length cap ∧ ob = .own e γ cap (es.map RowE.V))
    ((specExecAllO_fn x (by omega)).imp (by rintro r m ⟨γ, cap, e, es, h1, h2, h3, h4, rfl⟩; exact ⟨_, ⟨γ, cap, e, es, h1, h2, h3, h4, rfl⟩, rfl⟩)) rfl rfl ?_
  rintro r ob ⟨γ, cap, e, es, h1, h2, h3, rfl, rfl⟩
  have hel : es.length < 2 ^ 30 := by rw [← List.length_map (f := RowE.x), h1]; exact specAll_le x
  cases hes : ((es.length : Int) == 0)
  · simp (maxSteps := 1000000) (disch := omega) only [push_cast, go_sem, wpS_tt, wpS_tf, wpS_ft, wpS_ff, wpCond_tt, wpCond_ff, Nat.reducePow, Int.reduceEq, Int.reduceLT, Int.reduceLE, Int.reduceAdd, Int.reduceSub, Int.reduceMul, Int.reduceToNat, Int.reduceBEq, Int.reduceBNe, ↓reduceIte, reduceCtorEq, Nat.reduceEqDiff, Nat.reduceAdd, Nat.reduceMul, Nat.reduceLT, Nat.reduceLeDiff, Nat.reduceSub, Nat.reduceDiv, Nat.reduceBEq, Nat.reduceBneDiff, Nat.reduceBeqDiff, hes]
    have hne : es ≠ [] := fun h => by subst h; simp at hes
    have hne0 : 0 < es.length := List.length_pos_iff.2 hne
    refine Sat.someG (o := 5) (e := e) (γ := γ) (cap := cap) (es := es.map RowE.V) rfl (by simpa using hne) ?_
    rintro g5 rfl
    have he : e = 29 := h3.resolve_left nofun
    subst he
    refine Sat.cutW 5 (σ := Nat × Nat) (fun s => upd (upd (upd (upd (upd (upd noT 0 (.ptr 0 [] 0 0 g 2)) 2 (.ptr 2 [] 0 0 g2 1)) 3 (.ptr 3 [] 0 0 g3 2)) 4 (.ptr 4 [] 0 0 g4 1)) 21 (.msl 5 [] (some g5) es.length cap)) 25 (.int .i64 s.1))
      (fun s => ((((noM.set 0 (rdO bs g s.2)).set 2 (.own 25 (some g2) 1 [.agg [.own 0 none 0 []]])).set 3 (.own 29 (some g3) 1 [.agg [.own 0 none 0 [], .own 0 none 0 []]])).set 4 (.own 25 (some g4) 1 [.agg [.sl (x.map thrV)]])).set 5 (.own 29 (some g5) cap (es.map RowE.V)))
      (fun s => s.1 < es.length ∧ s.2 = q + 1) (by kernel_rfl) ?_ ?_
    · simp (maxSteps := 1000000) (disch := omega) only [push_cast, go_sem, wpS_tt, wpS_tf, wpS_ft, wpS_ff, wpCond_tt, wpCond_ff, Nat.reducePow, Int.reduceEq, Int.reduceLT, Int.reduceLE, Int.reduceAdd, Int.reduceSub, Int.reduceMul, Int.reduceToNat, Int.reduceBEq, Int.reduceBNe, ↓reduceIte, reduceCtorEq, Nat.reduceEqDiff, Nat.reduceAdd, Nat.reduceMul, Nat.reduceLT, Nat.reduceLeDiff, Nat.reduceSub, Nat.reduceDiv, Nat.reduceBEq, Nat.reduceBneDiff, Nat.reduceBeqDiff]
      refine callR.rd (pick_rd bs hb g q (by omega) es.length (by omega)) rfl rfl rfl ?_
      rintro r o' ⟨v, rfl, hv0, hv1, _, rfl⟩
      obtain ⟨v, rfl⟩ := Int.eq_ofNat_of_zero_le hv0
      simp (maxSteps := 1000000) (disch := omega) only [push_cast, go_sem, wpS_tt, wpS_tf, wpS_ft, wpS_ff, wpCond_tt, wpCond_ff, Nat.reducePow, Int.reduceEq, Int.reduceLT, Int.reduceLE, Int.reduceAdd, Int.reduceSub, Int.reduceMul, Int.reduceToNat, Int.reduceBEq, Int.reduceBNe, ↓reduceIte, reduceCtorEq, Nat.reduceEqDiff, Nat.reduceAdd, Nat.reduceMul, Nat.reduceLT, Nat.reduceLeDiff, Nat.reduceSub, Nat.reduceDiv, Nat.reduceBEq, Nat.reduceBneDiff, Nat.reduceBeqDiff]
      refine ⟨(v, q + 1), ⟨by have := hv1 (by omega); dsimp only; omega, rfl⟩, ?_⟩
      (refine Less.start ?_; repeat (first | exact LessO.nil | exact LessO.all | refine LessO.skip (by decide) ?_ | refine LessO.upd ?_ ?_ | refine LessO.set ?_ ?_)) <;> (try simp (maxSteps := 1000000) (disch := omega) only [push_cast, go_sem, wpS_tt, wpS_tf, wpS_ft, wpS_ff, wpCond_tt, wpCond_ff, Nat.reducePow, Int.reduceEq, Int.reduceLT, Int.reduceLE, Int.reduceAdd, Int.reduceSub, Int.reduceMul, Int.reduceToNat, Int.reduceBEq, Int.reduceBNe, ↓reduceIte, reduceCtorEq, Nat.reduceEqDiff, Nat.reduceAdd, Nat.reduceMul, Nat.reduceLT, Nat.reduceLeDiff, Nat.reduceSub, Nat.reduceDiv, Nat.reduceBEq, Nat.reduceBneDiff, Nat.reduceBeqDiff])
    rintro ⟨v, _⟩ ⟨hv, rfl⟩
    simp only at hv
    obtain ⟨y, hy⟩ : ∃ y, es[v]? = some y := ⟨_, List.getElem?_eq_getElem hv⟩
    refine SatW.lift 5 [] v 0 200 (n0 := .own 29 (some g5) cap (es.map RowE.V)) (e := 3) (γ := y.γ) (cap := y.c) (es := y.f.map (V.int .i64)) rfl ?_ rfl ?_
    · simp [V.cellAt, hy, RowE.V, V.cells]
    refine SatW.lift 5 [] v 1 201 (n0 := (V.own 29 (some g5) cap (es.map RowE.V)).setIJ v 0 (.msl 200 [] y.γ (y.f.map (V.int .i64)).length y.c)) (e := y.e) (γ := y.γ') (cap := y.c') (es := y.ws.map RowI.V) rfl ?_ rfl ?_
    · simp [V.setIJ, V.setC, V.cellAt, hy, RowE.V, V.cells]
    obtain ⟨zs, hzl, hz, hzm⟩ : ∃ zs : List V, zs.length = es.length ∧ zs[v]? = some (.agg [.msl 200 [] y.γ y.f.length y.c, .msl 201 [] y.γ' y.ws.length y.c']) ∧
        ((V.own 29 (some g5) cap (es.map RowE.V)).setIJ v 0 (.msl 200 [] y.γ (y.f.map (V.int .i64)).length y.c)).setIJ v 1 (.msl 201 [] y.γ' (y.ws.map RowI.V).length y.c') = .own 29 (some g5) cap zs := by
      refine ⟨_, ?_, ?_, rfl⟩
      · simp
      · simp [hy, RowE.V, V.setC]
    have hmem := specAll_small (p := x) (y := y.x) (by rw [← h1]; exact List.mem_map.2 ⟨y, List.mem_of_getElem? hy, rfl⟩)
    have hye := h2 y (List.mem_of_getElem? hy)
    refine SatW.less (T := upd (upd (upd (upd (upd (upd noT 0 (.ptr 0 [] 0 0 g 2)) 2 (.ptr 2 [] 0 0 g2 1)) 3 (.ptr 3 [] 0 0 g3 2)) 4 (.ptr 4 [] 0 0 g4 1)) 21 (.msl 5 [] (some g5) es.length cap)) 25 (.int .i64 v))
      (Mm := ((((((noM.set 0 (rdO bs g (q + 1))).set 2 (.own 25 (some g2) 1 [.agg [.own 0 none 0 []]])).set 3 (.own 29 (some g3) 1 [.agg [.own 0 none 0 [], .own 0 none 0 []]])).set 4 (.own 25 (some g4) 1 [.agg [.sl (x.map thrV)]])).set 5 (.own 29 (some g5) cap zs)).set 200 (.own 3 y.γ y.c (y.f.map (V.int .i64)))).set 201 (.own y.e y.γ' y.c' (y.ws.map RowI.V))) ?_ ?_
    rotate_left
    · rw [← hzm]
      (refine Less.start ?_; repeat (first | exact LessO.nil | exact LessO.all | refine LessO.skip (by decide) ?_ | refine LessO.upd ?_ ?_ | refine LessO.set ?_ ?_)) <;> (try simp (maxSteps := 1000000) (disch := omega) only [push_cast, go_sem, wpS_tt, wpS_tf, wpS_ft, wpS_ff, wpCond_tt, wpCond_ff, Nat.reducePow, Int.reduceEq, Int.reduceLT, Int.reduceLE, Int.reduceAdd, Int.reduceSub, Int.reduceMul, Int.reduceToNat, Int.reduceBEq, Int.reduceBNe, ↓reduceIte, reduceCtorEq, Nat.reduceEqDiff, Nat.reduceAdd, Nat.reduceMul, Nat.reduceLT, Nat.reduceLeDiff, Nat.reduceSub, Nat.reduceDiv, Nat.reduceBEq, Nat.reduceBneDiff, Nat.reduceBeqDiff])
      rfl
    refine SatW.of (by kernel_rfl) (fun o h => List.mem_of_mem_drop h) ?_
    simp (maxSteps := 1000000) (disch := omega) only [push_cast, go_sem, wpS_tt, wpS_tf, wpS_ft, wpS_ff, wpCond_tt, wpCond_ff, Nat.reducePow, Int.reduceEq, Int.reduceLT, Int.reduceLE, Int.reduceAdd, Int.reduceSub, Int.reduceMul, Int.reduceToNat, Int.reduceBEq, Int.reduceBNe, ↓reduceIte, reduceCtorEq, Nat.reduceEqDiff, Nat.reduceAdd, Nat.reduceMul, Nat.reduceLT, Nat.reduceLeDiff, Nat.reduceSub, Nat.reduceDiv, Nat.reduceBEq, Nat.reduceBneDiff, Nat.reduceBeqDiff, hz, hv, hzl]
    intro g6
    refine Sat.of (S := [2006]) (by kernel_rfl) ?_
    simp (maxSteps := 1000000) (disch := omega) only [push_cast, go_sem, wpS_tt, wpS_tf, wpS_ft, wpS_ff, wpCond_tt, wpCond_ff, Nat.reducePow, Int.reduceEq, Int.reduceLT, Int.reduceLE, Int.reduceAdd, Int.reduceSub, Int.reduceMul, Int.reduceToNat, Int.reduceBEq, Int.reduceBNe, ↓reduceIte, reduceCtorEq, Nat.reduceEqDiff, Nat.reduceAdd, Nat.reduceMul, Nat.reduceLT, Nat.reduceLeDiff, Nat.reduceSub, Nat.reduceDiv, Nat.reduceBEq, Nat.reduceBneDiff, Nat.reduceBeqDiff]
    obtain ⟨hm1, hm2, hm3⟩ := hmem
    refine Sat.cut (σ := RowE × Nat) [] (fun s => upd (upd (upd (upd (upd noT 0 (.ptr 0 [] 0 0 g 2)) 2 (.ptr 2 [] 0 0 g2 1)) 3 (.ptr 3 [] 0 0 g3 2)) 4 (.ptr 4 [] 0 0 g4 1)) 6 (.ptr 6 [] 0 0 g6 2))
      (fun s => ((((noM.set 0 (rdO bs g s.2)).set 2 (.own 25 (some g2) 1 [.agg [.own 0 none 0 []]])).set 3 (.own 29 (some g3) 1 [.agg [.own 0 none 0 [], .own 0 none 0 []]])).set 4 (.own 25 (some g4) 1 [.agg [.sl (x.map thrV)]])).set 6 (.own 29 (some g6) 1 [.agg [.own 3 s.1.γ s.1.c (s.1.f.map (V.int .i64)), .own s.1.e s.1.γ' s.1.c' (s.1.ws.map RowI.V)]]))
      (fun s => s.1.x.few ∧ q ≤ s.2 ∧ s.2 ≤ q + 10) (by kernel_rfl) ?_ ?_
    · simp (maxSteps := 1000000) (disch := omega) only [push_cast, go_sem, wpS_tt, wpS_tf, wpS_ft, wpS_ff, wpCond_tt, wpCond_ff, Nat.reducePow, Int.reduceEq, Int.reduceLT, Int.reduceLE, Int.reduceAdd, Int.reduceSub, Int.reduceMul, Int.reduceToNat, Int.reduceBEq, Int.reduceBNe, ↓reduceIte, reduceCtorEq, Nat.reduceEqDiff, Nat.reduceAdd, Nat.reduceMul, Nat.reduceLT, Nat.reduceLeDiff, Nat.reduceSub, Nat.reduceDiv, Nat.reduceBEq, Nat.reduceBneDiff, Nat.reduceBeqDiff]
      refine callR.rd (pick_rd bs hb g (q + 1) (by omega) 12 (by omega)) rfl rfl rfl ?_
      rintro r o' ⟨k, rfl, hk0, hk1, _, rfl⟩
      simp (maxSteps := 1000000) (disch := omega) only [push_cast, go_sem, wpS_tt, wpS_tf, wpS_ft, wpS_ff, wpCond_tt, wpCond_ff, Nat.reducePow, Int.reduceEq, Int.reduceLT, Int.reduceLE, Int.reduceAdd, Int.reduceSub, Int.reduceMul, Int.reduceToNat, Int.reduceBEq, Int.reduceBNe, ↓reduceIte, reduceCtorEq, Nat.reduceEqDiff, Nat.reduceAdd, Nat.reduceMul, Nat.reduceLT, Nat.reduceLeDiff, Nat.reduceSub, Nat.reduceDiv, Nat.reduceBEq, Nat.reduceBneDiff, Nat.reduceBeqDiff]
      have hyl : y.ws.length = 3 := by have := hm2; simpa [RowE.x] using this
      have few0 : ∀ {t' : Nat → V} {M' : Mem}, _ → _ := fun {t'} {M'} h => (⟨(y, q + 1 + 1), ⟨⟨Nat.le_succ_of_le hm1, hm2, fun r hr => Nat.le_succ_of_le (hm3 r hr)⟩, by dsimp only; omega, by dsimp only; omega⟩, h⟩ : ∃ s : RowE × Nat, (s.1.x.few ∧ q ≤ s.2 ∧ s.2 ≤ q + 10) ∧ Less (upd (upd (upd (upd (upd noT 0 (.ptr 0 [] 0 0 g 2)) 2 (.ptr 2 [] 0 0 g2 1)) 3 (.ptr 3 [] 0 0 g3 2)) 4 (.ptr 4 [] 0 0 g4 1)) 6 (.ptr 6 [] 0 0 g6 2)) t'
        (((((noM.set 0 (rdO bs g s.2)).set 2 (.own 25 (some g2) 1 [.agg [.own 0 none 0 []]])).set 3 (.own 29 (some g3) 1 [.agg [.own 0 none 0 [], .own 0 none 0 []]])).set 4 (.own 25 (some g4) 1 [.agg [.sl (x.map thrV)]])).set 6 (.own 29 (some g6) 1 [.agg [.own 3 s.1.γ s.1.c (s.1.f.map (V.int .i64)), .own s.1.e s.1.γ' s.1.c' (s.1.ws.map RowI.V)]])) M')
      refine ⟨fun hk => ⟨fun hn => ?_, fun hn => ?_⟩, fun hk => ⟨fun hk1 => ?_, fun hk1 => ⟨fun hk2 => ?_, fun hk2 => ?_⟩⟩⟩
      · have hf0 : 0 < y.f.length := by omega
        have hf1 : y.f.length ≤ 42 := hm1
        refine Sat.someP (o := 6) (q := [(0, 0)]) (e := 3) (γ := y.γ) (cap := y.c) (es := y.f.map (V.int .i64)) rfl (fun h => by have := congrArg List.length h; simp at this; rw [this] at hf0; simp at hf0) ?_
        intro g7 hg7
        refine Sat.drawnE [(1, 6), (1, 8)] [] [1, 4] (rdTab bs g [(26, 1, pickQ)] []) (by kernel_rfl) (by kernel_rfl) ?_
        simp (maxSteps := 1000000) (disch := omega) only [push_cast, go_sem, wpS_tt, wpS_tf, wpS_ft, wpS_ff, wpCond_tt, wpCond_ff, Nat.reducePow, Int.reduceEq, Int.reduceLT, Int.reduceLE, Int.reduceAdd, Int.reduceSub, Int.reduceMul, Int.reduceToNat, Int.reduceBEq, Int.reduceBNe, ↓reduceIte, reduceCtorEq, Nat.reduceEqDiff, Nat.reduceAdd, Nat.reduceMul, Nat.reduceLT, Nat.reduceLeDiff, Nat.reduceSub, Nat.reduceDiv, Nat.reduceBEq, Nat.reduceBneDiff, Nat.reduceBeqDiff, hg7]
        refine runD_pl (pick_pl bs hb g (q + 1 + 1) (by omega) y.f.length (by omega)) rfl rfl rfl rfl pickQ_ne ?_ ?_
        · rfl
        rintro r q3 hq5 hq6 ⟨n', v2, hn', rfl, hv2⟩
        cases hn'
        have hv21 := hv2.2.1 (by omega)
        obtain ⟨v2, rfl⟩ := Int.eq_ofNat_of_zero_le hv2.1
        simp (maxSteps := 1000000) (disch := omega) only [push_cast, go_sem, wpS_tt, wpS_tf, wpS_ft, wpS_ff, wpCond_tt, wpCond_ff, Nat.reducePow, Int.reduceEq, Int.reduceLT, Int.reduceLE, Int.reduceAdd, Int.reduceSub, Int.reduceMul, Int.reduceToNat, Int.reduceBEq, Int.reduceBNe, ↓reduceIte, reduceCtorEq, Nat.reduceEqDiff, Nat.reduceAdd, Nat.reduceMul, Nat.reduceLT, Nat.reduceLeDiff, Nat.reduceSub, Nat.reduceDiv, Nat.reduceBEq, Nat.reduceBneDiff, Nat.reduceBeqDiff, hg7]
        refine runD_pl (pick_pl bs hb g q3 (by omega) 7 (by omega)) rfl rfl rfl rfl pickQ_ne ?_ ?_
        · rfl
        rintro r q4 hq7 hq8 ⟨n', v3, hn', rfl, hv3⟩
        cases hn'
        have hv31 := hv3.2.1 (by omega)
        have hv30 := hv3.1
        obtain ⟨a, ha⟩ : ∃ a, y.f[v2]? = some a := ⟨_, List.getElem?_eq_getElem (by omega)⟩
        simp (maxSteps := 1000000) (disch := omega) only [push_cast, go_sem, wpS_tt, wpS_tf, wpS_ft, wpS_ff, wpCond_tt, wpCond_ff, Nat.reducePow, Int.reduceEq, Int.reduceLT, Int.reduceLE, Int.reduceAdd, Int.reduceSub, Int.reduceMul, Int.reduceToNat, Int.reduceBEq, Int.reduceBNe, ↓reduceIte, reduceCtorEq, Nat.reduceEqDiff, Nat.reduceAdd, Nat.reduceMul, Nat.reduceLT, Nat.reduceLeDiff, Nat.reduceSub, Nat.reduceDiv, Nat.reduceBEq, Nat.reduceBneDiff, Nat.reduceBeqDiff, hg7, ha]
        refine ⟨by omega, ({ y with f := y.f.set v2 (v3 - 3) }, q4), ⟨⟨by simp [RowE.x]; omega, hm2, fun r hr => by have := hm3 r hr; omega⟩, by dsimp only; omega, by dsimp only; omega⟩, ?_⟩
        (refine Less.start ?_; repeat (first | exact LessO.nil | exact LessO.all | refine LessO.skip (by decide) ?_ | refine LessO.upd ?_ ?_ | refine LessO.set ?_ ?_)) <;> (try simp (maxSteps := 1000000) (disch := omega) only [push_cast, go_sem, wpS_tt, wpS_tf, wpS_ft, wpS_ff, wpCond_tt, wpCond_ff, Nat.reducePow, Int.reduceEq, Int.reduceLT, Int.reduceLE, Int.reduceAdd, Int.reduceSub, Int.reduceMul, Int.reduceToNat, Int.reduceBEq, Int.reduceBNe, ↓reduceIte, reduceCtorEq, Nat.reduceEqDiff, Nat.reduceAdd, Nat.reduceMul, Nat.reduceLT, Nat.reduceLeDiff, Nat.reduceSub, Nat.reduceDiv, Nat.reduceBEq, Nat.reduceBneDiff, Nat.reduceBeqDiff])
        rw [modInts, hg7]
      · exact few0 (by (refine Less.start ?_; repeat (first | exact LessO.nil | exact LessO.all | refine LessO.skip (by decide) ?_ | refine LessO.upd ?_ ?_ | refine LessO.set ?_ ?_)) <;> (try simp (maxSteps := 1000000) (disch := omega) only [push_cast, go_sem, wpS_tt, wpS_tf, wpS_ft, wpS_ff, wpCond_tt, wpCond_ff, Nat.reducePow, Int.reduceEq, Int.reduceLT, Int.reduceLE, Int.reduceAdd, Int.reduceSub, Int.reduceMul, Int.reduceToNat, Int.reduceBEq, Int.reduceBNe, ↓reduceIte, reduceCtorEq, Nat.reduceEqDiff, Nat.reduceAdd, Nat.reduceMul, Nat.reduceLT, Nat.reduceLeDiff, Nat.reduceSub, Nat.reduceDiv, Nat.reduceBEq, Nat.reduceBneDiff, Nat.reduceBeqDiff]))
      · obtain ⟨r0, ws, hws⟩ : ∃ r0 ws, y.ws = r0 :: ws := by
          cases h : y.ws with
          | nil => rw [h] at hyl; cases hyl
          | cons a l => exact ⟨a, l, rfl⟩
        refine Sat.someP (o := 6) (q := [(0, 1)]) (e := y.e) (γ := y.γ') (cap := y.c') (es := y.ws.map RowI.V) rfl (by rw [hws]; nofun) ?_
        intro g7 hg7
        have hye' : y.e = 26 := hye.resolve_left (by rw [hg7]; nofun)
        refine Sat.drawnE [(1, 6), (3, 6), (5, 6)] [(1, 7)] [1, 3, 5] (fun _ _ _ => none) (by kernel_rfl) (by kernel_rfl) ?_
        simp (maxSteps := 1000000) (disch := omega) only [push_cast, go_sem, wpS_tt, wpS_tf, wpS_ft, wpS_ff, wpCond_tt, wpCond_ff, Nat.reducePow, Int.reduceEq, Int.reduceLT, Int.reduceLE, Int.reduceAdd, Int.reduceSub, Int.reduceMul, Int.reduceToNat, Int.reduceBEq, Int.reduceBNe, ↓reduceIte, reduceCtorEq, Nat.reduceEqDiff, Nat.reduceAdd, Nat.reduceMul, Nat.reduceLT, Nat.reduceLeDiff, Nat.reduceSub, Nat.reduceDiv, Nat.reduceBEq, Nat.reduceBneDiff, Nat.reduceBeqDiff, hg7, hye', hws, RowI.V_eq]
        refine ⟨by omega, ?_⟩
        intro g8
        have hr0 : r0.l.length ≤ 42 := hm3 r0.l (by simp [RowE.x, hws])
        refine ⟨by omega, fun γ8 c8 _ => ⟨by omega, ({ y with ws := ⟨γ8, c8, r0.l ++ [0]⟩ :: ws }, q + 1 + 1), ⟨⟨Nat.le_succ_of_le hm1, ?_, ?_⟩, by dsimp only; omega, by dsimp only; omega⟩, ?_⟩⟩
        · rw [hws] at hyl; simpa [RowE.x] using hyl
        · intro r hr
          simp only [RowE.x, List.map_cons, List.mem_cons] at hr
          rcases hr with rfl | hr
          · simp; omega
          · have := hm3 r (by simp only [RowE.x, hws, List.map_cons, List.mem_cons]; exact .inr hr); omega
        · (refine Less.start ?_; repeat (first | exact LessO.nil | exact LessO.all | refine LessO.skip (by decide) ?_ | refine LessO.upd ?_ ?_ | refine LessO.set ?_ ?_)) <;> (try simp (maxSteps := 1000000) (disch := omega) only [push_cast, go_sem, wpS_tt, wpS_tf, wpS_ft, wpS_ff, wpCond_tt, wpCond_ff, Nat.reducePow, Int.reduceEq, Int.reduceLT, Int.reduceLE, Int.reduceAdd, Int.reduceSub, Int.reduceMul, Int.reduceToNat, Int.reduceBEq, Int.reduceBNe, ↓reduceIte, reduceCtorEq, Nat.reduceEqDiff, Nat.reduceAdd, Nat.reduceMul, Nat.reduceLT, Nat.reduceLeDiff, Nat.reduceSub, Nat.reduceDiv, Nat.reduceBEq, Nat.reduceBneDiff, Nat.reduceBeqDiff])
          all_goals simp [RowI.V, hg7, hye']
      · intro g8
        have hm1' : y.f.length ≤ 42 := hm1
        refine ⟨by omega, fun γ8 c8 _ => ?_⟩
        refine ⟨({ y with γ := γ8, c := c8, f := y.f ++ [-2] }, q + 1 + 1), ⟨⟨by simp [RowE.x]; omega, hm2, fun r hr => by have := hm3 r hr; omega⟩, by dsimp only; omega, by dsimp only; omega⟩, ?_⟩
        (refine Less.start ?_; repeat (first | exact LessO.nil | exact LessO.all | refine LessO.skip (by decide) ?_ | refine LessO.upd ?_ ?_ | refine LessO.set ?_ ?_)) <;> (try simp (maxSteps := 1000000) (disch := omega) only [push_cast, go_sem, wpS_tt, wpS_tf, wpS_ft, wpS_ff, wpCond_tt, wpCond_ff, Nat.reducePow, Int.reduceEq, Int.reduceLT, Int.reduceLE, Int.reduceAdd, Int.reduceSub, Int.reduceMul, Int.reduceToNat, Int.reduceBEq, Int.reduceBNe, ↓reduceIte, reduceCtorEq, Nat.reduceEqDiff, Nat.reduceAdd, Nat.reduceMul, Nat.reduceLT, Nat.reduceLeDiff, Nat.reduceSub, Nat.reduceDiv, Nat.reduceBEq, Nat.reduceBneDiff, Nat.reduceBeqDiff])
        all_goals simp
      · exact few0 (by (refine Less.start ?_; repeat (first | exact LessO.nil | exact LessO.all | refine LessO.skip (by decide) ?_ | refine LessO.upd ?_ ?_ | refine LessO.set ?_ ?_)) <;> (try simp (maxSteps := 1000000) (disch := omega) only [push_cast, go_sem, wpS_tt, wpS_tf, wpS_ft, wpS_ff, wpCond_tt, wpCond_ff, Nat.reducePow, Int.reduceEq, Int.reduceLT, Int.reduceLE, Int.reduceAdd, Int.reduceSub, Int.reduceMul, Int.reduceToNat, Int.reduceBEq, Int.reduceBNe, ↓reduceIte, reduceCtorEq, Nat.reduceEqDiff, Nat.reduceAdd, Nat.reduceMul, Nat.reduceLT, Nat.reduceLeDiff, Nat.reduceSub, Nat.reduceDiv, Nat.reduceBEq, Nat.reduceBneDiff, Nat.reduceBeqDiff]))
    · rintro ⟨z, q2⟩ ⟨hz2, hq3, hq4⟩
      dsimp only at hz2 hq3 hq4 ⊢
      refine Sat.freezeC 6 [] 0 0 (n0 := .own 29 (some g6) 1 [.agg [.own 3 z.γ z.c (z.f.map (V.int .i64)), .own z.e z.γ' z.c' (z.ws.map RowI.V)]]) (d := .own 3 z.γ z.c (z.f.map (V.int .i64))) rfl rfl rfl ?_
      refine Sat.freezeC 6 [] 0 1 (n0 := .own 29 (some g6) 1 [.agg [(V.own 3 z.γ z.c (z.f.map (V.int .i64))).fz, .own z.e z.γ' z.c' (z.ws.map RowI.V)]]) (d := .own z.e z.γ' z.c' (z.ws.map RowI.V)) rfl rfl rfl ?_
      have e1 : (V.own 3 z.γ z.c (z.f.map (V.int .i64))).fz = .sl (z.f.map (V.int .i64)) := by simp only [V.fz, fzs_map, fzs_int]
      have e2 : (V.own z.e z.γ' z.c' (z.ws.map RowI.V)).fz = .sl (z.x.od.map intsV) := by simp only [V.fz, fzs_map, fz_rowsI, RowE.x]
      rw [e1, e2]
      refine Sat.of (S := []) (by kernel_rfl) ?_
      simp (maxSteps := 1000000) (disch := omega) only [push_cast, go_sem, wpS_tt, wpS_tf, wpS_ft, wpS_ff, wpCond_tt, wpCond_ff, Nat.reducePow, Int.reduceEq, Int.reduceLT, Int.reduceLE, Int.reduceAdd, Int.reduceSub, Int.reduceMul, Int.reduceToNat, Int.reduceBEq, Int.reduceBNe, ↓reduceIte, reduceCtorEq, Nat.reduceEqDiff, Nat.reduceAdd, Nat.reduceMul, Nat.reduceLT, Nat.reduceLeDiff, Nat.reduceSub, Nat.reduceDiv, Nat.reduceBEq, Nat.reduceBneDiff, Nat.reduceBeqDiff]
      refine Sat.drawnE [(1, 2)] [] [0, 1] (fun _ _ _ => none) (by kernel_rfl) (by kernel_rfl) ?_
      simp (maxSteps := 1000000) (disch := omega) only [push_cast, go_sem, wpS_tt, wpS_tf, wpS_ft, wpS_ff, wpCond_tt, wpCond_ff, Nat.reducePow, Int.reduceEq, Int.reduceLT, Int.reduceLE, Int.reduceAdd, Int.reduceSub, Int.reduceMul, Int.reduceToNat, Int.reduceBEq, Int.reduceBNe, ↓reduceIte, reduceCtorEq, Nat.reduceEqDiff, Nat.reduceAdd, Nat.reduceMul, Nat.reduceLT, Nat.reduceLeDiff, Nat.reduceSub, Nat.reduceDiv, Nat.reduceBEq, Nat.reduceBneDiff, Nat.reduceBeqDiff]
      refine ⟨_, ?_, _, ⟨x, z.x, by rw [Exe.V_eq]; rfl, hx1, hx2, hz2, q2, by omega, by omega, rfl⟩, rfl⟩
      ((repeat (first | exact Sub.no | refine Sub.set ?_ ?_)) <;> (try simp (disch := omega) only [push_cast, go_sem, wpS_tt, wpS_tf, wpS_ft, wpS_ff, wpCond_tt, wpCond_ff, Nat.reducePow, Int.reduceEq, Int.reduceLT, Int.reduceLE, Int.reduceAdd, Int.reduceSub, Int.reduceMul, Int.reduceToNat, Int.reduceBEq, Int.reduceBNe, ↓reduceIte, reduceCtorEq, Nat.reduceEqDiff, Nat.reduceAdd, Nat.reduceMul, Nat.reduceLT, Nat.reduceLeDiff, Nat.reduceSub, Nat.reduceDiv, Nat.reduceBEq, Nat.reduceBneDiff, Nat.reduceBeqDiff]))
  · simp (maxSteps := 1000000) (disch := omega) only [push_cast, go_sem, wpS_tt, wpS_tf, wpS_ft, wpS_ff, wpCond_tt, wpCond_ff, Nat.reducePow, Int.reduceEq, Int.reduceLT, Int.reduceLE, Int.reduceAdd, Int.reduceSub, Int.reduceMul, Int.reduceToNat, Int.reduceBEq, Int.reduceBNe, ↓reduceIte, reduceCtorEq, Nat.reduceEqDiff, Nat.reduceAdd, Nat.reduceMul, Nat.reduceLT, Nat.reduceLeDiff, Nat.reduceSub, Nat.reduceDiv, Nat.reduceBEq, Nat.reduceBneDiff, Nat.reduceBeqDiff, hes]
    have he0 : es = [] := by simpa using hes
    refine Sat.cut (σ := Nat × Nat × Nat × Nat × Nat) [] (fun s => upd (upd noT 2 (.ptr 2 [] 0 0 g2 1)) 3 (.ptr 3 [] 0 0 g3 2))
      (fun s => ((noM.set 0 (rdO bs g q)).set 2 (.own 25 (some g2) 1 [.agg [.sl (x.map thrV)]])).set 3 (.own 29 (some g3) 1 [.agg [.own 3 (some s.1) 1 [.int .i64 (-2)], .own 26 (some s.2.1) 3 [.own 3 (some s.2.2.1) 0 [], .own 3 (some s.2.2.2.1) 0 [], .own 3 (some s.2.2.2.2) 0 []]]]))
      (fun _ => True) (by kernel_rfl) ?_ ?_
    · simp (maxSteps := 1000000) (disch := omega) only [push_cast, go_sem, wpS_tt, wpS_tf, wpS_ft, wpS_ff, wpCond_tt, wpCond_ff, Nat.reducePow, Int.reduceEq, Int.reduceLT, Int.reduceLE, Int.reduceAdd, Int.reduceSub, Int.reduceMul, Int.reduceToNat, Int.reduceBEq, Int.reduceBNe, ↓reduceIte, reduceCtorEq, Nat.reduceEqDiff, Nat.reduceAdd, Nat.reduceMul, Nat.reduceLT, Nat.reduceLeDiff, Nat.reduceSub, Nat.reduceDiv, Nat.reduceBEq, Nat.reduceBneDiff, Nat.reduceBeqDiff]
      intro a1 a2 a3 a4 a5
      refine ⟨(a1, a5, a2, a3, a4), ?_⟩
      (refine Less.start ?_; repeat (first | exact LessO.nil | exact LessO.all | refine LessO.skip (by decide) ?_ | refine LessO.upd ?_ ?_ | refine LessO.set ?_ ?_)) <;> (try simp (maxSteps := 1000000) (disch := omega) only [push_cast, go_sem, wpS_tt, wpS_tf, wpS_ft, wpS_ff, wpCond_tt, wpCond_ff, Nat.reducePow, Int.reduceEq, Int.reduceLT, Int.reduceLE, Int.reduceAdd, Int.reduceSub, Int.reduceMul, Int.reduceToNat, Int.reduceBEq, Int.reduceBNe, ↓reduceIte, reduceCtorEq, Nat.reduceEqDiff, Nat.reduceAdd, Nat.reduceMul, Nat.reduceLT, Nat.reduceLeDiff, Nat.reduceSub, Nat.reduceDiv, Nat.reduceBEq, Nat.reduceBneDiff, Nat.reduceBeqDiff])
    · rintro ⟨a1, a2, a3, a4, a5⟩ _
      dsimp only
      refine Sat.freezeC 3 [] 0 0 (n0 := .own 29 (some g3) 1 [.agg [.own 3 (some a1) 1 [.int .i64 (-2)], .own 26 (some a2) 3 [.own 3 (some a3) 0 [], .own 3 (some a4) 0 [], .own 3 (some a5) 0 []]]]) (d := .own 3 (some a1) 1 [.int .i64 (-2)]) rfl rfl rfl ?_
      refine Sat.freezeC 3 [] 0 1 (n0 := .own 29 (some g3) 1 [.agg [.sl [.int .i64 (-2)], .own 26 (some a2) 3 [.own 3 (some a3) 0 [], .own 3 (some a4) 0 [], .own 3 (some a5) 0 []]]]) (d := .own 26 (some a2) 3 [.own 3 (some a3) 0 [], .own 3 (some a4) 0 [], .own 3 (some a5) 0 []]) rfl rfl rfl ?_
      refine Sat.of (S := []) (by kernel_rfl) ?_
      simp (maxSteps := 1000000) (disch := omega) only [push_cast, go_sem, wpS_tt, wpS_tf, wpS_ft, wpS_ff, wpCond_tt, wpCond_ff, Nat.reducePow, Int.reduceEq, Int.reduceLT, Int.reduceLE, Int.reduceAdd, Int.reduceSub, Int.reduceMul, Int.reduceToNat, Int.reduceBEq, Int.reduceBNe, ↓reduceIte, reduceCtorEq, Nat.reduceEqDiff, Nat.reduceAdd, Nat.reduceMul, Nat.reduceLT, Nat.reduceLeDiff, Nat.reduceSub, Nat.reduceDiv, Nat.reduceBEq, Nat.reduceBneDiff, Nat.reduceBeqDiff, V.fz, V.fz.fzs]
      refine ⟨_, ?_, _, ⟨x, ⟨[-2], [[], [], []]⟩, rfl, hx1, hx2, ⟨by simp, rfl, by simp⟩, q, hq1, by omega, rfl⟩, rfl⟩
      ((repeat (first | exact Sub.no | refine Sub.set ?_ ?_)) <;> (try simp (disch := omega) only [push_cast, go_sem, wpS_tt, wpS_tf, wpS_ft, wpS_ff, wpCond_tt, wpCond_ff, Nat.reducePow, Int.reduceEq, Int.reduceLT, Int.reduceLE, Int.reduceAdd, Int.reduceSub, Int.reduceMul, Int.reduceToNat, Int.reduceBEq, Int.reduceBNe, ↓reduceIte, reduceCtorEq, Nat.reduceEqDiff, Nat.reduceAdd, Nat.reduceMul, Nat.reduceLT, Nat.reduceLeDiff, Nat.reduceSub, Nat.reduceDiv, Nat.reduceBEq, Nat.reduceBneDiff, Nat.reduceBeqDiff]))
end Go.Proofs.Ytmmipjlogdggiaa
