/-
  Contracts of the reference: the step of an event, who writes, what is among numbers, what a copy stores. Contracts of the reference: the events of a program. Contracts of the reference: what an event reads or writes. Contracts of the reference: whether a way is one. Calls that take two rows and hand over one; all that may be told of whom events read from, by the reference.
-/
import Derived.Test.YtmmipjlogdggiaaNc
/-! ## Contracts of the reference: the step of an event, who writes, what is among numbers, what a copy stores -/
namespace Go.Proofs.Ytmmipjlogdggiaa
open Go.RowKit
set_option linter.unusedSimpArgs false
set_option linter.unusedVariables false
set_option pp.maxSteps 3000

/-- An event of a step of the program. -/
def evIn (p : Prog) (e : Evt) : Prop := ∃ (i : Nat) (l : List Do) (j : Nat) (d : Do), p[i]? = some l ∧ l[j]? = some d ∧ e.t = i ∧ e.s = j
theorem evIn_of {p : Prog} {e : Evt} (h : e ∈ events p) : evIn p e := by
  obtain ⟨i, l, j, d, h1, h2, h3, h4, _⟩ := mem_events h
  exact ⟨i, l, j, d, h1, h2, h3, h4⟩
theorem l12Do_fn (p : Prog) (e : Evt) (he : evIn p e) : Fp Try.prog 47 [progV p, e.V] (stepAt p e).V := by
  obtain ⟨i, l, j, d, hl, hd, h1, h2⟩ := he
  have hst : stepAt p e = d := by simp [stepAt, h1, h2, hl, hd]
  have hil := (List.getElem?_eq_some_iff.1 hl).1
  have hjl := (List.getElem?_eq_some_iff.1 hd).1
  rw [hst]
  refine Fc.start (S := []) Try.func47 Try.ntmps47 Try.results47 rfl (by decide) rfl (by kernel_rfl) ?_
  simp (maxSteps := 1000000) (disch := omega) only [push_cast, go_sem, wpS_tt, wpS_tf, wpS_ft, wpS_ff, wpCond_tt, wpCond_ff, Nat.reducePow, Int.reduceEq, Int.reduceLT, Int.reduceLE, Int.reduceAdd, Int.reduceSub, Int.reduceMul, Int.reduceToNat, Int.reduceBEq, Int.reduceBNe, ↓reduceIte, reduceCtorEq, Nat.reduceEqDiff, Nat.reduceAdd, Nat.reduceMul, Nat.reduceLT, Nat.reduceLeDiff, Nat.reduceSub, Nat.reduceDiv, Nat.reduceBEq, Nat.reduceBneDiff, Nat.reduceBeqDiff, progV_eq, Evt.V_eq]
  intro g1 g2 g3
  refine Sat.drawnE [] [] [1, 3, 5, 7, 9] (fun _ _ _ => none) (by kernel_rfl) (by kernel_rfl) ?_
  simp (maxSteps := 1000000) (disch := omega) only [push_cast, go_sem, wpS_tt, wpS_tf, wpS_ft, wpS_ff, wpCond_tt, wpCond_ff, Nat.reducePow, Int.reduceEq, Int.reduceLT, Int.reduceLE, Int.reduceAdd, Int.reduceSub, Int.reduceMul, Int.reduceToNat, Int.reduceBEq, Int.reduceBNe, ↓reduceIte, reduceCtorEq, Nat.reduceEqDiff, Nat.reduceAdd, Nat.reduceMul, Nat.reduceLT, Nat.reduceLeDiff, Nat.reduceSub, Nat.reduceDiv, Nat.reduceBEq, Nat.reduceBneDiff, Nat.reduceBeqDiff, h1, h2, hl, hd, hil, hjl, thrV_eq, Do.V_eq]
theorem l12Has_fn (zs : List Int) (x : Int) (hl : zs.length < 2 ^ 40) : Fp Try.prog 46 [intsV zs, .int .i64 x] (.bool (zs.contains x)) := by
  refine Fc.start (S := [6]) Try.func46 Try.ntmps46 Try.results46 rfl (by decide) rfl (by kernel_rfl) ?_
  simp (maxSteps := 1000000) (disch := omega) only [push_cast, go_sem, wpS_tt, wpS_tf, wpS_ft, wpS_ff, wpCond_tt, wpCond_ff, Nat.reducePow, Int.reduceEq, Int.reduceLT, Int.reduceLE, Int.reduceAdd, Int.reduceSub, Int.reduceMul, Int.reduceToNat, Int.reduceBEq, Int.reduceBNe, ↓reduceIte, reduceCtorEq, Nat.reduceEqDiff, Nat.reduceAdd, Nat.reduceMul, Nat.reduceLT, Nat.reduceLeDiff, Nat.reduceSub, Nat.reduceDiv, Nat.reduceBEq, Nat.reduceBneDiff, Nat.reduceBeqDiff, intsV_eq]
  refine Sat.loop (σ := Nat) (fun k => upd (upd (upd noT 0 (.sl (zs.map (V.int .i64)))) 1 (.int .i64 x)) 5 (.int .i64 k)) (fun _ => noM)
    (fun k => k ≤ zs.length ∧ zs.contains x = (zs.drop k).contains x) (fun k => zs.length - k) 0 (by simp) ?_ ?_
  · (refine Less.start ?_; repeat (first | exact LessO.nil | exact LessO.all | refine LessO.skip (by decide) ?_ | refine LessO.upd ?_ ?_ | refine LessO.set ?_ ?_)) <;> (try simp (maxSteps := 1000000) (disch := omega) only [push_cast, go_sem, wpS_tt, wpS_tf, wpS_ft, wpS_ff, wpCond_tt, wpCond_ff, Nat.reducePow, Int.reduceEq, Int.reduceLT, Int.reduceLE, Int.reduceAdd, Int.reduceSub, Int.reduceMul, Int.reduceToNat, Int.reduceBEq, Int.reduceBNe, ↓reduceIte, reduceCtorEq, Nat.reduceEqDiff, Nat.reduceAdd, Nat.reduceMul, Nat.reduceLT, Nat.reduceLeDiff, Nat.reduceSub, Nat.reduceDiv, Nat.reduceBEq, Nat.reduceBneDiff, Nat.reduceBeqDiff])
  rintro k ⟨hk, hc⟩ J hJ
  refine Sat.of (S := []) (by kernel_rfl) ?_
  rcases Nat.lt_or_ge k zs.length with hlt | hge
  · obtain ⟨z, hz⟩ : ∃ z, zs[k]? = some z := ⟨_, List.getElem?_eq_getElem hlt⟩
    rw [drop_get hz, List.contains_cons] at hc
    cases hx : (z == x)
    · simp (maxSteps := 1000000) (disch := omega) only [push_cast, go_sem, wpS_tt, wpS_tf, wpS_ft, wpS_ff, wpCond_tt, wpCond_ff, Nat.reducePow, Int.reduceEq, Int.reduceLT, Int.reduceLE, Int.reduceAdd, Int.reduceSub, Int.reduceMul, Int.reduceToNat, Int.reduceBEq, Int.reduceBNe, ↓reduceIte, reduceCtorEq, Nat.reduceEqDiff, Nat.reduceAdd, Nat.reduceMul, Nat.reduceLT, Nat.reduceLeDiff, Nat.reduceSub, Nat.reduceDiv, Nat.reduceBEq, Nat.reduceBneDiff, Nat.reduceBeqDiff, hz, hlt, hx]
      refine hJ (k + 1) _ _ ⟨by omega, ?_⟩ (by omega) ?_
      · rw [hc]
        have : (x == z) = false := beq_eq_false_iff_ne.2 fun h => beq_eq_false_iff_ne.1 hx h.symm
        rw [this, Bool.false_or]
      · (refine Less.start ?_; repeat (first | exact LessO.nil | exact LessO.all | refine LessO.skip (by decide) ?_ | refine LessO.upd ?_ ?_ | refine LessO.set ?_ ?_)) <;> (try simp (maxSteps := 1000000) (disch := omega) only [push_cast, go_sem, wpS_tt, wpS_tf, wpS_ft, wpS_ff, wpCond_tt, wpCond_ff, Nat.reducePow, Int.reduceEq, Int.reduceLT, Int.reduceLE, Int.reduceAdd, Int.reduceSub, Int.reduceMul, Int.reduceToNat, Int.reduceBEq, Int.reduceBNe, ↓reduceIte, reduceCtorEq, Nat.reduceEqDiff, Nat.reduceAdd, Nat.reduceMul, Nat.reduceLT, Nat.reduceLeDiff, Nat.reduceSub, Nat.reduceDiv, Nat.reduceBEq, Nat.reduceBneDiff, Nat.reduceBeqDiff])
    · simp (maxSteps := 1000000) (disch := omega) only [push_cast, go_sem, wpS_tt, wpS_tf, wpS_ft, wpS_ff, wpCond_tt, wpCond_ff, Nat.reducePow, Int.reduceEq, Int.reduceLT, Int.reduceLE, Int.reduceAdd, Int.reduceSub, Int.reduceMul, Int.reduceToNat, Int.reduceBEq, Int.reduceBNe, ↓reduceIte, reduceCtorEq, Nat.reduceEqDiff, Nat.reduceAdd, Nat.reduceMul, Nat.reduceLT, Nat.reduceLeDiff, Nat.reduceSub, Nat.reduceDiv, Nat.reduceBEq, Nat.reduceBneDiff, Nat.reduceBeqDiff, hz, hlt, hx]
      have : (x == z) = true := beq_iff_eq.2 (beq_iff_eq.1 hx).symm
      rw [hc, this]; rfl
  · have : k = zs.length := by omega
    subst this
    simp (maxSteps := 1000000) (disch := omega) only [push_cast, go_sem, wpS_tt, wpS_tf, wpS_ft, wpS_ff, wpCond_tt, wpCond_ff, Nat.reducePow, Int.reduceEq, Int.reduceLT, Int.reduceLE, Int.reduceAdd, Int.reduceSub, Int.reduceMul, Int.reduceToNat, Int.reduceBEq, Int.reduceBNe, ↓reduceIte, reduceCtorEq, Nat.reduceEqDiff, Nat.reduceAdd, Nat.reduceMul, Nat.reduceLT, Nat.reduceLeDiff, Nat.reduceSub, Nat.reduceDiv, Nat.reduceBEq, Nat.reduceBneDiff, Nat.reduceBeqDiff]
    refine Sat.of (S := []) (by kernel_rfl) ?_
    simp (maxSteps := 1000000) (disch := omega) only [push_cast, go_sem, wpS_tt, wpS_tf, wpS_ft, wpS_ff, wpCond_tt, wpCond_ff, Nat.reducePow, Int.reduceEq, Int.reduceLT, Int.reduceLE, Int.reduceAdd, Int.reduceSub, Int.reduceMul, Int.reduceToNat, Int.reduceBEq, Int.reduceBNe, ↓reduceIte, reduceCtorEq, Nat.reduceEqDiff, Nat.reduceAdd, Nat.reduceMul, Nat.reduceLT, Nat.reduceLeDiff, Nat.reduceSub, Nat.reduceDiv, Nat.reduceBEq, Nat.reduceBneDiff, Nat.reduceBeqDiff]
    rw [hc, List.drop_length]; rfl

theorem scene_get {p : Prog} {k : Nat} {e : Evt} (h : (events p)[k]? = some e) : (scene p).ds[k]? = some (stepAt p e) := by simp [scene, h]
theorem l12Writes_fn (p : Prog) (pl : Int) (hn : (events p).length ≤ 42) : Fp Try.prog 45 [progV p, .sl ((events p).map Evt.V), .int .i64 pl] (intsV (writersOf (scene p).ds pl)) := by
  have hsl : (scene p).ds.length = (events p).length := by simp [scene]
  refine (Fc.fzRow (R' := fun r m => ∃ s1 γ cap e es, r = .msl s1 [] γ es.length cap ∧ m s1 = some (.own e γ cap es) ∧ es.map V.fz = (writersOf (scene p).ds pl).map (V.int .i64)) ?_ (fun r m h => h))
  refine Fc.start (S := [8]) Try.func45 Try.ntmps45 Try.results45 rfl (by decide) rfl (by kernel_rfl) ?_
  simp (maxSteps := 1000000) (disch := omega) only [push_cast, go_sem, wpS_tt, wpS_tf, wpS_ft, wpS_ff, wpCond_tt, wpCond_ff, Nat.reducePow, Int.reduceEq, Int.reduceLT, Int.reduceLE, Int.reduceAdd, Int.reduceSub, Int.reduceMul, Int.reduceToNat, Int.reduceBEq, Int.reduceBNe, ↓reduceIte, reduceCtorEq, Nat.reduceEqDiff, Nat.reduceAdd, Nat.reduceMul, Nat.reduceLT, Nat.reduceLeDiff, Nat.reduceSub, Nat.reduceDiv, Nat.reduceBEq, Nat.reduceBneDiff, Nat.reduceBeqDiff, progV_eq]
  intro g1 g2
  refine Sat.loop (σ := EvS) (fun x => upd (upd (upd (upd (upd noT 3 (.ptr 3 [] 0 0 g1 1)) 1 (.sl ((events p).map Evt.V))) 2 (.int .i64 pl)) 7 (.msl 7 [] x.γ (wrs (scene p).ds pl x.k).length x.c)) 8 (.int .i64 x.k))
    (fun x => (noM.set 3 (.own 25 (some g1) 1 [.agg [.sl (p.map thrV)]])).set 7 (.own x.e x.γ x.c ((wrs (scene p).ds pl x.k).map (V.int .i64))))
    (fun x => x.k ≤ (events p).length ∧ (x.γ = none ∨ x.e = 3)) (fun x => (events p).length - x.k) ⟨0, 3, some g2, 0⟩ (by simp) ?_ ?_
  · (refine Less.start ?_; repeat (first | exact LessO.nil | exact LessO.all | refine LessO.skip (by decide) ?_ | refine LessO.upd ?_ ?_ | refine LessO.set ?_ ?_)) <;> (try simp (maxSteps := 1000000) (disch := omega) only [push_cast, go_sem, wpS_tt, wpS_tf, wpS_ft, wpS_ff, wpCond_tt, wpCond_ff, Nat.reducePow, Int.reduceEq, Int.reduceLT, Int.reduceLE, Int.reduceAdd, Int.reduceSub, Int.reduceMul, Int.reduceToNat, Int.reduceBEq, Int.reduceBNe, ↓reduceIte, reduceCtorEq, Nat.reduceEqDiff, Nat.reduceAdd, Nat.reduceMul, Nat.reduceLT, Nat.reduceLeDiff, Nat.reduceSub, Nat.reduceDiv, Nat.reduceBEq, Nat.reduceBneDiff, Nat.reduceBeqDiff])
    all_goals rfl
  rintro ⟨k, e, γ, c⟩ ⟨hk, hγ⟩ J hJ
  refine Sat.of (S := []) (by kernel_rfl) ?_
  simp only at hk hγ hJ
  have hb := wrs_le (scene p).ds pl k
  rcases Nat.lt_or_ge k (events p).length with hlt | hge
  · obtain ⟨ev, he⟩ : ∃ d, (events p)[k]? = some d := ⟨_, List.getElem?_eq_getElem hlt⟩
    obtain ⟨d, hst⟩ : ∃ d, stepAt p ev = d := ⟨_, rfl⟩
    have hd := scene_get he
    have hdo := l12Do_fn p ev (evIn_of (List.mem_of_getElem? he))
    rw [hst] at hd hdo
    have hγ' : (γ = none ∨ e = 3) = True := by simp only [hγ]
    have hn1 : k + 1 ≤ (events p).length := by omega
    have hm : (events p).length - (k + 1) < (events p).length - k := by omega
    have same : (d.writes && d.p == pl) = false → wrs (scene p).ds pl (k + 1) = wrs (scene p).ds pl k := fun h => by simp only [wrs, hd, h]; simp
    simp (maxSteps := 1000000) (disch := omega) only [push_cast, go_sem, wpS_tt, wpS_tf, wpS_ft, wpS_ff, wpCond_tt, wpCond_ff, Nat.reducePow, Int.reduceEq, Int.reduceLT, Int.reduceLE, Int.reduceAdd, Int.reduceSub, Int.reduceMul, Int.reduceToNat, Int.reduceBEq, Int.reduceBNe, ↓reduceIte, reduceCtorEq, Nat.reduceEqDiff, Nat.reduceAdd, Nat.reduceMul, Nat.reduceLT, Nat.reduceLeDiff, Nat.reduceSub, Nat.reduceDiv, Nat.reduceBEq, Nat.reduceBneDiff, Nat.reduceBeqDiff, he, hlt, Evt.V_eq]
    refine Sat.drawnE [(0, 6), (4, 6), (5, 6)] [] [0, 4, 5] (pureT [(47, d.V)]) (by kernel_rfl) (by kernel_rfl) ?_
    simp (maxSteps := 1000000) (disch := omega) only [push_cast, go_sem, wpS_tt, wpS_tf, wpS_ft, wpS_ff, wpCond_tt, wpCond_ff, Nat.reducePow, Int.reduceEq, Int.reduceLT, Int.reduceLE, Int.reduceAdd, Int.reduceSub, Int.reduceMul, Int.reduceToNat, Int.reduceBEq, Int.reduceBNe, ↓reduceIte, reduceCtorEq, Nat.reduceEqDiff, Nat.reduceAdd, Nat.reduceMul, Nat.reduceLT, Nat.reduceLeDiff, Nat.reduceSub, Nat.reduceDiv, Nat.reduceBEq, Nat.reduceBneDiff, Nat.reduceBeqDiff, he, hlt, Evt.V_eq]
    refine runD_pure rfl hdo rfl rfl ?_ ?_
    · rfl
    simp (maxSteps := 1000000) (disch := omega) only [push_cast, go_sem, wpS_tt, wpS_tf, wpS_ft, wpS_ff, wpCond_tt, wpCond_ff, Nat.reducePow, Int.reduceEq, Int.reduceLT, Int.reduceLE, Int.reduceAdd, Int.reduceSub, Int.reduceMul, Int.reduceToNat, Int.reduceBEq, Int.reduceBNe, ↓reduceIte, reduceCtorEq, Nat.reduceEqDiff, Nat.reduceAdd, Nat.reduceMul, Nat.reduceLT, Nat.reduceLeDiff, Nat.reduceSub, Nat.reduceDiv, Nat.reduceBEq, Nat.reduceBneDiff, Nat.reduceBeqDiff, Do.V_eq]
    intro g3
    refine callR.pure (l1Writes_fn d) rfl rfl ?_
    cases hw : d.writes
    · simp (maxSteps := 1000000) (disch := omega) only [push_cast, go_sem, wpS_tt, wpS_tf, wpS_ft, wpS_ff, wpCond_tt, wpCond_ff, Nat.reducePow, Int.reduceEq, Int.reduceLT, Int.reduceLE, Int.reduceAdd, Int.reduceSub, Int.reduceMul, Int.reduceToNat, Int.reduceBEq, Int.reduceBNe, ↓reduceIte, reduceCtorEq, Nat.reduceEqDiff, Nat.reduceAdd, Nat.reduceMul, Nat.reduceLT, Nat.reduceLeDiff, Nat.reduceSub, Nat.reduceDiv, Nat.reduceBEq, Nat.reduceBneDiff, Nat.reduceBeqDiff]
      refine hJ ⟨k + 1, e, γ, c⟩ _ _ ⟨hn1, hγ⟩ hm ?_
      (refine Less.start ?_; repeat (first | exact LessO.nil | exact LessO.all | refine LessO.skip (by decide) ?_ | refine LessO.upd ?_ ?_ | refine LessO.set ?_ ?_)) <;> (try simp (maxSteps := 1000000) (disch := omega) only [push_cast, go_sem, wpS_tt, wpS_tf, wpS_ft, wpS_ff, wpCond_tt, wpCond_ff, Nat.reducePow, Int.reduceEq, Int.reduceLT, Int.reduceLE, Int.reduceAdd, Int.reduceSub, Int.reduceMul, Int.reduceToNat, Int.reduceBEq, Int.reduceBNe, ↓reduceIte, reduceCtorEq, Nat.reduceEqDiff, Nat.reduceAdd, Nat.reduceMul, Nat.reduceLT, Nat.reduceLeDiff, Nat.reduceSub, Nat.reduceDiv, Nat.reduceBEq, Nat.reduceBneDiff, Nat.reduceBeqDiff])
      all_goals rw [same (by rw [hw]; rfl)]
    · cases hp : (d.p == pl)
      · simp (maxSteps := 1000000) (disch := omega) only [push_cast, go_sem, wpS_tt, wpS_tf, wpS_ft, wpS_ff, wpCond_tt, wpCond_ff, Nat.reducePow, Int.reduceEq, Int.reduceLT, Int.reduceLE, Int.reduceAdd, Int.reduceSub, Int.reduceMul, Int.reduceToNat, Int.reduceBEq, Int.reduceBNe, ↓reduceIte, reduceCtorEq, Nat.reduceEqDiff, Nat.reduceAdd, Nat.reduceMul, Nat.reduceLT, Nat.reduceLeDiff, Nat.reduceSub, Nat.reduceDiv, Nat.reduceBEq, Nat.reduceBneDiff, Nat.reduceBeqDiff, hp]
        refine hJ ⟨k + 1, e, γ, c⟩ _ _ ⟨hn1, hγ⟩ hm ?_
        (refine Less.start ?_; repeat (first | exact LessO.nil | exact LessO.all | refine LessO.skip (by decide) ?_ | refine LessO.upd ?_ ?_ | refine LessO.set ?_ ?_)) <;> (try simp (maxSteps := 1000000) (disch := omega) only [push_cast, go_sem, wpS_tt, wpS_tf, wpS_ft, wpS_ff, wpCond_tt, wpCond_ff, Nat.reducePow, Int.reduceEq, Int.reduceLT, Int.reduceLE, Int.reduceAdd, Int.reduceSub, Int.reduceMul, Int.reduceToNat, Int.reduceBEq, Int.reduceBNe, ↓reduceIte, reduceCtorEq, Nat.reduceEqDiff, Nat.reduceAdd, Nat.reduceMul, Nat.reduceLT, Nat.reduceLeDiff, Nat.reduceSub, Nat.reduceDiv, Nat.reduceBEq, Nat.reduceBneDiff, Nat.reduceBeqDiff])
        all_goals rw [same (by rw [hw, hp]; rfl)]
      · simp (maxSteps := 1000000) (disch := omega) only [push_cast, go_sem, wpS_tt, wpS_tf, wpS_ft, wpS_ff, wpCond_tt, wpCond_ff, Nat.reducePow, Int.reduceEq, Int.reduceLT, Int.reduceLE, Int.reduceAdd, Int.reduceSub, Int.reduceMul, Int.reduceToNat, Int.reduceBEq, Int.reduceBNe, ↓reduceIte, reduceCtorEq, Nat.reduceEqDiff, Nat.reduceAdd, Nat.reduceMul, Nat.reduceLT, Nat.reduceLeDiff, Nat.reduceSub, Nat.reduceDiv, Nat.reduceBEq, Nat.reduceBneDiff, Nat.reduceBeqDiff, hp, hγ']
        intro g4
        refine ⟨by omega, fun γ2 c2 _ => ?_⟩
        refine hJ ⟨k + 1, 3, γ2, c2⟩ _ _ ⟨hn1, .inr rfl⟩ hm ?_
        (refine Less.start ?_; repeat (first | exact LessO.nil | exact LessO.all | refine LessO.skip (by decide) ?_ | refine LessO.upd ?_ ?_ | refine LessO.set ?_ ?_)) <;> (try simp (maxSteps := 1000000) (disch := omega) only [push_cast, go_sem, wpS_tt, wpS_tf, wpS_ft, wpS_ff, wpCond_tt, wpCond_ff, Nat.reducePow, Int.reduceEq, Int.reduceLT, Int.reduceLE, Int.reduceAdd, Int.reduceSub, Int.reduceMul, Int.reduceToNat, Int.reduceBEq, Int.reduceBNe, ↓reduceIte, reduceCtorEq, Nat.reduceEqDiff, Nat.reduceAdd, Nat.reduceMul, Nat.reduceLT, Nat.reduceLeDiff, Nat.reduceSub, Nat.reduceDiv, Nat.reduceBEq, Nat.reduceBneDiff, Nat.reduceBeqDiff])
        all_goals simp [wrs, hd, hw, hp]
  · have : k = (events p).length := by omega
    subst this
    simp (maxSteps := 1000000) (disch := omega) only [push_cast, go_sem, wpS_tt, wpS_tf, wpS_ft, wpS_ff, wpCond_tt, wpCond_ff, Nat.reducePow, Int.reduceEq, Int.reduceLT, Int.reduceLE, Int.reduceAdd, Int.reduceSub, Int.reduceMul, Int.reduceToNat, Int.reduceBEq, Int.reduceBNe, ↓reduceIte, reduceCtorEq, Nat.reduceEqDiff, Nat.reduceAdd, Nat.reduceMul, Nat.reduceLT, Nat.reduceLeDiff, Nat.reduceSub, Nat.reduceDiv, Nat.reduceBEq, Nat.reduceBneDiff, Nat.reduceBeqDiff]
    refine Sat.of (S := []) (by kernel_rfl) ?_
    simp (maxSteps := 1000000) (disch := omega) only [push_cast, go_sem, wpS_tt, wpS_tf, wpS_ft, wpS_ff, wpCond_tt, wpCond_ff, Nat.reducePow, Int.reduceEq, Int.reduceLT, Int.reduceLE, Int.reduceAdd, Int.reduceSub, Int.reduceMul, Int.reduceToNat, Int.reduceBEq, Int.reduceBNe, ↓reduceIte, reduceCtorEq, Nat.reduceEqDiff, Nat.reduceAdd, Nat.reduceMul, Nat.reduceLT, Nat.reduceLeDiff, Nat.reduceSub, Nat.reduceDiv, Nat.reduceBEq, Nat.reduceBneDiff, Nat.reduceBeqDiff]
    refine ⟨_, fun _ _ h => h, 6, γ, c, e, (wrs (scene p).ds pl (events p).length).map (V.int .i64), by rw [List.length_map], by simp [Mem.set], ?_⟩
    rw [fzs_int, ← hsl]; rfl
/-- The last read of its own thread ahead. -/
def srcOf (es : List Evt) (ds : List Do) (i : Nat) : Nat → Int
  | 0 => -1
  | k + 1 => if (es[k]?.getD default).t == (es[i]?.getD default).t && (ds[k]?.getD default).reads then (k : Int) else srcOf es ds i k
theorem l12Source_fn (p : Prog) (i : Nat) (hn : (events p).length ≤ 42) (hi : i < (events p).length) : Fp Try.prog 77 [progV p, .sl ((events p).map Evt.V), .int .i64 i] (.int .i64 (srcOf (events p) (scene p).ds i i)) := by
  obtain ⟨ei, hei⟩ : ∃ e, (events p)[i]? = some e := ⟨_, List.getElem?_eq_getElem hi⟩
  refine Fc.start (S := [6]) Try.func77 Try.ntmps77 Try.results77 rfl (by decide) rfl (by kernel_rfl) ?_
  simp (maxSteps := 1000000) (disch := omega) only [push_cast, go_sem, wpS_tt, wpS_tf, wpS_ft, wpS_ff, wpCond_tt, wpCond_ff, Nat.reducePow, Int.reduceEq, Int.reduceLT, Int.reduceLE, Int.reduceAdd, Int.reduceSub, Int.reduceMul, Int.reduceToNat, Int.reduceBEq, Int.reduceBNe, ↓reduceIte, reduceCtorEq, Nat.reduceEqDiff, Nat.reduceAdd, Nat.reduceMul, Nat.reduceLT, Nat.reduceLeDiff, Nat.reduceSub, Nat.reduceDiv, Nat.reduceBEq, Nat.reduceBneDiff, Nat.reduceBeqDiff, progV_eq]
  intro g1
  refine Sat.loop (σ := Nat) (fun k => upd (upd (upd (upd noT 3 (.ptr 3 [] 0 0 g1 1)) 1 (.sl ((events p).map Evt.V))) 2 (.int .i64 i)) 7 (.int .i64 ((k : Int) - 1))) (fun _ => noM.set 3 (.own 25 (some g1) 1 [.agg [.sl (p.map thrV)]]))
    (fun k => k ≤ i ∧ srcOf (events p) (scene p).ds i i = srcOf (events p) (scene p).ds i k) (fun k => k) i (by simp) ?_ ?_
  · (refine Less.start ?_; repeat (first | exact LessO.nil | exact LessO.all | refine LessO.skip (by decide) ?_ | refine LessO.upd ?_ ?_ | refine LessO.set ?_ ?_)) <;> (try simp (maxSteps := 1000000) (disch := omega) only [push_cast, go_sem, wpS_tt, wpS_tf, wpS_ft, wpS_ff, wpCond_tt, wpCond_ff, Nat.reducePow, Int.reduceEq, Int.reduceLT, Int.reduceLE, Int.reduceAdd, Int.reduceSub, Int.reduceMul, Int.reduceToNat, Int.reduceBEq, Int.reduceBNe, ↓reduceIte, reduceCtorEq, Nat.reduceEqDiff, Nat.reduceAdd, Nat.reduceMul, Nat.reduceLT, Nat.reduceLeDiff, Nat.reduceSub, Nat.reduceDiv, Nat.reduceBEq, Nat.reduceBneDiff, Nat.reduceBeqDiff])
    all_goals rfl
  rintro k ⟨hk, hs⟩ J hJ
  refine Sat.of (S := []) (by kernel_rfl) ?_
  cases k with
  | zero =>
    simp (maxSteps := 1000000) (disch := omega) only [push_cast, go_sem, wpS_tt, wpS_tf, wpS_ft, wpS_ff, wpCond_tt, wpCond_ff, Nat.reducePow, Int.reduceEq, Int.reduceLT, Int.reduceLE, Int.reduceAdd, Int.reduceSub, Int.reduceMul, Int.reduceToNat, Int.reduceBEq, Int.reduceBNe, ↓reduceIte, reduceCtorEq, Nat.reduceEqDiff, Nat.reduceAdd, Nat.reduceMul, Nat.reduceLT, Nat.reduceLeDiff, Nat.reduceSub, Nat.reduceDiv, Nat.reduceBEq, Nat.reduceBneDiff, Nat.reduceBeqDiff]
    refine Sat.of (S := []) (by kernel_rfl) ?_
    simp (maxSteps := 1000000) (disch := omega) only [push_cast, go_sem, wpS_tt, wpS_tf, wpS_ft, wpS_ff, wpCond_tt, wpCond_ff, Nat.reducePow, Int.reduceEq, Int.reduceLT, Int.reduceLE, Int.reduceAdd, Int.reduceSub, Int.reduceMul, Int.reduceToNat, Int.reduceBEq, Int.reduceBNe, ↓reduceIte, reduceCtorEq, Nat.reduceEqDiff, Nat.reduceAdd, Nat.reduceMul, Nat.reduceLT, Nat.reduceLeDiff, Nat.reduceSub, Nat.reduceDiv, Nat.reduceBEq, Nat.reduceBneDiff, Nat.reduceBeqDiff]
    rw [hs]; rfl
  | succ k =>
    obtain ⟨ek, hek⟩ : ∃ e, (events p)[k]? = some e := ⟨_, List.getElem?_eq_getElem (by omega)⟩
    have hdo := l12Do_fn p ek (evIn_of (List.mem_of_getElem? hek))
    have hk1 : (((k + 1 : Nat) : Int) - 1) = (k : Int) := by omega
    have hkl : k < (events p).length := by omega
    have hg := scene_get hek
    have hs' : srcOf (events p) (scene p).ds i (k + 1) = if ek.t == ei.t && (stepAt p ek).reads then (k : Int) else srcOf (events p) (scene p).ds i k := by
      rw [srcOf, hek, hei, hg]; rfl
    rw [hk1]
    simp (maxSteps := 1000000) (disch := omega) only [push_cast, go_sem, wpS_tt, wpS_tf, wpS_ft, wpS_ff, wpCond_tt, wpCond_ff, Nat.reducePow, Int.reduceEq, Int.reduceLT, Int.reduceLE, Int.reduceAdd, Int.reduceSub, Int.reduceMul, Int.reduceToNat, Int.reduceBEq, Int.reduceBNe, ↓reduceIte, reduceCtorEq, Nat.reduceEqDiff, Nat.reduceAdd, Nat.reduceMul, Nat.reduceLT, Nat.reduceLeDiff, Nat.reduceSub, Nat.reduceDiv, Nat.reduceBEq, Nat.reduceBneDiff, Nat.reduceBeqDiff, hek, hkl, hei, hi, Evt.V_eq]
    cases ht : (ek.t == ei.t)
    · refine Sat.drawnE [] [] [4, 9, 12, 16, 17, 18] (pureT [(47, (stepAt p ek).V), (43, .bool (stepAt p ek).reads)]) (by kernel_rfl) (by kernel_rfl) ?_
      simp (maxSteps := 1000000) (disch := omega) only [push_cast, go_sem, wpS_tt, wpS_tf, wpS_ft, wpS_ff, wpCond_tt, wpCond_ff, Nat.reducePow, Int.reduceEq, Int.reduceLT, Int.reduceLE, Int.reduceAdd, Int.reduceSub, Int.reduceMul, Int.reduceToNat, Int.reduceBEq, Int.reduceBNe, ↓reduceIte, reduceCtorEq, Nat.reduceEqDiff, Nat.reduceAdd, Nat.reduceMul, Nat.reduceLT, Nat.reduceLeDiff, Nat.reduceSub, Nat.reduceDiv, Nat.reduceBEq, Nat.reduceBneDiff, Nat.reduceBeqDiff, hek, hkl, hei, hi, Evt.V_eq, ht]
      refine hJ k _ _ ⟨by omega, by rw [hs, hs', ht]; rfl⟩ (by omega) ?_
      (refine Less.start ?_; repeat (first | exact LessO.nil | exact LessO.all | refine LessO.skip (by decide) ?_ | refine LessO.upd ?_ ?_ | refine LessO.set ?_ ?_)) <;> (try simp (maxSteps := 1000000) (disch := omega) only [push_cast, go_sem, wpS_tt, wpS_tf, wpS_ft, wpS_ff, wpCond_tt, wpCond_ff, Nat.reducePow, Int.reduceEq, Int.reduceLT, Int.reduceLE, Int.reduceAdd, Int.reduceSub, Int.reduceMul, Int.reduceToNat, Int.reduceBEq, Int.reduceBNe, ↓reduceIte, reduceCtorEq, Nat.reduceEqDiff, Nat.reduceAdd, Nat.reduceMul, Nat.reduceLT, Nat.reduceLeDiff, Nat.reduceSub, Nat.reduceDiv, Nat.reduceBEq, Nat.reduceBneDiff, Nat.reduceBeqDiff])
    · refine Sat.drawnE [] [] [4, 9, 12, 16, 17, 18] (pureT [(47, (stepAt p ek).V), (43, .bool (stepAt p ek).reads)]) (by kernel_rfl) (by kernel_rfl) ?_
      simp (maxSteps := 1000000) (disch := omega) only [push_cast, go_sem, wpS_tt, wpS_tf, wpS_ft, wpS_ff, wpCond_tt, wpCond_ff, Nat.reducePow, Int.reduceEq, Int.reduceLT, Int.reduceLE, Int.reduceAdd, Int.reduceSub, Int.reduceMul, Int.reduceToNat, Int.reduceBEq, Int.reduceBNe, ↓reduceIte, reduceCtorEq, Nat.reduceEqDiff, Nat.reduceAdd, Nat.reduceMul, Nat.reduceLT, Nat.reduceLeDiff, Nat.reduceSub, Nat.reduceDiv, Nat.reduceBEq, Nat.reduceBneDiff, Nat.reduceBeqDiff, hek, hkl, hei, hi, Evt.V_eq, ht]
      refine runD_pure rfl hdo rfl rfl ?_ ?_
      · rfl
      simp (maxSteps := 1000000) (disch := omega) only [push_cast, go_sem, wpS_tt, wpS_tf, wpS_ft, wpS_ff, wpCond_tt, wpCond_ff, Nat.reducePow, Int.reduceEq, Int.reduceLT, Int.reduceLE, Int.reduceAdd, Int.reduceSub, Int.reduceMul, Int.reduceToNat, Int.reduceBEq, Int.reduceBNe, ↓reduceIte, reduceCtorEq, Nat.reduceEqDiff, Nat.reduceAdd, Nat.reduceMul, Nat.reduceLT, Nat.reduceLeDiff, Nat.reduceSub, Nat.reduceDiv, Nat.reduceBEq, Nat.reduceBneDiff, Nat.reduceBeqDiff]
      refine runD_pure rfl (l1Reads_fn (stepAt p ek)) rfl rfl ?_ ?_
      · rfl
      cases hr : (stepAt p ek).reads
      · simp (maxSteps := 1000000) (disch := omega) only [push_cast, go_sem, wpS_tt, wpS_tf, wpS_ft, wpS_ff, wpCond_tt, wpCond_ff, Nat.reducePow, Int.reduceEq, Int.reduceLT, Int.reduceLE, Int.reduceAdd, Int.reduceSub, Int.reduceMul, Int.reduceToNat, Int.reduceBEq, Int.reduceBNe, ↓reduceIte, reduceCtorEq, Nat.reduceEqDiff, Nat.reduceAdd, Nat.reduceMul, Nat.reduceLT, Nat.reduceLeDiff, Nat.reduceSub, Nat.reduceDiv, Nat.reduceBEq, Nat.reduceBneDiff, Nat.reduceBeqDiff]
        refine hJ k _ _ ⟨by omega, by rw [hs, hs', hr, Bool.and_false]; rfl⟩ (by omega) ?_
        (refine Less.start ?_; repeat (first | exact LessO.nil | exact LessO.all | refine LessO.skip (by decide) ?_ | refine LessO.upd ?_ ?_ | refine LessO.set ?_ ?_)) <;> (try simp (maxSteps := 1000000) (disch := omega) only [push_cast, go_sem, wpS_tt, wpS_tf, wpS_ft, wpS_ff, wpCond_tt, wpCond_ff, Nat.reducePow, Int.reduceEq, Int.reduceLT, Int.reduceLE, Int.reduceAdd, Int.reduceSub, Int.reduceMul, Int.reduceToNat, Int.reduceBEq, Int.reduceBNe, ↓reduceIte, reduceCtorEq, Nat.reduceEqDiff, Nat.reduceAdd, Nat.reduceMul, Nat.reduceLT, Nat.reduceLeDiff, Nat.reduceSub, Nat.reduceDiv, Nat.reduceBEq, Nat.reduceBneDiff, Nat.reduceBeqDiff])
      · simp (maxSteps := 1000000) (disch := omega) only [push_cast, go_sem, wpS_tt, wpS_tf, wpS_ft, wpS_ff, wpCond_tt, wpCond_ff, Nat.reducePow, Int.reduceEq, Int.reduceLT, Int.reduceLE, Int.reduceAdd, Int.reduceSub, Int.reduceMul, Int.reduceToNat, Int.reduceBEq, Int.reduceBNe, ↓reduceIte, reduceCtorEq, Nat.reduceEqDiff, Nat.reduceAdd, Nat.reduceMul, Nat.reduceLT, Nat.reduceLeDiff, Nat.reduceSub, Nat.reduceDiv, Nat.reduceBEq, Nat.reduceBneDiff, Nat.reduceBeqDiff]
        rw [hs, hs', ht, hr]; rfl
end Go.Proofs.Ytmmipjlogdggiaa
/-! ## Contracts of the reference: the events of a program -/
namespace Go.Proofs.Ytmmipjlogdggiaa
open Go.RowKit
set_option linter.unusedSimpArgs false
set_option linter.unusedVariables false
set_option pp.maxSteps 3000

theorem specExecEvents_fn (p : Prog) (hp : p.length < 2 ^ 40) : Fp Try.prog 20 [progV p] (.sl ((if progOk p then events p else []).map Evt.V)) := by
  refine (Fc.fzRow (R' := fun r m => ∃ s1 γ cap e es, r = .msl s1 [] γ es.length cap ∧ m s1 = some (.own e γ cap es) ∧ es.map V.fz = (if progOk p then events p else []).map Evt.V) ?_ (fun r m h => h))
  cases hok : progOk p
  · refine Fc.start (S := []) Try.func20 Try.ntmps20 Try.results20 rfl (by decide) rfl (by kernel_rfl) ?_
    simp (maxSteps := 1000000) (disch := omega) only [push_cast, go_sem, wpS_tt, wpS_tf, wpS_ft, wpS_ff, wpCond_tt, wpCond_ff, Nat.reducePow, Int.reduceEq, Int.reduceLT, Int.reduceLE, Int.reduceAdd, Int.reduceSub, Int.reduceMul, Int.reduceToNat, Int.reduceBEq, Int.reduceBNe, ↓reduceIte, reduceCtorEq, Nat.reduceEqDiff, Nat.reduceAdd, Nat.reduceMul, Nat.reduceLT, Nat.reduceLeDiff, Nat.reduceSub, Nat.reduceDiv, Nat.reduceBEq, Nat.reduceBneDiff, Nat.reduceBeqDiff, progV_eq]
    intro g1 g2
    refine callR.pure (specProgOk_fn p hp) rfl rfl ?_
    simp (maxSteps := 1000000) (disch := omega) only [push_cast, go_sem, wpS_tt, wpS_tf, wpS_ft, wpS_ff, wpCond_tt, wpCond_ff, Nat.reducePow, Int.reduceEq, Int.reduceLT, Int.reduceLE, Int.reduceAdd, Int.reduceSub, Int.reduceMul, Int.reduceToNat, Int.reduceBEq, Int.reduceBNe, ↓reduceIte, reduceCtorEq, Nat.reduceEqDiff, Nat.reduceAdd, Nat.reduceMul, Nat.reduceLT, Nat.reduceLeDiff, Nat.reduceSub, Nat.reduceDiv, Nat.reduceBEq, Nat.reduceBneDiff, Nat.reduceBeqDiff, hok]
    exact ⟨_, fun _ _ h => h, 2, some g2, 0, 73, [], rfl, by simp [Mem.set], rfl⟩
  have hok' := hok
  simp only [progOk, Bool.and_eq_true, decide_eq_true_eq, List.all_eq_true] at hok'
  obtain ⟨⟨⟨hp3, hth⟩, _⟩, _⟩ := hok'
  have h7 : ∀ l ∈ p, l.length ≤ 7 := fun l h => threadOk_le (hth l h)
  refine Fc.start (S := [13]) Try.func20 Try.ntmps20 Try.results20 rfl (by decide) rfl (by kernel_rfl) ?_
  simp (maxSteps := 1000000) (disch := omega) only [push_cast, go_sem, wpS_tt, wpS_tf, wpS_ft, wpS_ff, wpCond_tt, wpCond_ff, Nat.reducePow, Int.reduceEq, Int.reduceLT, Int.reduceLE, Int.reduceAdd, Int.reduceSub, Int.reduceMul, Int.reduceToNat, Int.reduceBEq, Int.reduceBNe, ↓reduceIte, reduceCtorEq, Nat.reduceEqDiff, Nat.reduceAdd, Nat.reduceMul, Nat.reduceLT, Nat.reduceLeDiff, Nat.reduceSub, Nat.reduceDiv, Nat.reduceBEq, Nat.reduceBneDiff, Nat.reduceBeqDiff, progV_eq]
  intro g g2
  refine callR.pure (specProgOk_fn p hp) rfl rfl ?_
  simp (maxSteps := 1000000) (disch := omega) only [push_cast, go_sem, wpS_tt, wpS_tf, wpS_ft, wpS_ff, wpCond_tt, wpCond_ff, Nat.reducePow, Int.reduceEq, Int.reduceLT, Int.reduceLE, Int.reduceAdd, Int.reduceSub, Int.reduceMul, Int.reduceToNat, Int.reduceBEq, Int.reduceBNe, ↓reduceIte, reduceCtorEq, Nat.reduceEqDiff, Nat.reduceAdd, Nat.reduceMul, Nat.reduceLT, Nat.reduceLeDiff, Nat.reduceSub, Nat.reduceDiv, Nat.reduceBEq, Nat.reduceBneDiff, Nat.reduceBeqDiff, hok]
  refine Sat.loop (σ := EvS) (fun x => upd (upd (upd noT 1 (.ptr 1 [] 0 0 g 1)) 4 (.int .i64 x.k)) 3 (.msl 3 [] x.γ (evPro p x.k).length x.c))
    (fun x => (noM.set 1 (.own 25 (some g) 1 [.agg [.sl (p.map thrV)]])).set 3 (.own x.e x.γ x.c ((evPro p x.k).map Evt.V)))
    (fun x => x.k ≤ p.length ∧ (x.γ = none ∨ x.e = 73)) (fun x => p.length - x.k) ⟨0, 73, some g2, 0⟩ (by simp) ?_ ?_
  · (refine Less.start ?_; repeat (first | exact LessO.nil | exact LessO.all | refine LessO.skip (by decide) ?_ | refine LessO.upd ?_ ?_ | refine LessO.set ?_ ?_)) <;> (try simp (maxSteps := 1000000) (disch := omega) only [push_cast, go_sem, wpS_tt, wpS_tf, wpS_ft, wpS_ff, wpCond_tt, wpCond_ff, Nat.reducePow, Int.reduceEq, Int.reduceLT, Int.reduceLE, Int.reduceAdd, Int.reduceSub, Int.reduceMul, Int.reduceToNat, Int.reduceBEq, Int.reduceBNe, ↓reduceIte, reduceCtorEq, Nat.reduceEqDiff, Nat.reduceAdd, Nat.reduceMul, Nat.reduceLT, Nat.reduceLeDiff, Nat.reduceSub, Nat.reduceDiv, Nat.reduceBEq, Nat.reduceBneDiff, Nat.reduceBeqDiff])
    all_goals rfl
  rintro ⟨i, e, γ, c⟩ ⟨hi, hγ⟩ J hJ
  refine Sat.of (S := [1001]) (by kernel_rfl) ?_
  simp only at hi hγ hJ
  have hb := evPro_le p h7 i
  rcases Nat.lt_or_ge i p.length with hlt | hge
  · obtain ⟨l, he⟩ : ∃ l, p[i]? = some l := ⟨_, List.getElem?_eq_getElem hlt⟩
    have hl7 := h7 l (List.mem_of_getElem? he)
    simp (maxSteps := 1000000) (disch := omega) only [push_cast, go_sem, wpS_tt, wpS_tf, wpS_ft, wpS_ff, wpCond_tt, wpCond_ff, Nat.reducePow, Int.reduceEq, Int.reduceLT, Int.reduceLE, Int.reduceAdd, Int.reduceSub, Int.reduceMul, Int.reduceToNat, Int.reduceBEq, Int.reduceBNe, ↓reduceIte, reduceCtorEq, Nat.reduceEqDiff, Nat.reduceAdd, Nat.reduceMul, Nat.reduceLT, Nat.reduceLeDiff, Nat.reduceSub, Nat.reduceDiv, Nat.reduceBEq, Nat.reduceBneDiff, Nat.reduceBeqDiff, he, hlt, thrV_eq]
    have T2 : ∀ k, k ≤ l.length → (evPro p i ++ evThr i l k).length ≤ 60 := by
      intro k hk
      have := evThr_le i l k
      rw [List.length_append]; omega
    refine Sat.cut (σ := Rw) [] (fun x => upd (upd (upd noT 1 (.ptr 1 [] 0 0 g 1)) 4 (.int .i64 i)) 3 (.msl 3 [] x.γ (evPro p (i + 1)).length x.c))
      (fun x => (noM.set 1 (.own 25 (some g) 1 [.agg [.sl (p.map thrV)]])).set 3 (.own x.e x.γ x.c ((evPro p (i + 1)).map Evt.V))) (fun x => x.γ = none ∨ x.e = 73) (by kernel_rfl) ?_ ?_
    · simp (maxSteps := 1000000) (disch := omega) only [push_cast, go_sem, wpS_tt, wpS_tf, wpS_ft, wpS_ff, wpCond_tt, wpCond_ff, Nat.reducePow, Int.reduceEq, Int.reduceLT, Int.reduceLE, Int.reduceAdd, Int.reduceSub, Int.reduceMul, Int.reduceToNat, Int.reduceBEq, Int.reduceBNe, ↓reduceIte, reduceCtorEq, Nat.reduceEqDiff, Nat.reduceAdd, Nat.reduceMul, Nat.reduceLT, Nat.reduceLeDiff, Nat.reduceSub, Nat.reduceDiv, Nat.reduceBEq, Nat.reduceBneDiff, Nat.reduceBeqDiff, he, hlt, thrV_eq]
      refine Sat.loop (σ := EvS) (fun x => upd (upd (upd (upd noT 1 (.ptr 1 [] 0 0 g 1)) 4 (.int .i64 i)) 5 (.int .i64 x.k)) 3 (.msl 3 [] x.γ (evPro p i ++ evThr i l x.k).length x.c))
        (fun x => (noM.set 1 (.own 25 (some g) 1 [.agg [.sl (p.map thrV)]])).set 3 (.own x.e x.γ x.c ((evPro p i ++ evThr i l x.k).map Evt.V)))
        (fun x => x.k ≤ l.length ∧ (x.γ = none ∨ x.e = 73)) (fun x => l.length - x.k) ⟨0, e, γ, c⟩ (by simp [hγ]) ?_ ?_
      · (refine Less.start ?_; repeat (first | exact LessO.nil | exact LessO.all | refine LessO.skip (by decide) ?_ | refine LessO.upd ?_ ?_ | refine LessO.set ?_ ?_)) <;> (try simp (maxSteps := 1000000) (disch := omega) only [push_cast, go_sem, wpS_tt, wpS_tf, wpS_ft, wpS_ff, wpCond_tt, wpCond_ff, Nat.reducePow, Int.reduceEq, Int.reduceLT, Int.reduceLE, Int.reduceAdd, Int.reduceSub, Int.reduceMul, Int.reduceToNat, Int.reduceBEq, Int.reduceBNe, ↓reduceIte, reduceCtorEq, Nat.reduceEqDiff, Nat.reduceAdd, Nat.reduceMul, Nat.reduceLT, Nat.reduceLeDiff, Nat.reduceSub, Nat.reduceDiv, Nat.reduceBEq, Nat.reduceBneDiff, Nat.reduceBeqDiff])
        all_goals simp [evThr]
      rintro ⟨k, e2, γ2, c2⟩ ⟨hk, hγ2⟩ J2 hJ2
      refine Sat.of (S := []) (by kernel_rfl) ?_
      simp only at hk hγ2 hJ2
      have hb2 := T2 k hk
      rcases Nat.lt_or_ge k l.length with hkl | hkg
      · obtain ⟨d, hd⟩ : ∃ d, l[k]? = some d := ⟨_, List.getElem?_eq_getElem hkl⟩
        have hγ2' : (γ2 = none ∨ e2 = 73) = True := by simp only [hγ2]
        simp (maxSteps := 1000000) (disch := omega) only [push_cast, go_sem, wpS_tt, wpS_tf, wpS_ft, wpS_ff, wpCond_tt, wpCond_ff, Nat.reducePow, Int.reduceEq, Int.reduceLT, Int.reduceLE, Int.reduceAdd, Int.reduceSub, Int.reduceMul, Int.reduceToNat, Int.reduceBEq, Int.reduceBNe, ↓reduceIte, reduceCtorEq, Nat.reduceEqDiff, Nat.reduceAdd, Nat.reduceMul, Nat.reduceLT, Nat.reduceLeDiff, Nat.reduceSub, Nat.reduceDiv, Nat.reduceBEq, Nat.reduceBneDiff, Nat.reduceBeqDiff, he, hlt, thrV_eq, hd, hkl, Do.V_eq, hγ2']
        rw [List.length_append] at hb2
        have hn : k + 1 ≤ l.length := by omega
        have hm : l.length - (k + 1) < l.length - k := by omega
        intro g3
        refine ⟨by omega, fun γ3 c3 _ => ⟨fun h9 g5 => ⟨by omega, fun γ4 c4 _ => ?_⟩, fun h9 => ?_⟩⟩
        · refine hJ2 ⟨k + 1, 73, γ4, c4⟩ _ _ ⟨hn, .inr rfl⟩ hm ?_
          (refine Less.start ?_; repeat (first | exact LessO.nil | exact LessO.all | refine LessO.skip (by decide) ?_ | refine LessO.upd ?_ ?_ | refine LessO.set ?_ ?_)) <;> (try simp (maxSteps := 1000000) (disch := omega) only [push_cast, go_sem, wpS_tt, wpS_tf, wpS_ft, wpS_ff, wpCond_tt, wpCond_ff, Nat.reducePow, Int.reduceEq, Int.reduceLT, Int.reduceLE, Int.reduceAdd, Int.reduceSub, Int.reduceMul, Int.reduceToNat, Int.reduceBEq, Int.reduceBNe, ↓reduceIte, reduceCtorEq, Nat.reduceEqDiff, Nat.reduceAdd, Nat.reduceMul, Nat.reduceLT, Nat.reduceLeDiff, Nat.reduceSub, Nat.reduceDiv, Nat.reduceBEq, Nat.reduceBneDiff, Nat.reduceBeqDiff])
          all_goals simp [evThr, hd, evsOf, h9, Evt.V, Nat.add_assoc]
        · refine hJ2 ⟨k + 1, 73, γ3, c3⟩ _ _ ⟨hn, .inr rfl⟩ hm ?_
          (refine Less.start ?_; repeat (first | exact LessO.nil | exact LessO.all | refine LessO.skip (by decide) ?_ | refine LessO.upd ?_ ?_ | refine LessO.set ?_ ?_)) <;> (try simp (maxSteps := 1000000) (disch := omega) only [push_cast, go_sem, wpS_tt, wpS_tf, wpS_ft, wpS_ff, wpCond_tt, wpCond_ff, Nat.reducePow, Int.reduceEq, Int.reduceLT, Int.reduceLE, Int.reduceAdd, Int.reduceSub, Int.reduceMul, Int.reduceToNat, Int.reduceBEq, Int.reduceBNe, ↓reduceIte, reduceCtorEq, Nat.reduceEqDiff, Nat.reduceAdd, Nat.reduceMul, Nat.reduceLT, Nat.reduceLeDiff, Nat.reduceSub, Nat.reduceDiv, Nat.reduceBEq, Nat.reduceBneDiff, Nat.reduceBeqDiff])
          all_goals simp [evThr, hd, evsOf, h9, Evt.V, Nat.add_assoc]
      · have : k = l.length := by omega
        subst this
        simp (maxSteps := 1000000) (disch := omega) only [push_cast, go_sem, wpS_tt, wpS_tf, wpS_ft, wpS_ff, wpCond_tt, wpCond_ff, Nat.reducePow, Int.reduceEq, Int.reduceLT, Int.reduceLE, Int.reduceAdd, Int.reduceSub, Int.reduceMul, Int.reduceToNat, Int.reduceBEq, Int.reduceBNe, ↓reduceIte, reduceCtorEq, Nat.reduceEqDiff, Nat.reduceAdd, Nat.reduceMul, Nat.reduceLT, Nat.reduceLeDiff, Nat.reduceSub, Nat.reduceDiv, Nat.reduceBEq, Nat.reduceBneDiff, Nat.reduceBeqDiff, he, hlt, thrV_eq]
        refine ⟨⟨e2, γ2, c2⟩, hγ2, ?_⟩
        (refine Less.start ?_; repeat (first | exact LessO.nil | exact LessO.all | refine LessO.skip (by decide) ?_ | refine LessO.upd ?_ ?_ | refine LessO.set ?_ ?_)) <;> (try simp (maxSteps := 1000000) (disch := omega) only [push_cast, go_sem, wpS_tt, wpS_tf, wpS_ft, wpS_ff, wpCond_tt, wpCond_ff, Nat.reducePow, Int.reduceEq, Int.reduceLT, Int.reduceLE, Int.reduceAdd, Int.reduceSub, Int.reduceMul, Int.reduceToNat, Int.reduceBEq, Int.reduceBNe, ↓reduceIte, reduceCtorEq, Nat.reduceEqDiff, Nat.reduceAdd, Nat.reduceMul, Nat.reduceLT, Nat.reduceLeDiff, Nat.reduceSub, Nat.reduceDiv, Nat.reduceBEq, Nat.reduceBneDiff, Nat.reduceBeqDiff])
        all_goals simp [evPro, he, Nat.add_assoc]
    rintro ⟨e2, γ2, c2⟩ hγ2
    refine Sat.of (S := []) (by kernel_rfl) ?_
    simp only at hγ2
    simp (maxSteps := 1000000) (disch := omega) only [push_cast, go_sem, wpS_tt, wpS_tf, wpS_ft, wpS_ff, wpCond_tt, wpCond_ff, Nat.reducePow, Int.reduceEq, Int.reduceLT, Int.reduceLE, Int.reduceAdd, Int.reduceSub, Int.reduceMul, Int.reduceToNat, Int.reduceBEq, Int.reduceBNe, ↓reduceIte, reduceCtorEq, Nat.reduceEqDiff, Nat.reduceAdd, Nat.reduceMul, Nat.reduceLT, Nat.reduceLeDiff, Nat.reduceSub, Nat.reduceDiv, Nat.reduceBEq, Nat.reduceBneDiff, Nat.reduceBeqDiff]
    refine hJ ⟨i + 1, e2, γ2, c2⟩ _ _ ⟨by simp only; omega, hγ2⟩ (by simp only; omega) ?_
    (refine Less.start ?_; repeat (first | exact LessO.nil | exact LessO.all | refine LessO.skip (by decide) ?_ | refine LessO.upd ?_ ?_ | refine LessO.set ?_ ?_)) <;> (try simp (maxSteps := 1000000) (disch := omega) only [push_cast, go_sem, wpS_tt, wpS_tf, wpS_ft, wpS_ff, wpCond_tt, wpCond_ff, Nat.reducePow, Int.reduceEq, Int.reduceLT, Int.reduceLE, Int.reduceAdd, Int.reduceSub, Int.reduceMul, Int.reduceToNat, Int.reduceBEq, Int.reduceBNe, ↓reduceIte, reduceCtorEq, Nat.reduceEqDiff, Nat.reduceAdd, Nat.reduceMul, Nat.reduceLT, Nat.reduceLeDiff, Nat.reduceSub, Nat.reduceDiv, Nat.reduceBEq, Nat.reduceBneDiff, Nat.reduceBeqDiff])
  · have : i = p.length := by omega
    subst this
    simp (maxSteps := 1000000) (disch := omega) only [push_cast, go_sem, wpS_tt, wpS_tf, wpS_ft, wpS_ff, wpCond_tt, wpCond_ff, Nat.reducePow, Int.reduceEq, Int.reduceLT, Int.reduceLE, Int.reduceAdd, Int.reduceSub, Int.reduceMul, Int.reduceToNat, Int.reduceBEq, Int.reduceBNe, ↓reduceIte, reduceCtorEq, Nat.reduceEqDiff, Nat.reduceAdd, Nat.reduceMul, Nat.reduceLT, Nat.reduceLeDiff, Nat.reduceSub, Nat.reduceDiv, Nat.reduceBEq, Nat.reduceBneDiff, Nat.reduceBeqDiff]
    refine Sat.of (S := []) (by kernel_rfl) ?_
    simp (maxSteps := 1000000) (disch := omega) only [push_cast, go_sem, wpS_tt, wpS_tf, wpS_ft, wpS_ff, wpCond_tt, wpCond_ff, Nat.reducePow, Int.reduceEq, Int.reduceLT, Int.reduceLE, Int.reduceAdd, Int.reduceSub, Int.reduceMul, Int.reduceToNat, Int.reduceBEq, Int.reduceBNe, ↓reduceIte, reduceCtorEq, Nat.reduceEqDiff, Nat.reduceAdd, Nat.reduceMul, Nat.reduceLT, Nat.reduceLeDiff, Nat.reduceSub, Nat.reduceDiv, Nat.reduceBEq, Nat.reduceBneDiff, Nat.reduceBeqDiff]
    refine ⟨_, fun _ _ h => h, 2, γ, c, e, (events p).map Evt.V, by rw [List.length_map]; rfl, by simp [Mem.set, events], ?_⟩
    rw [fzs_Evt]
end Go.Proofs.Ytmmipjlogdggiaa
/-! ## Contracts of the reference: what an event reads or writes -/
namespace Go.Proofs.Ytmmipjlogdggiaa
open Go.RowKit
set_option linter.unusedSimpArgs false
set_option linter.unusedVariables false
set_option pp.maxSteps 3000

def valS (es : List Evt) (ds : List Do) (fr : List Int) : Nat → Int → Int
  | 0, i => if i < 0 then 0 else -1
  | m + 1, i => if i < 0 then 0 else match ds[i.toNat]? with
    | none => 0
    | some d => if d.reads then valS es ds fr m (fr[i.toNat]?.getD 0) else if d.k == 3 then valS es ds fr m (srcOf es ds i.toNat i.toNat) else d.v
theorem srcOf_lt {es : List Evt} {ds : List Do} {i : Nat} : ∀ k, srcOf es ds i k < (k : Int) ∧ -1 ≤ srcOf es ds i k
  | 0 => by simp [srcOf]
  | k + 1 => by
    rw [srcOf]
    split
    · omega
    · have := srcOf_lt (es := es) (ds := ds) (i := i) k; omega
theorem l12Val_fn (p : Prog) (x : Exe) (hn : (events p).length ≤ 42) (hfl : x.fr.length = (events p).length) (hfr : ∀ f ∈ x.fr, f < (events p).length) : ∀ (m : Nat) (i : Int), m < 2 ^ 20 → i < (events p).length →
    Fp Try.prog 48 [progV p, .sl ((events p).map Evt.V), x.V, .int .i64 i, .int .i64 m] (.int .i64 (valS (events p) (scene p).ds x.fr m i)) := by
  intro m
  induction m with
  | zero =>
    intro i _ hi
    by_cases h0 : i < 0
    · refine Fc.start (S := []) Try.func48 Try.ntmps48 Try.results48 rfl (by decide) rfl (by kernel_rfl) ?_
      simp (maxSteps := 1000000) (disch := omega) only [push_cast, go_sem, wpS_tt, wpS_tf, wpS_ft, wpS_ff, wpCond_tt, wpCond_ff, Nat.reducePow, Int.reduceEq, Int.reduceLT, Int.reduceLE, Int.reduceAdd, Int.reduceSub, Int.reduceMul, Int.reduceToNat, Int.reduceBEq, Int.reduceBNe, ↓reduceIte, reduceCtorEq, Nat.reduceEqDiff, Nat.reduceAdd, Nat.reduceMul, Nat.reduceLT, Nat.reduceLeDiff, Nat.reduceSub, Nat.reduceDiv, Nat.reduceBEq, Nat.reduceBneDiff, Nat.reduceBeqDiff, progV_eq, Exe.V_eq, h0]
      simp [valS, h0]
    · refine Fc.start (S := []) Try.func48 Try.ntmps48 Try.results48 rfl (by decide) rfl (by kernel_rfl) ?_
      simp (maxSteps := 1000000) (disch := omega) only [push_cast, go_sem, wpS_tt, wpS_tf, wpS_ft, wpS_ff, wpCond_tt, wpCond_ff, Nat.reducePow, Int.reduceEq, Int.reduceLT, Int.reduceLE, Int.reduceAdd, Int.reduceSub, Int.reduceMul, Int.reduceToNat, Int.reduceBEq, Int.reduceBNe, ↓reduceIte, reduceCtorEq, Nat.reduceEqDiff, Nat.reduceAdd, Nat.reduceMul, Nat.reduceLT, Nat.reduceLeDiff, Nat.reduceSub, Nat.reduceDiv, Nat.reduceBEq, Nat.reduceBneDiff, Nat.reduceBeqDiff, progV_eq, Exe.V_eq, h0]
      simp [valS, h0]
  | succ m ih =>
    intro i hm hi
    by_cases h0 : i < 0
    · refine Fc.start (S := []) Try.func48 Try.ntmps48 Try.results48 rfl (by decide) rfl (by kernel_rfl) ?_
      simp (maxSteps := 1000000) (disch := omega) only [push_cast, go_sem, wpS_tt, wpS_tf, wpS_ft, wpS_ff, wpCond_tt, wpCond_ff, Nat.reducePow, Int.reduceEq, Int.reduceLT, Int.reduceLE, Int.reduceAdd, Int.reduceSub, Int.reduceMul, Int.reduceToNat, Int.reduceBEq, Int.reduceBNe, ↓reduceIte, reduceCtorEq, Nat.reduceEqDiff, Nat.reduceAdd, Nat.reduceMul, Nat.reduceLT, Nat.reduceLeDiff, Nat.reduceSub, Nat.reduceDiv, Nat.reduceBEq, Nat.reduceBneDiff, Nat.reduceBeqDiff, progV_eq, Exe.V_eq, h0]
      simp [valS, h0]
    obtain ⟨a, rfl⟩ := Int.eq_ofNat_of_zero_le (Int.not_lt.1 h0)
    have ha : a < (events p).length := by omega
    obtain ⟨ev, he⟩ : ∃ d, (events p)[a]? = some d := ⟨_, List.getElem?_eq_getElem ha⟩
    obtain ⟨f, hf⟩ : ∃ f, x.fr[a]? = some f := ⟨_, List.getElem?_eq_getElem (by omega)⟩
    have hfa : a < x.fr.length := by omega
    have hfn := hfr f (List.mem_of_getElem? hf)
    obtain ⟨d, hst⟩ : ∃ d, stepAt p ev = d := ⟨_, rfl⟩
    have hd := scene_get he
    have hdo := l12Do_fn p ev (evIn_of (List.mem_of_getElem? he))
    rw [hst] at hd hdo
    have hv : valS (events p) (scene p).ds x.fr (m + 1) a = if d.reads then valS (events p) (scene p).ds x.fr m f else if d.k == 3 then valS (events p) (scene p).ds x.fr m (srcOf (events p) (scene p).ds a a) else d.v := by
      rw [valS, if_neg h0]
      simp only [Int.toNat_natCast, hd, hf, Option.getD_some]
    rw [hv]
    have hm1 : ¬ ((m + 1 : Nat) : Int) < 1 := by omega
    have hm2 : ((m + 1 : Nat) : Int) - 1 = m := by omega
    generalize hM : ((m + 1 : Nat) : Int) = M1 at hm1 hm2
    generalize hR : (if d.reads then valS (events p) (scene p).ds x.fr m f else if d.k == 3 then valS (events p) (scene p).ds x.fr m (srcOf (events p) (scene p).ds a a) else d.v) = R
    have hM2 : M1 = (m : Int) + 1 := by omega
    refine Fc.start (S := []) Try.func48 Try.ntmps48 Try.results48 rfl (by decide) rfl (by kernel_rfl) ?_
    simp (maxSteps := 1000000) (disch := omega) only [push_cast, go_sem, wpS_tt, wpS_tf, wpS_ft, wpS_ff, wpCond_tt, wpCond_ff, Nat.reducePow, Int.reduceEq, Int.reduceLT, Int.reduceLE, Int.reduceAdd, Int.reduceSub, Int.reduceMul, Int.reduceToNat, Int.reduceBEq, Int.reduceBNe, ↓reduceIte, reduceCtorEq, Nat.reduceEqDiff, Nat.reduceAdd, Nat.reduceMul, Nat.reduceLT, Nat.reduceLeDiff, Nat.reduceSub, Nat.reduceDiv, Nat.reduceBEq, Nat.reduceBneDiff, Nat.reduceBeqDiff, progV_eq, Exe.V_eq, h0, hm1]
    intro g1 g2
    refine Sat.drawnE [(0, 6), (4, 6), (5, 6)] [] [0, 4, 5] (pureT [(47, d.V)]) (by kernel_rfl) (by kernel_rfl) ?_
    simp (maxSteps := 1000000) (disch := omega) only [push_cast, go_sem, wpS_tt, wpS_tf, wpS_ft, wpS_ff, wpCond_tt, wpCond_ff, Nat.reducePow, Int.reduceEq, Int.reduceLT, Int.reduceLE, Int.reduceAdd, Int.reduceSub, Int.reduceMul, Int.reduceToNat, Int.reduceBEq, Int.reduceBNe, ↓reduceIte, reduceCtorEq, Nat.reduceEqDiff, Nat.reduceAdd, Nat.reduceMul, Nat.reduceLT, Nat.reduceLeDiff, Nat.reduceSub, Nat.reduceDiv, Nat.reduceBEq, Nat.reduceBneDiff, Nat.reduceBeqDiff, he, ha, Evt.V_eq]
    refine runD_pure rfl hdo rfl rfl ?_ ?_
    · rfl
    simp (maxSteps := 1000000) (disch := omega) only [push_cast, go_sem, wpS_tt, wpS_tf, wpS_ft, wpS_ff, wpCond_tt, wpCond_ff, Nat.reducePow, Int.reduceEq, Int.reduceLT, Int.reduceLE, Int.reduceAdd, Int.reduceSub, Int.reduceMul, Int.reduceToNat, Int.reduceBEq, Int.reduceBNe, ↓reduceIte, reduceCtorEq, Nat.reduceEqDiff, Nat.reduceAdd, Nat.reduceMul, Nat.reduceLT, Nat.reduceLeDiff, Nat.reduceSub, Nat.reduceDiv, Nat.reduceBEq, Nat.reduceBneDiff, Nat.reduceBeqDiff, Do.V_eq]
    intro g3
    refine callR.pure (l1Reads_fn d) rfl rfl ?_
    cases hr : d.reads
    · rw [hr] at hR
      simp only [Bool.false_eq_true, if_false] at hR
      cases h3 : (d.k == 3)
      · rw [h3] at hR
        simp only [Bool.false_eq_true, if_false] at hR
        simp (maxSteps := 1000000) (disch := omega) only [push_cast, go_sem, wpS_tt, wpS_tf, wpS_ft, wpS_ff, wpCond_tt, wpCond_ff, Nat.reducePow, Int.reduceEq, Int.reduceLT, Int.reduceLE, Int.reduceAdd, Int.reduceSub, Int.reduceMul, Int.reduceToNat, Int.reduceBEq, Int.reduceBNe, ↓reduceIte, reduceCtorEq, Nat.reduceEqDiff, Nat.reduceAdd, Nat.reduceMul, Nat.reduceLT, Nat.reduceLeDiff, Nat.reduceSub, Nat.reduceDiv, Nat.reduceBEq, Nat.reduceBneDiff, Nat.reduceBeqDiff, h3]
        exact hR
      · rw [h3] at hR
        simp only [if_true] at hR
        have hs := srcOf_lt (es := events p) (ds := (scene p).ds) (i := a) a
        simp (maxSteps := 1000000) (disch := omega) only [push_cast, go_sem, wpS_tt, wpS_tf, wpS_ft, wpS_ff, wpCond_tt, wpCond_ff, Nat.reducePow, Int.reduceEq, Int.reduceLT, Int.reduceLE, Int.reduceAdd, Int.reduceSub, Int.reduceMul, Int.reduceToNat, Int.reduceBEq, Int.reduceBNe, ↓reduceIte, reduceCtorEq, Nat.reduceEqDiff, Nat.reduceAdd, Nat.reduceMul, Nat.reduceLT, Nat.reduceLeDiff, Nat.reduceSub, Nat.reduceDiv, Nat.reduceBEq, Nat.reduceBneDiff, Nat.reduceBeqDiff, h3]
        refine Sat.drawnE [] [] [0, 2, 3, 6, 9] (pureT [(77, .int .i64 (srcOf (events p) (scene p).ds a a)), (48, .int .i64 R)]) (by kernel_rfl) (by kernel_rfl) ?_
        simp (maxSteps := 1000000) (disch := omega) only [push_cast, go_sem, wpS_tt, wpS_tf, wpS_ft, wpS_ff, wpCond_tt, wpCond_ff, Nat.reducePow, Int.reduceEq, Int.reduceLT, Int.reduceLE, Int.reduceAdd, Int.reduceSub, Int.reduceMul, Int.reduceToNat, Int.reduceBEq, Int.reduceBNe, ↓reduceIte, reduceCtorEq, Nat.reduceEqDiff, Nat.reduceAdd, Nat.reduceMul, Nat.reduceLT, Nat.reduceLeDiff, Nat.reduceSub, Nat.reduceDiv, Nat.reduceBEq, Nat.reduceBneDiff, Nat.reduceBeqDiff]
        refine runD_pure rfl (l12Source_fn p a hn ha) rfl rfl ?_ ?_
        · rfl
        simp (maxSteps := 1000000) (disch := omega) only [push_cast, go_sem, wpS_tt, wpS_tf, wpS_ft, wpS_ff, wpCond_tt, wpCond_ff, Nat.reducePow, Int.reduceEq, Int.reduceLT, Int.reduceLE, Int.reduceAdd, Int.reduceSub, Int.reduceMul, Int.reduceToNat, Int.reduceBEq, Int.reduceBNe, ↓reduceIte, reduceCtorEq, Nat.reduceEqDiff, Nat.reduceAdd, Nat.reduceMul, Nat.reduceLT, Nat.reduceLeDiff, Nat.reduceSub, Nat.reduceDiv, Nat.reduceBEq, Nat.reduceBneDiff, Nat.reduceBeqDiff, hm2]
        refine runD_pure rfl (by rw [← hR]; exact ih _ (by omega) (by omega)) rfl rfl ?_ ?_
        · rfl
        simp (maxSteps := 1000000) (disch := omega) only [push_cast, go_sem, wpS_tt, wpS_tf, wpS_ft, wpS_ff, wpCond_tt, wpCond_ff, Nat.reducePow, Int.reduceEq, Int.reduceLT, Int.reduceLE, Int.reduceAdd, Int.reduceSub, Int.reduceMul, Int.reduceToNat, Int.reduceBEq, Int.reduceBNe, ↓reduceIte, reduceCtorEq, Nat.reduceEqDiff, Nat.reduceAdd, Nat.reduceMul, Nat.reduceLT, Nat.reduceLeDiff, Nat.reduceSub, Nat.reduceDiv, Nat.reduceBEq, Nat.reduceBneDiff, Nat.reduceBeqDiff]
    · rw [hr] at hR
      simp only [if_true] at hR
      simp (maxSteps := 1000000) (disch := omega) only [push_cast, go_sem, wpS_tt, wpS_tf, wpS_ft, wpS_ff, wpCond_tt, wpCond_ff, Nat.reducePow, Int.reduceEq, Int.reduceLT, Int.reduceLE, Int.reduceAdd, Int.reduceSub, Int.reduceMul, Int.reduceToNat, Int.reduceBEq, Int.reduceBNe, ↓reduceIte, reduceCtorEq, Nat.reduceEqDiff, Nat.reduceAdd, Nat.reduceMul, Nat.reduceLT, Nat.reduceLeDiff, Nat.reduceSub, Nat.reduceDiv, Nat.reduceBEq, Nat.reduceBneDiff, Nat.reduceBeqDiff]
      refine Sat.drawnE [] [] [0, 2, 4, 7, 10] (pureT [(48, .int .i64 R)]) (by kernel_rfl) (by kernel_rfl) ?_
      simp (maxSteps := 1000000) (disch := omega) only [push_cast, go_sem, wpS_tt, wpS_tf, wpS_ft, wpS_ff, wpCond_tt, wpCond_ff, Nat.reducePow, Int.reduceEq, Int.reduceLT, Int.reduceLE, Int.reduceAdd, Int.reduceSub, Int.reduceMul, Int.reduceToNat, Int.reduceBEq, Int.reduceBNe, ↓reduceIte, reduceCtorEq, Nat.reduceEqDiff, Nat.reduceAdd, Nat.reduceMul, Nat.reduceLT, Nat.reduceLeDiff, Nat.reduceSub, Nat.reduceDiv, Nat.reduceBEq, Nat.reduceBneDiff, Nat.reduceBeqDiff, hf, hfa, hm2]
      refine runD_pure rfl (by rw [← hR]; exact ih _ (by omega) (by omega)) rfl rfl ?_ ?_
      · rfl
      simp (maxSteps := 1000000) (disch := omega) only [push_cast, go_sem, wpS_tt, wpS_tf, wpS_ft, wpS_ff, wpCond_tt, wpCond_ff, Nat.reducePow, Int.reduceEq, Int.reduceLT, Int.reduceLE, Int.reduceAdd, Int.reduceSub, Int.reduceMul, Int.reduceToNat, Int.reduceBEq, Int.reduceBNe, ↓reduceIte, reduceCtorEq, Nat.reduceEqDiff, Nat.reduceAdd, Nat.reduceMul, Nat.reduceLT, Nat.reduceLeDiff, Nat.reduceSub, Nat.reduceDiv, Nat.reduceBEq, Nat.reduceBneDiff, Nat.reduceBeqDiff]
end Go.Proofs.Ytmmipjlogdggiaa
/-! ## Contracts of the reference: whether a way is one -/
namespace Go.Proofs.Ytmmipjlogdggiaa
open Go.RowKit
set_option linter.unusedSimpArgs false
set_option linter.unusedVariables false
set_option pp.maxSteps 3000

def endS (p : Prog) (fr : List Int) (i : Nat) : Bool := !decide (valS (events p) (scene p).ds fr (2 * (events p).length + 2) i < 0)
def endsS (p : Prog) (x : Exe) : Bool := (List.range (events p).length).all (endS p x.fr)
theorem range_get {n k : Nat} (h : k < n) : (List.range n)[k]? = some k := by simp [h]
theorem l12Ends_fn (p : Prog) (x : Exe) (hn : (events p).length ≤ 42) (hfl : x.fr.length = (events p).length) (hfr : ∀ f ∈ x.fr, f < (events p).length) :
    Fp Try.prog 22 [progV p, .sl ((events p).map Evt.V), x.V] (.bool (endsS p x)) := by
  refine Fc.start (S := [6]) Try.func22 Try.ntmps22 Try.results22 rfl (by decide) rfl (by kernel_rfl) ?_
  simp (maxSteps := 1000000) (disch := omega) only [push_cast, go_sem, wpS_tt, wpS_tf, wpS_ft, wpS_ff, wpCond_tt, wpCond_ff, Nat.reducePow, Int.reduceEq, Int.reduceLT, Int.reduceLE, Int.reduceAdd, Int.reduceSub, Int.reduceMul, Int.reduceToNat, Int.reduceBEq, Int.reduceBNe, ↓reduceIte, reduceCtorEq, Nat.reduceEqDiff, Nat.reduceAdd, Nat.reduceMul, Nat.reduceLT, Nat.reduceLeDiff, Nat.reduceSub, Nat.reduceDiv, Nat.reduceBEq, Nat.reduceBneDiff, Nat.reduceBeqDiff, progV_eq, Exe.V_eq]
  intro g1 g2
  refine Sat.loop (σ := Nat) (fun k => upd (upd (upd (upd noT 3 (.ptr 3 [] 0 0 g1 1)) 5 (.ptr 5 [] 0 0 g2 2)) 1 (.sl ((events p).map Evt.V))) 7 (.int .i64 k))
    (fun _ => (noM.set 3 (.own 25 (some g1) 1 [.agg [.sl (p.map thrV)]])).set 5 (.own 29 (some g2) 1 [.agg [.sl (x.fr.map (V.int .i64)), .sl (x.od.map intsV)]]))
    (fun k => k ≤ (events p).length ∧ ((List.range (events p).length).take k).all (endS p x.fr) = true) (fun k => (events p).length - k) 0 (by simp) ?_ ?_
  · (refine Less.start ?_; repeat (first | exact LessO.nil | exact LessO.all | refine LessO.skip (by decide) ?_ | refine LessO.upd ?_ ?_ | refine LessO.set ?_ ?_)) <;> (try simp (maxSteps := 1000000) (disch := omega) only [push_cast, go_sem, wpS_tt, wpS_tf, wpS_ft, wpS_ff, wpCond_tt, wpCond_ff, Nat.reducePow, Int.reduceEq, Int.reduceLT, Int.reduceLE, Int.reduceAdd, Int.reduceSub, Int.reduceMul, Int.reduceToNat, Int.reduceBEq, Int.reduceBNe, ↓reduceIte, reduceCtorEq, Nat.reduceEqDiff, Nat.reduceAdd, Nat.reduceMul, Nat.reduceLT, Nat.reduceLeDiff, Nat.reduceSub, Nat.reduceDiv, Nat.reduceBEq, Nat.reduceBneDiff, Nat.reduceBeqDiff])
  rintro k ⟨hk, hall⟩ J hJ
  refine Sat.of (S := []) (by kernel_rfl) ?_
  rcases Nat.lt_or_ge k (events p).length with hlt | hge
  · have hv := l12Val_fn p x hn hfl hfr (2 * (events p).length + 2) k (by omega) (by omega)
    rw [show ((2 * (events p).length + 2 : Nat) : Int) = 2 * ((events p).length : Int) + 2 by omega] at hv
    simp (maxSteps := 1000000) (disch := omega) only [push_cast, go_sem, wpS_tt, wpS_tf, wpS_ft, wpS_ff, wpCond_tt, wpCond_ff, Nat.reducePow, Int.reduceEq, Int.reduceLT, Int.reduceLE, Int.reduceAdd, Int.reduceSub, Int.reduceMul, Int.reduceToNat, Int.reduceBEq, Int.reduceBNe, ↓reduceIte, reduceCtorEq, Nat.reduceEqDiff, Nat.reduceAdd, Nat.reduceMul, Nat.reduceLT, Nat.reduceLeDiff, Nat.reduceSub, Nat.reduceDiv, Nat.reduceBEq, Nat.reduceBneDiff, Nat.reduceBeqDiff, hlt]
    refine callR.pure hv rfl rfl ?_
    by_cases h0 : valS (events p) (scene p).ds x.fr (2 * (events p).length + 2) k < 0
    · simp (maxSteps := 1000000) (disch := omega) only [push_cast, go_sem, wpS_tt, wpS_tf, wpS_ft, wpS_ff, wpCond_tt, wpCond_ff, Nat.reducePow, Int.reduceEq, Int.reduceLT, Int.reduceLE, Int.reduceAdd, Int.reduceSub, Int.reduceMul, Int.reduceToNat, Int.reduceBEq, Int.reduceBNe, ↓reduceIte, reduceCtorEq, Nat.reduceEqDiff, Nat.reduceAdd, Nat.reduceMul, Nat.reduceLT, Nat.reduceLeDiff, Nat.reduceSub, Nat.reduceDiv, Nat.reduceBEq, Nat.reduceBneDiff, Nat.reduceBeqDiff, h0]
      rw [endsS, allp_no (range_get hlt) (by simp [endS, h0])]
    · simp (maxSteps := 1000000) (disch := omega) only [push_cast, go_sem, wpS_tt, wpS_tf, wpS_ft, wpS_ff, wpCond_tt, wpCond_ff, Nat.reducePow, Int.reduceEq, Int.reduceLT, Int.reduceLE, Int.reduceAdd, Int.reduceSub, Int.reduceMul, Int.reduceToNat, Int.reduceBEq, Int.reduceBNe, ↓reduceIte, reduceCtorEq, Nat.reduceEqDiff, Nat.reduceAdd, Nat.reduceMul, Nat.reduceLT, Nat.reduceLeDiff, Nat.reduceSub, Nat.reduceDiv, Nat.reduceBEq, Nat.reduceBneDiff, Nat.reduceBeqDiff, h0]
      refine hJ (k + 1) _ _ ⟨by omega, allp_take (range_get hlt) hall (by simp [endS, h0])⟩ (by omega) ?_
      (refine Less.start ?_; repeat (first | exact LessO.nil | exact LessO.all | refine LessO.skip (by decide) ?_ | refine LessO.upd ?_ ?_ | refine LessO.set ?_ ?_)) <;> (try simp (maxSteps := 1000000) (disch := omega) only [push_cast, go_sem, wpS_tt, wpS_tf, wpS_ft, wpS_ff, wpCond_tt, wpCond_ff, Nat.reducePow, Int.reduceEq, Int.reduceLT, Int.reduceLE, Int.reduceAdd, Int.reduceSub, Int.reduceMul, Int.reduceToNat, Int.reduceBEq, Int.reduceBNe, ↓reduceIte, reduceCtorEq, Nat.reduceEqDiff, Nat.reduceAdd, Nat.reduceMul, Nat.reduceLT, Nat.reduceLeDiff, Nat.reduceSub, Nat.reduceDiv, Nat.reduceBEq, Nat.reduceBneDiff, Nat.reduceBeqDiff])
  · have : k = (events p).length := by omega
    subst this
    rw [List.take_of_length_le (by simp)] at hall
    simp (maxSteps := 1000000) (disch := omega) only [push_cast, go_sem, wpS_tt, wpS_tf, wpS_ft, wpS_ff, wpCond_tt, wpCond_ff, Nat.reducePow, Int.reduceEq, Int.reduceLT, Int.reduceLE, Int.reduceAdd, Int.reduceSub, Int.reduceMul, Int.reduceToNat, Int.reduceBEq, Int.reduceBNe, ↓reduceIte, reduceCtorEq, Nat.reduceEqDiff, Nat.reduceAdd, Nat.reduceMul, Nat.reduceLT, Nat.reduceLeDiff, Nat.reduceSub, Nat.reduceDiv, Nat.reduceBEq, Nat.reduceBneDiff, Nat.reduceBeqDiff]
    refine Sat.of (S := []) (by kernel_rfl) ?_
    simp (maxSteps := 1000000) (disch := omega) only [push_cast, go_sem, wpS_tt, wpS_tf, wpS_ft, wpS_ff, wpCond_tt, wpCond_ff, Nat.reducePow, Int.reduceEq, Int.reduceLT, Int.reduceLE, Int.reduceAdd, Int.reduceSub, Int.reduceMul, Int.reduceToNat, Int.reduceBEq, Int.reduceBNe, ↓reduceIte, reduceCtorEq, Nat.reduceEqDiff, Nat.reduceAdd, Nat.reduceMul, Nat.reduceLT, Nat.reduceLeDiff, Nat.reduceSub, Nat.reduceDiv, Nat.reduceBEq, Nat.reduceBneDiff, Nat.reduceBeqDiff]
    rw [endsS, hall]

def placeS (ds : List Do) (od : List (List Int)) (k : Nat) : Bool := (writersOf ds k).length == (od[k]?.getD []).length && (writersOf ds k).all (od[k]?.getD []).contains
def fromS (od : List (List Int)) (q : Do × Int) : Bool := if q.1.reads then q.2 == -1 || (od[q.1.p.toNat]?.getD []).contains q.2 else q.2 == -2
def formS (p : Prog) (x : Exe) : Bool := decide (x.fr.length = (events p).length) && decide (x.od.length = 3) && (List.range 3).all (placeS (scene p).ds x.od) && ((scene p).ds.zip x.fr).all (fromS x.od)
theorem l12Form_fn (p : Prog) (x : Exe) (hn : (events p).length ≤ 42) (hx : x.small) (hpl : ∀ d ∈ (scene p).ds, d.reads = true → 0 ≤ d.p ∧ d.p ≤ 2) :
    Fp Try.prog 21 [progV p, .sl ((events p).map Evt.V), x.V] (.bool (formS p x)) := by
  obtain ⟨h1, h2, h3⟩ := hx
  have hsl : (scene p).ds.length = (events p).length := by simp [scene]
  refine Fc.start (S := [14, 20]) Try.func21 Try.ntmps21 Try.results21 rfl (by decide) rfl (by kernel_rfl) ?_
  cases hl : ((x.fr.length : Int) != (events p).length)
  rotate_left
  · simp (maxSteps := 1000000) (disch := omega) only [push_cast, go_sem, wpS_tt, wpS_tf, wpS_ft, wpS_ff, wpCond_tt, wpCond_ff, Nat.reducePow, Int.reduceEq, Int.reduceLT, Int.reduceLE, Int.reduceAdd, Int.reduceSub, Int.reduceMul, Int.reduceToNat, Int.reduceBEq, Int.reduceBNe, ↓reduceIte, reduceCtorEq, Nat.reduceEqDiff, Nat.reduceAdd, Nat.reduceMul, Nat.reduceLT, Nat.reduceLeDiff, Nat.reduceSub, Nat.reduceDiv, Nat.reduceBEq, Nat.reduceBneDiff, Nat.reduceBeqDiff, progV_eq, Exe.V_eq, hl]
    have : ¬ x.fr.length = (events p).length := fun h => by rw [h] at hl; simp at hl
    simp [formS, this]
  cases ho : ((x.od.length : Int) != 3)
  rotate_left
  · simp (maxSteps := 1000000) (disch := omega) only [push_cast, go_sem, wpS_tt, wpS_tf, wpS_ft, wpS_ff, wpCond_tt, wpCond_ff, Nat.reducePow, Int.reduceEq, Int.reduceLT, Int.reduceLE, Int.reduceAdd, Int.reduceSub, Int.reduceMul, Int.reduceToNat, Int.reduceBEq, Int.reduceBNe, ↓reduceIte, reduceCtorEq, Nat.reduceEqDiff, Nat.reduceAdd, Nat.reduceMul, Nat.reduceLT, Nat.reduceLeDiff, Nat.reduceSub, Nat.reduceDiv, Nat.reduceBEq, Nat.reduceBneDiff, Nat.reduceBeqDiff, progV_eq, Exe.V_eq, hl, ho]
    have : ¬ x.od.length = 3 := fun h => by rw [h] at ho; simp at ho
    simp [formS, this]
  have hl' : x.fr.length = (events p).length := by have : (x.fr.length : Int) = (events p).length := by simpa using hl
                                                   omega
  have ho' : x.od.length = 3 := by have : (x.od.length : Int) = 3 := by simpa using ho
                                   omega
  have hfit : formS p x = ((List.range 3).all (placeS (scene p).ds x.od) && ((scene p).ds.zip x.fr).all (fromS x.od)) := by simp [formS, hl', ho']
  simp (maxSteps := 1000000) (disch := omega) only [push_cast, go_sem, wpS_tt, wpS_tf, wpS_ft, wpS_ff, wpCond_tt, wpCond_ff, Nat.reducePow, Int.reduceEq, Int.reduceLT, Int.reduceLE, Int.reduceAdd, Int.reduceSub, Int.reduceMul, Int.reduceToNat, Int.reduceBEq, Int.reduceBNe, ↓reduceIte, reduceCtorEq, Nat.reduceEqDiff, Nat.reduceAdd, Nat.reduceMul, Nat.reduceLT, Nat.reduceLeDiff, Nat.reduceSub, Nat.reduceDiv, Nat.reduceBEq, Nat.reduceBneDiff, Nat.reduceBeqDiff, progV_eq, Exe.V_eq, hl, ho]
  intro g1 g2
  refine Sat.loop (σ := Nat) (fun k => upd (upd (upd (upd noT 3 (.ptr 3 [] 0 0 g1 1)) 5 (.ptr 5 [] 0 0 g2 2)) 1 (.sl ((events p).map Evt.V))) 7 (.int .i64 k))
    (fun _ => (noM.set 3 (.own 25 (some g1) 1 [.agg [.sl (p.map thrV)]])).set 5 (.own 29 (some g2) 1 [.agg [.sl (x.fr.map (V.int .i64)), .sl (x.od.map intsV)]]))
    (fun k => k ≤ 3 ∧ ((List.range 3).take k).all (placeS (scene p).ds x.od) = true) (fun k => 3 - k) 0 (by simp) ?_ ?_
  · (refine Less.start ?_; repeat (first | exact LessO.nil | exact LessO.all | refine LessO.skip (by decide) ?_ | refine LessO.upd ?_ ?_ | refine LessO.set ?_ ?_)) <;> (try simp (maxSteps := 1000000) (disch := omega) only [push_cast, go_sem, wpS_tt, wpS_tf, wpS_ft, wpS_ff, wpCond_tt, wpCond_ff, Nat.reducePow, Int.reduceEq, Int.reduceLT, Int.reduceLE, Int.reduceAdd, Int.reduceSub, Int.reduceMul, Int.reduceToNat, Int.reduceBEq, Int.reduceBNe, ↓reduceIte, reduceCtorEq, Nat.reduceEqDiff, Nat.reduceAdd, Nat.reduceMul, Nat.reduceLT, Nat.reduceLeDiff, Nat.reduceSub, Nat.reduceDiv, Nat.reduceBEq, Nat.reduceBneDiff, Nat.reduceBeqDiff])
  rintro k ⟨hk, hall⟩ J hJ
  refine Sat.of (S := [20]) (by kernel_rfl) ?_
  rcases Nat.lt_or_ge k 3 with hlt | hge
  · obtain ⟨row, hr⟩ : ∃ r, x.od[k]? = some r := ⟨_, List.getElem?_eq_getElem (by omega)⟩
    have hrow := h3 row (List.mem_of_getElem? hr)
    have hk3 : (k : Int) < 3 := by omega
    have hko : k < x.od.length := by omega
    have hwl : (writersOf (scene p).ds k).length ≤ 42 := by have := wrs_le (scene p).ds k (scene p).ds.length; unfold writersOf; omega
    have bad : placeS (scene p).ds x.od k = false → formS p x = false := fun h => by rw [hfit, allp_no (range_get hlt) h]; rfl
    obtain ⟨ws, hws⟩ : ∃ ws, writersOf (scene p).ds k = ws := ⟨_, rfl⟩
    have hw := l12Writes_fn p k hn
    rw [hws] at hw hwl
    simp (maxSteps := 1000000) (disch := omega) only [push_cast, go_sem, wpS_tt, wpS_tf, wpS_ft, wpS_ff, wpCond_tt, wpCond_ff, Nat.reducePow, Int.reduceEq, Int.reduceLT, Int.reduceLE, Int.reduceAdd, Int.reduceSub, Int.reduceMul, Int.reduceToNat, Int.reduceBEq, Int.reduceBNe, ↓reduceIte, reduceCtorEq, Nat.reduceEqDiff, Nat.reduceAdd, Nat.reduceMul, Nat.reduceLT, Nat.reduceLeDiff, Nat.reduceSub, Nat.reduceDiv, Nat.reduceBEq, Nat.reduceBneDiff, Nat.reduceBeqDiff, hk3]
    refine callR.pure hw rfl rfl ?_
    cases hlen : ((ws.length : Int) != row.length)
    rotate_left
    · simp (maxSteps := 1000000) (disch := omega) only [push_cast, go_sem, wpS_tt, wpS_tf, wpS_ft, wpS_ff, wpCond_tt, wpCond_ff, Nat.reducePow, Int.reduceEq, Int.reduceLT, Int.reduceLE, Int.reduceAdd, Int.reduceSub, Int.reduceMul, Int.reduceToNat, Int.reduceBEq, Int.reduceBNe, ↓reduceIte, reduceCtorEq, Nat.reduceEqDiff, Nat.reduceAdd, Nat.reduceMul, Nat.reduceLT, Nat.reduceLeDiff, Nat.reduceSub, Nat.reduceDiv, Nat.reduceBEq, Nat.reduceBneDiff, Nat.reduceBeqDiff, hr, hko, hlen, intsV_eq]
      rw [bad (by
        have : ¬ ws.length = row.length := fun h => by rw [h] at hlen; simp at hlen
        simp [placeS, hws, hr, this])]
    have hlen' : ws.length = row.length := by have : (ws.length : Int) = row.length := by simpa using hlen
                                              omega
    simp (maxSteps := 1000000) (disch := omega) only [push_cast, go_sem, wpS_tt, wpS_tf, wpS_ft, wpS_ff, wpCond_tt, wpCond_ff, Nat.reducePow, Int.reduceEq, Int.reduceLT, Int.reduceLE, Int.reduceAdd, Int.reduceSub, Int.reduceMul, Int.reduceToNat, Int.reduceBEq, Int.reduceBNe, ↓reduceIte, reduceCtorEq, Nat.reduceEqDiff, Nat.reduceAdd, Nat.reduceMul, Nat.reduceLT, Nat.reduceLeDiff, Nat.reduceSub, Nat.reduceDiv, Nat.reduceBEq, Nat.reduceBneDiff, Nat.reduceBeqDiff, hr, hko, hlen, intsV_eq]
    refine Sat.loop (σ := Nat) (fun j => upd (upd (upd (upd (upd (upd noT 3 (.ptr 3 [] 0 0 g1 1)) 5 (.ptr 5 [] 0 0 g2 2)) 1 (.sl ((events p).map Evt.V))) 7 (.int .i64 k)) 8 (.sl (ws.map (V.int .i64)))) 9 (.int .i64 j))
      (fun _ => (noM.set 3 (.own 25 (some g1) 1 [.agg [.sl (p.map thrV)]])).set 5 (.own 29 (some g2) 1 [.agg [.sl (x.fr.map (V.int .i64)), .sl (x.od.map intsV)]]))
      (fun j => j ≤ ws.length ∧ (ws.take j).all row.contains = true) (fun j => ws.length - j) 0 (by simp) ?_ ?_
    · (refine Less.start ?_; repeat (first | exact LessO.nil | exact LessO.all | refine LessO.skip (by decide) ?_ | refine LessO.upd ?_ ?_ | refine LessO.set ?_ ?_)) <;> (try simp (maxSteps := 1000000) (disch := omega) only [push_cast, go_sem, wpS_tt, wpS_tf, wpS_ft, wpS_ff, wpCond_tt, wpCond_ff, Nat.reducePow, Int.reduceEq, Int.reduceLT, Int.reduceLE, Int.reduceAdd, Int.reduceSub, Int.reduceMul, Int.reduceToNat, Int.reduceBEq, Int.reduceBNe, ↓reduceIte, reduceCtorEq, Nat.reduceEqDiff, Nat.reduceAdd, Nat.reduceMul, Nat.reduceLT, Nat.reduceLeDiff, Nat.reduceSub, Nat.reduceDiv, Nat.reduceBEq, Nat.reduceBneDiff, Nat.reduceBeqDiff])
    rintro j ⟨hj, hall2⟩ J2 hJ2
    refine Sat.of (S := []) (by kernel_rfl) ?_
    rcases Nat.lt_or_ge j ws.length with hlt2 | hge2
    · obtain ⟨z, hz⟩ : ∃ z, ws[j]? = some z := ⟨_, List.getElem?_eq_getElem hlt2⟩
      simp (maxSteps := 1000000) (disch := omega) only [push_cast, go_sem, wpS_tt, wpS_tf, wpS_ft, wpS_ff, wpCond_tt, wpCond_ff, Nat.reducePow, Int.reduceEq, Int.reduceLT, Int.reduceLE, Int.reduceAdd, Int.reduceSub, Int.reduceMul, Int.reduceToNat, Int.reduceBEq, Int.reduceBNe, ↓reduceIte, reduceCtorEq, Nat.reduceEqDiff, Nat.reduceAdd, Nat.reduceMul, Nat.reduceLT, Nat.reduceLeDiff, Nat.reduceSub, Nat.reduceDiv, Nat.reduceBEq, Nat.reduceBneDiff, Nat.reduceBeqDiff, hz, hlt2]
      refine Sat.drawnE [] [] [1, 4, 8, 9] (pureT [(46, .bool (row.contains z))]) (by kernel_rfl) (by kernel_rfl) ?_
      simp (maxSteps := 1000000) (disch := omega) only [push_cast, go_sem, wpS_tt, wpS_tf, wpS_ft, wpS_ff, wpCond_tt, wpCond_ff, Nat.reducePow, Int.reduceEq, Int.reduceLT, Int.reduceLE, Int.reduceAdd, Int.reduceSub, Int.reduceMul, Int.reduceToNat, Int.reduceBEq, Int.reduceBNe, ↓reduceIte, reduceCtorEq, Nat.reduceEqDiff, Nat.reduceAdd, Nat.reduceMul, Nat.reduceLT, Nat.reduceLeDiff, Nat.reduceSub, Nat.reduceDiv, Nat.reduceBEq, Nat.reduceBneDiff, Nat.reduceBeqDiff, hr, hko, hz, hlt2, intsV_eq]
      refine runD_pure rfl (l12Has_fn row z hrow) rfl rfl ?_ ?_
      · rfl
      cases hc : row.contains z
      · simp (maxSteps := 1000000) (disch := omega) only [push_cast, go_sem, wpS_tt, wpS_tf, wpS_ft, wpS_ff, wpCond_tt, wpCond_ff, Nat.reducePow, Int.reduceEq, Int.reduceLT, Int.reduceLE, Int.reduceAdd, Int.reduceSub, Int.reduceMul, Int.reduceToNat, Int.reduceBEq, Int.reduceBNe, ↓reduceIte, reduceCtorEq, Nat.reduceEqDiff, Nat.reduceAdd, Nat.reduceMul, Nat.reduceLT, Nat.reduceLeDiff, Nat.reduceSub, Nat.reduceDiv, Nat.reduceBEq, Nat.reduceBneDiff, Nat.reduceBeqDiff]
        rw [bad (by simp only [placeS, hws, hr, Option.getD_some, allp_no hz hc, Bool.and_false])]
      · simp (maxSteps := 1000000) (disch := omega) only [push_cast, go_sem, wpS_tt, wpS_tf, wpS_ft, wpS_ff, wpCond_tt, wpCond_ff, Nat.reducePow, Int.reduceEq, Int.reduceLT, Int.reduceLE, Int.reduceAdd, Int.reduceSub, Int.reduceMul, Int.reduceToNat, Int.reduceBEq, Int.reduceBNe, ↓reduceIte, reduceCtorEq, Nat.reduceEqDiff, Nat.reduceAdd, Nat.reduceMul, Nat.reduceLT, Nat.reduceLeDiff, Nat.reduceSub, Nat.reduceDiv, Nat.reduceBEq, Nat.reduceBneDiff, Nat.reduceBeqDiff]
        refine hJ2 (j + 1) _ _ ⟨by omega, allp_take hz hall2 hc⟩ (by omega) ?_
        (refine Less.start ?_; repeat (first | exact LessO.nil | exact LessO.all | refine LessO.skip (by decide) ?_ | refine LessO.upd ?_ ?_ | refine LessO.set ?_ ?_)) <;> (try simp (maxSteps := 1000000) (disch := omega) only [push_cast, go_sem, wpS_tt, wpS_tf, wpS_ft, wpS_ff, wpCond_tt, wpCond_ff, Nat.reducePow, Int.reduceEq, Int.reduceLT, Int.reduceLE, Int.reduceAdd, Int.reduceSub, Int.reduceMul, Int.reduceToNat, Int.reduceBEq, Int.reduceBNe, ↓reduceIte, reduceCtorEq, Nat.reduceEqDiff, Nat.reduceAdd, Nat.reduceMul, Nat.reduceLT, Nat.reduceLeDiff, Nat.reduceSub, Nat.reduceDiv, Nat.reduceBEq, Nat.reduceBneDiff, Nat.reduceBeqDiff])
    · have : j = ws.length := by omega
      subst this
      rw [List.take_length] at hall2
      simp (maxSteps := 1000000) (disch := omega) only [push_cast, go_sem, wpS_tt, wpS_tf, wpS_ft, wpS_ff, wpCond_tt, wpCond_ff, Nat.reducePow, Int.reduceEq, Int.reduceLT, Int.reduceLE, Int.reduceAdd, Int.reduceSub, Int.reduceMul, Int.reduceToNat, Int.reduceBEq, Int.reduceBNe, ↓reduceIte, reduceCtorEq, Nat.reduceEqDiff, Nat.reduceAdd, Nat.reduceMul, Nat.reduceLT, Nat.reduceLeDiff, Nat.reduceSub, Nat.reduceDiv, Nat.reduceBEq, Nat.reduceBneDiff, Nat.reduceBeqDiff]
      refine hJ (k + 1) _ _ ⟨by omega, allp_take (range_get hlt) hall (by simp only [placeS, hws, hr, Option.getD_some, hall2, hlen', beq_self_eq_true, Bool.and_self])⟩ (by omega) ?_
      (refine Less.start ?_; repeat (first | exact LessO.nil | exact LessO.all | refine LessO.skip (by decide) ?_ | refine LessO.upd ?_ ?_ | refine LessO.set ?_ ?_)) <;> (try simp (maxSteps := 1000000) (disch := omega) only [push_cast, go_sem, wpS_tt, wpS_tf, wpS_ft, wpS_ff, wpCond_tt, wpCond_ff, Nat.reducePow, Int.reduceEq, Int.reduceLT, Int.reduceLE, Int.reduceAdd, Int.reduceSub, Int.reduceMul, Int.reduceToNat, Int.reduceBEq, Int.reduceBNe, ↓reduceIte, reduceCtorEq, Nat.reduceEqDiff, Nat.reduceAdd, Nat.reduceMul, Nat.reduceLT, Nat.reduceLeDiff, Nat.reduceSub, Nat.reduceDiv, Nat.reduceBEq, Nat.reduceBneDiff, Nat.reduceBeqDiff])
  · have : k = 3 := by omega
    subst this
    have hall1 : (List.range 3).all (placeS (scene p).ds x.od) = true := by rwa [List.take_of_length_le (by simp)] at hall
    simp (maxSteps := 1000000) (disch := omega) only [push_cast, go_sem, wpS_tt, wpS_tf, wpS_ft, wpS_ff, wpCond_tt, wpCond_ff, Nat.reducePow, Int.reduceEq, Int.reduceLT, Int.reduceLE, Int.reduceAdd, Int.reduceSub, Int.reduceMul, Int.reduceToNat, Int.reduceBEq, Int.reduceBNe, ↓reduceIte, reduceCtorEq, Nat.reduceEqDiff, Nat.reduceAdd, Nat.reduceMul, Nat.reduceLT, Nat.reduceLeDiff, Nat.reduceSub, Nat.reduceDiv, Nat.reduceBEq, Nat.reduceBneDiff, Nat.reduceBeqDiff]
    refine Sat.of (S := [20]) (by kernel_rfl) ?_
    simp (maxSteps := 1000000) (disch := omega) only [push_cast, go_sem, wpS_tt, wpS_tf, wpS_ft, wpS_ff, wpCond_tt, wpCond_ff, Nat.reducePow, Int.reduceEq, Int.reduceLT, Int.reduceLE, Int.reduceAdd, Int.reduceSub, Int.reduceMul, Int.reduceToNat, Int.reduceBEq, Int.reduceBNe, ↓reduceIte, reduceCtorEq, Nat.reduceEqDiff, Nat.reduceAdd, Nat.reduceMul, Nat.reduceLT, Nat.reduceLeDiff, Nat.reduceSub, Nat.reduceDiv, Nat.reduceBEq, Nat.reduceBneDiff, Nat.reduceBeqDiff]
    clear hJ
    refine Sat.loop (σ := Nat) (fun k => upd (upd (upd (upd noT 3 (.ptr 3 [] 0 0 g1 1)) 5 (.ptr 5 [] 0 0 g2 2)) 1 (.sl ((events p).map Evt.V))) 10 (.int .i64 k))
      (fun _ => (noM.set 3 (.own 25 (some g1) 1 [.agg [.sl (p.map thrV)]])).set 5 (.own 29 (some g2) 1 [.agg [.sl (x.fr.map (V.int .i64)), .sl (x.od.map intsV)]]))
      (fun k => k ≤ (events p).length ∧ (((scene p).ds.zip x.fr).take k).all (fromS x.od) = true) (fun k => (events p).length - k) 0 (by simp) ?_ ?_
    · (refine Less.start ?_; repeat (first | exact LessO.nil | exact LessO.all | refine LessO.skip (by decide) ?_ | refine LessO.upd ?_ ?_ | refine LessO.set ?_ ?_)) <;> (try simp (maxSteps := 1000000) (disch := omega) only [push_cast, go_sem, wpS_tt, wpS_tf, wpS_ft, wpS_ff, wpCond_tt, wpCond_ff, Nat.reducePow, Int.reduceEq, Int.reduceLT, Int.reduceLE, Int.reduceAdd, Int.reduceSub, Int.reduceMul, Int.reduceToNat, Int.reduceBEq, Int.reduceBNe, ↓reduceIte, reduceCtorEq, Nat.reduceEqDiff, Nat.reduceAdd, Nat.reduceMul, Nat.reduceLT, Nat.reduceLeDiff, Nat.reduceSub, Nat.reduceDiv, Nat.reduceBEq, Nat.reduceBneDiff, Nat.reduceBeqDiff])
    rintro k ⟨hk, hall⟩ J hJ
    refine Sat.of (S := [18]) (by kernel_rfl) ?_
    rcases Nat.lt_or_ge k (events p).length with hlt | hge
    · obtain ⟨ev, he⟩ : ∃ d, (events p)[k]? = some d := ⟨_, List.getElem?_eq_getElem hlt⟩
      obtain ⟨f, hf⟩ : ∃ f, x.fr[k]? = some f := ⟨_, List.getElem?_eq_getElem (by omega)⟩
      obtain ⟨d, hst⟩ : ∃ d, stepAt p ev = d := ⟨_, rfl⟩
      have hd := scene_get he
      have hdo := l12Do_fn p ev (evIn_of (List.mem_of_getElem? he))
      rw [hst] at hd hdo
      have hz : ((scene p).ds.zip x.fr)[k]? = some (d, f) := by simp [List.getElem?_zip_eq_some, hd, hf]
      have hkf : k < x.fr.length := by omega
      have bad : fromS x.od (d, f) = false → formS p x = false := fun h => by rw [hfit, allp_no hz h, Bool.and_false]
      have next : fromS x.od (d, f) = true → (((scene p).ds.zip x.fr).take (k + 1)).all (fromS x.od) = true := allp_take hz hall
      simp (maxSteps := 1000000) (disch := omega) only [push_cast, go_sem, wpS_tt, wpS_tf, wpS_ft, wpS_ff, wpCond_tt, wpCond_ff, Nat.reducePow, Int.reduceEq, Int.reduceLT, Int.reduceLE, Int.reduceAdd, Int.reduceSub, Int.reduceMul, Int.reduceToNat, Int.reduceBEq, Int.reduceBNe, ↓reduceIte, reduceCtorEq, Nat.reduceEqDiff, Nat.reduceAdd, Nat.reduceMul, Nat.reduceLT, Nat.reduceLeDiff, Nat.reduceSub, Nat.reduceDiv, Nat.reduceBEq, Nat.reduceBneDiff, Nat.reduceBeqDiff, hlt]
      refine Sat.drawnE [(0, 6), (4, 6), (5, 6)] [] [0, 4, 5] (pureT [(47, d.V)]) (by kernel_rfl) (by kernel_rfl) ?_
      simp (maxSteps := 1000000) (disch := omega) only [push_cast, go_sem, wpS_tt, wpS_tf, wpS_ft, wpS_ff, wpCond_tt, wpCond_ff, Nat.reducePow, Int.reduceEq, Int.reduceLT, Int.reduceLE, Int.reduceAdd, Int.reduceSub, Int.reduceMul, Int.reduceToNat, Int.reduceBEq, Int.reduceBNe, ↓reduceIte, reduceCtorEq, Nat.reduceEqDiff, Nat.reduceAdd, Nat.reduceMul, Nat.reduceLT, Nat.reduceLeDiff, Nat.reduceSub, Nat.reduceDiv, Nat.reduceBEq, Nat.reduceBneDiff, Nat.reduceBeqDiff, he, hlt, Evt.V_eq]
      refine runD_pure rfl hdo rfl rfl ?_ ?_
      · rfl
      simp (maxSteps := 1000000) (disch := omega) only [push_cast, go_sem, wpS_tt, wpS_tf, wpS_ft, wpS_ff, wpCond_tt, wpCond_ff, Nat.reducePow, Int.reduceEq, Int.reduceLT, Int.reduceLE, Int.reduceAdd, Int.reduceSub, Int.reduceMul, Int.reduceToNat, Int.reduceBEq, Int.reduceBNe, ↓reduceIte, reduceCtorEq, Nat.reduceEqDiff, Nat.reduceAdd, Nat.reduceMul, Nat.reduceLT, Nat.reduceLeDiff, Nat.reduceSub, Nat.reduceDiv, Nat.reduceBEq, Nat.reduceBneDiff, Nat.reduceBeqDiff, Do.V_eq]
      intro g3
      refine Sat.of (S := []) (by kernel_rfl) ?_
      simp (maxSteps := 1000000) (disch := omega) only [push_cast, go_sem, wpS_tt, wpS_tf, wpS_ft, wpS_ff, wpCond_tt, wpCond_ff, Nat.reducePow, Int.reduceEq, Int.reduceLT, Int.reduceLE, Int.reduceAdd, Int.reduceSub, Int.reduceMul, Int.reduceToNat, Int.reduceBEq, Int.reduceBNe, ↓reduceIte, reduceCtorEq, Nat.reduceEqDiff, Nat.reduceAdd, Nat.reduceMul, Nat.reduceLT, Nat.reduceLeDiff, Nat.reduceSub, Nat.reduceDiv, Nat.reduceBEq, Nat.reduceBneDiff, Nat.reduceBeqDiff]
      cases hr : d.reads
      · have hrf := l1Reads_fn d
        rw [hr] at hrf
        refine Sat.drawnE [] [] (List.range 38) (pureT [(43, .bool false)]) (by kernel_rfl) (by kernel_rfl) ?_
        simp (maxSteps := 1000000) (disch := omega) only [push_cast, go_sem, wpS_tt, wpS_tf, wpS_ft, wpS_ff, wpCond_tt, wpCond_ff, Nat.reducePow, Int.reduceEq, Int.reduceLT, Int.reduceLE, Int.reduceAdd, Int.reduceSub, Int.reduceMul, Int.reduceToNat, Int.reduceBEq, Int.reduceBNe, ↓reduceIte, reduceCtorEq, Nat.reduceEqDiff, Nat.reduceAdd, Nat.reduceMul, Nat.reduceLT, Nat.reduceLeDiff, Nat.reduceSub, Nat.reduceDiv, Nat.reduceBEq, Nat.reduceBneDiff, Nat.reduceBeqDiff, Do.V_eq]
        refine runD_pure rfl hrf rfl rfl ?_ ?_
        · rfl
        cases hf2 : (f != -2)
        · simp (maxSteps := 1000000) (disch := omega) only [push_cast, go_sem, wpS_tt, wpS_tf, wpS_ft, wpS_ff, wpCond_tt, wpCond_ff, Nat.reducePow, Int.reduceEq, Int.reduceLT, Int.reduceLE, Int.reduceAdd, Int.reduceSub, Int.reduceMul, Int.reduceToNat, Int.reduceBEq, Int.reduceBNe, ↓reduceIte, reduceCtorEq, Nat.reduceEqDiff, Nat.reduceAdd, Nat.reduceMul, Nat.reduceLT, Nat.reduceLeDiff, Nat.reduceSub, Nat.reduceDiv, Nat.reduceBEq, Nat.reduceBneDiff, Nat.reduceBeqDiff, hr, hf, hkf, hf2, Do.V_eq]
          refine runD_pure rfl hrf rfl rfl ?_ ?_
          · rfl
          simp (maxSteps := 1000000) (disch := omega) only [push_cast, go_sem, wpS_tt, wpS_tf, wpS_ft, wpS_ff, wpCond_tt, wpCond_ff, Nat.reducePow, Int.reduceEq, Int.reduceLT, Int.reduceLE, Int.reduceAdd, Int.reduceSub, Int.reduceMul, Int.reduceToNat, Int.reduceBEq, Int.reduceBNe, ↓reduceIte, reduceCtorEq, Nat.reduceEqDiff, Nat.reduceAdd, Nat.reduceMul, Nat.reduceLT, Nat.reduceLeDiff, Nat.reduceSub, Nat.reduceDiv, Nat.reduceBEq, Nat.reduceBneDiff, Nat.reduceBeqDiff, hr]
          refine hJ (k + 1) _ _ ⟨by omega, next (by simp only [bne, Bool.not_eq_false'] at hf2; simp [fromS, hr, hf2])⟩ (by omega) ?_
          (refine Less.start ?_; repeat (first | exact LessO.nil | exact LessO.all | refine LessO.skip (by decide) ?_ | refine LessO.upd ?_ ?_ | refine LessO.set ?_ ?_)) <;> (try simp (maxSteps := 1000000) (disch := omega) only [push_cast, go_sem, wpS_tt, wpS_tf, wpS_ft, wpS_ff, wpCond_tt, wpCond_ff, Nat.reducePow, Int.reduceEq, Int.reduceLT, Int.reduceLE, Int.reduceAdd, Int.reduceSub, Int.reduceMul, Int.reduceToNat, Int.reduceBEq, Int.reduceBNe, ↓reduceIte, reduceCtorEq, Nat.reduceEqDiff, Nat.reduceAdd, Nat.reduceMul, Nat.reduceLT, Nat.reduceLeDiff, Nat.reduceSub, Nat.reduceDiv, Nat.reduceBEq, Nat.reduceBneDiff, Nat.reduceBeqDiff])
        · simp (maxSteps := 1000000) (disch := omega) only [push_cast, go_sem, wpS_tt, wpS_tf, wpS_ft, wpS_ff, wpCond_tt, wpCond_ff, Nat.reducePow, Int.reduceEq, Int.reduceLT, Int.reduceLE, Int.reduceAdd, Int.reduceSub, Int.reduceMul, Int.reduceToNat, Int.reduceBEq, Int.reduceBNe, ↓reduceIte, reduceCtorEq, Nat.reduceEqDiff, Nat.reduceAdd, Nat.reduceMul, Nat.reduceLT, Nat.reduceLeDiff, Nat.reduceSub, Nat.reduceDiv, Nat.reduceBEq, Nat.reduceBneDiff, Nat.reduceBeqDiff, hr, hf, hkf, hf2, Do.V_eq]
          rw [bad (by simp only [bne, Bool.not_eq_true'] at hf2; simp [fromS, hr, hf2])]
      · have hrf := l1Reads_fn d
        rw [hr] at hrf
        obtain ⟨hp0, hp2⟩ := hpl d (List.mem_of_getElem? hd) hr
        obtain ⟨a, ha⟩ := Int.eq_ofNat_of_zero_le hp0
        have hao : a < x.od.length := by omega
        obtain ⟨row, hro⟩ : ∃ r, x.od[a]? = some r := ⟨_, List.getElem?_eq_getElem hao⟩
        have hrow := h3 row (List.mem_of_getElem? hro)
        have hfs : fromS x.od (d, f) = (f == -1 || row.contains f) := by simp [fromS, hr, ha, hro]
        refine Sat.drawnE [] [] (List.range 38) (pureT [(43, .bool true), (46, .bool (row.contains f))]) (by kernel_rfl) (by kernel_rfl) ?_
        simp (maxSteps := 1000000) (disch := omega) only [push_cast, go_sem, wpS_tt, wpS_tf, wpS_ft, wpS_ff, wpCond_tt, wpCond_ff, Nat.reducePow, Int.reduceEq, Int.reduceLT, Int.reduceLE, Int.reduceAdd, Int.reduceSub, Int.reduceMul, Int.reduceToNat, Int.reduceBEq, Int.reduceBNe, ↓reduceIte, reduceCtorEq, Nat.reduceEqDiff, Nat.reduceAdd, Nat.reduceMul, Nat.reduceLT, Nat.reduceLeDiff, Nat.reduceSub, Nat.reduceDiv, Nat.reduceBEq, Nat.reduceBneDiff, Nat.reduceBeqDiff, Do.V_eq]
        refine runD_pure rfl hrf rfl rfl ?_ ?_
        · rfl
        simp (maxSteps := 1000000) (disch := omega) only [push_cast, go_sem, wpS_tt, wpS_tf, wpS_ft, wpS_ff, wpCond_tt, wpCond_ff, Nat.reducePow, Int.reduceEq, Int.reduceLT, Int.reduceLE, Int.reduceAdd, Int.reduceSub, Int.reduceMul, Int.reduceToNat, Int.reduceBEq, Int.reduceBNe, ↓reduceIte, reduceCtorEq, Nat.reduceEqDiff, Nat.reduceAdd, Nat.reduceMul, Nat.reduceLT, Nat.reduceLeDiff, Nat.reduceSub, Nat.reduceDiv, Nat.reduceBEq, Nat.reduceBneDiff, Nat.reduceBeqDiff, hr, Do.V_eq]
        refine runD_pure rfl hrf rfl rfl ?_ ?_
        · rfl
        cases hf1 : (f != -1)
        · simp (maxSteps := 1000000) (disch := omega) only [push_cast, go_sem, wpS_tt, wpS_tf, wpS_ft, wpS_ff, wpCond_tt, wpCond_ff, Nat.reducePow, Int.reduceEq, Int.reduceLT, Int.reduceLE, Int.reduceAdd, Int.reduceSub, Int.reduceMul, Int.reduceToNat, Int.reduceBEq, Int.reduceBNe, ↓reduceIte, reduceCtorEq, Nat.reduceEqDiff, Nat.reduceAdd, Nat.reduceMul, Nat.reduceLT, Nat.reduceLeDiff, Nat.reduceSub, Nat.reduceDiv, Nat.reduceBEq, Nat.reduceBneDiff, Nat.reduceBeqDiff, hr, hf, hkf, hf1, Do.V_eq]
          refine hJ (k + 1) _ _ ⟨by omega, next (by simp only [bne, Bool.not_eq_false'] at hf1; simp [hfs, hf1])⟩ (by omega) ?_
          (refine Less.start ?_; repeat (first | exact LessO.nil | exact LessO.all | refine LessO.skip (by decide) ?_ | refine LessO.upd ?_ ?_ | refine LessO.set ?_ ?_)) <;> (try simp (maxSteps := 1000000) (disch := omega) only [push_cast, go_sem, wpS_tt, wpS_tf, wpS_ft, wpS_ff, wpCond_tt, wpCond_ff, Nat.reducePow, Int.reduceEq, Int.reduceLT, Int.reduceLE, Int.reduceAdd, Int.reduceSub, Int.reduceMul, Int.reduceToNat, Int.reduceBEq, Int.reduceBNe, ↓reduceIte, reduceCtorEq, Nat.reduceEqDiff, Nat.reduceAdd, Nat.reduceMul, Nat.reduceLT, Nat.reduceLeDiff, Nat.reduceSub, Nat.reduceDiv, Nat.reduceBEq, Nat.reduceBneDiff, Nat.reduceBeqDiff])
        · simp (maxSteps := 1000000) (disch := omega) only [push_cast, go_sem, wpS_tt, wpS_tf, wpS_ft, wpS_ff, wpCond_tt, wpCond_ff, Nat.reducePow, Int.reduceEq, Int.reduceLT, Int.reduceLE, Int.reduceAdd, Int.reduceSub, Int.reduceMul, Int.reduceToNat, Int.reduceBEq, Int.reduceBNe, ↓reduceIte, reduceCtorEq, Nat.reduceEqDiff, Nat.reduceAdd, Nat.reduceMul, Nat.reduceLT, Nat.reduceLeDiff, Nat.reduceSub, Nat.reduceDiv, Nat.reduceBEq, Nat.reduceBneDiff, Nat.reduceBeqDiff, hr, hf, hkf, hf1, ha, hro, hao, intsV_eq, Do.V_eq]
          refine runD_pure rfl (l12Has_fn row f hrow) rfl rfl ?_ ?_
          · rfl
          have hf1' : (f == -1) = false := by simpa only [bne, Bool.not_eq_true'] using hf1
          cases hc : row.contains f
          · simp (maxSteps := 1000000) (disch := omega) only [push_cast, go_sem, wpS_tt, wpS_tf, wpS_ft, wpS_ff, wpCond_tt, wpCond_ff, Nat.reducePow, Int.reduceEq, Int.reduceLT, Int.reduceLE, Int.reduceAdd, Int.reduceSub, Int.reduceMul, Int.reduceToNat, Int.reduceBEq, Int.reduceBNe, ↓reduceIte, reduceCtorEq, Nat.reduceEqDiff, Nat.reduceAdd, Nat.reduceMul, Nat.reduceLT, Nat.reduceLeDiff, Nat.reduceSub, Nat.reduceDiv, Nat.reduceBEq, Nat.reduceBneDiff, Nat.reduceBeqDiff]
            rw [bad (by rw [hfs, hf1', hc]; rfl)]
          · simp (maxSteps := 1000000) (disch := omega) only [push_cast, go_sem, wpS_tt, wpS_tf, wpS_ft, wpS_ff, wpCond_tt, wpCond_ff, Nat.reducePow, Int.reduceEq, Int.reduceLT, Int.reduceLE, Int.reduceAdd, Int.reduceSub, Int.reduceMul, Int.reduceToNat, Int.reduceBEq, Int.reduceBNe, ↓reduceIte, reduceCtorEq, Nat.reduceEqDiff, Nat.reduceAdd, Nat.reduceMul, Nat.reduceLT, Nat.reduceLeDiff, Nat.reduceSub, Nat.reduceDiv, Nat.reduceBEq, Nat.reduceBneDiff, Nat.reduceBeqDiff]
            refine hJ (k + 1) _ _ ⟨by omega, next (by rw [hfs, hc, Bool.or_true])⟩ (by omega) ?_
            (refine Less.start ?_; repeat (first | exact LessO.nil | exact LessO.all | refine LessO.skip (by decide) ?_ | refine LessO.upd ?_ ?_ | refine LessO.set ?_ ?_)) <;> (try simp (maxSteps := 1000000) (disch := omega) only [push_cast, go_sem, wpS_tt, wpS_tf, wpS_ft, wpS_ff, wpCond_tt, wpCond_ff, Nat.reducePow, Int.reduceEq, Int.reduceLT, Int.reduceLE, Int.reduceAdd, Int.reduceSub, Int.reduceMul, Int.reduceToNat, Int.reduceBEq, Int.reduceBNe, ↓reduceIte, reduceCtorEq, Nat.reduceEqDiff, Nat.reduceAdd, Nat.reduceMul, Nat.reduceLT, Nat.reduceLeDiff, Nat.reduceSub, Nat.reduceDiv, Nat.reduceBEq, Nat.reduceBneDiff, Nat.reduceBeqDiff])
    · have : k = (events p).length := by omega
      subst this
      have hall2 : ((scene p).ds.zip x.fr).all (fromS x.od) = true := by rwa [List.take_of_length_le (by simp; omega)] at hall
      simp (maxSteps := 1000000) (disch := omega) only [push_cast, go_sem, wpS_tt, wpS_tf, wpS_ft, wpS_ff, wpCond_tt, wpCond_ff, Nat.reducePow, Int.reduceEq, Int.reduceLT, Int.reduceLE, Int.reduceAdd, Int.reduceSub, Int.reduceMul, Int.reduceToNat, Int.reduceBEq, Int.reduceBNe, ↓reduceIte, reduceCtorEq, Nat.reduceEqDiff, Nat.reduceAdd, Nat.reduceMul, Nat.reduceLT, Nat.reduceLeDiff, Nat.reduceSub, Nat.reduceDiv, Nat.reduceBEq, Nat.reduceBneDiff, Nat.reduceBeqDiff]
      refine Sat.of (S := []) (by kernel_rfl) ?_
      simp (maxSteps := 1000000) (disch := omega) only [push_cast, go_sem, wpS_tt, wpS_tf, wpS_ft, wpS_ff, wpCond_tt, wpCond_ff, Nat.reducePow, Int.reduceEq, Int.reduceLT, Int.reduceLE, Int.reduceAdd, Int.reduceSub, Int.reduceMul, Int.reduceToNat, Int.reduceBEq, Int.reduceBNe, ↓reduceIte, reduceCtorEq, Nat.reduceEqDiff, Nat.reduceAdd, Nat.reduceMul, Nat.reduceLT, Nat.reduceLeDiff, Nat.reduceSub, Nat.reduceDiv, Nat.reduceBEq, Nat.reduceBneDiff, Nat.reduceBeqDiff]
      rw [hfit, hall1, hall2]; rfl
end Go.Proofs.Ytmmipjlogdggiaa
/-! ## Calls that take two rows and hand over one; all that may be told of whom events read from, by the reference -/
namespace Go.Proofs.Ytmmipjlogdggiaa
open Go.RowKit
set_option linter.unusedSimpArgs false
set_option linter.unusedVariables false
set_option pp.maxSteps 3000

section
variable {P : Program} {M Mf : Mem} {k : V → Mem → Prop} {c : Bool}
theorem mg_skip : ∀ {xs ks : List (Option Nat)} {i : Nat}, (xs.all fun x => x.isNone) = true → mg i (xs ++ ks) M Mf = mg (i + xs.length) ks M Mf
  | [], ks, i, h => rfl
  | none :: xs, ks, i, h => by
    simp only [List.all_cons, Bool.and_eq_true] at h
    rw [List.cons_append, mg, mg_skip h.2, List.length_cons, Nat.add_right_comm]; rfl
  | some x :: xs, ks, i, h => by simp at h
theorem renArgs_app : ∀ {xs ys : List V} {i : Nat}, (xs.all fun v => v.key.isNone) = true → renArgs i (xs ++ ys) = xs ++ renArgs (i + xs.length) ys
  | [], ys, i, h => rfl
  | x :: xs, ys, i, h => by
    simp only [List.all_cons, Bool.and_eq_true] at h
    have e : x.ren i = x := by cases x <;> first | rfl | (simp [V.key] at h)
    rw [List.cons_append, renArgs, renArgs_app h.2, List.length_cons, e]
    rw [show i + 1 + xs.length = i + (xs.length + 1) by omega]; rfl
theorem foot_at {xs ks : List (Option Nat)} {j : Nat} : footM M (xs ++ ks) (xs.length + j) = ((ks[j]?).bind id).bind M := by
  rw [footM_at, List.getElem?_append_right (by omega), Nat.add_sub_cancel_left]
/-- A call, in a drawn region, that takes two rows and hands over one. -/
theorem runD_two {spec : Table} {fn : FuncId} (xs : List V) {a b d l1 c1 l2 c2 : Nat} {γ1 γ2 : Option Nat} {o1 o2 : V} {R : Post} (h : spec fn (xs ++ [.msl xs.length [] γ1 l1 c1, .msl (xs.length + 1) [] γ2 l2 c2]) (footM M ((xs ++ [V.msl a [] γ1 l1 c1, V.msl b [] γ2 l2 c2]).map V.key)) = some R)
    (hc : Fc P fn (xs ++ [.msl xs.length [] γ1 l1 c1, .msl (xs.length + 1) [] γ2 l2 c2]) ((noM.set xs.length o1).set (xs.length + 1) o2) R) (ha : M a = some o1) (hb : M b = some o2) (hab : a ≠ b) (hk : (xs.all fun v => v.key.isNone) = true) (h9 : Nat.ble (xs.length + 2) 90 = true)
    (hR : ∀ r m, R r m → ∃ γ l c ob, r = .msl 100 [] γ l c ∧ m = noM.set 100 ob) (hne : ∃ r m, R r m) (hchk : c = true) (hK : ∀ γ l c ob, R (.msl 100 [] γ l c) (noM.set 100 ob) → runV (some (True, det (.msl d [] γ l c) (((M.era b).era a).set d ob))) k .mk) :
    runD (callV (specT P spec) fn (xs ++ [.msl a [] γ1 l1 c1, .msl b [] γ2 l2 c2]) (some d) M) false M c k .mk := by
  have h90 := Nat.le_of_ble_eq_true h9
  have hk' : ((xs.map V.key).all fun x => x.isNone) = true := by rw [List.all_map]; exact hk
  have hren : renArgs 0 (xs ++ [.msl a [] γ1 l1 c1, .msl b [] γ2 l2 c2]) = xs ++ [.msl xs.length [] γ1 l1 c1, .msl (xs.length + 1) [] γ2 l2 c2] := by
    rw [renArgs_app hk, Nat.zero_add]; rfl
  have hks : (xs ++ [V.msl a [] γ1 l1 c1, V.msl b [] γ2 l2 c2]).map V.key = xs.map V.key ++ [some a, some b] := by rw [List.map_append]; rfl
  have hlen : (xs.map V.key).length = xs.length := List.length_map ..
  refine runD_call (F := (noM.set xs.length o1).set (xs.length + 1) o2) (R := R) (by rw [hren]; exact h) (by rw [hren]; exact hc) ?_ ?_ (by simp; omega) hne nofun hchk ?_
  · rw [hks]
    refine Sub.set (Sub.set Sub.no ?_) ?_
    · have := foot_at (M := M) (xs := xs.map V.key) (ks := [some a, some b]) (j := 0)
      rw [hlen, Nat.add_zero] at this
      rw [this]; exact ha
    · have := foot_at (M := M) (xs := xs.map V.key) (ks := [some a, some b]) (j := 1)
      rw [hlen] at this
      rw [this]; exact hb
  · rw [hks, List.filterMap_append, keys_none hk', List.nil_append]
    simp [List.filterMap_cons, hab]
  · rintro r0 r Mf hr h5
    obtain ⟨γ, l, c, ob, rfl, rfl⟩ := hR r0 Mf hr
    have e1 : (noM.set 100 ob) 100 = some ob := rfl
    have e2 : ∀ i, i < 100 → (noM.set 100 ob) i = none := fun i hi => by simp [Mem.set, noM]; omega
    rw [hks, merge_eq, e1, mgD_some, mg_skip hk', Nat.zero_add, hlen, mg_some, mg_some, e2 _ (by omega), e2 _ (by omega), MemU_none, MemU_none, mg_nil, h5 d rfl]
    exact (runV_det.1 (hK γ l c ob hr)).2
/-- No row is a row. -/
theorem Fc.nils {f : FuncId} {xs : List V} {e1 e2 : TypeId} {R : Post} (h : Fc P f (xs ++ [.msl xs.length [] none 0 0, .msl (xs.length + 1) [] none 0 0]) ((noM.set xs.length (.own e1 none 0 [])).set (xs.length + 1) (.own e2 none 0 [])) R) : Fc P f (xs ++ [.nilsl, .nilsl]) noM R := by
  refine ⟨fun imm w vals hI hi hs hv => ?_, h.go⟩
  have hI2 : Inv (szT P) imm w ((noM.set xs.length (.own e1 none 0 [])).set (xs.length + 1) (.own e2 none 0 [])) := (hI.nilrow _ _).nilrow _ _
  refine (h.fn imm w vals hI2 hi (by simpa using hs) ?_).mono ?_
  · intro j c u hc hu
    rcases Nat.lt_or_ge j xs.length with hj | hj
    · rw [List.getElem?_append_left hj] at hc
      exact hv j c u (by rw [List.getElem?_append_left hj]; exact hc) hu
    · have hjx : xs.length ≤ j := hj
      rw [List.getElem?_append_right hjx] at hc
      have hv' := fun c' hc' => hv j c' u (by rw [List.getElem?_append_right hjx]; exact hc') hu
      generalize j - xs.length = n at *
      match n with
      | 0 => cases hc; have := hv' .nilsl rfl; cases this; exact .msl _ _ none _ _
      | 1 => cases hc; have := hv' .nilsl rfl; cases this; exact .msl _ _ none _ _
      | n + 2 => cases hc
  · rintro e w' ⟨v, r, m, imm', h1, h2, h3, h4⟩
    refine ⟨v, r, m, imm', h1, h2, h3, h4.inv, h4.lt, h4.size, h4.os, h4.tape, h4.output, fun g hg _ => h4.block g hg ?_, fun g hg => (h4.owns g hg).imp_left ?_⟩
    · exact fun ho => not_owns_no (owns_nilrow (owns_nilrow ho))
    · exact fun ho => owns_nilrow (owns_nilrow ho)
end

/-- Rows of numbers, in a row that is owned. -/
def rowsP (L : List (List Int)) : Post := fun r m => ∃ γ c e, ∃ ws : List RowI, r = .msl 100 [] γ ws.length c ∧ m = noM.set 100 (.own e γ c (ws.map RowI.V)) ∧ ws.map RowI.l = L ∧ (γ = none ∨ e = 26)
theorem rowsP_one {L : List (List Int)} : ∀ r m, rowsP L r m → ∃ γ l c ob, r = .msl 100 [] γ l c ∧ m = noM.set 100 ob := by
  rintro r m ⟨γ, c, e, ws, rfl, rfl, _⟩
  exact ⟨γ, _, c, _, rfl, rfl⟩
theorem rowsP_ne (L : List (List Int)) : ∃ r m, rowsP L r m := ⟨_, _, none, 0, 0, L.map fun l => ⟨none, 0, l⟩, rfl, rfl, by rw [List.map_map]; exact List.map_id'' (fun _ => rfl) L, .inl rfl⟩
theorem runD_rows {M : Mem} {k : V → Mem → Prop} {cc : Bool} {spec : Table} {fn : FuncId} (xs : List V) {a b d l1 c1 l2 c2 : Nat} {γ1 γ2 : Option Nat} {o1 o2 : V} {L : List (List Int)} (h : spec fn (xs ++ [.msl xs.length [] γ1 l1 c1, .msl (xs.length + 1) [] γ2 l2 c2]) (footM M ((xs ++ [V.msl a [] γ1 l1 c1, V.msl b [] γ2 l2 c2]).map V.key)) = some (rowsP L))
    (hc : Fc Try.prog fn (xs ++ [.msl xs.length [] γ1 l1 c1, .msl (xs.length + 1) [] γ2 l2 c2]) ((noM.set xs.length o1).set (xs.length + 1) o2) (rowsP L)) (ha : M a = some o1) (hb : M b = some o2) (hab : a ≠ b) (hk : (xs.all fun v => v.key.isNone) = true) (h9 : Nat.ble (xs.length + 2) 90 = true)
    (hchk : cc = true) (hK : ∀ γ c e, ∀ ws : List RowI, ws.map RowI.l = L → (γ = none ∨ e = 26) → runV (some (True, det (.msl d [] γ ws.length c) (((M.era b).era a).set d (.own e γ c (ws.map RowI.V))))) k .mk) :
    runD (callV (specT Try.prog spec) fn (xs ++ [.msl a [] γ1 l1 c1, .msl b [] γ2 l2 c2]) (some d) M) false M cc k .mk := by
  refine runD_two xs h hc ha hb hab hk h9 rowsP_one (rowsP_ne L) hchk ?_
  rintro γ l c ob ⟨γ', c', e, ws, h1, h2, h3, h4⟩
  cases h1
  have := congrFun h2 100
  simp only [Mem.set, if_true, Option.some.injEq] at this
  subst this
  exact hK γ c e ws h3 h4
theorem flatMap_take {α β : Type} (f : α → List β) (l : List α) (k : Nat) : ((l.take k).flatMap f).length ≤ (l.flatMap f).length := by
  conv => rhs; rw [← List.take_append_drop k l, List.flatMap_append, List.length_append]
  exact Nat.le_add_right _ _
def compl (ds : List Do) : Nat → List Int → List (List Int)
  | 0, fr => [fr]
  | j + 1, fr => match ds[fr.length]? with
    | some d => (choicesOf ds d).flatMap fun c => compl ds j (fr ++ [c])
    | none => [fr]

theorem rowsP_of {f : FuncId} {args : List V} {F : Mem} {L : List (List Int)} (h : Fc Try.prog f args F fun r m => ∃ s γ c e, ∃ ws : List RowI, r = .msl s [] γ ws.length c ∧ m = noM.set s (.own e γ c (ws.map RowI.V)) ∧ ws.map RowI.l = L ∧ (γ = none ∨ e = 26)) : Fc Try.prog f args F (rowsP L) :=
  h.rekey (by
    rintro r m ⟨s, γ, c, e, ws, rfl, rfl, h1, h2⟩
    exact .inr ⟨s, γ, ws.length, c, _, rfl, by simp [Mem.set], γ, c, e, ws, rfl, era_set rfl, h1, h2⟩)
theorem l12Froms_fn (p : Prog) (hn : (events p).length ≤ 42) : ∀ (j : Nat) (fr : RowI) (γ : Option Nat) (c : Nat) (e : TypeId) (ys : List RowI), fr.l.length + j = (events p).length → ys.length + (compl (scene p).ds j fr.l).length < 2 ^ 30 → (γ = none ∨ e = 26) →
    Fc Try.prog 66 [progV p, .sl ((events p).map Evt.V), .msl 2 [] fr.γ fr.l.length fr.c, .msl 3 [] γ ys.length c] ((noM.set 2 fr.V).set 3 (.own e γ c (ys.map RowI.V))) (rowsP (ys.map RowI.l ++ compl (scene p).ds j fr.l)) := by
  intro j
  induction j with
  | zero =>
    rintro ⟨γ0, c0, l⟩ γ c e ys hlen hb hγ
    simp only [Nat.add_zero] at hlen
    rw [RowI.V_eq]
    simp only [compl, List.length_singleton] at hb ⊢
    have hγ' : (γ = none ∨ e = 26) = True := by simp only [hγ]
    have hge : (l.length : Int) ≥ (events p).length := by omega
    have hge2 : (((events p).length : Int) ≤ l.length) := by omega
    refine rowsP_of ?_
    refine Fc.start (S := []) Try.func66 Try.ntmps66 Try.results66 rfl (by decide) rfl (by kernel_rfl) ?_
    simp (maxSteps := 1000000) (disch := omega) only [push_cast, go_sem, wpS_tt, wpS_tf, wpS_ft, wpS_ff, wpCond_tt, wpCond_ff, Nat.reducePow, Int.reduceEq, Int.reduceLT, Int.reduceLE, Int.reduceAdd, Int.reduceSub, Int.reduceMul, Int.reduceToNat, Int.reduceBEq, Int.reduceBNe, ↓reduceIte, reduceCtorEq, Nat.reduceEqDiff, Nat.reduceAdd, Nat.reduceMul, Nat.reduceLT, Nat.reduceLeDiff, Nat.reduceSub, Nat.reduceDiv, Nat.reduceBEq, Nat.reduceBneDiff, Nat.reduceBeqDiff, progV_eq, hge, hge2, hγ']
    intro g g1
    refine ⟨by omega, fun γ1 c1 _ => ?_⟩
    intro g2
    cases hfl : (V.own 3 γ1 c1 (l.map (V.int .i64))).flatC <;> simp (maxSteps := 1000000) (disch := omega) only [push_cast, go_sem, wpS_tt, wpS_tf, wpS_ft, wpS_ff, wpCond_tt, wpCond_ff, Nat.reducePow, Int.reduceEq, Int.reduceLT, Int.reduceLE, Int.reduceAdd, Int.reduceSub, Int.reduceMul, Int.reduceToNat, Int.reduceBEq, Int.reduceBNe, ↓reduceIte, reduceCtorEq, Nat.reduceEqDiff, Nat.reduceAdd, Nat.reduceMul, Nat.reduceLT, Nat.reduceLeDiff, Nat.reduceSub, Nat.reduceDiv, Nat.reduceBEq, Nat.reduceBneDiff, Nat.reduceBeqDiff, hγ', hfl]
    all_goals
      refine ⟨by omega, fun γ3 c3 _ => ?_⟩
      refine ⟨_, ?_, 8, γ3, c3, 26, ys ++ [⟨γ1, c1, l⟩], by simp, rfl, by simp, .inr rfl⟩
      ((repeat (first | exact Sub.no | refine Sub.set ?_ ?_)) <;> (try simp (disch := omega) only [push_cast, go_sem, wpS_tt, wpS_tf, wpS_ft, wpS_ff, wpCond_tt, wpCond_ff, Nat.reducePow, Int.reduceEq, Int.reduceLT, Int.reduceLE, Int.reduceAdd, Int.reduceSub, Int.reduceMul, Int.reduceToNat, Int.reduceBEq, Int.reduceBNe, ↓reduceIte, reduceCtorEq, Nat.reduceEqDiff, Nat.reduceAdd, Nat.reduceMul, Nat.reduceLT, Nat.reduceLeDiff, Nat.reduceSub, Nat.reduceDiv, Nat.reduceBEq, Nat.reduceBneDiff, Nat.reduceBeqDiff]))
      all_goals simp [RowI.V]
  | succ j ih =>
    rintro ⟨γ0, c0, l⟩ γ c e ys hlen hb hγ
    simp only at hlen
    rw [RowI.V_eq]
    simp only at hb ⊢
    have hlt : l.length < (events p).length := by omega
    obtain ⟨ev, he⟩ : ∃ d, (events p)[l.length]? = some d := ⟨_, List.getElem?_eq_getElem hlt⟩
    obtain ⟨d, hst⟩ : ∃ d, stepAt p ev = d := ⟨_, rfl⟩
    have hd := scene_get he
    have hdo := l12Do_fn p ev (evIn_of (List.mem_of_getElem? he))
    rw [hst] at hd hdo
    have hcp : compl (scene p).ds (j + 1) l = (choicesOf (scene p).ds d).flatMap fun c => compl (scene p).ds j (l ++ [c]) := by rw [compl, hd]
    rw [hcp] at hb ⊢
    have hγ' : (γ = none ∨ e = 26) = True := by simp only [hγ]
    have hge : ¬ ((l.length : Int) ≥ (events p).length) := by omega
    have hge2 : ¬ (((events p).length : Int) ≤ l.length) := by omega
    refine rowsP_of ?_
    refine Fc.start (S := [2005]) Try.func66 Try.ntmps66 Try.results66 rfl (by decide) rfl (by kernel_rfl) ?_
    simp (maxSteps := 1000000) (disch := omega) only [push_cast, go_sem, wpS_tt, wpS_tf, wpS_ft, wpS_ff, wpCond_tt, wpCond_ff, Nat.reducePow, Int.reduceEq, Int.reduceLT, Int.reduceLE, Int.reduceAdd, Int.reduceSub, Int.reduceMul, Int.reduceToNat, Int.reduceBEq, Int.reduceBNe, ↓reduceIte, reduceCtorEq, Nat.reduceEqDiff, Nat.reduceAdd, Nat.reduceMul, Nat.reduceLT, Nat.reduceLeDiff, Nat.reduceSub, Nat.reduceDiv, Nat.reduceBEq, Nat.reduceBneDiff, Nat.reduceBeqDiff, progV_eq, hge, hge2]
    intro g1
    refine Sat.drawnE [(0, 6), (4, 6), (5, 6)] [] [0, 4, 5] (pureT [(47, d.V)]) (by kernel_rfl) (by kernel_rfl) ?_
    simp (maxSteps := 1000000) (disch := omega) only [push_cast, go_sem, wpS_tt, wpS_tf, wpS_ft, wpS_ff, wpCond_tt, wpCond_ff, Nat.reducePow, Int.reduceEq, Int.reduceLT, Int.reduceLE, Int.reduceAdd, Int.reduceSub, Int.reduceMul, Int.reduceToNat, Int.reduceBEq, Int.reduceBNe, ↓reduceIte, reduceCtorEq, Nat.reduceEqDiff, Nat.reduceAdd, Nat.reduceMul, Nat.reduceLT, Nat.reduceLeDiff, Nat.reduceSub, Nat.reduceDiv, Nat.reduceBEq, Nat.reduceBneDiff, Nat.reduceBeqDiff, he, hlt, Evt.V_eq]
    refine runD_pure rfl hdo rfl rfl ?_ ?_
    · rfl
    simp (maxSteps := 1000000) (disch := omega) only [push_cast, go_sem, wpS_tt, wpS_tf, wpS_ft, wpS_ff, wpCond_tt, wpCond_ff, Nat.reducePow, Int.reduceEq, Int.reduceLT, Int.reduceLE, Int.reduceAdd, Int.reduceSub, Int.reduceMul, Int.reduceToNat, Int.reduceBEq, Int.reduceBNe, ↓reduceIte, reduceCtorEq, Nat.reduceEqDiff, Nat.reduceAdd, Nat.reduceMul, Nat.reduceLT, Nat.reduceLeDiff, Nat.reduceSub, Nat.reduceDiv, Nat.reduceBEq, Nat.reduceBneDiff, Nat.reduceBeqDiff, Do.V_eq]
    intro g3
    refine Sat.of (S := [13]) (by kernel_rfl) ?_
    simp (maxSteps := 1000000) (disch := omega) only [push_cast, go_sem, wpS_tt, wpS_tf, wpS_ft, wpS_ff, wpCond_tt, wpCond_ff, Nat.reducePow, Int.reduceEq, Int.reduceLT, Int.reduceLE, Int.reduceAdd, Int.reduceSub, Int.reduceMul, Int.reduceToNat, Int.reduceBEq, Int.reduceBNe, ↓reduceIte, reduceCtorEq, Nat.reduceEqDiff, Nat.reduceAdd, Nat.reduceMul, Nat.reduceLT, Nat.reduceLeDiff, Nat.reduceSub, Nat.reduceDiv, Nat.reduceBEq, Nat.reduceBneDiff, Nat.reduceBeqDiff]
    refine callR.pure (l1Reads_fn d) rfl rfl ?_
    cases hr : d.reads
    · have hch : choicesOf (scene p).ds d = [-2] := by simp [choicesOf, hr]
      rw [hch] at hb ⊢
      simp only [List.flatMap_cons, List.flatMap_nil, List.append_nil] at hb ⊢
      simp (maxSteps := 1000000) (disch := omega) only [push_cast, go_sem, wpS_tt, wpS_tf, wpS_ft, wpS_ff, wpCond_tt, wpCond_ff, Nat.reducePow, Int.reduceEq, Int.reduceLT, Int.reduceLE, Int.reduceAdd, Int.reduceSub, Int.reduceMul, Int.reduceToNat, Int.reduceBEq, Int.reduceBNe, ↓reduceIte, reduceCtorEq, Nat.reduceEqDiff, Nat.reduceAdd, Nat.reduceMul, Nat.reduceLT, Nat.reduceLeDiff, Nat.reduceSub, Nat.reduceDiv, Nat.reduceBEq, Nat.reduceBneDiff, Nat.reduceBeqDiff]
      refine Sat.drawnE [(0, 2), (0, 4), (0, 5), (2, 5), (4, 5), (0, 6)] [] [] (fun f' _ _ => if f' = 66 then some (rowsP (ys.map RowI.l ++ compl (scene p).ds j (l ++ [-2]))) else none) (by kernel_rfl) (by kernel_rfl) ?_
      simp (maxSteps := 1000000) (disch := omega) only [push_cast, go_sem, wpS_tt, wpS_tf, wpS_ft, wpS_ff, wpCond_tt, wpCond_ff, Nat.reducePow, Int.reduceEq, Int.reduceLT, Int.reduceLE, Int.reduceAdd, Int.reduceSub, Int.reduceMul, Int.reduceToNat, Int.reduceBEq, Int.reduceBNe, ↓reduceIte, reduceCtorEq, Nat.reduceEqDiff, Nat.reduceAdd, Nat.reduceMul, Nat.reduceLT, Nat.reduceLeDiff, Nat.reduceSub, Nat.reduceDiv, Nat.reduceBEq, Nat.reduceBneDiff, Nat.reduceBeqDiff]
      intro g4
      refine ⟨by omega, fun γ1 c1 _ => ?_⟩
      intro g5
      refine ⟨by omega, fun γ2 c2 _ => ?_⟩
      have hih := ih ⟨γ2, c2, l ++ [-2]⟩ γ c e ys (by simp; omega) hb hγ
      simp only [RowI.V, List.length_append, List.map_append, List.map_cons, List.map_nil, List.length_cons, List.length_nil, Nat.zero_add] at hih
      refine runD_rows [_, _] rfl hih rfl rfl (by decide) rfl rfl rfl ?_
      intro γ3 c3 e3 ws hws hγ3
      simp (maxSteps := 1000000) (disch := omega) only [push_cast, go_sem, wpS_tt, wpS_tf, wpS_ft, wpS_ff, wpCond_tt, wpCond_ff, Nat.reducePow, Int.reduceEq, Int.reduceLT, Int.reduceLE, Int.reduceAdd, Int.reduceSub, Int.reduceMul, Int.reduceToNat, Int.reduceBEq, Int.reduceBNe, ↓reduceIte, reduceCtorEq, Nat.reduceEqDiff, Nat.reduceAdd, Nat.reduceMul, Nat.reduceLT, Nat.reduceLeDiff, Nat.reduceSub, Nat.reduceDiv, Nat.reduceBEq, Nat.reduceBneDiff, Nat.reduceBeqDiff]
      refine ⟨_, ?_, 8, γ3, c3, e3, ws, rfl, rfl, hws, hγ3⟩
      ((repeat (first | exact Sub.no | refine Sub.set ?_ ?_)) <;> (try simp (disch := omega) only [push_cast, go_sem, wpS_tt, wpS_tf, wpS_ft, wpS_ff, wpCond_tt, wpCond_ff, Nat.reducePow, Int.reduceEq, Int.reduceLT, Int.reduceLE, Int.reduceAdd, Int.reduceSub, Int.reduceMul, Int.reduceToNat, Int.reduceBEq, Int.reduceBNe, ↓reduceIte, reduceCtorEq, Nat.reduceEqDiff, Nat.reduceAdd, Nat.reduceMul, Nat.reduceLT, Nat.reduceLeDiff, Nat.reduceSub, Nat.reduceDiv, Nat.reduceBEq, Nat.reduceBneDiff, Nat.reduceBeqDiff]))
    · have hch : choicesOf (scene p).ds d = -1 :: writersOf (scene p).ds d.p := by simp [choicesOf, hr]
      rw [hch] at hb ⊢
      simp only [List.flatMap_cons, List.length_append] at hb ⊢
      obtain ⟨vs, hvs⟩ : ∃ vs, writersOf (scene p).ds d.p = vs := ⟨_, rfl⟩
      have hvl : vs.length ≤ 42 := by
        have h1 : (scene p).ds.length = (events p).length := by simp [scene]
        have := wrs_le (scene p).ds d.p (scene p).ds.length
        rw [← hvs]; unfold writersOf; omega
      have hwr := l12Writes_fn p d.p hn
      rw [hvs] at hb hwr ⊢
      simp (maxSteps := 1000000) (disch := omega) only [push_cast, go_sem, wpS_tt, wpS_tf, wpS_ft, wpS_ff, wpCond_tt, wpCond_ff, Nat.reducePow, Int.reduceEq, Int.reduceLT, Int.reduceLE, Int.reduceAdd, Int.reduceSub, Int.reduceMul, Int.reduceToNat, Int.reduceBEq, Int.reduceBNe, ↓reduceIte, reduceCtorEq, Nat.reduceEqDiff, Nat.reduceAdd, Nat.reduceMul, Nat.reduceLT, Nat.reduceLeDiff, Nat.reduceSub, Nat.reduceDiv, Nat.reduceBEq, Nat.reduceBneDiff, Nat.reduceBeqDiff]
      refine Sat.drawnE [(0, 2), (0, 4), (0, 5), (2, 5), (4, 5), (0, 6)] [] [] (fun f' _ _ => if f' = 66 then some (rowsP (ys.map RowI.l ++ compl (scene p).ds j (l ++ [-1]))) else none) (by kernel_rfl) (by kernel_rfl) ?_
      simp (maxSteps := 1000000) (disch := omega) only [push_cast, go_sem, wpS_tt, wpS_tf, wpS_ft, wpS_ff, wpCond_tt, wpCond_ff, Nat.reducePow, Int.reduceEq, Int.reduceLT, Int.reduceLE, Int.reduceAdd, Int.reduceSub, Int.reduceMul, Int.reduceToNat, Int.reduceBEq, Int.reduceBNe, ↓reduceIte, reduceCtorEq, Nat.reduceEqDiff, Nat.reduceAdd, Nat.reduceMul, Nat.reduceLT, Nat.reduceLeDiff, Nat.reduceSub, Nat.reduceDiv, Nat.reduceBEq, Nat.reduceBneDiff, Nat.reduceBeqDiff]
      intro g4
      refine ⟨by omega, fun γ1 c1 _ => ?_⟩
      intro g5
      refine ⟨by omega, fun γ2 c2 _ => ?_⟩
      have hih := ih ⟨γ2, c2, l ++ [-1]⟩ γ c e ys (by simp; omega) (by dsimp only; omega) hγ
      simp only [RowI.V, List.length_append, List.map_append, List.map_cons, List.map_nil, List.length_cons, List.length_nil, Nat.zero_add] at hih
      refine runD_rows [_, _] rfl hih rfl rfl (by decide) rfl rfl rfl ?_
      intro γ3 c3 e3 ws hws hγ3
      simp (maxSteps := 1000000) (disch := omega) only [push_cast, go_sem, wpS_tt, wpS_tf, wpS_ft, wpS_ff, wpCond_tt, wpCond_ff, Nat.reducePow, Int.reduceEq, Int.reduceLT, Int.reduceLE, Int.reduceAdd, Int.reduceSub, Int.reduceMul, Int.reduceToNat, Int.reduceBEq, Int.reduceBNe, ↓reduceIte, reduceCtorEq, Nat.reduceEqDiff, Nat.reduceAdd, Nat.reduceMul, Nat.reduceLT, Nat.reduceLeDiff, Nat.reduceSub, Nat.reduceDiv, Nat.reduceBEq, Nat.reduceBneDiff, Nat.reduceBeqDiff]
      refine callR.pure hwr rfl rfl ?_
      simp (maxSteps := 1000000) (disch := omega) only [push_cast, go_sem, wpS_tt, wpS_tf, wpS_ft, wpS_ff, wpCond_tt, wpCond_ff, Nat.reducePow, Int.reduceEq, Int.reduceLT, Int.reduceLE, Int.reduceAdd, Int.reduceSub, Int.reduceMul, Int.reduceToNat, Int.reduceBEq, Int.reduceBNe, ↓reduceIte, reduceCtorEq, Nat.reduceEqDiff, Nat.reduceAdd, Nat.reduceMul, Nat.reduceLT, Nat.reduceLeDiff, Nat.reduceSub, Nat.reduceDiv, Nat.reduceBEq, Nat.reduceBneDiff, Nat.reduceBeqDiff, intsV_eq]
      refine Sat.loop (σ := EvS × List RowI) (fun x => upd (upd (upd (upd (upd (upd noT 4 (.ptr 4 [] 0 0 g1 1)) 1 (.sl ((events p).map Evt.V))) 2 (.msl 2 [] γ0 l.length c0)) 11 (.sl (vs.map (V.int .i64)))) 12 (.int .i64 x.1.k)) 3 (.msl 3 [] x.1.γ x.2.length x.1.c))
        (fun x => ((noM.set 4 (.own 25 (some g1) 1 [.agg [.sl (p.map thrV)]])).set 2 (.own 3 γ0 c0 (l.map (V.int .i64)))).set 3 (.own x.1.e x.1.γ x.1.c (x.2.map RowI.V)))
        (fun x => x.1.k ≤ vs.length ∧ (x.1.γ = none ∨ x.1.e = 26) ∧ x.2.map RowI.l = (ys.map RowI.l ++ compl (scene p).ds j (l ++ [-1])) ++ (vs.take x.1.k).flatMap fun c => compl (scene p).ds j (l ++ [c])) (fun x => vs.length - x.1.k) (⟨0, e3, γ3, c3⟩, ws) (by simp [hγ3, hws]) ?_ ?_
      · (refine Less.start ?_; repeat (first | exact LessO.nil | exact LessO.all | refine LessO.skip (by decide) ?_ | refine LessO.upd ?_ ?_ | refine LessO.set ?_ ?_)) <;> (try simp (maxSteps := 1000000) (disch := omega) only [push_cast, go_sem, wpS_tt, wpS_tf, wpS_ft, wpS_ff, wpCond_tt, wpCond_ff, Nat.reducePow, Int.reduceEq, Int.reduceLT, Int.reduceLE, Int.reduceAdd, Int.reduceSub, Int.reduceMul, Int.reduceToNat, Int.reduceBEq, Int.reduceBNe, ↓reduceIte, reduceCtorEq, Nat.reduceEqDiff, Nat.reduceAdd, Nat.reduceMul, Nat.reduceLT, Nat.reduceLeDiff, Nat.reduceSub, Nat.reduceDiv, Nat.reduceBEq, Nat.reduceBneDiff, Nat.reduceBeqDiff])
      rintro ⟨⟨k, e4, γ4, c4⟩, zs⟩ ⟨hk, hγ4, hzs⟩ J hJ
      simp only at hk hγ4 hzs hJ
      refine Sat.of (S := []) (by kernel_rfl) ?_
      rcases Nat.lt_or_ge k vs.length with hlt2 | hge2
      · obtain ⟨z, hz⟩ : ∃ z, vs[k]? = some z := ⟨_, List.getElem?_eq_getElem hlt2⟩
        have hzl : zs.length = ys.length + (compl (scene p).ds j (l ++ [-1])).length + ((vs.take k).flatMap fun c => compl (scene p).ds j (l ++ [c])).length := by
          have := congrArg List.length hzs
          simpa only [List.length_map, List.length_append] using this
        have hft := flatMap_take (fun c => compl (scene p).ds j (l ++ [c])) vs (k + 1)
        rw [take_get hz, List.flatMap_append, List.length_append] at hft
        simp only [List.flatMap_cons, List.flatMap_nil, List.append_nil] at hft
        simp (maxSteps := 1000000) (disch := omega) only [push_cast, go_sem, wpS_tt, wpS_tf, wpS_ft, wpS_ff, wpCond_tt, wpCond_ff, Nat.reducePow, Int.reduceEq, Int.reduceLT, Int.reduceLE, Int.reduceAdd, Int.reduceSub, Int.reduceMul, Int.reduceToNat, Int.reduceBEq, Int.reduceBNe, ↓reduceIte, reduceCtorEq, Nat.reduceEqDiff, Nat.reduceAdd, Nat.reduceMul, Nat.reduceLT, Nat.reduceLeDiff, Nat.reduceSub, Nat.reduceDiv, Nat.reduceBEq, Nat.reduceBneDiff, Nat.reduceBeqDiff, hlt2]
        refine Sat.drawnE [(0, 2), (0, 4), (0, 8), (2, 8), (4, 8), (0, 9), (2, 9), (4, 9), (0, 10)] [] [] (fun f' _ _ => if f' = 66 then some (rowsP (zs.map RowI.l ++ compl (scene p).ds j (l ++ [z]))) else none) (by kernel_rfl) (by kernel_rfl) ?_
        simp (maxSteps := 1000000) (disch := omega) only [push_cast, go_sem, wpS_tt, wpS_tf, wpS_ft, wpS_ff, wpCond_tt, wpCond_ff, Nat.reducePow, Int.reduceEq, Int.reduceLT, Int.reduceLE, Int.reduceAdd, Int.reduceSub, Int.reduceMul, Int.reduceToNat, Int.reduceBEq, Int.reduceBNe, ↓reduceIte, reduceCtorEq, Nat.reduceEqDiff, Nat.reduceAdd, Nat.reduceMul, Nat.reduceLT, Nat.reduceLeDiff, Nat.reduceSub, Nat.reduceDiv, Nat.reduceBEq, Nat.reduceBneDiff, Nat.reduceBeqDiff, hz, hlt2]
        intro g6
        refine ⟨by omega, fun γ5 c5 _ => ?_⟩
        intro g7
        refine ⟨by omega, fun γ6 c6 _ => ?_⟩
        have hih := ih ⟨γ6, c6, l ++ [z]⟩ γ4 c4 e4 zs (by simp; omega) (by dsimp only; omega) hγ4
        simp only [RowI.V, List.length_append, List.map_append, List.map_cons, List.map_nil, List.length_cons, List.length_nil, Nat.zero_add] at hih
        refine runD_rows [_, _] rfl hih rfl rfl (by decide) rfl rfl rfl ?_
        intro γ7 c7 e7 us hus hγ7
        simp (maxSteps := 1000000) (disch := omega) only [push_cast, go_sem, wpS_tt, wpS_tf, wpS_ft, wpS_ff, wpCond_tt, wpCond_ff, Nat.reducePow, Int.reduceEq, Int.reduceLT, Int.reduceLE, Int.reduceAdd, Int.reduceSub, Int.reduceMul, Int.reduceToNat, Int.reduceBEq, Int.reduceBNe, ↓reduceIte, reduceCtorEq, Nat.reduceEqDiff, Nat.reduceAdd, Nat.reduceMul, Nat.reduceLT, Nat.reduceLeDiff, Nat.reduceSub, Nat.reduceDiv, Nat.reduceBEq, Nat.reduceBneDiff, Nat.reduceBeqDiff]
        refine hJ (⟨k + 1, e7, γ7, c7⟩, us) _ _ ⟨by dsimp only; omega, hγ7, ?_⟩ (by dsimp only; omega) ?_
        · dsimp only
          rw [hus, hzs, take_get hz, List.flatMap_append]
          simp
        · (refine Less.start ?_; repeat (first | exact LessO.nil | exact LessO.all | refine LessO.skip (by decide) ?_ | refine LessO.upd ?_ ?_ | refine LessO.set ?_ ?_)) <;> (try simp (maxSteps := 1000000) (disch := omega) only [push_cast, go_sem, wpS_tt, wpS_tf, wpS_ft, wpS_ff, wpCond_tt, wpCond_ff, Nat.reducePow, Int.reduceEq, Int.reduceLT, Int.reduceLE, Int.reduceAdd, Int.reduceSub, Int.reduceMul, Int.reduceToNat, Int.reduceBEq, Int.reduceBNe, ↓reduceIte, reduceCtorEq, Nat.reduceEqDiff, Nat.reduceAdd, Nat.reduceMul, Nat.reduceLT, Nat.reduceLeDiff, Nat.reduceSub, Nat.reduceDiv, Nat.reduceBEq, Nat.reduceBneDiff, Nat.reduceBeqDiff])
      · have : k = vs.length := by omega
        subst this
        rw [List.take_length] at hzs
        simp (maxSteps := 1000000) (disch := omega) only [push_cast, go_sem, wpS_tt, wpS_tf, wpS_ft, wpS_ff, wpCond_tt, wpCond_ff, Nat.reducePow, Int.reduceEq, Int.reduceLT, Int.reduceLE, Int.reduceAdd, Int.reduceSub, Int.reduceMul, Int.reduceToNat, Int.reduceBEq, Int.reduceBNe, ↓reduceIte, reduceCtorEq, Nat.reduceEqDiff, Nat.reduceAdd, Nat.reduceMul, Nat.reduceLT, Nat.reduceLeDiff, Nat.reduceSub, Nat.reduceDiv, Nat.reduceBEq, Nat.reduceBneDiff, Nat.reduceBeqDiff]
        refine Sat.of (S := []) (by kernel_rfl) ?_
        simp (maxSteps := 1000000) (disch := omega) only [push_cast, go_sem, wpS_tt, wpS_tf, wpS_ft, wpS_ff, wpCond_tt, wpCond_ff, Nat.reducePow, Int.reduceEq, Int.reduceLT, Int.reduceLE, Int.reduceAdd, Int.reduceSub, Int.reduceMul, Int.reduceToNat, Int.reduceBEq, Int.reduceBNe, ↓reduceIte, reduceCtorEq, Nat.reduceEqDiff, Nat.reduceAdd, Nat.reduceMul, Nat.reduceLT, Nat.reduceLeDiff, Nat.reduceSub, Nat.reduceDiv, Nat.reduceBEq, Nat.reduceBneDiff, Nat.reduceBeqDiff]
        refine ⟨_, ?_, 8, γ4, c4, e4, zs, rfl, rfl, by rw [hzs, List.append_assoc], hγ4⟩
        ((repeat (first | exact Sub.no | refine Sub.set ?_ ?_)) <;> (try simp (disch := omega) only [push_cast, go_sem, wpS_tt, wpS_tf, wpS_ft, wpS_ff, wpCond_tt, wpCond_ff, Nat.reducePow, Int.reduceEq, Int.reduceLT, Int.reduceLE, Int.reduceAdd, Int.reduceSub, Int.reduceMul, Int.reduceToNat, Int.reduceBEq, Int.reduceBNe, ↓reduceIte, reduceCtorEq, Nat.reduceEqDiff, Nat.reduceAdd, Nat.reduceMul, Nat.reduceLT, Nat.reduceLeDiff, Nat.reduceSub, Nat.reduceDiv, Nat.reduceBEq, Nat.reduceBneDiff, Nat.reduceBeqDiff]))
end Go.Proofs.Ytmmipjlogdggiaa
