/-
  What the reference looks at: made. A draw: an order. OrderHas, by the program: it answers what the reference's words say. OrderHas, by the reference. Draws: the reader is opened. Draws: a program, a way, an order and two events. The laws FnOrderHas and FnOrderNested. Rows: what all laws of a code share.
-/
import Derived.Test.YtmmipjlogdggiaaNg
import Derived.Test.YtmmipjlogdggiaaVx
import Derived.Test.YtmmipjlogdggiaaRows
import Derived.ProofKit
import Derived.OpenShut
import Derived.ChangeSlices
import Derived.JoinedOf
import Derived.JoinedAt
import Derived.Deep.DeepHandedRow
import Derived.Lib.LaidTab
/-! ## What the reference looks at: made -/
namespace Go.Proofs.Ytmmipjlogdggiaa
open Go.RowKit
set_option linter.unusedSimpArgs false
set_option linter.unusedVariables false
set_option pp.maxSteps 3000

@[push_cast] theorem fzs_bool {α : Type} (f : α → Bool) (l : List α) : (l.map fun d => V.bool (f d)).map V.fz = l.map fun d => V.bool (f d) := by rw [List.map_map]; exact List.map_congr_left fun d _ => rfl
@[push_cast] theorem flatL_bool {α : Type} (f : α → Bool) (l : List α) : flatL (l.map fun d => V.bool (f d)) = true := by simp [flatL, V.cells, V.flatC]
theorem rds_take (p : Prog) (f : Do → Bool) {k : Nat} {d : Do} (h : (scene p).ds[k]? = some d) : ((scene p).ds.take (k + 1)).map (fun d => V.bool (f d)) = ((scene p).ds.take k).map (fun d => V.bool (f d)) ++ [.bool (f d)] := by
  rw [take_get h, List.map_append]; rfl
theorem olook_fn (p : Prog) (hp : p.length < 2 ^ 40) (hok : progOk p = true) : Fc Try.prog 31 [progV p] noM (fun r m => ∃ ob, (∃ g, r = .ptr 100 [] 0 0 g 6 ∧ ob = ordV p g (rdsV p) (wrtV p) (.own 0 none 0 []) (.own 0 none 0 [])) ∧ m = noM.set 100 ob) := by
  have hel := events_le hok
  have hsl : (scene p).ds.length = (events p).length := by simp [scene]
  have hev := specExecEvents_fn p hp
  rw [hok, if_pos rfl] at hev
  refine Fc.rekeyP (R' := fun r m => ∃ g, r = .ptr 2 [] 0 0 g 6 ∧ m = noM.set 2 (ordV p g (rdsV p) (wrtV p) (.own 0 none 0 []) (.own 0 none 0 []))) ?_ ?_
  rotate_left
  · rintro r m ⟨g, rfl, rfl⟩
    exact ⟨2, g, 6, _, rfl, rfl, _, ⟨g, rfl, rfl⟩, era_set rfl⟩
  rw [progV_eq] at hev
  refine Fc.start (S := [7]) Try.func31 Try.ntmps31 Try.results31 rfl (by decide) rfl (by kernel_rfl) ?_
  simp (maxSteps := 1000000) (disch := omega) only [push_cast, go_sem, wpS_tt, wpS_tf, wpS_ft, wpS_ff, wpCond_tt, wpCond_ff, Nat.reducePow, Int.reduceEq, Int.reduceLT, Int.reduceLE, Int.reduceAdd, Int.reduceSub, Int.reduceMul, Int.reduceToNat, Int.reduceBEq, Int.reduceBNe, ↓reduceIte, reduceCtorEq, Nat.reduceEqDiff, Nat.reduceAdd, Nat.reduceMul, Nat.reduceLT, Nat.reduceLeDiff, Nat.reduceSub, Nat.reduceDiv, Nat.reduceBEq, Nat.reduceBneDiff, Nat.reduceBeqDiff, progV_eq]
  intro g1
  refine Sat.drawnE [] [] [0, 1, 2] (pureT [(20, .sl ((events p).map Evt.V))]) (by kernel_rfl) (by kernel_rfl) ?_
  simp (maxSteps := 1000000) (disch := omega) only [push_cast, go_sem, wpS_tt, wpS_tf, wpS_ft, wpS_ff, wpCond_tt, wpCond_ff, Nat.reducePow, Int.reduceEq, Int.reduceLT, Int.reduceLE, Int.reduceAdd, Int.reduceSub, Int.reduceMul, Int.reduceToNat, Int.reduceBEq, Int.reduceBNe, ↓reduceIte, reduceCtorEq, Nat.reduceEqDiff, Nat.reduceAdd, Nat.reduceMul, Nat.reduceLT, Nat.reduceLeDiff, Nat.reduceSub, Nat.reduceDiv, Nat.reduceBEq, Nat.reduceBneDiff, Nat.reduceBeqDiff]
  refine runD_pure rfl hev rfl rfl ?_ ?_
  · rfl
  simp (maxSteps := 1000000) (disch := omega) only [push_cast, go_sem, wpS_tt, wpS_tf, wpS_ft, wpS_ff, wpCond_tt, wpCond_ff, Nat.reducePow, Int.reduceEq, Int.reduceLT, Int.reduceLE, Int.reduceAdd, Int.reduceSub, Int.reduceMul, Int.reduceToNat, Int.reduceBEq, Int.reduceBNe, ↓reduceIte, reduceCtorEq, Nat.reduceEqDiff, Nat.reduceAdd, Nat.reduceMul, Nat.reduceLT, Nat.reduceLeDiff, Nat.reduceSub, Nat.reduceDiv, Nat.reduceBEq, Nat.reduceBneDiff, Nat.reduceBeqDiff]
  intro g3
  refine Sat.loop (σ := Nat × Rw × Rw) (fun x => upd (upd noT 3 (.ptr 3 [] 0 0 g3 6)) 4 (.int .i64 x.1)) (fun x => noM.set 3 (.own 63 (some g3) 1 [.agg [.sl (p.map thrV), .sl ((events p).map Evt.V), .own x.2.1.e x.2.1.γ x.2.1.c (((scene p).ds.take x.1).map fun d => .bool d.reads), .own x.2.2.e x.2.2.γ x.2.2.c (((scene p).ds.take x.1).map fun d => .bool d.writes), .own 0 none 0 [], .own 0 none 0 []]]))
    (fun x => x.1 ≤ (events p).length ∧ (x.2.1.γ = none ∨ x.2.1.e = 4) ∧ (x.2.2.γ = none ∨ x.2.2.e = 4)) (fun x => (events p).length - x.1) (0, ⟨0, none, 0⟩, ⟨0, none, 0⟩) ⟨by omega, .inl rfl, .inl rfl⟩ ?_ ?_
  · (refine Less.start ?_; repeat (first | exact LessO.nil | exact LessO.all | refine LessO.skip (by decide) ?_ | refine LessO.upd ?_ ?_ | refine LessO.set ?_ ?_)) <;> (try simp (maxSteps := 1000000) (disch := omega) only [push_cast, go_sem, wpS_tt, wpS_tf, wpS_ft, wpS_ff, wpCond_tt, wpCond_ff, Nat.reducePow, Int.reduceEq, Int.reduceLT, Int.reduceLE, Int.reduceAdd, Int.reduceSub, Int.reduceMul, Int.reduceToNat, Int.reduceBEq, Int.reduceBNe, ↓reduceIte, reduceCtorEq, Nat.reduceEqDiff, Nat.reduceAdd, Nat.reduceMul, Nat.reduceLT, Nat.reduceLeDiff, Nat.reduceSub, Nat.reduceDiv, Nat.reduceBEq, Nat.reduceBneDiff, Nat.reduceBeqDiff])
    all_goals simp
  rintro ⟨k, ⟨e1, γ1, c1⟩, ⟨e2, γ2, c2⟩⟩ ⟨hk, hγ1, hγ2⟩ J hJ
  simp only at hk hγ1 hγ2 hJ
  have hγ1' : (γ1 = none ∨ e1 = 4) = True := by simp only [hγ1]
  have hγ2' : (γ2 = none ∨ e2 = 4) = True := by simp only [hγ2]
  refine Sat.of (S := []) (by kernel_rfl) ?_
  rcases Nat.lt_or_ge k (events p).length with hlt | hge
  · obtain ⟨ek, hek⟩ : ∃ e, (events p)[k]? = some e := ⟨_, List.getElem?_eq_getElem hlt⟩
    have hdk : (scene p).ds[k]? = some (dsA p k) := by rw [dsA, scene_get hek]; rfl
    have htl : ((scene p).ds.take k).length = k := by rw [List.length_take]; omega
    have h1 := odo_fn p g3 (.own e1 γ1 c1 (((scene p).ds.take k).map fun d => .bool d.reads)) (.own e2 γ2 c2 (((scene p).ds.take k).map fun d => .bool d.writes)) (.own 0 none 0 []) (.own 0 none 0 []) k hlt
    rw [ordV_eq, Do.V_eq] at h1
    have hr := l1Reads_fn (dsA p k)
    have hw := l1Writes_fn (dsA p k)
    rw [Do.V_eq] at hr hw
    simp (maxSteps := 1000000) (disch := omega) only [push_cast, go_sem, wpS_tt, wpS_tf, wpS_ft, wpS_ff, wpCond_tt, wpCond_ff, Nat.reducePow, Int.reduceEq, Int.reduceLT, Int.reduceLE, Int.reduceAdd, Int.reduceSub, Int.reduceMul, Int.reduceToNat, Int.reduceBEq, Int.reduceBNe, ↓reduceIte, reduceCtorEq, Nat.reduceEqDiff, Nat.reduceAdd, Nat.reduceMul, Nat.reduceLT, Nat.reduceLeDiff, Nat.reduceSub, Nat.reduceDiv, Nat.reduceBEq, Nat.reduceBneDiff, Nat.reduceBeqDiff, hlt]
    refine Sat.drawnE [(4, 9)] [] [4, 7, 8] (lookT (.own 63 (some g3) 1 [.agg [.sl (p.map thrV), .sl ((events p).map Evt.V), .own e1 γ1 c1 (((scene p).ds.take k).map fun d => .bool d.reads), .own e2 γ2 c2 (((scene p).ds.take k).map fun d => .bool d.writes), .own 0 none 0 [], .own 0 none 0 []]]) [(43, .bool (dsA p k).reads)] [(57, (dsA p k).V)]) (by kernel_rfl) (by kernel_rfl) ?_
    simp (maxSteps := 1000000) (disch := omega) only [push_cast, go_sem, wpS_tt, wpS_tf, wpS_ft, wpS_ff, wpCond_tt, wpCond_ff, Nat.reducePow, Int.reduceEq, Int.reduceLT, Int.reduceLE, Int.reduceAdd, Int.reduceSub, Int.reduceMul, Int.reduceToNat, Int.reduceBEq, Int.reduceBNe, ↓reduceIte, reduceCtorEq, Nat.reduceEqDiff, Nat.reduceAdd, Nat.reduceMul, Nat.reduceLT, Nat.reduceLeDiff, Nat.reduceSub, Nat.reduceDiv, Nat.reduceBEq, Nat.reduceBneDiff, Nat.reduceBeqDiff]
    refine runD_look h1 rfl rfl rfl rfl rfl ?_ ?_
    · rfl
    simp (maxSteps := 1000000) (disch := omega) only [push_cast, go_sem, wpS_tt, wpS_tf, wpS_ft, wpS_ff, wpCond_tt, wpCond_ff, Nat.reducePow, Int.reduceEq, Int.reduceLT, Int.reduceLE, Int.reduceAdd, Int.reduceSub, Int.reduceMul, Int.reduceToNat, Int.reduceBEq, Int.reduceBNe, ↓reduceIte, reduceCtorEq, Nat.reduceEqDiff, Nat.reduceAdd, Nat.reduceMul, Nat.reduceLT, Nat.reduceLeDiff, Nat.reduceSub, Nat.reduceDiv, Nat.reduceBEq, Nat.reduceBneDiff, Nat.reduceBeqDiff, Do.V_eq]
    refine runD_pure rfl hr rfl rfl ?_ ?_
    · rfl
    simp (maxSteps := 1000000) (disch := omega) only [push_cast, go_sem, wpS_tt, wpS_tf, wpS_ft, wpS_ff, wpCond_tt, wpCond_ff, Nat.reducePow, Int.reduceEq, Int.reduceLT, Int.reduceLE, Int.reduceAdd, Int.reduceSub, Int.reduceMul, Int.reduceToNat, Int.reduceBEq, Int.reduceBNe, ↓reduceIte, reduceCtorEq, Nat.reduceEqDiff, Nat.reduceAdd, Nat.reduceMul, Nat.reduceLT, Nat.reduceLeDiff, Nat.reduceSub, Nat.reduceDiv, Nat.reduceBEq, Nat.reduceBneDiff, Nat.reduceBeqDiff, hγ1', htl]
    intro g28
    refine ⟨by omega, fun γ3 c3 _ => ?_⟩
    have h2 := odo_fn p g3 (.own 4 γ3 c3 (((scene p).ds.take (k + 1)).map fun d => .bool d.reads)) (.own e2 γ2 c2 (((scene p).ds.take k).map fun d => .bool d.writes)) (.own 0 none 0 []) (.own 0 none 0 []) k hlt
    rw [rds_take p Do.reads hdk, ordV_eq, Do.V_eq] at h2
    refine Sat.drawnE [(4, 9)] [] [4, 7, 8] (lookT (.own 63 (some g3) 1 [.agg [.sl (p.map thrV), .sl ((events p).map Evt.V), .own 4 γ3 c3 ((((scene p).ds.take k).map fun d => .bool d.reads) ++ [.bool (dsA p k).reads]), .own e2 γ2 c2 (((scene p).ds.take k).map fun d => .bool d.writes), .own 0 none 0 [], .own 0 none 0 []]]) [(44, .bool (dsA p k).writes)] [(57, (dsA p k).V)]) (by kernel_rfl) (by kernel_rfl) ?_
    simp (maxSteps := 1000000) (disch := omega) only [push_cast, go_sem, wpS_tt, wpS_tf, wpS_ft, wpS_ff, wpCond_tt, wpCond_ff, Nat.reducePow, Int.reduceEq, Int.reduceLT, Int.reduceLE, Int.reduceAdd, Int.reduceSub, Int.reduceMul, Int.reduceToNat, Int.reduceBEq, Int.reduceBNe, ↓reduceIte, reduceCtorEq, Nat.reduceEqDiff, Nat.reduceAdd, Nat.reduceMul, Nat.reduceLT, Nat.reduceLeDiff, Nat.reduceSub, Nat.reduceDiv, Nat.reduceBEq, Nat.reduceBneDiff, Nat.reduceBeqDiff]
    refine runD_look h2 rfl rfl rfl rfl rfl ?_ ?_
    · rfl
    simp (maxSteps := 1000000) (disch := omega) only [push_cast, go_sem, wpS_tt, wpS_tf, wpS_ft, wpS_ff, wpCond_tt, wpCond_ff, Nat.reducePow, Int.reduceEq, Int.reduceLT, Int.reduceLE, Int.reduceAdd, Int.reduceSub, Int.reduceMul, Int.reduceToNat, Int.reduceBEq, Int.reduceBNe, ↓reduceIte, reduceCtorEq, Nat.reduceEqDiff, Nat.reduceAdd, Nat.reduceMul, Nat.reduceLT, Nat.reduceLeDiff, Nat.reduceSub, Nat.reduceDiv, Nat.reduceBEq, Nat.reduceBneDiff, Nat.reduceBeqDiff, Do.V_eq]
    refine runD_pure rfl hw rfl rfl ?_ ?_
    · rfl
    simp (maxSteps := 1000000) (disch := omega) only [push_cast, go_sem, wpS_tt, wpS_tf, wpS_ft, wpS_ff, wpCond_tt, wpCond_ff, Nat.reducePow, Int.reduceEq, Int.reduceLT, Int.reduceLE, Int.reduceAdd, Int.reduceSub, Int.reduceMul, Int.reduceToNat, Int.reduceBEq, Int.reduceBNe, ↓reduceIte, reduceCtorEq, Nat.reduceEqDiff, Nat.reduceAdd, Nat.reduceMul, Nat.reduceLT, Nat.reduceLeDiff, Nat.reduceSub, Nat.reduceDiv, Nat.reduceBEq, Nat.reduceBneDiff, Nat.reduceBeqDiff, hγ2', htl]
    intro g41
    refine ⟨by omega, fun γ4 c4 _ => ?_⟩
    refine hJ (k + 1, ⟨4, γ3, c3⟩, ⟨4, γ4, c4⟩) _ _ ⟨by dsimp only; omega, .inr rfl, .inr rfl⟩ (by dsimp only; omega) ?_
    dsimp only
    rw [rds_take p Do.reads hdk, rds_take p Do.writes hdk]
    (refine Less.start ?_; repeat (first | exact LessO.nil | exact LessO.all | refine LessO.skip (by decide) ?_ | refine LessO.upd ?_ ?_ | refine LessO.set ?_ ?_)) <;> (try simp (maxSteps := 1000000) (disch := omega) only [push_cast, go_sem, wpS_tt, wpS_tf, wpS_ft, wpS_ff, wpCond_tt, wpCond_ff, Nat.reducePow, Int.reduceEq, Int.reduceLT, Int.reduceLE, Int.reduceAdd, Int.reduceSub, Int.reduceMul, Int.reduceToNat, Int.reduceBEq, Int.reduceBNe, ↓reduceIte, reduceCtorEq, Nat.reduceEqDiff, Nat.reduceAdd, Nat.reduceMul, Nat.reduceLT, Nat.reduceLeDiff, Nat.reduceSub, Nat.reduceDiv, Nat.reduceBEq, Nat.reduceBneDiff, Nat.reduceBeqDiff])
  · have : k = (events p).length := by omega
    subst this
    simp (maxSteps := 1000000) (disch := omega) only [push_cast, go_sem, wpS_tt, wpS_tf, wpS_ft, wpS_ff, wpCond_tt, wpCond_ff, Nat.reducePow, Int.reduceEq, Int.reduceLT, Int.reduceLE, Int.reduceAdd, Int.reduceSub, Int.reduceMul, Int.reduceToNat, Int.reduceBEq, Int.reduceBNe, ↓reduceIte, reduceCtorEq, Nat.reduceEqDiff, Nat.reduceAdd, Nat.reduceMul, Nat.reduceLT, Nat.reduceLeDiff, Nat.reduceSub, Nat.reduceDiv, Nat.reduceBEq, Nat.reduceBneDiff, Nat.reduceBeqDiff]
    refine Sat.freezeC 3 [] 0 2 (n0 := .own 63 (some g3) 1 [.agg [.sl (p.map thrV), .sl ((events p).map Evt.V), .own e1 γ1 c1 (((scene p).ds.take (events p).length).map fun d => .bool d.reads), .own e2 γ2 c2 (((scene p).ds.take (events p).length).map fun d => .bool d.writes), .own 0 none 0 [], .own 0 none 0 []]]) (d := .own e1 γ1 c1 (((scene p).ds.take (events p).length).map fun d => .bool d.reads)) rfl rfl rfl ?_
    have f1 : (V.own e1 γ1 c1 (((scene p).ds.take (events p).length).map fun d => .bool d.reads)).fz = rdsV p := by rw [← hsl, List.take_length]; simp only [V.fz, fzs_map, fzs_bool, rdsV]
    have f2 : (V.own e2 γ2 c2 (((scene p).ds.take (events p).length).map fun d => .bool d.writes)).fz = wrtV p := by rw [← hsl, List.take_length]; simp only [V.fz, fzs_map, fzs_bool, wrtV]
    rw [f1]
    refine Sat.freezeC 3 [] 0 3 (n0 := .own 63 (some g3) 1 [.agg [.sl (p.map thrV), .sl ((events p).map Evt.V), rdsV p, .own e2 γ2 c2 (((scene p).ds.take (events p).length).map fun d => .bool d.writes), .own 0 none 0 [], .own 0 none 0 []]]) (d := .own e2 γ2 c2 (((scene p).ds.take (events p).length).map fun d => .bool d.writes)) rfl rfl rfl ?_
    rw [f2]
    refine Sat.of (S := []) (by kernel_rfl) ?_
    simp (maxSteps := 1000000) (disch := omega) only [push_cast, go_sem, wpS_tt, wpS_tf, wpS_ft, wpS_ff, wpCond_tt, wpCond_ff, Nat.reducePow, Int.reduceEq, Int.reduceLT, Int.reduceLE, Int.reduceAdd, Int.reduceSub, Int.reduceMul, Int.reduceToNat, Int.reduceBEq, Int.reduceBNe, ↓reduceIte, reduceCtorEq, Nat.reduceEqDiff, Nat.reduceAdd, Nat.reduceMul, Nat.reduceLT, Nat.reduceLeDiff, Nat.reduceSub, Nat.reduceDiv, Nat.reduceBEq, Nat.reduceBneDiff, Nat.reduceBeqDiff, rdsV_eq, wrtV_eq]
    refine ⟨_, ?_, g3, rfl, rfl⟩
    rw [ordV_eq]
    ((repeat (first | exact Sub.no | refine Sub.set ?_ ?_)) <;> (try simp (disch := omega) only [push_cast, go_sem, wpS_tt, wpS_tf, wpS_ft, wpS_ff, wpCond_tt, wpCond_ff, Nat.reducePow, Int.reduceEq, Int.reduceLT, Int.reduceLE, Int.reduceAdd, Int.reduceSub, Int.reduceMul, Int.reduceToNat, Int.reduceBEq, Int.reduceBNe, ↓reduceIte, reduceCtorEq, Nat.reduceEqDiff, Nat.reduceAdd, Nat.reduceMul, Nat.reduceLT, Nat.reduceLeDiff, Nat.reduceSub, Nat.reduceDiv, Nat.reduceBEq, Nat.reduceBneDiff, Nat.reduceBeqDiff]))
/-- The ranks of the first k events, noughts behind. -/
def rnk (p : Prog) (x : Exe) (k : Nat) : List Int := (List.range (events p).length).map fun i => if i < k then rankS p x i else 0
theorem rnk_zero (p : Prog) (x : Exe) : rnk p x 0 = List.replicate (events p).length 0 := by
  rw [rnk, List.eq_replicate_iff]
  exact ⟨by simp, fun b hb => by simp at hb; exact hb.2.symm⟩
theorem rnk_all (p : Prog) (x : Exe) : rnk p x (events p).length = (List.range (events p).length).map (rankS p x) := by
  rw [rnk]
  exact List.map_congr_left fun i hi => if_pos (List.mem_range.1 hi)
theorem rnk_succ (p : Prog) (x : Exe) (k : Nat) : rnk p x (k + 1) = (rnk p x k).set k (rankS p x k) := by
  apply List.ext_getElem?
  intro i
  rw [rnk, rnk, List.getElem?_set, List.getElem?_map, List.getElem?_map, List.length_map, List.length_range]
  by_cases hi : i < (events p).length
  · rw [List.getElem?_range hi]
    by_cases hk : k = i
    · subst hk; simp [hi]
    · have e : i < k + 1 ↔ i < k := by omega
      simp [hk, e]
  · have : (List.range (events p).length)[i]? = none := by simp; omega
    rw [this]
    by_cases hk : k = i
    · subst hk; simp [hi]
    · simp [hk]
theorem rnk_same (p : Prog) (x : Exe) {k : Nat} (h : rankS p x k = 0) : rnk p x (k + 1) = rnk p x k := by
  rw [rnk, rnk]
  refine List.map_congr_left fun i hi => ?_
  by_cases hk : i = k
  · subst hk; simp [h]
  · have e : i < k + 1 ↔ i < k := by omega
    simp [e]
theorem oway_fn (p : Prog) (x : Exe) (g : Nat) (hok : progOk p = true) (hf : x.fr.length = (events p).length) (ho : x.od.length = 3) (hrow : ∀ r ∈ x.od, r.length < 2 ^ 40) :
    Fc Try.prog 32 [.ptr 0 [] 0 0 g 6, x.V] (noM.set 0 (ordV p g (rdsV p) (wrtV p) (.own 0 none 0 []) (.own 0 none 0 [])))
      (fun r m => ∃ ob, (∃ gr, r = .tuple [] ∧ ob = ordV p g (rdsV p) (wrtV p) (.sl (x.fr.map (V.int .i64))) (.own 3 (some gr) (events p).length (((List.range (events p).length).map (rankS p x)).map (V.int .i64)))) ∧ m = noM.set 0 ob) := by
  have hel := events_le hok
  have hsl : (scene p).ds.length = (events p).length := by simp [scene]
  refine Fc.start (S := []) Try.func32 Try.ntmps32 Try.results32 rfl (by decide) rfl (by kernel_rfl) ?_
  simp (maxSteps := 1000000) (disch := omega) only [push_cast, go_sem, wpS_tt, wpS_tf, wpS_ft, wpS_ff, wpCond_tt, wpCond_ff, Nat.reducePow, Int.reduceEq, Int.reduceLT, Int.reduceLE, Int.reduceAdd, Int.reduceSub, Int.reduceMul, Int.reduceToNat, Int.reduceBEq, Int.reduceBNe, ↓reduceIte, reduceCtorEq, Nat.reduceEqDiff, Nat.reduceAdd, Nat.reduceMul, Nat.reduceLT, Nat.reduceLeDiff, Nat.reduceSub, Nat.reduceDiv, Nat.reduceBEq, Nat.reduceBneDiff, Nat.reduceBeqDiff, Exe.V_eq, ordV_eq, rdsV_eq, wrtV_eq, List.length_replicate]
  intro g3
  refine ⟨by omega, fun gr => ?_⟩
  refine Sat.loop (σ := Nat) (fun k => upd (upd (upd noT 0 (.ptr 0 [] 0 0 g 6)) 3 (.ptr 3 [] 0 0 g3 2)) 4 (.int .i64 k))
    (fun k => (noM.set 0 (.own 63 (some g) 1 [.agg [.sl (p.map thrV), .sl ((events p).map Evt.V), .sl ((scene p).ds.map fun d => .bool d.reads), .sl ((scene p).ds.map fun d => .bool d.writes), .sl (x.fr.map (V.int .i64)), .own 3 (some gr) (events p).length ((rnk p x k).map (V.int .i64))]])).set 3 (.own 29 (some g3) 1 [.agg [.sl (x.fr.map (V.int .i64)), .sl (x.od.map intsV)]]))
    (fun k => k ≤ (events p).length) (fun k => (events p).length - k) 0 (by omega) ?_ ?_
  · (refine Less.start ?_; repeat (first | exact LessO.nil | exact LessO.all | refine LessO.skip (by decide) ?_ | refine LessO.upd ?_ ?_ | refine LessO.set ?_ ?_)) <;> (try simp (maxSteps := 1000000) (disch := omega) only [push_cast, go_sem, wpS_tt, wpS_tf, wpS_ft, wpS_ff, wpCond_tt, wpCond_ff, Nat.reducePow, Int.reduceEq, Int.reduceLT, Int.reduceLE, Int.reduceAdd, Int.reduceSub, Int.reduceMul, Int.reduceToNat, Int.reduceBEq, Int.reduceBNe, ↓reduceIte, reduceCtorEq, Nat.reduceEqDiff, Nat.reduceAdd, Nat.reduceMul, Nat.reduceLT, Nat.reduceLeDiff, Nat.reduceSub, Nat.reduceDiv, Nat.reduceBEq, Nat.reduceBneDiff, Nat.reduceBeqDiff])
    all_goals simp [rnk_zero]
  rintro k hk J hJ
  refine Sat.of (S := []) (by kernel_rfl) ?_
  have hrl : (rnk p x k).length = (events p).length := by simp [rnk]
  rcases Nat.lt_or_ge k (events p).length with hlt | hge
  · obtain ⟨ek, hek⟩ : ∃ e, (events p)[k]? = some e := ⟨_, List.getElem?_eq_getElem hlt⟩
    have hdk : (scene p).ds[k]? = some (dsA p k) := by rw [dsA, scene_get hek]; rfl
    have hp3 := scene_p hok (dsA p k) (List.mem_of_getElem? hdk)
    have h1 := odo_fn p g (rdsV p) (wrtV p) (.sl (x.fr.map (V.int .i64))) (.own 3 (some gr) (events p).length ((rnk p x k).map (V.int .i64))) k hlt
    rw [ordV_eq, rdsV_eq, wrtV_eq] at h1
    obtain ⟨z, hz⟩ : ∃ z, (rnk p x k)[k]? = some z := ⟨_, List.getElem?_eq_getElem (by omega)⟩
    obtain ⟨f, hfk⟩ : ∃ z, x.fr[k]? = some z := ⟨_, List.getElem?_eq_getElem (by omega)⟩
    have hfl : k < x.fr.length := by omega
    cases hw : (dsA p k).writes
    · cases hr : (dsA p k).reads
      · simp (maxSteps := 1000000) (disch := omega) only [push_cast, go_sem, wpS_tt, wpS_tf, wpS_ft, wpS_ff, wpCond_tt, wpCond_ff, Nat.reducePow, Int.reduceEq, Int.reduceLT, Int.reduceLE, Int.reduceAdd, Int.reduceSub, Int.reduceMul, Int.reduceToNat, Int.reduceBEq, Int.reduceBNe, ↓reduceIte, reduceCtorEq, Nat.reduceEqDiff, Nat.reduceAdd, Nat.reduceMul, Nat.reduceLT, Nat.reduceLeDiff, Nat.reduceSub, Nat.reduceDiv, Nat.reduceBEq, Nat.reduceBneDiff, Nat.reduceBeqDiff, hlt, hdk, hsl, hw, hr]
        refine hJ (k + 1) _ _ (by omega) (by omega) ?_
        rw [rnk_same p x (by simp [rankS, hw, hr])]
        (refine Less.start ?_; repeat (first | exact LessO.nil | exact LessO.all | refine LessO.skip (by decide) ?_ | refine LessO.upd ?_ ?_ | refine LessO.set ?_ ?_)) <;> (try simp (maxSteps := 1000000) (disch := omega) only [push_cast, go_sem, wpS_tt, wpS_tf, wpS_ft, wpS_ff, wpCond_tt, wpCond_ff, Nat.reducePow, Int.reduceEq, Int.reduceLT, Int.reduceLE, Int.reduceAdd, Int.reduceSub, Int.reduceMul, Int.reduceToNat, Int.reduceBEq, Int.reduceBNe, ↓reduceIte, reduceCtorEq, Nat.reduceEqDiff, Nat.reduceAdd, Nat.reduceMul, Nat.reduceLT, Nat.reduceLeDiff, Nat.reduceSub, Nat.reduceDiv, Nat.reduceBEq, Nat.reduceBneDiff, Nat.reduceBeqDiff])
      · obtain ⟨p0, p1⟩ := hp3 (by simp [Do.uses, hr])
        obtain ⟨pl, hpl⟩ := Int.eq_ofNat_of_zero_le p0
        obtain ⟨row, hrw⟩ : ∃ row, x.od[pl]? = some row := ⟨_, List.getElem?_eq_getElem (by omega)⟩
        have hrk := rank_fn row f (hrow row (List.mem_of_getElem? hrw))
        have hpl3 : (pl : Int) < 3 := by omega
        simp (maxSteps := 1000000) (disch := omega) only [push_cast, go_sem, wpS_tt, wpS_tf, wpS_ft, wpS_ff, wpCond_tt, wpCond_ff, Nat.reducePow, Int.reduceEq, Int.reduceLT, Int.reduceLE, Int.reduceAdd, Int.reduceSub, Int.reduceMul, Int.reduceToNat, Int.reduceBEq, Int.reduceBNe, ↓reduceIte, reduceCtorEq, Nat.reduceEqDiff, Nat.reduceAdd, Nat.reduceMul, Nat.reduceLT, Nat.reduceLeDiff, Nat.reduceSub, Nat.reduceDiv, Nat.reduceBEq, Nat.reduceBneDiff, Nat.reduceBeqDiff, hlt, hdk, hsl, hw, hr]
        refine Sat.drawnE [] [] [3, 6, 9, 12, 14, 17, 18] (lookT (.own 63 (some g) 1 [.agg [.sl (p.map thrV), .sl ((events p).map Evt.V), .sl ((scene p).ds.map fun d => .bool d.reads), .sl ((scene p).ds.map fun d => .bool d.writes), .sl (x.fr.map (V.int .i64)), .own 3 (some gr) (events p).length ((rnk p x k).map (V.int .i64))]]) [(58, .int .i64 (Lib.idxOf row f))] [(57, (dsA p k).V)]) (by kernel_rfl) (by kernel_rfl) ?_
        simp (maxSteps := 1000000) (disch := omega) only [push_cast, go_sem, wpS_tt, wpS_tf, wpS_ft, wpS_ff, wpCond_tt, wpCond_ff, Nat.reducePow, Int.reduceEq, Int.reduceLT, Int.reduceLE, Int.reduceAdd, Int.reduceSub, Int.reduceMul, Int.reduceToNat, Int.reduceBEq, Int.reduceBNe, ↓reduceIte, reduceCtorEq, Nat.reduceEqDiff, Nat.reduceAdd, Nat.reduceMul, Nat.reduceLT, Nat.reduceLeDiff, Nat.reduceSub, Nat.reduceDiv, Nat.reduceBEq, Nat.reduceBneDiff, Nat.reduceBeqDiff]
        refine runD_look h1 rfl rfl rfl rfl rfl ?_ ?_
        · rfl
        simp (maxSteps := 1000000) (disch := omega) only [push_cast, go_sem, wpS_tt, wpS_tf, wpS_ft, wpS_ff, wpCond_tt, wpCond_ff, Nat.reducePow, Int.reduceEq, Int.reduceLT, Int.reduceLE, Int.reduceAdd, Int.reduceSub, Int.reduceMul, Int.reduceToNat, Int.reduceBEq, Int.reduceBNe, ↓reduceIte, reduceCtorEq, Nat.reduceEqDiff, Nat.reduceAdd, Nat.reduceMul, Nat.reduceLT, Nat.reduceLeDiff, Nat.reduceSub, Nat.reduceDiv, Nat.reduceBEq, Nat.reduceBneDiff, Nat.reduceBeqDiff, Do.V_eq, hpl, hpl3, ho, hrw, intsV_eq, hfk, hfl]
        refine runD_pure rfl hrk rfl rfl ?_ ?_
        · rfl
        simp (maxSteps := 1000000) (disch := omega) only [push_cast, go_sem, wpS_tt, wpS_tf, wpS_ft, wpS_ff, wpCond_tt, wpCond_ff, Nat.reducePow, Int.reduceEq, Int.reduceLT, Int.reduceLE, Int.reduceAdd, Int.reduceSub, Int.reduceMul, Int.reduceToNat, Int.reduceBEq, Int.reduceBNe, ↓reduceIte, reduceCtorEq, Nat.reduceEqDiff, Nat.reduceAdd, Nat.reduceMul, Nat.reduceLT, Nat.reduceLeDiff, Nat.reduceSub, Nat.reduceDiv, Nat.reduceBEq, Nat.reduceBneDiff, Nat.reduceBeqDiff, hz, hrl, hlt]
        have hrS : rankS p x k = Lib.idxOf row f := by simp [rankS, hw, hr, hpl, hrw, hfk]
        refine hJ (k + 1) _ _ (by omega) (by omega) ?_
        rw [rnk_succ, hrS]
        (refine Less.start ?_; repeat (first | exact LessO.nil | exact LessO.all | refine LessO.skip (by decide) ?_ | refine LessO.upd ?_ ?_ | refine LessO.set ?_ ?_)) <;> (try simp (maxSteps := 1000000) (disch := omega) only [push_cast, go_sem, wpS_tt, wpS_tf, wpS_ft, wpS_ff, wpCond_tt, wpCond_ff, Nat.reducePow, Int.reduceEq, Int.reduceLT, Int.reduceLE, Int.reduceAdd, Int.reduceSub, Int.reduceMul, Int.reduceToNat, Int.reduceBEq, Int.reduceBNe, ↓reduceIte, reduceCtorEq, Nat.reduceEqDiff, Nat.reduceAdd, Nat.reduceMul, Nat.reduceLT, Nat.reduceLeDiff, Nat.reduceSub, Nat.reduceDiv, Nat.reduceBEq, Nat.reduceBneDiff, Nat.reduceBeqDiff])
        rw [modInts]
    · obtain ⟨p0, p1⟩ := hp3 (by simp [Do.uses, hw])
      obtain ⟨pl, hpl⟩ := Int.eq_ofNat_of_zero_le p0
      obtain ⟨row, hrw⟩ : ∃ row, x.od[pl]? = some row := ⟨_, List.getElem?_eq_getElem (by omega)⟩
      have hrk := rank_fn row k (hrow row (List.mem_of_getElem? hrw))
      have hpl3 : (pl : Int) < 3 := by omega
      simp (maxSteps := 1000000) (disch := omega) only [push_cast, go_sem, wpS_tt, wpS_tf, wpS_ft, wpS_ff, wpCond_tt, wpCond_ff, Nat.reducePow, Int.reduceEq, Int.reduceLT, Int.reduceLE, Int.reduceAdd, Int.reduceSub, Int.reduceMul, Int.reduceToNat, Int.reduceBEq, Int.reduceBNe, ↓reduceIte, reduceCtorEq, Nat.reduceEqDiff, Nat.reduceAdd, Nat.reduceMul, Nat.reduceLT, Nat.reduceLeDiff, Nat.reduceSub, Nat.reduceDiv, Nat.reduceBEq, Nat.reduceBneDiff, Nat.reduceBeqDiff, hlt, hdk, hsl, hw]
      refine Sat.drawnE [] [] [3, 6, 9, 12, 14] (lookT (.own 63 (some g) 1 [.agg [.sl (p.map thrV), .sl ((events p).map Evt.V), .sl ((scene p).ds.map fun d => .bool d.reads), .sl ((scene p).ds.map fun d => .bool d.writes), .sl (x.fr.map (V.int .i64)), .own 3 (some gr) (events p).length ((rnk p x k).map (V.int .i64))]]) [(58, .int .i64 (Lib.idxOf row k))] [(57, (dsA p k).V)]) (by kernel_rfl) (by kernel_rfl) ?_
      simp (maxSteps := 1000000) (disch := omega) only [push_cast, go_sem, wpS_tt, wpS_tf, wpS_ft, wpS_ff, wpCond_tt, wpCond_ff, Nat.reducePow, Int.reduceEq, Int.reduceLT, Int.reduceLE, Int.reduceAdd, Int.reduceSub, Int.reduceMul, Int.reduceToNat, Int.reduceBEq, Int.reduceBNe, ↓reduceIte, reduceCtorEq, Nat.reduceEqDiff, Nat.reduceAdd, Nat.reduceMul, Nat.reduceLT, Nat.reduceLeDiff, Nat.reduceSub, Nat.reduceDiv, Nat.reduceBEq, Nat.reduceBneDiff, Nat.reduceBeqDiff]
      refine runD_look h1 rfl rfl rfl rfl rfl ?_ ?_
      · rfl
      simp (maxSteps := 1000000) (disch := omega) only [push_cast, go_sem, wpS_tt, wpS_tf, wpS_ft, wpS_ff, wpCond_tt, wpCond_ff, Nat.reducePow, Int.reduceEq, Int.reduceLT, Int.reduceLE, Int.reduceAdd, Int.reduceSub, Int.reduceMul, Int.reduceToNat, Int.reduceBEq, Int.reduceBNe, ↓reduceIte, reduceCtorEq, Nat.reduceEqDiff, Nat.reduceAdd, Nat.reduceMul, Nat.reduceLT, Nat.reduceLeDiff, Nat.reduceSub, Nat.reduceDiv, Nat.reduceBEq, Nat.reduceBneDiff, Nat.reduceBeqDiff, Do.V_eq, hpl, hpl3, ho, hrw, intsV_eq]
      refine runD_pure rfl hrk rfl rfl ?_ ?_
      · rfl
      simp (maxSteps := 1000000) (disch := omega) only [push_cast, go_sem, wpS_tt, wpS_tf, wpS_ft, wpS_ff, wpCond_tt, wpCond_ff, Nat.reducePow, Int.reduceEq, Int.reduceLT, Int.reduceLE, Int.reduceAdd, Int.reduceSub, Int.reduceMul, Int.reduceToNat, Int.reduceBEq, Int.reduceBNe, ↓reduceIte, reduceCtorEq, Nat.reduceEqDiff, Nat.reduceAdd, Nat.reduceMul, Nat.reduceLT, Nat.reduceLeDiff, Nat.reduceSub, Nat.reduceDiv, Nat.reduceBEq, Nat.reduceBneDiff, Nat.reduceBeqDiff, hz, hrl, hlt]
      have hrS : rankS p x k = Lib.idxOf row k := by simp [rankS, hw, hpl, hrw]
      refine hJ (k + 1) _ _ (by omega) (by omega) ?_
      rw [rnk_succ, hrS]
      (refine Less.start ?_; repeat (first | exact LessO.nil | exact LessO.all | refine LessO.skip (by decide) ?_ | refine LessO.upd ?_ ?_ | refine LessO.set ?_ ?_)) <;> (try simp (maxSteps := 1000000) (disch := omega) only [push_cast, go_sem, wpS_tt, wpS_tf, wpS_ft, wpS_ff, wpCond_tt, wpCond_ff, Nat.reducePow, Int.reduceEq, Int.reduceLT, Int.reduceLE, Int.reduceAdd, Int.reduceSub, Int.reduceMul, Int.reduceToNat, Int.reduceBEq, Int.reduceBNe, ↓reduceIte, reduceCtorEq, Nat.reduceEqDiff, Nat.reduceAdd, Nat.reduceMul, Nat.reduceLT, Nat.reduceLeDiff, Nat.reduceSub, Nat.reduceDiv, Nat.reduceBEq, Nat.reduceBneDiff, Nat.reduceBeqDiff])
      rw [modInts]
  · have : k = (events p).length := by omega
    subst this
    simp (maxSteps := 1000000) (disch := omega) only [push_cast, go_sem, wpS_tt, wpS_tf, wpS_ft, wpS_ff, wpCond_tt, wpCond_ff, Nat.reducePow, Int.reduceEq, Int.reduceLT, Int.reduceLE, Int.reduceAdd, Int.reduceSub, Int.reduceMul, Int.reduceToNat, Int.reduceBEq, Int.reduceBNe, ↓reduceIte, reduceCtorEq, Nat.reduceEqDiff, Nat.reduceAdd, Nat.reduceMul, Nat.reduceLT, Nat.reduceLeDiff, Nat.reduceSub, Nat.reduceDiv, Nat.reduceBEq, Nat.reduceBneDiff, Nat.reduceBeqDiff]
    rw [rnk_all]
    refine ⟨_, ?_, _, ⟨gr, rfl⟩, rfl⟩
    ((repeat (first | exact Sub.no | refine Sub.set ?_ ?_)) <;> (try simp (disch := omega) only [push_cast, go_sem, wpS_tt, wpS_tf, wpS_ft, wpS_ff, wpCond_tt, wpCond_ff, Nat.reducePow, Int.reduceEq, Int.reduceLT, Int.reduceLE, Int.reduceAdd, Int.reduceSub, Int.reduceMul, Int.reduceToNat, Int.reduceBEq, Int.reduceBNe, ↓reduceIte, reduceCtorEq, Nat.reduceEqDiff, Nat.reduceAdd, Nat.reduceMul, Nat.reduceLT, Nat.reduceLeDiff, Nat.reduceSub, Nat.reduceDiv, Nat.reduceBEq, Nat.reduceBneDiff, Nat.reduceBeqDiff]))
end Go.Proofs.Ytmmipjlogdggiaa
/-! ## A draw: an order -/
namespace Go.Proofs.Ytmmipjlogdggiaa
open Go.RowKit
set_option linter.unusedSimpArgs false
set_option linter.unusedVariables false

theorem l71Kind_rd (bs : List Int) (hb : Bytes bs) (g p : Nat) (hp : p < 2 ^ 29) : Fr Try.prog 25 [] g (rdO bs g p)
    (fun r o' => ∃ v : Int, r = .int .i64 v ∧ ∃ q, q ≤ p + 2 ∧ o' = rdO bs g q) := by
  refine Fc.start (S := []) Try.func25 Try.ntmps25 Try.results25 rfl (by decide) rfl (by kernel_rfl) ?_
  simp (maxSteps := 1000000) (disch := omega) only [push_cast, go_sem, wpS_tt, wpS_tf, wpS_ft, wpS_ff, wpCond_tt, wpCond_ff, Nat.reducePow, Int.reduceEq, Int.reduceLT, Int.reduceLE, Int.reduceAdd, Int.reduceSub, Int.reduceMul, Int.reduceToNat, Int.reduceBEq, Int.reduceBNe, ↓reduceIte, reduceCtorEq, Nat.reduceEqDiff, Nat.reduceAdd, Nat.reduceMul, Nat.reduceLT, Nat.reduceLeDiff, Nat.reduceSub, Nat.reduceDiv, Nat.reduceBEq, Nat.reduceBneDiff, Nat.reduceBeqDiff]
  refine callR.rd (pick_rd bs hb g p (by omega) 24 (by omega)) rfl rfl rfl ?_
  rintro r o' ⟨v, rfl, hv0, hv1, _, rfl⟩
  simp (maxSteps := 1000000) (disch := omega) only [push_cast, go_sem, wpS_tt, wpS_tf, wpS_ft, wpS_ff, wpCond_tt, wpCond_ff, Nat.reducePow, Int.reduceEq, Int.reduceLT, Int.reduceLE, Int.reduceAdd, Int.reduceSub, Int.reduceMul, Int.reduceToNat, Int.reduceBEq, Int.reduceBNe, ↓reduceIte, reduceCtorEq, Nat.reduceEqDiff, Nat.reduceAdd, Nat.reduceMul, Nat.reduceLT, Nat.reduceLeDiff, Nat.reduceSub, Nat.reduceDiv, Nat.reduceBEq, Nat.reduceBneDiff, Nat.reduceBeqDiff]
  refine ⟨fun hv g1 => ?_, fun hv => ?_⟩
  · refine callR.rd (pick_rd bs hb g (p + 1) (by omega) 3 (by omega)) rfl rfl rfl ?_
    rintro r o' ⟨u, rfl, hu0, hu1, _, rfl⟩
    have hu : u < 3 := hu1 (by omega)
    obtain ⟨n, rfl⟩ := Int.eq_ofNat_of_zero_le hu0
    obtain ⟨z, hz⟩ := ints_get (l := [.int .i64 0, .int .i64 4, .int .i64 (-1)]) (n := n) rfl (by simp; omega)
    simp (maxSteps := 1000000) (disch := omega) only [push_cast, go_sem, wpS_tt, wpS_tf, wpS_ft, wpS_ff, wpCond_tt, wpCond_ff, Nat.reducePow, Int.reduceEq, Int.reduceLT, Int.reduceLE, Int.reduceAdd, Int.reduceSub, Int.reduceMul, Int.reduceToNat, Int.reduceBEq, Int.reduceBNe, ↓reduceIte, reduceCtorEq, Nat.reduceEqDiff, Nat.reduceAdd, Nat.reduceMul, Nat.reduceLT, Nat.reduceLeDiff, Nat.reduceSub, Nat.reduceDiv, Nat.reduceBEq, Nat.reduceBneDiff, Nat.reduceBeqDiff, hz]
    refine ⟨by omega, _, Sub.set Sub.no rfl, _, ⟨_, rfl, p + 1 + 1, by omega, rfl⟩, rfl⟩
  · refine callR.rd (pick_rd bs hb g (p + 1) (by omega) 3 (by omega)) rfl rfl rfl ?_
    rintro r o' ⟨u, rfl, hu0, hu1, _, rfl⟩
    simp (maxSteps := 1000000) (disch := omega) only [push_cast, go_sem, wpS_tt, wpS_tf, wpS_ft, wpS_ff, wpCond_tt, wpCond_ff, Nat.reducePow, Int.reduceEq, Int.reduceLT, Int.reduceLE, Int.reduceAdd, Int.reduceSub, Int.reduceMul, Int.reduceToNat, Int.reduceBEq, Int.reduceBNe, ↓reduceIte, reduceCtorEq, Nat.reduceEqDiff, Nat.reduceAdd, Nat.reduceMul, Nat.reduceLT, Nat.reduceLeDiff, Nat.reduceSub, Nat.reduceDiv, Nat.reduceBEq, Nat.reduceBneDiff, Nat.reduceBeqDiff]
    exact ⟨_, Sub.rfl, _, ⟨_, rfl, p + 1 + 1, by omega, rfl⟩, rfl⟩
end Go.Proofs.Ytmmipjlogdggiaa
/-! ## OrderHas, by the program: it answers what the reference's words say -/
namespace Go.Proofs.Ytmmipjlogdggiaa
open Go.RowKit
set_option linter.unusedSimpArgs false
set_option linter.unusedVariables false
set_option pp.maxSteps 3000

theorem loose_eq {p : Prog} (h : progOk p = true) {a b t : Nat} (hb : b < (events p).length) (ho : ownB (events p) a b = true) (ht : ∀ f, bkI (events p) (scene p).ds a a = some f → Quiet p f t ∧ kd (scene p).ds f = 7 ∧ kd (scene p).ds t = 8) (f : Int) (t' : Int) (ok : Bool)
    (hr : insR a t (bkI (events p) (scene p).ds a a) = .tuple [.int .i64 f, .int .i64 t', .bool ok]) : looseB (dsA p a) (dsA p b) a b (lastRd (scene p).ds b) f t' ok = looseS p a b := by
  have hi := ins_eq h hb ho ht
  have e : insI p a b t = ((kd (scene p).ds a == 7 || kd (scene p).ds b == 8) && ok && decide (f ≤ a) && decide ((b : Int) ≤ t') && (kd (scene p).ds a == 7 || (b : Int) == t')) := by
    rw [insI]
    cases hbk : bkI (events p) (scene p).ds a a with
    | none =>
      rw [hbk] at hr
      simp only [insR, V.tuple.injEq, List.cons.injEq, V.int.injEq, V.bool.injEq, true_and, and_true] at hr
      obtain ⟨rfl, rfl, rfl⟩ := hr
      simp
    | some f0 =>
      rw [hbk] at hr
      simp only [insR, V.tuple.injEq, List.cons.injEq, V.int.injEq, V.bool.injEq, true_and, and_true] at hr
      obtain ⟨rfl, rfl, rfl⟩ := hr
      have e1 : decide ((f0 : Int) ≤ a) = decide (f0 ≤ a) := by simp
      have e2 : decide ((b : Int) ≤ t) = decide (b ≤ t) := by simp
      have e3 : ((b : Int) == (t : Int)) = (b == t) := by rw [Bool.eq_iff_iff]; simp; omega
      rw [e1, e2, e3]
  have hsl : (scene p).ds.length = (events p).length := by simp [scene]
  obtain ⟨eb, heb⟩ : ∃ e, (events p)[b]? = some e := ⟨_, List.getElem?_eq_getElem hb⟩
  have hs : ((dsA p b).k == 3 && srcOf (events p) (scene p).ds b b == (a : Int)) = ((dsA p b).k == 3 && lastRd (scene p).ds b == a) := by
    by_cases h3 : (dsA p b).k = 3
    · have e4 : dsA p b = stepAt p eb := by rw [dsA, scene_get heb]; rfl
      have := src_last h heb (by rw [← e4]; exact h3)
      have e5 : ((lastRd (scene p).ds b : Int) == (a : Int)) = (lastRd (scene p).ds b == a) := by rw [Bool.eq_iff_iff, beq_iff_eq, beq_iff_eq]; omega
      rw [this, e5]
    · have h3' : ((dsA p b).k == 3) = false := by simpa using h3
      rw [h3']; rfl
  rw [looseS, ho, hs, ← hi, e, looseB]
  simp only [Bool.true_and, wallB, dsA, kd]
  cases ((scene p).ds[a]?.getD default).k == 4 <;> cases ((scene p).ds[a]?.getD default).k == 9 <;> cases ((scene p).ds[b]?.getD default).k == 4 <;> cases ((scene p).ds[b]?.getD default).k == 9 <;>
    cases ((scene p).ds[a]?.getD default).k == 5 <;> cases ((scene p).ds[b]?.getD default).k == 6 <;> simp [Bool.or_comm]
def hasS (p : Prog) (x : Exe) (kind a b : Int) : Bool := specOk p x && inB kind 1 3 && inB a 0 ((events p).length - 1) && inB b 0 ((events p).length - 1) && (staysS p kind a.toNat b.toNat || toldS p x kind a.toNat b.toNat)
theorem has_eq {p : Prog} {x : Exe} (h : Way p x) {a b : Nat} (hb : b < (scene p).ds.length) {kind : Int} (hk : inB kind 1 3 = true) (lo : Bool) (hlo : ownB (events p) a b = true → lo = looseS p a b) :
    hasB (ownB (events p) a b) (x.fr[b]?.getD 0 == (a : Int)) (overB (scene p).ds x a b) (th (events p) a != th (events p) b) (dsA p a).writes (dsA p b).reads lo kind = (staysS p kind a b || toldS p x kind a b) := by
  rw [← read_eq h hb, ← over_eq]
  have hk' : kind = 1 ∨ kind = 2 ∨ kind = 3 := by simp [inB] at hk; omega
  have hol : ownB (events p) a b = false → looseS p a b = false := fun ho => by simp [looseS, ho]
  simp only [hasB, staysS, toldS, apartS]
  rcases hk' with rfl | rfl | rfl
  · simp [Bool.or_assoc]
  · simp [Bool.or_assoc, Bool.and_comm]
  · cases ho : ownB (events p) a b
    · simp [hol ho, Bool.and_comm]
    · simp [hlo ho, Bool.and_comm]

theorem isOrd_fn (n : Int) : Fp Try.prog 27 [.int .i64 n] (.bool (inB n 1 3)) := by
  refine Fc.start (S := []) Try.func27 Try.ntmps27 Try.results27 rfl (by decide) rfl (by kernel_rfl) ?_
  simp (maxSteps := 1000000) (disch := omega) only [push_cast, go_sem, wpS_tt, wpS_tf, wpS_ft, wpS_ff, wpCond_tt, wpCond_ff, Nat.reducePow, Int.reduceEq, Int.reduceLT, Int.reduceLE, Int.reduceAdd, Int.reduceSub, Int.reduceMul, Int.reduceToNat, Int.reduceBEq, Int.reduceBNe, ↓reduceIte, reduceCtorEq, Nat.reduceEqDiff, Nat.reduceAdd, Nat.reduceMul, Nat.reduceLT, Nat.reduceLeDiff, Nat.reduceSub, Nat.reduceDiv, Nat.reduceBEq, Nat.reduceBneDiff, Nat.reduceBeqDiff]
  refine callR.pure (in_fn n 1 3) rfl rfl ?_
  simp (maxSteps := 1000000) (disch := omega) only [push_cast, go_sem, wpS_tt, wpS_tf, wpS_ft, wpS_ff, wpCond_tt, wpCond_ff, Nat.reducePow, Int.reduceEq, Int.reduceLT, Int.reduceLE, Int.reduceAdd, Int.reduceSub, Int.reduceMul, Int.reduceToNat, Int.reduceBEq, Int.reduceBNe, ↓reduceIte, reduceCtorEq, Nat.reduceEqDiff, Nat.reduceAdd, Nat.reduceMul, Nat.reduceLT, Nat.reduceLeDiff, Nat.reduceSub, Nat.reduceDiv, Nat.reduceBEq, Nat.reduceBneDiff, Nat.reduceBeqDiff]
theorem insR_ex (a t : Nat) (o : Option Nat) : ∃ (f t' : Int) (ok : Bool), insR a t o = .tuple [.int .i64 f, .int .i64 t', .bool ok] := by
  cases o with
  | none => exact ⟨0, 0, false, rfl⟩
  | some f => exact ⟨f, t, decide (a ≤ t), rfl⟩
theorem inB_nat {a : Int} {n : Nat} (h : inB a 0 ((n : Int) - 1) = true) : ∃ k : Nat, a = k ∧ k < n := by
  simp only [inB, Bool.and_eq_true, decide_eq_true_eq] at h
  exact ⟨a.toNat, by omega, by omega⟩
theorem implOrderHas_fn (p : Prog) (x : Exe) (kind a b : Int) (hp : p.length < 2 ^ 40) (hl : ∀ l ∈ p, l.length < 2 ^ 40) (hx : x.small) : Fp Try.prog 12 [progV p, x.V, .int .i64 kind, .int .i64 a, .int .i64 b] (.bool (hasS p x kind a b)) := by
  have h1 := implExecOk_fn p x hp hl hx
  rw [ok_eq] at h1
  unfold hasS
  refine Fc.start (S := []) Try.func12 Try.ntmps12 Try.results12 rfl (by decide) rfl (by kernel_rfl) ?_
  simp (maxSteps := 1000000) (disch := omega) only [push_cast, go_sem, wpS_tt, wpS_tf, wpS_ft, wpS_ff, wpCond_tt, wpCond_ff, Nat.reducePow, Int.reduceEq, Int.reduceLT, Int.reduceLE, Int.reduceAdd, Int.reduceSub, Int.reduceMul, Int.reduceToNat, Int.reduceBEq, Int.reduceBNe, ↓reduceIte, reduceCtorEq, Nat.reduceEqDiff, Nat.reduceAdd, Nat.reduceMul, Nat.reduceLT, Nat.reduceLeDiff, Nat.reduceSub, Nat.reduceDiv, Nat.reduceBEq, Nat.reduceBneDiff, Nat.reduceBeqDiff, progV_eq, Exe.V_eq]
  intro g5 g6
  refine callR.pure h1 rfl rfl ?_
  cases hok : specOk p x
  · simp (maxSteps := 1000000) (disch := omega) only [push_cast, go_sem, wpS_tt, wpS_tf, wpS_ft, wpS_ff, wpCond_tt, wpCond_ff, Nat.reducePow, Int.reduceEq, Int.reduceLT, Int.reduceLE, Int.reduceAdd, Int.reduceSub, Int.reduceMul, Int.reduceToNat, Int.reduceBEq, Int.reduceBNe, ↓reduceIte, reduceCtorEq, Nat.reduceEqDiff, Nat.reduceAdd, Nat.reduceMul, Nat.reduceLT, Nat.reduceLeDiff, Nat.reduceSub, Nat.reduceDiv, Nat.reduceBEq, Nat.reduceBneDiff, Nat.reduceBeqDiff]
  have hw : Way p x := Way.of (by rw [ok_eq]; exact hok)
  have hpk := hw.ok
  have hel := events_le hpk
  have hsl : (scene p).ds.length = (events p).length := by simp [scene]
  simp (maxSteps := 1000000) (disch := omega) only [push_cast, go_sem, wpS_tt, wpS_tf, wpS_ft, wpS_ff, wpCond_tt, wpCond_ff, Nat.reducePow, Int.reduceEq, Int.reduceLT, Int.reduceLE, Int.reduceAdd, Int.reduceSub, Int.reduceMul, Int.reduceToNat, Int.reduceBEq, Int.reduceBNe, ↓reduceIte, reduceCtorEq, Nat.reduceEqDiff, Nat.reduceAdd, Nat.reduceMul, Nat.reduceLT, Nat.reduceLeDiff, Nat.reduceSub, Nat.reduceDiv, Nat.reduceBEq, Nat.reduceBneDiff, Nat.reduceBeqDiff]
  refine callR.pure (isOrd_fn kind) rfl rfl ?_
  cases hk : inB kind 1 3
  · simp (maxSteps := 1000000) (disch := omega) only [push_cast, go_sem, wpS_tt, wpS_tf, wpS_ft, wpS_ff, wpCond_tt, wpCond_ff, Nat.reducePow, Int.reduceEq, Int.reduceLT, Int.reduceLE, Int.reduceAdd, Int.reduceSub, Int.reduceMul, Int.reduceToNat, Int.reduceBEq, Int.reduceBNe, ↓reduceIte, reduceCtorEq, Nat.reduceEqDiff, Nat.reduceAdd, Nat.reduceMul, Nat.reduceLT, Nat.reduceLeDiff, Nat.reduceSub, Nat.reduceDiv, Nat.reduceBEq, Nat.reduceBneDiff, Nat.reduceBeqDiff]
  simp (maxSteps := 1000000) (disch := omega) only [push_cast, go_sem, wpS_tt, wpS_tf, wpS_ft, wpS_ff, wpCond_tt, wpCond_ff, Nat.reducePow, Int.reduceEq, Int.reduceLT, Int.reduceLE, Int.reduceAdd, Int.reduceSub, Int.reduceMul, Int.reduceToNat, Int.reduceBEq, Int.reduceBNe, ↓reduceIte, reduceCtorEq, Nat.reduceEqDiff, Nat.reduceAdd, Nat.reduceMul, Nat.reduceLT, Nat.reduceLeDiff, Nat.reduceSub, Nat.reduceDiv, Nat.reduceBEq, Nat.reduceBneDiff, Nat.reduceBeqDiff]
  refine callR.pure (sceneOf_fn p hpk) rfl rfl ?_
  have hes : (scene p).es = events p := rfl
  have hsp : (scene p).p = p := rfl
  simp (maxSteps := 1000000) (disch := omega) only [push_cast, go_sem, wpS_tt, wpS_tf, wpS_ft, wpS_ff, wpCond_tt, wpCond_ff, Nat.reducePow, Int.reduceEq, Int.reduceLT, Int.reduceLE, Int.reduceAdd, Int.reduceSub, Int.reduceMul, Int.reduceToNat, Int.reduceBEq, Int.reduceBNe, ↓reduceIte, reduceCtorEq, Nat.reduceEqDiff, Nat.reduceAdd, Nat.reduceMul, Nat.reduceLT, Nat.reduceLeDiff, Nat.reduceSub, Nat.reduceDiv, Nat.reduceBEq, Nat.reduceBneDiff, Nat.reduceBeqDiff, Sc.V_eq, hes, hsp]
  intro g11
  refine callR.pure (in_fn a 0 ((events p).length - 1)) rfl rfl ?_
  cases ha : inB a 0 ((events p).length - 1)
  · simp (maxSteps := 1000000) (disch := omega) only [push_cast, go_sem, wpS_tt, wpS_tf, wpS_ft, wpS_ff, wpCond_tt, wpCond_ff, Nat.reducePow, Int.reduceEq, Int.reduceLT, Int.reduceLE, Int.reduceAdd, Int.reduceSub, Int.reduceMul, Int.reduceToNat, Int.reduceBEq, Int.reduceBNe, ↓reduceIte, reduceCtorEq, Nat.reduceEqDiff, Nat.reduceAdd, Nat.reduceMul, Nat.reduceLT, Nat.reduceLeDiff, Nat.reduceSub, Nat.reduceDiv, Nat.reduceBEq, Nat.reduceBneDiff, Nat.reduceBeqDiff, hes]
  simp (maxSteps := 1000000) (disch := omega) only [push_cast, go_sem, wpS_tt, wpS_tf, wpS_ft, wpS_ff, wpCond_tt, wpCond_ff, Nat.reducePow, Int.reduceEq, Int.reduceLT, Int.reduceLE, Int.reduceAdd, Int.reduceSub, Int.reduceMul, Int.reduceToNat, Int.reduceBEq, Int.reduceBNe, ↓reduceIte, reduceCtorEq, Nat.reduceEqDiff, Nat.reduceAdd, Nat.reduceMul, Nat.reduceLT, Nat.reduceLeDiff, Nat.reduceSub, Nat.reduceDiv, Nat.reduceBEq, Nat.reduceBneDiff, Nat.reduceBeqDiff, hes]
  refine callR.pure (in_fn b 0 ((events p).length - 1)) rfl rfl ?_
  cases hb : inB b 0 ((events p).length - 1)
  · simp (maxSteps := 1000000) (disch := omega) only [push_cast, go_sem, wpS_tt, wpS_tf, wpS_ft, wpS_ff, wpCond_tt, wpCond_ff, Nat.reducePow, Int.reduceEq, Int.reduceLT, Int.reduceLE, Int.reduceAdd, Int.reduceSub, Int.reduceMul, Int.reduceToNat, Int.reduceBEq, Int.reduceBNe, ↓reduceIte, reduceCtorEq, Nat.reduceEqDiff, Nat.reduceAdd, Nat.reduceMul, Nat.reduceLT, Nat.reduceLeDiff, Nat.reduceSub, Nat.reduceDiv, Nat.reduceBEq, Nat.reduceBneDiff, Nat.reduceBeqDiff, hes]
  obtain ⟨a, rfl, hal⟩ := inB_nat ha
  obtain ⟨b, rfl, hbl⟩ := inB_nat hb
  obtain ⟨t, ht⟩ := out_ex hpk a hal
  obtain ⟨f, t', ok, hR⟩ := insR_ex a t (bkI (events p) (scene p).ds a a)
  have hfit : Fit (scene p).ds x := ⟨hw.fr, hw.od, hx.row, scene_p hpk⟩
  have hins := inside_fn (scene p) a t (by omega) (by omega) (scene_len p) (fun f hf => by obtain ⟨q1, q2, q3⟩ := ht f hf; exact q1.out q2 q3)
  rw [show (scene p).es = events p from rfl, hR] at hins
  obtain ⟨eb, heb⟩ : ∃ e, (events p)[b]? = some e := ⟨_, List.getElem?_eq_getElem hbl⟩
  obtain ⟨ea, hea⟩ : ∃ e, (events p)[a]? = some e := ⟨_, List.getElem?_eq_getElem hal⟩
  have hda : (scene p).ds[a]? = some (dsA p a) := by rw [dsA, scene_get hea]; rfl
  have hdb : (scene p).ds[b]? = some (dsA p b) := by rw [dsA, scene_get heb]; rfl
  have hlo := loose_fn (scene p) a b (by omega) (by omega) (lastRd (scene p).ds b) f t' ok (dsA p a) (dsA p b) hda hdb (fun h3 => by
    obtain ⟨r1, r2, r3⟩ := lastRd_spec (scene_copy hpk b _ hdb h3)
    exact lastRead_fn (scene p) b _ (by omega) (by omega) r1 r2 r3) hins
  have hhas := has_fn (scene p) x kind a b (by omega) (by omega) (scene_len p) hfit _ hlo
  have he := has_eq hw (by omega) hk (looseB (dsA p a) (dsA p b) a b (lastRd (scene p).ds b) f t' ok) (a := a) (b := b) (fun ho => loose_eq hpk hbl ho ht f t' ok hR)
  rw [show (scene p).es = events p from rfl] at hhas
  simp only [dsA] at he hhas
  rw [he, Sc.V_eq, Exe.V_eq, show (scene p).es = events p from rfl, show (scene p).p = p from rfl] at hhas
  simp (maxSteps := 1000000) (disch := omega) only [push_cast, go_sem, wpS_tt, wpS_tf, wpS_ft, wpS_ff, wpCond_tt, wpCond_ff, Nat.reducePow, Int.reduceEq, Int.reduceLT, Int.reduceLE, Int.reduceAdd, Int.reduceSub, Int.reduceMul, Int.reduceToNat, Int.reduceBEq, Int.reduceBNe, ↓reduceIte, reduceCtorEq, Nat.reduceEqDiff, Nat.reduceAdd, Nat.reduceMul, Nat.reduceLT, Nat.reduceLeDiff, Nat.reduceSub, Nat.reduceDiv, Nat.reduceBEq, Nat.reduceBneDiff, Nat.reduceBeqDiff, hes, hsp]
  refine callR.pure hhas rfl rfl ?_
  simp (maxSteps := 1000000) (disch := omega) only [push_cast, go_sem, wpS_tt, wpS_tf, wpS_ft, wpS_ff, wpCond_tt, wpCond_ff, Nat.reducePow, Int.reduceEq, Int.reduceLT, Int.reduceLE, Int.reduceAdd, Int.reduceSub, Int.reduceMul, Int.reduceToNat, Int.reduceBEq, Int.reduceBNe, ↓reduceIte, reduceCtorEq, Nat.reduceEqDiff, Nat.reduceAdd, Nat.reduceMul, Nat.reduceLT, Nat.reduceLeDiff, Nat.reduceSub, Nat.reduceDiv, Nat.reduceBEq, Nat.reduceBneDiff, Nat.reduceBeqDiff]
end Go.Proofs.Ytmmipjlogdggiaa
/-! ## OrderHas, by the reference -/
namespace Go.Proofs.Ytmmipjlogdggiaa
open Go.RowKit
set_option linter.unusedSimpArgs false
set_option linter.unusedVariables false
set_option pp.maxSteps 3000

section
variable {P : Program} {M : Mem} {k : V → Mem → Prop}
/-- A call that changes the object of its first argument. -/
theorem callR.mod {f : FuncId} {bs : List V} {g a n : Nat} {o : V} {Q : V → V → Prop} {d : Option Nat} (h : Fc P f (.ptr 0 [] 0 0 g n :: bs) (noM.set 0 o) fun r m => ∃ o', Q r o' ∧ m = noM.set 0 o') (hM : M a = some o) (hk : (bs.all fun v => v.key.isNone) = true) (h9 : Nat.ble (bs.length + 1) 90 = true)
    (hK : ∀ r o', Q r o' → runV (some (True, det (resN d r) (M.set a o'))) k .mk) : callR P f (.ptr a [] 0 0 g n :: bs) d M k .mk := by
  have hk' : ((bs.map V.key).all fun x => x.isNone) = true := by rw [List.all_map]; exact hk
  refine callR.intro (F := noM.set 0 o) (R := fun r m => ∃ o', Q r o' ∧ m = noM.set 0 o') (by rw [look_args hk]; exact h) (look_nodup hk) (Nat.le_of_ble_eq_true h9) (Sub.set Sub.no (look_foot hM)) ?_
  rintro r0 Mf ⟨o', hq, rfl⟩
  have : mergeM M ((V.ptr a [] 0 0 g n :: bs).map V.key) d (noM.set 0 o') = M.set a o' := by
    rw [merge_eq, List.map_cons]
    have e1 : (noM.set 0 o') 100 = none := rfl
    have e2 : (noM.set 0 o') 0 = some o' := rfl
    rw [e1, mgD_none', key_ptr, mg_some, e2, mg_all_none hk', MemU_some]
  rw [this]
  exact ((runV_det.1 (hK r0 o' hq)).2)
end
theorem specOrderHas_fn (p : Prog) (x : Exe) (kind a b : Int) (hp : p.length < 2 ^ 40) (hx : x.small) : Fp Try.prog 13 [progV p, x.V, .int .i64 kind, .int .i64 a, .int .i64 b] (.bool (hasS p x kind a b)) := by
  have h1 := specExecOk_fn p x hp hx
  unfold hasS
  refine Fc.start (S := [7]) Try.func13 Try.ntmps13 Try.results13 rfl (by decide) rfl (by kernel_rfl) ?_
  simp (maxSteps := 1000000) (disch := omega) only [push_cast, go_sem, wpS_tt, wpS_tf, wpS_ft, wpS_ff, wpCond_tt, wpCond_ff, Nat.reducePow, Int.reduceEq, Int.reduceLT, Int.reduceLE, Int.reduceAdd, Int.reduceSub, Int.reduceMul, Int.reduceToNat, Int.reduceBEq, Int.reduceBNe, ↓reduceIte, reduceCtorEq, Nat.reduceEqDiff, Nat.reduceAdd, Nat.reduceMul, Nat.reduceLT, Nat.reduceLeDiff, Nat.reduceSub, Nat.reduceDiv, Nat.reduceBEq, Nat.reduceBneDiff, Nat.reduceBeqDiff, progV_eq, Exe.V_eq]
  intro g5 g6
  refine callR.pure h1 rfl rfl ?_
  cases hok : specOk p x
  · simp (maxSteps := 1000000) (disch := omega) only [push_cast, go_sem, wpS_tt, wpS_tf, wpS_ft, wpS_ff, wpCond_tt, wpCond_ff, Nat.reducePow, Int.reduceEq, Int.reduceLT, Int.reduceLE, Int.reduceAdd, Int.reduceSub, Int.reduceMul, Int.reduceToNat, Int.reduceBEq, Int.reduceBNe, ↓reduceIte, reduceCtorEq, Nat.reduceEqDiff, Nat.reduceAdd, Nat.reduceMul, Nat.reduceLT, Nat.reduceLeDiff, Nat.reduceSub, Nat.reduceDiv, Nat.reduceBEq, Nat.reduceBneDiff, Nat.reduceBeqDiff]
  have hw : Way p x := Way.of (by rw [ok_eq]; exact hok)
  have hpk := hw.ok
  have hel := events_le hpk
  have hsl : (scene p).ds.length = (events p).length := by simp [scene]
  have hfr : x.fr.length = (events p).length := by rw [hw.fr, hsl]
  simp (maxSteps := 1000000) (disch := omega) only [push_cast, go_sem, wpS_tt, wpS_tf, wpS_ft, wpS_ff, wpCond_tt, wpCond_ff, Nat.reducePow, Int.reduceEq, Int.reduceLT, Int.reduceLE, Int.reduceAdd, Int.reduceSub, Int.reduceMul, Int.reduceToNat, Int.reduceBEq, Int.reduceBNe, ↓reduceIte, reduceCtorEq, Nat.reduceEqDiff, Nat.reduceAdd, Nat.reduceMul, Nat.reduceLT, Nat.reduceLeDiff, Nat.reduceSub, Nat.reduceDiv, Nat.reduceBEq, Nat.reduceBneDiff, Nat.reduceBeqDiff]
  refine callR.pure (l6In_fn kind 1 3) rfl rfl ?_
  cases hk : inB kind 1 3
  · simp (maxSteps := 1000000) (disch := omega) only [push_cast, go_sem, wpS_tt, wpS_tf, wpS_ft, wpS_ff, wpCond_tt, wpCond_ff, Nat.reducePow, Int.reduceEq, Int.reduceLT, Int.reduceLE, Int.reduceAdd, Int.reduceSub, Int.reduceMul, Int.reduceToNat, Int.reduceBEq, Int.reduceBNe, ↓reduceIte, reduceCtorEq, Nat.reduceEqDiff, Nat.reduceAdd, Nat.reduceMul, Nat.reduceLT, Nat.reduceLeDiff, Nat.reduceSub, Nat.reduceDiv, Nat.reduceBEq, Nat.reduceBneDiff, Nat.reduceBeqDiff]
  simp (maxSteps := 1000000) (disch := omega) only [push_cast, go_sem, wpS_tt, wpS_tf, wpS_ft, wpS_ff, wpCond_tt, wpCond_ff, Nat.reducePow, Int.reduceEq, Int.reduceLT, Int.reduceLE, Int.reduceAdd, Int.reduceSub, Int.reduceMul, Int.reduceToNat, Int.reduceBEq, Int.reduceBNe, ↓reduceIte, reduceCtorEq, Nat.reduceEqDiff, Nat.reduceAdd, Nat.reduceMul, Nat.reduceLT, Nat.reduceLeDiff, Nat.reduceSub, Nat.reduceDiv, Nat.reduceBEq, Nat.reduceBneDiff, Nat.reduceBeqDiff]
  refine callR.new (olook_fn p hp hpk) rfl rfl ?_
  rintro r ob ⟨g, rfl, rfl⟩
  simp (maxSteps := 1000000) (disch := omega) only [push_cast, go_sem, wpS_tt, wpS_tf, wpS_ft, wpS_ff, wpCond_tt, wpCond_ff, Nat.reducePow, Int.reduceEq, Int.reduceLT, Int.reduceLE, Int.reduceAdd, Int.reduceSub, Int.reduceMul, Int.reduceToNat, Int.reduceBEq, Int.reduceBNe, ↓reduceIte, reduceCtorEq, Nat.reduceEqDiff, Nat.reduceAdd, Nat.reduceMul, Nat.reduceLT, Nat.reduceLeDiff, Nat.reduceSub, Nat.reduceDiv, Nat.reduceBEq, Nat.reduceBneDiff, Nat.reduceBeqDiff, ordV_eq]
  refine callR.pure (l6In_fn a 0 ((events p).length - 1)) rfl rfl ?_
  cases ha : inB a 0 ((events p).length - 1)
  · simp (maxSteps := 1000000) (disch := omega) only [push_cast, go_sem, wpS_tt, wpS_tf, wpS_ft, wpS_ff, wpCond_tt, wpCond_ff, Nat.reducePow, Int.reduceEq, Int.reduceLT, Int.reduceLE, Int.reduceAdd, Int.reduceSub, Int.reduceMul, Int.reduceToNat, Int.reduceBEq, Int.reduceBNe, ↓reduceIte, reduceCtorEq, Nat.reduceEqDiff, Nat.reduceAdd, Nat.reduceMul, Nat.reduceLT, Nat.reduceLeDiff, Nat.reduceSub, Nat.reduceDiv, Nat.reduceBEq, Nat.reduceBneDiff, Nat.reduceBeqDiff]
  simp (maxSteps := 1000000) (disch := omega) only [push_cast, go_sem, wpS_tt, wpS_tf, wpS_ft, wpS_ff, wpCond_tt, wpCond_ff, Nat.reducePow, Int.reduceEq, Int.reduceLT, Int.reduceLE, Int.reduceAdd, Int.reduceSub, Int.reduceMul, Int.reduceToNat, Int.reduceBEq, Int.reduceBNe, ↓reduceIte, reduceCtorEq, Nat.reduceEqDiff, Nat.reduceAdd, Nat.reduceMul, Nat.reduceLT, Nat.reduceLeDiff, Nat.reduceSub, Nat.reduceDiv, Nat.reduceBEq, Nat.reduceBneDiff, Nat.reduceBeqDiff]
  refine callR.pure (l6In_fn b 0 ((events p).length - 1)) rfl rfl ?_
  cases hb : inB b 0 ((events p).length - 1)
  · simp (maxSteps := 1000000) (disch := omega) only [push_cast, go_sem, wpS_tt, wpS_tf, wpS_ft, wpS_ff, wpCond_tt, wpCond_ff, Nat.reducePow, Int.reduceEq, Int.reduceLT, Int.reduceLE, Int.reduceAdd, Int.reduceSub, Int.reduceMul, Int.reduceToNat, Int.reduceBEq, Int.reduceBNe, ↓reduceIte, reduceCtorEq, Nat.reduceEqDiff, Nat.reduceAdd, Nat.reduceMul, Nat.reduceLT, Nat.reduceLeDiff, Nat.reduceSub, Nat.reduceDiv, Nat.reduceBEq, Nat.reduceBneDiff, Nat.reduceBeqDiff]
  obtain ⟨a, rfl, hal⟩ := inB_nat ha
  obtain ⟨b, rfl, hbl⟩ := inB_nat hb
  simp (maxSteps := 1000000) (disch := omega) only [push_cast, go_sem, wpS_tt, wpS_tf, wpS_ft, wpS_ff, wpCond_tt, wpCond_ff, Nat.reducePow, Int.reduceEq, Int.reduceLT, Int.reduceLE, Int.reduceAdd, Int.reduceSub, Int.reduceMul, Int.reduceToNat, Int.reduceBEq, Int.reduceBNe, ↓reduceIte, reduceCtorEq, Nat.reduceEqDiff, Nat.reduceAdd, Nat.reduceMul, Nat.reduceLT, Nat.reduceLeDiff, Nat.reduceSub, Nat.reduceDiv, Nat.reduceBEq, Nat.reduceBneDiff, Nat.reduceBeqDiff]
  have hway := oway_fn p x g hpk hfr hw.od hx.row
  rw [ordV_eq, rdsV_eq, wrtV_eq, Exe.V_eq] at hway
  rw [rdsV_eq, wrtV_eq]
  refine callR.mod hway rfl rfl rfl ?_
  rintro r ob ⟨gr, rfl, rfl⟩
  simp (maxSteps := 1000000) (disch := omega) only [push_cast, go_sem, wpS_tt, wpS_tf, wpS_ft, wpS_ff, wpCond_tt, wpCond_ff, Nat.reducePow, Int.reduceEq, Int.reduceLT, Int.reduceLE, Int.reduceAdd, Int.reduceSub, Int.reduceMul, Int.reduceToNat, Int.reduceBEq, Int.reduceBNe, ↓reduceIte, reduceCtorEq, Nat.reduceEqDiff, Nat.reduceAdd, Nat.reduceMul, Nat.reduceLT, Nat.reduceLeDiff, Nat.reduceSub, Nat.reduceDiv, Nat.reduceBEq, Nat.reduceBneDiff, Nat.reduceBeqDiff, ordV_eq]
  have hst := ostays_fn p g (.sl (x.fr.map (V.int .i64))) (.sl (((List.range (events p).length).map (rankS p x)).map (V.int .i64))) a b hel kind hal hbl
  have hto := otold_fn p x g a b hfr (fun i hi => by
    obtain ⟨e, he⟩ : ∃ e, (events p)[i]? = some e := ⟨_, List.getElem?_eq_getElem hi⟩
    have hd : (scene p).ds[i]? = some (dsA p i) := by rw [dsA, scene_get he]; rfl
    have := scene_formed hpk _ (List.mem_of_getElem? hd)
    cases hu : (dsA p i).uses
    · simp only [Do.formed, hu, Bool.false_eq_true, if_false, Bool.and_eq_true, beq_iff_eq] at this
      omega
    · exact (formed_place this hu).1) kind hal hbl
  rw [ordV_eq, rdsV_eq, wrtV_eq] at hst hto
  refine Sat.freezeC 11 [] 0 5 (n0 := .own 63 (some g) 1 [.agg [.sl (p.map thrV), .sl ((events p).map Evt.V), .sl ((scene p).ds.map fun d => .bool d.reads), .sl ((scene p).ds.map fun d => .bool d.writes), .sl (x.fr.map (V.int .i64)), .own 3 (some gr) (events p).length (((List.range (events p).length).map (rankS p x)).map (V.int .i64))]])
    (d := .own 3 (some gr) (events p).length (((List.range (events p).length).map (rankS p x)).map (V.int .i64))) ?_ rfl rfl ?_
  · rfl
  have e1 : (V.own 3 (some gr) (events p).length (((List.range (events p).length).map (rankS p x)).map (V.int .i64))).fz = .sl (((List.range (events p).length).map (rankS p x)).map (V.int .i64)) := by simp only [V.fz, fzs_map, fzs_int]
  rw [e1]
  generalize ((List.range (events p).length).map (rankS p x)).map (V.int .i64) = rk at hst hto ⊢
  refine Sat.of (S := []) (by kernel_rfl) ?_
  simp (maxSteps := 1000000) (disch := omega) only [push_cast, go_sem, wpS_tt, wpS_tf, wpS_ft, wpS_ff, wpCond_tt, wpCond_ff, Nat.reducePow, Int.reduceEq, Int.reduceLT, Int.reduceLE, Int.reduceAdd, Int.reduceSub, Int.reduceMul, Int.reduceToNat, Int.reduceBEq, Int.reduceBNe, ↓reduceIte, reduceCtorEq, Nat.reduceEqDiff, Nat.reduceAdd, Nat.reduceMul, Nat.reduceLT, Nat.reduceLeDiff, Nat.reduceSub, Nat.reduceDiv, Nat.reduceBEq, Nat.reduceBneDiff, Nat.reduceBeqDiff]
  refine callR.look hst rfl rfl rfl ?_
  cases hs : staysS p kind a b
  rotate_left
  · simp (maxSteps := 1000000) (disch := omega) only [push_cast, go_sem, wpS_tt, wpS_tf, wpS_ft, wpS_ff, wpCond_tt, wpCond_ff, Nat.reducePow, Int.reduceEq, Int.reduceLT, Int.reduceLE, Int.reduceAdd, Int.reduceSub, Int.reduceMul, Int.reduceToNat, Int.reduceBEq, Int.reduceBNe, ↓reduceIte, reduceCtorEq, Nat.reduceEqDiff, Nat.reduceAdd, Nat.reduceMul, Nat.reduceLT, Nat.reduceLeDiff, Nat.reduceSub, Nat.reduceDiv, Nat.reduceBEq, Nat.reduceBneDiff, Nat.reduceBeqDiff]
  simp (maxSteps := 1000000) (disch := omega) only [push_cast, go_sem, wpS_tt, wpS_tf, wpS_ft, wpS_ff, wpCond_tt, wpCond_ff, Nat.reducePow, Int.reduceEq, Int.reduceLT, Int.reduceLE, Int.reduceAdd, Int.reduceSub, Int.reduceMul, Int.reduceToNat, Int.reduceBEq, Int.reduceBNe, ↓reduceIte, reduceCtorEq, Nat.reduceEqDiff, Nat.reduceAdd, Nat.reduceMul, Nat.reduceLT, Nat.reduceLeDiff, Nat.reduceSub, Nat.reduceDiv, Nat.reduceBEq, Nat.reduceBneDiff, Nat.reduceBeqDiff]
  refine callR.look hto rfl rfl rfl ?_
  simp (maxSteps := 1000000) (disch := omega) only [push_cast, go_sem, wpS_tt, wpS_tf, wpS_ft, wpS_ff, wpCond_tt, wpCond_ff, Nat.reducePow, Int.reduceEq, Int.reduceLT, Int.reduceLE, Int.reduceAdd, Int.reduceSub, Int.reduceMul, Int.reduceToNat, Int.reduceBEq, Int.reduceBNe, ↓reduceIte, reduceCtorEq, Nat.reduceEqDiff, Nat.reduceAdd, Nat.reduceMul, Nat.reduceLT, Nat.reduceLeDiff, Nat.reduceSub, Nat.reduceDiv, Nat.reduceBEq, Nat.reduceBneDiff, Nat.reduceBeqDiff]
end Go.Proofs.Ytmmipjlogdggiaa
/-! ## Draws: the reader is opened -/
namespace Go.Proofs.Ytmmipjlogdggiaa
open Go.RowKit
set_option linter.unusedSimpArgs false
set_option linter.unusedVariables false
set_option pp.maxSteps 3000

/-- Bytes of an argument. -/
def Code8 (bs : List Int) : Prop := ∀ b ∈ bs, 0 ≤ b ∧ b < 256
def codeV (bs : List Int) : V := .sl (bs.map (V.int .u8))
theorem codeV_eq (bs : List Int) : codeV bs = .sl (bs.map (V.int .u8)) := rfl
theorem Code8.take {bs : List Int} (h : Code8 bs) : Bytes (bs.take 2000) := ⟨by simp; omega, fun b hb => h b (List.mem_of_mem_take hb)⟩
theorem cells_code (bs : List Int) {s : Nat} (hs : s = 1) : (∀ x ∈ bs.map (V.int .u8), x.cells.length = s) = True := by
  simp only [List.mem_map, eq_iff_iff, iff_true]
  rintro x ⟨b, _, rfl⟩
  rw [hs]; rfl
theorem l6Open_fn (bs : List Int) (hl : bs.length < 2 ^ 40) : Fc Try.prog 15 [codeV bs] noM (fun r m => ∃ ob, (∃ g, r = .ptr 100 [] 0 0 g 2 ∧ ob = rdO (bs.take 2000) g 0) ∧ m = noM.set 100 ob) := by
  refine Fc.rekeyP (R' := fun r m => ∃ g, r = .ptr 2 [] 0 0 g 2 ∧ m = noM.set 2 (rdO (bs.take 2000) g 0)) ?_ ?_
  · refine Fc.start (S := []) Try.func15 Try.ntmps15 Try.results15 rfl (by decide) rfl (by kernel_rfl) ?_
    by_cases h : (2000 : Int) < bs.length
    · simp (maxSteps := 1000000) (disch := omega) only [push_cast, go_sem, wpS_tt, wpS_tf, wpS_ft, wpS_ff, wpCond_tt, wpCond_ff, Nat.reducePow, Int.reduceEq, Int.reduceLT, Int.reduceLE, Int.reduceAdd, Int.reduceSub, Int.reduceMul, Int.reduceToNat, Int.reduceBEq, Int.reduceBNe, ↓reduceIte, reduceCtorEq, Nat.reduceEqDiff, Nat.reduceAdd, Nat.reduceMul, Nat.reduceLT, Nat.reduceLeDiff, Nat.reduceSub, Nat.reduceDiv, Nat.reduceBEq, Nat.reduceBneDiff, Nat.reduceBeqDiff, codeV_eq, h, cells_code bs rfl]
      refine ⟨by omega, fun g => ⟨_, ?_, g, rfl, rfl⟩⟩
      ((repeat (first | exact Sub.no | refine Sub.set ?_ ?_)) <;> (try simp (disch := omega) only [push_cast, go_sem, wpS_tt, wpS_tf, wpS_ft, wpS_ff, wpCond_tt, wpCond_ff, Nat.reducePow, Int.reduceEq, Int.reduceLT, Int.reduceLE, Int.reduceAdd, Int.reduceSub, Int.reduceMul, Int.reduceToNat, Int.reduceBEq, Int.reduceBNe, ↓reduceIte, reduceCtorEq, Nat.reduceEqDiff, Nat.reduceAdd, Nat.reduceMul, Nat.reduceLT, Nat.reduceLeDiff, Nat.reduceSub, Nat.reduceDiv, Nat.reduceBEq, Nat.reduceBneDiff, Nat.reduceBeqDiff]))
      simp [rdO, List.map_take]
    · simp (maxSteps := 1000000) (disch := omega) only [push_cast, go_sem, wpS_tt, wpS_tf, wpS_ft, wpS_ff, wpCond_tt, wpCond_ff, Nat.reducePow, Int.reduceEq, Int.reduceLT, Int.reduceLE, Int.reduceAdd, Int.reduceSub, Int.reduceMul, Int.reduceToNat, Int.reduceBEq, Int.reduceBNe, ↓reduceIte, reduceCtorEq, Nat.reduceEqDiff, Nat.reduceAdd, Nat.reduceMul, Nat.reduceLT, Nat.reduceLeDiff, Nat.reduceSub, Nat.reduceDiv, Nat.reduceBEq, Nat.reduceBneDiff, Nat.reduceBeqDiff, codeV_eq, h]
      refine fun g => ⟨_, ?_, g, rfl, rfl⟩
      ((repeat (first | exact Sub.no | refine Sub.set ?_ ?_)) <;> (try simp (disch := omega) only [push_cast, go_sem, wpS_tt, wpS_tf, wpS_ft, wpS_ff, wpCond_tt, wpCond_ff, Nat.reducePow, Int.reduceEq, Int.reduceLT, Int.reduceLE, Int.reduceAdd, Int.reduceSub, Int.reduceMul, Int.reduceToNat, Int.reduceBEq, Int.reduceBNe, ↓reduceIte, reduceCtorEq, Nat.reduceEqDiff, Nat.reduceAdd, Nat.reduceMul, Nat.reduceLT, Nat.reduceLeDiff, Nat.reduceSub, Nat.reduceDiv, Nat.reduceBEq, Nat.reduceBneDiff, Nat.reduceBeqDiff]))
      rw [List.take_of_length_le (by omega)]; rfl
  · rintro r m ⟨g, rfl, rfl⟩
    refine ⟨2, g, 2, _, rfl, rfl, _, ⟨g, rfl, rfl⟩, era_set rfl⟩
end Go.Proofs.Ytmmipjlogdggiaa
/-! ## Draws: a program, a way, an order and two events -/
namespace Go.Proofs.Ytmmipjlogdggiaa
open Go.RowKit
set_option linter.unusedSimpArgs false
set_option linter.unusedVariables false
set_option pp.maxSteps 3000

/-- What is drawn for the laws of orders. -/
def DrawnO (r : V) : Prop := ∃ (p : Prog) (x : Exe) (kind a b : Int), r = .tuple [progV p, x.V, .int .i64 kind, .int .i64 a, .int .i64 b] ∧ p.length ≤ 3 ∧ (∀ l ∈ p, l.length < 2 ^ 11) ∧ x.small
theorem DrawOrderHas_fn (bs : List Int) (hb : Code8 bs) (hl : bs.length < 2 ^ 40) : Fc Try.prog 11 [codeV bs] noM (fun r m => DrawnO r ∧ m = noM) := by
  refine Fc.start (S := []) Try.func11 Try.ntmps11 Try.results11 rfl (by decide) rfl (by kernel_rfl) ?_
  simp (maxSteps := 1000000) (disch := omega) only [push_cast, go_sem, wpS_tt, wpS_tf, wpS_ft, wpS_ff, wpCond_tt, wpCond_ff, Nat.reducePow, Int.reduceEq, Int.reduceLT, Int.reduceLE, Int.reduceAdd, Int.reduceSub, Int.reduceMul, Int.reduceToNat, Int.reduceBEq, Int.reduceBNe, ↓reduceIte, reduceCtorEq, Nat.reduceEqDiff, Nat.reduceAdd, Nat.reduceMul, Nat.reduceLT, Nat.reduceLeDiff, Nat.reduceSub, Nat.reduceDiv, Nat.reduceBEq, Nat.reduceBneDiff, Nat.reduceBeqDiff, codeV_eq]
  intro g2 g3
  refine callR.new (l6Open_fn bs hl) rfl rfl ?_
  rintro r ob ⟨g, rfl, rfl⟩
  simp (maxSteps := 1000000) (disch := omega) only [push_cast, go_sem, wpS_tt, wpS_tf, wpS_ft, wpS_ff, wpCond_tt, wpCond_ff, Nat.reducePow, Int.reduceEq, Int.reduceLT, Int.reduceLE, Int.reduceAdd, Int.reduceSub, Int.reduceMul, Int.reduceToNat, Int.reduceBEq, Int.reduceBNe, ↓reduceIte, reduceCtorEq, Nat.reduceEqDiff, Nat.reduceAdd, Nat.reduceMul, Nat.reduceLT, Nat.reduceLeDiff, Nat.reduceSub, Nat.reduceDiv, Nat.reduceBEq, Nat.reduceBneDiff, Nat.reduceBeqDiff]
  refine callR.rd (l71Exec_rd (bs.take 2000) hb.take g 0 (by omega)) rfl rfl rfl ?_
  rintro r o' ⟨x, y, rfl, hx1, hx2, hy, q, hq1, hq2, rfl⟩
  have hyf := hy.fr
  have hys : y.small := ⟨by have := hy.fr; omega, by have := hy.od; omega, fun r hr => by have := hy.row r hr; omega⟩
  simp (maxSteps := 1000000) (disch := omega) only [push_cast, go_sem, wpS_tt, wpS_tf, wpS_ft, wpS_ff, wpCond_tt, wpCond_ff, Nat.reducePow, Int.reduceEq, Int.reduceLT, Int.reduceLE, Int.reduceAdd, Int.reduceSub, Int.reduceMul, Int.reduceToNat, Int.reduceBEq, Int.reduceBNe, ↓reduceIte, reduceCtorEq, Nat.reduceEqDiff, Nat.reduceAdd, Nat.reduceMul, Nat.reduceLT, Nat.reduceLeDiff, Nat.reduceSub, Nat.reduceDiv, Nat.reduceBEq, Nat.reduceBneDiff, Nat.reduceBeqDiff, progV_eq, Exe.V_eq]
  intro g8 g9
  refine callR.rd (l71Kind_rd (bs.take 2000) hb.take g q (by omega)) rfl rfl rfl ?_
  rintro r o' ⟨kind, rfl, q1, hq3, rfl⟩
  simp (maxSteps := 1000000) (disch := omega) only [push_cast, go_sem, wpS_tt, wpS_tf, wpS_ft, wpS_ff, wpCond_tt, wpCond_ff, Nat.reducePow, Int.reduceEq, Int.reduceLT, Int.reduceLE, Int.reduceAdd, Int.reduceSub, Int.reduceMul, Int.reduceToNat, Int.reduceBEq, Int.reduceBNe, ↓reduceIte, reduceCtorEq, Nat.reduceEqDiff, Nat.reduceAdd, Nat.reduceMul, Nat.reduceLT, Nat.reduceLeDiff, Nat.reduceSub, Nat.reduceDiv, Nat.reduceBEq, Nat.reduceBneDiff, Nat.reduceBeqDiff]
  refine callR.rd (pick_rd (bs.take 2000) hb.take g q1 (by omega) _ (by omega)) rfl rfl rfl ?_
  rintro r o' ⟨v1, rfl, hv10, hv11, _, rfl⟩
  replace hv11 := hv11 (by omega)
  simp (maxSteps := 1000000) (disch := omega) only [push_cast, go_sem, wpS_tt, wpS_tf, wpS_ft, wpS_ff, wpCond_tt, wpCond_ff, Nat.reducePow, Int.reduceEq, Int.reduceLT, Int.reduceLE, Int.reduceAdd, Int.reduceSub, Int.reduceMul, Int.reduceToNat, Int.reduceBEq, Int.reduceBNe, ↓reduceIte, reduceCtorEq, Nat.reduceEqDiff, Nat.reduceAdd, Nat.reduceMul, Nat.reduceLT, Nat.reduceLeDiff, Nat.reduceSub, Nat.reduceDiv, Nat.reduceBEq, Nat.reduceBneDiff, Nat.reduceBeqDiff]
  refine callR.rd (pick_rd (bs.take 2000) hb.take g (q1 + 1) (by omega) 2 (by omega)) rfl rfl rfl ?_
  rintro r o' ⟨v2, rfl, hv20, hv21, _, rfl⟩
  replace hv21 := hv21 (by omega)
  simp (maxSteps := 1000000) (disch := omega) only [push_cast, go_sem, wpS_tt, wpS_tf, wpS_ft, wpS_ff, wpCond_tt, wpCond_ff, Nat.reducePow, Int.reduceEq, Int.reduceLT, Int.reduceLE, Int.reduceAdd, Int.reduceSub, Int.reduceMul, Int.reduceToNat, Int.reduceBEq, Int.reduceBNe, ↓reduceIte, reduceCtorEq, Nat.reduceEqDiff, Nat.reduceAdd, Nat.reduceMul, Nat.reduceLT, Nat.reduceLeDiff, Nat.reduceSub, Nat.reduceDiv, Nat.reduceBEq, Nat.reduceBneDiff, Nat.reduceBeqDiff]
  refine callR.rd (pick_rd (bs.take 2000) hb.take g (q1 + 1 + 1) (by omega) _ (by omega)) rfl rfl rfl ?_
  rintro r o' ⟨v3, rfl, hv30, hv31, _, rfl⟩
  replace hv31 := hv31 (by omega)
  simp (maxSteps := 1000000) (disch := omega) only [push_cast, go_sem, wpS_tt, wpS_tf, wpS_ft, wpS_ff, wpCond_tt, wpCond_ff, Nat.reducePow, Int.reduceEq, Int.reduceLT, Int.reduceLE, Int.reduceAdd, Int.reduceSub, Int.reduceMul, Int.reduceToNat, Int.reduceBEq, Int.reduceBNe, ↓reduceIte, reduceCtorEq, Nat.reduceEqDiff, Nat.reduceAdd, Nat.reduceMul, Nat.reduceLT, Nat.reduceLeDiff, Nat.reduceSub, Nat.reduceDiv, Nat.reduceBEq, Nat.reduceBneDiff, Nat.reduceBeqDiff]
  refine callR.rd (pick_rd (bs.take 2000) hb.take g (q1 + 1 + 1 + 1) (by omega) 2 (by omega)) rfl rfl rfl ?_
  rintro r o' ⟨v4, rfl, hv40, hv41, _, rfl⟩
  replace hv41 := hv41 (by omega)
  simp (maxSteps := 1000000) (disch := omega) only [push_cast, go_sem, wpS_tt, wpS_tf, wpS_ft, wpS_ff, wpCond_tt, wpCond_ff, Nat.reducePow, Int.reduceEq, Int.reduceLT, Int.reduceLE, Int.reduceAdd, Int.reduceSub, Int.reduceMul, Int.reduceToNat, Int.reduceBEq, Int.reduceBNe, ↓reduceIte, reduceCtorEq, Nat.reduceEqDiff, Nat.reduceAdd, Nat.reduceMul, Nat.reduceLT, Nat.reduceLeDiff, Nat.reduceSub, Nat.reduceDiv, Nat.reduceBEq, Nat.reduceBneDiff, Nat.reduceBeqDiff]
  obtain ⟨q0, hq0⟩ : ∃ q0, q1 + 1 + 1 + 1 + 1 = q0 := ⟨_, rfl⟩
  rw [hq0]
  refine Sat.loop (σ := Nat × Int × Int × Nat) (fun s => upd (upd (upd (upd (upd (upd (upd (upd (upd (upd noT 2 (.ptr 2 [] 0 0 g2 1)) 3 (.ptr 3 [] 0 0 g3 2)) 7 (.ptr 7 [] 0 0 g 2)) 8 (.ptr 8 [] 0 0 g8 1)) 9 (.ptr 9 [] 0 0 g9 2)) 10 (.int .i64 (y.fr.length + 1))) 11 (.int .i64 kind)) 12 (.int .i64 s.2.1)) 13 (.int .i64 s.2.2.1)) 14 (.int .i64 s.1))
    (fun s => ((((noM.set 2 (.own 25 (some g2) 1 [.agg [.own 0 none 0 []]])).set 3 (.own 29 (some g3) 1 [.agg [.own 0 none 0 [], .own 0 none 0 []]])).set 7 (rdO (bs.take 2000) g s.2.2.2)).set 8 (.own 25 (some g8) 1 [.agg [.sl (x.map thrV)]])).set 9 (.own 29 (some g9) 1 [.agg [.sl (y.fr.map (V.int .i64)), .sl (y.od.map intsV)]]))
    (fun s => s.1 ≤ 8 ∧ s.2.2.2 ≤ q0 + 3 * s.1) (fun s => 8 - s.1) (0, v1 - v2, v3 - v4, q0) ⟨by dsimp only; omega, by dsimp only; omega⟩ ?_ ?_
  · (refine Less.start ?_; repeat (first | exact LessO.nil | exact LessO.all | refine LessO.skip (by decide) ?_ | refine LessO.upd ?_ ?_ | refine LessO.set ?_ ?_)) <;> (try simp (maxSteps := 1000000) (disch := omega) only [push_cast, go_sem, wpS_tt, wpS_tf, wpS_ft, wpS_ff, wpCond_tt, wpCond_ff, Nat.reducePow, Int.reduceEq, Int.reduceLT, Int.reduceLE, Int.reduceAdd, Int.reduceSub, Int.reduceMul, Int.reduceToNat, Int.reduceBEq, Int.reduceBNe, ↓reduceIte, reduceCtorEq, Nat.reduceEqDiff, Nat.reduceAdd, Nat.reduceMul, Nat.reduceLT, Nat.reduceLeDiff, Nat.reduceSub, Nat.reduceDiv, Nat.reduceBEq, Nat.reduceBneDiff, Nat.reduceBeqDiff])
  rintro ⟨i, a, b, q3⟩ ⟨hi, hq5⟩ J hJ
  simp only at hi hq5 hJ
  refine Sat.of (S := []) (by kernel_rfl) ?_
  have hh := specOrderHas_fn x y kind a b (by omega) hys
  obtain ⟨has, hhas⟩ : ∃ v, hasS x y kind a b = v := ⟨_, rfl⟩
  rw [hhas, progV_eq, Exe.V_eq] at hh
  have fin : ∀ (K : Prop), K → K := fun _ h => h
  by_cases h8 : (i : Int) < 8
  · simp (maxSteps := 1000000) (disch := omega) only [push_cast, go_sem, wpS_tt, wpS_tf, wpS_ft, wpS_ff, wpCond_tt, wpCond_ff, Nat.reducePow, Int.reduceEq, Int.reduceLT, Int.reduceLE, Int.reduceAdd, Int.reduceSub, Int.reduceMul, Int.reduceToNat, Int.reduceBEq, Int.reduceBNe, ↓reduceIte, reduceCtorEq, Nat.reduceEqDiff, Nat.reduceAdd, Nat.reduceMul, Nat.reduceLT, Nat.reduceLeDiff, Nat.reduceSub, Nat.reduceDiv, Nat.reduceBEq, Nat.reduceBneDiff, Nat.reduceBeqDiff, h8]
    refine callR.rd (pick_rd (bs.take 2000) hb.take g q3 (by omega) 6 (by omega)) rfl rfl rfl ?_
    rintro r o' ⟨v5, rfl, hv50, hv51, _, rfl⟩
    by_cases h5 : 0 < v5
    · simp (maxSteps := 1000000) (disch := omega) only [push_cast, go_sem, wpS_tt, wpS_tf, wpS_ft, wpS_ff, wpCond_tt, wpCond_ff, Nat.reducePow, Int.reduceEq, Int.reduceLT, Int.reduceLE, Int.reduceAdd, Int.reduceSub, Int.reduceMul, Int.reduceToNat, Int.reduceBEq, Int.reduceBNe, ↓reduceIte, reduceCtorEq, Nat.reduceEqDiff, Nat.reduceAdd, Nat.reduceMul, Nat.reduceLT, Nat.reduceLeDiff, Nat.reduceSub, Nat.reduceDiv, Nat.reduceBEq, Nat.reduceBneDiff, Nat.reduceBeqDiff, h5]
      refine callR.pure hh rfl rfl ?_
      cases has
      · simp (maxSteps := 1000000) (disch := omega) only [push_cast, go_sem, wpS_tt, wpS_tf, wpS_ft, wpS_ff, wpCond_tt, wpCond_ff, Nat.reducePow, Int.reduceEq, Int.reduceLT, Int.reduceLE, Int.reduceAdd, Int.reduceSub, Int.reduceMul, Int.reduceToNat, Int.reduceBEq, Int.reduceBNe, ↓reduceIte, reduceCtorEq, Nat.reduceEqDiff, Nat.reduceAdd, Nat.reduceMul, Nat.reduceLT, Nat.reduceLeDiff, Nat.reduceSub, Nat.reduceDiv, Nat.reduceBEq, Nat.reduceBneDiff, Nat.reduceBeqDiff]
        refine callR.rd (pick_rd (bs.take 2000) hb.take g (q3 + 1) (by omega) _ (by omega)) rfl rfl rfl ?_
        rintro r o' ⟨v6, rfl, hv60, _, _, rfl⟩
        simp (maxSteps := 1000000) (disch := omega) only [push_cast, go_sem, wpS_tt, wpS_tf, wpS_ft, wpS_ff, wpCond_tt, wpCond_ff, Nat.reducePow, Int.reduceEq, Int.reduceLT, Int.reduceLE, Int.reduceAdd, Int.reduceSub, Int.reduceMul, Int.reduceToNat, Int.reduceBEq, Int.reduceBNe, ↓reduceIte, reduceCtorEq, Nat.reduceEqDiff, Nat.reduceAdd, Nat.reduceMul, Nat.reduceLT, Nat.reduceLeDiff, Nat.reduceSub, Nat.reduceDiv, Nat.reduceBEq, Nat.reduceBneDiff, Nat.reduceBeqDiff]
        refine callR.rd (pick_rd (bs.take 2000) hb.take g (q3 + 1 + 1) (by omega) _ (by omega)) rfl rfl rfl ?_
        rintro r o' ⟨v7, rfl, hv70, _, _, rfl⟩
        simp (maxSteps := 1000000) (disch := omega) only [push_cast, go_sem, wpS_tt, wpS_tf, wpS_ft, wpS_ff, wpCond_tt, wpCond_ff, Nat.reducePow, Int.reduceEq, Int.reduceLT, Int.reduceLE, Int.reduceAdd, Int.reduceSub, Int.reduceMul, Int.reduceToNat, Int.reduceBEq, Int.reduceBNe, ↓reduceIte, reduceCtorEq, Nat.reduceEqDiff, Nat.reduceAdd, Nat.reduceMul, Nat.reduceLT, Nat.reduceLeDiff, Nat.reduceSub, Nat.reduceDiv, Nat.reduceBEq, Nat.reduceBneDiff, Nat.reduceBeqDiff]
        refine hJ (i + 1, v6, v7, q3 + 1 + 1 + 1) _ _ ⟨by dsimp only; omega, by dsimp only; omega⟩ (by dsimp only; omega) ?_
        (refine Less.start ?_; repeat (first | exact LessO.nil | exact LessO.all | refine LessO.skip (by decide) ?_ | refine LessO.upd ?_ ?_ | refine LessO.set ?_ ?_)) <;> (try simp (maxSteps := 1000000) (disch := omega) only [push_cast, go_sem, wpS_tt, wpS_tf, wpS_ft, wpS_ff, wpCond_tt, wpCond_ff, Nat.reducePow, Int.reduceEq, Int.reduceLT, Int.reduceLE, Int.reduceAdd, Int.reduceSub, Int.reduceMul, Int.reduceToNat, Int.reduceBEq, Int.reduceBNe, ↓reduceIte, reduceCtorEq, Nat.reduceEqDiff, Nat.reduceAdd, Nat.reduceMul, Nat.reduceLT, Nat.reduceLeDiff, Nat.reduceSub, Nat.reduceDiv, Nat.reduceBEq, Nat.reduceBneDiff, Nat.reduceBeqDiff])
      · simp (maxSteps := 1000000) (disch := omega) only [push_cast, go_sem, wpS_tt, wpS_tf, wpS_ft, wpS_ff, wpCond_tt, wpCond_ff, Nat.reducePow, Int.reduceEq, Int.reduceLT, Int.reduceLE, Int.reduceAdd, Int.reduceSub, Int.reduceMul, Int.reduceToNat, Int.reduceBEq, Int.reduceBNe, ↓reduceIte, reduceCtorEq, Nat.reduceEqDiff, Nat.reduceAdd, Nat.reduceMul, Nat.reduceLT, Nat.reduceLeDiff, Nat.reduceSub, Nat.reduceDiv, Nat.reduceBEq, Nat.reduceBneDiff, Nat.reduceBeqDiff]
        refine Sat.drawnE [(1, 5)] [] [0, 1] (fun _ _ _ => none) (by kernel_rfl) (by kernel_rfl) ?_
        simp (maxSteps := 1000000) (disch := omega) only [push_cast, go_sem, wpS_tt, wpS_tf, wpS_ft, wpS_ff, wpCond_tt, wpCond_ff, Nat.reducePow, Int.reduceEq, Int.reduceLT, Int.reduceLE, Int.reduceAdd, Int.reduceSub, Int.reduceMul, Int.reduceToNat, Int.reduceBEq, Int.reduceBNe, ↓reduceIte, reduceCtorEq, Nat.reduceEqDiff, Nat.reduceAdd, Nat.reduceMul, Nat.reduceLT, Nat.reduceLeDiff, Nat.reduceSub, Nat.reduceDiv, Nat.reduceBEq, Nat.reduceBneDiff, Nat.reduceBeqDiff]
        exact ⟨x, y, kind, a, b, rfl, hx1, hx2, hys⟩
    · simp (maxSteps := 1000000) (disch := omega) only [push_cast, go_sem, wpS_tt, wpS_tf, wpS_ft, wpS_ff, wpCond_tt, wpCond_ff, Nat.reducePow, Int.reduceEq, Int.reduceLT, Int.reduceLE, Int.reduceAdd, Int.reduceSub, Int.reduceMul, Int.reduceToNat, Int.reduceBEq, Int.reduceBNe, ↓reduceIte, reduceCtorEq, Nat.reduceEqDiff, Nat.reduceAdd, Nat.reduceMul, Nat.reduceLT, Nat.reduceLeDiff, Nat.reduceSub, Nat.reduceDiv, Nat.reduceBEq, Nat.reduceBneDiff, Nat.reduceBeqDiff, h5]
      refine Sat.drawnE [(1, 5)] [] [0, 1] (fun _ _ _ => none) (by kernel_rfl) (by kernel_rfl) ?_
      simp (maxSteps := 1000000) (disch := omega) only [push_cast, go_sem, wpS_tt, wpS_tf, wpS_ft, wpS_ff, wpCond_tt, wpCond_ff, Nat.reducePow, Int.reduceEq, Int.reduceLT, Int.reduceLE, Int.reduceAdd, Int.reduceSub, Int.reduceMul, Int.reduceToNat, Int.reduceBEq, Int.reduceBNe, ↓reduceIte, reduceCtorEq, Nat.reduceEqDiff, Nat.reduceAdd, Nat.reduceMul, Nat.reduceLT, Nat.reduceLeDiff, Nat.reduceSub, Nat.reduceDiv, Nat.reduceBEq, Nat.reduceBneDiff, Nat.reduceBeqDiff]
      exact ⟨x, y, kind, a, b, rfl, hx1, hx2, hys⟩
  · simp (maxSteps := 1000000) (disch := omega) only [push_cast, go_sem, wpS_tt, wpS_tf, wpS_ft, wpS_ff, wpCond_tt, wpCond_ff, Nat.reducePow, Int.reduceEq, Int.reduceLT, Int.reduceLE, Int.reduceAdd, Int.reduceSub, Int.reduceMul, Int.reduceToNat, Int.reduceBEq, Int.reduceBNe, ↓reduceIte, reduceCtorEq, Nat.reduceEqDiff, Nat.reduceAdd, Nat.reduceMul, Nat.reduceLT, Nat.reduceLeDiff, Nat.reduceSub, Nat.reduceDiv, Nat.reduceBEq, Nat.reduceBneDiff, Nat.reduceBeqDiff, h8]
    refine Sat.drawnE [(1, 5)] [] [0, 1] (fun _ _ _ => none) (by kernel_rfl) (by kernel_rfl) ?_
    simp (maxSteps := 1000000) (disch := omega) only [push_cast, go_sem, wpS_tt, wpS_tf, wpS_ft, wpS_ff, wpCond_tt, wpCond_ff, Nat.reducePow, Int.reduceEq, Int.reduceLT, Int.reduceLE, Int.reduceAdd, Int.reduceSub, Int.reduceMul, Int.reduceToNat, Int.reduceBEq, Int.reduceBNe, ↓reduceIte, reduceCtorEq, Nat.reduceEqDiff, Nat.reduceAdd, Nat.reduceMul, Nat.reduceLT, Nat.reduceLeDiff, Nat.reduceSub, Nat.reduceDiv, Nat.reduceBEq, Nat.reduceBneDiff, Nat.reduceBeqDiff]
    exact ⟨x, y, kind, a, b, rfl, hx1, hx2, hys⟩
end Go.Proofs.Ytmmipjlogdggiaa
/-! ## The laws FnOrderHas and FnOrderNested -/
namespace Go.Proofs.Ytmmipjlogdggiaa
open Go.RowKit
set_option linter.unusedSimpArgs false
set_option linter.unusedVariables false
set_option pp.maxSteps 3000

theorem own_self (es : List Evt) (a : Nat) : ownB es a a = false := by simp [ownB]
theorem hasS_self (p : Prog) (x : Exe) (kind a : Int) : hasS p x kind a a = false := by
  have h1 : staysS p kind a.toNat a.toNat = false := by
    simp only [staysS, looseS, own_self, Bool.false_and]
    split
    · rfl
    · split
      · rfl
      · split <;> rfl
  have h2 : readS p x a.toNat a.toNat = false := by
    rw [readS]
    cases hw : (dsA p a.toNat).writes
    · rfl
    · rw [writes_noreads hw]; rfl
  have h3 : overS p x a.toNat a.toNat = false := by simp [overS]
  have h4 : toldS p x kind a.toNat a.toNat = false := by
    simp only [toldS, h2, h3, Bool.and_false, Bool.or_false]
    split
    · rfl
    · split <;> rfl
  simp [hasS, h1, h4]
theorem hasS_late {p : Prog} {x : Exe} {a b : Int} (h : hasS p x 2 a b = true) : hasS p x 1 a b = true := by
  simp only [hasS, Bool.and_eq_true, Bool.or_eq_true] at h ⊢
  obtain ⟨⟨⟨⟨h0, _⟩, h1⟩, h2⟩, h3⟩ := h
  refine ⟨⟨⟨⟨h0, rfl⟩, h1⟩, h2⟩, ?_⟩
  have e1 : staysS p 2 a.toNat b.toNat = (ownB (events p) a.toNat b.toNat && !((dsA p a.toNat).writes && (dsA p b.toNat).reads)) := rfl
  have e2 : staysS p 1 a.toNat b.toNat = ownB (events p) a.toNat b.toNat := rfl
  have e3 : toldS p x 2 a.toNat b.toNat = ((apartS p a.toNat b.toNat && readS p x a.toNat b.toNat) || overS p x a.toNat b.toNat) := rfl
  have e4 : toldS p x 1 a.toNat b.toNat = (readS p x a.toNat b.toNat || overS p x a.toNat b.toNat) := rfl
  rw [e1, e3] at h3
  rw [e2, e4]
  simp only [Bool.and_eq_true, Bool.or_eq_true] at h3 ⊢
  rcases h3 with h3 | h3 | h3
  · exact .inl h3.1
  · exact .inr (.inl h3.2)
  · exact .inr (.inr h3)
theorem loose_late {p : Prog} {a b : Nat} (h : looseS p a b = true) : ((dsA p a).writes && (dsA p b).reads) = false := by
  have hw : (dsA p a).writes = true → (dsA p a).k = 1 ∨ (dsA p a).k = 3 ∨ (dsA p a).k = 6 := fun h => by simpa [Do.writes, or_assoc] using h
  have hr : (dsA p b).reads = true → (dsA p b).k = 2 ∨ (dsA p b).k = 5 := fun h => by simpa [Do.reads] using h
  rw [Bool.eq_false_iff]
  intro hh
  rw [Bool.and_eq_true] at hh
  have k1 := hw hh.1
  have k2 := hr hh.2
  have e1 : kd (scene p).ds a = (dsA p a).k := rfl
  have e2 : kd (scene p).ds b = (dsA p b).k := rfl
  simp only [looseS, wallB, insS, Bool.and_eq_true, Bool.or_eq_true, beq_iff_eq, e1, e2] at h
  omega
theorem hasS_loose {p : Prog} {x : Exe} {a b : Int} (h : hasS p x 3 a b = true) : hasS p x 2 a b = true := by
  simp only [hasS, Bool.and_eq_true, Bool.or_eq_true] at h ⊢
  obtain ⟨⟨⟨⟨h0, _⟩, h1⟩, h2⟩, h3⟩ := h
  refine ⟨⟨⟨⟨h0, rfl⟩, h1⟩, h2⟩, ?_⟩
  have e1 : staysS p 2 a.toNat b.toNat = (ownB (events p) a.toNat b.toNat && !((dsA p a.toNat).writes && (dsA p b.toNat).reads)) := rfl
  have e2 : staysS p 3 a.toNat b.toNat = looseS p a.toNat b.toNat := rfl
  have e3 : toldS p x 2 a.toNat b.toNat = ((apartS p a.toNat b.toNat && readS p x a.toNat b.toNat) || overS p x a.toNat b.toNat) := rfl
  have e4 : toldS p x 3 a.toNat b.toNat = (apartS p a.toNat b.toNat && (readS p x a.toNat b.toNat || overS p x a.toNat b.toNat)) := rfl
  rw [e2, e4] at h3
  rw [e1, e3]
  rcases h3 with h3 | h3
  · left
    rw [loose_late h3]
    simp only [looseS, Bool.and_eq_true] at h3
    simp [h3.1]
  · right
    simp only [Bool.and_eq_true, Bool.or_eq_true] at h3 ⊢
    rcases h3 with ⟨h3, h4 | h4⟩
    · exact .inl ⟨h3, h4⟩
    · exact .inr h4
theorem lawOrderHas_fn (bs : List Int) (hb : Code8 bs) : Fp Try.prog 4 [codeV bs] (.bool true) := by
  refine Fc.start (S := []) Try.func4 Try.ntmps4 Try.results4 rfl (by decide) rfl (by kernel_rfl) ?_
  by_cases h : (1048576 : Int) < bs.length
  · simp (maxSteps := 1000000) (disch := omega) only [push_cast, go_sem, wpS_tt, wpS_tf, wpS_ft, wpS_ff, wpCond_tt, wpCond_ff, Nat.reducePow, Int.reduceEq, Int.reduceLT, Int.reduceLE, Int.reduceAdd, Int.reduceSub, Int.reduceMul, Int.reduceToNat, Int.reduceBEq, Int.reduceBNe, ↓reduceIte, reduceCtorEq, Nat.reduceEqDiff, Nat.reduceAdd, Nat.reduceMul, Nat.reduceLT, Nat.reduceLeDiff, Nat.reduceSub, Nat.reduceDiv, Nat.reduceBEq, Nat.reduceBneDiff, Nat.reduceBeqDiff, codeV_eq, h]
  simp (maxSteps := 1000000) (disch := omega) only [push_cast, go_sem, wpS_tt, wpS_tf, wpS_ft, wpS_ff, wpCond_tt, wpCond_ff, Nat.reducePow, Int.reduceEq, Int.reduceLT, Int.reduceLE, Int.reduceAdd, Int.reduceSub, Int.reduceMul, Int.reduceToNat, Int.reduceBEq, Int.reduceBNe, ↓reduceIte, reduceCtorEq, Nat.reduceEqDiff, Nat.reduceAdd, Nat.reduceMul, Nat.reduceLT, Nat.reduceLeDiff, Nat.reduceSub, Nat.reduceDiv, Nat.reduceBEq, Nat.reduceBneDiff, Nat.reduceBeqDiff, codeV_eq, h]
  refine callR.ex (DrawOrderHas_fn bs hb (by omega)) rfl rfl ?_
  rintro r ⟨p, x, kind, a, b, rfl, hp, hl, hx⟩
  have hl' : ∀ l ∈ p, l.length < 2 ^ 40 := fun l h => by have := hl l h; omega
  have h1 := implOrderHas_fn p x kind a b (by omega) hl' hx
  have h2 := specOrderHas_fn p x kind a b (by omega) hx
  have h3 := implOrderHas_fn p x kind a a (by omega) hl' hx
  rw [hasS_self] at h3
  obtain ⟨v, hv⟩ : ∃ v, hasS p x kind a b = v := ⟨_, rfl⟩
  rw [hv] at h1 h2
  simp (maxSteps := 1000000) (disch := omega) only [push_cast, go_sem, wpS_tt, wpS_tf, wpS_ft, wpS_ff, wpCond_tt, wpCond_ff, Nat.reducePow, Int.reduceEq, Int.reduceLT, Int.reduceLE, Int.reduceAdd, Int.reduceSub, Int.reduceMul, Int.reduceToNat, Int.reduceBEq, Int.reduceBNe, ↓reduceIte, reduceCtorEq, Nat.reduceEqDiff, Nat.reduceAdd, Nat.reduceMul, Nat.reduceLT, Nat.reduceLeDiff, Nat.reduceSub, Nat.reduceDiv, Nat.reduceBEq, Nat.reduceBneDiff, Nat.reduceBeqDiff, progV_eq, Exe.V_eq]
  intro g3 g4
  refine callR.pure h1 rfl rfl ?_
  simp (maxSteps := 1000000) (disch := omega) only [push_cast, go_sem, wpS_tt, wpS_tf, wpS_ft, wpS_ff, wpCond_tt, wpCond_ff, Nat.reducePow, Int.reduceEq, Int.reduceLT, Int.reduceLE, Int.reduceAdd, Int.reduceSub, Int.reduceMul, Int.reduceToNat, Int.reduceBEq, Int.reduceBNe, ↓reduceIte, reduceCtorEq, Nat.reduceEqDiff, Nat.reduceAdd, Nat.reduceMul, Nat.reduceLT, Nat.reduceLeDiff, Nat.reduceSub, Nat.reduceDiv, Nat.reduceBEq, Nat.reduceBneDiff, Nat.reduceBeqDiff]
  refine callR.pure h2 rfl rfl ?_
  have hvv : (v == v) = true := by simp
  simp (maxSteps := 1000000) (disch := omega) only [push_cast, go_sem, wpS_tt, wpS_tf, wpS_ft, wpS_ff, wpCond_tt, wpCond_ff, Nat.reducePow, Int.reduceEq, Int.reduceLT, Int.reduceLE, Int.reduceAdd, Int.reduceSub, Int.reduceMul, Int.reduceToNat, Int.reduceBEq, Int.reduceBNe, ↓reduceIte, reduceCtorEq, Nat.reduceEqDiff, Nat.reduceAdd, Nat.reduceMul, Nat.reduceLT, Nat.reduceLeDiff, Nat.reduceSub, Nat.reduceDiv, Nat.reduceBEq, Nat.reduceBneDiff, Nat.reduceBeqDiff, hvv]
  refine callR.pure h3 rfl rfl ?_
  simp (maxSteps := 1000000) (disch := omega) only [push_cast, go_sem, wpS_tt, wpS_tf, wpS_ft, wpS_ff, wpCond_tt, wpCond_ff, Nat.reducePow, Int.reduceEq, Int.reduceLT, Int.reduceLE, Int.reduceAdd, Int.reduceSub, Int.reduceMul, Int.reduceToNat, Int.reduceBEq, Int.reduceBNe, ↓reduceIte, reduceCtorEq, Nat.reduceEqDiff, Nat.reduceAdd, Nat.reduceMul, Nat.reduceLT, Nat.reduceLeDiff, Nat.reduceSub, Nat.reduceDiv, Nat.reduceBEq, Nat.reduceBneDiff, Nat.reduceBeqDiff]
theorem lawOrderNested_fn (bs : List Int) (hb : Code8 bs) : Fp Try.prog 5 [codeV bs] (.bool true) := by
  refine Fc.start (S := []) Try.func5 Try.ntmps5 Try.results5 rfl (by decide) rfl (by kernel_rfl) ?_
  by_cases h : (1048576 : Int) < bs.length
  · simp (maxSteps := 1000000) (disch := omega) only [push_cast, go_sem, wpS_tt, wpS_tf, wpS_ft, wpS_ff, wpCond_tt, wpCond_ff, Nat.reducePow, Int.reduceEq, Int.reduceLT, Int.reduceLE, Int.reduceAdd, Int.reduceSub, Int.reduceMul, Int.reduceToNat, Int.reduceBEq, Int.reduceBNe, ↓reduceIte, reduceCtorEq, Nat.reduceEqDiff, Nat.reduceAdd, Nat.reduceMul, Nat.reduceLT, Nat.reduceLeDiff, Nat.reduceSub, Nat.reduceDiv, Nat.reduceBEq, Nat.reduceBneDiff, Nat.reduceBeqDiff, codeV_eq, h]
  simp (maxSteps := 1000000) (disch := omega) only [push_cast, go_sem, wpS_tt, wpS_tf, wpS_ft, wpS_ff, wpCond_tt, wpCond_ff, Nat.reducePow, Int.reduceEq, Int.reduceLT, Int.reduceLE, Int.reduceAdd, Int.reduceSub, Int.reduceMul, Int.reduceToNat, Int.reduceBEq, Int.reduceBNe, ↓reduceIte, reduceCtorEq, Nat.reduceEqDiff, Nat.reduceAdd, Nat.reduceMul, Nat.reduceLT, Nat.reduceLeDiff, Nat.reduceSub, Nat.reduceDiv, Nat.reduceBEq, Nat.reduceBneDiff, Nat.reduceBeqDiff, codeV_eq, h]
  refine callR.ex (DrawOrderHas_fn bs hb (by omega)) rfl rfl ?_
  rintro r ⟨p, x, kind, a, b, rfl, hp, hl, hx⟩
  have hl' : ∀ l ∈ p, l.length < 2 ^ 40 := fun l h => by have := hl l h; omega
  have h1 := implOrderHas_fn p x kind a b (by omega) hl' hx
  have h2 := specOrderHas_fn p x kind a b (by omega) hx
  have h3 := implOrderHas_fn p x 1 a b (by omega) hl' hx
  have h4 := implOrderHas_fn p x 2 a b (by omega) hl' hx
  have h5 := implOrderHas_fn p x 3 a b (by omega) hl' hx
  have i1 := hasS_late (p := p) (x := x) (a := a) (b := b)
  have i2 := hasS_loose (p := p) (x := x) (a := a) (b := b)
  obtain ⟨v, hv⟩ : ∃ v, hasS p x kind a b = v := ⟨_, rfl⟩
  obtain ⟨v1, hv1⟩ : ∃ v, hasS p x 1 a b = v := ⟨_, rfl⟩
  obtain ⟨v2, hv2⟩ : ∃ v, hasS p x 2 a b = v := ⟨_, rfl⟩
  obtain ⟨v3, hv3⟩ : ∃ v, hasS p x 3 a b = v := ⟨_, rfl⟩
  rw [hv] at h1 h2
  rw [hv1] at h3 i1
  rw [hv2] at h4 i1 i2
  rw [hv3] at h5 i2
  simp (maxSteps := 1000000) (disch := omega) only [push_cast, go_sem, wpS_tt, wpS_tf, wpS_ft, wpS_ff, wpCond_tt, wpCond_ff, Nat.reducePow, Int.reduceEq, Int.reduceLT, Int.reduceLE, Int.reduceAdd, Int.reduceSub, Int.reduceMul, Int.reduceToNat, Int.reduceBEq, Int.reduceBNe, ↓reduceIte, reduceCtorEq, Nat.reduceEqDiff, Nat.reduceAdd, Nat.reduceMul, Nat.reduceLT, Nat.reduceLeDiff, Nat.reduceSub, Nat.reduceDiv, Nat.reduceBEq, Nat.reduceBneDiff, Nat.reduceBeqDiff, progV_eq, Exe.V_eq]
  intro g3 g4
  refine Sat.drawnE [] [] (List.range 13) (pureT [(12, .bool v), (13, .bool v)]) (by kernel_rfl) (by kernel_rfl) ?_
  simp (maxSteps := 1000000) (disch := omega) only [push_cast, go_sem, wpS_tt, wpS_tf, wpS_ft, wpS_ff, wpCond_tt, wpCond_ff, Nat.reducePow, Int.reduceEq, Int.reduceLT, Int.reduceLE, Int.reduceAdd, Int.reduceSub, Int.reduceMul, Int.reduceToNat, Int.reduceBEq, Int.reduceBNe, ↓reduceIte, reduceCtorEq, Nat.reduceEqDiff, Nat.reduceAdd, Nat.reduceMul, Nat.reduceLT, Nat.reduceLeDiff, Nat.reduceSub, Nat.reduceDiv, Nat.reduceBEq, Nat.reduceBneDiff, Nat.reduceBeqDiff]
  refine runD_pure rfl h1 rfl rfl ?_ ?_
  · rfl
  simp (maxSteps := 1000000) (disch := omega) only [push_cast, go_sem, wpS_tt, wpS_tf, wpS_ft, wpS_ff, wpCond_tt, wpCond_ff, Nat.reducePow, Int.reduceEq, Int.reduceLT, Int.reduceLE, Int.reduceAdd, Int.reduceSub, Int.reduceMul, Int.reduceToNat, Int.reduceBEq, Int.reduceBNe, ↓reduceIte, reduceCtorEq, Nat.reduceEqDiff, Nat.reduceAdd, Nat.reduceMul, Nat.reduceLT, Nat.reduceLeDiff, Nat.reduceSub, Nat.reduceDiv, Nat.reduceBEq, Nat.reduceBneDiff, Nat.reduceBeqDiff]
  refine runD_pure rfl h2 rfl rfl ?_ ?_
  · rfl
  have hvv : (v != v) = false := by simp
  simp (maxSteps := 1000000) (disch := omega) only [push_cast, go_sem, wpS_tt, wpS_tf, wpS_ft, wpS_ff, wpCond_tt, wpCond_ff, Nat.reducePow, Int.reduceEq, Int.reduceLT, Int.reduceLE, Int.reduceAdd, Int.reduceSub, Int.reduceMul, Int.reduceToNat, Int.reduceBEq, Int.reduceBNe, ↓reduceIte, reduceCtorEq, Nat.reduceEqDiff, Nat.reduceAdd, Nat.reduceMul, Nat.reduceLT, Nat.reduceLeDiff, Nat.reduceSub, Nat.reduceDiv, Nat.reduceBEq, Nat.reduceBneDiff, Nat.reduceBeqDiff, hvv]
  refine callR.pure h4 rfl rfl ?_
  cases v2
  · have : v3 = false := by
      cases v3
      · rfl
      · exact absurd (i2 rfl) (by simp)
    subst this
    simp (maxSteps := 1000000) (disch := omega) only [push_cast, go_sem, wpS_tt, wpS_tf, wpS_ft, wpS_ff, wpCond_tt, wpCond_ff, Nat.reducePow, Int.reduceEq, Int.reduceLT, Int.reduceLE, Int.reduceAdd, Int.reduceSub, Int.reduceMul, Int.reduceToNat, Int.reduceBEq, Int.reduceBNe, ↓reduceIte, reduceCtorEq, Nat.reduceEqDiff, Nat.reduceAdd, Nat.reduceMul, Nat.reduceLT, Nat.reduceLeDiff, Nat.reduceSub, Nat.reduceDiv, Nat.reduceBEq, Nat.reduceBneDiff, Nat.reduceBeqDiff]
    refine callR.pure h5 rfl rfl ?_
    simp (maxSteps := 1000000) (disch := omega) only [push_cast, go_sem, wpS_tt, wpS_tf, wpS_ft, wpS_ff, wpCond_tt, wpCond_ff, Nat.reducePow, Int.reduceEq, Int.reduceLT, Int.reduceLE, Int.reduceAdd, Int.reduceSub, Int.reduceMul, Int.reduceToNat, Int.reduceBEq, Int.reduceBNe, ↓reduceIte, reduceCtorEq, Nat.reduceEqDiff, Nat.reduceAdd, Nat.reduceMul, Nat.reduceLT, Nat.reduceLeDiff, Nat.reduceSub, Nat.reduceDiv, Nat.reduceBEq, Nat.reduceBneDiff, Nat.reduceBeqDiff]
  · have : v1 = true := i1 rfl
    subst this
    simp (maxSteps := 1000000) (disch := omega) only [push_cast, go_sem, wpS_tt, wpS_tf, wpS_ft, wpS_ff, wpCond_tt, wpCond_ff, Nat.reducePow, Int.reduceEq, Int.reduceLT, Int.reduceLE, Int.reduceAdd, Int.reduceSub, Int.reduceMul, Int.reduceToNat, Int.reduceBEq, Int.reduceBNe, ↓reduceIte, reduceCtorEq, Nat.reduceEqDiff, Nat.reduceAdd, Nat.reduceMul, Nat.reduceLT, Nat.reduceLeDiff, Nat.reduceSub, Nat.reduceDiv, Nat.reduceBEq, Nat.reduceBneDiff, Nat.reduceBeqDiff]
    refine callR.pure h3 rfl rfl ?_
    simp (maxSteps := 1000000) (disch := omega) only [push_cast, go_sem, wpS_tt, wpS_tf, wpS_ft, wpS_ff, wpCond_tt, wpCond_ff, Nat.reducePow, Int.reduceEq, Int.reduceLT, Int.reduceLE, Int.reduceAdd, Int.reduceSub, Int.reduceMul, Int.reduceToNat, Int.reduceBEq, Int.reduceBNe, ↓reduceIte, reduceCtorEq, Nat.reduceEqDiff, Nat.reduceAdd, Nat.reduceMul, Nat.reduceLT, Nat.reduceLeDiff, Nat.reduceSub, Nat.reduceDiv, Nat.reduceBEq, Nat.reduceBneDiff, Nat.reduceBeqDiff]
    refine callR.pure h5 rfl rfl ?_
    cases v3 <;> simp (maxSteps := 1000000) (disch := omega) only [push_cast, go_sem, wpS_tt, wpS_tf, wpS_ft, wpS_ff, wpCond_tt, wpCond_ff, Nat.reducePow, Int.reduceEq, Int.reduceLT, Int.reduceLE, Int.reduceAdd, Int.reduceSub, Int.reduceMul, Int.reduceToNat, Int.reduceBEq, Int.reduceBNe, ↓reduceIte, reduceCtorEq, Nat.reduceEqDiff, Nat.reduceAdd, Nat.reduceMul, Nat.reduceLT, Nat.reduceLeDiff, Nat.reduceSub, Nat.reduceDiv, Nat.reduceBEq, Nat.reduceBneDiff, Nat.reduceBeqDiff]
end Go.Proofs.Ytmmipjlogdggiaa
/-! ## Rows: what all laws of a code share -/
namespace Go.Proofs.Ytmmipjlogdggiaa
open Go.ChangeShapes Go.WideShapes Go.ChangeAt Go.RowKit
set_option linter.unusedSimpArgs false
set_option linter.unusedVariables false

theorem own : ownKnob Try.prog.godebug = none := by kernel_rfl
theorem laidOut' : laidOutB Try.prog = true := by kernel_rfl
theorem cells8 : Try.prog.cellsOf 5 = 1 := by kernel_rfl

/-- A row of bytes that is never written again. -/
theorem code_rp {imm : Nat → Prop} {W : World} {b off len cap : Nat} {zs : List Int} (hlz : len ≤ zs.length) (hl : len ≤ cap) (hi : imm b) (hcell : ∀ i, i < zs.length → W.cell? ⟨b, off + i, none⟩ = some (.int .u8 (zs.getD i 0))) :
    Rp imm W (codeV (zs.take len)) (.slice (some ⟨b, off, none⟩) len cap) := by
  by_cases h0 : len = 0
  · subst h0; exact .sl0 _ _
  have hc0 := hcell 0 (by omega)
  unfold World.cell? at hc0
  split at hc0
  · rename_i cur t fr hg
    have hln : (zs.take len).length = len := by rw [List.length_take]; omega
    have e : ((zs.take len).map (V.int .u8)).length = len := by rw [List.length_map]; exact hln
    have get : ∀ (i : Nat) (x : V), ((zs.take len).map (V.int .u8))[i]? = some x → x = .int .u8 (zs.getD i 0) ∧ i < len := by
      intro i x hx
      have hlt : i < len := by have := (List.getElem?_eq_some_iff.1 hx).1; omega
      rw [List.getElem?_map, List.getElem?_take_of_lt hlt] at hx
      obtain ⟨y, hy, rfl⟩ := Option.map_eq_some_iff.1 hx
      exact ⟨by rw [List.getD, hy]; rfl, hlt⟩
    have := Rp.sl (imm := imm) (w := W) ((zs.take len).map (V.int .u8)) b off cap 1 cur t fr (fun i _ => .int .u8 (zs.getD i 0)) hi hg (by omega)
      (fun i x hx => by rw [(get i x hx).1]; rfl)
      (fun i x j c hx hc => by
        obtain ⟨rfl, hlt⟩ := get i x hx
        have hj : j = 0 := by
          cases j with
          | zero => rfl
          | succ j => simp [V.cells] at hc
        subst hj
        have := hcell i (by omega)
        unfold World.cell? at this
        simp only [hg] at this
        simpa using this)
      (fun i x j c hx hc => by
        obtain ⟨rfl, hlt⟩ := get i x hx
        have hj : j = 0 := by
          cases j with
          | zero => rfl
          | succ j => simp [V.cells] at hc
        subst hj
        simp [V.cells] at hc
        subst hc
        exact .int _ _)
    rw [e] at this
    exact this
  · cases hc0

/-- A law of one code: what its contract says of the world. -/
theorem law_calls {f : FuncId} {W : World} {x : V} {v : Value} {imm : Nat → Prop} (h : Fp Try.prog f [x] (.bool true)) (hi : ∀ g, imm g → g < W.heap.size) (hx : Rp imm W x v) :
    Calls Try.prog f #[v] W fun e w' => e = .returned (.bool true) ∧ Below W.heap.size W w' := by
  refine (h.fn imm W #[v] inv_no hi rfl ?_).mono ?_
  · intro j c u hj hu
    cases j with
    | zero => simp at hj hu; subst hj; subst hu; exact hx
    | succ j => simp at hj
  · rintro e w' ⟨r, r', m, imm', rfl, ⟨rfl, rfl⟩, h3, h4⟩
    rw [h3.bool_inv]
    exact ⟨rfl, h4.os, h4.tape, h4.output, h4.size, fun k hk => (h4.block k hk not_owns_no).1⟩
end Go.Proofs.Ytmmipjlogdggiaa
