/-
  Contracts of the reference: whether a way is one. Calls that take two rows and hand over one; all that may be told of whom events read from, by the reference. All rows of numbers, by the reference. All that may be told of the order at places, by the reference. All ways, by the reference.
-/
import Derived.Test.YtmmipjlogdggiaaMc
/-! ## Contracts of the reference: whether a way is one -/
namespace Go.Proofs.Ytmmipjlogdggiaa
open Go.RowKit
set_option linter.unusedSimpArgs false
set_option linter.unusedVariables false
set_option pp.maxSteps 3000

def endS (p : Prog) (fr : List Int) (i : Nat) : Bool := !decide (valS (events p) (scene p).ds fr (2 * (events p).length + 2) i < 0)
def endsS (p : Prog) (x : Exe) : Bool := (List.range (events p).length).all (endS p x.fr)
theorem range_get {n k : Nat} (h : k < n) : (List.range n)[k]? = some k := by simp [h]
theorem l12Ends_fn (p : Prog) (x : Exe) (hn : (events p).length ≤ 42) (hfl : x.fr.length = (events p).length) (hfr : ∀ f ∈ x.fr, f < (events p).length) :
    Fp Try.prog 22 [progV p, .sl ((events p).map Evt.V), x.V] (.bool (endsS p x)) := by
  refine Fc.start (S := [6]) Try.func22 Try.ntmps22 Try.results22 rfl (by decide) rfl (by kernel_rfl) ?_
  simp (maxSteps := 1000000) (disch := omega) only [push_cast, go_sem, wpS_tt, wpS_tf, wpS_ft, wpS_ff, wpCond_tt, wpCond_ff, Nat.reducePow, Int.reduceEq, Int.reduceLT, Int.reduceLE, Int.reduceAdd, Int.reduceSub, Int.reduceMul, Int.reduceToNat, Int.reduceBEq, Int.reduceBNe, ↓reduceIte, reduceCtorEq, Nat.reduceEqDiff, Nat.reduceAdd, Nat.reduceMul, Nat.reduceLT, Nat.reduceLeDiff, Nat.reduceSub, Nat.reduceDiv, Nat.reduceBEq, Nat.reduceBneDiff, Nat.reduceBeqDiff, progV_eq, Exe.V_eq]
  intro g1 g2
  refine Sat.loop (σ := Nat) (fun k => upd (upd (upd (upd noT 3 (.ptr 3 [] 0 0 g1 1)) 5 (.ptr 5 [] 0 0 g2 2)) 1 (.sl ((events p).map Evt.V))) 7 (.int .i64 k))
    (fun _ => (noM.set 3 (.own 25 (some g1) 1 [.agg [.sl (p.map thrV)]])).set 5 (.own 29 (some g2) 1 [.agg [.sl (x.fr.map (V.int .i64)), .sl (x.od.map intsV)]]))
    (fun k => k ≤ (events p).length ∧ ((List.range (events p).length).take k).all (endS p x.fr) = true) (fun k => (events p).length - k) 0 (by simp) ?_ ?_
  · (refine Less.start ?_; repeat (first | exact LessO.nil | exact LessO.all | refine LessO.skip (by decide) ?_ | refine LessO.upd ?_ ?_ | refine LessO.set ?_ ?_)) <;> (try simp (maxSteps := 1000000) (disch := omega) only [push_cast, go_sem, wpS_tt, wpS_tf, wpS_ft, wpS_ff, wpCond_tt, wpCond_ff, Nat.reducePow, Int.reduceEq, Int.reduceLT, Int.reduceLE, Int.reduceAdd, Int.reduceSub, Int.reduceMul, Int.reduceToNat, Int.reduceBEq, Int.reduceBNe, ↓reduceIte, reduceCtorEq, Nat.reduceEqDiff, Nat.reduceAdd, Nat.reduceMul, Nat.reduceLT, Nat.reduceLeDiff, Nat.reduceSub, Nat.reduceDiv, Nat.reduceBEq, Nat.reduceBneDiff, Nat.reduceBeqDiff])
  rintro k ⟨hk, hall⟩ J hJ
  refine Sat.of (S := []) (by kernel_rfl) ?_
  rcases Nat.lt_or_ge k (events p).length with hlt | hge
  · have hv := l12Val_fn p x hn hfl hfr (2 * (events p).length + 2) k (by omega) (by omega)
    rw [show ((2 * (events p).length + 2 : Nat) : Int) = 2 * ((events p).length : Int) + 2 by omega] at hv
    simp (maxSteps := 1000000) (disch := omega) only [push_cast, go_sem, wpS_tt, wpS_tf, wpS_ft, wpS_ff, wpCond_tt, wpCond_ff, Nat.reducePow, Int.reduceEq, Int.reduceLT, Int.reduceLE, Int.reduceAdd, Int.reduceSub, Int.reduceMul, Int.reduceToNat, Int.reduceBEq, Int.reduceBNe, ↓reduceIte, reduceCtorEq, Nat.reduceEqDiff, Nat.reduceAdd, Nat.reduceMul, Nat.reduceLT, Nat.reduceLeDiff, Nat.reduceSub, Nat.reduceDiv, Nat.reduceBEq, Nat.reduceBneDiff, Nat.reduceBeqDiff, hlt]
    refine callR.pure hv rfl rfl ?_
    by_cases h0 : valS (events p) (scene p).ds x.fr (2 * (events p).length + 2) k < 0
    · simp (maxSteps := 1000000) (disch := omega) only [push_cast, go_sem, wpS_tt, wpS_tf, wpS_ft, wpS_ff, wpCond_tt, wpCond_ff, Nat.reducePow, Int.reduceEq, Int.reduceLT, Int.reduceLE, Int.reduceAdd, Int.reduceSub, Int.reduceMul, Int.reduceToNat, Int.reduceBEq, Int.reduceBNe, ↓reduceIte, reduceCtorEq, Nat.reduceEqDiff, Nat.reduceAdd, Nat.reduceMul, Nat.reduceLT, Nat.reduceLeDiff, Nat.reduceSub, Nat.reduceDiv, Nat.reduceBEq, Nat.reduceBneDiff, Nat.reduceBeqDiff, h0]
      rw [endsS, allp_no (range_get hlt) (by simp [endS, h0])]
    · simp (maxSteps := 1000000) (disch := omega) only [push_cast, go_sem, wpS_tt, wpS_tf, wpS_ft, wpS_ff, wpCond_tt, wpCond_ff, Nat.reducePow, Int.reduceEq, Int.reduceLT, Int.reduceLE, Int.reduceAdd, Int.reduceSub, Int.reduceMul, Int.reduceToNat, Int.reduceBEq, Int.reduceBNe, ↓reduceIte, reduceCtorEq, Nat.reduceEqDiff, Nat.reduceAdd, Nat.reduceMul, Nat.reduceLT, Nat.reduceLeDiff, Nat.reduceSub, Nat.reduceDiv, Nat.reduceBEq, Nat.reduceBneDiff, Nat.reduceBeqDiff, h0]
      refine hJ (k + 1) _ _ ⟨by omega, allp_take (range_get hlt) hall (by simp [endS, h0])⟩ (by omega) ?_
      (refine Less.start ?_; repeat (first | exact LessO.nil | exact LessO.all | refine LessO.skip (by decide) ?_ | refine LessO.upd ?_ ?_ | refine LessO.set ?_ ?_)) <;> (try simp (maxSteps := 1000000) (disch := omega) only [push_cast, go_sem, wpS_tt, wpS_tf, wpS_ft, wpS_ff, wpCond_tt, wpCond_ff, Nat.reducePow, Int.reduceEq, Int.reduceLT, Int.reduceLE, Int.reduceAdd, Int.reduceSub, Int.reduceMul, Int.reduceToNat, Int.reduceBEq, Int.reduceBNe, ↓reduceIte, reduceCtorEq, Nat.reduceEqDiff, Nat.reduceAdd, Nat.reduceMul, Nat.reduceLT, Nat.reduceLeDiff, Nat.reduceSub, Nat.reduceDiv, Nat.reduceBEq, Nat.reduceBneDiff, Nat.reduceBeqDiff])
  · have : k = (events p).length := by omega
    subst this
    rw [List.take_of_length_le (by simp)] at hall
    simp (maxSteps := 1000000) (disch := omega) only [push_cast, go_sem, wpS_tt, wpS_tf, wpS_ft, wpS_ff, wpCond_tt, wpCond_ff, Nat.reducePow, Int.reduceEq, Int.reduceLT, Int.reduceLE, Int.reduceAdd, Int.reduceSub, Int.reduceMul, Int.reduceToNat, Int.reduceBEq, Int.reduceBNe, ↓reduceIte, reduceCtorEq, Nat.reduceEqDiff, Nat.reduceAdd, Nat.reduceMul, Nat.reduceLT, Nat.reduceLeDiff, Nat.reduceSub, Nat.reduceDiv, Nat.reduceBEq, Nat.reduceBneDiff, Nat.reduceBeqDiff]
    refine Sat.of (S := []) (by kernel_rfl) ?_
    simp (maxSteps := 1000000) (disch := omega) only [push_cast, go_sem, wpS_tt, wpS_tf, wpS_ft, wpS_ff, wpCond_tt, wpCond_ff, Nat.reducePow, Int.reduceEq, Int.reduceLT, Int.reduceLE, Int.reduceAdd, Int.reduceSub, Int.reduceMul, Int.reduceToNat, Int.reduceBEq, Int.reduceBNe, ↓reduceIte, reduceCtorEq, Nat.reduceEqDiff, Nat.reduceAdd, Nat.reduceMul, Nat.reduceLT, Nat.reduceLeDiff, Nat.reduceSub, Nat.reduceDiv, Nat.reduceBEq, Nat.reduceBneDiff, Nat.reduceBeqDiff]
    rw [endsS, hall]

def placeS (ds : List Do) (od : List (List Int)) (k : Nat) : Bool := (writersOf ds k).length == (od[k]?.getD []).length && (writersOf ds k).all (od[k]?.getD []).contains
def fromS (od : List (List Int)) (q : Do × Int) : Bool := if q.1.reads then q.2 == -1 || (od[q.1.p.toNat]?.getD []).contains q.2 else q.2 == -2
def formS (p : Prog) (x : Exe) : Bool := decide (x.fr.length = (events p).length) && decide (x.od.length = 3) && (List.range 3).all (placeS (scene p).ds x.od) && ((scene p).ds.zip x.fr).all (fromS x.od)
theorem l12Form_fn (p : Prog) (x : Exe) (hn : (events p).length ≤ 42) (hx : x.small) (hpl : ∀ d ∈ (scene p).ds, d.reads = true → 0 ≤ d.p ∧ d.p ≤ 2) :
    Fp Try.prog 21 [progV p, .sl ((events p).map Evt.V), x.V] (.bool (formS p x)) := by
  obtain ⟨h1, h2, h3⟩ := hx
  have hsl : (scene p).ds.length = (events p).length := by simp [scene]
  refine Fc.start (S := [14, 20]) Try.func21 Try.ntmps21 Try.results21 rfl (by decide) rfl (by kernel_rfl) ?_
  cases hl : ((x.fr.length : Int) != (events p).length)
  rotate_left
  · simp (maxSteps := 1000000) (disch := omega) only [push_cast, go_sem, wpS_tt, wpS_tf, wpS_ft, wpS_ff, wpCond_tt, wpCond_ff, Nat.reducePow, Int.reduceEq, Int.reduceLT, Int.reduceLE, Int.reduceAdd, Int.reduceSub, Int.reduceMul, Int.reduceToNat, Int.reduceBEq, Int.reduceBNe, ↓reduceIte, reduceCtorEq, Nat.reduceEqDiff, Nat.reduceAdd, Nat.reduceMul, Nat.reduceLT, Nat.reduceLeDiff, Nat.reduceSub, Nat.reduceDiv, Nat.reduceBEq, Nat.reduceBneDiff, Nat.reduceBeqDiff, progV_eq, Exe.V_eq, hl]
    have : ¬ x.fr.length = (events p).length := fun h => by rw [h] at hl; simp at hl
    simp [formS, this]
  cases ho : ((x.od.length : Int) != 3)
  rotate_left
  · simp (maxSteps := 1000000) (disch := omega) only [push_cast, go_sem, wpS_tt, wpS_tf, wpS_ft, wpS_ff, wpCond_tt, wpCond_ff, Nat.reducePow, Int.reduceEq, Int.reduceLT, Int.reduceLE, Int.reduceAdd, Int.reduceSub, Int.reduceMul, Int.reduceToNat, Int.reduceBEq, Int.reduceBNe, ↓reduceIte, reduceCtorEq, Nat.reduceEqDiff, Nat.reduceAdd, Nat.reduceMul, Nat.reduceLT, Nat.reduceLeDiff, Nat.reduceSub, Nat.reduceDiv, Nat.reduceBEq, Nat.reduceBneDiff, Nat.reduceBeqDiff, progV_eq, Exe.V_eq, hl, ho]
    have : ¬ x.od.length = 3 := fun h => by rw [h] at ho; simp at ho
    simp [formS, this]
  have hl' : x.fr.length = (events p).length := by have : (x.fr.length : Int) = (events p).length := by simpa using hl
                                                   omega
  have ho' : x.od.length = 3 := by have : (x.od.length : Int) = 3 := by simpa using ho
                                   omega
  have hfit : formS p x = ((List.range 3).all (placeS (scene p).ds x.od) && ((scene p).ds.zip x.fr).all (fromS x.od)) := by simp [formS, hl', ho']
  simp (maxSteps := 1000000) (disch := omega) only [push_cast, go_sem, wpS_tt, wpS_tf, wpS_ft, wpS_ff, wpCond_tt, wpCond_ff, Nat.reducePow, Int.reduceEq, Int.reduceLT, Int.reduceLE, Int.reduceAdd, Int.reduceSub, Int.reduceMul, Int.reduceToNat, Int.reduceBEq, Int.reduceBNe, ↓reduceIte, reduceCtorEq, Nat.reduceEqDiff, Nat.reduceAdd, Nat.reduceMul, Nat.reduceLT, Nat.reduceLeDiff, Nat.reduceSub, Nat.reduceDiv, Nat.reduceBEq, Nat.reduceBneDiff, Nat.reduceBeqDiff, progV_eq, Exe.V_eq, hl, ho]
  intro g1 g2
  refine Sat.loop (σ := Nat) (fun k => upd (upd (upd (upd noT 3 (.ptr 3 [] 0 0 g1 1)) 5 (.ptr 5 [] 0 0 g2 2)) 1 (.sl ((events p).map Evt.V))) 7 (.int .i64 k))
    (fun _ => (noM.set 3 (.own 25 (some g1) 1 [.agg [.sl (p.map thrV)]])).set 5 (.own 29 (some g2) 1 [.agg [.sl (x.fr.map (V.int .i64)), .sl (x.od.map intsV)]]))
    (fun k => k ≤ 3 ∧ ((List.range 3).take k).all (placeS (scene p).ds x.od) = true) (fun k => 3 - k) 0 (by simp) ?_ ?_
  · (refine Less.start ?_; repeat (first | exact LessO.nil | exact LessO.all | refine LessO.skip (by decide) ?_ | refine LessO.upd ?_ ?_ | refine LessO.set ?_ ?_)) <;> (try simp (maxSteps := 1000000) (disch := omega) only [push_cast, go_sem, wpS_tt, wpS_tf, wpS_ft, wpS_ff, wpCond_tt, wpCond_ff, Nat.reducePow, Int.reduceEq, Int.reduceLT, Int.reduceLE, Int.reduceAdd, Int.reduceSub, Int.reduceMul, Int.reduceToNat, Int.reduceBEq, Int.reduceBNe, ↓reduceIte, reduceCtorEq, Nat.reduceEqDiff, Nat.reduceAdd, Nat.reduceMul, Nat.reduceLT, Nat.reduceLeDiff, Nat.reduceSub, Nat.reduceDiv, Nat.reduceBEq, Nat.reduceBneDiff, Nat.reduceBeqDiff])
  rintro k ⟨hk, hall⟩ J hJ
  refine Sat.of (S := [20]) (by kernel_rfl) ?_
  rcases Nat.lt_or_ge k 3 with hlt | hge
  · obtain ⟨row, hr⟩ : ∃ r, x.od[k]? = some r := ⟨_, List.getElem?_eq_getElem (by omega)⟩
    have hrow := h3 row (List.mem_of_getElem? hr)
    have hk3 : (k : Int) < 3 := by omega
    have hko : k < x.od.length := by omega
    have hwl : (writersOf (scene p).ds k).length ≤ 42 := by have := wrs_le (scene p).ds k (scene p).ds.length; unfold writersOf; omega
    have bad : placeS (scene p).ds x.od k = false → formS p x = false := fun h => by rw [hfit, allp_no (range_get hlt) h]; rfl
    obtain ⟨ws, hws⟩ : ∃ ws, writersOf (scene p).ds k = ws := ⟨_, rfl⟩
    have hw := l12Writes_fn p k hn
    rw [hws] at hw hwl
    simp (maxSteps := 1000000) (disch := omega) only [push_cast, go_sem, wpS_tt, wpS_tf, wpS_ft, wpS_ff, wpCond_tt, wpCond_ff, Nat.reducePow, Int.reduceEq, Int.reduceLT, Int.reduceLE, Int.reduceAdd, Int.reduceSub, Int.reduceMul, Int.reduceToNat, Int.reduceBEq, Int.reduceBNe, ↓reduceIte, reduceCtorEq, Nat.reduceEqDiff, Nat.reduceAdd, Nat.reduceMul, Nat.reduceLT, Nat.reduceLeDiff, Nat.reduceSub, Nat.reduceDiv, Nat.reduceBEq, Nat.reduceBneDiff, Nat.reduceBeqDiff, hk3]
    refine callR.pure hw rfl rfl ?_
    cases hlen : ((ws.length : Int) != row.length)
    rotate_left
    · simp (maxSteps := 1000000) (disch := omega) only [push_cast, go_sem, wpS_tt, wpS_tf, wpS_ft, wpS_ff, wpCond_tt, wpCond_ff, Nat.reducePow, Int.reduceEq, Int.reduceLT, Int.reduceLE, Int.reduceAdd, Int.reduceSub, Int.reduceMul, Int.reduceToNat, Int.reduceBEq, Int.reduceBNe, ↓reduceIte, reduceCtorEq, Nat.reduceEqDiff, Nat.reduceAdd, Nat.reduceMul, Nat.reduceLT, Nat.reduceLeDiff, Nat.reduceSub, Nat.reduceDiv, Nat.reduceBEq, Nat.reduceBneDiff, Nat.reduceBeqDiff, hr, hko, hlen, intsV_eq]
      rw [bad (by
        have : ¬ ws.length = row.length := fun h => by rw [h] at hlen; simp at hlen
        simp [placeS, hws, hr, this])]
    have hlen' : ws.length = row.length := by have : (ws.length : Int) = row.length := by simpa using hlen
                                              omega
    simp (maxSteps := 1000000) (disch := omega) only [push_cast, go_sem, wpS_tt, wpS_tf, wpS_ft, wpS_ff, wpCond_tt, wpCond_ff, Nat.reducePow, Int.reduceEq, Int.reduceLT, Int.reduceLE, Int.reduceAdd, Int.reduceSub, Int.reduceMul, Int.reduceToNat, Int.reduceBEq, Int.reduceBNe, ↓reduceIte, reduceCtorEq, Nat.reduceEqDiff, Nat.reduceAdd, Nat.reduceMul, Nat.reduceLT, Nat.reduceLeDiff, Nat.reduceSub, Nat.reduceDiv, Nat.reduceBEq, Nat.reduceBneDiff, Nat.reduceBeqDiff, hr, hko, hlen, intsV_eq]
    refine Sat.loop (σ := Nat) (fun j => upd (upd (upd (upd (upd (upd noT 3 (.ptr 3 [] 0 0 g1 1)) 5 (.ptr 5 [] 0 0 g2 2)) 1 (.sl ((events p).map Evt.V))) 7 (.int .i64 k)) 8 (.sl (ws.map (V.int .i64)))) 9 (.int .i64 j))
      (fun _ => (noM.set 3 (.own 25 (some g1) 1 [.agg [.sl (p.map thrV)]])).set 5 (.own 29 (some g2) 1 [.agg [.sl (x.fr.map (V.int .i64)), .sl (x.od.map intsV)]]))
      (fun j => j ≤ ws.length ∧ (ws.take j).all row.contains = true) (fun j => ws.length - j) 0 (by simp) ?_ ?_
    · (refine Less.start ?_; repeat (first | exact LessO.nil | exact LessO.all | refine LessO.skip (by decide) ?_ | refine LessO.upd ?_ ?_ | refine LessO.set ?_ ?_)) <;> (try simp (maxSteps := 1000000) (disch := omega) only [push_cast, go_sem, wpS_tt, wpS_tf, wpS_ft, wpS_ff, wpCond_tt, wpCond_ff, Nat.reducePow, Int.reduceEq, Int.reduceLT, Int.reduceLE, Int.reduceAdd, Int.reduceSub, Int.reduceMul, Int.reduceToNat, Int.reduceBEq, Int.reduceBNe, ↓reduceIte, reduceCtorEq, Nat.reduceEqDiff, Nat.reduceAdd, Nat.reduceMul, Nat.reduceLT, Nat.reduceLeDiff, Nat.reduceSub, Nat.reduceDiv, Nat.reduceBEq, Nat.reduceBneDiff, Nat.reduceBeqDiff])
    rintro j ⟨hj, hall2⟩ J2 hJ2
    refine Sat.of (S := []) (by kernel_rfl) ?_
    rcases Nat.lt_or_ge j ws.length with hlt2 | hge2
    · obtain ⟨z, hz⟩ : ∃ z, ws[j]? = some z := ⟨_, List.getElem?_eq_getElem hlt2⟩
      simp (maxSteps := 1000000) (disch := omega) only [push_cast, go_sem, wpS_tt, wpS_tf, wpS_ft, wpS_ff, wpCond_tt, wpCond_ff, Nat.reducePow, Int.reduceEq, Int.reduceLT, Int.reduceLE, Int.reduceAdd, Int.reduceSub, Int.reduceMul, Int.reduceToNat, Int.reduceBEq, Int.reduceBNe, ↓reduceIte, reduceCtorEq, Nat.reduceEqDiff, Nat.reduceAdd, Nat.reduceMul, Nat.reduceLT, Nat.reduceLeDiff, Nat.reduceSub, Nat.reduceDiv, Nat.reduceBEq, Nat.reduceBneDiff, Nat.reduceBeqDiff, hz, hlt2]
      refine Sat.drawnE [] [] [1, 4, 8, 9] (pureT [(46, .bool (row.contains z))]) (by kernel_rfl) (by kernel_rfl) ?_
      simp (maxSteps := 1000000) (disch := omega) only [push_cast, go_sem, wpS_tt, wpS_tf, wpS_ft, wpS_ff, wpCond_tt, wpCond_ff, Nat.reducePow, Int.reduceEq, Int.reduceLT, Int.reduceLE, Int.reduceAdd, Int.reduceSub, Int.reduceMul, Int.reduceToNat, Int.reduceBEq, Int.reduceBNe, ↓reduceIte, reduceCtorEq, Nat.reduceEqDiff, Nat.reduceAdd, Nat.reduceMul, Nat.reduceLT, Nat.reduceLeDiff, Nat.reduceSub, Nat.reduceDiv, Nat.reduceBEq, Nat.reduceBneDiff, Nat.reduceBeqDiff, hr, hko, hz, hlt2, intsV_eq]
      refine runD_pure rfl (l12Has_fn row z hrow) rfl rfl ?_ ?_
      · rfl
      cases hc : row.contains z
      · simp (maxSteps := 1000000) (disch := omega) only [push_cast, go_sem, wpS_tt, wpS_tf, wpS_ft, wpS_ff, wpCond_tt, wpCond_ff, Nat.reducePow, Int.reduceEq, Int.reduceLT, Int.reduceLE, Int.reduceAdd, Int.reduceSub, Int.reduceMul, Int.reduceToNat, Int.reduceBEq, Int.reduceBNe, ↓reduceIte, reduceCtorEq, Nat.reduceEqDiff, Nat.reduceAdd, Nat.reduceMul, Nat.reduceLT, Nat.reduceLeDiff, Nat.reduceSub, Nat.reduceDiv, Nat.reduceBEq, Nat.reduceBneDiff, Nat.reduceBeqDiff]
        rw [bad (by simp only [placeS, hws, hr, Option.getD_some, allp_no hz hc, Bool.and_false])]
      · simp (maxSteps := 1000000) (disch := omega) only [push_cast, go_sem, wpS_tt, wpS_tf, wpS_ft, wpS_ff, wpCond_tt, wpCond_ff, Nat.reducePow, Int.reduceEq, Int.reduceLT, Int.reduceLE, Int.reduceAdd, Int.reduceSub, Int.reduceMul, Int.reduceToNat, Int.reduceBEq, Int.reduceBNe, ↓reduceIte, reduceCtorEq, Nat.reduceEqDiff, Nat.reduceAdd, Nat.reduceMul, Nat.reduceLT, Nat.reduceLeDiff, Nat.reduceSub, Nat.reduceDiv, Nat.reduceBEq, Nat.reduceBneDiff, Nat.reduceBeqDiff]
        refine hJ2 (j + 1) _ _ ⟨by omega, allp_take hz hall2 hc⟩ (by omega) ?_
        (refine Less.start ?_; repeat (first | exact LessO.nil | exact LessO.all | refine LessO.skip (by decide) ?_ | refine LessO.upd ?_ ?_ | refine LessO.set ?_ ?_)) <;> (try simp (maxSteps := 1000000) (disch := omega) only [push_cast, go_sem, wpS_tt, wpS_tf, wpS_ft, wpS_ff, wpCond_tt, wpCond_ff, Nat.reducePow, Int.reduceEq, Int.reduceLT, Int.reduceLE, Int.reduceAdd, Int.reduceSub, Int.reduceMul, Int.reduceToNat, Int.reduceBEq, Int.reduceBNe, ↓reduceIte, reduceCtorEq, Nat.reduceEqDiff, Nat.reduceAdd, Nat.reduceMul, Nat.reduceLT, Nat.reduceLeDiff, Nat.reduceSub, Nat.reduceDiv, Nat.reduceBEq, Nat.reduceBneDiff, Nat.reduceBeqDiff])
    · have : j = ws.length := by omega
      subst this
      rw [List.take_length] at hall2
      simp (maxSteps := 1000000) (disch := omega) only [push_cast, go_sem, wpS_tt, wpS_tf, wpS_ft, wpS_ff, wpCond_tt, wpCond_ff, Nat.reducePow, Int.reduceEq, Int.reduceLT, Int.reduceLE, Int.reduceAdd, Int.reduceSub, Int.reduceMul, Int.reduceToNat, Int.reduceBEq, Int.reduceBNe, ↓reduceIte, reduceCtorEq, Nat.reduceEqDiff, Nat.reduceAdd, Nat.reduceMul, Nat.reduceLT, Nat.reduceLeDiff, Nat.reduceSub, Nat.reduceDiv, Nat.reduceBEq, Nat.reduceBneDiff, Nat.reduceBeqDiff]
      refine hJ (k + 1) _ _ ⟨by omega, allp_take (range_get hlt) hall (by simp only [placeS, hws, hr, Option.getD_some, hall2, hlen', beq_self_eq_true, Bool.and_self])⟩ (by omega) ?_
      (refine Less.start ?_; repeat (first | exact LessO.nil | exact LessO.all | refine LessO.skip (by decide) ?_ | refine LessO.upd ?_ ?_ | refine LessO.set ?_ ?_)) <;> (try simp (maxSteps := 1000000) (disch := omega) only [push_cast, go_sem, wpS_tt, wpS_tf, wpS_ft, wpS_ff, wpCond_tt, wpCond_ff, Nat.reducePow, Int.reduceEq, Int.reduceLT, Int.reduceLE, Int.reduceAdd, Int.reduceSub, Int.reduceMul, Int.reduceToNat, Int.reduceBEq, Int.reduceBNe, ↓reduceIte, reduceCtorEq, Nat.reduceEqDiff, Nat.reduceAdd, Nat.reduceMul, Nat.reduceLT, Nat.reduceLeDiff, Nat.reduceSub, Nat.reduceDiv, Nat.reduceBEq, Nat.reduceBneDiff, Nat.reduceBeqDiff])
  · have : k = 3 := by omega
    subst this
    have hall1 : (List.range 3).all (placeS (scene p).ds x.od) = true := by rwa [List.take_of_length_le (by simp)] at hall
    simp (maxSteps := 1000000) (disch := omega) only [push_cast, go_sem, wpS_tt, wpS_tf, wpS_ft, wpS_ff, wpCond_tt, wpCond_ff, Nat.reducePow, Int.reduceEq, Int.reduceLT, Int.reduceLE, Int.reduceAdd, Int.reduceSub, Int.reduceMul, Int.reduceToNat, Int.reduceBEq, Int.reduceBNe, ↓reduceIte, reduceCtorEq, Nat.reduceEqDiff, Nat.reduceAdd, Nat.reduceMul, Nat.reduceLT, Nat.reduceLeDiff, Nat.reduceSub, Nat.reduceDiv, Nat.reduceBEq, Nat.reduceBneDiff, Nat.reduceBeqDiff]
    refine Sat.of (S := [20]) (by kernel_rfl) ?_
    simp (maxSteps := 1000000) (disch := omega) only [push_cast, go_sem, wpS_tt, wpS_tf, wpS_ft, wpS_ff, wpCond_tt, wpCond_ff, Nat.reducePow, Int.reduceEq, Int.reduceLT, Int.reduceLE, Int.reduceAdd, Int.reduceSub, Int.reduceMul, Int.reduceToNat, Int.reduceBEq, Int.reduceBNe, ↓reduceIte, reduceCtorEq, Nat.reduceEqDiff, Nat.reduceAdd, Nat.reduceMul, Nat.reduceLT, Nat.reduceLeDiff, Nat.reduceSub, Nat.reduceDiv, Nat.reduceBEq, Nat.reduceBneDiff, Nat.reduceBeqDiff]
    clear hJ
    refine Sat.loop (σ := Nat) (fun k => upd (upd (upd (upd noT 3 (.ptr 3 [] 0 0 g1 1)) 5 (.ptr 5 [] 0 0 g2 2)) 1 (.sl ((events p).map Evt.V))) 10 (.int .i64 k))
      (fun _ => (noM.set 3 (.own 25 (some g1) 1 [.agg [.sl (p.map thrV)]])).set 5 (.own 29 (some g2) 1 [.agg [.sl (x.fr.map (V.int .i64)), .sl (x.od.map intsV)]]))
      (fun k => k ≤ (events p).length ∧ (((scene p).ds.zip x.fr).take k).all (fromS x.od) = true) (fun k => (events p).length - k) 0 (by simp) ?_ ?_
    · (refine Less.start ?_; repeat (first | exact LessO.nil | exact LessO.all | refine LessO.skip (by decide) ?_ | refine LessO.upd ?_ ?_ | refine LessO.set ?_ ?_)) <;> (try simp (maxSteps := 1000000) (disch := omega) only [push_cast, go_sem, wpS_tt, wpS_tf, wpS_ft, wpS_ff, wpCond_tt, wpCond_ff, Nat.reducePow, Int.reduceEq, Int.reduceLT, Int.reduceLE, Int.reduceAdd, Int.reduceSub, Int.reduceMul, Int.reduceToNat, Int.reduceBEq, Int.reduceBNe, ↓reduceIte, reduceCtorEq, Nat.reduceEqDiff, Nat.reduceAdd, Nat.reduceMul, Nat.reduceLT, Nat.reduceLeDiff, Nat.reduceSub, Nat.reduceDiv, Nat.reduceBEq, Nat.reduceBneDiff, Nat.reduceBeqDiff])
    rintro k ⟨hk, hall⟩ J hJ
    refine Sat.of (S := [18]) (by kernel_rfl) ?_
    rcases Nat.lt_or_ge k (events p).length with hlt | hge
    · obtain ⟨ev, he⟩ : ∃ d, (events p)[k]? = some d := ⟨_, List.getElem?_eq_getElem hlt⟩
      obtain ⟨f, hf⟩ : ∃ f, x.fr[k]? = some f := ⟨_, List.getElem?_eq_getElem (by omega)⟩
      obtain ⟨d, hst⟩ : ∃ d, stepAt p ev = d := ⟨_, rfl⟩
      have hd := scene_get he
      have hdo := l12Do_fn p ev (evIn_of (List.mem_of_getElem? he))
      rw [hst] at hd hdo
      have hz : ((scene p).ds.zip x.fr)[k]? = some (d, f) := by simp [List.getElem?_zip_eq_some, hd, hf]
      have hkf : k < x.fr.length := by omega
      have bad : fromS x.od (d, f) = false → formS p x = false := fun h => by rw [hfit, allp_no hz h, Bool.and_false]
      have next : fromS x.od (d, f) = true → (((scene p).ds.zip x.fr).take (k + 1)).all (fromS x.od) = true := allp_take hz hall
      simp (maxSteps := 1000000) (disch := omega) only [push_cast, go_sem, wpS_tt, wpS_tf, wpS_ft, wpS_ff, wpCond_tt, wpCond_ff, Nat.reducePow, Int.reduceEq, Int.reduceLT, Int.reduceLE, Int.reduceAdd, Int.reduceSub, Int.reduceMul, Int.reduceToNat, Int.reduceBEq, Int.reduceBNe, ↓reduceIte, reduceCtorEq, Nat.reduceEqDiff, Nat.reduceAdd, Nat.reduceMul, Nat.reduceLT, Nat.reduceLeDiff, Nat.reduceSub, Nat.reduceDiv, Nat.reduceBEq, Nat.reduceBneDiff, Nat.reduceBeqDiff, hlt]
      refine Sat.drawnE [(0, 6), (4, 6), (5, 6)] [] [0, 4, 5] (pureT [(47, d.V)]) (by kernel_rfl) (by kernel_rfl) ?_
      simp (maxSteps := 1000000) (disch := omega) only [push_cast, go_sem, wpS_tt, wpS_tf, wpS_ft, wpS_ff, wpCond_tt, wpCond_ff, Nat.reducePow, Int.reduceEq, Int.reduceLT, Int.reduceLE, Int.reduceAdd, Int.reduceSub, Int.reduceMul, Int.reduceToNat, Int.reduceBEq, Int.reduceBNe, ↓reduceIte, reduceCtorEq, Nat.reduceEqDiff, Nat.reduceAdd, Nat.reduceMul, Nat.reduceLT, Nat.reduceLeDiff, Nat.reduceSub, Nat.reduceDiv, Nat.reduceBEq, Nat.reduceBneDiff, Nat.reduceBeqDiff, he, hlt, Evt.V_eq]
      refine runD_pure rfl hdo rfl rfl ?_ ?_
      · rfl
      simp (maxSteps := 1000000) (disch := omega) only [push_cast, go_sem, wpS_tt, wpS_tf, wpS_ft, wpS_ff, wpCond_tt, wpCond_ff, Nat.reducePow, Int.reduceEq, Int.reduceLT, Int.reduceLE, Int.reduceAdd, Int.reduceSub, Int.reduceMul, Int.reduceToNat, Int.reduceBEq, Int.reduceBNe, ↓reduceIte, reduceCtorEq, Nat.reduceEqDiff, Nat.reduceAdd, Nat.reduceMul, Nat.reduceLT, Nat.reduceLeDiff, Nat.reduceSub, Nat.reduceDiv, Nat.reduceBEq, Nat.reduceBneDiff, Nat.reduceBeqDiff, Do.V_eq]
      intro g3
      refine Sat.of (S := []) (by kernel_rfl) ?_
      simp (maxSteps := 1000000) (disch := omega) only [push_cast, go_sem, wpS_tt, wpS_tf, wpS_ft, wpS_ff, wpCond_tt, wpCond_ff, Nat.reducePow, Int.reduceEq, Int.reduceLT, Int.reduceLE, Int.reduceAdd, Int.reduceSub, Int.reduceMul, Int.reduceToNat, Int.reduceBEq, Int.reduceBNe, ↓reduceIte, reduceCtorEq, Nat.reduceEqDiff, Nat.reduceAdd, Nat.reduceMul, Nat.reduceLT, Nat.reduceLeDiff, Nat.reduceSub, Nat.reduceDiv, Nat.reduceBEq, Nat.reduceBneDiff, Nat.reduceBeqDiff]
      cases hr : d.reads
      · have hrf := l1Reads_fn d
        rw [hr] at hrf
        refine Sat.drawnE [] [] (List.range 38) (pureT [(43, .bool false)]) (by kernel_rfl) (by kernel_rfl) ?_
        simp (maxSteps := 1000000) (disch := omega) only [push_cast, go_sem, wpS_tt, wpS_tf, wpS_ft, wpS_ff, wpCond_tt, wpCond_ff, Nat.reducePow, Int.reduceEq, Int.reduceLT, Int.reduceLE, Int.reduceAdd, Int.reduceSub, Int.reduceMul, Int.reduceToNat, Int.reduceBEq, Int.reduceBNe, ↓reduceIte, reduceCtorEq, Nat.reduceEqDiff, Nat.reduceAdd, Nat.reduceMul, Nat.reduceLT, Nat.reduceLeDiff, Nat.reduceSub, Nat.reduceDiv, Nat.reduceBEq, Nat.reduceBneDiff, Nat.reduceBeqDiff, Do.V_eq]
        refine runD_pure rfl hrf rfl rfl ?_ ?_
        · rfl
        cases hf2 : (f != -2)
        · simp (maxSteps := 1000000) (disch := omega) only [push_cast, go_sem, wpS_tt, wpS_tf, wpS_ft, wpS_ff, wpCond_tt, wpCond_ff, Nat.reducePow, Int.reduceEq, Int.reduceLT, Int.reduceLE, Int.reduceAdd, Int.reduceSub, Int.reduceMul, Int.reduceToNat, Int.reduceBEq, Int.reduceBNe, ↓reduceIte, reduceCtorEq, Nat.reduceEqDiff, Nat.reduceAdd, Nat.reduceMul, Nat.reduceLT, Nat.reduceLeDiff, Nat.reduceSub, Nat.reduceDiv, Nat.reduceBEq, Nat.reduceBneDiff, Nat.reduceBeqDiff, hr, hf, hkf, hf2, Do.V_eq]
          refine runD_pure rfl hrf rfl rfl ?_ ?_
          · rfl
          simp (maxSteps := 1000000) (disch := omega) only [push_cast, go_sem, wpS_tt, wpS_tf, wpS_ft, wpS_ff, wpCond_tt, wpCond_ff, Nat.reducePow, Int.reduceEq, Int.reduceLT, Int.reduceLE, Int.reduceAdd, Int.reduceSub, Int.reduceMul, Int.reduceToNat, Int.reduceBEq, Int.reduceBNe, ↓reduceIte, reduceCtorEq, Nat.reduceEqDiff, Nat.reduceAdd, Nat.reduceMul, Nat.reduceLT, Nat.reduceLeDiff, Nat.reduceSub, Nat.reduceDiv, Nat.reduceBEq, Nat.reduceBneDiff, Nat.reduceBeqDiff, hr]
          refine hJ (k + 1) _ _ ⟨by omega, next (by simp only [bne, Bool.not_eq_false'] at hf2; simp [fromS, hr, hf2])⟩ (by omega) ?_
          (refine Less.start ?_; repeat (first | exact LessO.nil | exact LessO.all | refine LessO.skip (by decide) ?_ | refine LessO.upd ?_ ?_ | refine LessO.set ?_ ?_)) <;> (try simp (maxSteps := 1000000) (disch := omega) only [push_cast, go_sem, wpS_tt, wpS_tf, wpS_ft, wpS_ff, wpCond_tt, wpCond_ff, Nat.reducePow, Int.reduceEq, Int.reduceLT, Int.reduceLE, Int.reduceAdd, Int.reduceSub, Int.reduceMul, Int.reduceToNat, Int.reduceBEq, Int.reduceBNe, ↓reduceIte, reduceCtorEq, Nat.reduceEqDiff, Nat.reduceAdd, Nat.reduceMul, Nat.reduceLT, Nat.reduceLeDiff, Nat.reduceSub, Nat.reduceDiv, Nat.reduceBEq, Nat.reduceBneDiff, Nat.reduceBeqDiff])
        · simp (maxSteps := 1000000) (disch := omega) only [push_cast, go_sem, wpS_tt, wpS_tf, wpS_ft, wpS_ff, wpCond_tt, wpCond_ff, Nat.reducePow, Int.reduceEq, Int.reduceLT, Int.reduceLE, Int.reduceAdd, Int.reduceSub, Int.reduceMul, Int.reduceToNat, Int.reduceBEq, Int.reduceBNe, ↓reduceIte, reduceCtorEq, Nat.reduceEqDiff, Nat.reduceAdd, Nat.reduceMul, Nat.reduceLT, Nat.reduceLeDiff, Nat.reduceSub, Nat.reduceDiv, Nat.reduceBEq, Nat.reduceBneDiff, Nat.reduceBeqDiff, hr, hf, hkf, hf2, Do.V_eq]
          rw [bad (by simp only [bne, Bool.not_eq_true'] at hf2; simp [fromS, hr, hf2])]
      · have hrf := l1Reads_fn d
        rw [hr] at hrf
        obtain ⟨hp0, hp2⟩ := hpl d (List.mem_of_getElem? hd) hr
        obtain ⟨a, ha⟩ := Int.eq_ofNat_of_zero_le hp0
        have hao : a < x.od.length := by omega
        obtain ⟨row, hro⟩ : ∃ r, x.od[a]? = some r := ⟨_, List.getElem?_eq_getElem hao⟩
        have hrow := h3 row (List.mem_of_getElem? hro)
        have hfs : fromS x.od (d, f) = (f == -1 || row.contains f) := by simp [fromS, hr, ha, hro]
        refine Sat.drawnE [] [] (List.range 38) (pureT [(43, .bool true), (46, .bool (row.contains f))]) (by kernel_rfl) (by kernel_rfl) ?_
        simp (maxSteps := 1000000) (disch := omega) only [push_cast, go_sem, wpS_tt, wpS_tf, wpS_ft, wpS_ff, wpCond_tt, wpCond_ff, Nat.reducePow, Int.reduceEq, Int.reduceLT, Int.reduceLE, Int.reduceAdd, Int.reduceSub, Int.reduceMul, Int.reduceToNat, Int.reduceBEq, Int.reduceBNe, ↓reduceIte, reduceCtorEq, Nat.reduceEqDiff, Nat.reduceAdd, Nat.reduceMul, Nat.reduceLT, Nat.reduceLeDiff, Nat.reduceSub, Nat.reduceDiv, Nat.reduceBEq, Nat.reduceBneDiff, Nat.reduceBeqDiff, Do.V_eq]
        refine runD_pure rfl hrf rfl rfl ?_ ?_
        · rfl
        simp (maxSteps := 1000000) (disch := omega) only [push_cast, go_sem, wpS_tt, wpS_tf, wpS_ft, wpS_ff, wpCond_tt, wpCond_ff, Nat.reducePow, Int.reduceEq, Int.reduceLT, Int.reduceLE, Int.reduceAdd, Int.reduceSub, Int.reduceMul, Int.reduceToNat, Int.reduceBEq, Int.reduceBNe, ↓reduceIte, reduceCtorEq, Nat.reduceEqDiff, Nat.reduceAdd, Nat.reduceMul, Nat.reduceLT, Nat.reduceLeDiff, Nat.reduceSub, Nat.reduceDiv, Nat.reduceBEq, Nat.reduceBneDiff, Nat.reduceBeqDiff, hr, Do.V_eq]
        refine runD_pure rfl hrf rfl rfl ?_ ?_
        · rfl
        cases hf1 : (f != -1)
        · simp (maxSteps := 1000000) (disch := omega) only [push_cast, go_sem, wpS_tt, wpS_tf, wpS_ft, wpS_ff, wpCond_tt, wpCond_ff, Nat.reducePow, Int.reduceEq, Int.reduceLT, Int.reduceLE, Int.reduceAdd, Int.reduceSub, Int.reduceMul, Int.reduceToNat, Int.reduceBEq, Int.reduceBNe, ↓reduceIte, reduceCtorEq, Nat.reduceEqDiff, Nat.reduceAdd, Nat.reduceMul, Nat.reduceLT, Nat.reduceLeDiff, Nat.reduceSub, Nat.reduceDiv, Nat.reduceBEq, Nat.reduceBneDiff, Nat.reduceBeqDiff, hr, hf, hkf, hf1, Do.V_eq]
          refine hJ (k + 1) _ _ ⟨by omega, next (by simp only [bne, Bool.not_eq_false'] at hf1; simp [hfs, hf1])⟩ (by omega) ?_
          (refine Less.start ?_; repeat (first | exact LessO.nil | exact LessO.all | refine LessO.skip (by decide) ?_ | refine LessO.upd ?_ ?_ | refine LessO.set ?_ ?_)) <;> (try simp (maxSteps := 1000000) (disch := omega) only [push_cast, go_sem, wpS_tt, wpS_tf, wpS_ft, wpS_ff, wpCond_tt, wpCond_ff, Nat.reducePow, Int.reduceEq, Int.reduceLT, Int.reduceLE, Int.reduceAdd, Int.reduceSub, Int.reduceMul, Int.reduceToNat, Int.reduceBEq, Int.reduceBNe, ↓reduceIte, reduceCtorEq, Nat.reduceEqDiff, Nat.reduceAdd, Nat.reduceMul, Nat.reduceLT, Nat.reduceLeDiff, Nat.reduceSub, Nat.reduceDiv, Nat.reduceBEq, Nat.reduceBneDiff, Nat.reduceBeqDiff])
        · simp (maxSteps := 1000000) (disch := omega) only [push_cast, go_sem, wpS_tt, wpS_tf, wpS_ft, wpS_ff, wpCond_tt, wpCond_ff, Nat.reducePow, Int.reduceEq, Int.reduceLT, Int.reduceLE, Int.reduceAdd, Int.reduceSub, Int.reduceMul, Int.reduceToNat, Int.reduceBEq, Int.reduceBNe, ↓reduceIte, reduceCtorEq, Nat.reduceEqDiff, Nat.reduceAdd, Nat.reduceMul, Nat.reduceLT, Nat.reduceLeDiff, Nat.reduceSub, Nat.reduceDiv, Nat.reduceBEq, Nat.reduceBneDiff, Nat.reduceBeqDiff, hr, hf, hkf, hf1, ha, hro, hao, intsV_eq, Do.V_eq]
          refine runD_pure rfl (l12Has_fn row f hrow) rfl rfl ?_ ?_
          · rfl
          have hf1' : (f == -1) = false := by simpa only [bne, Bool.not_eq_true'] using hf1
          cases hc : row.contains f
          · simp (maxSteps := 1000000) (disch := omega) only [push_cast, go_sem, wpS_tt, wpS_tf, wpS_ft, wpS_ff, wpCond_tt, wpCond_ff, Nat.reducePow, Int.reduceEq, Int.reduceLT, Int.reduceLE, Int.reduceAdd, Int.reduceSub, Int.reduceMul, Int.reduceToNat, Int.reduceBEq, Int.reduceBNe, ↓reduceIte, reduceCtorEq, Nat.reduceEqDiff, Nat.reduceAdd, Nat.reduceMul, Nat.reduceLT, Nat.reduceLeDiff, Nat.reduceSub, Nat.reduceDiv, Nat.reduceBEq, Nat.reduceBneDiff, Nat.reduceBeqDiff]
            rw [bad (by rw [hfs, hf1', hc]; rfl)]
          · simp (maxSteps := 1000000) (disch := omega) only [push_cast, go_sem, wpS_tt, wpS_tf, wpS_ft, wpS_ff, wpCond_tt, wpCond_ff, Nat.reducePow, Int.reduceEq, Int.reduceLT, Int.reduceLE, Int.reduceAdd, Int.reduceSub, Int.reduceMul, Int.reduceToNat, Int.reduceBEq, Int.reduceBNe, ↓reduceIte, reduceCtorEq, Nat.reduceEqDiff, Nat.reduceAdd, Nat.reduceMul, Nat.reduceLT, Nat.reduceLeDiff, Nat.reduceSub, Nat.reduceDiv, Nat.reduceBEq, Nat.reduceBneDiff, Nat.reduceBeqDiff]
            refine hJ (k + 1) _ _ ⟨by omega, next (by rw [hfs, hc, Bool.or_true])⟩ (by omega) ?_
            (refine Less.start ?_; repeat (first | exact LessO.nil | exact LessO.all | refine LessO.skip (by decide) ?_ | refine LessO.upd ?_ ?_ | refine LessO.set ?_ ?_)) <;> (try simp (maxSteps := 1000000) (disch := omega) only [push_cast, go_sem, wpS_tt, wpS_tf, wpS_ft, wpS_ff, wpCond_tt, wpCond_ff, Nat.reducePow, Int.reduceEq, Int.reduceLT, Int.reduceLE, Int.reduceAdd, Int.reduceSub, Int.reduceMul, Int.reduceToNat, Int.reduceBEq, Int.reduceBNe, ↓reduceIte, reduceCtorEq, Nat.reduceEqDiff, Nat.reduceAdd, Nat.reduceMul, Nat.reduceLT, Nat.reduceLeDiff, Nat.reduceSub, Nat.reduceDiv, Nat.reduceBEq, Nat.reduceBneDiff, Nat.reduceBeqDiff])
    · have : k = (events p).length := by omega
      subst this
      have hall2 : ((scene p).ds.zip x.fr).all (fromS x.od) = true := by rwa [List.take_of_length_le (by simp; omega)] at hall
      simp (maxSteps := 1000000) (disch := omega) only [push_cast, go_sem, wpS_tt, wpS_tf, wpS_ft, wpS_ff, wpCond_tt, wpCond_ff, Nat.reducePow, Int.reduceEq, Int.reduceLT, Int.reduceLE, Int.reduceAdd, Int.reduceSub, Int.reduceMul, Int.reduceToNat, Int.reduceBEq, Int.reduceBNe, ↓reduceIte, reduceCtorEq, Nat.reduceEqDiff, Nat.reduceAdd, Nat.reduceMul, Nat.reduceLT, Nat.reduceLeDiff, Nat.reduceSub, Nat.reduceDiv, Nat.reduceBEq, Nat.reduceBneDiff, Nat.reduceBeqDiff]
      refine Sat.of (S := []) (by kernel_rfl) ?_
      simp (maxSteps := 1000000) (disch := omega) only [push_cast, go_sem, wpS_tt, wpS_tf, wpS_ft, wpS_ff, wpCond_tt, wpCond_ff, Nat.reducePow, Int.reduceEq, Int.reduceLT, Int.reduceLE, Int.reduceAdd, Int.reduceSub, Int.reduceMul, Int.reduceToNat, Int.reduceBEq, Int.reduceBNe, ↓reduceIte, reduceCtorEq, Nat.reduceEqDiff, Nat.reduceAdd, Nat.reduceMul, Nat.reduceLT, Nat.reduceLeDiff, Nat.reduceSub, Nat.reduceDiv, Nat.reduceBEq, Nat.reduceBneDiff, Nat.reduceBeqDiff]
      rw [hfit, hall1, hall2]; rfl
end Go.Proofs.Ytmmipjlogdggiaa
/-! ## Calls that take two rows and hand over one; all that may be told of whom events read from, by the reference -/
namespace Go.Proofs.Ytmmipjlogdggiaa
open Go.RowKit
set_option linter.unusedSimpArgs false
set_option linter.unusedVariables false
set_option pp.maxSteps 3000

section
variable {P : Program} {M Mf : Mem} {k : V → Mem → Prop} {c : Bool}
theorem mg_skip : ∀ {xs ks : List (Option Nat)} {i : Nat}, (xs.all fun x => x.isNone) = true → mg i (xs ++ ks) M Mf = mg (i + xs.length) ks M Mf
  | [], ks, i, h => rfl
  | none :: xs, ks, i, h => by
    simp only [List.all_cons, Bool.and_eq_true] at h
    rw [List.cons_append, mg, mg_skip h.2, List.length_cons, Nat.add_right_comm]; rfl
  | some x :: xs, ks, i, h => by simp at h
theorem renArgs_app : ∀ {xs ys : List V} {i : Nat}, (xs.all fun v => v.key.isNone) = true → renArgs i (xs ++ ys) = xs ++ renArgs (i + xs.length) ys
  | [], ys, i, h => rfl
  | x :: xs, ys, i, h => by
    simp only [List.all_cons, Bool.and_eq_true] at h
    have e : x.ren i = x := by cases x <;> first | rfl | (simp [V.key] at h)
    rw [List.cons_append, renArgs, renArgs_app h.2, List.length_cons, e]
    rw [show i + 1 + xs.length = i + (xs.length + 1) by omega]; rfl
theorem foot_at {xs ks : List (Option Nat)} {j : Nat} : footM M (xs ++ ks) (xs.length + j) = ((ks[j]?).bind id).bind M := by
  rw [footM_at, List.getElem?_append_right (by omega), Nat.add_sub_cancel_left]
/-- A call, in a drawn region, that takes two rows and hands over one. -/
theorem runD_two {spec : Table} {fn : FuncId} (xs : List V) {a b d l1 c1 l2 c2 : Nat} {γ1 γ2 : Option Nat} {o1 o2 : V} {R : Post} (h : spec fn (xs ++ [.msl xs.length [] γ1 l1 c1, .msl (xs.length + 1) [] γ2 l2 c2]) (footM M ((xs ++ [V.msl a [] γ1 l1 c1, V.msl b [] γ2 l2 c2]).map V.key)) = some R)
    (hc : Fc P fn (xs ++ [.msl xs.length [] γ1 l1 c1, .msl (xs.length + 1) [] γ2 l2 c2]) ((noM.set xs.length o1).set (xs.length + 1) o2) R) (ha : M a = some o1) (hb : M b = some o2) (hab : a ≠ b) (hk : (xs.all fun v => v.key.isNone) = true) (h9 : Nat.ble (xs.length + 2) 90 = true)
    (hR : ∀ r m, R r m → ∃ γ l c ob, r = .msl 100 [] γ l c ∧ m = noM.set 100 ob) (hne : ∃ r m, R r m) (hchk : c = true) (hK : ∀ γ l c ob, R (.msl 100 [] γ l c) (noM.set 100 ob) → runV (some (True, det (.msl d [] γ l c) (((M.era b).era a).set d ob))) k .mk) :
    runD (callV (specT P spec) fn (xs ++ [.msl a [] γ1 l1 c1, .msl b [] γ2 l2 c2]) (some d) M) false M c k .mk := by
  have h90 := Nat.le_of_ble_eq_true h9
  have hk' : ((xs.map V.key).all fun x => x.isNone) = true := by rw [List.all_map]; exact hk
  have hren : renArgs 0 (xs ++ [.msl a [] γ1 l1 c1, .msl b [] γ2 l2 c2]) = xs ++ [.msl xs.length [] γ1 l1 c1, .msl (xs.length + 1) [] γ2 l2 c2] := by
    rw [renArgs_app hk, Nat.zero_add]; rfl
  have hks : (xs ++ [V.msl a [] γ1 l1 c1, V.msl b [] γ2 l2 c2]).map V.key = xs.map V.key ++ [some a, some b] := by rw [List.map_append]; rfl
  have hlen : (xs.map V.key).length = xs.length := List.length_map ..
  refine runD_call (F := (noM.set xs.length o1).set (xs.length + 1) o2) (R := R) (by rw [hren]; exact h) (by rw [hren]; exact hc) ?_ ?_ (by simp; omega) hne nofun hchk ?_
  · rw [hks]
    refine Sub.set (Sub.set Sub.no ?_) ?_
    · have := foot_at (M := M) (xs := xs.map V.key) (ks := [some a, some b]) (j := 0)
      rw [hlen, Nat.add_zero] at this
      rw [this]; exact ha
    · have := foot_at (M := M) (xs := xs.map V.key) (ks := [some a, some b]) (j := 1)
      rw [hlen] at this
      rw [this]; exact hb
  · rw [hks, List.filterMap_append, keys_none hk', List.nil_append]
    simp [List.filterMap_cons, hab]
  · rintro r0 r Mf hr h5
    obtain ⟨γ, l, c, ob, rfl, rfl⟩ := hR r0 Mf hr
    have e1 : (noM.set 100 ob) 100 = some ob := rfl
    have e2 : ∀ i, i < 100 → (noM.set 100 ob) i = none := fun i hi => by simp [Mem.set, noM]; omega
    rw [hks, merge_eq, e1, mgD_some, mg_skip hk', Nat.zero_add, hlen, mg_some, mg_some, e2 _ (by omega), e2 _ (by omega), MemU_none, MemU_none, mg_nil, h5 d rfl]
    exact (runV_det.1 (hK γ l c ob hr)).2
/-- No row is a row. -/
theorem Fc.nils {f : FuncId} {xs : List V} {e1 e2 : TypeId} {R : Post} (h : Fc P f (xs ++ [.msl xs.length [] none 0 0, .msl (xs.length + 1) [] none 0 0]) ((noM.set xs.length (.own e1 none 0 [])).set (xs.length + 1) (.own e2 none 0 [])) R) : Fc P f (xs ++ [.nilsl, .nilsl]) noM R := by
  refine ⟨fun imm w vals hI hi hs hv => ?_, h.go⟩
  have hI2 : Inv (szT P) imm w ((noM.set xs.length (.own e1 none 0 [])).set (xs.length + 1) (.own e2 none 0 [])) := (hI.nilrow _ _).nilrow _ _
  refine (h.fn imm w vals hI2 hi (by simpa using hs) ?_).mono ?_
  · intro j c u hc hu
    rcases Nat.lt_or_ge j xs.length with hj | hj
    · rw [List.getElem?_append_left hj] at hc
      exact hv j c u (by rw [List.getElem?_append_left hj]; exact hc) hu
    · have hjx : xs.length ≤ j := hj
      rw [List.getElem?_append_right hjx] at hc
      have hv' := fun c' hc' => hv j c' u (by rw [List.getElem?_append_right hjx]; exact hc') hu
      generalize j - xs.length = n at *
      match n with
      | 0 => cases hc; have := hv' .nilsl rfl; cases this; exact .msl _ _ none _ _
      | 1 => cases hc; have := hv' .nilsl rfl; cases this; exact .msl _ _ none _ _
      | n + 2 => cases hc
  · rintro e w' ⟨v, r, m, imm', h1, h2, h3, h4⟩
    refine ⟨v, r, m, imm', h1, h2, h3, h4.inv, h4.lt, h4.size, h4.os, h4.tape, h4.output, fun g hg _ => h4.block g hg ?_, fun g hg => (h4.owns g hg).imp_left ?_⟩
    · exact fun ho => not_owns_no (owns_nilrow (owns_nilrow ho))
    · exact fun ho => owns_nilrow (owns_nilrow ho)
end

/-- Rows of numbers, in a row that is owned. -/
def rowsP (L : List (List Int)) : Post := fun r m => ∃ γ c e, ∃ ws : List RowI, r = .msl 100 [] γ ws.length c ∧ m = noM.set 100 (.own e γ c (ws.map RowI.V)) ∧ ws.map RowI.l = L ∧ (γ = none ∨ e = 26)
theorem rowsP_one {L : List (List Int)} : ∀ r m, rowsP L r m → ∃ γ l c ob, r = .msl 100 [] γ l c ∧ m = noM.set 100 ob := by
  rintro r m ⟨γ, c, e, ws, rfl, rfl, _⟩
  exact ⟨γ, _, c, _, rfl, rfl⟩
theorem rowsP_ne (L : List (List Int)) : ∃ r m, rowsP L r m := ⟨_, _, none, 0, 0, L.map fun l => ⟨none, 0, l⟩, rfl, rfl, by rw [List.map_map]; exact List.map_id'' (fun _ => rfl) L, .inl rfl⟩
theorem runD_rows {M : Mem} {k : V → Mem → Prop} {cc : Bool} {spec : Table} {fn : FuncId} (xs : List V) {a b d l1 c1 l2 c2 : Nat} {γ1 γ2 : Option Nat} {o1 o2 : V} {L : List (List Int)} (h : spec fn (xs ++ [.msl xs.length [] γ1 l1 c1, .msl (xs.length + 1) [] γ2 l2 c2]) (footM M ((xs ++ [V.msl a [] γ1 l1 c1, V.msl b [] γ2 l2 c2]).map V.key)) = some (rowsP L))
    (hc : Fc Try.prog fn (xs ++ [.msl xs.length [] γ1 l1 c1, .msl (xs.length + 1) [] γ2 l2 c2]) ((noM.set xs.length o1).set (xs.length + 1) o2) (rowsP L)) (ha : M a = some o1) (hb : M b = some o2) (hab : a ≠ b) (hk : (xs.all fun v => v.key.isNone) = true) (h9 : Nat.ble (xs.length + 2) 90 = true)
    (hchk : cc = true) (hK : ∀ γ c e, ∀ ws : List RowI, ws.map RowI.l = L → (γ = none ∨ e = 26) → runV (some (True, det (.msl d [] γ ws.length c) (((M.era b).era a).set d (.own e γ c (ws.map RowI.V))))) k .mk) :
    runD (callV (specT Try.prog spec) fn (xs ++ [.msl a [] γ1 l1 c1, .msl b [] γ2 l2 c2]) (some d) M) false M cc k .mk := by
  refine runD_two xs h hc ha hb hab hk h9 rowsP_one (rowsP_ne L) hchk ?_
  rintro γ l c ob ⟨γ', c', e, ws, h1, h2, h3, h4⟩
  cases h1
  have := congrFun h2 100
  simp only [Mem.set, if_true, Option.some.injEq] at this
  subst this
  exact hK γ c e ws h3 h4
theorem flatMap_take {α β : Type} (f : α → List β) (l : List α) (k : Nat) : ((l.take k).flatMap f).length ≤ (l.flatMap f).length := by
  conv => rhs; rw [← List.take_append_drop k l, List.flatMap_append, List.length_append]
  exact Nat.le_add_right _ _
def compl (ds : List Do) : Nat → List Int → List (List Int)
  | 0, fr => [fr]
  | j + 1, fr => match ds[fr.length]? with
    | some d => (choicesOf ds d).flatMap fun c => compl ds j (fr ++ [c])
    | none => [fr]

theorem rowsP_of {f : FuncId} {args : List V} {F : Mem} {L : List (List Int)} (h : Fc Try.prog f args F fun r m => ∃ s γ c e, ∃ ws : List RowI, r = .msl s [] γ ws.length c ∧ m = noM.set s (.own e γ c (ws.map RowI.V)) ∧ ws.map RowI.l = L ∧ (γ = none ∨ e = 26)) : Fc Try.prog f args F (rowsP L) :=
  h.rekey (by
    rintro r m ⟨s, γ, c, e, ws, rfl, rfl, h1, h2⟩
    exact .inr ⟨s, γ, ws.length, c, _, rfl, by simp [Mem.set], γ, c, e, ws, rfl, era_set rfl, h1, h2⟩)
theorem l12Froms_fn (p : Prog) (hn : (events p).length ≤ 42) : ∀ (j : Nat) (fr : RowI) (γ : Option Nat) (c : Nat) (e : TypeId) (ys : List RowI), fr.l.length + j = (events p).length → ys.length + (compl (scene p).ds j fr.l).length < 2 ^ 30 → (γ = none ∨ e = 26) →
    Fc Try.prog 66 [progV p, .sl ((events p).map Evt.V), .msl 2 [] fr.γ fr.l.length fr.c, .msl 3 [] γ ys.length c] ((noM.set 2 fr.V).set 3 (.own e γ c (ys.map RowI.V))) (rowsP (ys.map RowI.l ++ compl (scene p).ds j fr.l)) := by
  intro j
  induction j with
  | zero =>
    rintro ⟨γ0, c0, l⟩ γ c e ys hlen hb hγ
    simp only [Nat.add_zero] at hlen
    rw [RowI.V_eq]
    simp only [compl, List.length_singleton] at hb ⊢
    have hγ' : (γ = none ∨ e = 26) = True := by simp only [hγ]
    have hge : (l.length : Int) ≥ (events p).length := by omega
    have hge2 : (((events p).length : Int) ≤ l.length) := by omega
    refine rowsP_of ?_
    refine Fc.start (S := []) Try.func66 Try.ntmps66 Try.results66 rfl (by decide) rfl (by kernel_rfl) ?_
    simp (maxSteps := 1000000) (disch := omega) only [push_cast, go_sem, wpS_tt, wpS_tf, wpS_ft, wpS_ff, wpCond_tt, wpCond_ff, Nat.reducePow, Int.reduceEq, Int.reduceLT, Int.reduceLE, Int.reduceAdd, Int.reduceSub, Int.reduceMul, Int.reduceToNat, Int.reduceBEq, Int.reduceBNe, ↓reduceIte, reduceCtorEq, Nat.reduceEqDiff, Nat.reduceAdd, Nat.reduceMul, Nat.reduceLT, Nat.reduceLeDiff, Nat.reduceSub, Nat.reduceDiv, Nat.reduceBEq, Nat.reduceBneDiff, Nat.reduceBeqDiff, progV_eq, hge, hge2, hγ']
    intro g g1
    refine ⟨by omega, fun γ1 c1 _ => ?_⟩
    intro g2
    cases hfl : (V.own 3 γ1 c1 (l.map (V.int .i64))).flatC <;> simp (maxSteps := 1000000) (disch := omega) only [push_cast, go_sem, wpS_tt, wpS_tf, wpS_ft, wpS_ff, wpCond_tt, wpCond_ff, Nat.reducePow, Int.reduceEq, Int.reduceLT, Int.reduceLE, Int.reduceAdd, Int.reduceSub, Int.reduceMul, Int.reduceToNat, Int.reduceBEq, Int.reduceBNe, ↓reduceIte, reduceCtorEq, Nat.reduceEqDiff, Nat.reduceAdd, Nat.reduceMul, Nat.reduceLT, Nat.reduceLeDiff, Nat.reduceSub, Nat.reduceDiv, Nat.reduceBEq, Nat.reduceBneDiff, Nat.reduceBeqDiff, hγ', hfl]
    all_goals
      refine ⟨by omega, fun γ3 c3 _ => ?_⟩
      refine ⟨_, ?_, 8, γ3, c3, 26, ys ++ [⟨γ1, c1, l⟩], by simp, rfl, by simp, .inr rfl⟩
      ((repeat (first | exact Sub.no | refine Sub.set ?_ ?_)) <;> (try simp (disch := omega) only [push_cast, go_sem, wpS_tt, wpS_tf, wpS_ft, wpS_ff, wpCond_tt, wpCond_ff, Nat.reducePow, Int.reduceEq, Int.reduceLT, Int.reduceLE, Int.reduceAdd, Int.reduceSub, Int.reduceMul, Int.reduceToNat, Int.reduceBEq, Int.reduceBNe, ↓reduceIte, reduceCtorEq, Nat.reduceEqDiff, Nat.reduceAdd, Nat.reduceMul, Nat.reduceLT, Nat.reduceLeDiff, Nat.reduceSub, Nat.reduceDiv, Nat.reduceBEq, Nat.reduceBneDiff, Nat.reduceBeqDiff]))
      all_goals simp [RowI.V]
  | succ j ih =>
    rintro ⟨γ0, c0, l⟩ γ c e ys hlen hb hγ
    simp only at hlen
    rw [RowI.V_eq]
    simp only at hb ⊢
    have hlt : l.length < (events p).length := by omega
    obtain ⟨ev, he⟩ : ∃ d, (events p)[l.length]? = some d := ⟨_, List.getElem?_eq_getElem hlt⟩
    obtain ⟨d, hst⟩ : ∃ d, stepAt p ev = d := ⟨_, rfl⟩
    have hd := scene_get he
    have hdo := l12Do_fn p ev (evIn_of (List.mem_of_getElem? he))
    rw [hst] at hd hdo
    have hcp : compl (scene p).ds (j + 1) l = (choicesOf (scene p).ds d).flatMap fun c => compl (scene p).ds j (l ++ [c]) := by rw [compl, hd]
    rw [hcp] at hb ⊢
    have hγ' : (γ = none ∨ e = 26) = True := by simp only [hγ]
    have hge : ¬ ((l.length : Int) ≥ (events p).length) := by omega
    have hge2 : ¬ (((events p).length : Int) ≤ l.length) := by omega
    refine rowsP_of ?_
    refine Fc.start (S := [2005]) Try.func66 Try.ntmps66 Try.results66 rfl (by decide) rfl (by kernel_rfl) ?_
    simp (maxSteps := 1000000) (disch := omega) only [push_cast, go_sem, wpS_tt, wpS_tf, wpS_ft, wpS_ff, wpCond_tt, wpCond_ff, Nat.reducePow, Int.reduceEq, Int.reduceLT, Int.reduceLE, Int.reduceAdd, Int.reduceSub, Int.reduceMul, Int.reduceToNat, Int.reduceBEq, Int.reduceBNe, ↓reduceIte, reduceCtorEq, Nat.reduceEqDiff, Nat.reduceAdd, Nat.reduceMul, Nat.reduceLT, Nat.reduceLeDiff, Nat.reduceSub, Nat.reduceDiv, Nat.reduceBEq, Nat.reduceBneDiff, Nat.reduceBeqDiff, progV_eq, hge, hge2]
    intro g1
    refine Sat.drawnE [(0, 6), (4, 6), (5, 6)] [] [0, 4, 5] (pureT [(47, d.V)]) (by kernel_rfl) (by kernel_rfl) ?_
    simp (maxSteps := 1000000) (disch := omega) only [push_cast, go_sem, wpS_tt, wpS_tf, wpS_ft, wpS_ff, wpCond_tt, wpCond_ff, Nat.reducePow, Int.reduceEq, Int.reduceLT, Int.reduceLE, Int.reduceAdd, Int.reduceSub, Int.reduceMul, Int.reduceToNat, Int.reduceBEq, Int.reduceBNe, ↓reduceIte, reduceCtorEq, Nat.reduceEqDiff, Nat.reduceAdd, Nat.reduceMul, Nat.reduceLT, Nat.reduceLeDiff, Nat.reduceSub, Nat.reduceDiv, Nat.reduceBEq, Nat.reduceBneDiff, Nat.reduceBeqDiff, he, hlt, Evt.V_eq]
    refine runD_pure rfl hdo rfl rfl ?_ ?_
    · rfl
    simp (maxSteps := 1000000) (disch := omega) only [push_cast, go_sem, wpS_tt, wpS_tf, wpS_ft, wpS_ff, wpCond_tt, wpCond_ff, Nat.reducePow, Int.reduceEq, Int.reduceLT, Int.reduceLE, Int.reduceAdd, Int.reduceSub, Int.reduceMul, Int.reduceToNat, Int.reduceBEq, Int.reduceBNe, ↓reduceIte, reduceCtorEq, Nat.reduceEqDiff, Nat.reduceAdd, Nat.reduceMul, Nat.reduceLT, Nat.reduceLeDiff, Nat.reduceSub, Nat.reduceDiv, Nat.reduceBEq, Nat.reduceBneDiff, Nat.reduceBeqDiff, Do.V_eq]
    intro g3
    refine Sat.of (S := [13]) (by kernel_rfl) ?_
    simp (maxSteps := 1000000) (disch := omega) only [push_cast, go_sem, wpS_tt, wpS_tf, wpS_ft, wpS_ff, wpCond_tt, wpCond_ff, Nat.reducePow, Int.reduceEq, Int.reduceLT, Int.reduceLE, Int.reduceAdd, Int.reduceSub, Int.reduceMul, Int.reduceToNat, Int.reduceBEq, Int.reduceBNe, ↓reduceIte, reduceCtorEq, Nat.reduceEqDiff, Nat.reduceAdd, Nat.reduceMul, Nat.reduceLT, Nat.reduceLeDiff, Nat.reduceSub, Nat.reduceDiv, Nat.reduceBEq, Nat.reduceBneDiff, Nat.reduceBeqDiff]
    refine callR.pure (l1Reads_fn d) rfl rfl ?_
    cases hr : d.reads
    · have hch : choicesOf (scene p).ds d = [-2] := by simp [choicesOf, hr]
      rw [hch] at hb ⊢
      simp only [List.flatMap_cons, List.flatMap_nil, List.append_nil] at hb ⊢
      simp (maxSteps := 1000000) (disch := omega) only [push_cast, go_sem, wpS_tt, wpS_tf, wpS_ft, wpS_ff, wpCond_tt, wpCond_ff, Nat.reducePow, Int.reduceEq, Int.reduceLT, Int.reduceLE, Int.reduceAdd, Int.reduceSub, Int.reduceMul, Int.reduceToNat, Int.reduceBEq, Int.reduceBNe, ↓reduceIte, reduceCtorEq, Nat.reduceEqDiff, Nat.reduceAdd, Nat.reduceMul, Nat.reduceLT, Nat.reduceLeDiff, Nat.reduceSub, Nat.reduceDiv, Nat.reduceBEq, Nat.reduceBneDiff, Nat.reduceBeqDiff]
      refine Sat.drawnE [(0, 2), (0, 4), (0, 5), (2, 5), (4, 5), (0, 6)] [] [] (fun f' _ _ => if f' = 66 then some (rowsP (ys.map RowI.l ++ compl (scene p).ds j (l ++ [-2]))) else none) (by kernel_rfl) (by kernel_rfl) ?_
      simp (maxSteps := 1000000) (disch := omega) only [push_cast, go_sem, wpS_tt, wpS_tf, wpS_ft, wpS_ff, wpCond_tt, wpCond_ff, Nat.reducePow, Int.reduceEq, Int.reduceLT, Int.reduceLE, Int.reduceAdd, Int.reduceSub, Int.reduceMul, Int.reduceToNat, Int.reduceBEq, Int.reduceBNe, ↓reduceIte, reduceCtorEq, Nat.reduceEqDiff, Nat.reduceAdd, Nat.reduceMul, Nat.reduceLT, Nat.reduceLeDiff, Nat.reduceSub, Nat.reduceDiv, Nat.reduceBEq, Nat.reduceBneDiff, Nat.reduceBeqDiff]
      intro g4
      refine ⟨by omega, fun γ1 c1 _ => ?_⟩
      intro g5
      refine ⟨by omega, fun γ2 c2 _ => ?_⟩
      have hih := ih ⟨γ2, c2, l ++ [-2]⟩ γ c e ys (by simp; omega) hb hγ
      simp only [RowI.V, List.length_append, List.map_append, List.map_cons, List.map_nil, List.length_cons, List.length_nil, Nat.zero_add] at hih
      refine runD_rows [_, _] rfl hih rfl rfl (by decide) rfl rfl rfl ?_
      intro γ3 c3 e3 ws hws hγ3
      simp (maxSteps := 1000000) (disch := omega) only [push_cast, go_sem, wpS_tt, wpS_tf, wpS_ft, wpS_ff, wpCond_tt, wpCond_ff, Nat.reducePow, Int.reduceEq, Int.reduceLT, Int.reduceLE, Int.reduceAdd, Int.reduceSub, Int.reduceMul, Int.reduceToNat, Int.reduceBEq, Int.reduceBNe, ↓reduceIte, reduceCtorEq, Nat.reduceEqDiff, Nat.reduceAdd, Nat.reduceMul, Nat.reduceLT, Nat.reduceLeDiff, Nat.reduceSub, Nat.reduceDiv, Nat.reduceBEq, Nat.reduceBneDiff, Nat.reduceBeqDiff]
      refine ⟨_, ?_, 8, γ3, c3, e3, ws, rfl, rfl, hws, hγ3⟩
      ((repeat (first | exact Sub.no | refine Sub.set ?_ ?_)) <;> (try simp (disch := omega) only [push_cast, go_sem, wpS_tt, wpS_tf, wpS_ft, wpS_ff, wpCond_tt, wpCond_ff, Nat.reducePow, Int.reduceEq, Int.reduceLT, Int.reduceLE, Int.reduceAdd, Int.reduceSub, Int.reduceMul, Int.reduceToNat, Int.reduceBEq, Int.reduceBNe, ↓reduceIte, reduceCtorEq, Nat.reduceEqDiff, Nat.reduceAdd, Nat.reduceMul, Nat.reduceLT, Nat.reduceLeDiff, Nat.reduceSub, Nat.reduceDiv, Nat.reduceBEq, Nat.reduceBneDiff, Nat.reduceBeqDiff]))
    · have hch : choicesOf (scene p).ds d = -1 :: writersOf (scene p).ds d.p := by simp [choicesOf, hr]
      rw [hch] at hb ⊢
      simp only [List.flatMap_cons, List.length_append] at hb ⊢
      obtain ⟨vs, hvs⟩ : ∃ vs, writersOf (scene p).ds d.p = vs := ⟨_, rfl⟩
      have hvl : vs.length ≤ 42 := by
        have h1 : (scene p).ds.length = (events p).length := by simp [scene]
        have := wrs_le (scene p).ds d.p (scene p).ds.length
        rw [← hvs]; unfold writersOf; omega
      have hwr := l12Writes_fn p d.p hn
      rw [hvs] at hb hwr ⊢
      simp (maxSteps := 1000000) (disch := omega) only [push_cast, go_sem, wpS_tt, wpS_tf, wpS_ft, wpS_ff, wpCond_tt, wpCond_ff, Nat.reducePow, Int.reduceEq, Int.reduceLT, Int.reduceLE, Int.reduceAdd, Int.reduceSub, Int.reduceMul, Int.reduceToNat, Int.reduceBEq, Int.reduceBNe, ↓reduceIte, reduceCtorEq, Nat.reduceEqDiff, Nat.reduceAdd, Nat.reduceMul, Nat.reduceLT, Nat.reduceLeDiff, Nat.reduceSub, Nat.reduceDiv, Nat.reduceBEq, Nat.reduceBneDiff, Nat.reduceBeqDiff]
      refine Sat.drawnE [(0, 2), (0, 4), (0, 5), (2, 5), (4, 5), (0, 6)] [] [] (fun f' _ _ => if f' = 66 then some (rowsP (ys.map RowI.l ++ compl (scene p).ds j (l ++ [-1]))) else none) (by kernel_rfl) (by kernel_rfl) ?_
      simp (maxSteps := 1000000) (disch := omega) only [push_cast, go_sem, wpS_tt, wpS_tf, wpS_ft, wpS_ff, wpCond_tt, wpCond_ff, Nat.reducePow, Int.reduceEq, Int.reduceLT, Int.reduceLE, Int.reduceAdd, Int.reduceSub, Int.reduceMul, Int.reduceToNat, Int.reduceBEq, Int.reduceBNe, ↓reduceIte, reduceCtorEq, Nat.reduceEqDiff, Nat.reduceAdd, Nat.reduceMul, Nat.reduceLT, Nat.reduceLeDiff, Nat.reduceSub, Nat.reduceDiv, Nat.reduceBEq, Nat.reduceBneDiff, Nat.reduceBeqDiff]
      intro g4
      refine ⟨by omega, fun γ1 c1 _ => ?_⟩
      intro g5
      refine ⟨by omega, fun γ2 c2 _ => ?_⟩
      have hih := ih ⟨γ2, c2, l ++ [-1]⟩ γ c e ys (by simp; omega) (by dsimp only; omega) hγ
      simp only [RowI.V, List.length_append, List.map_append, List.map_cons, List.map_nil, List.length_cons, List.length_nil, Nat.zero_add] at hih
      refine runD_rows [_, _] rfl hih rfl rfl (by decide) rfl rfl rfl ?_
      intro γ3 c3 e3 ws hws hγ3
      simp (maxSteps := 1000000) (disch := omega) only [push_cast, go_sem, wpS_tt, wpS_tf, wpS_ft, wpS_ff, wpCond_tt, wpCond_ff, Nat.reducePow, Int.reduceEq, Int.reduceLT, Int.reduceLE, Int.reduceAdd, Int.reduceSub, Int.reduceMul, Int.reduceToNat, Int.reduceBEq, Int.reduceBNe, ↓reduceIte, reduceCtorEq, Nat.reduceEqDiff, Nat.reduceAdd, Nat.reduceMul, Nat.reduceLT, Nat.reduceLeDiff, Nat.reduceSub, Nat.reduceDiv, Nat.reduceBEq, Nat.reduceBneDiff, Nat.reduceBeqDiff]
      refine callR.pure hwr rfl rfl ?_
      simp (maxSteps := 1000000) (disch := omega) only [push_cast, go_sem, wpS_tt, wpS_tf, wpS_ft, wpS_ff, wpCond_tt, wpCond_ff, Nat.reducePow, Int.reduceEq, Int.reduceLT, Int.reduceLE, Int.reduceAdd, Int.reduceSub, Int.reduceMul, Int.reduceToNat, Int.reduceBEq, Int.reduceBNe, ↓reduceIte, reduceCtorEq, Nat.reduceEqDiff, Nat.reduceAdd, Nat.reduceMul, Nat.reduceLT, Nat.reduceLeDiff, Nat.reduceSub, Nat.reduceDiv, Nat.reduceBEq, Nat.reduceBneDiff, Nat.reduceBeqDiff, intsV_eq]
      refine Sat.loop (σ := EvS × List RowI) (fun x => upd (upd (upd (upd (upd (upd noT 4 (.ptr 4 [] 0 0 g1 1)) 1 (.sl ((events p).map Evt.V))) 2 (.msl 2 [] γ0 l.length c0)) 11 (.sl (vs.map (V.int .i64)))) 12 (.int .i64 x.1.k)) 3 (.msl 3 [] x.1.γ x.2.length x.1.c))
        (fun x => ((noM.set 4 (.own 25 (some g1) 1 [.agg [.sl (p.map thrV)]])).set 2 (.own 3 γ0 c0 (l.map (V.int .i64)))).set 3 (.own x.1.e x.1.γ x.1.c (x.2.map RowI.V)))
        (fun x => x.1.k ≤ vs.length ∧ (x.1.γ = none ∨ x.1.e = 26) ∧ x.2.map RowI.l = (ys.map RowI.l ++ compl (scene p).ds j (l ++ [-1])) ++ (vs.take x.1.k).flatMap fun c => compl (scene p).ds j (l ++ [c])) (fun x => vs.length - x.1.k) (⟨0, e3, γ3, c3⟩, ws) (by simp [hγ3, hws]) ?_ ?_
      · (refine Less.start ?_; repeat (first | exact LessO.nil | exact LessO.all | refine LessO.skip (by decide) ?_ | refine LessO.upd ?_ ?_ | refine LessO.set ?_ ?_)) <;> (try simp (maxSteps := 1000000) (disch := omega) only [push_cast, go_sem, wpS_tt, wpS_tf, wpS_ft, wpS_ff, wpCond_tt, wpCond_ff, Nat.reducePow, Int.reduceEq, Int.reduceLT, Int.reduceLE, Int.reduceAdd, Int.reduceSub, Int.reduceMul, Int.reduceToNat, Int.reduceBEq, Int.reduceBNe, ↓reduceIte, reduceCtorEq, Nat.reduceEqDiff, Nat.reduceAdd, Nat.reduceMul, Nat.reduceLT, Nat.reduceLeDiff, Nat.reduceSub, Nat.reduceDiv, Nat.reduceBEq, Nat.reduceBneDiff, Nat.reduceBeqDiff])
      rintro ⟨⟨k, e4, γ4, c4⟩, zs⟩ ⟨hk, hγ4, hzs⟩ J hJ
      simp only at hk hγ4 hzs hJ
      refine Sat.of (S := []) (by kernel_rfl) ?_
      rcases Nat.lt_or_ge k vs.length with hlt2 | hge2
      · obtain ⟨z, hz⟩ : ∃ z, vs[k]? = some z := ⟨_, List.getElem?_eq_getElem hlt2⟩
        have hzl : zs.length = ys.length + (compl (scene p).ds j (l ++ [-1])).length + ((vs.take k).flatMap fun c => compl (scene p).ds j (l ++ [c])).length := by
          have := congrArg List.length hzs
          simpa only [List.length_map, List.length_append] using this
        have hft := flatMap_take (fun c => compl (scene p).ds j (l ++ [c])) vs (k + 1)
        rw [take_get hz, List.flatMap_append, List.length_append] at hft
        simp only [List.flatMap_cons, List.flatMap_nil, List.append_nil] at hft
        simp (maxSteps := 1000000) (disch := omega) only [push_cast, go_sem, wpS_tt, wpS_tf, wpS_ft, wpS_ff, wpCond_tt, wpCond_ff, Nat.reducePow, Int.reduceEq, Int.reduceLT, Int.reduceLE, Int.reduceAdd, Int.reduceSub, Int.reduceMul, Int.reduceToNat, Int.reduceBEq, Int.reduceBNe, ↓reduceIte, reduceCtorEq, Nat.reduceEqDiff, Nat.reduceAdd, Nat.reduceMul, Nat.reduceLT, Nat.reduceLeDiff, Nat.reduceSub, Nat.reduceDiv, Nat.reduceBEq, Nat.reduceBneDiff, Nat.reduceBeqDiff, hlt2]
        refine Sat.drawnE [(0, 2), (0, 4), (0, 8), (2, 8), (4, 8), (0, 9), (2, 9), (4, 9), (0, 10)] [] [] (fun f' _ _ => if f' = 66 then some (rowsP (zs.map RowI.l ++ compl (scene p).ds j (l ++ [z]))) else none) (by kernel_rfl) (by kernel_rfl) ?_
        simp (maxSteps := 1000000) (disch := omega) only [push_cast, go_sem, wpS_tt, wpS_tf, wpS_ft, wpS_ff, wpCond_tt, wpCond_ff, Nat.reducePow, Int.reduceEq, Int.reduceLT, Int.reduceLE, Int.reduceAdd, Int.reduceSub, Int.reduceMul, Int.reduceToNat, Int.reduceBEq, Int.reduceBNe, ↓reduceIte, reduceCtorEq, Nat.reduceEqDiff, Nat.reduceAdd, Nat.reduceMul, Nat.reduceLT, Nat.reduceLeDiff, Nat.reduceSub, Nat.reduceDiv, Nat.reduceBEq, Nat.reduceBneDiff, Nat.reduceBeqDiff, hz, hlt2]
        intro g6
        refine ⟨by omega, fun γ5 c5 _ => ?_⟩
        intro g7
        refine ⟨by omega, fun γ6 c6 _ => ?_⟩
        have hih := ih ⟨γ6, c6, l ++ [z]⟩ γ4 c4 e4 zs (by simp; omega) (by dsimp only; omega) hγ4
        simp only [RowI.V, List.length_append, List.map_append, List.map_cons, List.map_nil, List.length_cons, List.length_nil, Nat.zero_add] at hih
        refine runD_rows [_, _] rfl hih rfl rfl (by decide) rfl rfl rfl ?_
        intro γ7 c7 e7 us hus hγ7
        simp (maxSteps := 1000000) (disch := omega) only [push_cast, go_sem, wpS_tt, wpS_tf, wpS_ft, wpS_ff, wpCond_tt, wpCond_ff, Nat.reducePow, Int.reduceEq, Int.reduceLT, Int.reduceLE, Int.reduceAdd, Int.reduceSub, Int.reduceMul, Int.reduceToNat, Int.reduceBEq, Int.reduceBNe, ↓reduceIte, reduceCtorEq, Nat.reduceEqDiff, Nat.reduceAdd, Nat.reduceMul, Nat.reduceLT, Nat.reduceLeDiff, Nat.reduceSub, Nat.reduceDiv, Nat.reduceBEq, Nat.reduceBneDiff, Nat.reduceBeqDiff]
        refine hJ (⟨k + 1, e7, γ7, c7⟩, us) _ _ ⟨by dsimp only; omega, hγ7, ?_⟩ (by dsimp only; omega) ?_
        · dsimp only
          rw [hus, hzs, take_get hz, List.flatMap_append]
          simp
        · (refine Less.start ?_; repeat (first | exact LessO.nil | exact LessO.all | refine LessO.skip (by decide) ?_ | refine LessO.upd ?_ ?_ | refine LessO.set ?_ ?_)) <;> (try simp (maxSteps := 1000000) (disch := omega) only [push_cast, go_sem, wpS_tt, wpS_tf, wpS_ft, wpS_ff, wpCond_tt, wpCond_ff, Nat.reducePow, Int.reduceEq, Int.reduceLT, Int.reduceLE, Int.reduceAdd, Int.reduceSub, Int.reduceMul, Int.reduceToNat, Int.reduceBEq, Int.reduceBNe, ↓reduceIte, reduceCtorEq, Nat.reduceEqDiff, Nat.reduceAdd, Nat.reduceMul, Nat.reduceLT, Nat.reduceLeDiff, Nat.reduceSub, Nat.reduceDiv, Nat.reduceBEq, Nat.reduceBneDiff, Nat.reduceBeqDiff])
      · have : k = vs.length := by omega
        subst this
        rw [List.take_length] at hzs
        simp (maxSteps := 1000000) (disch := omega) only [push_cast, go_sem, wpS_tt, wpS_tf, wpS_ft, wpS_ff, wpCond_tt, wpCond_ff, Nat.reducePow, Int.reduceEq, Int.reduceLT, Int.reduceLE, Int.reduceAdd, Int.reduceSub, Int.reduceMul, Int.reduceToNat, Int.reduceBEq, Int.reduceBNe, ↓reduceIte, reduceCtorEq, Nat.reduceEqDiff, Nat.reduceAdd, Nat.reduceMul, Nat.reduceLT, Nat.reduceLeDiff, Nat.reduceSub, Nat.reduceDiv, Nat.reduceBEq, Nat.reduceBneDiff, Nat.reduceBeqDiff]
        refine Sat.of (S := []) (by kernel_rfl) ?_
        simp (maxSteps := 1000000) (disch := omega) only [push_cast, go_sem, wpS_tt, wpS_tf, wpS_ft, wpS_ff, wpCond_tt, wpCond_ff, Nat.reducePow, Int.reduceEq, Int.reduceLT, Int.reduceLE, Int.reduceAdd, Int.reduceSub, Int.reduceMul, Int.reduceToNat, Int.reduceBEq, Int.reduceBNe, ↓reduceIte, reduceCtorEq, Nat.reduceEqDiff, Nat.reduceAdd, Nat.reduceMul, Nat.reduceLT, Nat.reduceLeDiff, Nat.reduceSub, Nat.reduceDiv, Nat.reduceBEq, Nat.reduceBneDiff, Nat.reduceBeqDiff]
        refine ⟨_, ?_, 8, γ4, c4, e4, zs, rfl, rfl, by rw [hzs, List.append_assoc], hγ4⟩
        ((repeat (first | exact Sub.no | refine Sub.set ?_ ?_)) <;> (try simp (disch := omega) only [push_cast, go_sem, wpS_tt, wpS_tf, wpS_ft, wpS_ff, wpCond_tt, wpCond_ff, Nat.reducePow, Int.reduceEq, Int.reduceLT, Int.reduceLE, Int.reduceAdd, Int.reduceSub, Int.reduceMul, Int.reduceToNat, Int.reduceBEq, Int.reduceBNe, ↓reduceIte, reduceCtorEq, Nat.reduceEqDiff, Nat.reduceAdd, Nat.reduceMul, Nat.reduceLT, Nat.reduceLeDiff, Nat.reduceSub, Nat.reduceDiv, Nat.reduceBEq, Nat.reduceBneDiff, Nat.reduceBeqDiff]))
end Go.Proofs.Ytmmipjlogdggiaa
/-! ## All rows of numbers, by the reference -/
namespace Go.Proofs.Ytmmipjlogdggiaa
open Go.RowKit
set_option linter.unusedSimpArgs false
set_option linter.unusedVariables false
set_option pp.maxSteps 3000

section
variable {P : Program} {M : Mem} {k : V → Mem → Prop}
theorem set_self {a : Nat} {o : V} (h : M a = some o) : M.set a o = M := by
  funext i; simp only [Mem.set]; split
  · rename_i e; rw [e, h]
  · rfl
/-- A row that holds something has its block. -/
theorem Sat.someG {N : Nat} {cd : Code} {t : Nat → V} {K : Kont} {o : Nat} {e : TypeId} {γ : Option Nat} {cap : Nat} {es : List V} (ho : M o = some (.own e γ cap es)) (hne : es ≠ []) (h : ∀ g, γ = some g → Sat P N cd t M K) : Sat P N cd t M K := by
  intro imm0 w0 M0 imm a w hr
  cases γ with
  | some g => exact h g rfl _ _ _ _ _ _ hr
  | none =>
    have := hr.step.inv.nd o [] (.own e none cap es) (by simp [Mem.getP, ho, V.getP])
    exact absurd this.1 hne
/-- A call that looks at a row. -/
theorem callR.peek {f : FuncId} {bs : List V} {a l c : Nat} {γ : Option Nat} {o v : V} {d : Nat} (h : Fc P f (.msl 0 [] γ l c :: bs) (noM.set 0 o) fun r m => r = v ∧ m = noM.set 0 o) (hM : M a = some o) (hk : (bs.all fun v => v.key.isNone) = true) (h9 : Nat.ble (bs.length + 1) 90 = true)
    (hK : runV (some (True, det (resN (some d) v) M)) k .mk) : callR P f (.msl a [] γ l c :: bs) (some d) M k .mk := by
  have hk' : ((bs.map V.key).all fun x => x.isNone) = true := by rw [List.all_map]; exact hk
  refine callR.intro (F := noM.set 0 o) (R := fun r m => r = v ∧ m = noM.set 0 o) (by rw [renArgs_cons, renArgs_none hk]; exact h) ?_ (Nat.le_of_ble_eq_true h9) ?_ ?_
  · rw [List.map_cons, List.filterMap_cons]
    show (a :: (bs.map V.key).filterMap id).Nodup
    rw [keys_none hk']; simp
  · exact Sub.set Sub.no (by simp [footM, V.key, hM])
  · rintro r0 Mf ⟨rfl, rfl⟩
    have : mergeM M ((V.msl a [] γ l c :: bs).map V.key) (some d) (noM.set 0 o) = M := by
      rw [merge_eq, List.map_cons]
      have e1 : (noM.set 0 o) 100 = none := rfl
      have e2 : (noM.set 0 o) 0 = some o := rfl
      rw [e1, mgD_none', key_msl, mg_some, e2, mg_all_none hk', MemU_some, set_self hM]
    rw [this]
    exact (runV_det.1 hK).2
end
theorem l12HasO_fn (zs : List Int) (x : Int) (γ : Option Nat) (c : Nat) (hl : zs.length < 2 ^ 40) : Fc Try.prog 46 [.msl 0 [] γ zs.length c, .int .i64 x] (noM.set 0 (.own 3 γ c (zs.map (V.int .i64)))) fun r m => r = .bool (zs.contains x) ∧ m = noM.set 0 (.own 3 γ c (zs.map (V.int .i64))) := by
  refine Fc.start (S := [6]) Try.func46 Try.ntmps46 Try.results46 rfl (by decide) rfl (by kernel_rfl) ?_
  simp (maxSteps := 1000000) (disch := omega) only [push_cast, go_sem, wpS_tt, wpS_tf, wpS_ft, wpS_ff, wpCond_tt, wpCond_ff, Nat.reducePow, Int.reduceEq, Int.reduceLT, Int.reduceLE, Int.reduceAdd, Int.reduceSub, Int.reduceMul, Int.reduceToNat, Int.reduceBEq, Int.reduceBNe, ↓reduceIte, reduceCtorEq, Nat.reduceEqDiff, Nat.reduceAdd, Nat.reduceMul, Nat.reduceLT, Nat.reduceLeDiff, Nat.reduceSub, Nat.reduceDiv, Nat.reduceBEq, Nat.reduceBneDiff, Nat.reduceBeqDiff]
  refine Sat.loop (σ := Nat) (fun k => upd (upd (upd noT 0 (.msl 0 [] γ zs.length c)) 1 (.int .i64 x)) 5 (.int .i64 k)) (fun _ => noM.set 0 (.own 3 γ c (zs.map (V.int .i64))))
    (fun k => k ≤ zs.length ∧ zs.contains x = (zs.drop k).contains x) (fun k => zs.length - k) 0 (by simp) ?_ ?_
  · (refine Less.start ?_; repeat (first | exact LessO.nil | exact LessO.all | refine LessO.skip (by decide) ?_ | refine LessO.upd ?_ ?_ | refine LessO.set ?_ ?_)) <;> (try simp (maxSteps := 1000000) (disch := omega) only [push_cast, go_sem, wpS_tt, wpS_tf, wpS_ft, wpS_ff, wpCond_tt, wpCond_ff, Nat.reducePow, Int.reduceEq, Int.reduceLT, Int.reduceLE, Int.reduceAdd, Int.reduceSub, Int.reduceMul, Int.reduceToNat, Int.reduceBEq, Int.reduceBNe, ↓reduceIte, reduceCtorEq, Nat.reduceEqDiff, Nat.reduceAdd, Nat.reduceMul, Nat.reduceLT, Nat.reduceLeDiff, Nat.reduceSub, Nat.reduceDiv, Nat.reduceBEq, Nat.reduceBneDiff, Nat.reduceBeqDiff])
  rintro k ⟨hk, hc⟩ J hJ
  rcases Nat.lt_or_ge k zs.length with hlt | hge
  · refine Sat.someG (o := 0) (e := 3) (γ := γ) (cap := c) (es := zs.map (V.int .i64)) rfl (fun h => by have := congrArg List.length h; simp at this; subst this; simp at hlt) ?_
    rintro g rfl
    refine Sat.of (S := []) (by kernel_rfl) ?_
    obtain ⟨z, hz⟩ : ∃ z, zs[k]? = some z := ⟨_, List.getElem?_eq_getElem hlt⟩
    rw [drop_get hz, List.contains_cons] at hc
    cases hx : (z == x)
    · simp (maxSteps := 1000000) (disch := omega) only [push_cast, go_sem, wpS_tt, wpS_tf, wpS_ft, wpS_ff, wpCond_tt, wpCond_ff, Nat.reducePow, Int.reduceEq, Int.reduceLT, Int.reduceLE, Int.reduceAdd, Int.reduceSub, Int.reduceMul, Int.reduceToNat, Int.reduceBEq, Int.reduceBNe, ↓reduceIte, reduceCtorEq, Nat.reduceEqDiff, Nat.reduceAdd, Nat.reduceMul, Nat.reduceLT, Nat.reduceLeDiff, Nat.reduceSub, Nat.reduceDiv, Nat.reduceBEq, Nat.reduceBneDiff, Nat.reduceBeqDiff, hz, hlt, hx]
      refine hJ (k + 1) _ _ ⟨by omega, ?_⟩ (by omega) ?_
      · rw [hc]
        have : (x == z) = false := beq_eq_false_iff_ne.2 fun h => beq_eq_false_iff_ne.1 hx h.symm
        rw [this, Bool.false_or]
      · (refine Less.start ?_; repeat (first | exact LessO.nil | exact LessO.all | refine LessO.skip (by decide) ?_ | refine LessO.upd ?_ ?_ | refine LessO.set ?_ ?_)) <;> (try simp (maxSteps := 1000000) (disch := omega) only [push_cast, go_sem, wpS_tt, wpS_tf, wpS_ft, wpS_ff, wpCond_tt, wpCond_ff, Nat.reducePow, Int.reduceEq, Int.reduceLT, Int.reduceLE, Int.reduceAdd, Int.reduceSub, Int.reduceMul, Int.reduceToNat, Int.reduceBEq, Int.reduceBNe, ↓reduceIte, reduceCtorEq, Nat.reduceEqDiff, Nat.reduceAdd, Nat.reduceMul, Nat.reduceLT, Nat.reduceLeDiff, Nat.reduceSub, Nat.reduceDiv, Nat.reduceBEq, Nat.reduceBneDiff, Nat.reduceBeqDiff])
    · simp (maxSteps := 1000000) (disch := omega) only [push_cast, go_sem, wpS_tt, wpS_tf, wpS_ft, wpS_ff, wpCond_tt, wpCond_ff, Nat.reducePow, Int.reduceEq, Int.reduceLT, Int.reduceLE, Int.reduceAdd, Int.reduceSub, Int.reduceMul, Int.reduceToNat, Int.reduceBEq, Int.reduceBNe, ↓reduceIte, reduceCtorEq, Nat.reduceEqDiff, Nat.reduceAdd, Nat.reduceMul, Nat.reduceLT, Nat.reduceLeDiff, Nat.reduceSub, Nat.reduceDiv, Nat.reduceBEq, Nat.reduceBneDiff, Nat.reduceBeqDiff, hz, hlt, hx]
      have : (x == z) = true := beq_iff_eq.2 (beq_iff_eq.1 hx).symm
      refine ⟨_, ?_, by rw [hc, this, Bool.true_or], rfl⟩
      ((repeat (first | exact Sub.no | refine Sub.set ?_ ?_)) <;> (try simp (disch := omega) only [push_cast, go_sem, wpS_tt, wpS_tf, wpS_ft, wpS_ff, wpCond_tt, wpCond_ff, Nat.reducePow, Int.reduceEq, Int.reduceLT, Int.reduceLE, Int.reduceAdd, Int.reduceSub, Int.reduceMul, Int.reduceToNat, Int.reduceBEq, Int.reduceBNe, ↓reduceIte, reduceCtorEq, Nat.reduceEqDiff, Nat.reduceAdd, Nat.reduceMul, Nat.reduceLT, Nat.reduceLeDiff, Nat.reduceSub, Nat.reduceDiv, Nat.reduceBEq, Nat.reduceBneDiff, Nat.reduceBeqDiff]))
  · have : k = zs.length := by omega
    subst this
    refine Sat.of (S := [6]) (by kernel_rfl) ?_
    simp (maxSteps := 1000000) (disch := omega) only [push_cast, go_sem, wpS_tt, wpS_tf, wpS_ft, wpS_ff, wpCond_tt, wpCond_ff, Nat.reducePow, Int.reduceEq, Int.reduceLT, Int.reduceLE, Int.reduceAdd, Int.reduceSub, Int.reduceMul, Int.reduceToNat, Int.reduceBEq, Int.reduceBNe, ↓reduceIte, reduceCtorEq, Nat.reduceEqDiff, Nat.reduceAdd, Nat.reduceMul, Nat.reduceLT, Nat.reduceLeDiff, Nat.reduceSub, Nat.reduceDiv, Nat.reduceBEq, Nat.reduceBneDiff, Nat.reduceBeqDiff]
    refine Sat.of (S := []) (by kernel_rfl) ?_
    simp (maxSteps := 1000000) (disch := omega) only [push_cast, go_sem, wpS_tt, wpS_tf, wpS_ft, wpS_ff, wpCond_tt, wpCond_ff, Nat.reducePow, Int.reduceEq, Int.reduceLT, Int.reduceLE, Int.reduceAdd, Int.reduceSub, Int.reduceMul, Int.reduceToNat, Int.reduceBEq, Int.reduceBNe, ↓reduceIte, reduceCtorEq, Nat.reduceEqDiff, Nat.reduceAdd, Nat.reduceMul, Nat.reduceLT, Nat.reduceLeDiff, Nat.reduceSub, Nat.reduceDiv, Nat.reduceBEq, Nat.reduceBneDiff, Nat.reduceBeqDiff]
    refine ⟨_, ?_, by rw [hc, List.drop_length]; rfl, rfl⟩
    ((repeat (first | exact Sub.no | refine Sub.set ?_ ?_)) <;> (try simp (disch := omega) only [push_cast, go_sem, wpS_tt, wpS_tf, wpS_ft, wpS_ff, wpCond_tt, wpCond_ff, Nat.reducePow, Int.reduceEq, Int.reduceLT, Int.reduceLE, Int.reduceAdd, Int.reduceSub, Int.reduceMul, Int.reduceToNat, Int.reduceBEq, Int.reduceBNe, ↓reduceIte, reduceCtorEq, Nat.reduceEqDiff, Nat.reduceAdd, Nat.reduceMul, Nat.reduceLT, Nat.reduceLeDiff, Nat.reduceSub, Nat.reduceDiv, Nat.reduceBEq, Nat.reduceBneDiff, Nat.reduceBeqDiff]))
def rowsR (l : List Int) : Nat → List Int → List (List Int)
  | 0, h => [h]
  | j + 1, h => l.flatMap fun z => if h.contains z then [] else rowsR l j (h ++ [z])
theorem l12Rows_fn (l : List Int) (hl : l.length < 2 ^ 20) : ∀ (j : Nat) (hd : RowI) (γ : Option Nat) (c : Nat) (e : TypeId) (ys : List RowI), hd.l.length + j = l.length → ys.length + (rowsR l j hd.l).length < 2 ^ 30 → (γ = none ∨ e = 26) →
    Fc Try.prog 89 [intsV l, .msl 1 [] hd.γ hd.l.length hd.c, .msl 2 [] γ ys.length c] ((noM.set 1 hd.V).set 2 (.own e γ c (ys.map RowI.V))) (rowsP (ys.map RowI.l ++ rowsR l j hd.l)) := by
  intro j
  induction j with
  | zero =>
    rintro ⟨γ0, c0, h⟩ γ c e ys hlen hb hγ
    simp only [Nat.add_zero] at hlen
    rw [RowI.V_eq]
    simp only [rowsR, List.length_singleton] at hb ⊢
    have hγ' : (γ = none ∨ e = 26) = True := by simp only [hγ]
    have heq : ((h.length : Int) == l.length) = true := by rw [hlen]; simp
    refine rowsP_of ?_
    refine Fc.start (S := []) Try.func89 Try.ntmps89 Try.results89 rfl (by decide) rfl (by kernel_rfl) ?_
    simp (maxSteps := 1000000) (disch := omega) only [push_cast, go_sem, wpS_tt, wpS_tf, wpS_ft, wpS_ff, wpCond_tt, wpCond_ff, Nat.reducePow, Int.reduceEq, Int.reduceLT, Int.reduceLE, Int.reduceAdd, Int.reduceSub, Int.reduceMul, Int.reduceToNat, Int.reduceBEq, Int.reduceBNe, ↓reduceIte, reduceCtorEq, Nat.reduceEqDiff, Nat.reduceAdd, Nat.reduceMul, Nat.reduceLT, Nat.reduceLeDiff, Nat.reduceSub, Nat.reduceDiv, Nat.reduceBEq, Nat.reduceBneDiff, Nat.reduceBeqDiff, intsV_eq, heq, hγ']
    intro g1
    refine ⟨by omega, fun γ1 c1 _ => ?_⟩
    intro g2
    cases hfl : (V.own 3 γ1 c1 (h.map (V.int .i64))).flatC <;> simp (maxSteps := 1000000) (disch := omega) only [push_cast, go_sem, wpS_tt, wpS_tf, wpS_ft, wpS_ff, wpCond_tt, wpCond_ff, Nat.reducePow, Int.reduceEq, Int.reduceLT, Int.reduceLE, Int.reduceAdd, Int.reduceSub, Int.reduceMul, Int.reduceToNat, Int.reduceBEq, Int.reduceBNe, ↓reduceIte, reduceCtorEq, Nat.reduceEqDiff, Nat.reduceAdd, Nat.reduceMul, Nat.reduceLT, Nat.reduceLeDiff, Nat.reduceSub, Nat.reduceDiv, Nat.reduceBEq, Nat.reduceBneDiff, Nat.reduceBeqDiff, hγ', hfl]
    all_goals
      refine ⟨by omega, fun γ3 c3 _ => ?_⟩
      refine ⟨_, ?_, 6, γ3, c3, 26, ys ++ [⟨γ1, c1, h⟩], by simp, rfl, by simp, .inr rfl⟩
      ((repeat (first | exact Sub.no | refine Sub.set ?_ ?_)) <;> (try simp (disch := omega) only [push_cast, go_sem, wpS_tt, wpS_tf, wpS_ft, wpS_ff, wpCond_tt, wpCond_ff, Nat.reducePow, Int.reduceEq, Int.reduceLT, Int.reduceLE, Int.reduceAdd, Int.reduceSub, Int.reduceMul, Int.reduceToNat, Int.reduceBEq, Int.reduceBNe, ↓reduceIte, reduceCtorEq, Nat.reduceEqDiff, Nat.reduceAdd, Nat.reduceMul, Nat.reduceLT, Nat.reduceLeDiff, Nat.reduceSub, Nat.reduceDiv, Nat.reduceBEq, Nat.reduceBneDiff, Nat.reduceBeqDiff]))
      all_goals simp [RowI.V]
  | succ j ih =>
    rintro ⟨γ0, c0, h⟩ γ c e ys hlen hb hγ
    simp only at hlen
    rw [RowI.V_eq]
    simp only [rowsR] at hb ⊢
    have hne : ((h.length : Int) == l.length) = false := beq_eq_false_iff_ne.2 (by omega)
    obtain ⟨f, hf⟩ : ∃ f : Int → List (List Int), (fun z => if h.contains z then [] else rowsR l j (h ++ [z])) = f := ⟨_, rfl⟩
    have hfz : ∀ z, f z = if h.contains z then [] else rowsR l j (h ++ [z]) := fun z => by rw [← hf]
    rw [hf] at hb ⊢
    refine rowsP_of ?_
    refine Fc.start (S := [8]) Try.func89 Try.ntmps89 Try.results89 rfl (by decide) rfl (by kernel_rfl) ?_
    simp (maxSteps := 1000000) (disch := omega) only [push_cast, go_sem, wpS_tt, wpS_tf, wpS_ft, wpS_ff, wpCond_tt, wpCond_ff, Nat.reducePow, Int.reduceEq, Int.reduceLT, Int.reduceLE, Int.reduceAdd, Int.reduceSub, Int.reduceMul, Int.reduceToNat, Int.reduceBEq, Int.reduceBNe, ↓reduceIte, reduceCtorEq, Nat.reduceEqDiff, Nat.reduceAdd, Nat.reduceMul, Nat.reduceLT, Nat.reduceLeDiff, Nat.reduceSub, Nat.reduceDiv, Nat.reduceBEq, Nat.reduceBneDiff, Nat.reduceBeqDiff, intsV_eq, hne]
    refine Sat.loop (σ := EvS × List RowI) (fun x => upd (upd (upd (upd noT 0 (.sl (l.map (V.int .i64)))) 1 (.msl 1 [] γ0 h.length c0)) 7 (.int .i64 x.1.k)) 2 (.msl 2 [] x.1.γ x.2.length x.1.c))
      (fun x => (noM.set 1 (.own 3 γ0 c0 (h.map (V.int .i64)))).set 2 (.own x.1.e x.1.γ x.1.c (x.2.map RowI.V)))
      (fun x => x.1.k ≤ l.length ∧ (x.1.γ = none ∨ x.1.e = 26) ∧ x.2.map RowI.l = ys.map RowI.l ++ (l.take x.1.k).flatMap f) (fun x => l.length - x.1.k) (⟨0, e, γ, c⟩, ys) (by simp [hγ]) ?_ ?_
    · (refine Less.start ?_; repeat (first | exact LessO.nil | exact LessO.all | refine LessO.skip (by decide) ?_ | refine LessO.upd ?_ ?_ | refine LessO.set ?_ ?_)) <;> (try simp (maxSteps := 1000000) (disch := omega) only [push_cast, go_sem, wpS_tt, wpS_tf, wpS_ft, wpS_ff, wpCond_tt, wpCond_ff, Nat.reducePow, Int.reduceEq, Int.reduceLT, Int.reduceLE, Int.reduceAdd, Int.reduceSub, Int.reduceMul, Int.reduceToNat, Int.reduceBEq, Int.reduceBNe, ↓reduceIte, reduceCtorEq, Nat.reduceEqDiff, Nat.reduceAdd, Nat.reduceMul, Nat.reduceLT, Nat.reduceLeDiff, Nat.reduceSub, Nat.reduceDiv, Nat.reduceBEq, Nat.reduceBneDiff, Nat.reduceBeqDiff])
    rintro ⟨⟨k, e4, γ4, c4⟩, zs⟩ ⟨hk, hγ4, hzs⟩ J hJ
    simp only at hk hγ4 hzs hJ
    refine Sat.of (S := []) (by kernel_rfl) ?_
    rcases Nat.lt_or_ge k l.length with hlt2 | hge2
    · obtain ⟨z, hz⟩ : ∃ z, l[k]? = some z := ⟨_, List.getElem?_eq_getElem hlt2⟩
      have hzl : zs.length = ys.length + ((l.take k).flatMap f).length := by
        have := congrArg List.length hzs
        simpa only [List.length_map, List.length_append] using this
      have hft := flatMap_take f l (k + 1)
      rw [take_get hz, List.flatMap_append, List.length_append] at hft
      simp only [List.flatMap_cons, List.flatMap_nil, List.append_nil] at hft
      simp (maxSteps := 1000000) (disch := omega) only [push_cast, go_sem, wpS_tt, wpS_tf, wpS_ft, wpS_ff, wpCond_tt, wpCond_ff, Nat.reducePow, Int.reduceEq, Int.reduceLT, Int.reduceLE, Int.reduceAdd, Int.reduceSub, Int.reduceMul, Int.reduceToNat, Int.reduceBEq, Int.reduceBNe, ↓reduceIte, reduceCtorEq, Nat.reduceEqDiff, Nat.reduceAdd, Nat.reduceMul, Nat.reduceLT, Nat.reduceLeDiff, Nat.reduceSub, Nat.reduceDiv, Nat.reduceBEq, Nat.reduceBneDiff, Nat.reduceBeqDiff, hz, hlt2]
      refine callR.peek (l12HasO_fn h z γ0 c0 (by omega)) rfl rfl rfl ?_
      cases hc : h.contains z
      · have hf1 : f z = rowsR l j (h ++ [z]) := by rw [hfz, hc]; rfl
        rw [hf1] at hft
        simp (maxSteps := 1000000) (disch := omega) only [push_cast, go_sem, wpS_tt, wpS_tf, wpS_ft, wpS_ff, wpCond_tt, wpCond_ff, Nat.reducePow, Int.reduceEq, Int.reduceLT, Int.reduceLE, Int.reduceAdd, Int.reduceSub, Int.reduceMul, Int.reduceToNat, Int.reduceBEq, Int.reduceBNe, ↓reduceIte, reduceCtorEq, Nat.reduceEqDiff, Nat.reduceAdd, Nat.reduceMul, Nat.reduceLT, Nat.reduceLeDiff, Nat.reduceSub, Nat.reduceDiv, Nat.reduceBEq, Nat.reduceBneDiff, Nat.reduceBeqDiff]
        refine Sat.drawnE [(1, 7), (3, 7), (1, 8), (3, 8)] [] [] (fun f' _ _ => if f' = 89 then some (rowsP (zs.map RowI.l ++ rowsR l j (h ++ [z]))) else none) (by kernel_rfl) (by kernel_rfl) ?_
        simp (maxSteps := 1000000) (disch := omega) only [push_cast, go_sem, wpS_tt, wpS_tf, wpS_ft, wpS_ff, wpCond_tt, wpCond_ff, Nat.reducePow, Int.reduceEq, Int.reduceLT, Int.reduceLE, Int.reduceAdd, Int.reduceSub, Int.reduceMul, Int.reduceToNat, Int.reduceBEq, Int.reduceBNe, ↓reduceIte, reduceCtorEq, Nat.reduceEqDiff, Nat.reduceAdd, Nat.reduceMul, Nat.reduceLT, Nat.reduceLeDiff, Nat.reduceSub, Nat.reduceDiv, Nat.reduceBEq, Nat.reduceBneDiff, Nat.reduceBeqDiff, hz, hlt2]
        intro g6
        refine ⟨by omega, fun γ5 c5 _ => ?_⟩
        intro g7
        refine ⟨by omega, fun γ6 c6 _ => ?_⟩
        have hih := ih ⟨γ6, c6, h ++ [z]⟩ γ4 c4 e4 zs (by simp; omega) (by dsimp only; omega) hγ4
        simp only [RowI.V, List.length_append, List.map_append, List.map_cons, List.map_nil, List.length_cons, List.length_nil, Nat.zero_add] at hih
        refine runD_rows [_] rfl hih rfl rfl (by decide) rfl rfl rfl ?_
        intro γ7 c7 e7 us hus hγ7
        simp (maxSteps := 1000000) (disch := omega) only [push_cast, go_sem, wpS_tt, wpS_tf, wpS_ft, wpS_ff, wpCond_tt, wpCond_ff, Nat.reducePow, Int.reduceEq, Int.reduceLT, Int.reduceLE, Int.reduceAdd, Int.reduceSub, Int.reduceMul, Int.reduceToNat, Int.reduceBEq, Int.reduceBNe, ↓reduceIte, reduceCtorEq, Nat.reduceEqDiff, Nat.reduceAdd, Nat.reduceMul, Nat.reduceLT, Nat.reduceLeDiff, Nat.reduceSub, Nat.reduceDiv, Nat.reduceBEq, Nat.reduceBneDiff, Nat.reduceBeqDiff]
        refine hJ (⟨k + 1, e7, γ7, c7⟩, us) _ _ ⟨by dsimp only; omega, hγ7, ?_⟩ (by dsimp only; omega) ?_
        · dsimp only
          rw [hus, hzs, take_get hz, List.flatMap_append, ← hf1]
          simp
        · (refine Less.start ?_; repeat (first | exact LessO.nil | exact LessO.all | refine LessO.skip (by decide) ?_ | refine LessO.upd ?_ ?_ | refine LessO.set ?_ ?_)) <;> (try simp (maxSteps := 1000000) (disch := omega) only [push_cast, go_sem, wpS_tt, wpS_tf, wpS_ft, wpS_ff, wpCond_tt, wpCond_ff, Nat.reducePow, Int.reduceEq, Int.reduceLT, Int.reduceLE, Int.reduceAdd, Int.reduceSub, Int.reduceMul, Int.reduceToNat, Int.reduceBEq, Int.reduceBNe, ↓reduceIte, reduceCtorEq, Nat.reduceEqDiff, Nat.reduceAdd, Nat.reduceMul, Nat.reduceLT, Nat.reduceLeDiff, Nat.reduceSub, Nat.reduceDiv, Nat.reduceBEq, Nat.reduceBneDiff, Nat.reduceBeqDiff])
      · have hf1 : f z = [] := by rw [hfz, hc]; rfl
        simp (maxSteps := 1000000) (disch := omega) only [push_cast, go_sem, wpS_tt, wpS_tf, wpS_ft, wpS_ff, wpCond_tt, wpCond_ff, Nat.reducePow, Int.reduceEq, Int.reduceLT, Int.reduceLE, Int.reduceAdd, Int.reduceSub, Int.reduceMul, Int.reduceToNat, Int.reduceBEq, Int.reduceBNe, ↓reduceIte, reduceCtorEq, Nat.reduceEqDiff, Nat.reduceAdd, Nat.reduceMul, Nat.reduceLT, Nat.reduceLeDiff, Nat.reduceSub, Nat.reduceDiv, Nat.reduceBEq, Nat.reduceBneDiff, Nat.reduceBeqDiff]
        refine hJ (⟨k + 1, e4, γ4, c4⟩, zs) _ _ ⟨by dsimp only; omega, hγ4, ?_⟩ (by dsimp only; omega) ?_
        · dsimp only
          rw [hzs, take_get hz, List.flatMap_append]
          simp [hf1]
        · (refine Less.start ?_; repeat (first | exact LessO.nil | exact LessO.all | refine LessO.skip (by decide) ?_ | refine LessO.upd ?_ ?_ | refine LessO.set ?_ ?_)) <;> (try simp (maxSteps := 1000000) (disch := omega) only [push_cast, go_sem, wpS_tt, wpS_tf, wpS_ft, wpS_ff, wpCond_tt, wpCond_ff, Nat.reducePow, Int.reduceEq, Int.reduceLT, Int.reduceLE, Int.reduceAdd, Int.reduceSub, Int.reduceMul, Int.reduceToNat, Int.reduceBEq, Int.reduceBNe, ↓reduceIte, reduceCtorEq, Nat.reduceEqDiff, Nat.reduceAdd, Nat.reduceMul, Nat.reduceLT, Nat.reduceLeDiff, Nat.reduceSub, Nat.reduceDiv, Nat.reduceBEq, Nat.reduceBneDiff, Nat.reduceBeqDiff])
    · have : k = l.length := by omega
      subst this
      rw [List.take_length] at hzs
      simp (maxSteps := 1000000) (disch := omega) only [push_cast, go_sem, wpS_tt, wpS_tf, wpS_ft, wpS_ff, wpCond_tt, wpCond_ff, Nat.reducePow, Int.reduceEq, Int.reduceLT, Int.reduceLE, Int.reduceAdd, Int.reduceSub, Int.reduceMul, Int.reduceToNat, Int.reduceBEq, Int.reduceBNe, ↓reduceIte, reduceCtorEq, Nat.reduceEqDiff, Nat.reduceAdd, Nat.reduceMul, Nat.reduceLT, Nat.reduceLeDiff, Nat.reduceSub, Nat.reduceDiv, Nat.reduceBEq, Nat.reduceBneDiff, Nat.reduceBeqDiff]
      refine Sat.of (S := []) (by kernel_rfl) ?_
      simp (maxSteps := 1000000) (disch := omega) only [push_cast, go_sem, wpS_tt, wpS_tf, wpS_ft, wpS_ff, wpCond_tt, wpCond_ff, Nat.reducePow, Int.reduceEq, Int.reduceLT, Int.reduceLE, Int.reduceAdd, Int.reduceSub, Int.reduceMul, Int.reduceToNat, Int.reduceBEq, Int.reduceBNe, ↓reduceIte, reduceCtorEq, Nat.reduceEqDiff, Nat.reduceAdd, Nat.reduceMul, Nat.reduceLT, Nat.reduceLeDiff, Nat.reduceSub, Nat.reduceDiv, Nat.reduceBEq, Nat.reduceBneDiff, Nat.reduceBeqDiff]
      refine ⟨_, ?_, 6, γ4, c4, e4, zs, rfl, rfl, hzs, hγ4⟩
      ((repeat (first | exact Sub.no | refine Sub.set ?_ ?_)) <;> (try simp (disch := omega) only [push_cast, go_sem, wpS_tt, wpS_tf, wpS_ft, wpS_ff, wpCond_tt, wpCond_ff, Nat.reducePow, Int.reduceEq, Int.reduceLT, Int.reduceLE, Int.reduceAdd, Int.reduceSub, Int.reduceMul, Int.reduceToNat, Int.reduceBEq, Int.reduceBNe, ↓reduceIte, reduceCtorEq, Nat.reduceEqDiff, Nat.reduceAdd, Nat.reduceMul, Nat.reduceLT, Nat.reduceLeDiff, Nat.reduceSub, Nat.reduceDiv, Nat.reduceBEq, Nat.reduceBneDiff, Nat.reduceBeqDiff]))
end Go.Proofs.Ytmmipjlogdggiaa
/-! ## All that may be told of the order at places, by the reference -/
namespace Go.Proofs.Ytmmipjlogdggiaa
open Go.RowKit
set_option linter.unusedSimpArgs false
set_option linter.unusedVariables false
set_option pp.maxSteps 3000

@[push_cast] theorem okY_rows (l : List (List Int)) : okY Try.prog 26 (l.map intsV) = True := by
  simp only [okY, List.mem_map, eq_iff_iff, iff_true]
  rintro y ⟨d, _, rfl⟩
  exact ⟨by rw [szT_26]; rfl, by simp [intsV, V.cells, V.one]⟩
theorem rowsP_fp {f : FuncId} {args : List V} {L : List (List Int)} (h : Fc Try.prog f args noM (rowsP L)) : Fp Try.prog f args (.sl (L.map intsV)) :=
  h.fzRow (by
    rintro r m ⟨γ, c, e, ws, rfl, rfl, h1, _⟩
    exact ⟨100, γ, c, e, ws.map RowI.V, by rw [List.length_map], by simp [Mem.set], by rw [fz_rowsI, h1]⟩)
theorem l12Rows0_fn (l : List Int) (hl : l.length < 2 ^ 20) (hb : (rowsR l l.length []).length < 2 ^ 30) : Fp Try.prog 89 [intsV l, .nilsl, .nilsl] (.sl ((rowsR l l.length []).map intsV)) := by
  have h := l12Rows_fn l hl l.length ⟨none, 0, []⟩ none 0 26 [] (by simp) (by simpa using hb) (.inl rfl)
  exact rowsP_fp (Fc.nils (xs := [intsV l]) (e1 := 3) (e2 := 26) h)
def ordersSK (ds : List Do) : Nat → List (List (List Int))
  | 0 => [[]]
  | k + 1 => (ordersSK ds k).flatMap fun h => (rowsR (writersOf ds k) (writersOf ds k).length []).map fun r => h ++ [r]
theorem ordersSK_row {ds : List Do} : ∀ {k : Nat} {r : List (List Int)}, r ∈ ordersSK ds k → r.length = k
  | 0, r, h => by simp [ordersSK] at h; subst h; simp
  | k + 1, r, h => by
    simp only [ordersSK, List.mem_flatMap, List.mem_map] at h
    obtain ⟨h0, h1, c, _, rfl⟩ := h
    have := ordersSK_row h1
    simp; omega
theorem l12Orders_fn (p : Prog) (hn : (events p).length ≤ 42) (hR : ∀ k : Nat, k < 3 → (rowsR (writersOf (scene p).ds k) (writersOf (scene p).ds k).length []).length < 2 ^ 20) (hB : ∀ k, k ≤ 3 → (ordersSK (scene p).ds k).length < 2 ^ 30) :
    Fp Try.prog 67 [progV p, .sl ((events p).map Evt.V)] (.sl ((ordersSK (scene p).ds 3).map rowsV)) := by
  refine Fc.fzRow (R' := fun r m => ∃ s1 γ cap e es, r = .msl s1 [] γ es.length cap ∧ m s1 = some (.own e γ cap es) ∧ es.map V.fz = (ordersSK (scene p).ds 3).map rowsV) ?_ (fun r m h => h)
  refine Fc.start (S := [15]) Try.func67 Try.ntmps67 Try.results67 rfl (by decide) rfl (by kernel_rfl) ?_
  simp (maxSteps := 1000000) (disch := omega) only [push_cast, go_sem, wpS_tt, wpS_tf, wpS_ft, wpS_ff, wpCond_tt, wpCond_ff, Nat.reducePow, Int.reduceEq, Int.reduceLT, Int.reduceLE, Int.reduceAdd, Int.reduceSub, Int.reduceMul, Int.reduceToNat, Int.reduceBEq, Int.reduceBNe, ↓reduceIte, reduceCtorEq, Nat.reduceEqDiff, Nat.reduceAdd, Nat.reduceMul, Nat.reduceLT, Nat.reduceLeDiff, Nat.reduceSub, Nat.reduceDiv, Nat.reduceBEq, Nat.reduceBneDiff, Nat.reduceBeqDiff, progV_eq]
  intro g1 g2 g3
  refine Sat.loop (σ := EvS × List V) (fun x => upd (upd (upd (upd noT 2 (.ptr 2 [] 0 0 g1 1)) 1 (.sl ((events p).map Evt.V))) 6 (.int .i64 x.1.k)) 5 (.msl 5 [] x.1.γ x.2.length x.1.c))
    (fun x => (noM.set 2 (.own 25 (some g1) 1 [.agg [.sl (p.map thrV)]])).set 5 (.own x.1.e x.1.γ x.1.c x.2))
    (fun x => x.1.k ≤ 3 ∧ x.2.map V.fz = (ordersSK (scene p).ds x.1.k).map rowsV) (fun x => 3 - x.1.k) (⟨0, 27, some g3, 1⟩, [.own 26 (some g2) 0 []]) (by simp; rfl) ?_ ?_
  · (refine Less.start ?_; repeat (first | exact LessO.nil | exact LessO.all | refine LessO.skip (by decide) ?_ | refine LessO.upd ?_ ?_ | refine LessO.set ?_ ?_)) <;> (try simp (maxSteps := 1000000) (disch := omega) only [push_cast, go_sem, wpS_tt, wpS_tf, wpS_ft, wpS_ff, wpCond_tt, wpCond_ff, Nat.reducePow, Int.reduceEq, Int.reduceLT, Int.reduceLE, Int.reduceAdd, Int.reduceSub, Int.reduceMul, Int.reduceToNat, Int.reduceBEq, Int.reduceBNe, ↓reduceIte, reduceCtorEq, Nat.reduceEqDiff, Nat.reduceAdd, Nat.reduceMul, Nat.reduceLT, Nat.reduceLeDiff, Nat.reduceSub, Nat.reduceDiv, Nat.reduceBEq, Nat.reduceBneDiff, Nat.reduceBeqDiff])
    all_goals rfl
  rintro ⟨⟨k, e0, γ9, c9⟩, vs⟩ ⟨hk, hvs⟩ J hJ
  simp only at hk hvs hJ
  rcases Nat.lt_or_ge k 3 with hlt | hge
  · refine Sat.freezeT (upd (upd (upd (upd noT 2 (.ptr 2 [] 0 0 g1 1)) 1 (.sl ((events p).map Evt.V))) 6 (.int .i64 k)) 5 (.sl ((ordersSK (scene p).ds k).map rowsV))) (noM.set 2 (.own 25 (some g1) 1 [.agg [.sl (p.map thrV)]])) 5 (e := e0) (γ := γ9) (cap := c9) (es := vs) rfl ?_ ?_
    · (refine Less.start ?_; repeat (first | exact LessO.nil | exact LessO.all | refine LessO.skip (by decide) ?_ | refine LessO.upd ?_ ?_ | refine LessO.set ?_ ?_)) <;> (try simp (maxSteps := 1000000) (disch := omega) only [push_cast, go_sem, wpS_tt, wpS_tf, wpS_ft, wpS_ff, wpCond_tt, wpCond_ff, Nat.reducePow, Int.reduceEq, Int.reduceLT, Int.reduceLE, Int.reduceAdd, Int.reduceSub, Int.reduceMul, Int.reduceToNat, Int.reduceBEq, Int.reduceBNe, ↓reduceIte, reduceCtorEq, Nat.reduceEqDiff, Nat.reduceAdd, Nat.reduceMul, Nat.reduceLT, Nat.reduceLeDiff, Nat.reduceSub, Nat.reduceDiv, Nat.reduceBEq, Nat.reduceBneDiff, Nat.reduceBeqDiff])
      rw [hvs]
    refine Sat.of (S := []) (by kernel_rfl) ?_
    have hrb := hR k hlt
    have hwl : (writersOf (scene p).ds k).length ≤ 42 := by
      have h1 : (scene p).ds.length = (events p).length := by simp [scene]
      have := wrs_le (scene p).ds k (scene p).ds.length
      unfold writersOf; omega
    have hrows := l12Rows0_fn (writersOf (scene p).ds k) (by omega) (by omega)
    obtain ⟨rs, hrs⟩ : ∃ rs, rowsR (writersOf (scene p).ds k) (writersOf (scene p).ds k).length [] = rs := ⟨_, rfl⟩
    rw [hrs] at hrows hrb
    have hk3 : (k : Int) < 3 := by omega
    have hfk : ordersSK (scene p).ds (k + 1) = (ordersSK (scene p).ds k).flatMap (fun h => rs.map fun r => h ++ [r]) := by rw [ordersSK, hrs]
    have hbK := hB k hk
    have hbk : (ordersSK (scene p).ds k).length * rs.length < 2 ^ 30 := by
      have := hB (k + 1) (by omega)
      rw [hfk, flatMap_len (n := rs.length) (by simp)] at this
      exact this
    simp (maxSteps := 1000000) (disch := omega) only [push_cast, go_sem, wpS_tt, wpS_tf, wpS_ft, wpS_ff, wpCond_tt, wpCond_ff, Nat.reducePow, Int.reduceEq, Int.reduceLT, Int.reduceLE, Int.reduceAdd, Int.reduceSub, Int.reduceMul, Int.reduceToNat, Int.reduceBEq, Int.reduceBNe, ↓reduceIte, reduceCtorEq, Nat.reduceEqDiff, Nat.reduceAdd, Nat.reduceMul, Nat.reduceLT, Nat.reduceLeDiff, Nat.reduceSub, Nat.reduceDiv, Nat.reduceBEq, Nat.reduceBneDiff, Nat.reduceBeqDiff, hk3]
    refine callR.pure (l12Writes_fn p k hn) rfl rfl ?_
    simp (maxSteps := 1000000) (disch := omega) only [push_cast, go_sem, wpS_tt, wpS_tf, wpS_ft, wpS_ff, wpCond_tt, wpCond_ff, Nat.reducePow, Int.reduceEq, Int.reduceLT, Int.reduceLE, Int.reduceAdd, Int.reduceSub, Int.reduceMul, Int.reduceToNat, Int.reduceBEq, Int.reduceBNe, ↓reduceIte, reduceCtorEq, Nat.reduceEqDiff, Nat.reduceAdd, Nat.reduceMul, Nat.reduceLT, Nat.reduceLeDiff, Nat.reduceSub, Nat.reduceDiv, Nat.reduceBEq, Nat.reduceBneDiff, Nat.reduceBeqDiff]
    refine callR.pure hrows rfl rfl ?_
    simp (maxSteps := 1000000) (disch := omega) only [push_cast, go_sem, wpS_tt, wpS_tf, wpS_ft, wpS_ff, wpCond_tt, wpCond_ff, Nat.reducePow, Int.reduceEq, Int.reduceLT, Int.reduceLE, Int.reduceAdd, Int.reduceSub, Int.reduceMul, Int.reduceToNat, Int.reduceBEq, Int.reduceBNe, ↓reduceIte, reduceCtorEq, Nat.reduceEqDiff, Nat.reduceAdd, Nat.reduceMul, Nat.reduceLT, Nat.reduceLeDiff, Nat.reduceSub, Nat.reduceDiv, Nat.reduceBEq, Nat.reduceBneDiff, Nat.reduceBeqDiff]
    intro g4
    refine Sat.loop (σ := EvS × List RowR) (fun x => upd (upd (upd (upd (upd (upd (upd noT 2 (.ptr 2 [] 0 0 g1 1)) 1 (.sl ((events p).map Evt.V))) 6 (.int .i64 k)) 5 (.sl ((ordersSK (scene p).ds k).map rowsV))) 7 (.sl (rs.map intsV))) 8 (.msl 8 [] x.1.γ x.2.length x.1.c)) 9 (.int .i64 x.1.k)) (fun x => (noM.set 2 (.own 25 (some g1) 1 [.agg [.sl (p.map thrV)]])).set 8 (.own x.1.e x.1.γ x.1.c (x.2.map RowR.V)))
      (fun x => x.1.k ≤ (ordersSK (scene p).ds k).length ∧ (x.1.γ = none ∨ x.1.e = 27) ∧ x.2.map RowR.l = ((ordersSK (scene p).ds k).take x.1.k).flatMap (fun h => rs.map fun r => h ++ [r])) (fun x => (ordersSK (scene p).ds k).length - x.1.k) (⟨0, 27, some g4, 0⟩, []) (by simp) ?_ ?_
    · (refine Less.start ?_; repeat (first | exact LessO.nil | exact LessO.all | refine LessO.skip (by decide) ?_ | refine LessO.upd ?_ ?_ | refine LessO.set ?_ ?_)) <;> (try simp (maxSteps := 1000000) (disch := omega) only [push_cast, go_sem, wpS_tt, wpS_tf, wpS_ft, wpS_ff, wpCond_tt, wpCond_ff, Nat.reducePow, Int.reduceEq, Int.reduceLT, Int.reduceLE, Int.reduceAdd, Int.reduceSub, Int.reduceMul, Int.reduceToNat, Int.reduceBEq, Int.reduceBNe, ↓reduceIte, reduceCtorEq, Nat.reduceEqDiff, Nat.reduceAdd, Nat.reduceMul, Nat.reduceLT, Nat.reduceLeDiff, Nat.reduceSub, Nat.reduceDiv, Nat.reduceBEq, Nat.reduceBneDiff, Nat.reduceBeqDiff])
      all_goals rfl
    rintro ⟨⟨i, e, γ, c⟩, ys⟩ ⟨hi, hγ, hys⟩ J2 hJ2
    refine Sat.of (S := []) (by kernel_rfl) ?_
    simp only at hi hγ hys hJ2
    rcases Nat.lt_or_ge i (ordersSK (scene p).ds k).length with hlt2 | hge2
    · obtain ⟨h, hh⟩ : ∃ h, (ordersSK (scene p).ds k)[i]? = some h := ⟨_, List.getElem?_eq_getElem hlt2⟩
      have hhl := ordersSK_row (List.mem_of_getElem? hh)
      simp (maxSteps := 1000000) (disch := omega) only [push_cast, go_sem, wpS_tt, wpS_tf, wpS_ft, wpS_ff, wpCond_tt, wpCond_ff, Nat.reducePow, Int.reduceEq, Int.reduceLT, Int.reduceLE, Int.reduceAdd, Int.reduceSub, Int.reduceMul, Int.reduceToNat, Int.reduceBEq, Int.reduceBNe, ↓reduceIte, reduceCtorEq, Nat.reduceEqDiff, Nat.reduceAdd, Nat.reduceMul, Nat.reduceLT, Nat.reduceLeDiff, Nat.reduceSub, Nat.reduceDiv, Nat.reduceBEq, Nat.reduceBneDiff, Nat.reduceBeqDiff, hlt2]
      refine Sat.loop (σ := EvS × List RowR) (fun x => upd (upd (upd (upd (upd (upd (upd (upd noT 2 (.ptr 2 [] 0 0 g1 1)) 1 (.sl ((events p).map Evt.V))) 6 (.int .i64 k)) 5 (.sl ((ordersSK (scene p).ds k).map rowsV))) 7 (.sl (rs.map intsV))) 8 (.msl 8 [] x.1.γ x.2.length x.1.c)) 9 (.int .i64 i)) 10 (.int .i64 x.1.k)) (fun x => (noM.set 2 (.own 25 (some g1) 1 [.agg [.sl (p.map thrV)]])).set 8 (.own x.1.e x.1.γ x.1.c (x.2.map RowR.V)))
        (fun x => x.1.k ≤ rs.length ∧ (x.1.γ = none ∨ x.1.e = 27) ∧ x.2.map RowR.l = ((ordersSK (scene p).ds k).take i).flatMap (fun h => rs.map fun r => h ++ [r]) ++ (rs.take x.1.k).map fun r => h ++ [r]) (fun x => rs.length - x.1.k) (⟨0, e, γ, c⟩, ys) (by simp [hγ, hys]) ?_ ?_
      · (refine Less.start ?_; repeat (first | exact LessO.nil | exact LessO.all | refine LessO.skip (by decide) ?_ | refine LessO.upd ?_ ?_ | refine LessO.set ?_ ?_)) <;> (try simp (maxSteps := 1000000) (disch := omega) only [push_cast, go_sem, wpS_tt, wpS_tf, wpS_ft, wpS_ff, wpCond_tt, wpCond_ff, Nat.reducePow, Int.reduceEq, Int.reduceLT, Int.reduceLE, Int.reduceAdd, Int.reduceSub, Int.reduceMul, Int.reduceToNat, Int.reduceBEq, Int.reduceBNe, ↓reduceIte, reduceCtorEq, Nat.reduceEqDiff, Nat.reduceAdd, Nat.reduceMul, Nat.reduceLT, Nat.reduceLeDiff, Nat.reduceSub, Nat.reduceDiv, Nat.reduceBEq, Nat.reduceBneDiff, Nat.reduceBeqDiff])
      rintro ⟨⟨j, e2, γ2, c2⟩, zs⟩ ⟨hj, hγ2, hzs⟩ J3 hJ3
      refine Sat.of (S := []) (by kernel_rfl) ?_
      simp only at hj hγ2 hzs hJ3
      rcases Nat.lt_or_ge j rs.length with hlt3 | hge3
      · obtain ⟨z, hz⟩ : ∃ z, rs[j]? = some z := ⟨_, List.getElem?_eq_getElem hlt3⟩
        have hγ2' : (γ2 = none ∨ e2 = 27) = True := by simp only [hγ2]
        have hzl : zs.length = i * rs.length + j := by
          have := congrArg List.length hzs
          rw [List.length_map, List.length_append, flatMap_len (n := rs.length) (by simp), List.length_take, List.length_map, List.length_take, Nat.min_eq_left hi, Nat.min_eq_left hj] at this
          exact this
        have hm1 : (i + 1) * rs.length ≤ (ordersSK (scene p).ds k).length * rs.length := Nat.mul_le_mul_right _ (by omega)
        rw [Nat.succ_mul] at hm1
        have hzb : zs.length + 1 < 2 ^ 30 := by generalize i * rs.length = A at *; generalize (ordersSK (scene p).ds k).length * rs.length = B at *; omega
        simp (maxSteps := 1000000) (disch := omega) only [push_cast, go_sem, wpS_tt, wpS_tf, wpS_ft, wpS_ff, wpCond_tt, wpCond_ff, Nat.reducePow, Int.reduceEq, Int.reduceLT, Int.reduceLE, Int.reduceAdd, Int.reduceSub, Int.reduceMul, Int.reduceToNat, Int.reduceBEq, Int.reduceBNe, ↓reduceIte, reduceCtorEq, Nat.reduceEqDiff, Nat.reduceAdd, Nat.reduceMul, Nat.reduceLT, Nat.reduceLeDiff, Nat.reduceSub, Nat.reduceDiv, Nat.reduceBEq, Nat.reduceBneDiff, Nat.reduceBeqDiff, hlt3]
        refine Sat.drawnE [(1, 5), (1, 10), (5, 10), (6, 10), (1, 11), (5, 11), (6, 11)] [] [] (fun _ _ _ => none) (by kernel_rfl) (by kernel_rfl) ?_
        simp (maxSteps := 1000000) (disch := omega) only [push_cast, go_sem, wpS_tt, wpS_tf, wpS_ft, wpS_ff, wpCond_tt, wpCond_ff, Nat.reducePow, Int.reduceEq, Int.reduceLT, Int.reduceLE, Int.reduceAdd, Int.reduceSub, Int.reduceMul, Int.reduceToNat, Int.reduceBEq, Int.reduceBNe, ↓reduceIte, reduceCtorEq, Nat.reduceEqDiff, Nat.reduceAdd, Nat.reduceMul, Nat.reduceLT, Nat.reduceLeDiff, Nat.reduceSub, Nat.reduceDiv, Nat.reduceBEq, Nat.reduceBneDiff, Nat.reduceBeqDiff, hh, hlt2, hz, hlt3, hγ2', rowsV_eq, intsV_eq]
        intro g5
        refine ⟨by omega, fun γ4 c4 _ => ?_⟩
        intro g6
        refine ⟨by omega, fun γ5 c5 _ => ?_⟩
        intro g7
        refine ⟨by omega, fun γ6 c6 _ => ?_⟩
        refine hJ3 (⟨j + 1, 27, γ6, c6⟩, zs ++ [⟨γ5, c5, h ++ [z]⟩]) _ _ ⟨by dsimp only; omega, .inr rfl, ?_⟩ (by dsimp only; omega) ?_
        · dsimp only
          rw [List.map_append, hzs, take_get hz, List.map_append, List.append_assoc]
          rfl
        · (refine Less.start ?_; repeat (first | exact LessO.nil | exact LessO.all | refine LessO.skip (by decide) ?_ | refine LessO.upd ?_ ?_ | refine LessO.set ?_ ?_)) <;> (try simp (maxSteps := 1000000) (disch := omega) only [push_cast, go_sem, wpS_tt, wpS_tf, wpS_ft, wpS_ff, wpCond_tt, wpCond_ff, Nat.reducePow, Int.reduceEq, Int.reduceLT, Int.reduceLE, Int.reduceAdd, Int.reduceSub, Int.reduceMul, Int.reduceToNat, Int.reduceBEq, Int.reduceBNe, ↓reduceIte, reduceCtorEq, Nat.reduceEqDiff, Nat.reduceAdd, Nat.reduceMul, Nat.reduceLT, Nat.reduceLeDiff, Nat.reduceSub, Nat.reduceDiv, Nat.reduceBEq, Nat.reduceBneDiff, Nat.reduceBeqDiff])
          all_goals simp [RowR.V, rowsV, intsV]
      · have : j = rs.length := by omega
        subst this
        simp (maxSteps := 1000000) (disch := omega) only [push_cast, go_sem, wpS_tt, wpS_tf, wpS_ft, wpS_ff, wpCond_tt, wpCond_ff, Nat.reducePow, Int.reduceEq, Int.reduceLT, Int.reduceLE, Int.reduceAdd, Int.reduceSub, Int.reduceMul, Int.reduceToNat, Int.reduceBEq, Int.reduceBNe, ↓reduceIte, reduceCtorEq, Nat.reduceEqDiff, Nat.reduceAdd, Nat.reduceMul, Nat.reduceLT, Nat.reduceLeDiff, Nat.reduceSub, Nat.reduceDiv, Nat.reduceBEq, Nat.reduceBneDiff, Nat.reduceBeqDiff]
        refine hJ2 (⟨i + 1, e2, γ2, c2⟩, zs) _ _ ⟨by dsimp only; omega, hγ2, ?_⟩ (by dsimp only; omega) ?_
        · dsimp only
          rw [hzs, List.take_length, take_get hh, List.flatMap_append]
          simp
        · (refine Less.start ?_; repeat (first | exact LessO.nil | exact LessO.all | refine LessO.skip (by decide) ?_ | refine LessO.upd ?_ ?_ | refine LessO.set ?_ ?_)) <;> (try simp (maxSteps := 1000000) (disch := omega) only [push_cast, go_sem, wpS_tt, wpS_tf, wpS_ft, wpS_ff, wpCond_tt, wpCond_ff, Nat.reducePow, Int.reduceEq, Int.reduceLT, Int.reduceLE, Int.reduceAdd, Int.reduceSub, Int.reduceMul, Int.reduceToNat, Int.reduceBEq, Int.reduceBNe, ↓reduceIte, reduceCtorEq, Nat.reduceEqDiff, Nat.reduceAdd, Nat.reduceMul, Nat.reduceLT, Nat.reduceLeDiff, Nat.reduceSub, Nat.reduceDiv, Nat.reduceBEq, Nat.reduceBneDiff, Nat.reduceBeqDiff])
    · have : i = (ordersSK (scene p).ds k).length := by omega
      subst this
      rw [List.take_length, ← hfk] at hys
      simp (maxSteps := 1000000) (disch := omega) only [push_cast, go_sem, wpS_tt, wpS_tf, wpS_ft, wpS_ff, wpCond_tt, wpCond_ff, Nat.reducePow, Int.reduceEq, Int.reduceLT, Int.reduceLE, Int.reduceAdd, Int.reduceSub, Int.reduceMul, Int.reduceToNat, Int.reduceBEq, Int.reduceBNe, ↓reduceIte, reduceCtorEq, Nat.reduceEqDiff, Nat.reduceAdd, Nat.reduceMul, Nat.reduceLT, Nat.reduceLeDiff, Nat.reduceSub, Nat.reduceDiv, Nat.reduceBEq, Nat.reduceBneDiff, Nat.reduceBeqDiff]
      refine hJ (⟨k + 1, e, γ, c⟩, ys.map RowR.V) _ _ ⟨by dsimp only; omega, ?_⟩ (by dsimp only; omega) ?_
      · dsimp only
        rw [fz_rowsR, hys]
      · (refine Less.start ?_; repeat (first | exact LessO.nil | exact LessO.all | refine LessO.skip (by decide) ?_ | refine LessO.upd ?_ ?_ | refine LessO.set ?_ ?_)) <;> (try simp (maxSteps := 1000000) (disch := omega) only [push_cast, go_sem, wpS_tt, wpS_tf, wpS_ft, wpS_ff, wpCond_tt, wpCond_ff, Nat.reducePow, Int.reduceEq, Int.reduceLT, Int.reduceLE, Int.reduceAdd, Int.reduceSub, Int.reduceMul, Int.reduceToNat, Int.reduceBEq, Int.reduceBNe, ↓reduceIte, reduceCtorEq, Nat.reduceEqDiff, Nat.reduceAdd, Nat.reduceMul, Nat.reduceLT, Nat.reduceLeDiff, Nat.reduceSub, Nat.reduceDiv, Nat.reduceBEq, Nat.reduceBneDiff, Nat.reduceBeqDiff])
        all_goals simp
  · have : k = 3 := by omega
    subst this
    refine Sat.of (S := [15]) (by kernel_rfl) ?_
    simp (maxSteps := 1000000) (disch := omega) only [push_cast, go_sem, wpS_tt, wpS_tf, wpS_ft, wpS_ff, wpCond_tt, wpCond_ff, Nat.reducePow, Int.reduceEq, Int.reduceLT, Int.reduceLE, Int.reduceAdd, Int.reduceSub, Int.reduceMul, Int.reduceToNat, Int.reduceBEq, Int.reduceBNe, ↓reduceIte, reduceCtorEq, Nat.reduceEqDiff, Nat.reduceAdd, Nat.reduceMul, Nat.reduceLT, Nat.reduceLeDiff, Nat.reduceSub, Nat.reduceDiv, Nat.reduceBEq, Nat.reduceBneDiff, Nat.reduceBeqDiff]
    refine Sat.of (S := []) (by kernel_rfl) ?_
    simp (maxSteps := 1000000) (disch := omega) only [push_cast, go_sem, wpS_tt, wpS_tf, wpS_ft, wpS_ff, wpCond_tt, wpCond_ff, Nat.reducePow, Int.reduceEq, Int.reduceLT, Int.reduceLE, Int.reduceAdd, Int.reduceSub, Int.reduceMul, Int.reduceToNat, Int.reduceBEq, Int.reduceBNe, ↓reduceIte, reduceCtorEq, Nat.reduceEqDiff, Nat.reduceAdd, Nat.reduceMul, Nat.reduceLT, Nat.reduceLeDiff, Nat.reduceSub, Nat.reduceDiv, Nat.reduceBEq, Nat.reduceBneDiff, Nat.reduceBeqDiff]
    refine ⟨_, fun _ _ h => h, 4, γ9, c9, e0, vs, rfl, by simp [Mem.set], hvs⟩
end Go.Proofs.Ytmmipjlogdggiaa
/-! ## All ways, by the reference -/
namespace Go.Proofs.Ytmmipjlogdggiaa
open Go.RowKit
set_option linter.unusedSimpArgs false
set_option linter.unusedVariables false
set_option pp.maxSteps 3000

def oneS (p : Prog) (f : List Int) (o : List (List Int)) : List Exe := if endsS p ⟨f, o⟩ then [⟨f, o⟩] else []
def allS (p : Prog) : List Exe := (compl (scene p).ds (events p).length []).flatMap fun f => (ordersSK (scene p).ds 3).flatMap fun o => oneS p f o
theorem oneS_le (p : Prog) (f : List Int) (o : List (List Int)) : (oneS p f o).length ≤ 1 := by unfold oneS; split <;> simp
theorem choices_lt {ds : List Do} {d : Do} {c : Int} (h : c ∈ choicesOf ds d) : c < ds.length := by
  unfold choicesOf at h
  split at h
  · simp only [List.mem_cons] at h
    rcases h with rfl | h
    · omega
    · obtain ⟨b, _, h1, rfl, _⟩ := mem_wrs h
      omega
  · simp at h; omega
theorem compl_row {ds : List Do} : ∀ {j : Nat} {fr f : List Int}, fr.length + j = ds.length → (∀ x ∈ fr, x < ds.length) → f ∈ compl ds j fr → f.length = ds.length ∧ ∀ x ∈ f, x < ds.length
  | 0, fr, f, hl, hx, h => by simp [compl] at h; subst h; exact ⟨by omega, hx⟩
  | j + 1, fr, f, hl, hx, h => by
    have hd : ds[fr.length]? = some ds[fr.length] := List.getElem?_eq_getElem (by omega)
    rw [compl, hd] at h
    simp only [List.mem_flatMap] at h
    obtain ⟨c, hc, h⟩ := h
    refine compl_row (by simp; omega) ?_ h
    intro x hx'
    simp only [List.mem_append, List.mem_singleton] at hx'
    rcases hx' with h | rfl
    · exact hx x h
    · exact choices_lt hc
theorem l12Froms0_fn (p : Prog) (hn : (events p).length ≤ 42) (hb : (compl (scene p).ds (events p).length []).length < 2 ^ 30) : Fp Try.prog 66 [progV p, .sl ((events p).map Evt.V), .nilsl, .nilsl] (.sl ((compl (scene p).ds (events p).length []).map intsV)) := by
  have h := l12Froms_fn p hn (events p).length ⟨none, 0, []⟩ none 0 26 [] (by simp) (by simpa using hb) (.inl rfl)
  exact rowsP_fp (Fc.nils (xs := [progV p, .sl ((events p).map Evt.V)]) (e1 := 3) (e2 := 26) h)
theorem specExecAll_ok (p : Prog) (hp : p.length < 2 ^ 40) (hok : progOk p = true) (hn : (events p).length ≤ 42) (hF : (compl (scene p).ds (events p).length []).length < 2 ^ 30) (hR : ∀ k : Nat, k < 3 → (rowsR (writersOf (scene p).ds k) (writersOf (scene p).ds k).length []).length < 2 ^ 20) (hB : ∀ k, k ≤ 3 → (ordersSK (scene p).ds k).length < 2 ^ 30)
    (hP : (compl (scene p).ds (events p).length []).length * (ordersSK (scene p).ds 3).length < 2 ^ 30) (hrows : ∀ o ∈ ordersSK (scene p).ds 3, ∀ row ∈ o, row.length < 2 ^ 20) : Fp Try.prog 36 [progV p] (.sl ((allS p).map Exe.V)) := by
  have hsl : (scene p).ds.length = (events p).length := by simp [scene]
  have hev := specExecEvents_fn p hp
  rw [hok, if_pos rfl] at hev
  refine Fc.fzRow (R' := fun r m => ∃ s1 γ cap e es, r = .msl s1 [] γ es.length cap ∧ m s1 = some (.own e γ cap es) ∧ es.map V.fz = (allS p).map Exe.V) ?_ (fun r m h => h)
  refine Fc.start (S := [20]) Try.func36 Try.ntmps36 Try.results36 rfl (by decide) rfl (by kernel_rfl) ?_
  simp (maxSteps := 1000000) (disch := omega) only [push_cast, go_sem, wpS_tt, wpS_tf, wpS_ft, wpS_ff, wpCond_tt, wpCond_ff, Nat.reducePow, Int.reduceEq, Int.reduceLT, Int.reduceLE, Int.reduceAdd, Int.reduceSub, Int.reduceMul, Int.reduceToNat, Int.reduceBEq, Int.reduceBNe, ↓reduceIte, reduceCtorEq, Nat.reduceEqDiff, Nat.reduceAdd, Nat.reduceMul, Nat.reduceLT, Nat.reduceLeDiff, Nat.reduceSub, Nat.reduceDiv, Nat.reduceBEq, Nat.reduceBneDiff, Nat.reduceBeqDiff, progV_eq]
  intro g1 g2
  refine callR.pure (specProgOk_fn p hp) rfl rfl ?_
  simp (maxSteps := 1000000) (disch := omega) only [push_cast, go_sem, wpS_tt, wpS_tf, wpS_ft, wpS_ff, wpCond_tt, wpCond_ff, Nat.reducePow, Int.reduceEq, Int.reduceLT, Int.reduceLE, Int.reduceAdd, Int.reduceSub, Int.reduceMul, Int.reduceToNat, Int.reduceBEq, Int.reduceBNe, ↓reduceIte, reduceCtorEq, Nat.reduceEqDiff, Nat.reduceAdd, Nat.reduceMul, Nat.reduceLT, Nat.reduceLeDiff, Nat.reduceSub, Nat.reduceDiv, Nat.reduceBEq, Nat.reduceBneDiff, Nat.reduceBeqDiff, hok]
  refine callR.pure hev rfl rfl ?_
  simp (maxSteps := 1000000) (disch := omega) only [push_cast, go_sem, wpS_tt, wpS_tf, wpS_ft, wpS_ff, wpCond_tt, wpCond_ff, Nat.reducePow, Int.reduceEq, Int.reduceLT, Int.reduceLE, Int.reduceAdd, Int.reduceSub, Int.reduceMul, Int.reduceToNat, Int.reduceBEq, Int.reduceBNe, ↓reduceIte, reduceCtorEq, Nat.reduceEqDiff, Nat.reduceAdd, Nat.reduceMul, Nat.reduceLT, Nat.reduceLeDiff, Nat.reduceSub, Nat.reduceDiv, Nat.reduceBEq, Nat.reduceBneDiff, Nat.reduceBeqDiff]
  refine callR.pure (l12Froms0_fn p hn hF) rfl rfl ?_
  simp (maxSteps := 1000000) (disch := omega) only [push_cast, go_sem, wpS_tt, wpS_tf, wpS_ft, wpS_ff, wpCond_tt, wpCond_ff, Nat.reducePow, Int.reduceEq, Int.reduceLT, Int.reduceLE, Int.reduceAdd, Int.reduceSub, Int.reduceMul, Int.reduceToNat, Int.reduceBEq, Int.reduceBNe, ↓reduceIte, reduceCtorEq, Nat.reduceEqDiff, Nat.reduceAdd, Nat.reduceMul, Nat.reduceLT, Nat.reduceLeDiff, Nat.reduceSub, Nat.reduceDiv, Nat.reduceBEq, Nat.reduceBneDiff, Nat.reduceBeqDiff]
  refine callR.pure (l12Orders_fn p hn hR hB) rfl rfl ?_
  simp (maxSteps := 1000000) (disch := omega) only [push_cast, go_sem, wpS_tt, wpS_tf, wpS_ft, wpS_ff, wpCond_tt, wpCond_ff, Nat.reducePow, Int.reduceEq, Int.reduceLT, Int.reduceLE, Int.reduceAdd, Int.reduceSub, Int.reduceMul, Int.reduceToNat, Int.reduceBEq, Int.reduceBNe, ↓reduceIte, reduceCtorEq, Nat.reduceEqDiff, Nat.reduceAdd, Nat.reduceMul, Nat.reduceLT, Nat.reduceLeDiff, Nat.reduceSub, Nat.reduceDiv, Nat.reduceBEq, Nat.reduceBneDiff, Nat.reduceBeqDiff]
  have ho1 : (ordersSK (scene p).ds 3).length < 2 ^ 30 := hB 3 (Nat.le_refl _)
  refine Sat.loop (σ := EvS × List Exe) (fun x => upd (upd (upd (upd (upd (upd noT 1 (.ptr 1 [] 0 0 g1 1)) 4 (.sl ((events p).map Evt.V))) 5 (.sl ((compl (scene p).ds (events p).length []).map intsV))) 6 (.sl ((ordersSK (scene p).ds 3).map rowsV))) 7 (.int .i64 x.1.k)) 3 (.msl 3 [] x.1.γ x.2.length x.1.c)) (fun x => (noM.set 1 (.own 25 (some g1) 1 [.agg [.sl (p.map thrV)]])).set 3 (.own x.1.e x.1.γ x.1.c (x.2.map Exe.V)))
    (fun x => x.1.k ≤ (compl (scene p).ds (events p).length []).length ∧ (x.1.γ = none ∨ x.1.e = 29) ∧ x.2 = ((compl (scene p).ds (events p).length []).take x.1.k).flatMap fun f => (ordersSK (scene p).ds 3).flatMap fun o => oneS p f o) (fun x => (compl (scene p).ds (events p).length []).length - x.1.k) (⟨0, 29, some g2, 0⟩, []) (by simp) ?_ ?_
  · (refine Less.start ?_; repeat (first | exact LessO.nil | exact LessO.all | refine LessO.skip (by decide) ?_ | refine LessO.upd ?_ ?_ | refine LessO.set ?_ ?_)) <;> (try simp (maxSteps := 1000000) (disch := omega) only [push_cast, go_sem, wpS_tt, wpS_tf, wpS_ft, wpS_ff, wpCond_tt, wpCond_ff, Nat.reducePow, Int.reduceEq, Int.reduceLT, Int.reduceLE, Int.reduceAdd, Int.reduceSub, Int.reduceMul, Int.reduceToNat, Int.reduceBEq, Int.reduceBNe, ↓reduceIte, reduceCtorEq, Nat.reduceEqDiff, Nat.reduceAdd, Nat.reduceMul, Nat.reduceLT, Nat.reduceLeDiff, Nat.reduceSub, Nat.reduceDiv, Nat.reduceBEq, Nat.reduceBneDiff, Nat.reduceBeqDiff])
    all_goals rfl
  rintro ⟨⟨i, e, γ, c⟩, ys⟩ ⟨hi, hγ, hys⟩ J hJ
  simp only at hi hγ hys hJ
  refine Sat.of (S := []) (by kernel_rfl) ?_
  rcases Nat.lt_or_ge i (compl (scene p).ds (events p).length []).length with hlt | hge
  · obtain ⟨f, hf⟩ : ∃ f, (compl (scene p).ds (events p).length [])[i]? = some f := ⟨_, List.getElem?_eq_getElem hlt⟩
    obtain ⟨hfl, hfx⟩ := compl_row (by simp; omega) (by simp) (List.mem_of_getElem? hf)
    rw [hsl] at hfl hfx
    simp (maxSteps := 1000000) (disch := omega) only [push_cast, go_sem, wpS_tt, wpS_tf, wpS_ft, wpS_ff, wpCond_tt, wpCond_ff, Nat.reducePow, Int.reduceEq, Int.reduceLT, Int.reduceLE, Int.reduceAdd, Int.reduceSub, Int.reduceMul, Int.reduceToNat, Int.reduceBEq, Int.reduceBNe, ↓reduceIte, reduceCtorEq, Nat.reduceEqDiff, Nat.reduceAdd, Nat.reduceMul, Nat.reduceLT, Nat.reduceLeDiff, Nat.reduceSub, Nat.reduceDiv, Nat.reduceBEq, Nat.reduceBneDiff, Nat.reduceBeqDiff, hlt]
    refine Sat.loop (σ := EvS × List Exe) (fun x => upd (upd (upd (upd (upd (upd (upd noT 1 (.ptr 1 [] 0 0 g1 1)) 4 (.sl ((events p).map Evt.V))) 5 (.sl ((compl (scene p).ds (events p).length []).map intsV))) 6 (.sl ((ordersSK (scene p).ds 3).map rowsV))) 7 (.int .i64 i)) 8 (.int .i64 x.1.k)) 3 (.msl 3 [] x.1.γ x.2.length x.1.c)) (fun x => (noM.set 1 (.own 25 (some g1) 1 [.agg [.sl (p.map thrV)]])).set 3 (.own x.1.e x.1.γ x.1.c (x.2.map Exe.V)))
      (fun x => x.1.k ≤ (ordersSK (scene p).ds 3).length ∧ (x.1.γ = none ∨ x.1.e = 29) ∧ x.2 = (((compl (scene p).ds (events p).length []).take i).flatMap fun f => (ordersSK (scene p).ds 3).flatMap fun o => oneS p f o) ++ ((ordersSK (scene p).ds 3).take x.1.k).flatMap fun o => oneS p f o) (fun x => (ordersSK (scene p).ds 3).length - x.1.k) (⟨0, e, γ, c⟩, ys) (by simp [hγ, hys]) ?_ ?_
    · (refine Less.start ?_; repeat (first | exact LessO.nil | exact LessO.all | refine LessO.skip (by decide) ?_ | refine LessO.upd ?_ ?_ | refine LessO.set ?_ ?_)) <;> (try simp (maxSteps := 1000000) (disch := omega) only [push_cast, go_sem, wpS_tt, wpS_tf, wpS_ft, wpS_ff, wpCond_tt, wpCond_ff, Nat.reducePow, Int.reduceEq, Int.reduceLT, Int.reduceLE, Int.reduceAdd, Int.reduceSub, Int.reduceMul, Int.reduceToNat, Int.reduceBEq, Int.reduceBNe, ↓reduceIte, reduceCtorEq, Nat.reduceEqDiff, Nat.reduceAdd, Nat.reduceMul, Nat.reduceLT, Nat.reduceLeDiff, Nat.reduceSub, Nat.reduceDiv, Nat.reduceBEq, Nat.reduceBneDiff, Nat.reduceBeqDiff])
    rintro ⟨⟨j, e2, γ2, c2⟩, zs⟩ ⟨hj, hγ2, hzs⟩ J2 hJ2
    simp only at hj hγ2 hzs hJ2
    refine Sat.of (S := [18]) (by kernel_rfl) ?_
    rcases Nat.lt_or_ge j (ordersSK (scene p).ds 3).length with hlt2 | hge2
    · obtain ⟨o, ho⟩ : ∃ o, (ordersSK (scene p).ds 3)[j]? = some o := ⟨_, List.getElem?_eq_getElem hlt2⟩
      have hol : o.length = 3 := ordersSK_row (List.mem_of_getElem? ho)
      simp (maxSteps := 1000000) (disch := omega) only [push_cast, go_sem, wpS_tt, wpS_tf, wpS_ft, wpS_ff, wpCond_tt, wpCond_ff, Nat.reducePow, Int.reduceEq, Int.reduceLT, Int.reduceLE, Int.reduceAdd, Int.reduceSub, Int.reduceMul, Int.reduceToNat, Int.reduceBEq, Int.reduceBNe, ↓reduceIte, reduceCtorEq, Nat.reduceEqDiff, Nat.reduceAdd, Nat.reduceMul, Nat.reduceLT, Nat.reduceLeDiff, Nat.reduceSub, Nat.reduceDiv, Nat.reduceBEq, Nat.reduceBneDiff, Nat.reduceBeqDiff, hf, hlt, ho, hlt2, intsV_eq, rowsV_eq]
      intro g4
      refine ⟨by omega, fun γ3 c3 _ => ?_⟩
      intro g3
      refine Sat.loop (σ := EvS × List RowI) (fun x => upd (upd (upd (upd (upd (upd (upd (upd (upd noT 1 (.ptr 1 [] 0 0 g1 1)) 4 (.sl ((events p).map Evt.V))) 5 (.sl ((compl (scene p).ds (events p).length []).map intsV))) 6 (.sl ((ordersSK (scene p).ds 3).map rowsV))) 7 (.int .i64 i)) 8 (.int .i64 j)) 3 (.msl 3 [] γ2 zs.length c2)) 9 (.ptr 9 [] 0 0 g3 2)) 10 (.int .i64 x.1.k)) (fun x => ((noM.set 1 (.own 25 (some g1) 1 [.agg [.sl (p.map thrV)]])).set 3 (.own e2 γ2 c2 (zs.map Exe.V))).set 9 (.own 29 (some g3) 1 [.agg [.own 3 γ3 c3 (f.map (V.int .i64)), .own x.1.e x.1.γ x.1.c (x.2.map RowI.V)]]))
        (fun x => x.1.k ≤ o.length ∧ (x.1.γ = none ∨ x.1.e = 26) ∧ x.2.map RowI.l = o.take x.1.k) (fun x => o.length - x.1.k) (⟨0, 0, none, 0⟩, []) (by simp) ?_ ?_
      · (refine Less.start ?_; repeat (first | exact LessO.nil | exact LessO.all | refine LessO.skip (by decide) ?_ | refine LessO.upd ?_ ?_ | refine LessO.set ?_ ?_)) <;> (try simp (maxSteps := 1000000) (disch := omega) only [push_cast, go_sem, wpS_tt, wpS_tf, wpS_ft, wpS_ff, wpCond_tt, wpCond_ff, Nat.reducePow, Int.reduceEq, Int.reduceLT, Int.reduceLE, Int.reduceAdd, Int.reduceSub, Int.reduceMul, Int.reduceToNat, Int.reduceBEq, Int.reduceBNe, ↓reduceIte, reduceCtorEq, Nat.reduceEqDiff, Nat.reduceAdd, Nat.reduceMul, Nat.reduceLT, Nat.reduceLeDiff, Nat.reduceSub, Nat.reduceDiv, Nat.reduceBEq, Nat.reduceBneDiff, Nat.reduceBeqDiff])
        all_goals rfl
      rintro ⟨⟨m, e4, γ4, c4⟩, ws⟩ ⟨hm, hγ4, hws⟩ J3 hJ3
      simp only at hm hγ4 hws hJ3
      refine Sat.of (S := []) (by kernel_rfl) ?_
      rcases Nat.lt_or_ge m o.length with hlt3 | hge3
      · obtain ⟨row, hr⟩ : ∃ row, o[m]? = some row := ⟨_, List.getElem?_eq_getElem hlt3⟩
        have hrl := hrows o (List.mem_of_getElem? ho) row (List.mem_of_getElem? hr)
        have hwl : ws.length = m := by have := congrArg List.length hws; rw [List.length_map, List.length_take, Nat.min_eq_left hm] at this; exact this
        have hγ4' : (γ4 = none ∨ e4 = 26) = True := by simp only [hγ4]
        simp (maxSteps := 1000000) (disch := omega) only [push_cast, go_sem, wpS_tt, wpS_tf, wpS_ft, wpS_ff, wpCond_tt, wpCond_ff, Nat.reducePow, Int.reduceEq, Int.reduceLT, Int.reduceLE, Int.reduceAdd, Int.reduceSub, Int.reduceMul, Int.reduceToNat, Int.reduceBEq, Int.reduceBNe, ↓reduceIte, reduceCtorEq, Nat.reduceEqDiff, Nat.reduceAdd, Nat.reduceMul, Nat.reduceLT, Nat.reduceLeDiff, Nat.reduceSub, Nat.reduceDiv, Nat.reduceBEq, Nat.reduceBneDiff, Nat.reduceBeqDiff, ho, hlt2, hr, hlt3, rowsV_eq, intsV_eq]
        refine Sat.drawnE [(1, 2), (1, 6), (2, 6), (1, 9), (2, 9), (1, 10), (1, 11)] [] [] (fun _ _ _ => none) (by kernel_rfl) (by kernel_rfl) ?_
        simp (maxSteps := 1000000) (disch := omega) only [push_cast, go_sem, wpS_tt, wpS_tf, wpS_ft, wpS_ff, wpCond_tt, wpCond_ff, Nat.reducePow, Int.reduceEq, Int.reduceLT, Int.reduceLE, Int.reduceAdd, Int.reduceSub, Int.reduceMul, Int.reduceToNat, Int.reduceBEq, Int.reduceBNe, ↓reduceIte, reduceCtorEq, Nat.reduceEqDiff, Nat.reduceAdd, Nat.reduceMul, Nat.reduceLT, Nat.reduceLeDiff, Nat.reduceSub, Nat.reduceDiv, Nat.reduceBEq, Nat.reduceBneDiff, Nat.reduceBeqDiff, ho, hlt2, hr, hlt3, rowsV_eq, intsV_eq]
        intro g5
        refine ⟨by omega, fun γ5 c5 _ => ?_⟩
        intro g6
        cases hfl : (V.own 3 γ5 c5 (row.map (V.int .i64))).flatC <;> simp (maxSteps := 1000000) (disch := omega) only [push_cast, go_sem, wpS_tt, wpS_tf, wpS_ft, wpS_ff, wpCond_tt, wpCond_ff, Nat.reducePow, Int.reduceEq, Int.reduceLT, Int.reduceLE, Int.reduceAdd, Int.reduceSub, Int.reduceMul, Int.reduceToNat, Int.reduceBEq, Int.reduceBNe, ↓reduceIte, reduceCtorEq, Nat.reduceEqDiff, Nat.reduceAdd, Nat.reduceMul, Nat.reduceLT, Nat.reduceLeDiff, Nat.reduceSub, Nat.reduceDiv, Nat.reduceBEq, Nat.reduceBneDiff, Nat.reduceBeqDiff, hγ4', hfl]
        all_goals
          refine ⟨by omega, fun γ6 c6 _ => ?_⟩
          refine hJ3 (⟨m + 1, 26, γ6, c6⟩, ws ++ [⟨γ5, c5, row⟩]) _ _ ⟨by dsimp only; omega, .inr rfl, ?_⟩ (by dsimp only; omega) ?_
          · dsimp only
            rw [List.map_append, hws, take_get hr]
            rfl
          · (refine Less.start ?_; repeat (first | exact LessO.nil | exact LessO.all | refine LessO.skip (by decide) ?_ | refine LessO.upd ?_ ?_ | refine LessO.set ?_ ?_)) <;> (try simp (maxSteps := 1000000) (disch := omega) only [push_cast, go_sem, wpS_tt, wpS_tf, wpS_ft, wpS_ff, wpCond_tt, wpCond_ff, Nat.reducePow, Int.reduceEq, Int.reduceLT, Int.reduceLE, Int.reduceAdd, Int.reduceSub, Int.reduceMul, Int.reduceToNat, Int.reduceBEq, Int.reduceBNe, ↓reduceIte, reduceCtorEq, Nat.reduceEqDiff, Nat.reduceAdd, Nat.reduceMul, Nat.reduceLT, Nat.reduceLeDiff, Nat.reduceSub, Nat.reduceDiv, Nat.reduceBEq, Nat.reduceBneDiff, Nat.reduceBeqDiff])
            all_goals simp [RowI.V]
      · have : m = o.length := by omega
        subst this
        rw [List.take_length] at hws
        simp (maxSteps := 1000000) (disch := omega) only [push_cast, go_sem, wpS_tt, wpS_tf, wpS_ft, wpS_ff, wpCond_tt, wpCond_ff, Nat.reducePow, Int.reduceEq, Int.reduceLT, Int.reduceLE, Int.reduceAdd, Int.reduceSub, Int.reduceMul, Int.reduceToNat, Int.reduceBEq, Int.reduceBNe, ↓reduceIte, reduceCtorEq, Nat.reduceEqDiff, Nat.reduceAdd, Nat.reduceMul, Nat.reduceLT, Nat.reduceLeDiff, Nat.reduceSub, Nat.reduceDiv, Nat.reduceBEq, Nat.reduceBneDiff, Nat.reduceBeqDiff, ho, hlt2, rowsV_eq]
        refine Sat.freezeC 9 [] 0 0 (n0 := .own 29 (some g3) 1 [.agg [.own 3 γ3 c3 (f.map (V.int .i64)), .own e4 γ4 c4 (ws.map RowI.V)]]) (d := .own 3 γ3 c3 (f.map (V.int .i64))) rfl rfl rfl ?_
        have e1 : (V.own 3 γ3 c3 (f.map (V.int .i64))).fz = .sl (f.map (V.int .i64)) := by simp only [V.fz, fzs_map, fzs_int]
        have e2' : (V.own e4 γ4 c4 (ws.map RowI.V)).fz = .sl (o.map intsV) := by simp only [V.fz, fzs_map, fz_rowsI, hws]
        rw [e1]
        refine Sat.freezeC 9 [] 0 1 (n0 := .own 29 (some g3) 1 [.agg [.sl (f.map (V.int .i64)), .own e4 γ4 c4 (ws.map RowI.V)]]) (d := .own e4 γ4 c4 (ws.map RowI.V)) rfl rfl rfl ?_
        rw [e2']
        refine Sat.of (S := []) (by kernel_rfl) ?_
        simp (maxSteps := 1000000) (disch := omega) only [push_cast, go_sem, wpS_tt, wpS_tf, wpS_ft, wpS_ff, wpCond_tt, wpCond_ff, Nat.reducePow, Int.reduceEq, Int.reduceLT, Int.reduceLE, Int.reduceAdd, Int.reduceSub, Int.reduceMul, Int.reduceToNat, Int.reduceBEq, Int.reduceBNe, ↓reduceIte, reduceCtorEq, Nat.reduceEqDiff, Nat.reduceAdd, Nat.reduceMul, Nat.reduceLT, Nat.reduceLeDiff, Nat.reduceSub, Nat.reduceDiv, Nat.reduceBEq, Nat.reduceBneDiff, Nat.reduceBeqDiff]
        refine callR.pure (l12Ends_fn p ⟨f, o⟩ hn hfl hfx) rfl rfl ?_
        cases hend : endsS p ⟨f, o⟩
        · simp (maxSteps := 1000000) (disch := omega) only [push_cast, go_sem, wpS_tt, wpS_tf, wpS_ft, wpS_ff, wpCond_tt, wpCond_ff, Nat.reducePow, Int.reduceEq, Int.reduceLT, Int.reduceLE, Int.reduceAdd, Int.reduceSub, Int.reduceMul, Int.reduceToNat, Int.reduceBEq, Int.reduceBNe, ↓reduceIte, reduceCtorEq, Nat.reduceEqDiff, Nat.reduceAdd, Nat.reduceMul, Nat.reduceLT, Nat.reduceLeDiff, Nat.reduceSub, Nat.reduceDiv, Nat.reduceBEq, Nat.reduceBneDiff, Nat.reduceBeqDiff]
          refine hJ2 (⟨j + 1, e2, γ2, c2⟩, zs) _ _ ⟨by dsimp only; omega, hγ2, ?_⟩ (by dsimp only; omega) ?_
          · dsimp only
            rw [hzs, take_get ho, List.flatMap_append]
            simp [oneS, hend]
          · (refine Less.start ?_; repeat (first | exact LessO.nil | exact LessO.all | refine LessO.skip (by decide) ?_ | refine LessO.upd ?_ ?_ | refine LessO.set ?_ ?_)) <;> (try simp (maxSteps := 1000000) (disch := omega) only [push_cast, go_sem, wpS_tt, wpS_tf, wpS_ft, wpS_ff, wpCond_tt, wpCond_ff, Nat.reducePow, Int.reduceEq, Int.reduceLT, Int.reduceLE, Int.reduceAdd, Int.reduceSub, Int.reduceMul, Int.reduceToNat, Int.reduceBEq, Int.reduceBNe, ↓reduceIte, reduceCtorEq, Nat.reduceEqDiff, Nat.reduceAdd, Nat.reduceMul, Nat.reduceLT, Nat.reduceLeDiff, Nat.reduceSub, Nat.reduceDiv, Nat.reduceBEq, Nat.reduceBneDiff, Nat.reduceBeqDiff])
        · have hγ2' : (γ2 = none ∨ e2 = 29) = True := by simp only [hγ2]
          have hzb : zs.length ≤ i * (ordersSK (scene p).ds 3).length + j := by
            rw [hzs, List.length_append]
            have k1 := flatMap_le (f := fun f => (ordersSK (scene p).ds 3).flatMap fun o => oneS p f o) (n := (ordersSK (scene p).ds 3).length) (fun f => by have := flatMap_le (oneS_le p f) (ordersSK (scene p).ds 3); rw [Nat.mul_one] at this; exact this) ((compl (scene p).ds (events p).length []).take i)
            have k2 := flatMap_le (oneS_le p f) ((ordersSK (scene p).ds 3).take j)
            rw [List.length_take, Nat.min_eq_left hi] at k1
            rw [List.length_take, Nat.min_eq_left hj, Nat.mul_one] at k2
            exact Nat.add_le_add k1 k2
          have hm1 : (i + 1) * (ordersSK (scene p).ds 3).length ≤ (compl (scene p).ds (events p).length []).length * (ordersSK (scene p).ds 3).length := Nat.mul_le_mul_right _ (by omega)
          rw [Nat.succ_mul] at hm1
          have hzc : zs.length + 1 < 2 ^ 30 + 1 := by generalize i * (ordersSK (scene p).ds 3).length = A at *; generalize (compl (scene p).ds (events p).length []).length * (ordersSK (scene p).ds 3).length = B at *; omega
          simp (maxSteps := 1000000) (disch := omega) only [push_cast, go_sem, wpS_tt, wpS_tf, wpS_ft, wpS_ff, wpCond_tt, wpCond_ff, Nat.reducePow, Int.reduceEq, Int.reduceLT, Int.reduceLE, Int.reduceAdd, Int.reduceSub, Int.reduceMul, Int.reduceToNat, Int.reduceBEq, Int.reduceBNe, ↓reduceIte, reduceCtorEq, Nat.reduceEqDiff, Nat.reduceAdd, Nat.reduceMul, Nat.reduceLT, Nat.reduceLeDiff, Nat.reduceSub, Nat.reduceDiv, Nat.reduceBEq, Nat.reduceBneDiff, Nat.reduceBeqDiff, hγ2', Exe.V_eq]
          intro g5
          refine ⟨by omega, fun γ5 c5 _ => ?_⟩
          refine hJ2 (⟨j + 1, 29, γ5, c5⟩, zs ++ [⟨f, o⟩]) _ _ ⟨by dsimp only; omega, .inr rfl, ?_⟩ (by dsimp only; omega) ?_
          · dsimp only
            rw [hzs, take_get ho, List.flatMap_append, List.append_assoc]
            simp [oneS, hend]
          · (refine Less.start ?_; repeat (first | exact LessO.nil | exact LessO.all | refine LessO.skip (by decide) ?_ | refine LessO.upd ?_ ?_ | refine LessO.set ?_ ?_)) <;> (try simp (maxSteps := 1000000) (disch := omega) only [push_cast, go_sem, wpS_tt, wpS_tf, wpS_ft, wpS_ff, wpCond_tt, wpCond_ff, Nat.reducePow, Int.reduceEq, Int.reduceLT, Int.reduceLE, Int.reduceAdd, Int.reduceSub, Int.reduceMul, Int.reduceToNat, Int.reduceBEq, Int.reduceBNe, ↓reduceIte, reduceCtorEq, Nat.reduceEqDiff, Nat.reduceAdd, Nat.reduceMul, Nat.reduceLT, Nat.reduceLeDiff, Nat.reduceSub, Nat.reduceDiv, Nat.reduceBEq, Nat.reduceBneDiff, Nat.reduceBeqDiff])
            all_goals simp [Exe.V]
    · have : j = (ordersSK (scene p).ds 3).length := by omega
      subst this
      simp (maxSteps := 1000000) (disch := omega) only [push_cast, go_sem, wpS_tt, wpS_tf, wpS_ft, wpS_ff, wpCond_tt, wpCond_ff, Nat.reducePow, Int.reduceEq, Int.reduceLT, Int.reduceLE, Int.reduceAdd, Int.reduceSub, Int.reduceMul, Int.reduceToNat, Int.reduceBEq, Int.reduceBNe, ↓reduceIte, reduceCtorEq, Nat.reduceEqDiff, Nat.reduceAdd, Nat.reduceMul, Nat.reduceLT, Nat.reduceLeDiff, Nat.reduceSub, Nat.reduceDiv, Nat.reduceBEq, Nat.reduceBneDiff, Nat.reduceBeqDiff]
      refine hJ (⟨i + 1, e2, γ2, c2⟩, zs) _ _ ⟨by dsimp only; omega, hγ2, ?_⟩ (by dsimp only; omega) ?_
      · dsimp only
        rw [hzs, List.take_length, take_get hf, List.flatMap_append]
        simp
      · (refine Less.start ?_; repeat (first | exact LessO.nil | exact LessO.all | refine LessO.skip (by decide) ?_ | refine LessO.upd ?_ ?_ | refine LessO.set ?_ ?_)) <;> (try simp (maxSteps := 1000000) (disch := omega) only [push_cast, go_sem, wpS_tt, wpS_tf, wpS_ft, wpS_ff, wpCond_tt, wpCond_ff, Nat.reducePow, Int.reduceEq, Int.reduceLT, Int.reduceLE, Int.reduceAdd, Int.reduceSub, Int.reduceMul, Int.reduceToNat, Int.reduceBEq, Int.reduceBNe, ↓reduceIte, reduceCtorEq, Nat.reduceEqDiff, Nat.reduceAdd, Nat.reduceMul, Nat.reduceLT, Nat.reduceLeDiff, Nat.reduceSub, Nat.reduceDiv, Nat.reduceBEq, Nat.reduceBneDiff, Nat.reduceBeqDiff])
  · have : i = (compl (scene p).ds (events p).length []).length := by omega
    subst this
    rw [List.take_length] at hys
    simp (maxSteps := 1000000) (disch := omega) only [push_cast, go_sem, wpS_tt, wpS_tf, wpS_ft, wpS_ff, wpCond_tt, wpCond_ff, Nat.reducePow, Int.reduceEq, Int.reduceLT, Int.reduceLE, Int.reduceAdd, Int.reduceSub, Int.reduceMul, Int.reduceToNat, Int.reduceBEq, Int.reduceBNe, ↓reduceIte, reduceCtorEq, Nat.reduceEqDiff, Nat.reduceAdd, Nat.reduceMul, Nat.reduceLT, Nat.reduceLeDiff, Nat.reduceSub, Nat.reduceDiv, Nat.reduceBEq, Nat.reduceBneDiff, Nat.reduceBeqDiff]
    refine Sat.of (S := []) (by kernel_rfl) ?_
    simp (maxSteps := 1000000) (disch := omega) only [push_cast, go_sem, wpS_tt, wpS_tf, wpS_ft, wpS_ff, wpCond_tt, wpCond_ff, Nat.reducePow, Int.reduceEq, Int.reduceLT, Int.reduceLE, Int.reduceAdd, Int.reduceSub, Int.reduceMul, Int.reduceToNat, Int.reduceBEq, Int.reduceBNe, ↓reduceIte, reduceCtorEq, Nat.reduceEqDiff, Nat.reduceAdd, Nat.reduceMul, Nat.reduceLT, Nat.reduceLeDiff, Nat.reduceSub, Nat.reduceDiv, Nat.reduceBEq, Nat.reduceBneDiff, Nat.reduceBeqDiff]
    refine ⟨_, fun _ _ h => h, 2, γ, c, e, ys.map Exe.V, by rw [List.length_map], by simp [Mem.set], ?_⟩
    rw [fzs_Exe, hys]; rfl
end Go.Proofs.Ytmmipjlogdggiaa
