/-
  'FnExecAll' answers true at every input, and leaves its argument as it was: the row.
  For every slice of bytes that can be read, of whatever length.
-/
import Derived.Test.YtmmipjlogdggiaaMf
import Derived.Test.YtmmipjlogdggiaaRows
import Derived.ProofKit
import Derived.OpenShut
import Derived.ChangeSlices
import Derived.JoinedOf
import Derived.JoinedAt
import Derived.Deep.DeepHandedRow
import Derived.Lib.LaidTab
/-! ## Draws: a program and one way in which all may have been, mostly -/
namespace Go.Proofs.Ytmmipjlogdggiaa
open Go.RowKit
set_option linter.unusedSimpArgs false
set_option linter.unusedVariables false
set_option pp.maxSteps 3000

/-- What is drawn: within these bounds. -/
structure Exe.few (x : Exe) : Prop where
  fr : x.fr.length ≤ 43
  od : x.od.length = 3
  row : ∀ r ∈ x.od, r.length ≤ 43
theorem modInts (l : List Int) (k : Nat) (z : Int) : (l.map (V.int .i64)).modify k (fun x => x.setC 0 (V.int .i64 z)) = (l.set k z).map (V.int .i64) := by
  apply List.ext_getElem?
  intro i
  rw [List.getElem?_modify, List.getElem?_map, List.getElem?_map, List.getElem?_set]
  by_cases h : k = i
  · subst h
    cases hl : l[k]? with
    | none => have := List.getElem?_eq_none_iff.1 hl; simp; omega
    | some a => have := (List.getElem?_eq_some_iff.1 hl).1; simp [this, V.setC]
  · simp [h]
theorem l71Exec_rd (bs : List Int) (hb : Bytes bs) (g p : Nat) (hp : p < 2 ^ 27) : Fr Try.prog 14 [] g (rdO bs g p)
    (fun r o' => ∃ (x : Prog) (y : Exe), r = .tuple [progV x, y.V] ∧ x.length ≤ 3 ∧ (∀ l ∈ x, l.length < 2 ^ 11) ∧ y.few ∧ ∃ q, p ≤ q ∧ q ≤ p + 2 ^ 22 ∧ o' = rdO bs g q) := by
  refine Fc.start (S := [4, 5, 2006]) Try.func14 Try.ntmps14 Try.results14 rfl (by decide) rfl (by kernel_rfl) ?_
  simp (maxSteps := 1000000) (disch := omega) only [push_cast, go_sem, wpS_tt, wpS_tf, wpS_ft, wpS_ff, wpCond_tt, wpCond_ff, Nat.reducePow, Int.reduceEq, Int.reduceLT, Int.reduceLE, Int.reduceAdd, Int.reduceSub, Int.reduceMul, Int.reduceToNat, Int.reduceBEq, Int.reduceBNe, ↓reduceIte, reduceCtorEq, Nat.reduceEqDiff, Nat.reduceAdd, Nat.reduceMul, Nat.reduceLT, Nat.reduceLeDiff, Nat.reduceSub, Nat.reduceDiv, Nat.reduceBEq, Nat.reduceBneDiff, Nat.reduceBeqDiff]
  intro g2 g3
  refine callR.rd (l71Any_rd bs hb g p hp) rfl rfl rfl ?_
  rintro r o' ⟨x, rfl, hx1, hx2, q, hq1, hq2, rfl⟩
  simp (maxSteps := 1000000) (disch := omega) only [push_cast, go_sem, wpS_tt, wpS_tf, wpS_ft, wpS_ff, wpCond_tt, wpCond_ff, Nat.reducePow, Int.reduceEq, Int.reduceLT, Int.reduceLE, Int.reduceAdd, Int.reduceSub, Int.reduceMul, Int.reduceToNat, Int.reduceBEq, Int.reduceBNe, ↓reduceIte, reduceCtorEq, Nat.reduceEqDiff, Nat.reduceAdd, Nat.reduceMul, Nat.reduceLT, Nat.reduceLeDiff, Nat.reduceSub, Nat.reduceDiv, Nat.reduceBEq, Nat.reduceBneDiff, Nat.reduceBeqDiff, progV_eq]
  intro g4
  refine callR.new (Q := fun r ob => ∃ (γ : Option Nat) (cap : Nat) (e : TypeId) (es : List RowE), es.map RowE.x = specAll x ∧ (∀ x ∈ es, x.γ' = none ∨ x.e = 26) ∧ (γ = none ∨ e = 29) ∧ r = .msl 100 [] γ es.length cap ∧ ob = .own e γ cap (es.map RowE.V))
    ((specExecAllO_fn x (by omega)).imp (by rintro r m ⟨γ, cap, e, es, h1, h2, h3, h4, rfl⟩; exact ⟨_, ⟨γ, cap, e, es, h1, h2, h3, h4, rfl⟩, rfl⟩)) rfl rfl ?_
  rintro r ob ⟨γ, cap, e, es, h1, h2, h3, rfl, rfl⟩
  have hel : es.length < 2 ^ 30 := by rw [← List.length_map (f := RowE.x), h1]; exact specAll_le x
  cases hes : ((es.length : Int) == 0)
  · simp (maxSteps := 1000000) (disch := omega) only [push_cast, go_sem, wpS_tt, wpS_tf, wpS_ft, wpS_ff, wpCond_tt, wpCond_ff, Nat.reducePow, Int.reduceEq, Int.reduceLT, Int.reduceLE, Int.reduceAdd, Int.reduceSub, Int.reduceMul, Int.reduceToNat, Int.reduceBEq, Int.reduceBNe, ↓reduceIte, reduceCtorEq, Nat.reduceEqDiff, Nat.reduceAdd, Nat.reduceMul, Nat.reduceLT, Nat.reduceLeDiff, Nat.reduceSub, Nat.reduceDiv, Nat.reduceBEq, Nat.reduceBneDiff, Nat.reduceBeqDiff, hes]
    have hne : es ≠ [] := fun h => by subst h; simp at hes
    have hne0 : 0 < es.length := List.length_pos_iff.2 hne
    refine Sat.someG (o := 5) (e := e) (γ := γ) (cap := cap) (es := es.map RowE.V) rfl (by simpa using hne) ?_
    rintro g5 rfl
    have he : e = 29 := h3.resolve_left nofun
    subst he
    refine Sat.cutW 5 (σ := Nat × Nat) (fun s => upd (upd (upd (upd (upd (upd noT 0 (.ptr 0 [] 0 0 g 2)) 2 (.ptr 2 [] 0 0 g2 1)) 3 (.ptr 3 [] 0 0 g3 2)) 4 (.ptr 4 [] 0 0 g4 1)) 21 (.msl 5 [] (some g5) es.length cap)) 25 (.int .i64 s.1))
      (fun s => ((((noM.set 0 (rdO bs g s.2)).set 2 (.own 25 (some g2) 1 [.agg [.own 0 none 0 []]])).set 3 (.own 29 (some g3) 1 [.agg [.own 0 none 0 [], .own 0 none 0 []]])).set 4 (.own 25 (some g4) 1 [.agg [.sl (x.map thrV)]])).set 5 (.own 29 (some g5) cap (es.map RowE.V)))
      (fun s => s.1 < es.length ∧ s.2 = q + 1) (by kernel_rfl) ?_ ?_
    · simp (maxSteps := 1000000) (disch := omega) only [push_cast, go_sem, wpS_tt, wpS_tf, wpS_ft, wpS_ff, wpCond_tt, wpCond_ff, Nat.reducePow, Int.reduceEq, Int.reduceLT, Int.reduceLE, Int.reduceAdd, Int.reduceSub, Int.reduceMul, Int.reduceToNat, Int.reduceBEq, Int.reduceBNe, ↓reduceIte, reduceCtorEq, Nat.reduceEqDiff, Nat.reduceAdd, Nat.reduceMul, Nat.reduceLT, Nat.reduceLeDiff, Nat.reduceSub, Nat.reduceDiv, Nat.reduceBEq, Nat.reduceBneDiff, Nat.reduceBeqDiff]
      refine callR.rd (pick_rd bs hb g q (by omega) es.length (by omega)) rfl rfl rfl ?_
      rintro r o' ⟨v, rfl, hv0, hv1, _, rfl⟩
      obtain ⟨v, rfl⟩ := Int.eq_ofNat_of_zero_le hv0
      simp (maxSteps := 1000000) (disch := omega) only [push_cast, go_sem, wpS_tt, wpS_tf, wpS_ft, wpS_ff, wpCond_tt, wpCond_ff, Nat.reducePow, Int.reduceEq, Int.reduceLT, Int.reduceLE, Int.reduceAdd, Int.reduceSub, Int.reduceMul, Int.reduceToNat, Int.reduceBEq, Int.reduceBNe, ↓reduceIte, reduceCtorEq, Nat.reduceEqDiff, Nat.reduceAdd, Nat.reduceMul, Nat.reduceLT, Nat.reduceLeDiff, Nat.reduceSub, Nat.reduceDiv, Nat.reduceBEq, Nat.reduceBneDiff, Nat.reduceBeqDiff]
      refine ⟨(v, q + 1), ⟨by have := hv1 (by omega); dsimp only; omega, rfl⟩, ?_⟩
      (refine Less.start ?_; repeat (first | exact LessO.nil | exact LessO.all | refine LessO.skip (by decide) ?_ | refine LessO.upd ?_ ?_ | refine LessO.set ?_ ?_)) <;> (try simp (maxSteps := 1000000) (disch := omega) only [push_cast, go_sem, wpS_tt, wpS_tf, wpS_ft, wpS_ff, wpCond_tt, wpCond_ff, Nat.reducePow, Int.reduceEq, Int.reduceLT, Int.reduceLE, Int.reduceAdd, Int.reduceSub, Int.reduceMul, Int.reduceToNat, Int.reduceBEq, Int.reduceBNe, ↓reduceIte, reduceCtorEq, Nat.reduceEqDiff, Nat.reduceAdd, Nat.reduceMul, Nat.reduceLT, Nat.reduceLeDiff, Nat.reduceSub, Nat.reduceDiv, Nat.reduceBEq, Nat.reduceBneDiff, Nat.reduceBeqDiff])
    rintro ⟨v, _⟩ ⟨hv, rfl⟩
    simp only at hv
    obtain ⟨y, hy⟩ : ∃ y, es[v]? = some y := ⟨_, List.getElem?_eq_getElem hv⟩
    refine SatW.lift 5 [] v 0 200 (n0 := .own 29 (some g5) cap (es.map RowE.V)) (e := 3) (γ := y.γ) (cap := y.c) (es := y.f.map (V.int .i64)) rfl ?_ rfl ?_
    · simp [V.cellAt, hy, RowE.V, V.cells]
    refine SatW.lift 5 [] v 1 201 (n0 := (V.own 29 (some g5) cap (es.map RowE.V)).setIJ v 0 (.msl 200 [] y.γ (y.f.map (V.int .i64)).length y.c)) (e := y.e) (γ := y.γ') (cap := y.c') (es := y.ws.map RowI.V) rfl ?_ rfl ?_
    · simp [V.setIJ, V.setC, V.cellAt, hy, RowE.V, V.cells]
    obtain ⟨zs, hzl, hz, hzm⟩ : ∃ zs : List V, zs.length = es.length ∧ zs[v]? = some (.agg [.msl 200 [] y.γ y.f.length y.c, .msl 201 [] y.γ' y.ws.length y.c']) ∧
        ((V.own 29 (some g5) cap (es.map RowE.V)).setIJ v 0 (.msl 200 [] y.γ (y.f.map (V.int .i64)).length y.c)).setIJ v 1 (.msl 201 [] y.γ' (y.ws.map RowI.V).length y.c') = .own 29 (some g5) cap zs := by
      refine ⟨_, ?_, ?_, rfl⟩
      · simp
      · simp [hy, RowE.V, V.setC]
    have hmem := specAll_small (p := x) (y := y.x) (by rw [← h1]; exact List.mem_map.2 ⟨y, List.mem_of_getElem? hy, rfl⟩)
    have hye := h2 y (List.mem_of_getElem? hy)
    refine SatW.less (T := upd (upd (upd (upd (upd (upd noT 0 (.ptr 0 [] 0 0 g 2)) 2 (.ptr 2 [] 0 0 g2 1)) 3 (.ptr 3 [] 0 0 g3 2)) 4 (.ptr 4 [] 0 0 g4 1)) 21 (.msl 5 [] (some g5) es.length cap)) 25 (.int .i64 v))
      (Mm := ((((((noM.set 0 (rdO bs g (q + 1))).set 2 (.own 25 (some g2) 1 [.agg [.own 0 none 0 []]])).set 3 (.own 29 (some g3) 1 [.agg [.own 0 none 0 [], .own 0 none 0 []]])).set 4 (.own 25 (some g4) 1 [.agg [.sl (x.map thrV)]])).set 5 (.own 29 (some g5) cap zs)).set 200 (.own 3 y.γ y.c (y.f.map (V.int .i64)))).set 201 (.own y.e y.γ' y.c' (y.ws.map RowI.V))) ?_ ?_
    rotate_left
    · rw [← hzm]
      (refine Less.start ?_; repeat (first | exact LessO.nil | exact LessO.all | refine LessO.skip (by decide) ?_ | refine LessO.upd ?_ ?_ | refine LessO.set ?_ ?_)) <;> (try simp (maxSteps := 1000000) (disch := omega) only [push_cast, go_sem, wpS_tt, wpS_tf, wpS_ft, wpS_ff, wpCond_tt, wpCond_ff, Nat.reducePow, Int.reduceEq, Int.reduceLT, Int.reduceLE, Int.reduceAdd, Int.reduceSub, Int.reduceMul, Int.reduceToNat, Int.reduceBEq, Int.reduceBNe, ↓reduceIte, reduceCtorEq, Nat.reduceEqDiff, Nat.reduceAdd, Nat.reduceMul, Nat.reduceLT, Nat.reduceLeDiff, Nat.reduceSub, Nat.reduceDiv, Nat.reduceBEq, Nat.reduceBneDiff, Nat.reduceBeqDiff])
      rfl
    refine SatW.of (by kernel_rfl) (fun o h => List.mem_of_mem_drop h) ?_
    simp (maxSteps := 1000000) (disch := omega) only [push_cast, go_sem, wpS_tt, wpS_tf, wpS_ft, wpS_ff, wpCond_tt, wpCond_ff, Nat.reducePow, Int.reduceEq, Int.reduceLT, Int.reduceLE, Int.reduceAdd, Int.reduceSub, Int.reduceMul, Int.reduceToNat, Int.reduceBEq, Int.reduceBNe, ↓reduceIte, reduceCtorEq, Nat.reduceEqDiff, Nat.reduceAdd, Nat.reduceMul, Nat.reduceLT, Nat.reduceLeDiff, Nat.reduceSub, Nat.reduceDiv, Nat.reduceBEq, Nat.reduceBneDiff, Nat.reduceBeqDiff, hz, hv, hzl]
    intro g6
    refine Sat.of (S := [2006]) (by kernel_rfl) ?_
    simp (maxSteps := 1000000) (disch := omega) only [push_cast, go_sem, wpS_tt, wpS_tf, wpS_ft, wpS_ff, wpCond_tt, wpCond_ff, Nat.reducePow, Int.reduceEq, Int.reduceLT, Int.reduceLE, Int.reduceAdd, Int.reduceSub, Int.reduceMul, Int.reduceToNat, Int.reduceBEq, Int.reduceBNe, ↓reduceIte, reduceCtorEq, Nat.reduceEqDiff, Nat.reduceAdd, Nat.reduceMul, Nat.reduceLT, Nat.reduceLeDiff, Nat.reduceSub, Nat.reduceDiv, Nat.reduceBEq, Nat.reduceBneDiff, Nat.reduceBeqDiff]
    obtain ⟨hm1, hm2, hm3⟩ := hmem
    refine Sat.cut (σ := RowE × Nat) [] (fun s => upd (upd (upd (upd (upd noT 0 (.ptr 0 [] 0 0 g 2)) 2 (.ptr 2 [] 0 0 g2 1)) 3 (.ptr 3 [] 0 0 g3 2)) 4 (.ptr 4 [] 0 0 g4 1)) 6 (.ptr 6 [] 0 0 g6 2))
      (fun s => ((((noM.set 0 (rdO bs g s.2)).set 2 (.own 25 (some g2) 1 [.agg [.own 0 none 0 []]])).set 3 (.own 29 (some g3) 1 [.agg [.own 0 none 0 [], .own 0 none 0 []]])).set 4 (.own 25 (some g4) 1 [.agg [.sl (x.map thrV)]])).set 6 (.own 29 (some g6) 1 [.agg [.own 3 s.1.γ s.1.c (s.1.f.map (V.int .i64)), .own s.1.e s.1.γ' s.1.c' (s.1.ws.map RowI.V)]]))
      (fun s => s.1.x.few ∧ q ≤ s.2 ∧ s.2 ≤ q + 10) (by kernel_rfl) ?_ ?_
    · simp (maxSteps := 1000000) (disch := omega) only [push_cast, go_sem, wpS_tt, wpS_tf, wpS_ft, wpS_ff, wpCond_tt, wpCond_ff, Nat.reducePow, Int.reduceEq, Int.reduceLT, Int.reduceLE, Int.reduceAdd, Int.reduceSub, Int.reduceMul, Int.reduceToNat, Int.reduceBEq, Int.reduceBNe, ↓reduceIte, reduceCtorEq, Nat.reduceEqDiff, Nat.reduceAdd, Nat.reduceMul, Nat.reduceLT, Nat.reduceLeDiff, Nat.reduceSub, Nat.reduceDiv, Nat.reduceBEq, Nat.reduceBneDiff, Nat.reduceBeqDiff]
      refine callR.rd (pick_rd bs hb g (q + 1) (by omega) 12 (by omega)) rfl rfl rfl ?_
      rintro r o' ⟨k, rfl, hk0, hk1, _, rfl⟩
      simp (maxSteps := 1000000) (disch := omega) only [push_cast, go_sem, wpS_tt, wpS_tf, wpS_ft, wpS_ff, wpCond_tt, wpCond_ff, Nat.reducePow, Int.reduceEq, Int.reduceLT, Int.reduceLE, Int.reduceAdd, Int.reduceSub, Int.reduceMul, Int.reduceToNat, Int.reduceBEq, Int.reduceBNe, ↓reduceIte, reduceCtorEq, Nat.reduceEqDiff, Nat.reduceAdd, Nat.reduceMul, Nat.reduceLT, Nat.reduceLeDiff, Nat.reduceSub, Nat.reduceDiv, Nat.reduceBEq, Nat.reduceBneDiff, Nat.reduceBeqDiff]
      have hyl : y.ws.length = 3 := by have := hm2; simpa [RowE.x] using this
      have few0 : ∀ {t' : Nat → V} {M' : Mem}, _ → _ := fun {t'} {M'} h => (⟨(y, q + 1 + 1), ⟨⟨Nat.le_succ_of_le hm1, hm2, fun r hr => Nat.le_succ_of_le (hm3 r hr)⟩, by dsimp only; omega, by dsimp only; omega⟩, h⟩ : ∃ s : RowE × Nat, (s.1.x.few ∧ q ≤ s.2 ∧ s.2 ≤ q + 10) ∧ Less (upd (upd (upd (upd (upd noT 0 (.ptr 0 [] 0 0 g 2)) 2 (.ptr 2 [] 0 0 g2 1)) 3 (.ptr 3 [] 0 0 g3 2)) 4 (.ptr 4 [] 0 0 g4 1)) 6 (.ptr 6 [] 0 0 g6 2)) t'
        (((((noM.set 0 (rdO bs g s.2)).set 2 (.own 25 (some g2) 1 [.agg [.own 0 none 0 []]])).set 3 (.own 29 (some g3) 1 [.agg [.own 0 none 0 [], .own 0 none 0 []]])).set 4 (.own 25 (some g4) 1 [.agg [.sl (x.map thrV)]])).set 6 (.own 29 (some g6) 1 [.agg [.own 3 s.1.γ s.1.c (s.1.f.map (V.int .i64)), .own s.1.e s.1.γ' s.1.c' (s.1.ws.map RowI.V)]])) M')
      refine ⟨fun hk => ⟨fun hn => ?_, fun hn => ?_⟩, fun hk => ⟨fun hk1 => ?_, fun hk1 => ⟨fun hk2 => ?_, fun hk2 => ?_⟩⟩⟩
      · have hf0 : 0 < y.f.length := by omega
        have hf1 : y.f.length ≤ 42 := hm1
        refine Sat.someP (o := 6) (q := [(0, 0)]) (e := 3) (γ := y.γ) (cap := y.c) (es := y.f.map (V.int .i64)) rfl (fun h => by have := congrArg List.length h; simp at this; rw [this] at hf0; simp at hf0) ?_
        intro g7 hg7
        refine Sat.drawnE [(1, 6), (1, 8)] [] [1, 4] (rdTab bs g [(26, 1, pickQ)] []) (by kernel_rfl) (by kernel_rfl) ?_
        simp (maxSteps := 1000000) (disch := omega) only [push_cast, go_sem, wpS_tt, wpS_tf, wpS_ft, wpS_ff, wpCond_tt, wpCond_ff, Nat.reducePow, Int.reduceEq, Int.reduceLT, Int.reduceLE, Int.reduceAdd, Int.reduceSub, Int.reduceMul, Int.reduceToNat, Int.reduceBEq, Int.reduceBNe, ↓reduceIte, reduceCtorEq, Nat.reduceEqDiff, Nat.reduceAdd, Nat.reduceMul, Nat.reduceLT, Nat.reduceLeDiff, Nat.reduceSub, Nat.reduceDiv, Nat.reduceBEq, Nat.reduceBneDiff, Nat.reduceBeqDiff, hg7]
        refine runD_pl (pick_pl bs hb g (q + 1 + 1) (by omega) y.f.length (by omega)) rfl rfl rfl rfl pickQ_ne ?_ ?_
        · rfl
        rintro r q3 hq5 hq6 ⟨n', v2, hn', rfl, hv2⟩
        cases hn'
        have hv21 := hv2.2.1 (by omega)
        obtain ⟨v2, rfl⟩ := Int.eq_ofNat_of_zero_le hv2.1
        simp (maxSteps := 1000000) (disch := omega) only [push_cast, go_sem, wpS_tt, wpS_tf, wpS_ft, wpS_ff, wpCond_tt, wpCond_ff, Nat.reducePow, Int.reduceEq, Int.reduceLT, Int.reduceLE, Int.reduceAdd, Int.reduceSub, Int.reduceMul, Int.reduceToNat, Int.reduceBEq, Int.reduceBNe, ↓reduceIte, reduceCtorEq, Nat.reduceEqDiff, Nat.reduceAdd, Nat.reduceMul, Nat.reduceLT, Nat.reduceLeDiff, Nat.reduceSub, Nat.reduceDiv, Nat.reduceBEq, Nat.reduceBneDiff, Nat.reduceBeqDiff, hg7]
        refine runD_pl (pick_pl bs hb g q3 (by omega) 7 (by omega)) rfl rfl rfl rfl pickQ_ne ?_ ?_
        · rfl
        rintro r q4 hq7 hq8 ⟨n', v3, hn', rfl, hv3⟩
        cases hn'
        have hv31 := hv3.2.1 (by omega)
        have hv30 := hv3.1
        obtain ⟨a, ha⟩ : ∃ a, y.f[v2]? = some a := ⟨_, List.getElem?_eq_getElem (by omega)⟩
        simp (maxSteps := 1000000) (disch := omega) only [push_cast, go_sem, wpS_tt, wpS_tf, wpS_ft, wpS_ff, wpCond_tt, wpCond_ff, Nat.reducePow, Int.reduceEq, Int.reduceLT, Int.reduceLE, Int.reduceAdd, Int.reduceSub, Int.reduceMul, Int.reduceToNat, Int.reduceBEq, Int.reduceBNe, ↓reduceIte, reduceCtorEq, Nat.reduceEqDiff, Nat.reduceAdd, Nat.reduceMul, Nat.reduceLT, Nat.reduceLeDiff, Nat.reduceSub, Nat.reduceDiv, Nat.reduceBEq, Nat.reduceBneDiff, Nat.reduceBeqDiff, hg7, ha]
        refine ⟨by omega, ({ y with f := y.f.set v2 (v3 - 3) }, q4), ⟨⟨by simp [RowE.x]; omega, hm2, fun r hr => by have := hm3 r hr; omega⟩, by dsimp only; omega, by dsimp only; omega⟩, ?_⟩
        (refine Less.start ?_; repeat (first | exact LessO.nil | exact LessO.all | refine LessO.skip (by decide) ?_ | refine LessO.upd ?_ ?_ | refine LessO.set ?_ ?_)) <;> (try simp (maxSteps := 1000000) (disch := omega) only [push_cast, go_sem, wpS_tt, wpS_tf, wpS_ft, wpS_ff, wpCond_tt, wpCond_ff, Nat.reducePow, Int.reduceEq, Int.reduceLT, Int.reduceLE, Int.reduceAdd, Int.reduceSub, Int.reduceMul, Int.reduceToNat, Int.reduceBEq, Int.reduceBNe, ↓reduceIte, reduceCtorEq, Nat.reduceEqDiff, Nat.reduceAdd, Nat.reduceMul, Nat.reduceLT, Nat.reduceLeDiff, Nat.reduceSub, Nat.reduceDiv, Nat.reduceBEq, Nat.reduceBneDiff, Nat.reduceBeqDiff])
        rw [modInts, hg7]
      · exact few0 (by (refine Less.start ?_; repeat (first | exact LessO.nil | exact LessO.all | refine LessO.skip (by decide) ?_ | refine LessO.upd ?_ ?_ | refine LessO.set ?_ ?_)) <;> (try simp (maxSteps := 1000000) (disch := omega) only [push_cast, go_sem, wpS_tt, wpS_tf, wpS_ft, wpS_ff, wpCond_tt, wpCond_ff, Nat.reducePow, Int.reduceEq, Int.reduceLT, Int.reduceLE, Int.reduceAdd, Int.reduceSub, Int.reduceMul, Int.reduceToNat, Int.reduceBEq, Int.reduceBNe, ↓reduceIte, reduceCtorEq, Nat.reduceEqDiff, Nat.reduceAdd, Nat.reduceMul, Nat.reduceLT, Nat.reduceLeDiff, Nat.reduceSub, Nat.reduceDiv, Nat.reduceBEq, Nat.reduceBneDiff, Nat.reduceBeqDiff]))
      · obtain ⟨r0, ws, hws⟩ : ∃ r0 ws, y.ws = r0 :: ws := by
          cases h : y.ws with
          | nil => rw [h] at hyl; cases hyl
          | cons a l => exact ⟨a, l, rfl⟩
        refine Sat.someP (o := 6) (q := [(0, 1)]) (e := y.e) (γ := y.γ') (cap := y.c') (es := y.ws.map RowI.V) rfl (by rw [hws]; nofun) ?_
        intro g7 hg7
        have hye' : y.e = 26 := hye.resolve_left (by rw [hg7]; nofun)
        refine Sat.drawnE [(1, 6), (3, 6), (5, 6)] [(1, 7)] [1, 3, 5] (fun _ _ _ => none) (by kernel_rfl) (by kernel_rfl) ?_
        simp (maxSteps := 1000000) (disch := omega) only [push_cast, go_sem, wpS_tt, wpS_tf, wpS_ft, wpS_ff, wpCond_tt, wpCond_ff, Nat.reducePow, Int.reduceEq, Int.reduceLT, Int.reduceLE, Int.reduceAdd, Int.reduceSub, Int.reduceMul, Int.reduceToNat, Int.reduceBEq, Int.reduceBNe, ↓reduceIte, reduceCtorEq, Nat.reduceEqDiff, Nat.reduceAdd, Nat.reduceMul, Nat.reduceLT, Nat.reduceLeDiff, Nat.reduceSub, Nat.reduceDiv, Nat.reduceBEq, Nat.reduceBneDiff, Nat.reduceBeqDiff, hg7, hye', hws, RowI.V_eq]
        refine ⟨by omega, ?_⟩
        intro g8
        have hr0 : r0.l.length ≤ 42 := hm3 r0.l (by simp [RowE.x, hws])
        refine ⟨by omega, fun γ8 c8 _ => ⟨by omega, ({ y with ws := ⟨γ8, c8, r0.l ++ [0]⟩ :: ws }, q + 1 + 1), ⟨⟨Nat.le_succ_of_le hm1, ?_, ?_⟩, by dsimp only; omega, by dsimp only; omega⟩, ?_⟩⟩
        · rw [hws] at hyl; simpa [RowE.x] using hyl
        · intro r hr
          simp only [RowE.x, List.map_cons, List.mem_cons] at hr
          rcases hr with rfl | hr
          · simp; omega
          · have := hm3 r (by simp only [RowE.x, hws, List.map_cons, List.mem_cons]; exact .inr hr); omega
        · (refine Less.start ?_; repeat (first | exact LessO.nil | exact LessO.all | refine LessO.skip (by decide) ?_ | refine LessO.upd ?_ ?_ | refine LessO.set ?_ ?_)) <;> (try simp (maxSteps := 1000000) (disch := omega) only [push_cast, go_sem, wpS_tt, wpS_tf, wpS_ft, wpS_ff, wpCond_tt, wpCond_ff, Nat.reducePow, Int.reduceEq, Int.reduceLT, Int.reduceLE, Int.reduceAdd, Int.reduceSub, Int.reduceMul, Int.reduceToNat, Int.reduceBEq, Int.reduceBNe, ↓reduceIte, reduceCtorEq, Nat.reduceEqDiff, Nat.reduceAdd, Nat.reduceMul, Nat.reduceLT, Nat.reduceLeDiff, Nat.reduceSub, Nat.reduceDiv, Nat.reduceBEq, Nat.reduceBneDiff, Nat.reduceBeqDiff])
          all_goals simp [RowI.V, hg7, hye']
      · intro g8
        have hm1' : y.f.length ≤ 42 := hm1
        refine ⟨by omega, fun γ8 c8 _ => ?_⟩
        refine ⟨({ y with γ := γ8, c := c8, f := y.f ++ [-2] }, q + 1 + 1), ⟨⟨by simp [RowE.x]; omega, hm2, fun r hr => by have := hm3 r hr; omega⟩, by dsimp only; omega, by dsimp only; omega⟩, ?_⟩
        (refine Less.start ?_; repeat (first | exact LessO.nil | exact LessO.all | refine LessO.skip (by decide) ?_ | refine LessO.upd ?_ ?_ | refine LessO.set ?_ ?_)) <;> (try simp (maxSteps := 1000000) (disch := omega) only [push_cast, go_sem, wpS_tt, wpS_tf, wpS_ft, wpS_ff, wpCond_tt, wpCond_ff, Nat.reducePow, Int.reduceEq, Int.reduceLT, Int.reduceLE, Int.reduceAdd, Int.reduceSub, Int.reduceMul, Int.reduceToNat, Int.reduceBEq, Int.reduceBNe, ↓reduceIte, reduceCtorEq, Nat.reduceEqDiff, Nat.reduceAdd, Nat.reduceMul, Nat.reduceLT, Nat.reduceLeDiff, Nat.reduceSub, Nat.reduceDiv, Nat.reduceBEq, Nat.reduceBneDiff, Nat.reduceBeqDiff])
        all_goals simp
      · exact few0 (by (refine Less.start ?_; repeat (first | exact LessO.nil | exact LessO.all | refine LessO.skip (by decide) ?_ | refine LessO.upd ?_ ?_ | refine LessO.set ?_ ?_)) <;> (try simp (maxSteps := 1000000) (disch := omega) only [push_cast, go_sem, wpS_tt, wpS_tf, wpS_ft, wpS_ff, wpCond_tt, wpCond_ff, Nat.reducePow, Int.reduceEq, Int.reduceLT, Int.reduceLE, Int.reduceAdd, Int.reduceSub, Int.reduceMul, Int.reduceToNat, Int.reduceBEq, Int.reduceBNe, ↓reduceIte, reduceCtorEq, Nat.reduceEqDiff, Nat.reduceAdd, Nat.reduceMul, Nat.reduceLT, Nat.reduceLeDiff, Nat.reduceSub, Nat.reduceDiv, Nat.reduceBEq, Nat.reduceBneDiff, Nat.reduceBeqDiff]))
    · rintro ⟨z, q2⟩ ⟨hz2, hq3, hq4⟩
      dsimp only at hz2 hq3 hq4 ⊢
      refine Sat.freezeC 6 [] 0 0 (n0 := .own 29 (some g6) 1 [.agg [.own 3 z.γ z.c (z.f.map (V.int .i64)), .own z.e z.γ' z.c' (z.ws.map RowI.V)]]) (d := .own 3 z.γ z.c (z.f.map (V.int .i64))) rfl rfl rfl ?_
      refine Sat.freezeC 6 [] 0 1 (n0 := .own 29 (some g6) 1 [.agg [(V.own 3 z.γ z.c (z.f.map (V.int .i64))).fz, .own z.e z.γ' z.c' (z.ws.map RowI.V)]]) (d := .own z.e z.γ' z.c' (z.ws.map RowI.V)) rfl rfl rfl ?_
      have e1 : (V.own 3 z.γ z.c (z.f.map (V.int .i64))).fz = .sl (z.f.map (V.int .i64)) := by simp only [V.fz, fzs_map, fzs_int]
      have e2 : (V.own z.e z.γ' z.c' (z.ws.map RowI.V)).fz = .sl (z.x.od.map intsV) := by simp only [V.fz, fzs_map, fz_rowsI, RowE.x]
      rw [e1, e2]
      refine Sat.of (S := []) (by kernel_rfl) ?_
      simp (maxSteps := 1000000) (disch := omega) only [push_cast, go_sem, wpS_tt, wpS_tf, wpS_ft, wpS_ff, wpCond_tt, wpCond_ff, Nat.reducePow, Int.reduceEq, Int.reduceLT, Int.reduceLE, Int.reduceAdd, Int.reduceSub, Int.reduceMul, Int.reduceToNat, Int.reduceBEq, Int.reduceBNe, ↓reduceIte, reduceCtorEq, Nat.reduceEqDiff, Nat.reduceAdd, Nat.reduceMul, Nat.reduceLT, Nat.reduceLeDiff, Nat.reduceSub, Nat.reduceDiv, Nat.reduceBEq, Nat.reduceBneDiff, Nat.reduceBeqDiff]
      refine Sat.drawnE [(1, 2)] [] [0, 1] (fun _ _ _ => none) (by kernel_rfl) (by kernel_rfl) ?_
      simp (maxSteps := 1000000) (disch := omega) only [push_cast, go_sem, wpS_tt, wpS_tf, wpS_ft, wpS_ff, wpCond_tt, wpCond_ff, Nat.reducePow, Int.reduceEq, Int.reduceLT, Int.reduceLE, Int.reduceAdd, Int.reduceSub, Int.reduceMul, Int.reduceToNat, Int.reduceBEq, Int.reduceBNe, ↓reduceIte, reduceCtorEq, Nat.reduceEqDiff, Nat.reduceAdd, Nat.reduceMul, Nat.reduceLT, Nat.reduceLeDiff, Nat.reduceSub, Nat.reduceDiv, Nat.reduceBEq, Nat.reduceBneDiff, Nat.reduceBeqDiff]
      refine ⟨_, ?_, _, ⟨x, z.x, by rw [Exe.V_eq]; rfl, hx1, hx2, hz2, q2, by omega, by omega, rfl⟩, rfl⟩
      ((repeat (first | exact Sub.no | refine Sub.set ?_ ?_)) <;> (try simp (disch := omega) only [push_cast, go_sem, wpS_tt, wpS_tf, wpS_ft, wpS_ff, wpCond_tt, wpCond_ff, Nat.reducePow, Int.reduceEq, Int.reduceLT, Int.reduceLE, Int.reduceAdd, Int.reduceSub, Int.reduceMul, Int.reduceToNat, Int.reduceBEq, Int.reduceBNe, ↓reduceIte, reduceCtorEq, Nat.reduceEqDiff, Nat.reduceAdd, Nat.reduceMul, Nat.reduceLT, Nat.reduceLeDiff, Nat.reduceSub, Nat.reduceDiv, Nat.reduceBEq, Nat.reduceBneDiff, Nat.reduceBeqDiff]))
  · simp (maxSteps := 1000000) (disch := omega) only [push_cast, go_sem, wpS_tt, wpS_tf, wpS_ft, wpS_ff, wpCond_tt, wpCond_ff, Nat.reducePow, Int.reduceEq, Int.reduceLT, Int.reduceLE, Int.reduceAdd, Int.reduceSub, Int.reduceMul, Int.reduceToNat, Int.reduceBEq, Int.reduceBNe, ↓reduceIte, reduceCtorEq, Nat.reduceEqDiff, Nat.reduceAdd, Nat.reduceMul, Nat.reduceLT, Nat.reduceLeDiff, Nat.reduceSub, Nat.reduceDiv, Nat.reduceBEq, Nat.reduceBneDiff, Nat.reduceBeqDiff, hes]
    have he0 : es = [] := by simpa using hes
    refine Sat.cut (σ := Nat × Nat × Nat × Nat × Nat) [] (fun s => upd (upd noT 2 (.ptr 2 [] 0 0 g2 1)) 3 (.ptr 3 [] 0 0 g3 2))
      (fun s => ((noM.set 0 (rdO bs g q)).set 2 (.own 25 (some g2) 1 [.agg [.sl (x.map thrV)]])).set 3 (.own 29 (some g3) 1 [.agg [.own 3 (some s.1) 1 [.int .i64 (-2)], .own 26 (some s.2.1) 3 [.own 3 (some s.2.2.1) 0 [], .own 3 (some s.2.2.2.1) 0 [], .own 3 (some s.2.2.2.2) 0 []]]]))
      (fun _ => True) (by kernel_rfl) ?_ ?_
    · simp (maxSteps := 1000000) (disch := omega) only [push_cast, go_sem, wpS_tt, wpS_tf, wpS_ft, wpS_ff, wpCond_tt, wpCond_ff, Nat.reducePow, Int.reduceEq, Int.reduceLT, Int.reduceLE, Int.reduceAdd, Int.reduceSub, Int.reduceMul, Int.reduceToNat, Int.reduceBEq, Int.reduceBNe, ↓reduceIte, reduceCtorEq, Nat.reduceEqDiff, Nat.reduceAdd, Nat.reduceMul, Nat.reduceLT, Nat.reduceLeDiff, Nat.reduceSub, Nat.reduceDiv, Nat.reduceBEq, Nat.reduceBneDiff, Nat.reduceBeqDiff]
      intro a1 a2 a3 a4 a5
      refine ⟨(a1, a5, a2, a3, a4), ?_⟩
      (refine Less.start ?_; repeat (first | exact LessO.nil | exact LessO.all | refine LessO.skip (by decide) ?_ | refine LessO.upd ?_ ?_ | refine LessO.set ?_ ?_)) <;> (try simp (maxSteps := 1000000) (disch := omega) only [push_cast, go_sem, wpS_tt, wpS_tf, wpS_ft, wpS_ff, wpCond_tt, wpCond_ff, Nat.reducePow, Int.reduceEq, Int.reduceLT, Int.reduceLE, Int.reduceAdd, Int.reduceSub, Int.reduceMul, Int.reduceToNat, Int.reduceBEq, Int.reduceBNe, ↓reduceIte, reduceCtorEq, Nat.reduceEqDiff, Nat.reduceAdd, Nat.reduceMul, Nat.reduceLT, Nat.reduceLeDiff, Nat.reduceSub, Nat.reduceDiv, Nat.reduceBEq, Nat.reduceBneDiff, Nat.reduceBeqDiff])
    · rintro ⟨a1, a2, a3, a4, a5⟩ _
      dsimp only
      refine Sat.freezeC 3 [] 0 0 (n0 := .own 29 (some g3) 1 [.agg [.own 3 (some a1) 1 [.int .i64 (-2)], .own 26 (some a2) 3 [.own 3 (some a3) 0 [], .own 3 (some a4) 0 [], .own 3 (some a5) 0 []]]]) (d := .own 3 (some a1) 1 [.int .i64 (-2)]) rfl rfl rfl ?_
      refine Sat.freezeC 3 [] 0 1 (n0 := .own 29 (some g3) 1 [.agg [.sl [.int .i64 (-2)], .own 26 (some a2) 3 [.own 3 (some a3) 0 [], .own 3 (some a4) 0 [], .own 3 (some a5) 0 []]]]) (d := .own 26 (some a2) 3 [.own 3 (some a3) 0 [], .own 3 (some a4) 0 [], .own 3 (some a5) 0 []]) rfl rfl rfl ?_
      refine Sat.of (S := []) (by kernel_rfl) ?_
      simp (maxSteps := 1000000) (disch := omega) only [push_cast, go_sem, wpS_tt, wpS_tf, wpS_ft, wpS_ff, wpCond_tt, wpCond_ff, Nat.reducePow, Int.reduceEq, Int.reduceLT, Int.reduceLE, Int.reduceAdd, Int.reduceSub, Int.reduceMul, Int.reduceToNat, Int.reduceBEq, Int.reduceBNe, ↓reduceIte, reduceCtorEq, Nat.reduceEqDiff, Nat.reduceAdd, Nat.reduceMul, Nat.reduceLT, Nat.reduceLeDiff, Nat.reduceSub, Nat.reduceDiv, Nat.reduceBEq, Nat.reduceBneDiff, Nat.reduceBeqDiff, V.fz, V.fz.fzs]
      refine ⟨_, ?_, _, ⟨x, ⟨[-2], [[], [], []]⟩, rfl, hx1, hx2, ⟨by simp, rfl, by simp⟩, q, hq1, by omega, rfl⟩, rfl⟩
      ((repeat (first | exact Sub.no | refine Sub.set ?_ ?_)) <;> (try simp (disch := omega) only [push_cast, go_sem, wpS_tt, wpS_tf, wpS_ft, wpS_ff, wpCond_tt, wpCond_ff, Nat.reducePow, Int.reduceEq, Int.reduceLT, Int.reduceLE, Int.reduceAdd, Int.reduceSub, Int.reduceMul, Int.reduceToNat, Int.reduceBEq, Int.reduceBNe, ↓reduceIte, reduceCtorEq, Nat.reduceEqDiff, Nat.reduceAdd, Nat.reduceMul, Nat.reduceLT, Nat.reduceLeDiff, Nat.reduceSub, Nat.reduceDiv, Nat.reduceBEq, Nat.reduceBneDiff, Nat.reduceBeqDiff]))
end Go.Proofs.Ytmmipjlogdggiaa
/-! ## Draws: the reader is opened -/
namespace Go.Proofs.Ytmmipjlogdggiaa
open Go.RowKit
set_option linter.unusedSimpArgs false
set_option linter.unusedVariables false
set_option pp.maxSteps 3000

/-- Bytes of an argument. -/
def Code8 (bs : List Int) : Prop := ∀ b ∈ bs, 0 ≤ b ∧ b < 256
def codeV (bs : List Int) : V := .sl (bs.map (V.int .u8))
theorem codeV_eq (bs : List Int) : codeV bs = .sl (bs.map (V.int .u8)) := rfl
theorem Code8.take {bs : List Int} (h : Code8 bs) : Bytes (bs.take 2000) := ⟨by simp; omega, fun b hb => h b (List.mem_of_mem_take hb)⟩
theorem cells_code (bs : List Int) {s : Nat} (hs : s = 1) : (∀ x ∈ bs.map (V.int .u8), x.cells.length = s) = True := by
  simp only [List.mem_map, eq_iff_iff, iff_true]
  rintro x ⟨b, _, rfl⟩
  rw [hs]; rfl
theorem l6Open_fn (bs : List Int) (hl : bs.length < 2 ^ 40) : Fc Try.prog 15 [codeV bs] noM (fun r m => ∃ ob, (∃ g, r = .ptr 100 [] 0 0 g 2 ∧ ob = rdO (bs.take 2000) g 0) ∧ m = noM.set 100 ob) := by
  refine Fc.rekeyP (R' := fun r m => ∃ g, r = .ptr 2 [] 0 0 g 2 ∧ m = noM.set 2 (rdO (bs.take 2000) g 0)) ?_ ?_
  · refine Fc.start (S := []) Try.func15 Try.ntmps15 Try.results15 rfl (by decide) rfl (by kernel_rfl) ?_
    by_cases h : (2000 : Int) < bs.length
    · simp (maxSteps := 1000000) (disch := omega) only [push_cast, go_sem, wpS_tt, wpS_tf, wpS_ft, wpS_ff, wpCond_tt, wpCond_ff, Nat.reducePow, Int.reduceEq, Int.reduceLT, Int.reduceLE, Int.reduceAdd, Int.reduceSub, Int.reduceMul, Int.reduceToNat, Int.reduceBEq, Int.reduceBNe, ↓reduceIte, reduceCtorEq, Nat.reduceEqDiff, Nat.reduceAdd, Nat.reduceMul, Nat.reduceLT, Nat.reduceLeDiff, Nat.reduceSub, Nat.reduceDiv, Nat.reduceBEq, Nat.reduceBneDiff, Nat.reduceBeqDiff, codeV_eq, h, cells_code bs rfl]
      refine ⟨by omega, fun g => ⟨_, ?_, g, rfl, rfl⟩⟩
      ((repeat (first | exact Sub.no | refine Sub.set ?_ ?_)) <;> (try simp (disch := omega) only [push_cast, go_sem, wpS_tt, wpS_tf, wpS_ft, wpS_ff, wpCond_tt, wpCond_ff, Nat.reducePow, Int.reduceEq, Int.reduceLT, Int.reduceLE, Int.reduceAdd, Int.reduceSub, Int.reduceMul, Int.reduceToNat, Int.reduceBEq, Int.reduceBNe, ↓reduceIte, reduceCtorEq, Nat.reduceEqDiff, Nat.reduceAdd, Nat.reduceMul, Nat.reduceLT, Nat.reduceLeDiff, Nat.reduceSub, Nat.reduceDiv, Nat.reduceBEq, Nat.reduceBneDiff, Nat.reduceBeqDiff]))
      simp [rdO, List.map_take]
    · simp (maxSteps := 1000000) (disch := omega) only [push_cast, go_sem, wpS_tt, wpS_tf, wpS_ft, wpS_ff, wpCond_tt, wpCond_ff, Nat.reducePow, Int.reduceEq, Int.reduceLT, Int.reduceLE, Int.reduceAdd, Int.reduceSub, Int.reduceMul, Int.reduceToNat, Int.reduceBEq, Int.reduceBNe, ↓reduceIte, reduceCtorEq, Nat.reduceEqDiff, Nat.reduceAdd, Nat.reduceMul, Nat.reduceLT, Nat.reduceLeDiff, Nat.reduceSub, Nat.reduceDiv, Nat.reduceBEq, Nat.reduceBneDiff, Nat.reduceBeqDiff, codeV_eq, h]
      refine fun g => ⟨_, ?_, g, rfl, rfl⟩
      ((repeat (first | exact Sub.no | refine Sub.set ?_ ?_)) <;> (try simp (disch := omega) only [push_cast, go_sem, wpS_tt, wpS_tf, wpS_ft, wpS_ff, wpCond_tt, wpCond_ff, Nat.reducePow, Int.reduceEq, Int.reduceLT, Int.reduceLE, Int.reduceAdd, Int.reduceSub, Int.reduceMul, Int.reduceToNat, Int.reduceBEq, Int.reduceBNe, ↓reduceIte, reduceCtorEq, Nat.reduceEqDiff, Nat.reduceAdd, Nat.reduceMul, Nat.reduceLT, Nat.reduceLeDiff, Nat.reduceSub, Nat.reduceDiv, Nat.reduceBEq, Nat.reduceBneDiff, Nat.reduceBeqDiff]))
      rw [List.take_of_length_le (by omega)]; rfl
  · rintro r m ⟨g, rfl, rfl⟩
    refine ⟨2, g, 2, _, rfl, rfl, _, ⟨g, rfl, rfl⟩, era_set rfl⟩
end Go.Proofs.Ytmmipjlogdggiaa
/-! ## Draws: a program and a way; the law FnExecAll -/
namespace Go.Proofs.Ytmmipjlogdggiaa
open Go.RowKit
set_option linter.unusedSimpArgs false
set_option linter.unusedVariables false
set_option pp.maxSteps 3000

theorem DrawExecOk_fn (bs : List Int) (hb : Code8 bs) (hl : bs.length < 2 ^ 40) : Fc Try.prog 6 [codeV bs] noM (fun r m => DrawnX r ∧ m = noM) := by
  refine Fc.start (S := []) Try.func6 Try.ntmps6 Try.results6 rfl (by decide) rfl (by kernel_rfl) ?_
  simp (maxSteps := 1000000) (disch := omega) only [push_cast, go_sem, wpS_tt, wpS_tf, wpS_ft, wpS_ff, wpCond_tt, wpCond_ff, Nat.reducePow, Int.reduceEq, Int.reduceLT, Int.reduceLE, Int.reduceAdd, Int.reduceSub, Int.reduceMul, Int.reduceToNat, Int.reduceBEq, Int.reduceBNe, ↓reduceIte, reduceCtorEq, Nat.reduceEqDiff, Nat.reduceAdd, Nat.reduceMul, Nat.reduceLT, Nat.reduceLeDiff, Nat.reduceSub, Nat.reduceDiv, Nat.reduceBEq, Nat.reduceBneDiff, Nat.reduceBeqDiff, codeV_eq]
  intro g2 g3
  refine callR.new (l6Open_fn bs hl) rfl rfl ?_
  rintro r ob ⟨g, rfl, rfl⟩
  simp (maxSteps := 1000000) (disch := omega) only [push_cast, go_sem, wpS_tt, wpS_tf, wpS_ft, wpS_ff, wpCond_tt, wpCond_ff, Nat.reducePow, Int.reduceEq, Int.reduceLT, Int.reduceLE, Int.reduceAdd, Int.reduceSub, Int.reduceMul, Int.reduceToNat, Int.reduceBEq, Int.reduceBNe, ↓reduceIte, reduceCtorEq, Nat.reduceEqDiff, Nat.reduceAdd, Nat.reduceMul, Nat.reduceLT, Nat.reduceLeDiff, Nat.reduceSub, Nat.reduceDiv, Nat.reduceBEq, Nat.reduceBneDiff, Nat.reduceBeqDiff]
  refine callR.rd (l71Exec_rd (bs.take 2000) hb.take g 0 (by omega)) rfl rfl rfl ?_
  rintro r o' ⟨x, y, rfl, hx1, hx2, hy, q, hq1, hq2, rfl⟩
  simp (maxSteps := 1000000) (disch := omega) only [push_cast, go_sem, wpS_tt, wpS_tf, wpS_ft, wpS_ff, wpCond_tt, wpCond_ff, Nat.reducePow, Int.reduceEq, Int.reduceLT, Int.reduceLE, Int.reduceAdd, Int.reduceSub, Int.reduceMul, Int.reduceToNat, Int.reduceBEq, Int.reduceBNe, ↓reduceIte, reduceCtorEq, Nat.reduceEqDiff, Nat.reduceAdd, Nat.reduceMul, Nat.reduceLT, Nat.reduceLeDiff, Nat.reduceSub, Nat.reduceDiv, Nat.reduceBEq, Nat.reduceBneDiff, Nat.reduceBeqDiff, progV_eq, Exe.V_eq]
  exact ⟨x, y, rfl, hx1, hx2, ⟨by have := hy.fr; omega, by have := hy.od; omega, fun r hr => by have := hy.row r hr; omega⟩⟩
theorem lawExecAll_fn (bs : List Int) (hb : Code8 bs) : Fp Try.prog 3 [codeV bs] (.bool true) :=
  lawExecAll_of bs fun h => DrawExecOk_fn bs hb (by omega)
end Go.Proofs.Ytmmipjlogdggiaa
/-! ## Rows: what all laws of a code share -/
namespace Go.Proofs.Ytmmipjlogdggiaa
open Go.ChangeShapes Go.WideShapes Go.ChangeAt Go.RowKit
set_option linter.unusedSimpArgs false
set_option linter.unusedVariables false

theorem own : ownKnob Try.prog.godebug = none := by kernel_rfl
theorem laidOut' : laidOutB Try.prog = true := by kernel_rfl
theorem cells8 : Try.prog.cellsOf 5 = 1 := by kernel_rfl

/-- A row of bytes that is never written again. -/
theorem code_rp {imm : Nat → Prop} {W : World} {b off len cap : Nat} {zs : List Int} (hlz : len ≤ zs.length) (hl : len ≤ cap) (hi : imm b) (hcell : ∀ i, i < zs.length → W.cell? ⟨b, off + i, none⟩ = some (.int .u8 (zs.getD i 0))) :
    Rp imm W (codeV (zs.take len)) (.slice (some ⟨b, off, none⟩) len cap) := by
  by_cases h0 : len = 0
  · subst h0; exact .sl0 _ _
  have hc0 := hcell 0 (by omega)
  unfold World.cell? at hc0
  split at hc0
  · rename_i cur t fr hg
    have hln : (zs.take len).length = len := by rw [List.length_take]; omega
    have e : ((zs.take len).map (V.int .u8)).length = len := by rw [List.length_map]; exact hln
    have get : ∀ (i : Nat) (x : V), ((zs.take len).map (V.int .u8))[i]? = some x → x = .int .u8 (zs.getD i 0) ∧ i < len := by
      intro i x hx
      have hlt : i < len := by have := (List.getElem?_eq_some_iff.1 hx).1; omega
      rw [List.getElem?_map, List.getElem?_take_of_lt hlt] at hx
      obtain ⟨y, hy, rfl⟩ := Option.map_eq_some_iff.1 hx
      exact ⟨by rw [List.getD, hy]; rfl, hlt⟩
    have := Rp.sl (imm := imm) (w := W) ((zs.take len).map (V.int .u8)) b off cap 1 cur t fr (fun i _ => .int .u8 (zs.getD i 0)) hi hg (by omega)
      (fun i x hx => by rw [(get i x hx).1]; rfl)
      (fun i x j c hx hc => by
        obtain ⟨rfl, hlt⟩ := get i x hx
        have hj : j = 0 := by
          cases j with
          | zero => rfl
          | succ j => simp [V.cells] at hc
        subst hj
        have := hcell i (by omega)
        unfold World.cell? at this
        simp only [hg] at this
        simpa using this)
      (fun i x j c hx hc => by
        obtain ⟨rfl, hlt⟩ := get i x hx
        have hj : j = 0 := by
          cases j with
          | zero => rfl
          | succ j => simp [V.cells] at hc
        subst hj
        simp [V.cells] at hc
        subst hc
        exact .int _ _)
    rw [e] at this
    exact this
  · cases hc0

/-- A law of one code: what its contract says of the world. -/
theorem law_calls {f : FuncId} {W : World} {x : V} {v : Value} {imm : Nat → Prop} (h : Fp Try.prog f [x] (.bool true)) (hi : ∀ g, imm g → g < W.heap.size) (hx : Rp imm W x v) :
    Calls Try.prog f #[v] W fun e w' => e = .returned (.bool true) ∧ Below W.heap.size W w' := by
  refine (h.fn imm W #[v] inv_no hi rfl ?_).mono ?_
  · intro j c u hj hu
    cases j with
    | zero => simp at hj hu; subst hj; subst hu; exact hx
    | succ j => simp at hj
  · rintro e w' ⟨r, r', m, imm', rfl, ⟨rfl, rfl⟩, h3, h4⟩
    rw [h3.bool_inv]
    exact ⟨rfl, h4.os, h4.tape, h4.output, h4.size, fun k hk => (h4.block k hk not_owns_no).1⟩
end Go.Proofs.Ytmmipjlogdggiaa
/-! ## 'FnExecAll' answers true at every input, and leaves its argument as it was: the row -/
namespace Go.Proofs.Ytmmipjlogdggiaa
open Go.ChangeShapes Go.WideShapes Go.ChangeAt Go.RowKit
set_option linter.unusedSimpArgs false
set_option linter.unusedVariables false

namespace fnExecAll
set_option maxRecDepth 100000 in
theorem contract (H : Type) (enc : TypeId × Value → H) (W : World) (base : Nat) (args : Array Value) (ds gs : List (DataW H)) (before : List MemPlace)
    (hval : ∀ (j : Nat) t v, Try.f3.params[j]? = some t → args[j]? = some v → Value.okWide Try.prog W .any base t v)
    (hW : DataW.Whole enc Try.prog Try.f3.params.toList Rows.fnExecAllSpec.vars false W args.toList ds gs before) :
    Calls Try.prog 3 args W fun e W' => ∃ v, e = .returned v ∧ Rows.fnExecAllSpec.post enc Try.prog Try.f3 false true false false W args v W' := by
  have hW' := hW
  obtain ⟨p, q, hA0, hV, rfl, hfz, hnd⟩ := hW
  have hA : DataW.TrodAll enc Try.prog W 0 (fun _ => true) true Try.f3.params.toList args.toList ds p := hA0
  rw [Try.params3] at hA hval
  obtain ⟨v0, d0, rfl, rfl, h0⟩ := trodAll_one hA
  obtain ⟨rfl, rfl⟩ := trodVars_none hV
  obtain ⟨a0, len, cap, rfl⟩ := okWide_slice Try.underlying22 (hval 0 22 v0 rfl rfl)
  have h0k := h0
  obtain ⟨fuel, hf⟩ := h0
  clear hA0
  simp only [List.append_nil] at hW'
  have hlt : ∀ x ∈ p, x.block < W.heap.size := fun x hx => by simpa using hW'.lt x hx
  have fin : Calls Try.prog 3 #[.slice a0 len cap] W fun e w' => e = .returned (.bool true) ∧ Below W.heap.size W w' := by
    rcases open_ints Try.underlying22 Try.underlying5 cells8 hf with ⟨hcs, hx⟩ | ⟨a, len', cap', zs, hcs, _, hl, hm, hz, hx, hcell, hwz⟩
    · simp [Value.cells] at hcs
      obtain ⟨rfl, rfl, rfl⟩ := hcs
      exact law_calls (imm := fun _ => False) (lawExecAll_fn [] (fun b hb => by cases hb)) (fun g h => h.elim) (.sl0 _ _)
    · simp [Value.cells] at hcs
      obtain ⟨rfl, rfl, rfl⟩ := hcs
      simp only [if_true] at hz
      have hc8 : Code8 (zs.take len) := by
        intro n hn
        have := hwz n (List.mem_of_mem_take hn)
        simp [Lit.wf, IntKind.min, IntKind.max, IntKind.signed, IntKind.bits] at this
        omega
      by_cases hl0 : len = 0
      · subst hl0
        exact law_calls (imm := fun _ => False) (lawExecAll_fn [] (fun b hb => by cases hb)) (fun g h => h.elim) (.sl0 _ _)
      · obtain ⟨b, off, spot⟩ := a
        have hspot : spot = none := by simpa [Addr.add] using World.cell?_spot (hcell 0 (by omega))
        subst hspot
        refine law_calls (imm := fun g => g = b) (lawExecAll_fn (zs.take len) hc8) (fun g hg => ?_) (code_rp (by omega) hl rfl fun i hi => by rw [← add_plain]; exact hcell i hi)
        subst hg
        have := hcell 0 (by omega)
        rw [add_plain] at this
        unfold World.cell? at this
        split at this
        · rename_i hh; exact (Array.getElem?_eq_some_iff.1 hh).1
        · cases this
  refine fin.mono fun e W' ⟨he, bel⟩ => ?_
  subst he
  refine ⟨_, rfl, _, _, _, [], p, [], hW', ?_, ?_, rfl, bel.frame _, fun h => by cases h⟩
  · exact trodAll_mk1 (shut_bool Try.underlying4 _)
  · rw [Try.params3]
    exact trodAll_mk1 (Below.trod laidOut' (by kernel_rfl) (of_decide_eq_true (by kernel_rfl)) h0k bel hlt)

noncomputable def laidWorld (os : Os) : World := World.holding Try.prog os ⟨#[], #[], []⟩
theorem laid_met (os : Os) : laidMet Try.prog Rows.fnExecAllRow.laid ((laidWorld os).forCall (fun _ _ => 0) ⟨#[], #[.slice none 0 0], []⟩).memory :=
  laidMet_of_run' 8 (by kernel_rfl) (by kernel_rfl)
theorem reads (os : Os) {H : Type} (enc : TypeId × Value → H) : ∃ places, DataW.whole enc Try.prog ((laidWorld os).forCall (fun _ _ => 0) ⟨#[], #[.slice none 0 0], []⟩).memory Try.f3.params.toList Rows.fnExecAllSpec.vars false #[Value.slice none 0 0].toList 8 = some ([.nil], [], places) :=
  ⟨[], by kernel_rfl⟩

set_option maxRecDepth 100000 in
theorem lifted (os : Os) (started : os.Started) (H : Type) (enc : TypeId × Value → H) (F : Stop.Interp) :
    ReturnsInHanded {} Try.checked os 3 .any ((OpenSpec.ofChange Rows.fnExecAllSpec).preRow enc Try.prog Try.f3 Rows.fnExecAllRow.domain false Rows.fnExecAllRow.laid) (((OpenSpec.ofChange Rows.fnExecAllSpec).at F).post enc Try.prog Try.f3 false true false false) := by
  obtain ⟨places, hx⟩ := reads os enc
  refine returnsInHanded_of_row (C := Try.checked) (s := OpenSpec.ofChange Rows.fnExecAllSpec) own started (by kernel_rfl) Try.func3
    (witness_row_at (enc := enc) (C := Try.checked) false (laidWorld os) #[.slice none 0 0] rfl (by kernel_rfl) (by kernel_rfl) (by kernel_rfl)
      (OpenSpec.preRow_of_cond 8 hx (by kernel_rfl) (fun k hk => by cases hk) (by kernel_rfl) (laid_met os))) ?_
  intro W base args ds gs before hval hW _ _ _ hL _ _
  exact contract H enc W base args ds gs before hval hW

end fnExecAll
open fnExecAll in
theorem fnExecAll_holds : Rows.FnExecAllSaid :=
  OpenClaim.holds_of_cond 3 Try.f3 rfl rfl rfl rfl rfl rfl rfl ⟨rfl, rfl, rfl, rfl, rfl⟩ rfl rfl rfl rfl rfl (by kernel_rfl) Try.func3 (by kernel_rfl)
    (of_decide_eq_true (by kernel_rfl)) (by unfold Func.isWrapper; first | (rw [if_pos (by decide +kernel)]; kernel_rfl) | (rw [if_neg (by decide +kernel)]; exact ⟨rfl, rfl⟩))
    (fun os started H enc _ F => by rw [OpenClaim.pre_eq_preRow]; exact lifted os started H enc F)
end Go.Proofs.Ytmmipjlogdggiaa
