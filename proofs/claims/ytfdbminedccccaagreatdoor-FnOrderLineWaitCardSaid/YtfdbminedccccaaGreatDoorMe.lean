/-
  All ways, by the reference: handed over, so that who asked may write into them. A region walked in two parts, with another look at memory between them. What must be ahead of what, by the reference: looks at what it looks at. An object frozen for good, with the pointers that lead to it; calls that look at two objects, or make one. The relations that the program makes graphs of: of each place for itself; by an order. Who waits and each reader: the two of which one can be added, by the program. One of each two is added, the first where it holds so with all behind, by the program. The reference's nets: copied, with one more, held. The reference: whether a net holds. What must be ahead of what, by the reference: what stays, what is told.
-/
import Derived.Test.YtfdbminedccccaaGreatDoorMd
/-! ## All ways, by the reference: handed over, so that who asked may write into them -/
namespace Go.Proofs.YtfdbminedccccaaGreatDoor
open Go.RowKit
set_option linter.unusedSimpArgs false
set_option linter.unusedVariables false
set_option pp.maxSteps 3000

/-- A way as it lies in an object: its rows are its own. -/
structure RowE where
  γ : Option Nat
  c : Nat
  f : List Int
  e : TypeId
  γ' : Option Nat
  c' : Nat
  ws : List RowI
def RowE.V (x : RowE) : V := .agg [.own 3 x.γ x.c (x.f.map (V.int .i64)), .own x.e x.γ' x.c' (x.ws.map RowI.V)]
theorem RowE.V_eq (x : RowE) : x.V = .agg [.own 3 x.γ x.c (x.f.map (V.int .i64)), .own x.e x.γ' x.c' (x.ws.map RowI.V)] := rfl
def RowE.x (x : RowE) : Exe := ⟨x.f, x.ws.map RowI.l⟩
theorem specExecAllO_ok (p : Prog) (hp : p.length < 2 ^ 40) (hok : progOk p = true) (hn : (events p).length ≤ 42) (hF : (compl (scene p).ds (events p).length []).length < 2 ^ 30) (hR : ∀ k : Nat, k < 3 → (rowsR (writersOf (scene p).ds k) (writersOf (scene p).ds k).length []).length < 2 ^ 20) (hB : ∀ k, k ≤ 3 → (ordersSK (scene p).ds k).length < 2 ^ 30)
    (hP : (compl (scene p).ds (events p).length []).length * (ordersSK (scene p).ds 3).length < 2 ^ 30) (hrows : ∀ o ∈ ordersSK (scene p).ds 3, ∀ row ∈ o, row.length < 2 ^ 20) : Fc Tryz.prog 39 [progV p] noM
    (fun r m => ∃ (γ : Option Nat) (cap : Nat) (e : TypeId) (es : List RowE), es.map RowE.x = allS p ∧ (∀ x ∈ es, x.γ' = none ∨ x.e = 26) ∧ (γ = none ∨ e = 29) ∧ r = .msl 100 [] γ es.length cap ∧ m = noM.set 100 (.own e γ cap (es.map RowE.V))) := by
  have hsl : (scene p).ds.length = (events p).length := by simp [scene]
  have hev := specExecEvents_fn p hp
  rw [hok, if_pos rfl] at hev
  refine Fc.rekey (R' := fun r m => ∃ (γ : Option Nat) (cap : Nat) (e : TypeId) (es : List RowE), es.map RowE.x = allS p ∧ (∀ x ∈ es, x.γ' = none ∨ x.e = 26) ∧ (γ = none ∨ e = 29) ∧ r = .msl 2 [] γ es.length cap ∧ m = noM.set 2 (.own e γ cap (es.map RowE.V))) ?_ ?_
  rotate_left
  · rintro r m ⟨γ, cap, e, es, h1, h2, h3, rfl, rfl⟩
    exact .inr ⟨2, γ, es.length, cap, _, rfl, by simp [Mem.set], γ, cap, e, es, h1, h2, h3, rfl, era_set rfl⟩
  refine Fc.start (S := [20]) Tryz.func39 Tryz.ntmps39 Tryz.results39 rfl (by decide) rfl (by kernel_rfl) ?_
  simp (maxSteps := 1000000) (disch := omega) only [push_cast, go_sem, wpS_tt, wpS_tf, wpS_ft, wpS_ff, wpCond_tt, wpCond_ff, simprocAttr, progV_eq]
  intro g1 g2
  refine callR.pure (specProgOk_fn p hp) rfl rfl ?_
  simp (maxSteps := 1000000) (disch := omega) only [push_cast, go_sem, wpS_tt, wpS_tf, wpS_ft, wpS_ff, wpCond_tt, wpCond_ff, simprocAttr, hok]
  refine callR.pure hev rfl rfl ?_
  simp (maxSteps := 1000000) (disch := omega) only [push_cast, go_sem, wpS_tt, wpS_tf, wpS_ft, wpS_ff, wpCond_tt, wpCond_ff, simprocAttr]
  refine callR.pure (l12Froms0_fn p hn hF) rfl rfl ?_
  simp (maxSteps := 1000000) (disch := omega) only [push_cast, go_sem, wpS_tt, wpS_tf, wpS_ft, wpS_ff, wpCond_tt, wpCond_ff, simprocAttr]
  refine callR.pure (l12Orders_fn p hn hR hB) rfl rfl ?_
  simp (maxSteps := 1000000) (disch := omega) only [push_cast, go_sem, wpS_tt, wpS_tf, wpS_ft, wpS_ff, wpCond_tt, wpCond_ff, simprocAttr]
  have ho1 : (ordersSK (scene p).ds 3).length < 2 ^ 30 := hB 3 (Nat.le_refl _)
  refine Sat.loop (σ := EvS × List RowE) (fun x => upd (upd (upd (upd (upd (upd noT 1 (.ptr 1 [] 0 0 g1 1)) 4 (.sl ((events p).map Evt.V))) 5 (.sl ((compl (scene p).ds (events p).length []).map intsV))) 6 (.sl ((ordersSK (scene p).ds 3).map rowsV))) 7 (.int .i64 x.1.k)) 3 (.msl 3 [] x.1.γ x.2.length x.1.c)) (fun x => (noM.set 1 (.own 25 (some g1) 1 [.agg [.sl (p.map thrV)]])).set 3 (.own x.1.e x.1.γ x.1.c (x.2.map RowE.V)))
    (fun x => x.1.k ≤ (compl (scene p).ds (events p).length []).length ∧ (x.1.γ = none ∨ x.1.e = 29) ∧ (∀ y ∈ x.2, y.γ' = none ∨ y.e = 26) ∧ x.2.map RowE.x = ((compl (scene p).ds (events p).length []).take x.1.k).flatMap fun f => (ordersSK (scene p).ds 3).flatMap fun o => oneS p f o) (fun x => (compl (scene p).ds (events p).length []).length - x.1.k) (⟨0, 29, some g2, 0⟩, []) (by simp) ?_ ?_
  · (refine Less.start ?_; repeat (first | exact LessO.nil | exact LessO.all | refine LessO.skip (by decide) ?_ | refine LessO.upd ?_ ?_ | refine LessO.set ?_ ?_)) <;> (try simp (maxSteps := 1000000) (disch := omega) only [push_cast, go_sem, wpS_tt, wpS_tf, wpS_ft, wpS_ff, wpCond_tt, wpCond_ff, simprocAttr])
    all_goals rfl
  rintro ⟨⟨i, e, γ, c⟩, ys⟩ ⟨hi, hγ, hye, hys⟩ J hJ
  simp only at hi hγ hye hys hJ
  refine Sat.of (S := []) (by kernel_rfl) ?_
  rcases Nat.lt_or_ge i (compl (scene p).ds (events p).length []).length with hlt | hge
  · obtain ⟨f, hf⟩ : ∃ f, (compl (scene p).ds (events p).length [])[i]? = some f := ⟨_, List.getElem?_eq_getElem hlt⟩
    obtain ⟨hfl, hfx⟩ := compl_row (by simp; omega) (by simp) (List.mem_of_getElem? hf)
    rw [hsl] at hfl hfx
    simp (maxSteps := 1000000) (disch := omega) only [push_cast, go_sem, wpS_tt, wpS_tf, wpS_ft, wpS_ff, wpCond_tt, wpCond_ff, simprocAttr, hlt]
    refine Sat.loop (σ := EvS × List RowE) (fun x => upd (upd (upd (upd (upd (upd (upd noT 1 (.ptr 1 [] 0 0 g1 1)) 4 (.sl ((events p).map Evt.V))) 5 (.sl ((compl (scene p).ds (events p).length []).map intsV))) 6 (.sl ((ordersSK (scene p).ds 3).map rowsV))) 7 (.int .i64 i)) 8 (.int .i64 x.1.k)) 3 (.msl 3 [] x.1.γ x.2.length x.1.c)) (fun x => (noM.set 1 (.own 25 (some g1) 1 [.agg [.sl (p.map thrV)]])).set 3 (.own x.1.e x.1.γ x.1.c (x.2.map RowE.V)))
      (fun x => x.1.k ≤ (ordersSK (scene p).ds 3).length ∧ (x.1.γ = none ∨ x.1.e = 29) ∧ (∀ y ∈ x.2, y.γ' = none ∨ y.e = 26) ∧ x.2.map RowE.x = (((compl (scene p).ds (events p).length []).take i).flatMap fun f => (ordersSK (scene p).ds 3).flatMap fun o => oneS p f o) ++ ((ordersSK (scene p).ds 3).take x.1.k).flatMap fun o => oneS p f o) (fun x => (ordersSK (scene p).ds 3).length - x.1.k) (⟨0, e, γ, c⟩, ys) (by simp [hγ, hys]; exact hye) ?_ ?_
    · (refine Less.start ?_; repeat (first | exact LessO.nil | exact LessO.all | refine LessO.skip (by decide) ?_ | refine LessO.upd ?_ ?_ | refine LessO.set ?_ ?_)) <;> (try simp (maxSteps := 1000000) (disch := omega) only [push_cast, go_sem, wpS_tt, wpS_tf, wpS_ft, wpS_ff, wpCond_tt, wpCond_ff, simprocAttr])
    rintro ⟨⟨j, e2, γ2, c2⟩, zs⟩ ⟨hj, hγ2, hze, hzs⟩ J2 hJ2
    simp only at hj hγ2 hze hzs hJ2
    refine Sat.of (S := [18]) (by kernel_rfl) ?_
    rcases Nat.lt_or_ge j (ordersSK (scene p).ds 3).length with hlt2 | hge2
    · obtain ⟨o, ho⟩ : ∃ o, (ordersSK (scene p).ds 3)[j]? = some o := ⟨_, List.getElem?_eq_getElem hlt2⟩
      have hol : o.length = 3 := ordersSK_row (List.mem_of_getElem? ho)
      simp (maxSteps := 1000000) (disch := omega) only [push_cast, go_sem, wpS_tt, wpS_tf, wpS_ft, wpS_ff, wpCond_tt, wpCond_ff, simprocAttr, hf, hlt, ho, hlt2, intsV_eq, rowsV_eq]
      intro g4
      refine ⟨by omega, fun γ3 c3 _ => ?_⟩
      intro g3
      refine Sat.loop (σ := EvS × List RowI) (fun x => upd (upd (upd (upd (upd (upd (upd (upd (upd noT 1 (.ptr 1 [] 0 0 g1 1)) 4 (.sl ((events p).map Evt.V))) 5 (.sl ((compl (scene p).ds (events p).length []).map intsV))) 6 (.sl ((ordersSK (scene p).ds 3).map rowsV))) 7 (.int .i64 i)) 8 (.int .i64 j)) 3 (.msl 3 [] γ2 zs.length c2)) 9 (.ptr 9 [] 0 0 g3 2)) 10 (.int .i64 x.1.k)) (fun x => ((noM.set 1 (.own 25 (some g1) 1 [.agg [.sl (p.map thrV)]])).set 3 (.own e2 γ2 c2 (zs.map RowE.V))).set 9 (.own 29 (some g3) 1 [.agg [.own 3 γ3 c3 (f.map (V.int .i64)), .own x.1.e x.1.γ x.1.c (x.2.map RowI.V)]]))
        (fun x => x.1.k ≤ o.length ∧ (x.1.γ = none ∨ x.1.e = 26) ∧ x.2.map RowI.l = o.take x.1.k) (fun x => o.length - x.1.k) (⟨0, 0, none, 0⟩, []) (by simp) ?_ ?_
      · (refine Less.start ?_; repeat (first | exact LessO.nil | exact LessO.all | refine LessO.skip (by decide) ?_ | refine LessO.upd ?_ ?_ | refine LessO.set ?_ ?_)) <;> (try simp (maxSteps := 1000000) (disch := omega) only [push_cast, go_sem, wpS_tt, wpS_tf, wpS_ft, wpS_ff, wpCond_tt, wpCond_ff, simprocAttr])
        all_goals rfl
      rintro ⟨⟨m, e4, γ4, c4⟩, ws⟩ ⟨hm, hγ4, hws⟩ J3 hJ3
      simp only at hm hγ4 hws hJ3
      refine Sat.of (S := []) (by kernel_rfl) ?_
      rcases Nat.lt_or_ge m o.length with hlt3 | hge3
      · obtain ⟨row, hr⟩ : ∃ row, o[m]? = some row := ⟨_, List.getElem?_eq_getElem hlt3⟩
        have hrl := hrows o (List.mem_of_getElem? ho) row (List.mem_of_getElem? hr)
        have hwl : ws.length = m := by have := congrArg List.length hws; rw [List.length_map, List.length_take, Nat.min_eq_left hm] at this; exact this
        have hγ4' : (γ4 = none ∨ e4 = 26) = True := by simp only [hγ4]
        simp (maxSteps := 1000000) (disch := omega) only [push_cast, go_sem, wpS_tt, wpS_tf, wpS_ft, wpS_ff, wpCond_tt, wpCond_ff, simprocAttr, ho, hlt2, hr, hlt3, rowsV_eq, intsV_eq]
        refine Sat.drawnE [(1, 2), (1, 6), (2, 6), (1, 9), (2, 9), (1, 10), (1, 11)] [] [] (fun _ _ _ => none) (by kernel_rfl) (by kernel_rfl) ?_
        simp (maxSteps := 1000000) (disch := omega) only [push_cast, go_sem, wpS_tt, wpS_tf, wpS_ft, wpS_ff, wpCond_tt, wpCond_ff, simprocAttr, ho, hlt2, hr, hlt3, rowsV_eq, intsV_eq]
        intro g5
        refine ⟨by omega, fun γ5 c5 _ => ?_⟩
        intro g6
        cases hfl : (V.own 3 γ5 c5 (row.map (V.int .i64))).flatC <;> simp (maxSteps := 1000000) (disch := omega) only [push_cast, go_sem, wpS_tt, wpS_tf, wpS_ft, wpS_ff, wpCond_tt, wpCond_ff, simprocAttr, hγ4', hfl]
        all_goals
          refine ⟨by omega, fun γ6 c6 _ => ?_⟩
          refine hJ3 (⟨m + 1, 26, γ6, c6⟩, ws ++ [⟨γ5, c5, row⟩]) _ _ ⟨by dsimp only; omega, .inr rfl, ?_⟩ (by dsimp only; omega) ?_
          · dsimp only
            rw [List.map_append, hws, take_get hr]
            rfl
          · (refine Less.start ?_; repeat (first | exact LessO.nil | exact LessO.all | refine LessO.skip (by decide) ?_ | refine LessO.upd ?_ ?_ | refine LessO.set ?_ ?_)) <;> (try simp (maxSteps := 1000000) (disch := omega) only [push_cast, go_sem, wpS_tt, wpS_tf, wpS_ft, wpS_ff, wpCond_tt, wpCond_ff, simprocAttr])
            all_goals simp [RowI.V]
      · have : m = o.length := by omega
        subst this
        rw [List.take_length] at hws
        simp (maxSteps := 1000000) (disch := omega) only [push_cast, go_sem, wpS_tt, wpS_tf, wpS_ft, wpS_ff, wpCond_tt, wpCond_ff, simprocAttr, ho, hlt2, rowsV_eq]
        refine Sat.look (upd (upd (upd noT 1 (.eptr [.sl (p.map thrV)])) 4 (.sl ((events p).map Evt.V))) 9 (.eptr [.sl (f.map (V.int .i64)), .sl (o.map intsV)]))
          (upd (upd (upd (upd (upd (upd (upd (upd noT 1 (.ptr 1 [] 0 0 g1 1)) 4 (.sl ((events p).map Evt.V))) 5 (.sl ((compl (scene p).ds (events p).length []).map intsV))) 6 (.sl ((ordersSK (scene p).ds 3).map rowsV))) 7 (.int .i64 i)) 8 (.int .i64 j)) 3 (.msl 3 [] γ2 zs.length c2)) 9 (.ptr 9 [] 0 0 g3 2))
          69 (endsS p ⟨f, o⟩) ?_ (by kernel_rfl) ?_ ?_ ?_
        · refine Pk.ptr (Pk.upd (Pk.ptr Pk.nil rfl rfl rfl (by kernel_rfl) ?_) rfl) rfl rfl rfl (by kernel_rfl) ?_
          · rfl
          · simp only [V.cells, List.drop_zero, List.map_cons, List.map_nil, V.fz, fzs_map, fzs_int, fz_rowsI, hws]
        · simp (maxSteps := 1000000) (disch := omega) only [push_cast, go_sem, wpS_tt, wpS_tf, wpS_ft, wpS_ff, wpCond_tt, wpCond_ff, simprocAttr, Exe.V_eq]
          refine callR.pure (l12Ends_fn p ⟨f, o⟩ hn hfl hfx) rfl rfl ?_
          simp (maxSteps := 1000000) (disch := omega) only [push_cast, go_sem, wpS_tt, wpS_tf, wpS_ft, wpS_ff, wpCond_tt, wpCond_ff, simprocAttr]
        · exact Keep.upd (Keep.upd (Keep.upd (Keep.upd (Keep.upd (Keep.upd (Keep.upd (Keep.upd Keep.nil rfl rfl) rfl rfl) rfl rfl) rfl rfl) rfl rfl) rfl rfl) rfl rfl) rfl rfl
        refine Sat.lift 9 [] 0 0 200 (n0 := .own 29 (some g3) 1 [.agg [.own 3 γ3 c3 (f.map (V.int .i64)), .own e4 γ4 c4 (ws.map RowI.V)]]) rfl rfl rfl ?_
        refine Sat.lift 9 [] 0 1 201 (n0 := .own 29 (some g3) 1 [.agg [.msl 200 [] γ3 (f.map (V.int .i64)).length c3, .own e4 γ4 c4 (ws.map RowI.V)]]) rfl rfl rfl ?_
        refine Sat.of (S := []) (by kernel_rfl) ?_
        cases hend : endsS p ⟨f, o⟩
        · simp (maxSteps := 1000000) (disch := omega) only [push_cast, go_sem, wpS_tt, wpS_tf, wpS_ft, wpS_ff, wpCond_tt, wpCond_ff, simprocAttr]
          refine hJ2 (⟨j + 1, e2, γ2, c2⟩, zs) _ _ ⟨by dsimp only; omega, hγ2, hze, ?_⟩ (by dsimp only; omega) ?_
          · dsimp only
            rw [hzs, take_get ho, List.flatMap_append]
            simp [oneS, hend]
          · (refine Less.start ?_; repeat (first | exact LessO.nil | exact LessO.all | refine LessO.skip (by decide) ?_ | refine LessO.upd ?_ ?_ | refine LessO.set ?_ ?_)) <;> (try simp (maxSteps := 1000000) (disch := omega) only [push_cast, go_sem, wpS_tt, wpS_tf, wpS_ft, wpS_ff, wpCond_tt, wpCond_ff, simprocAttr])
        · have hγ2' : (γ2 = none ∨ e2 = 29) = True := by simp only [hγ2]
          have hzb : zs.length ≤ i * (ordersSK (scene p).ds 3).length + j := by
            have hzl := congrArg List.length hzs
            rw [List.length_map, List.length_append] at hzl
            rw [hzl]
            have k1 := flatMap_le (f := fun f => (ordersSK (scene p).ds 3).flatMap fun o => oneS p f o) (n := (ordersSK (scene p).ds 3).length) (fun f => by have := flatMap_le (oneS_le p f) (ordersSK (scene p).ds 3); rw [Nat.mul_one] at this; exact this) ((compl (scene p).ds (events p).length []).take i)
            have k2 := flatMap_le (oneS_le p f) ((ordersSK (scene p).ds 3).take j)
            rw [List.length_take, Nat.min_eq_left hi] at k1
            rw [List.length_take, Nat.min_eq_left hj, Nat.mul_one] at k2
            exact Nat.add_le_add k1 k2
          have hm1 : (i + 1) * (ordersSK (scene p).ds 3).length ≤ (compl (scene p).ds (events p).length []).length * (ordersSK (scene p).ds 3).length := Nat.mul_le_mul_right _ (by omega)
          rw [Nat.succ_mul] at hm1
          have hzc : zs.length + 1 < 2 ^ 30 + 1 := by generalize i * (ordersSK (scene p).ds 3).length = A at *; generalize (compl (scene p).ds (events p).length []).length * (ordersSK (scene p).ds 3).length = B at *; omega
          simp (maxSteps := 1000000) (disch := omega) only [push_cast, go_sem, wpS_tt, wpS_tf, wpS_ft, wpS_ff, wpCond_tt, wpCond_ff, simprocAttr, hγ2']
          intro g5
          cases hfl : ((V.own 3 γ3 c3 (f.map (V.int .i64))).flatC && (V.own e4 γ4 c4 (ws.map RowI.V)).flatC) <;> simp (maxSteps := 1000000) (disch := omega) only [push_cast, go_sem, wpS_tt, wpS_tf, wpS_ft, wpS_ff, wpCond_tt, wpCond_ff, simprocAttr, hfl]
          all_goals
            refine ⟨by omega, fun γ5 c5 _ => ?_⟩
            refine hJ2 (⟨j + 1, 29, γ5, c5⟩, zs ++ [⟨γ3, c3, f, e4, γ4, c4, ws⟩]) _ _ ⟨by dsimp only; omega, .inr rfl, ?_, ?_⟩ (by dsimp only; omega) ?_
            · intro y hy
              rcases List.mem_append.1 hy with hy | hy
              · exact hze y hy
              · obtain rfl := List.mem_singleton.1 hy; exact hγ4
            · dsimp only
              rw [List.map_append, hzs, take_get ho, List.flatMap_append, List.append_assoc]
              simp [oneS, hend, RowE.x, hws]
            · (refine Less.start ?_; repeat (first | exact LessO.nil | exact LessO.all | refine LessO.skip (by decide) ?_ | refine LessO.upd ?_ ?_ | refine LessO.set ?_ ?_)) <;> (try simp (maxSteps := 1000000) (disch := omega) only [push_cast, go_sem, wpS_tt, wpS_tf, wpS_ft, wpS_ff, wpCond_tt, wpCond_ff, simprocAttr])
              all_goals simp [RowE.V]
    · have : j = (ordersSK (scene p).ds 3).length := by omega
      subst this
      simp (maxSteps := 1000000) (disch := omega) only [push_cast, go_sem, wpS_tt, wpS_tf, wpS_ft, wpS_ff, wpCond_tt, wpCond_ff, simprocAttr]
      refine hJ (⟨i + 1, e2, γ2, c2⟩, zs) _ _ ⟨by dsimp only; omega, hγ2, hze, ?_⟩ (by dsimp only; omega) ?_
      · dsimp only
        rw [hzs, List.take_length, take_get hf, List.flatMap_append]
        simp
      · (refine Less.start ?_; repeat (first | exact LessO.nil | exact LessO.all | refine LessO.skip (by decide) ?_ | refine LessO.upd ?_ ?_ | refine LessO.set ?_ ?_)) <;> (try simp (maxSteps := 1000000) (disch := omega) only [push_cast, go_sem, wpS_tt, wpS_tf, wpS_ft, wpS_ff, wpCond_tt, wpCond_ff, simprocAttr])
  · have : i = (compl (scene p).ds (events p).length []).length := by omega
    subst this
    rw [List.take_length] at hys
    simp (maxSteps := 1000000) (disch := omega) only [push_cast, go_sem, wpS_tt, wpS_tf, wpS_ft, wpS_ff, wpCond_tt, wpCond_ff, simprocAttr]
    refine Sat.of (S := []) (by kernel_rfl) ?_
    simp (maxSteps := 1000000) (disch := omega) only [push_cast, go_sem, wpS_tt, wpS_tf, wpS_ft, wpS_ff, wpCond_tt, wpCond_ff, simprocAttr]
    refine ⟨_, ?_, γ, c, e, ys, hys, hye, hγ, rfl, rfl⟩
    ((repeat (first | exact Sub.no | refine Sub.set ?_ ?_)) <;> (try simp (disch := omega) only [push_cast, go_sem, wpS_tt, wpS_tf, wpS_ft, wpS_ff, wpCond_tt, wpCond_ff, simprocAttr]))
theorem specExecAllO_fn (p : Prog) (hp : p.length < 2 ^ 40) : Fc Tryz.prog 39 [progV p] noM
    (fun r m => ∃ (γ : Option Nat) (cap : Nat) (e : TypeId) (es : List RowE), es.map RowE.x = specAll p ∧ (∀ x ∈ es, x.γ' = none ∨ x.e = 26) ∧ (γ = none ∨ e = 29) ∧ r = .msl 100 [] γ es.length cap ∧ m = noM.set 100 (.own e γ cap (es.map RowE.V))) := by
  cases hok : progOk p
  · refine Fc.rekey (R' := fun r m => ∃ γ cap, r = .msl 2 [] γ 0 cap ∧ m = noM.set 2 (.own 29 γ cap [])) ?_ ?_
    rotate_left
    · rintro r m ⟨γ, cap, rfl, rfl⟩
      exact .inr ⟨2, γ, 0, cap, _, rfl, by simp [Mem.set], γ, cap, 29, [], by simp [specAll, hok], by simp, .inr rfl, rfl, era_set rfl⟩
    refine Fc.start (S := []) Tryz.func39 Tryz.ntmps39 Tryz.results39 rfl (by decide) rfl (by kernel_rfl) ?_
    simp (maxSteps := 1000000) (disch := omega) only [push_cast, go_sem, wpS_tt, wpS_tf, wpS_ft, wpS_ff, wpCond_tt, wpCond_ff, simprocAttr, progV_eq]
    intro g1 g2
    refine callR.pure (specProgOk_fn p hp) rfl rfl ?_
    simp (maxSteps := 1000000) (disch := omega) only [push_cast, go_sem, wpS_tt, wpS_tf, wpS_ft, wpS_ff, wpCond_tt, wpCond_ff, simprocAttr, hok]
    refine ⟨_, ?_, some g2, 0, rfl, rfl⟩
    ((repeat (first | exact Sub.no | refine Sub.set ?_ ?_)) <;> (try simp (disch := omega) only [push_cast, go_sem, wpS_tt, wpS_tf, wpS_ft, wpS_ff, wpCond_tt, wpCond_ff, simprocAttr]))
  · have hel := events_le hok
    have hus := scene_uses hok
    have hsl : (scene p).ds.length = (events p).length := by simp [scene]
    have hc := compl_le hus
    rw [hsl] at hc
    have := specExecAllO_ok p hp hok hel (by omega) (fun k hk => by
      rw [rowsW_len]
      have := fac_le (wrN_any hus k)
      omega) (fun k hk => by have := ordersS_le hus k hk; omega) (Nat.lt_of_le_of_lt (Nat.mul_le_mul hc (ordersS_le hus 3 (Nat.le_refl _))) (by decide)) (fun o ho row hr => by have := ordersS_in ho hr; omega)
    rw [specAll, hok, if_pos rfl]
    exact this
/-- What is put among all is small. -/
theorem specAll_small {p : Prog} {y : Exe} (h : y ∈ specAll p) : y.fr.length ≤ 42 ∧ y.od.length = 3 ∧ ∀ r ∈ y.od, r.length ≤ 42 := by
  unfold specAll at h
  cases hok : progOk p
  · rw [hok] at h; cases h
  rw [hok, if_pos rfl] at h
  have hel := events_le hok
  have hsl : (scene p).ds.length = (events p).length := by simp [scene]
  simp only [allS, List.mem_flatMap] at h
  obtain ⟨f, hf, o, ho, h⟩ := h
  unfold oneS at h
  split at h
  · simp at h; subst h
    have h1 := (compl_row (by simp; omega) (by simp) hf).1
    have h2 := ordersSK_row ho
    exact ⟨by dsimp only; omega, h2, fun r hr => by have := ordersS_in ho hr; omega⟩
  · cases h
theorem specAll_le (p : Prog) : (specAll p).length < 2 ^ 30 := by
  unfold specAll
  cases hok : progOk p
  · simp
  have hus := scene_uses hok
  have hsl : (scene p).ds.length = (events p).length := by simp [scene]
  have hc := compl_le hus
  rw [hsl] at hc
  rw [if_pos rfl]
  have k1 := flatMap_le (f := fun f => (ordersSK (scene p).ds 3).flatMap fun o => oneS p f o) (n := (ordersSK (scene p).ds 3).length) (fun f => by have := flatMap_le (oneS_le p f) (ordersSK (scene p).ds 3); rw [Nat.mul_one] at this; exact this) (compl (scene p).ds (events p).length [])
  exact Nat.lt_of_le_of_lt k1 (Nat.lt_of_le_of_lt (Nat.mul_le_mul hc (ordersS_le hus 3 (Nat.le_refl _))) (by decide))
end Go.Proofs.YtfdbminedccccaaGreatDoor
/-! ## A region walked in two parts, with another look at memory between them -/
namespace Go.Proofs.YtfdbminedccccaaGreatDoor
open Go.RowKit
set_option linter.unusedSimpArgs false
set_option linter.unusedVariables false

section
variable {P : Program} {N : Nat} {imm imm' imm0 : Nat → Prop} {w w' w0 : World} {M M0 M' Mm : Mem} {t T : Nat → V} {a : Act} {C : Kont} {ops : Array Oper} {Q : Exit → Act → World → Prop} {K : (Nat → V) → Mem → Prop}
theorem wpL_soundA {l2 : List Oper} : ∀ (l : List Oper) (t : Nat → V) (M : Mem) (imm : Nat → Prop) (a : Act) (w : World), (∀ o ∈ l, (∀ i, o.dst = some i → i < N) ∧ ∀ j b, o.guard = some (j, b) → ∃ d, (ops[j]?).bind (·.dst) = some d) → wpL P (ops.toList.map (·.dst)) l t M K →
    Rel P N imm0 w0 M0 imm t M a w → (∀ imm' t' M' a' w', Rel P N imm0 w0 M0 imm' t' M' a' w' → K t' M' → wpList P ops Q l2 a' w') → wpList P ops Q (l ++ l2) a w
  | [], t, M, imm, a, w, _, h, hr, hn => hn _ _ _ _ _ hr h
  | o :: l, t, M, imm, a, w, hd, h, hr, hn => by
    have := wpOp_sound (Q := Q) h (hd o (by simp)).1 (hd o (by simp)).2 hr (next := fun a w => wpList P ops Q (l ++ l2) a w) (fun imm' t' M' a' w' hr' h' => wpL_soundA l t' M' imm' a' w' (fun o ho => hd o (by simp [ho])) h' hr' hn)
    rw [List.cons_append]
    unfold wpList
    split
    · rename_i hw
      rw [if_pos hw] at this
      exact .inl this
    · rename_i hw
      rw [if_neg hw] at this
      exact this
/-- What the rest of a region comes to. -/
def SatW (P : Program) (N : Nat) (ops : Array Oper) (l : List Oper) (t : Nat → V) (M : Mem) (K : (Nat → V) → Mem → Prop) : Prop :=
  ∀ (imm0 : Nat → Prop) (w0 : World) (M0 : Mem) (imm : Nat → Prop) (a : Act) (w : World), Rel P N imm0 w0 M0 imm t M a w →
    wpList P ops (fun e a' w' => e = .normal ∧ ∃ t' M' imm', Rel P N imm0 w0 M0 imm' t' M' a' w' ∧ K t' M') l a w
theorem dstOk_mem {l : List Oper} (hd : dstOk N ⟨l⟩ = true) : ∀ o ∈ l, (∀ i, o.dst = some i → i < N) ∧ ∀ j b, o.guard = some (j, b) → ∃ d, ((⟨l⟩ : Array Oper)[j]?).bind (·.dst) = some d := by
  intro o ho
  have := Array.all_eq_true'.1 hd o (by simpa using ho)
  rw [Bool.and_eq_true] at this
  refine ⟨fun i hi => ?_, fun j b hj => ?_⟩
  · have h1 := this.1; rw [hi] at h1; simpa using h1
  · have h1 := this.2; rw [hj] at h1; exact Option.isSome_iff_exists.1 h1
theorem SatW.of {l l' : List Oper} (hd : dstOk N ⟨l⟩ = true) (hl : ∀ o ∈ l', o ∈ l) (h : wpL P (l.map (·.dst)) l' t M K) : SatW P N ⟨l⟩ l' t M K := by
  intro imm0 w0 M0 imm a w hr
  exact wpL_sound (ops := ⟨l⟩) l' t M imm a w (fun o ho => dstOk_mem hd o (hl o ho)) h hr (fun imm' t' M' a' w' hr' hk => ⟨rfl, t', M', imm', hr', hk⟩)
theorem SatW.less {l : List Oper} (h : SatW P N ops l T Mm K) (hl : Less T t Mm M) : SatW P N ops l t M K := fun imm0 w0 M0 imm a w hr => h _ _ _ _ _ _ (hr.less hl)
theorem SatW.lift {l : List Oper} (o : Nat) (q : Path) (i j n : Nat) {n0 : V} {e : TypeId} {γ : Option Nat} {cap : Nat} {es : List V} (hn : M.getP o q = some n0) (hc : n0.cellAt i j = some (.own e γ cap es)) (hf : M n = none)
    (h : SatW P N ops l t ((M.setP o q i j (.msl n [] γ es.length cap)).set n (.own e γ cap es)) K) : SatW P N ops l t M K := by
  intro imm0 w0 M0 imm a w hr
  obtain ⟨h1, h2⟩ := hr.step.inv.lift hn hc hf
  exact h _ _ _ _ _ _ ⟨hr.size, hr.defers, hr.tm, hr.step.mem h1 (fun g hg => hr.step.owns g (h2 g hg)), hr.glob⟩
/-- A region in two parts. -/
theorem Sat.cutW {id : Nat} {l : List Oper} {y : Code} {σ : Type} (n : Nat) (T : σ → Nat → V) (Mm : σ → Mem) (I : σ → Prop) (hd : dstOk N ⟨l⟩ = true) (h : wpL P (l.map (·.dst)) (l.take n) t M (fun t' M' => ∃ s, I s ∧ Less (T s) t' (Mm s) M'))
    (h2 : ∀ s, I s → SatW P N ⟨l⟩ (l.drop n) (T s) (Mm s) (fun t' M' => Sat P N y t' M' C)) : Sat P N (.seq (.region id ⟨l⟩ false) y) t M C := by
  intro imm0 w0 M0 imm a w hr
  refine wp_seq (Code.wp_mono (Q := fun e a' w' => e = .normal ∧ ∃ t' M' imm', Rel P N imm0 w0 M0 imm' t' M' a' w' ∧ Sat P N y t' M' C) ?_ (wp_region_list ?_))
  · rintro e a' w' ⟨rfl, t', M', imm', hr', hk⟩
    exact hk _ _ _ _ _ _ hr'
  · have := wpL_soundA (ops := ⟨l⟩) (Q := fun e a' w' => e = .normal ∧ ∃ t' M' imm', Rel P N imm0 w0 M0 imm' t' M' a' w' ∧ Sat P N y t' M' C) (l2 := l.drop n) (l.take n) t M imm a w (fun o ho => dstOk_mem hd o (List.mem_of_mem_take ho)) h hr
      (fun imm' t' M' a' w' hr' hk => by obtain ⟨s, hs, hl⟩ := hk; exact h2 s hs _ _ _ _ _ _ (hr'.less hl))
    rw [List.take_append_drop] at this
    exact this
/-- A row that holds something has its block, wherever it stands. -/
theorem Sat.someP {cd : Code} {K : Kont} {o : Nat} {q : Path} {e : TypeId} {γ : Option Nat} {cap : Nat} {es : List V} (ho : M.getP o q = some (.own e γ cap es)) (hne : es ≠ []) (h : ∀ g, γ = some g → Sat P N cd t M K) : Sat P N cd t M K := by
  intro imm0 w0 M0 imm a w hr
  cases γ with
  | some g => exact h g rfl _ _ _ _ _ _ hr
  | none =>
    have := hr.step.inv.nd o q (.own e none cap es) ho
    exact absurd this.1 hne
theorem Fc.imp {f : FuncId} {xs : List V} {F : Mem} {R R' : Post} (h : Fc P f xs F R) (hR : ∀ r m, R r m → R' r m) : Fc P f xs F R' :=
  ⟨fun imm w vals hG hI hi hs hv => (h.fn imm w vals hG hI hi hs hv).mono (by rintro e w' ⟨v, r, m, imm', h1, h2, h3, h4⟩; exact ⟨v, r, m, imm', h1, hR _ _ h2, h3, h4⟩), h.go⟩
end
end Go.Proofs.YtfdbminedccccaaGreatDoor
/-! ## What must be ahead of what, by the reference: looks at what it looks at -/
namespace Go.Proofs.YtfdbminedccccaaGreatDoor
open Go.RowKit
set_option linter.unusedSimpArgs false
set_option linter.unusedVariables false
set_option pp.maxSteps 3000

section
variable {P : Program} {M : Mem} {k : V → Mem → Prop} {ro c : Bool}
/-- A function that looks at the object of its first argument. -/
abbrev Fo (P : Program) (f : FuncId) (bs : List V) (g n : Nat) (o v : V) : Prop := Fc P f (.ptr 0 [] 0 0 g n :: bs) (noM.set 0 o) fun r m => r = v ∧ m = noM.set 0 o
theorem look_nodup {a g n : Nat} {xs : List V} (hk : (xs.all fun v => v.key.isNone) = true) : (((V.ptr a [] 0 0 g n :: xs).map V.key).filterMap id).Nodup := by
  have hk' : ((xs.map V.key).all fun x => x.isNone) = true := by rw [List.all_map]; exact hk
  rw [List.map_cons, List.filterMap_cons]
  show (a :: (xs.map V.key).filterMap id).Nodup
  rw [keys_none hk']; simp
theorem look_foot {a g n : Nat} {xs : List V} {o : V} (hM : M a = some o) : footM M ((V.ptr a [] 0 0 g n :: xs).map V.key) 0 = some o := by simp [footM, V.key, hM]
theorem look_footF {a g n : Nat} {xs : List V} {o : V} (hM : M a = some o) (hk : (xs.all fun v => v.key.isNone) = true) : footM M ((V.ptr a [] 0 0 g n :: xs).map V.key) = noM.set 0 o := by
  have hk' : ((xs.map V.key).all fun x => x.isNone) = true := by rw [List.all_map]; exact hk
  funext i
  cases i with
  | zero => rw [look_foot hM]; rfl
  | succ i =>
    simp only [footM, List.map_cons, List.getElem?_cons_succ]
    cases hi : (xs.map V.key)[i]? with
    | none => simp [Mem.set, noM]
    | some x =>
      have := List.all_eq_true.1 hk' x (List.mem_of_getElem? hi)
      cases x with
      | none => simp [Mem.set, noM]
      | some _ => cases this
theorem look_merge {a g n : Nat} {xs : List V} {o : V} {d : Option Nat} (hM : M a = some o) (hk : (xs.all fun v => v.key.isNone) = true) : mergeM M ((V.ptr a [] 0 0 g n :: xs).map V.key) d (noM.set 0 o) = M := by
  have hk' : ((xs.map V.key).all fun x => x.isNone) = true := by rw [List.all_map]; exact hk
  rw [merge_eq, List.map_cons]
  have e1 : (noM.set 0 o) 100 = none := rfl
  have e2 : (noM.set 0 o) 0 = some o := rfl
  rw [e1, mgD_none', key_ptr, mg_some, e2, mg_all_none hk', MemU_some, set_self hM]
theorem look_args {a g n : Nat} {xs : List V} (hk : (xs.all fun v => v.key.isNone) = true) : renArgs 0 (V.ptr a [] 0 0 g n :: xs) = .ptr 0 [] 0 0 g n :: xs := by rw [renArgs_cons, renArgs_none hk]; rfl
theorem callR.look {f : FuncId} {bs : List V} {a g n : Nat} {o v : V} {d : Option Nat} (h : Fo P f bs g n o v) (hM : M a = some o) (hk : (bs.all fun v => v.key.isNone) = true) (h9 : Nat.ble (bs.length + 1) 90 = true)
    (hK : runV (some (True, det (resN d v) M)) k .mk) : callR P f (.ptr a [] 0 0 g n :: bs) d M k .mk := by
  refine callR.intro (F := noM.set 0 o) (R := fun r m => r = v ∧ m = noM.set 0 o) (by rw [look_args hk]; exact h) (look_nodup hk) (Nat.le_of_ble_eq_true h9) (Sub.set Sub.no (look_foot hM)) ?_
  rintro r0 Mf ⟨rfl, rfl⟩
  rw [look_merge hM hk]
  exact (runV_det.1 hK).2
def lookT (o : V) (pure looks : List (FuncId × V)) : Table := fun f args F => match pure.lookup f with
  | some v => some fun r m => r = v ∧ m = noM
  | none => (looks.lookup f).map fun v r m => r = v ∧ m = noM.set 0 o
theorem runD_look {f : FuncId} {xs : List V} {a g n : Nat} {o v : V} {d : Nat} {pure looks : List (FuncId × V)} (h : Fo P f xs g n o v) (hM : M a = some o) (hp : pure.lookup f = none) (hl : looks.lookup f = some v)
    (hk : (xs.all fun v => v.key.isNone) = true) (h9 : Nat.ble (xs.length + 1) 90 = true) (hchk : c = true) (hK : runV (some (True, det (resN (some d) v) M)) k .mk) :
    runD (callV (specT P (lookT o pure looks)) f (.ptr a [] 0 0 g n :: xs) (some d) M) ro M c k .mk := by
  refine runD_call (F := noM.set 0 o) (R := fun r m => r = v ∧ m = noM.set 0 o) (by simp only [lookT, hp, hl, Option.map_some]) (by rw [look_args hk]; exact h) (Sub.set Sub.no (look_foot hM)) (look_nodup hk) (Nat.le_of_ble_eq_true h9) ⟨v, _, rfl, rfl⟩
    (fun _ r0 Mf hr => by rw [hr.2]; exact look_merge hM hk) hchk ?_
  rintro r0 r Mf ⟨rfl, rfl⟩ h5
  rw [look_merge hM hk, h5 d rfl]
  exact (runV_det.1 hK).2
end

/-- What the reference looks at. -/
def ordV (p : Prog) (g : Nat) (c2 c3 c4 c5 : V) : V := .own 74 (some g) 1 [.agg [.sl (p.map thrV), .sl ((events p).map Evt.V), c2, c3, c4, c5]]
theorem ordV_eq (p : Prog) (g : Nat) (c2 c3 c4 c5 : V) : ordV p g c2 c3 c4 c5 = .own 74 (some g) 1 [.agg [.sl (p.map thrV), .sl ((events p).map Evt.V), c2, c3, c4, c5]] := rfl
section
variable (p : Prog) (g : Nat) (c2 c3 c4 c5 : V) (a b : Nat)
theorem odo_fn (ha : a < (events p).length) : Fo Tryz.prog 66 [.int .i64 a] g 6 (ordV p g c2 c3 c4 c5) (dsA p a).V := by
  obtain ⟨ea, hea⟩ : ∃ e, (events p)[a]? = some e := ⟨_, List.getElem?_eq_getElem ha⟩
  have e1 : dsA p a = stepAt p ea := by rw [dsA, scene_get hea]; rfl
  have hdo := l12Do_fn p ea (evIn_of (List.mem_of_getElem? hea))
  rw [e1]
  rw [progV_eq, Evt.V_eq, Do.V_eq] at hdo
  refine Fc.start (S := []) Tryz.func66 Tryz.ntmps66 Tryz.results66 rfl (by decide) rfl (by kernel_rfl) ?_
  simp (maxSteps := 1000000) (disch := omega) only [push_cast, go_sem, wpS_tt, wpS_tf, wpS_ft, wpS_ff, wpCond_tt, wpCond_ff, simprocAttr, ordV_eq]
  intro g4
  refine Sat.drawnE [] [] [3, 7, 10, 11] (pureT [(92, (stepAt p ea).V)]) (by kernel_rfl) (by kernel_rfl) ?_
  simp (maxSteps := 1000000) (disch := omega) only [push_cast, go_sem, wpS_tt, wpS_tf, wpS_ft, wpS_ff, wpCond_tt, wpCond_ff, simprocAttr, hea, ha, Evt.V_eq]
  refine runD_pure rfl hdo rfl rfl ?_ ?_
  · rfl
  simp (maxSteps := 1000000) (disch := omega) only [push_cast, go_sem, wpS_tt, wpS_tf, wpS_ft, wpS_ff, wpCond_tt, wpCond_ff, simprocAttr, Do.V_eq]
  refine ⟨_, ?_, rfl⟩
  ((repeat (first | exact Sub.no | refine Sub.set ?_ ?_)) <;> (try simp (disch := omega) only [push_cast, go_sem, wpS_tt, wpS_tf, wpS_ft, wpS_ff, wpCond_tt, wpCond_ff, simprocAttr]))
theorem oown_fn (ha : a < (events p).length) (hb : b < (events p).length) : Fo Tryz.prog 96 [.int .i64 a, .int .i64 b] g 6 (ordV p g c2 c3 c4 c5) (.bool (ownB (events p) a b)) := by
  obtain ⟨ea, hea⟩ : ∃ e, (events p)[a]? = some e := ⟨_, List.getElem?_eq_getElem ha⟩
  obtain ⟨eb, heb⟩ : ∃ e, (events p)[b]? = some e := ⟨_, List.getElem?_eq_getElem hb⟩
  refine Fc.start (S := []) Tryz.func96 Tryz.ntmps96 Tryz.results96 rfl (by decide) rfl (by kernel_rfl) ?_
  simp (maxSteps := 1000000) (disch := omega) only [push_cast, go_sem, wpS_tt, wpS_tf, wpS_ft, wpS_ff, wpCond_tt, wpCond_ff, simprocAttr, ordV_eq]
  refine Sat.drawnE [] [] (List.range 23) (fun _ _ _ => none) (by kernel_rfl) (by kernel_rfl) ?_
  by_cases h : a < b
  all_goals
    simp (maxSteps := 1000000) (disch := omega) only [push_cast, go_sem, wpS_tt, wpS_tf, wpS_ft, wpS_ff, wpCond_tt, wpCond_ff, simprocAttr, h, hea, heb, ha, hb, Evt.V_eq]
    refine ⟨_, Sub.rfl, ?_, rfl⟩
    simp [ownB, h, hea, heb]
end
/-- Of each event, whether it reads; whether it writes. -/
def rdsV (p : Prog) : V := .sl ((scene p).ds.map fun d => .bool d.reads)
def wrtV (p : Prog) : V := .sl ((scene p).ds.map fun d => .bool d.writes)
theorem rdsV_eq (p : Prog) : rdsV p = .sl ((scene p).ds.map fun d => .bool d.reads) := rfl
theorem wrtV_eq (p : Prog) : wrtV p = .sl ((scene p).ds.map fun d => .bool d.writes) := rfl
section
variable (p : Prog) (x : Exe) (g : Nat) (c4 c5 : V) (a b : Nat)
theorem osame_fn (ha : a < (events p).length) (hb : b < (events p).length) : Fo Tryz.prog 98 [.int .i64 a, .int .i64 b] g 6 (ordV p g (rdsV p) (wrtV p) c4 c5) (.bool (sameS p a b)) := by
  obtain ⟨ea, hea⟩ : ∃ e, (events p)[a]? = some e := ⟨_, List.getElem?_eq_getElem ha⟩
  obtain ⟨eb, heb⟩ : ∃ e, (events p)[b]? = some e := ⟨_, List.getElem?_eq_getElem hb⟩
  have hsl : (scene p).ds.length = (events p).length := by simp [scene]
  have hda : (scene p).ds[a]? = some (dsA p a) := by rw [dsA, scene_get hea]; rfl
  have hdb : (scene p).ds[b]? = some (dsA p b) := by rw [dsA, scene_get heb]; rfl
  have h1 := odo_fn p g (rdsV p) (wrtV p) c4 c5 a ha
  have h2 := odo_fn p g (rdsV p) (wrtV p) c4 c5 b hb
  rw [ordV_eq, rdsV_eq, wrtV_eq, Do.V_eq] at h1 h2
  refine Fc.start (S := []) Tryz.func98 Tryz.ntmps98 Tryz.results98 rfl (by decide) rfl (by kernel_rfl) ?_
  cases hra : (dsA p a).reads <;> cases hwa : (dsA p a).writes
  · simp (maxSteps := 1000000) (disch := omega) only [push_cast, go_sem, wpS_tt, wpS_tf, wpS_ft, wpS_ff, wpCond_tt, wpCond_ff, simprocAttr, ordV_eq, rdsV_eq, wrtV_eq, hda, hdb, hsl, ha, hb, hra, hwa]
    refine ⟨_, Sub.rfl, ?_, rfl⟩
    simp [sameS, Do.uses, hra, hwa]
  all_goals
    cases hrb : (dsA p b).reads <;> cases hwb : (dsA p b).writes
    · simp (maxSteps := 1000000) (disch := omega) only [push_cast, go_sem, wpS_tt, wpS_tf, wpS_ft, wpS_ff, wpCond_tt, wpCond_ff, simprocAttr, ordV_eq, rdsV_eq, wrtV_eq, hda, hdb, hsl, ha, hb, hra, hwa, hrb, hwb]
      refine ⟨_, Sub.rfl, ?_, rfl⟩
      simp [sameS, Do.uses, hrb, hwb]
    all_goals
      simp (maxSteps := 1000000) (disch := omega) only [push_cast, go_sem, wpS_tt, wpS_tf, wpS_ft, wpS_ff, wpCond_tt, wpCond_ff, simprocAttr, ordV_eq, rdsV_eq, wrtV_eq, hda, hdb, hsl, ha, hb, hra, hwa, hrb, hwb]
      refine callR.look h1 rfl rfl rfl ?_
      simp (maxSteps := 1000000) (disch := omega) only [push_cast, go_sem, wpS_tt, wpS_tf, wpS_ft, wpS_ff, wpCond_tt, wpCond_ff, simprocAttr]
      refine callR.look h2 rfl rfl rfl ?_
      simp (maxSteps := 1000000) (disch := omega) only [push_cast, go_sem, wpS_tt, wpS_tf, wpS_ft, wpS_ff, wpCond_tt, wpCond_ff, simprocAttr]
      refine ⟨_, Sub.rfl, ?_, rfl⟩
      simp [sameS, Do.uses, hra, hwa, hrb, hwb]
theorem oread_fn (hx : x.fr.length = (events p).length) (ha : a < (events p).length) (hb : b < (events p).length) : Fo Tryz.prog 94 [.int .i64 a, .int .i64 b] g 6 (ordV p g (rdsV p) (wrtV p) (.sl (x.fr.map (V.int .i64))) c5) (.bool (readS p x a b)) := by
  obtain ⟨ea, hea⟩ : ∃ e, (events p)[a]? = some e := ⟨_, List.getElem?_eq_getElem ha⟩
  obtain ⟨eb, heb⟩ : ∃ e, (events p)[b]? = some e := ⟨_, List.getElem?_eq_getElem hb⟩
  obtain ⟨z, hz⟩ : ∃ z, x.fr[b]? = some z := ⟨_, List.getElem?_eq_getElem (by omega)⟩
  have hsl : (scene p).ds.length = (events p).length := by simp [scene]
  have hda : (scene p).ds[a]? = some (dsA p a) := by rw [dsA, scene_get hea]; rfl
  have hdb : (scene p).ds[b]? = some (dsA p b) := by rw [dsA, scene_get heb]; rfl
  refine Fc.start (S := []) Tryz.func94 Tryz.ntmps94 Tryz.results94 rfl (by decide) rfl (by kernel_rfl) ?_
  cases hwa : (dsA p a).writes
  · simp (maxSteps := 1000000) (disch := omega) only [push_cast, go_sem, wpS_tt, wpS_tf, wpS_ft, wpS_ff, wpCond_tt, wpCond_ff, simprocAttr, ordV_eq, rdsV_eq, wrtV_eq, hda, hdb, hsl, ha, hb, hwa]
    refine ⟨_, Sub.rfl, ?_, rfl⟩
    simp [readS, hwa]
  cases hrb : (dsA p b).reads
  all_goals
    simp (maxSteps := 1000000) (disch := omega) only [push_cast, go_sem, wpS_tt, wpS_tf, wpS_ft, wpS_ff, wpCond_tt, wpCond_ff, simprocAttr, ordV_eq, rdsV_eq, wrtV_eq, hda, hdb, hsl, ha, hb, hwa, hrb, hz, hx]
    refine ⟨_, Sub.rfl, ?_, rfl⟩
    simp [readS, hwa, hrb, hz]
theorem oover_fn (hc : ∀ (i : Nat) , i < (events p).length → 0 ≤ (dsA p i).p) (ha : a < (events p).length) (hb : b < (events p).length) :
    Fo Tryz.prog 95 [.int .i64 a, .int .i64 b] g 6 (ordV p g (rdsV p) (wrtV p) c4 (.sl (((List.range (events p).length).map (rankS p x)).map (V.int .i64)))) (.bool (overS p x a b)) := by
  obtain ⟨ea, hea⟩ : ∃ e, (events p)[a]? = some e := ⟨_, List.getElem?_eq_getElem ha⟩
  obtain ⟨eb, heb⟩ : ∃ e, (events p)[b]? = some e := ⟨_, List.getElem?_eq_getElem hb⟩
  have hsl : (scene p).ds.length = (events p).length := by simp [scene]
  have hda : (scene p).ds[a]? = some (dsA p a) := by rw [dsA, scene_get hea]; rfl
  have hdb : (scene p).ds[b]? = some (dsA p b) := by rw [dsA, scene_get heb]; rfl
  obtain ⟨rk, hrk⟩ : ∃ rk, (List.range (events p).length).map (rankS p x) = rk := ⟨_, rfl⟩
  have hra : rk[a]? = some (rankS p x a) := by rw [← hrk]; simp [ha]
  have hrb : rk[b]? = some (rankS p x b) := by rw [← hrk]; simp [hb]
  have hrl : rk.length = (events p).length := by rw [← hrk]; simp
  rw [hrk]
  have hs := osame_fn p g c4 (.sl (rk.map (V.int .i64))) a b ha hb
  rw [ordV_eq, rdsV_eq, wrtV_eq] at hs
  refine Fc.start (S := []) Tryz.func95 Tryz.ntmps95 Tryz.results95 rfl (by decide) rfl (by kernel_rfl) ?_
  simp (maxSteps := 1000000) (disch := omega) only [push_cast, go_sem, wpS_tt, wpS_tf, wpS_ft, wpS_ff, wpCond_tt, wpCond_ff, simprocAttr, ordV_eq, rdsV_eq, wrtV_eq]
  refine Sat.drawnE [] [] (List.range 36) (lookT (.own 74 (some g) 1 [.agg [.sl (p.map thrV), .sl ((events p).map Evt.V), .sl ((scene p).ds.map fun d => .bool d.reads), .sl ((scene p).ds.map fun d => .bool d.writes), c4, .sl (rk.map (V.int .i64))]]) [] [(98, .bool (sameS p a b))]) (by kernel_rfl) (by kernel_rfl) ?_
  cases hwb : (dsA p b).writes
  · simp (maxSteps := 1000000) (disch := omega) only [push_cast, go_sem, wpS_tt, wpS_tf, wpS_ft, wpS_ff, wpCond_tt, wpCond_ff, simprocAttr, hda, hdb, hsl, ha, hb, hwb]
    refine ⟨_, Sub.rfl, ?_, rfl⟩
    simp [overS, hwb]
  by_cases hab : a = b
  · subst hab
    have hab' : ((a : Int) != a) = false := by simp
    simp (maxSteps := 1000000) (disch := omega) only [push_cast, go_sem, wpS_tt, wpS_tf, wpS_ft, wpS_ff, wpCond_tt, wpCond_ff, simprocAttr, hda, hdb, hsl, ha, hb, hwb, hab']
    refine ⟨_, Sub.rfl, ?_, rfl⟩
    simp [overS]
  have hab' : ((a : Int) != b) = true := by simp; omega
  have hab2 : (a == b) = false := by simpa using hab
  simp (maxSteps := 1000000) (disch := omega) only [push_cast, go_sem, wpS_tt, wpS_tf, wpS_ft, wpS_ff, wpCond_tt, wpCond_ff, simprocAttr, hda, hdb, hsl, ha, hb, hwb, hab']
  refine runD_look hs rfl rfl rfl rfl rfl ?_ ?_
  · rfl
  cases hss : sameS p a b
  all_goals
    simp (maxSteps := 1000000) (disch := omega) only [push_cast, go_sem, wpS_tt, wpS_tf, wpS_ft, wpS_ff, wpCond_tt, wpCond_ff, simprocAttr, hra, hrb, hrl, ha, hb, hwb, hab']
    refine ⟨_, Sub.rfl, ?_, rfl⟩
    simp [overS, hwb, hss, hab2]
theorem owall_fn (d : Do) : Fp Tryz.prog 115 [d.V] (.bool (wallB d)) := by
  refine Fc.start (S := []) Tryz.func115 Tryz.ntmps115 Tryz.results115 rfl (by decide) rfl (by kernel_rfl) ?_
  simp (maxSteps := 1000000) (disch := omega) only [push_cast, go_sem, wpS_tt, wpS_tf, wpS_ft, wpS_ff, wpCond_tt, wpCond_ff, simprocAttr, Do.V_eq]
  refine ⟨fun h => ?_, fun h => ?_⟩ <;> simp [wallB, h]
end
def badB (fa tb : Bool) (d : Do) : Bool := (fa && d.k == 8) || (tb && d.k == 7)
theorem insS_val {p : Prog} {a b : Nat} (ho : ownB (events p) a b = true) (hft : ((dsA p a).k == 7 || (dsA p b).k == 8) = true) :
    ((∀ j, a < j → j < b → badB ((dsA p a).k == 7) ((dsA p b).k == 8) (dsA p j) = false) → insS p a b = true) ∧ (∀ j, a < j → j < b → badB ((dsA p a).k == 7) ((dsA p b).k == 8) (dsA p j) = true → insS p a b = false) := by
  have hi := insS_iff ho
  have e : ∀ k, kd (scene p).ds k = (dsA p k).k := fun _ => rfl
  simp only [e] at hi
  rw [Bool.or_eq_true, beq_iff_eq, beq_iff_eq] at hft
  refine ⟨fun h => hi.2 ⟨hft, fun k k1 k2 => ?_⟩, fun j j1 j2 hb => ?_⟩
  · have := h k k1 k2
    simp only [badB, Bool.or_eq_false_iff, Bool.and_eq_false_iff, beq_eq_false_iff_ne] at this
    omega
  · rw [← Bool.not_eq_true]
    intro hh
    have := (hi.1 hh).2 j j1 j2
    simp only [badB, Bool.or_eq_true, Bool.and_eq_true, beq_iff_eq] at hb
    omega
section
variable (p : Prog) (x : Exe) (g : Nat) (c2 c3 c4 c5 : V) (a b : Nat)
theorem oinside_fn (hn : (events p).length ≤ 42) (ha : a < (events p).length) (hb : b < (events p).length) : Fo Tryz.prog 116 [.int .i64 a, .int .i64 b] g 6 (ordV p g c2 c3 c4 c5) (.bool (insS p a b)) := by
  have h1 := odo_fn p g c2 c3 c4 c5 a ha
  have h2 := odo_fn p g c2 c3 c4 c5 b hb
  have h3 := oown_fn p g c2 c3 c4 c5 a b ha hb
  rw [ordV_eq] at h1 h2 h3
  obtain ⟨fa, hfa⟩ : ∃ v, ((dsA p a).k == 7) = v := ⟨_, rfl⟩
  obtain ⟨tb, htb⟩ : ∃ v, ((dsA p b).k == 8) = v := ⟨_, rfl⟩
  refine Fc.start (S := [6]) Tryz.func116 Tryz.ntmps116 Tryz.results116 rfl (by decide) rfl (by kernel_rfl) ?_
  simp (maxSteps := 1000000) (disch := omega) only [push_cast, go_sem, wpS_tt, wpS_tf, wpS_ft, wpS_ff, wpCond_tt, wpCond_ff, simprocAttr, ordV_eq]
  refine callR.look h1 rfl rfl rfl ?_
  simp (maxSteps := 1000000) (disch := omega) only [push_cast, go_sem, wpS_tt, wpS_tf, wpS_ft, wpS_ff, wpCond_tt, wpCond_ff, simprocAttr, Do.V_eq, hfa]
  refine callR.look h2 rfl rfl rfl ?_
  simp (maxSteps := 1000000) (disch := omega) only [push_cast, go_sem, wpS_tt, wpS_tf, wpS_ft, wpS_ff, wpCond_tt, wpCond_ff, simprocAttr, Do.V_eq, htb]
  refine callR.look h3 rfl rfl rfl ?_
  cases ho : ownB (events p) a b
  · simp (maxSteps := 1000000) (disch := omega) only [push_cast, go_sem, wpS_tt, wpS_tf, wpS_ft, wpS_ff, wpCond_tt, wpCond_ff, simprocAttr]
    refine ⟨_, Sub.rfl, ?_, rfl⟩
    simp [insS, ho]
  have hab : a < b := by simp only [ownB, Bool.and_eq_true, decide_eq_true_eq] at ho; exact ho.1
  cases hft : (fa || tb)
  · rw [Bool.or_eq_false_iff] at hft
    obtain ⟨rfl, rfl⟩ := hft
    simp (maxSteps := 1000000) (disch := omega) only [push_cast, go_sem, wpS_tt, wpS_tf, wpS_ft, wpS_ff, wpCond_tt, wpCond_ff, simprocAttr]
    refine ⟨_, Sub.rfl, ?_, rfl⟩
    have e1 : (kd (scene p).ds a == 7) = false := hfa
    have e2 : (kd (scene p).ds b == 8) = false := htb
    simp [insS, ho, e1, e2]
  have hv := insS_val ho (by rw [hfa, htb]; exact hft)
  rw [hfa, htb] at hv
  obtain ⟨hv1, hv2⟩ := hv
  cases fa <;> cases tb <;> first | (cases hft; done) | skip
  all_goals
    simp (maxSteps := 1000000) (disch := omega) only [push_cast, go_sem, wpS_tt, wpS_tf, wpS_ft, wpS_ff, wpCond_tt, wpCond_ff, simprocAttr]
    refine Sat.loop (σ := Nat) (fun k => upd (upd (upd (upd (upd (upd noT 0 (.ptr 0 [] 0 0 g 6)) 1 (.int .i64 a)) 2 (.int .i64 b)) 7 (.bool ((dsA p a).k == 7))) 8 (.bool ((dsA p b).k == 8))) 9 (.int .i64 k)) (fun _ => noM.set 0 (.own 74 (some g) 1 [.agg [.sl (p.map thrV), .sl ((events p).map Evt.V), c2, c3, c4, c5]]))
      (fun k => a < k ∧ k ≤ b ∧ ∀ j, a < j → j < k → badB ((dsA p a).k == 7) ((dsA p b).k == 8) (dsA p j) = false) (fun k => b - k) (a + 1) ⟨by omega, by omega, fun j j1 j2 => absurd j1 (by omega)⟩ ?_ ?_
    · rw [hfa, htb]
      (refine Less.start ?_; repeat (first | exact LessO.nil | exact LessO.all | refine LessO.skip (by decide) ?_ | refine LessO.upd ?_ ?_ | refine LessO.set ?_ ?_)) <;> (try simp (maxSteps := 1000000) (disch := omega) only [push_cast, go_sem, wpS_tt, wpS_tf, wpS_ft, wpS_ff, wpCond_tt, wpCond_ff, simprocAttr])
    rintro k ⟨hk1, hk2, hk3⟩ J hJ
    rw [hfa, htb] at hk3
    rw [hfa, htb]
    refine Sat.of (S := []) (by kernel_rfl) ?_
    by_cases hkb : k = b
    · subst hkb
      simp (maxSteps := 1000000) (disch := omega) only [push_cast, go_sem, wpS_tt, wpS_tf, wpS_ft, wpS_ff, wpCond_tt, wpCond_ff, simprocAttr]
      refine ⟨_, Sub.rfl, ?_, rfl⟩
      rw [hv1 hk3]
    have hkb' : k < b := by omega
    have hk := odo_fn p g c2 c3 c4 c5 k (by omega)
    rw [ordV_eq] at hk
    simp (maxSteps := 1000000) (disch := omega) only [push_cast, go_sem, wpS_tt, wpS_tf, wpS_ft, wpS_ff, wpCond_tt, wpCond_ff, simprocAttr, hkb']
    refine callR.look hk rfl rfl rfl ?_
    cases h8 : ((dsA p k).k == 8) <;> cases h7 : ((dsA p k).k == 7)
    all_goals
      simp (maxSteps := 1000000) (disch := omega) only [push_cast, go_sem, wpS_tt, wpS_tf, wpS_ft, wpS_ff, wpCond_tt, wpCond_ff, simprocAttr, Do.V_eq, h8, h7]
      try (refine callR.look hk rfl rfl rfl ?_; simp (maxSteps := 1000000) (disch := omega) only [push_cast, go_sem, wpS_tt, wpS_tf, wpS_ft, wpS_ff, wpCond_tt, wpCond_ff, simprocAttr, Do.V_eq, h7])
      first
      | (refine ⟨_, Sub.rfl, ?_, rfl⟩
         rw [hv2 k (by omega) (by omega) (by simp [badB, h7, h8])])
      | (refine hJ (k + 1) _ _ ⟨by omega, by omega, fun j j1 j2 => ?_⟩ (by omega) ?_
         · rw [hfa, htb]
           rcases Nat.lt_or_ge j k with hh | hh
           · exact hk3 j j1 hh
           · have : j = k := by omega
             subst this
             simp [badB, h7, h8]
         · rw [hfa, htb]
           (refine Less.start ?_; repeat (first | exact LessO.nil | exact LessO.all | refine LessO.skip (by decide) ?_ | refine LessO.upd ?_ ?_ | refine LessO.set ?_ ?_)) <;> (try simp (maxSteps := 1000000) (disch := omega) only [push_cast, go_sem, wpS_tt, wpS_tf, wpS_ft, wpS_ff, wpCond_tt, wpCond_ff, simprocAttr]))
end
end Go.Proofs.YtfdbminedccccaaGreatDoor
/-! ## An object frozen for good, with the pointers that lead to it; calls that look at two objects, or make one -/
namespace Go.Proofs.YtfdbminedccccaaGreatDoor
open Go.RowKit
set_option linter.unusedSimpArgs false
set_option linter.unusedVariables false

section
variable {P : Program} {N : Nat} {imm imm' imm0 : Nat → Prop} {w w' w0 : World} {M M0 M' Mm : Mem} {t T : Nat → V} {a : Act} {C : Kont}
/-- Slots, with an object frozen. -/
def Fx (P : Program) (o g : Nat) (e : TypeId) (es : List V) (T t : Nat → V) : Prop := ∀ i, T i = .undef ∨ T i = t i ∨
  ∃ r j k x, t i = .ptr o [] r j g k ∧ es[r]? = some x ∧ k = szT P e ∧ T i = .eptr ((x.cells.drop j).map V.fz)
section
variable {o g : Nat} {e : TypeId} {cap : Nat} {es : List V}
theorem Fx.nil : Fx P o g e es noT t := fun _ => .inl rfl
theorem Fx.upd {d : Nat} {v : V} (h : Fx P o g e es T t) (hv : t d = v) : Fx P o g e es (upd T d v) t := fun i => by
  by_cases hi : i = d
  · subst hi; exact .inr (.inl (by simp [Go.Proofs.YtfdbminedccccaaGreatDoor.upd, hv]))
  · have := h i; simpa [Go.Proofs.YtfdbminedccccaaGreatDoor.upd, hi] using this
theorem Fx.ptr {d : Nat} {r j k : Nat} {cs : List V} {x : V} (h : Fx P o g e es T t) (hv : t d = .ptr o [] r j g k) (hx : es[r]? = some x) (hk : k = szT P e) (hcs : (x.cells.drop j).map V.fz = cs) :
    Fx P o g e es (Go.Proofs.YtfdbminedccccaaGreatDoor.upd T d (.eptr cs)) t := fun i => by
  subst hcs
  by_cases hi : i = d
  · subst hi; exact .inr (.inr ⟨r, j, k, x, hv, hx, hk, by simp [Go.Proofs.YtfdbminedccccaaGreatDoor.upd]⟩)
  · have := h i; simpa [Go.Proofs.YtfdbminedccccaaGreatDoor.upd, hi] using this
theorem Rel.fixP (h : Rel P N imm0 w0 M0 imm t M a w) (ho : M o = some (.own e (some g) cap es)) (hT : Fx P o g e es T t) : ∃ imm', Rel P N imm0 w0 M0 imm' T (M.era o) a w := by
  have hI := h.step.inv
  obtain ⟨h1, k2, h3⟩ := hI.freeze ho
  have he : Ev imm w (fun g' => imm g' ∨ (V.own e (some g) cap es).blocks g') w := fun g' hg => ⟨.inl hg, rfl⟩
  have hlt : ∀ g', (imm g' ∨ (V.own e (some g) cap es).blocks g') → g' < w.heap.size := fun g' hg => hg.elim (h.step.lt g') (fun hb => (h3 g' hb).1)
  refine ⟨fun g' => imm g' ∨ (V.own e (some g) cap es).blocks g', h.size, h.defers, fun i => ?_, ?_, h.glob.ev he⟩
  · rcases hT i with e1 | e1 | ⟨r, j, k, x, e1, e3, e4, e5⟩
    · rw [e1]; exact .undef _
    · rw [e1]; exact (h.tm i).ev he
    · have hv := (e1 ▸ h.tm i : Rp imm w (.ptr o [] r j g k) _).ptr_inv
      have hnd := hI.nd o [] (.own e (some g) cap es) (by simp [Mem.getP, ho, V.getP])
      obtain ⟨n1, n2, n3, cur0, n4, n5, n6⟩ := hnd
      have hxl := (n6 r x e3).1
      have hxz : (es.map V.fz)[r]? = some x.fz := by rw [List.getElem?_map, e3]; rfl
      rw [e5, hv]
      generalize hes : es.map V.fz = zs at k2 hxz
      generalize hu : Value.slice ((some g).map fun g => (⟨g, 0, none⟩ : Addr)) es.length cap = u at k2
      cases k2 with
      | sl0 => simp at hxz
      | sl _ g' off cap' kk cur tt fr f hi hg hk hl hc hh =>
        simp only [Option.map_some, Value.slice.injEq, Option.some.injEq, Addr.mk.injEq] at hu
        obtain ⟨⟨rfl, rfl, _⟩, _, _⟩ := hu
        have hkk : kk = szT P e := by
          have := hl r x.fz hxz
          rw [cells_fz, List.length_map, hxl] at this
          exact this.symm
        subst hkk
        subst e4
        refine .eptr _ g (r * szT P e + j) cur tt fr (fun l => f r (j + l)) hi hg (fun l c hlc => ?_) (fun l c hlc => ?_)
        · rw [List.getElem?_map, Option.map_eq_some_iff] at hlc
          obtain ⟨c0, hc0, rfl⟩ := hlc
          rw [List.getElem?_drop] at hc0
          have := hc r x.fz (j + l) c0.fz hxz (by rw [cells_fz, List.getElem?_map, hc0]; rfl)
          rw [← this]; congr 1; omega
        · rw [List.getElem?_map, Option.map_eq_some_iff] at hlc
          obtain ⟨c0, hc0, rfl⟩ := hlc
          rw [List.getElem?_drop] at hc0
          exact hh r x.fz (j + l) c0.fz hxz (by rw [cells_fz, List.getElem?_map, hc0]; rfl)
  · refine h.step.trans ⟨h1, hlt, Nat.le_refl _, rfl, rfl, rfl, fun g' hg hno => ⟨rfl, ?_⟩, fun g' hg => .inl (owns_sub era_sub hg)⟩
    exact ⟨fun hh => hh.resolve_right (fun hb => hno (h3 g' hb).2), .inl⟩
theorem Sat.fixP {c : Code} (o : Nat) (T : Nat → V) (ho : M o = some (.own e (some g) cap es)) (hT : Fx P o g e es T t) (h : Sat P N c T (M.era o) C) : Sat P N c t M C := by
  intro imm0 w0 M0 imm a w hr
  obtain ⟨imm', hr'⟩ := hr.fixP ho hT
  exact h _ _ _ _ _ _ hr'
end
end

section
variable {P : Program} {M : Mem} {k : V → Mem → Prop}
/-- Looks at two objects. -/
abbrev Fo2 (P : Program) (f : FuncId) (bs : List V) (g n : Nat) (o : V) (g' n' : Nat) (o' v : V) : Prop := Fc P f (.ptr 0 [] 0 0 g n :: .ptr 1 [] 0 0 g' n' :: bs) ((noM.set 0 o).set 1 o') fun r m => r = v ∧ m = (noM.set 0 o).set 1 o'
theorem set_some {a : Nat} {o : V} (h : M a = some o) : M.set a o = M := set_self h
theorem look2_keys {a b g n g' n' : Nat} {xs : List V} (hab : a ≠ b) (hk : (xs.all fun v => v.key.isNone) = true) : (((V.ptr a [] 0 0 g n :: V.ptr b [] 0 0 g' n' :: xs).map V.key).filterMap id).Nodup := by
  have hk' : ((xs.map V.key).all fun x => x.isNone) = true := by rw [List.all_map]; exact hk
  show (a :: b :: (xs.map V.key).filterMap id).Nodup
  rw [keys_none hk']; simp [hab]
theorem look2_args {a b g n g' n' : Nat} {xs : List V} (hk : (xs.all fun v => v.key.isNone) = true) : renArgs 0 (V.ptr a [] 0 0 g n :: V.ptr b [] 0 0 g' n' :: xs) = .ptr 0 [] 0 0 g n :: .ptr 1 [] 0 0 g' n' :: xs := by
  rw [renArgs_cons, renArgs_cons, renArgs_none hk]; rfl
theorem look2_sub {a b g n g' n' : Nat} {xs : List V} {o o' : V} (ha : M a = some o) (hb : M b = some o') : Sub ((noM.set 0 o).set 1 o') (footM M ((V.ptr a [] 0 0 g n :: V.ptr b [] 0 0 g' n' :: xs).map V.key)) :=
  Sub.set (Sub.set Sub.no (by simp [footM, V.key, ha])) (by simp [footM, V.key, hb])
theorem look2_merge {a b g n g' n' : Nat} {xs : List V} {o o' : V} {d : Option Nat} {x : Option V} {Mf : Mem} (ha : M a = some o) (hb : M b = some o') (hk : (xs.all fun v => v.key.isNone) = true) (h0 : Mf 0 = some o) (h1 : Mf 1 = some o') (h100 : Mf 100 = x) :
    mergeM M ((V.ptr a [] 0 0 g n :: V.ptr b [] 0 0 g' n' :: xs).map V.key) d Mf = mgD d x M := by
  have hk' : ((xs.map V.key).all fun x => x.isNone) = true := by rw [List.all_map]; exact hk
  rw [merge_eq, List.map_cons, List.map_cons, h100, key_ptr, key_ptr, mg_some, mg_some, h0, h1, mg_all_none hk', MemU_some, MemU_some, set_self hb, set_self ha]
theorem callR.look2 {f : FuncId} {bs : List V} {a b g n g' n' : Nat} {o o' v : V} {d : Option Nat} (h : Fo2 P f bs g n o g' n' o' v) (ha : M a = some o) (hb : M b = some o') (hab : a ≠ b) (hk : (bs.all fun v => v.key.isNone) = true) (h9 : Nat.ble (bs.length + 2) 90 = true)
    (hK : runV (some (True, det (resN d v) M)) k .mk) : callR P f (.ptr a [] 0 0 g n :: .ptr b [] 0 0 g' n' :: bs) d M k .mk := by
  refine callR.intro (F := (noM.set 0 o).set 1 o') (R := fun r m => r = v ∧ m = (noM.set 0 o).set 1 o') (by rw [look2_args hk]; exact h) (look2_keys hab hk) (Nat.le_of_ble_eq_true h9) (look2_sub ha hb) ?_
  rintro r0 Mf ⟨rfl, rfl⟩
  rw [look2_merge ha hb hk rfl rfl rfl]
  have e : mgD d (((noM.set 0 o).set 1 o') 100) M = M := mgD_none'
  rw [e]
  exact (runV_det.1 hK).2
/-- Looks at one object, and makes one. -/
abbrev FoN (P : Program) (f : FuncId) (bs : List V) (g n : Nat) (o : V) (Q : V → V → Prop) : Prop := Fc P f (.ptr 0 [] 0 0 g n :: bs) (noM.set 0 o) fun r m => ∃ ob, Q r ob ∧ m = (noM.set 0 o).set 100 ob
theorem callR.lookN {f : FuncId} {bs : List V} {a g n d : Nat} {o : V} {Q : V → V → Prop} (h : FoN P f bs g n o Q) (ha : M a = some o) (hk : (bs.all fun v => v.key.isNone) = true) (h9 : Nat.ble (bs.length + 1) 90 = true)
    (hK : ∀ r ob, Q r ob → runV (some (True, det (resN (some d) r) (M.set d ob))) k .mk) : callR P f (.ptr a [] 0 0 g n :: bs) (some d) M k .mk := by
  have hk' : ((bs.map V.key).all fun x => x.isNone) = true := by rw [List.all_map]; exact hk
  refine callR.intro (F := noM.set 0 o) (R := fun r m => ∃ ob, Q r ob ∧ m = (noM.set 0 o).set 100 ob) (by rw [look_args hk]; exact h) (look_nodup hk) (Nat.le_of_ble_eq_true h9) (Sub.set Sub.no (look_foot ha)) ?_
  rintro r0 Mf ⟨ob, hq, rfl⟩
  have : mergeM M ((V.ptr a [] 0 0 g n :: bs).map V.key) (some d) ((noM.set 0 o).set 100 ob) = M.set d ob := by
    rw [merge_eq, List.map_cons]
    have e1 : ((noM.set 0 o).set 100 ob) 100 = some ob := rfl
    have e2 : ((noM.set 0 o).set 100 ob) 0 = some o := rfl
    rw [e1, mgD_some, key_ptr, mg_some, e2, mg_all_none hk', MemU_some, set_self ha]
  rw [this]
  exact (runV_det.1 (hK r0 ob hq)).2
/-- Looks at two, and makes one. -/
abbrev Fo2N (P : Program) (f : FuncId) (bs : List V) (g n : Nat) (o : V) (g' n' : Nat) (o' : V) (Q : V → V → Prop) : Prop := Fc P f (.ptr 0 [] 0 0 g n :: .ptr 1 [] 0 0 g' n' :: bs) ((noM.set 0 o).set 1 o') fun r m => ∃ ob, Q r ob ∧ m = ((noM.set 0 o).set 1 o').set 100 ob
theorem callR.look2N {f : FuncId} {bs : List V} {a b g n g' n' d : Nat} {o o' : V} {Q : V → V → Prop} (h : Fo2N P f bs g n o g' n' o' Q) (ha : M a = some o) (hb : M b = some o') (hab : a ≠ b) (hk : (bs.all fun v => v.key.isNone) = true) (h9 : Nat.ble (bs.length + 2) 90 = true)
    (hK : ∀ r ob, Q r ob → runV (some (True, det (resN (some d) r) (M.set d ob))) k .mk) : callR P f (.ptr a [] 0 0 g n :: .ptr b [] 0 0 g' n' :: bs) (some d) M k .mk := by
  refine callR.intro (F := (noM.set 0 o).set 1 o') (R := fun r m => ∃ ob, Q r ob ∧ m = ((noM.set 0 o).set 1 o').set 100 ob) (by rw [look2_args hk]; exact h) (look2_keys hab hk) (Nat.le_of_ble_eq_true h9) (look2_sub ha hb) ?_
  rintro r0 Mf ⟨ob, hq, rfl⟩
  rw [look2_merge ha hb hk (x := some ob) rfl rfl rfl, mgD_some]
  exact (runV_det.1 (hK r0 ob hq)).2
end
end Go.Proofs.YtfdbminedccccaaGreatDoor
/-! ## The relations that the program makes graphs of: of each place for itself; by an order -/
namespace Go.Proofs.YtfdbminedccccaaGreatDoor
open Go.RowKit
set_option linter.unusedSimpArgs false
set_option linter.unusedVariables false
set_option pp.maxSteps 3000

/-- What must be ahead of what, by an order; by none, of each place for itself. -/
def netR (p : Prog) (x : Exe) (kind : Int) (a b : Nat) : Bool := staysS p kind a b || toldS p x kind a b
theorem has_way (p : Prog) (x : Exe) (kind : Int) (a b : Nat) (hw : Way p x) (hx : x.small) (hk : inB kind 1 3 = true) (hal : a < (events p).length) (hbl : b < (events p).length) :
    Fp Tryz.prog 44 [(scene p).V, x.V, .int .i64 kind, .int .i64 a, .int .i64 b] (.bool (netR p x kind a b)) := by
  have hpk := hw.ok
  have hel := events_le hpk
  have hsl : (scene p).ds.length = (events p).length := by simp [scene]
  have hes : (scene p).es = events p := rfl
  obtain ⟨t, ht⟩ := out_ex hpk a hal
  obtain ⟨f, t', ok, hR⟩ := insR_ex a t (bkI (events p) (scene p).ds a a)
  have hfit : Fit (scene p).ds x := ⟨hw.fr, hw.od, hx.row, scene_p hpk⟩
  have hins := inside_fn (scene p) a t (by omega) (by omega) (scene_len p) (fun f hf => by obtain ⟨q1, q2, q3⟩ := ht f hf; exact q1.out q2 q3)
  rw [hes, hR] at hins
  obtain ⟨eb, heb⟩ : ∃ e, (events p)[b]? = some e := ⟨_, List.getElem?_eq_getElem hbl⟩
  obtain ⟨ea, hea⟩ : ∃ e, (events p)[a]? = some e := ⟨_, List.getElem?_eq_getElem hal⟩
  have hda : (scene p).ds[a]? = some (dsA p a) := by rw [dsA, scene_get hea]; rfl
  have hdb : (scene p).ds[b]? = some (dsA p b) := by rw [dsA, scene_get heb]; rfl
  have hlo := loose_fn (scene p) a b (by omega) (by omega) (lastRd (scene p).ds b) f t' ok (dsA p a) (dsA p b) hda hdb (fun h3 => by
    obtain ⟨r1, r2, r3⟩ := lastRd_spec (scene_copy hpk b _ hdb h3)
    exact lastRead_fn (scene p) b _ (by omega) (by omega) r1 r2 r3) hins
  have hhas := has_fn (scene p) x kind a b (by omega) (by omega) (scene_len p) hfit _ hlo
  have he := has_eq hw (by omega) hk (looseB (dsA p a) (dsA p b) a b (lastRd (scene p).ds b) f t' ok) (a := a) (b := b) (fun ho => loose_eq hpk hbl ho ht f t' ok hR)
  rw [hes] at hhas
  simp only [dsA] at he hhas
  rw [he] at hhas
  exact hhas

def scC (s : Sc) : List V := [.sl (s.p.map thrV), .sl (s.es.map Evt.V), .sl (s.ds.map Do.V)]
theorem scC_eq (s : Sc) : scC s = [.sl (s.p.map thrV), .sl (s.es.map Evt.V), .sl (s.ds.map Do.V)] := rfl
def exC (x : Exe) : List V := [.sl (x.fr.map (V.int .i64)), .sl (x.od.map intsV)]
theorem exC_eq (x : Exe) : exC x = [.sl (x.fr.map (V.int .i64)), .sl (x.od.map intsV)] := rfl
theorem set2_fn (p : Prog) (x : Exe) (kind : Int) (a b : Nat) (hw : Way p x) (hx : x.small) (hk : inB kind 1 3 = true) (hal : a < (events p).length) (hbl : b < (events p).length) :
    Fp Tryz.prog 58 [.int .i64 a, .int .i64 b, .eptr (scC (scene p)), .eptr (exC x), .eptr [.int .i64 kind]] (.bool (netR p x kind a b)) := by
  have h := has_way p x kind a b hw hx hk hal hbl
  rw [Sc.V_eq, Exe.V_eq] at h
  refine Fc.start (S := []) Tryz.func58 Tryz.ntmps58 Tryz.results58 rfl (by decide) rfl (by kernel_rfl) ?_
  simp (maxSteps := 1000000) (disch := omega) only [push_cast, go_sem, wpS_tt, wpS_tf, wpS_ft, wpS_ff, wpCond_tt, wpCond_ff, simprocAttr, scC_eq, exC_eq]
  refine callR.pure h rfl rfl ?_
  simp (maxSteps := 1000000) (disch := omega) only [push_cast, go_sem, wpS_tt, wpS_tf, wpS_ft, wpS_ff, wpCond_tt, wpCond_ff, simprocAttr]

def usesT : Table := fun f args _ => if f = 55 then match args with | [.agg [.int .i64 k, .int .i64 p, .int .i64 v]] => some fun r m => r = .bool (Do.uses ⟨k, p, v⟩) ∧ m = noM | _ => none else none
theorem place_eq {p : Prog} {x : Exe} (h : Way p x) {a b : Nat} (hb : b < (scene p).ds.length) :
    ((sameS p a b && ownB (events p) a b) || (x.fr[b]?.getD 0 == (a : Int)) || overB (scene p).ds x a b) = netR p x 0 a b := by
  rw [netR, ← read_eq h hb, ← over_eq]
  simp [staysS, toldS, Bool.and_comm, Bool.or_assoc]
theorem set1_fn (p : Prog) (x : Exe) (a b : Nat) (hw : Way p x) (hx : x.small) (hal : a < (events p).length) (hbl : b < (events p).length) :
    Fp Tryz.prog 54 [.int .i64 a, .int .i64 b, .eptr (scC (scene p)), .eptr (exC x)] (.bool (netR p x 0 a b)) := by
  have hpk := hw.ok
  have hsl : (scene p).ds.length = (events p).length := by simp [scene]
  have hes : (scene p).es = events p := rfl
  have hfit : Fit (scene p).ds x := ⟨hw.fr, hw.od, hx.row, scene_p hpk⟩
  have hover := over_fn (scene p) x a b (by omega) (by omega) hfit
  have hown := own_fn (scene p) a b hal hbl
  rw [← place_eq hw (by omega)]
  obtain ⟨eb, heb⟩ : ∃ e, (events p)[b]? = some e := ⟨_, List.getElem?_eq_getElem hbl⟩
  obtain ⟨ea, hea⟩ : ∃ e, (events p)[a]? = some e := ⟨_, List.getElem?_eq_getElem hal⟩
  have hda : (scene p).ds[a]? = some (dsA p a) := by rw [dsA, scene_get hea]; rfl
  have hdb : (scene p).ds[b]? = some (dsA p b) := by rw [dsA, scene_get heb]; rfl
  have has : a < (scene p).ds.length := by omega
  have hbs : b < (scene p).ds.length := by omega
  obtain ⟨z, hz⟩ : ∃ z, x.fr[b]? = some z := ⟨_, List.getElem?_eq_getElem (by rw [hw.fr]; exact hbs)⟩
  have hbf : b < x.fr.length := by rw [hw.fr]; exact hbs
  obtain ⟨ow, how⟩ : ∃ v, ownB (events p) a b = v := ⟨_, rfl⟩
  obtain ⟨ov, hov⟩ : ∃ v, overB (scene p).ds x a b = v := ⟨_, rfl⟩
  obtain ⟨rd, hrd⟩ : ∃ v, (z == (a : Int)) = v := ⟨_, rfl⟩
  obtain ⟨da, hda'⟩ : ∃ d, dsA p a = d := ⟨_, rfl⟩
  obtain ⟨db, hdb'⟩ : ∃ d, dsA p b = d := ⟨_, rfl⟩
  rw [hda'] at hda
  rw [hdb'] at hdb
  rw [hes] at hown
  rw [how] at hown
  rw [hov] at hover
  rw [how, hov, hz, Option.getD_some, hrd, sameS, hda', hdb']
  rw [Sc.V_eq] at hown hover
  rw [Exe.V_eq] at hover
  have hua := uses_fn da
  have hub := uses_fn db
  rw [Do.V_eq] at hua hub
  refine Fc.start (S := [2]) Tryz.func54 Tryz.ntmps54 Tryz.results54 rfl (by decide) rfl (by kernel_rfl) ?_
  simp (maxSteps := 1000000) (disch := omega) only [push_cast, go_sem, wpS_tt, wpS_tf, wpS_ft, wpS_ff, wpCond_tt, wpCond_ff, simprocAttr, scC_eq, exC_eq]
  refine Sat.drawnE [] [] (List.range 30) usesT (by kernel_rfl) (by kernel_rfl) ?_
  simp (maxSteps := 1000000) (disch := omega) only [push_cast, go_sem, wpS_tt, wpS_tf, wpS_ft, wpS_ff, wpCond_tt, wpCond_ff, simprocAttr, hda, hdb, has, hbs, Do.V_eq]
  refine runD_pure (spec := usesT) rfl hua rfl rfl ?_ ?_
  · rfl
  cases h1 : da.uses
  · simp (maxSteps := 1000000) (disch := omega) only [push_cast, go_sem, wpS_tt, wpS_tf, wpS_ft, wpS_ff, wpCond_tt, wpCond_ff, simprocAttr]
    refine Sat.of (S := []) (by kernel_rfl) ?_
    simp (maxSteps := 1000000) (disch := omega) only [push_cast, go_sem, wpS_tt, wpS_tf, wpS_ft, wpS_ff, wpCond_tt, wpCond_ff, simprocAttr, hz, hbf, hrd]
    cases rd
    · simp (maxSteps := 1000000) (disch := omega) only [push_cast, go_sem, wpS_tt, wpS_tf, wpS_ft, wpS_ff, wpCond_tt, wpCond_ff, simprocAttr]
      refine callR.pure hover rfl rfl ?_
      simp (maxSteps := 1000000) (disch := omega) only [push_cast, go_sem, wpS_tt, wpS_tf, wpS_ft, wpS_ff, wpCond_tt, wpCond_ff, simprocAttr]
    · simp (maxSteps := 1000000) (disch := omega) only [push_cast, go_sem, wpS_tt, wpS_tf, wpS_ft, wpS_ff, wpCond_tt, wpCond_ff, simprocAttr]
  simp (maxSteps := 1000000) (disch := omega) only [push_cast, go_sem, wpS_tt, wpS_tf, wpS_ft, wpS_ff, wpCond_tt, wpCond_ff, simprocAttr, hda, hdb, has, hbs, Do.V_eq]
  refine runD_pure (spec := usesT) rfl hub rfl rfl ?_ ?_
  · rfl
  cases h2 : db.uses
  · simp (maxSteps := 1000000) (disch := omega) only [push_cast, go_sem, wpS_tt, wpS_tf, wpS_ft, wpS_ff, wpCond_tt, wpCond_ff, simprocAttr]
    refine Sat.of (S := []) (by kernel_rfl) ?_
    simp (maxSteps := 1000000) (disch := omega) only [push_cast, go_sem, wpS_tt, wpS_tf, wpS_ft, wpS_ff, wpCond_tt, wpCond_ff, simprocAttr, hz, hbf, hrd]
    cases rd
    · simp (maxSteps := 1000000) (disch := omega) only [push_cast, go_sem, wpS_tt, wpS_tf, wpS_ft, wpS_ff, wpCond_tt, wpCond_ff, simprocAttr]
      refine callR.pure hover rfl rfl ?_
      simp (maxSteps := 1000000) (disch := omega) only [push_cast, go_sem, wpS_tt, wpS_tf, wpS_ft, wpS_ff, wpCond_tt, wpCond_ff, simprocAttr]
    · simp (maxSteps := 1000000) (disch := omega) only [push_cast, go_sem, wpS_tt, wpS_tf, wpS_ft, wpS_ff, wpCond_tt, wpCond_ff, simprocAttr]
  simp (maxSteps := 1000000) (disch := omega) only [push_cast, go_sem, wpS_tt, wpS_tf, wpS_ft, wpS_ff, wpCond_tt, wpCond_ff, simprocAttr, hda, hdb, has, hbs, Do.V_eq]
  cases h3 : (da.p == db.p)
  · refine Sat.of (S := []) (by kernel_rfl) ?_
    simp (maxSteps := 1000000) (disch := omega) only [push_cast, go_sem, wpS_tt, wpS_tf, wpS_ft, wpS_ff, wpCond_tt, wpCond_ff, simprocAttr, hz, hbf, hrd]
    cases rd
    · simp (maxSteps := 1000000) (disch := omega) only [push_cast, go_sem, wpS_tt, wpS_tf, wpS_ft, wpS_ff, wpCond_tt, wpCond_ff, simprocAttr]
      refine callR.pure hover rfl rfl ?_
      simp (maxSteps := 1000000) (disch := omega) only [push_cast, go_sem, wpS_tt, wpS_tf, wpS_ft, wpS_ff, wpCond_tt, wpCond_ff, simprocAttr]
    · simp (maxSteps := 1000000) (disch := omega) only [push_cast, go_sem, wpS_tt, wpS_tf, wpS_ft, wpS_ff, wpCond_tt, wpCond_ff, simprocAttr]
  refine Sat.of (S := []) (by kernel_rfl) ?_
  simp (maxSteps := 1000000) (disch := omega) only [push_cast, go_sem, wpS_tt, wpS_tf, wpS_ft, wpS_ff, wpCond_tt, wpCond_ff, simprocAttr]
  refine callR.pure hown rfl rfl ?_
  cases ow
  · simp (maxSteps := 1000000) (disch := omega) only [push_cast, go_sem, wpS_tt, wpS_tf, wpS_ft, wpS_ff, wpCond_tt, wpCond_ff, simprocAttr, hz, hbf, hrd]
    cases rd
    · simp (maxSteps := 1000000) (disch := omega) only [push_cast, go_sem, wpS_tt, wpS_tf, wpS_ft, wpS_ff, wpCond_tt, wpCond_ff, simprocAttr]
      refine callR.pure hover rfl rfl ?_
      simp (maxSteps := 1000000) (disch := omega) only [push_cast, go_sem, wpS_tt, wpS_tf, wpS_ft, wpS_ff, wpCond_tt, wpCond_ff, simprocAttr]
    · simp (maxSteps := 1000000) (disch := omega) only [push_cast, go_sem, wpS_tt, wpS_tf, wpS_ft, wpS_ff, wpCond_tt, wpCond_ff, simprocAttr]
  · simp (maxSteps := 1000000) (disch := omega) only [push_cast, go_sem, wpS_tt, wpS_tf, wpS_ft, wpS_ff, wpCond_tt, wpCond_ff, simprocAttr]
end Go.Proofs.YtfdbminedccccaaGreatDoor
/-! ## Who waits and each reader: the two of which one can be added, by the program -/
namespace Go.Proofs.YtfdbminedccccaaGreatDoor
open Go.RowKit
set_option linter.unusedSimpArgs false
set_option linter.unusedVariables false
set_option pp.maxSteps 3000

def chIn (ds : List Do) (e : Nat) : Nat → List (Nat × Nat)
  | 0 => []
  | j + 1 => chIn ds e j ++ (if kd ds j == 7 then [(e, j)] else [])
def ltA (es : List Evt) (k : Nat) : Bool := (es[k]?.getD default).l
def chOut (s : Sc) : Nat → List (Nat × Nat)
  | 0 => []
  | k + 1 => chOut s k ++ (if kd s.ds k == 9 && ltA s.es k then chIn s.ds k s.ds.length else [])
def chE (out : Nat → Nat) (q : Nat × Nat) : V := .agg [.int .i64 (out q.2 : Int), .int .i64 (q.1 : Int), .int .i64 ((q.1 : Int) - 1), .int .i64 (q.2 : Int)]
theorem chIn_le (ds : List Do) (e : Nat) : ∀ j, (chIn ds e j).length ≤ j
  | 0 => by simp [chIn]
  | j + 1 => by
    have := chIn_le ds e j
    simp only [chIn, List.length_append]
    split <;> simp <;> omega
theorem chOut_le (s : Sc) (hn : s.ds.length ≤ 62) : ∀ k, (chOut s k).length ≤ k * 62
  | 0 => by simp [chOut]
  | k + 1 => by
    have := chOut_le s hn k
    have := chIn_le s.ds k s.ds.length
    simp only [chOut, List.length_append]
    split <;> simp <;> omega
theorem fz_ch (out : Nat → Nat) (l : List (Nat × Nat)) : (l.map (chE out)).map V.fz = l.map (chE out) := by rw [List.map_map]; exact List.map_congr_left fun d _ => rfl
@[push_cast] theorem fzs_ch (out : Nat → Nat) (l : List (Nat × Nat)) : (l.map (chE out)).map V.fz = l.map (chE out) := fz_ch out l
@[push_cast] theorem flatL_ch (out : Nat → Nat) (l : List (Nat × Nat)) : flatL (l.map (chE out)) = true := by simp [flatL, V.cells, V.flatC, chE]
theorem choices_fn (s : Sc) (hn : s.ds.length ≤ 62) (hes : s.es.length = s.ds.length) (out : Nat → Nat)
    (hin : ∀ i, i < s.ds.length → kd s.ds i = 7 → Fp Tryz.prog 89 [s.V, .int .i64 i] (.tuple [.int .i64 i, .int .i64 (out i), .bool true])) :
    Fp Tryz.prog 60 [s.V] (.sl ((chOut s s.ds.length).map (chE out))) := by
  rw [Sc.V_eq] at hin
  obtain ⟨n, hnn⟩ : ∃ n, s.ds.length = n := ⟨_, rfl⟩
  rw [hnn] at hn hes hin ⊢
  refine Fc.start (S := [14]) Tryz.func60 Tryz.ntmps60 Tryz.results60 rfl (by decide) rfl (by kernel_rfl) ?_
  simp (maxSteps := 1000000) (disch := omega) only [push_cast, go_sem, wpS_tt, wpS_tf, wpS_ft, wpS_ff, wpCond_tt, wpCond_ff, simprocAttr, Sc.V_eq]
  intro g1
  refine Sat.loop (σ := EvS) (fun x => upd (upd (upd (upd (upd noT 1 (.ptr 1 [] 0 0 g1 3)) 12 (.sl (s.ds.map Do.V))) 13 (.int .i64 n)) 14 (.int .i64 x.k)) 3 (.msl 3 [] x.γ (chOut s x.k).length x.c))
    (fun x => (noM.set 1 (.own 57 (some g1) 1 [.agg [.sl (s.p.map thrV), .sl (s.es.map Evt.V), .sl (s.ds.map Do.V)]])).set 3 (.own x.e x.γ x.c ((chOut s x.k).map (chE out))))
    (fun x => x.k ≤ n ∧ (x.γ = none ∨ x.e = 115)) (fun x => n - x.k) ⟨0, 0, none, 0⟩ (by simp) ?_ ?_
  · (refine Less.start ?_; repeat (first | exact LessO.nil | exact LessO.all | refine LessO.skip (by decide) ?_ | refine LessO.upd ?_ ?_ | refine LessO.set ?_ ?_)) <;> (try simp (maxSteps := 1000000) (disch := omega) only [push_cast, go_sem, wpS_tt, wpS_tf, wpS_ft, wpS_ff, wpCond_tt, wpCond_ff, simprocAttr])
    all_goals first | rfl | rw [hnn]
  rintro ⟨k, e, γ, c⟩ ⟨hk, hγ⟩ J hJ
  refine Sat.of (S := [14]) (by kernel_rfl) ?_
  simp only at hk hγ hJ
  have hb := chOut_le s (by omega) k
  rcases Nat.lt_or_ge k n with hlt | hge
  · obtain ⟨d, hd⟩ : ∃ d, s.ds[k]? = some d := ⟨_, List.getElem?_eq_getElem (by omega)⟩
    obtain ⟨ev, hev⟩ : ∃ d, s.es[k]? = some d := ⟨_, List.getElem?_eq_getElem (by omega)⟩
    have hkd : kd s.ds k = d.k := by rw [kd, hd]; rfl
    have hla : ltA s.es k = ev.l := by rw [ltA, hev]; rfl
    have hlts : k < s.ds.length := by omega
    have hlte : k < s.es.length := by omega
    have hγ' : (γ = none ∨ e = 115) = True := by simp only [hγ]
    have hm : n - (k + 1) < n - k := by omega
    have same : (d.k == 9 && ev.l) = false → chOut s (k + 1) = chOut s k := fun h => by simp only [chOut, hkd, hla, h]; simp
    simp (maxSteps := 1000000) (disch := omega) only [push_cast, go_sem, wpS_tt, wpS_tf, wpS_ft, wpS_ff, wpCond_tt, wpCond_ff, simprocAttr, hd, hlt, hlts, Do.V_eq, hγ']
    intro g2
    cases h9 : (d.k == 9)
    · have h9' : (d.k != 9) = true := by simp [bne, h9]
      simp (maxSteps := 1000000) (disch := omega) only [push_cast, go_sem, wpS_tt, wpS_tf, wpS_ft, wpS_ff, wpCond_tt, wpCond_ff, simprocAttr, h9']
      refine hJ ⟨k + 1, e, γ, c⟩ _ _ ⟨by dsimp only; omega, hγ⟩ hm ?_
      (refine Less.start ?_; repeat (first | exact LessO.nil | exact LessO.all | refine LessO.skip (by decide) ?_ | refine LessO.upd ?_ ?_ | refine LessO.set ?_ ?_)) <;> (try simp (maxSteps := 1000000) (disch := omega) only [push_cast, go_sem, wpS_tt, wpS_tf, wpS_ft, wpS_ff, wpCond_tt, wpCond_ff, simprocAttr])
      all_goals rw [same (by rw [h9]; rfl)]
    have h9' : (d.k != 9) = false := by simp [bne, h9]
    cases hl : ev.l
    · simp (maxSteps := 1000000) (disch := omega) only [push_cast, go_sem, wpS_tt, wpS_tf, wpS_ft, wpS_ff, wpCond_tt, wpCond_ff, simprocAttr, h9', hev, hlte, Evt.V_eq, hl]
      refine hJ ⟨k + 1, e, γ, c⟩ _ _ ⟨by dsimp only; omega, hγ⟩ hm ?_
      (refine Less.start ?_; repeat (first | exact LessO.nil | exact LessO.all | refine LessO.skip (by decide) ?_ | refine LessO.upd ?_ ?_ | refine LessO.set ?_ ?_)) <;> (try simp (maxSteps := 1000000) (disch := omega) only [push_cast, go_sem, wpS_tt, wpS_tf, wpS_ft, wpS_ff, wpCond_tt, wpCond_ff, simprocAttr])
      all_goals rw [same (by rw [hl]; simp)]
    simp (maxSteps := 1000000) (disch := omega) only [push_cast, go_sem, wpS_tt, wpS_tf, wpS_ft, wpS_ff, wpCond_tt, wpCond_ff, simprocAttr, h9', hev, hlte, Evt.V_eq, hl]
    refine Sat.loop (σ := EvS) (fun x => upd (upd (upd (upd (upd (upd (upd (upd (upd noT 1 (.ptr 1 [] 0 0 g1 3)) 12 (.sl (s.ds.map Do.V))) 13 (.int .i64 n)) 14 (.int .i64 k)) 3 (.msl 3 [] x.γ (chOut s k ++ chIn s.ds k x.k).length x.c)) 4 (.int .i64 k)) 32 (.sl (s.ds.map Do.V))) 33 (.int .i64 n)) 34 (.int .i64 x.k))
      (fun x => (noM.set 1 (.own 57 (some g1) 1 [.agg [.sl (s.p.map thrV), .sl (s.es.map Evt.V), .sl (s.ds.map Do.V)]])).set 3 (.own x.e x.γ x.c ((chOut s k ++ chIn s.ds k x.k).map (chE out))))
      (fun x => x.k ≤ n ∧ (x.γ = none ∨ x.e = 115)) (fun x => n - x.k) ⟨0, e, γ, c⟩ ⟨by simp, hγ⟩ ?_ ?_
    · (refine Less.start ?_; repeat (first | exact LessO.nil | exact LessO.all | refine LessO.skip (by decide) ?_ | refine LessO.upd ?_ ?_ | refine LessO.set ?_ ?_)) <;> (try simp (maxSteps := 1000000) (disch := omega) only [push_cast, go_sem, wpS_tt, wpS_tf, wpS_ft, wpS_ff, wpCond_tt, wpCond_ff, simprocAttr])
      all_goals simp [chIn, hnn]
    rintro ⟨j, e2, γ2, c2⟩ ⟨hj, hγ2⟩ J2 hJ2
    refine Sat.of (S := []) (by kernel_rfl) ?_
    simp only at hj hγ2 hJ2
    have hb2 := chIn_le s.ds k j
    have hb3 : (chOut s k ++ chIn s.ds k j).length ≤ 62 * 62 + 62 := by rw [List.length_append]; omega
    rcases Nat.lt_or_ge j n with hlt2 | hge2
    · obtain ⟨d2, hd2⟩ : ∃ d, s.ds[j]? = some d := ⟨_, List.getElem?_eq_getElem (by omega)⟩
      have hkd2 : kd s.ds j = d2.k := by rw [kd, hd2]; rfl
      have hlts2 : j < s.ds.length := by omega
      have hγ2' : (γ2 = none ∨ e2 = 115) = True := by simp only [hγ2]
      have hm2 : n - (j + 1) < n - j := by omega
      simp (maxSteps := 1000000) (disch := omega) only [push_cast, go_sem, wpS_tt, wpS_tf, wpS_ft, wpS_ff, wpCond_tt, wpCond_ff, simprocAttr, hd2, hlt2, hlts2, Do.V_eq, hγ2']
      intro g3
      cases h7 : (d2.k == 7)
      · have h7' : (d2.k != 7) = true := by simp [bne, h7]
        simp (maxSteps := 1000000) (disch := omega) only [push_cast, go_sem, wpS_tt, wpS_tf, wpS_ft, wpS_ff, wpCond_tt, wpCond_ff, simprocAttr, h7']
        refine hJ2 ⟨j + 1, e2, γ2, c2⟩ _ _ ⟨by dsimp only; omega, hγ2⟩ hm2 ?_
        have : chIn s.ds k (j + 1) = chIn s.ds k j := by simp only [chIn, hkd2, h7]; simp
        rw [this]
        (refine Less.start ?_; repeat (first | exact LessO.nil | exact LessO.all | refine LessO.skip (by decide) ?_ | refine LessO.upd ?_ ?_ | refine LessO.set ?_ ?_)) <;> (try simp (maxSteps := 1000000) (disch := omega) only [push_cast, go_sem, wpS_tt, wpS_tf, wpS_ft, wpS_ff, wpCond_tt, wpCond_ff, simprocAttr])
      have h7' : (d2.k != 7) = false := by simp [bne, h7]
      simp (maxSteps := 1000000) (disch := omega) only [push_cast, go_sem, wpS_tt, wpS_tf, wpS_ft, wpS_ff, wpCond_tt, wpCond_ff, simprocAttr, h7']
      refine callR.pure (hin j hlt2 (by rw [hkd2]; simpa using h7)) rfl rfl ?_
      simp (maxSteps := 1000000) (disch := omega) only [push_cast, go_sem, wpS_tt, wpS_tf, wpS_ft, wpS_ff, wpCond_tt, wpCond_ff, simprocAttr, hγ2']
      intro g4
      refine ⟨by omega, fun γ4 c4 _ => ?_⟩
      refine hJ2 ⟨j + 1, 115, γ4, c4⟩ _ _ ⟨by dsimp only; omega, .inr rfl⟩ hm2 ?_
      have : chIn s.ds k (j + 1) = chIn s.ds k j ++ [(k, j)] := by simp only [chIn, hkd2, h7]; rfl
      rw [this]
      (refine Less.start ?_; repeat (first | exact LessO.nil | exact LessO.all | refine LessO.skip (by decide) ?_ | refine LessO.upd ?_ ?_ | refine LessO.set ?_ ?_)) <;> (try simp (maxSteps := 1000000) (disch := omega) only [push_cast, go_sem, wpS_tt, wpS_tf, wpS_ft, wpS_ff, wpCond_tt, wpCond_ff, simprocAttr])
      all_goals simp [chE]
      all_goals omega
    · have : j = n := by omega
      subst this
      simp (maxSteps := 1000000) (disch := omega) only [push_cast, go_sem, wpS_tt, wpS_tf, wpS_ft, wpS_ff, wpCond_tt, wpCond_ff, simprocAttr]
      refine hJ ⟨k + 1, e2, γ2, c2⟩ _ _ ⟨by dsimp only; omega, hγ2⟩ hm ?_
      have : chOut s (k + 1) = chOut s k ++ chIn s.ds k j := by simp only [chOut, hkd, hla, h9, hl, hnn]; rfl
      rw [this]
      (refine Less.start ?_; repeat (first | exact LessO.nil | exact LessO.all | refine LessO.skip (by decide) ?_ | refine LessO.upd ?_ ?_ | refine LessO.set ?_ ?_)) <;> (try simp (maxSteps := 1000000) (disch := omega) only [push_cast, go_sem, wpS_tt, wpS_tf, wpS_ft, wpS_ff, wpCond_tt, wpCond_ff, simprocAttr])
  · have : k = n := by omega
    subst this
    simp (maxSteps := 1000000) (disch := omega) only [push_cast, go_sem, wpS_tt, wpS_tf, wpS_ft, wpS_ff, wpCond_tt, wpCond_ff, simprocAttr]
    refine Sat.freezeT (upd noT 3 (.sl ((chOut s k).map (chE out)))) noM 3 (e := e) (γ := γ) (cap := c) (es := (chOut s k).map (chE out)) rfl ?_ ?_
    · (refine Less.start ?_; repeat (first | exact LessO.nil | exact LessO.all | refine LessO.skip (by decide) ?_ | refine LessO.upd ?_ ?_ | refine LessO.set ?_ ?_)) <;> (try simp (maxSteps := 1000000) (disch := omega) only [push_cast, go_sem, wpS_tt, wpS_tf, wpS_ft, wpS_ff, wpCond_tt, wpCond_ff, simprocAttr])
    refine Sat.of (S := []) (by kernel_rfl) ?_
    simp (maxSteps := 1000000) (disch := omega) only [push_cast, go_sem, wpS_tt, wpS_tf, wpS_ft, wpS_ff, wpCond_tt, wpCond_ff, simprocAttr]
end Go.Proofs.YtfdbminedccccaaGreatDoor
/-! ## One of each two is added, the first where it holds so with all behind, by the program -/
namespace Go.Proofs.YtfdbminedccccaaGreatDoor
open Go.RowKit
set_option linter.unusedSimpArgs false
set_option linter.unusedVariables false
set_option pp.maxSteps 3000

def wiR (R : Nat → Nat → Bool) (a b : Nat) : Nat → Nat → Bool := fun x y => R x y || (x == a && y == b)
def settleR (n : Nat) (out : Nat → Nat) : List (Nat × Nat) → (Nat → Nat → Bool) → Option (Nat → Nat → Bool)
  | [], R => if (lineE R n).isSome then some R else none
  | (e, i) :: l, R => if (lineE R n).isSome then (settleR n out l (wiR R (out i) e)).or (settleR n out l (wiR R (e - 1) i)) else none
def settleV (n : Nat) : Option (Nat → Nat → Bool) → V
  | some R => .tuple [bitsV (graphL R n), .bool true]
  | none => .tuple [.nilsl, .bool false]
theorem settle_no {n : Nat} {out : Nat → Nat} {l : List (Nat × Nat)} {R : Nat → Nat → Bool} (h : lineE R n = none) : settleR n out l R = none := by
  cases l with
  | nil => rw [settleR, h]; rfl
  | cons q l => obtain ⟨e, i⟩ := q; rw [settleR, h]; rfl
theorem graphL_wi {R : Nat → Nat → Bool} {n a b : Nat} (ha : a < n) (hb : b < n) : (graphL R n).set a (msk (R a) n ||| p2 b) = graphL (wiR R a b) n := by
  apply List.ext_getElem?
  intro i
  rw [List.getElem?_set, graphL_len, graphL, graphL, List.getElem?_map, List.getElem?_map]
  by_cases hi : i < n
  · rw [List.getElem?_range hi]
    by_cases h : a = i
    · subst h
      simp only [if_true, hi, Option.map_some, Option.some.injEq]
      apply bits_eq
      intro j
      rw [Nat.testBit_or, msk_bit, p2_bit, msk_bit, wiR]
      by_cases hj : j < n
      · simp [hj]
      · have hjb : (j == b) = false := by simp; omega
        simp [hj, hjb]
    · have h' : (i == a) = false := by simp; omega
      simp only [h, if_false, Option.map_some, Option.some.injEq]
      apply bits_eq
      intro j
      rw [msk_bit, msk_bit, wiR, h']
      simp
  · have : (List.range n)[i]? = none := by simp; omega
    rw [this]
    by_cases h : a = i
    · subst h; simp [hi]
    · simp [h]
theorem graphL_get {R : Nat → Nat → Bool} {n a : Nat} (ha : a < n) : (graphL R n)[a]? = some (msk (R a) n) := by
  rw [graphL, List.getElem?_map, List.getElem?_range ha]; rfl
theorem lineR_fn (R : Nat → Nat → Bool) (n : Nat) (hn : n ≤ 62) : Fp Tryz.prog 52 [bitsV (graphL R n)] (lineV (lineE R n)) := by
  have h := line_fn (graphL R n) (by rw [graphL_len]; exact hn) (graphL_lt hn)
  rw [graphL_len, line_congr fun a b ha hb => graphL_rel ha hb] at h
  exact h
theorem chE_eq (out : Nat → Nat) {e e' i : Nat} (h : (e : Int) - 1 = (e' : Int)) : chE out (e, i) = .agg [.int .i64 (out i : Int), .int .i64 (e : Int), .int .i64 (e' : Int), .int .i64 (i : Int)] := by rw [← h]; rfl
theorem chE_len (out : Nat → Nat) (q : Nat × Nat) : (chE out q).cells.length = 4 := rfl
theorem some_settle (n : Nat) (R : Nat → Nat → Bool) : settleV n (some R) = .tuple [.sl ((graphL R n).map bitE), .bool true] := rfl
theorem no_settle (n : Nat) : settleV n none = .tuple [.nilsl, .bool false] := rfl
theorem ok_line (l : List Nat) : lineV (some l) = .tuple [.sl (l.map natE), .bool true] := rfl
theorem no_line : lineV none = .tuple [.nilsl, .bool false] := rfl
theorem settle_fn (n : Nat) (hn : n ≤ 62) (out : Nat → Nat) : ∀ (l : List (Nat × Nat)) (R : Nat → Nat → Bool), l.length < 2 ^ 40 → (∀ q ∈ l, 1 ≤ q.1 ∧ q.1 < n ∧ q.2 < n ∧ out q.2 < n) →
    Fp Tryz.prog 59 [bitsV (graphL R n), .sl (l.map (chE out))] (settleV n (settleR n out l R)) := by
  intro l
  induction l with
  | nil =>
    intro R _ _
    refine Fp.nilT ?_
    refine Fc.start (S := []) Tryz.func59 Tryz.ntmps59 Tryz.results59 rfl (by decide) rfl (by kernel_rfl) ?_
    simp (maxSteps := 1000000) (disch := omega) only [push_cast, go_sem, wpS_tt, wpS_tf, wpS_ft, wpS_ff, wpCond_tt, wpCond_ff, simprocAttr, bitsV_eq]
    have hline := lineR_fn R n hn
    rw [bitsV_eq] at hline
    refine callR.pure hline rfl rfl ?_
    cases hl : lineE R n with
    | none =>
      simp (maxSteps := 1000000) (disch := omega) only [push_cast, go_sem, wpS_tt, wpS_tf, wpS_ft, wpS_ff, wpCond_tt, wpCond_ff, simprocAttr, no_line]
      right
      exact ⟨4, [], .bool false, rfl, by rw [settle_no hl]; rfl⟩
    | some ls =>
      simp (maxSteps := 1000000) (disch := omega) only [push_cast, go_sem, wpS_tt, wpS_tf, wpS_ft, wpS_ff, wpCond_tt, wpCond_ff, simprocAttr, ok_line]
      left
      rw [settleR, hl]; rfl
  | cons q l ih =>
    obtain ⟨e, i⟩ := q
    intro R hlen hq
    obtain ⟨he1, hen, hin, hon⟩ := hq (e, i) (List.mem_cons_self ..)
    simp only at he1 hen hin hon
    obtain ⟨e', hee⟩ : ∃ e', e = e' + 1 := ⟨e - 1, by omega⟩
    have he' : (e : Int) - 1 = (e' : Int) := by omega
    have he1' : e - 1 = e' := by omega
    have hen' : e' < n := by omega
    have hlen' : l.length < 2 ^ 40 := by simp only [List.length_cons] at hlen; omega
    have ihl := fun R' => ih R' hlen' fun q h => hq q (List.mem_cons_of_mem _ h)
    have hline := lineR_fn R n hn
    rw [bitsV_eq] at hline
    have hch := chE_eq (i := i) out he'
    rw [List.map_cons, hch]
    refine Fp.nilT ?_
    refine Fc.start (S := [11]) Tryz.func59 Tryz.ntmps59 Tryz.results59 rfl (by decide) rfl (by kernel_rfl) ?_
    simp (maxSteps := 1000000) (disch := omega) only [push_cast, go_sem, wpS_tt, wpS_tf, wpS_ft, wpS_ff, wpCond_tt, wpCond_ff, simprocAttr, bitsV_eq]
    refine callR.pure hline rfl rfl ?_
    cases hl : lineE R n with
    | none =>
      simp (maxSteps := 1000000) (disch := omega) only [push_cast, go_sem, wpS_tt, wpS_tf, wpS_ft, wpS_ff, wpCond_tt, wpCond_ff, simprocAttr, no_line]
      right
      exact ⟨4, [], .bool false, rfl, by rw [settle_no hl]; rfl⟩
    | some ls =>
      obtain ⟨r1, hr1⟩ : ∃ r, settleR n out l (wiR R (out i) e) = r := ⟨_, rfl⟩
      obtain ⟨r2, hr2⟩ : ∃ r, settleR n out l (wiR R e' i) = r := ⟨_, rfl⟩
      have hset : settleR n out ((e, i) :: l) R = r1.or r2 := by rw [settleR, hl, he1', hr1, hr2]; rfl
      rw [hset]
      have h1 := ihl (wiR R (out i) e)
      have h2 := ihl (wiR R e' i)
      rw [hr1, bitsV_eq] at h1
      rw [hr2, bitsV_eq] at h2
      have he0 : ((l.length : Int) + 1 == 0) = false := by simp; omega
      have hl0 : (0 : Int) < (l.length : Int) + 1 := by omega
      have hl1 : (1 : Int) ≤ (l.length : Int) + 1 := by omega
      have hall : ∀ x ∈ (V.agg [.int .i64 (out i : Int), .int .i64 (e : Int), .int .i64 (e' : Int), .int .i64 (i : Int)] :: l.map (chE out)), x.cells.length = 4 := by
        intro x hx
        rcases List.mem_cons.1 hx with rfl | hx
        · rfl
        · obtain ⟨q, _, rfl⟩ := List.mem_map.1 hx; rfl
      simp (maxSteps := 1000000) (disch := omega) only [push_cast, go_sem, wpS_tt, wpS_tf, wpS_ft, wpS_ff, wpCond_tt, wpCond_ff, simprocAttr, ok_line, he0, hl0]
      refine Sat.loop (σ := Nat) (fun k => upd (upd (upd (upd noT 0 (.sl ((graphL R n).map bitE))) 1 (.sl (.agg [.int .i64 (out i : Int), .int .i64 (e : Int), .int .i64 (e' : Int), .int .i64 (i : Int)] :: l.map (chE out)))) 26 (.agg [.int .i64 (out i : Int), .int .i64 (e : Int), .int .i64 (e' : Int), .int .i64 (i : Int)])) 27 (.int .i64 k)) (fun _ => noM)
        (fun k => k ≤ 2 ∧ (1 ≤ k → r1 = none) ∧ (2 ≤ k → r2 = none)) (fun k => 2 - k) 0 (by omega) ?_ ?_
      · (refine Less.start ?_; repeat (first | exact LessO.nil | exact LessO.all | refine LessO.skip (by decide) ?_ | refine LessO.upd ?_ ?_ | refine LessO.set ?_ ?_)) <;> (try simp (maxSteps := 1000000) (disch := omega) only [push_cast, go_sem, wpS_tt, wpS_tf, wpS_ft, wpS_ff, wpCond_tt, wpCond_ff, simprocAttr])
      rintro k ⟨hk, hk1, hk2⟩ J hJ
      refine Sat.of (S := [11]) (by kernel_rfl) ?_
      have hne : graphL R n ≠ [] := by
        intro h0
        have := graphL_len R n
        rw [h0] at this
        simp at this; omega
      have hgl := graphL_len R n
      have hcl := cloneB_fn (graphL R n) (by rw [hgl]; omega) hne
      rw [bitsV_eq, hgl] at hcl
      have hm64 : ∀ a, msk (R a) n < 2 ^ 64 := fun a => Nat.lt_of_lt_of_le (msk_lt _ n) (Nat.pow_le_pow_right (by decide) (by omega))
      have hpe : p2 e < 2 ^ 64 := p2_lt (by omega)
      have hpi : p2 i < 2 ^ 64 := p2_lt (by omega)
      have hdr : List.drop 1 (List.take ((l.length : Int) + 1).toNat (V.agg [.int .i64 (out i : Int), .int .i64 (e : Int), .int .i64 (e' : Int), .int .i64 (i : Int)] :: l.map (chE out))) = l.map (chE out) := by
        rw [show ((l.length : Int) + 1).toNat = l.length + 1 by omega, List.take_succ_cons, List.drop_succ_cons, List.drop_zero, List.take_of_length_le (by simp)]
      match k, hk with
      | 0, _ =>
        have hget := graphL_get (R := R) hon
        have hnx := hon
        simp (maxSteps := 1000000) (disch := omega) only [push_cast, go_sem, wpS_tt, wpS_tf, wpS_ft, wpS_ff, wpCond_tt, wpCond_ff, simprocAttr]
        intro g9
        refine callR.row hcl rfl rfl ?_
        intro γ cap
        simp (maxSteps := 1000000) (disch := omega) only [push_cast, go_sem, wpS_tt, wpS_tf, wpS_ft, wpS_ff, wpCond_tt, wpCond_ff, simprocAttr]
        refine Sat.someG (o := 10) (e := 106) (γ := γ) (cap := cap) (es := (graphL R n).map bitE) rfl (by simpa using hne) ?_
        rintro g10 rfl
        refine Sat.drawnE [] [] [2, 4, 6] (fun _ _ _ => none) (by kernel_rfl) (by kernel_rfl) ?_
        simp (maxSteps := 1000000) (disch := omega) only [push_cast, go_sem, wpS_tt, wpS_tf, wpS_ft, wpS_ff, wpCond_tt, wpCond_ff, simprocAttr, hget, hnx, bitE_eq, bin_shl64 (show e < 64 by omega), bin_or64 (hm64 (out i)) hpe]
        rw [modBits, graphL_wi hon hen]
        refine Sat.freezeT (upd (upd (upd (upd (upd noT 0 (.sl ((graphL R n).map bitE))) 1 (.sl (.agg [.int .i64 (out i : Int), .int .i64 (e : Int), .int .i64 (e' : Int), .int .i64 (i : Int)] :: l.map (chE out)))) 26 (.agg [.int .i64 (out i : Int), .int .i64 (e : Int), .int .i64 (e' : Int), .int .i64 (i : Int)])) 27 (.int .i64 0)) 10 (.sl ((graphL (wiR R (out i) e) n).map bitE))) noM 10 (e := 106) (γ := some g10) (cap := cap) (es := (graphL (wiR R (out i) e) n).map bitE) rfl ?_ ?_
        · (refine Less.start ?_; repeat (first | exact LessO.nil | exact LessO.all | refine LessO.skip (by decide) ?_ | refine LessO.upd ?_ ?_ | refine LessO.set ?_ ?_)) <;> (try simp (maxSteps := 1000000) (disch := omega) only [push_cast, go_sem, wpS_tt, wpS_tf, wpS_ft, wpS_ff, wpCond_tt, wpCond_ff, simprocAttr])
          rw [graphL_len]; simp
        refine Sat.of (S := []) (by kernel_rfl) ?_
        simp (maxSteps := 1000000) (disch := omega) only [push_cast, go_sem, wpS_tt, wpS_tf, wpS_ft, wpS_ff, wpCond_tt, wpCond_ff, simprocAttr]
        refine ⟨⟨hl1, Int.le_refl _, hall⟩, ?_⟩
        rw [hdr]
        refine callR.pure h1 rfl rfl ?_
        cases hr : r1 with
        | some r =>
          simp (maxSteps := 1000000) (disch := omega) only [push_cast, go_sem, wpS_tt, wpS_tf, wpS_ft, wpS_ff, wpCond_tt, wpCond_ff, simprocAttr, some_settle]
          left
          rfl
        | none =>
          simp (maxSteps := 1000000) (disch := omega) only [push_cast, go_sem, wpS_tt, wpS_tf, wpS_ft, wpS_ff, wpCond_tt, wpCond_ff, simprocAttr, no_settle]
          refine hJ 1 _ _ ⟨by omega, fun _ => hr, fun h => absurd h (by omega)⟩ (by omega) ?_
          (refine Less.start ?_; repeat (first | exact LessO.nil | exact LessO.all | refine LessO.skip (by decide) ?_ | refine LessO.upd ?_ ?_ | refine LessO.set ?_ ?_)) <;> (try simp (maxSteps := 1000000) (disch := omega) only [push_cast, go_sem, wpS_tt, wpS_tf, wpS_ft, wpS_ff, wpCond_tt, wpCond_ff, simprocAttr])
      | 1, _ =>
        have hget := graphL_get (R := R) hen'
        have hnx := hen'
        simp (maxSteps := 1000000) (disch := omega) only [push_cast, go_sem, wpS_tt, wpS_tf, wpS_ft, wpS_ff, wpCond_tt, wpCond_ff, simprocAttr]
        intro g9
        refine callR.row hcl rfl rfl ?_
        intro γ cap
        simp (maxSteps := 1000000) (disch := omega) only [push_cast, go_sem, wpS_tt, wpS_tf, wpS_ft, wpS_ff, wpCond_tt, wpCond_ff, simprocAttr]
        refine Sat.someG (o := 10) (e := 106) (γ := γ) (cap := cap) (es := (graphL R n).map bitE) rfl (by simpa using hne) ?_
        rintro g10 rfl
        refine Sat.drawnE [] [] [2, 4, 6] (fun _ _ _ => none) (by kernel_rfl) (by kernel_rfl) ?_
        simp (maxSteps := 1000000) (disch := omega) only [push_cast, go_sem, wpS_tt, wpS_tf, wpS_ft, wpS_ff, wpCond_tt, wpCond_ff, simprocAttr, hget, hnx, bitE_eq, bin_shl64 (show i < 64 by omega), bin_or64 (hm64 (e')) hpi]
        rw [modBits, graphL_wi hen' hin]
        refine Sat.freezeT (upd (upd (upd (upd (upd noT 0 (.sl ((graphL R n).map bitE))) 1 (.sl (.agg [.int .i64 (out i : Int), .int .i64 (e : Int), .int .i64 (e' : Int), .int .i64 (i : Int)] :: l.map (chE out)))) 26 (.agg [.int .i64 (out i : Int), .int .i64 (e : Int), .int .i64 (e' : Int), .int .i64 (i : Int)])) 27 (.int .i64 1)) 10 (.sl ((graphL (wiR R (e') i) n).map bitE))) noM 10 (e := 106) (γ := some g10) (cap := cap) (es := (graphL (wiR R (e') i) n).map bitE) rfl ?_ ?_
        · (refine Less.start ?_; repeat (first | exact LessO.nil | exact LessO.all | refine LessO.skip (by decide) ?_ | refine LessO.upd ?_ ?_ | refine LessO.set ?_ ?_)) <;> (try simp (maxSteps := 1000000) (disch := omega) only [push_cast, go_sem, wpS_tt, wpS_tf, wpS_ft, wpS_ff, wpCond_tt, wpCond_ff, simprocAttr])
          rw [graphL_len]; simp
        refine Sat.of (S := []) (by kernel_rfl) ?_
        simp (maxSteps := 1000000) (disch := omega) only [push_cast, go_sem, wpS_tt, wpS_tf, wpS_ft, wpS_ff, wpCond_tt, wpCond_ff, simprocAttr]
        refine ⟨⟨hl1, Int.le_refl _, hall⟩, ?_⟩
        rw [hdr]
        refine callR.pure h2 rfl rfl ?_
        have hr1' := hk1 (Nat.le_refl _)
        cases hr : r2 with
        | some r =>
          simp (maxSteps := 1000000) (disch := omega) only [push_cast, go_sem, wpS_tt, wpS_tf, wpS_ft, wpS_ff, wpCond_tt, wpCond_ff, simprocAttr, some_settle]
          left
          rw [hr1']; rfl
        | none =>
          simp (maxSteps := 1000000) (disch := omega) only [push_cast, go_sem, wpS_tt, wpS_tf, wpS_ft, wpS_ff, wpCond_tt, wpCond_ff, simprocAttr, no_settle]
          refine hJ 2 _ _ ⟨by omega, fun _ => hr1', fun _ => hr⟩ (by omega) ?_
          (refine Less.start ?_; repeat (first | exact LessO.nil | exact LessO.all | refine LessO.skip (by decide) ?_ | refine LessO.upd ?_ ?_ | refine LessO.set ?_ ?_)) <;> (try simp (maxSteps := 1000000) (disch := omega) only [push_cast, go_sem, wpS_tt, wpS_tf, wpS_ft, wpS_ff, wpCond_tt, wpCond_ff, simprocAttr])
      | 2, _ =>
        simp (maxSteps := 1000000) (disch := omega) only [push_cast, go_sem, wpS_tt, wpS_tf, wpS_ft, wpS_ff, wpCond_tt, wpCond_ff, simprocAttr]
        right
        exact ⟨4, [], .bool false, rfl, by rw [hk1 (by omega), hk2 (by omega)]; rfl⟩
end Go.Proofs.YtfdbminedccccaaGreatDoor
/-! ## The reference's nets: copied, with one more, held -/
namespace Go.Proofs.YtfdbminedccccaaGreatDoor
open Go.RowKit
set_option linter.unusedSimpArgs false
set_option linter.unusedVariables false
set_option pp.maxSteps 3000

/-- A net: rows of whether an event must be ahead of another one. -/
def netL (R : Nat → Nat → Bool) (n : Nat) : List (List Bool) := (List.range n).map fun a => (List.range n).map (R a)
def boolsV (l : List Bool) : V := .sl (l.map V.bool)
theorem boolsV_eq (l : List Bool) : boolsV l = .sl (l.map V.bool) := rfl
def netE (L : List (List Bool)) : V := .eptr [.sl (L.map boolsV)]
theorem netE_eq (L : List (List Bool)) : netE L = .eptr [.sl (L.map boolsV)] := rfl
@[push_cast] theorem fzs_bl (l : List Bool) : (l.map V.bool).map V.fz = l.map V.bool := by rw [List.map_map]; exact List.map_congr_left fun d _ => rfl
@[push_cast] theorem flatL_bl (l : List Bool) : flatL (l.map V.bool) = true := by simp [flatL, V.cells, V.flatC]
@[push_cast] theorem fzs_bls (l : List (List Bool)) : (l.map boolsV).map V.fz = l.map boolsV := by rw [List.map_map]; exact List.map_congr_left fun d _ => rfl
theorem netL_len (R : Nat → Nat → Bool) (n : Nat) : (netL R n).length = n := by simp [netL]
theorem netL_get {R : Nat → Nat → Bool} {n a : Nat} (ha : a < n) : (netL R n)[a]? = some ((List.range n).map (R a)) := by
  rw [netL, List.getElem?_map, List.getElem?_range ha]; rfl
theorem netL_congr {R R' : Nat → Nat → Bool} {n : Nat} (h : ∀ a b, a < n → b < n → R a b = R' a b) : netL R n = netL R' n :=
  List.map_congr_left fun a ha => List.map_congr_left fun b hb => h a b (List.mem_range.1 ha) (List.mem_range.1 hb)
@[push_cast] theorem okY_bl (l : List Bool) : okY Tryz.prog 4 (l.map V.bool) = True := by
  simp only [okY, List.mem_map, eq_iff_iff, iff_true]
  rintro y ⟨d, _, rfl⟩
  exact ⟨by rw [szT_4]; rfl, by simp [V.cells, V.one]⟩
/-- A row that is its own. -/
structure RowN where
  e : TypeId
  γ : Option Nat
  c : Nat
  l : List Bool
def RowN.V (x : RowN) : V := .own x.e x.γ x.c (x.l.map V.bool)
theorem RowN.V_eq (x : RowN) : x.V = .own x.e x.γ x.c (x.l.map V.bool) := rfl
theorem fz_rowN (x : RowN) : x.V.fz = boolsV x.l := by simp only [RowN.V, V.fz, fzs_map, fzs_bl, boolsV]
theorem fz_rowsN (xs : List RowN) : (xs.map RowN.V).map V.fz = (xs.map RowN.l).map boolsV := by
  rw [List.map_map, List.map_map]; exact List.map_congr_left fun d _ => fz_rowN d
/-- A net as it lies in an object. -/
def netO (g : Nat) (e : TypeId) (γ : Option Nat) (c : Nat) (xs : List RowN) : V := .own 100 (some g) 1 [.agg [.own e γ c (xs.map RowN.V)]]
theorem netO_eq (g : Nat) (e : TypeId) (γ : Option Nat) (c : Nat) (xs : List RowN) : netO g e γ c xs = .own 100 (some g) 1 [.agg [.own e γ c (xs.map RowN.V)]] := rfl
theorem ncopy_fn (L : List (List Bool)) (hn : L.length ≤ 62) (hr : ∀ l ∈ L, l.length ≤ 62) :
    Fc Tryz.prog 69 [netE L] noM (fun r m => ∃ ob, (∃ g e γ c xs, r = .ptr 100 [] 0 0 g 1 ∧ ob = netO g e γ c xs ∧ (γ = none ∨ e = 72) ∧ (∀ x ∈ xs, x.γ = none ∨ x.e = 4) ∧ xs.map RowN.l = L) ∧ m = noM.set 100 ob) := by
  refine Fc.rekeyP (R' := fun r m => ∃ g e γ c xs, r = .ptr 2 [] 0 0 g 1 ∧ m = noM.set 2 (netO g e γ c xs) ∧ (γ = none ∨ e = 72) ∧ (∀ x ∈ xs, x.γ = none ∨ x.e = 4) ∧ xs.map RowN.l = L) ?_ ?_
  rotate_left
  · rintro r m ⟨g, e, γ, c, xs, rfl, rfl, h1, h2, h3⟩
    exact ⟨2, g, 1, _, rfl, rfl, _, ⟨g, e, γ, c, xs, rfl, rfl, h1, h2, h3⟩, era_set rfl⟩
  refine Fc.start (S := []) Tryz.func69 Tryz.ntmps69 Tryz.results69 rfl (by decide) rfl (by kernel_rfl) ?_
  simp (maxSteps := 1000000) (disch := omega) only [push_cast, go_sem, wpS_tt, wpS_tf, wpS_ft, wpS_ff, wpCond_tt, wpCond_ff, simprocAttr, netE_eq]
  intro g3
  refine Sat.loop (σ := EvS × List RowN) (fun x => upd (upd (upd noT 0 (.eptr [.sl (L.map boolsV)])) 3 (.ptr 3 [] 0 0 g3 1)) 4 (.int .i64 x.1.k)) (fun x => noM.set 3 (.own 100 (some g3) 1 [.agg [.own x.1.e x.1.γ x.1.c (x.2.map RowN.V)]]))
    (fun x => x.1.k ≤ L.length ∧ (x.1.γ = none ∨ x.1.e = 72) ∧ (∀ y ∈ x.2, y.γ = none ∨ y.e = 4) ∧ x.2.map RowN.l = L.take x.1.k) (fun x => L.length - x.1.k) (⟨0, 0, none, 0⟩, []) (by simp) ?_ ?_
  · (refine Less.start ?_; repeat (first | exact LessO.nil | exact LessO.all | refine LessO.skip (by decide) ?_ | refine LessO.upd ?_ ?_ | refine LessO.set ?_ ?_)) <;> (try simp (maxSteps := 1000000) (disch := omega) only [push_cast, go_sem, wpS_tt, wpS_tf, wpS_ft, wpS_ff, wpCond_tt, wpCond_ff, simprocAttr])
  rintro ⟨⟨k, e, γ, c⟩, xs⟩ ⟨hk, hγ, hxe, hxs⟩ J hJ
  simp only at hk hγ hxe hxs hJ
  refine Sat.of (S := []) (by kernel_rfl) ?_
  rcases Nat.lt_or_ge k L.length with hlt | hge
  · obtain ⟨row, hrow⟩ : ∃ row, L[k]? = some row := ⟨_, List.getElem?_eq_getElem hlt⟩
    have hrl := hr row (List.mem_of_getElem? hrow)
    have hγ' : (γ = none ∨ e = 72) = True := by simp only [hγ]
    have hxl : xs.length = k := by have := congrArg List.length hxs; rw [List.length_map, List.length_take, Nat.min_eq_left hk] at this; exact this
    simp (maxSteps := 1000000) (disch := omega) only [push_cast, go_sem, wpS_tt, wpS_tf, wpS_ft, wpS_ff, wpCond_tt, wpCond_ff, simprocAttr, hlt]
    refine Sat.drawnE [(4, 5), (4, 9), (5, 9), (4, 12), (5, 12), (4, 13), (4, 14)] [] [] (fun _ _ _ => none) (by kernel_rfl) (by kernel_rfl) ?_
    simp (maxSteps := 1000000) (disch := omega) only [push_cast, go_sem, wpS_tt, wpS_tf, wpS_ft, wpS_ff, wpCond_tt, wpCond_ff, simprocAttr, hrow, hlt, boolsV_eq, hγ']
    intro g21
    refine ⟨by omega, fun γ5 c5 _ => ?_⟩
    intro g30
    cases hfl : (V.own 4 γ5 c5 (row.map V.bool)).flatC <;> simp (maxSteps := 1000000) (disch := omega) only [push_cast, go_sem, wpS_tt, wpS_tf, wpS_ft, wpS_ff, wpCond_tt, wpCond_ff, simprocAttr, hγ', hfl]
    all_goals
      refine ⟨by omega, fun γ6 c6 _ => ?_⟩
      refine hJ (⟨k + 1, 72, γ6, c6⟩, xs ++ [⟨4, γ5, c5, row⟩]) _ _ ⟨by dsimp only; omega, .inr rfl, ?_, ?_⟩ (by dsimp only; omega) ?_
      · intro y hy
        rcases List.mem_append.1 hy with hy | hy
        · exact hxe y hy
        · obtain rfl := List.mem_singleton.1 hy; exact .inr rfl
      · dsimp only
        rw [List.map_append, hxs, take_get hrow]
        rfl
      · (refine Less.start ?_; repeat (first | exact LessO.nil | exact LessO.all | refine LessO.skip (by decide) ?_ | refine LessO.upd ?_ ?_ | refine LessO.set ?_ ?_)) <;> (try simp (maxSteps := 1000000) (disch := omega) only [push_cast, go_sem, wpS_tt, wpS_tf, wpS_ft, wpS_ff, wpCond_tt, wpCond_ff, simprocAttr])
        all_goals simp [RowN.V]
  · have : k = L.length := by omega
    subst this
    simp (maxSteps := 1000000) (disch := omega) only [push_cast, go_sem, wpS_tt, wpS_tf, wpS_ft, wpS_ff, wpCond_tt, wpCond_ff, simprocAttr]
    refine ⟨_, ?_, g3, e, γ, c, xs, rfl, rfl, hγ, hxe, by rw [hxs, List.take_length]⟩
    ((repeat (first | exact Sub.no | refine Sub.set ?_ ?_)) <;> (try simp (disch := omega) only [push_cast, go_sem, wpS_tt, wpS_tf, wpS_ft, wpS_ff, wpCond_tt, wpCond_ff, simprocAttr]))
    rw [netO_eq]
@[push_cast] theorem modBool (l : List Bool) (k : Nat) (z : Bool) : (l.map V.bool).modify k (fun x => x.setC 0 (V.bool z)) = (l.set k z).map V.bool := by
  apply List.ext_getElem?
  intro i
  rw [List.getElem?_modify, List.getElem?_map, List.getElem?_map, List.getElem?_set]
  by_cases h : k = i
  · subst h
    cases hl : l[k]? with
    | none => have := List.getElem?_eq_none_iff.1 hl; simp; omega
    | some a => have := (List.getElem?_eq_some_iff.1 hl).1; simp [this, V.setC]
  · simp [h]
@[push_cast] theorem modRow (xs : List RowN) (a : Nat) (e : TypeId) (γ : Option Nat) (c : Nat) (l : List Bool) :
    (xs.map RowN.V).modify a (fun x => x.setC 0 (V.own e γ c (l.map V.bool))) = (xs.set a ⟨e, γ, c, l⟩).map RowN.V := by
  apply List.ext_getElem?
  intro i
  rw [List.getElem?_modify, List.getElem?_map, List.getElem?_map, List.getElem?_set]
  by_cases h : a = i
  · subst h
    cases hl : xs[a]? with
    | none => have := List.getElem?_eq_none_iff.1 hl; simp; omega
    | some y => have := (List.getElem?_eq_some_iff.1 hl).1; simp [this, V.setC, RowN.V]
  · simp [h]
theorem netL_wi {R : Nat → Nat → Bool} {n a b : Nat} (ha : a < n) (hb : b < n) : (netL R n).modify a (fun l => l.set b true) = netL (wiR R a b) n := by
  apply List.ext_getElem?
  intro i
  rw [List.getElem?_modify]
  by_cases hi : i < n
  · rw [netL_get hi, netL_get hi]
    by_cases h : a = i
    · subst h
      simp only [if_true, Option.map_eq_map, Option.map_some, Option.some.injEq]
      apply List.ext_getElem?
      intro j
      rw [List.getElem?_set, List.getElem?_map, List.getElem?_map, List.length_map, List.length_range]
      by_cases hj : j < n
      · rw [List.getElem?_range hj]
        by_cases h2 : b = j
        · subst h2; simp [hj, wiR]
        · have h3 : (j == b) = false := by simp; omega
          simp [h2, wiR, h3]
      · have : (List.range n)[j]? = none := by simp; omega
        rw [this]
        by_cases h2 : b = j
        · subst h2; simp [hj]
        · simp [h2]
    · have h' : (i == a) = false := by simp; omega
      simp [h, wiR, h']
  · have e1 : (netL R n)[i]? = none := by rw [List.getElem?_eq_none_iff, netL_len]; omega
    have e2 : (netL (wiR R a b) n)[i]? = none := by rw [List.getElem?_eq_none_iff, netL_len]; omega
    rw [e1, e2]; split <;> rfl
theorem nwith_fn (R : Nat → Nat → Bool) (n a b : Nat) (hn : n ≤ 62) (ha : a < n) (hb : b < n) : Fp Tryz.prog 72 [netE (netL R n), .int .i64 a, .int .i64 b] (netE (netL (wiR R a b) n)) := by
  have hNl := netL_len R n
  have hcp := ncopy_fn (netL R n) (by rw [hNl]; exact hn) (fun l hl => by
    simp only [netL, List.mem_map] at hl
    obtain ⟨i, _, rfl⟩ := hl
    simp; exact hn)
  rw [netE_eq] at hcp
  refine Fc.start (S := [2, 3]) Tryz.func72 Tryz.ntmps72 Tryz.results72 rfl (by decide) rfl (by kernel_rfl) ?_
  simp (maxSteps := 1000000) (disch := omega) only [push_cast, go_sem, wpS_tt, wpS_tf, wpS_ft, wpS_ff, wpCond_tt, wpCond_ff, simprocAttr, netE_eq]
  refine callR.new hcp rfl rfl ?_
  rintro r ob ⟨g, e, γ, c, xs, rfl, rfl, h1, h2, h3⟩
  simp (maxSteps := 1000000) (disch := omega) only [push_cast, go_sem, wpS_tt, wpS_tf, wpS_ft, wpS_ff, wpCond_tt, wpCond_ff, simprocAttr, netO_eq]
  have hxl : xs.length = n := by have := congrArg List.length h3; rw [List.length_map, hNl] at this; exact this
  refine Sat.someP (o := 7) (q := [(0, 0)]) (e := e) (γ := γ) (cap := c) (es := xs.map RowN.V) rfl ?_ ?_
  · intro h0
    have := congrArg List.length h0
    rw [List.length_map, hxl] at this; simp at this; omega
  rintro g1 rfl
  obtain rfl : e = 72 := h1.resolve_left nofun
  obtain ⟨⟨e1, γ1, c1, l1⟩, hrow⟩ : ∃ row, xs[a]? = some row := ⟨_, List.getElem?_eq_getElem (by omega)⟩
  have hl1 : l1 = (List.range n).map (R a) := by
    have := netL_get (R := R) ha
    rw [← h3, List.getElem?_map, hrow] at this
    simpa using this
  have hll : l1.length = n := by rw [hl1]; simp
  refine Sat.someP (o := 7) (q := [(0, 0), (a, 0)]) (e := e1) (γ := γ1) (cap := c1) (es := l1.map V.bool) ?_ ?_ ?_
  · simp [Mem.getP, Mem.set, V.getP, V.cellAt, hrow, RowN.V, V.cells]
  · intro h0
    have := congrArg List.length h0
    rw [List.length_map, hll] at this; simp at this; omega
  rintro g2 rfl
  obtain rfl : e1 = 4 := (h2 _ (List.mem_of_getElem? hrow)).resolve_left nofun
  obtain ⟨z, hz⟩ : ∃ z, l1[b]? = some z := ⟨_, List.getElem?_eq_getElem (by omega)⟩
  refine Sat.of (S := [3]) (by kernel_rfl) ?_
  simp (maxSteps := 1000000) (disch := omega) only [push_cast, go_sem, wpS_tt, wpS_tf, wpS_ft, wpS_ff, wpCond_tt, wpCond_ff, simprocAttr, hrow, hxl, ha, RowN.V_eq, hll, hb, hz]
  have hfin : (xs.set a ⟨4, some g2, c1, l1.set b true⟩).map RowN.l = netL (wiR R a b) n := by
    rw [← netL_wi ha hb, ← h3]
    apply List.ext_getElem?
    intro i
    rw [List.getElem?_modify, List.getElem?_map, List.getElem?_map, List.getElem?_set]
    by_cases h : a = i
    · subst h
      obtain ⟨k1, k2⟩ := List.getElem?_eq_some_iff.1 hrow
      simp [k1, k2]
    · simp [h]
  refine Sat.fixP (o := 7) (g := g) (e := 100) (cap := 1) (es := [.agg [.own 72 (some g1) c ((xs.set a ⟨4, some g2, c1, l1.set b true⟩).map RowN.V)]]) (T := upd noT 7 (netE (netL (wiR R a b) n))) rfl ?_ ?_
  · refine Fx.ptr Fx.nil rfl rfl (by kernel_rfl) ?_
    simp only [V.cells, List.drop_zero, List.map_cons, List.map_nil, V.fz, fzs_map, fz_rowsN, hfin]
  refine Sat.of (S := []) (by kernel_rfl) ?_
  simp (maxSteps := 1000000) (disch := omega) only [push_cast, go_sem, wpS_tt, wpS_tf, wpS_ft, wpS_ff, wpCond_tt, wpCond_ff, simprocAttr, netE_eq]
end Go.Proofs.YtfdbminedccccaaGreatDoor
/-! ## The reference: whether a net holds -/
namespace Go.Proofs.YtfdbminedccccaaGreatDoor
open Go.RowKit
set_option linter.unusedSimpArgs false
set_option linter.unusedVariables false
set_option pp.maxSteps 3000

def goneL (L : Nat → Bool) (n : Nat) : List Bool := (List.range n).map fun b => !L b
theorem goneL_len (L : Nat → Bool) (n : Nat) : (goneL L n).length = n := by simp [goneL]
theorem goneL_get {L : Nat → Bool} {n a : Nat} (ha : a < n) : (goneL L n)[a]? = some (!L a) := by
  rw [goneL, List.getElem?_map, List.getElem?_range ha]; rfl
theorem goneL_zero (n : Nat) : goneL (fun x => decide (x < n)) n = List.replicate n false := by
  rw [goneL, List.eq_replicate_iff]
  refine ⟨by simp, fun b hb => ?_⟩
  simp only [List.mem_map, List.mem_range] at hb
  obtain ⟨i, hi, rfl⟩ := hb
  simp [hi]
theorem goneL_set {L : Nat → Bool} {n z : Nat} (hz : z < n) : (goneL L n).set z true = goneL (fun x => L x && !(x == z)) n := by
  apply List.ext_getElem?
  intro i
  rw [List.getElem?_set, goneL_len]
  by_cases hi : i < n
  · rw [goneL_get hi, goneL_get hi]
    by_cases h : z = i
    · subst h; simp [hi]
    · have h2 : (i == z) = false := by simp; omega
      simp [h, h2]
  · have e1 : (goneL L n)[i]? = none := by rw [List.getElem?_eq_none_iff, goneL_len]; omega
    have e2 : (goneL (fun x => L x && !(x == z)) n)[i]? = none := by rw [List.getElem?_eq_none_iff, goneL_len]; omega
    rw [e1, e2]
    by_cases h : z = i
    · subst h; simp [hi]
    · simp [h]
def frB (R : Nat → Nat → Bool) (L : Nat → Bool) (b a : Nat) : Bool := L b && (List.range a).all fun x => !L x || !R x b
theorem frB_succ (R : Nat → Nat → Bool) (L : Nat → Bool) (b a : Nat) : frB R L b (a + 1) = (frB R L b a && (!L a || !R a b)) := by
  simp [frB, List.range_succ, Bool.and_assoc]
theorem frB_no {R : Nat → Nat → Bool} {L : Nat → Bool} {n b : Nat} : ∀ {a : Nat}, frB R L b a = false → a ≤ n → freeE R n L b = false := by
  intro a h hle
  cases hf : freeE R n L b
  · rfl
  · rw [free_iff] at hf
    have : frB R L b a = true := by
      simp only [frB, Bool.and_eq_true, List.all_eq_true, List.mem_range, Bool.or_eq_true, Bool.not_eq_true']
      refine ⟨hf.1, fun x hx => ?_⟩
      cases hl : L x
      · exact .inl rfl
      · exact .inr (hf.2 x (by omega) hl)
    rw [this] at h; cases h
def optZ : Option Nat → Int
  | some z => z
  | none => -1
theorem holds_fn (R : Nat → Nat → Bool) (n : Nat) (hn : n ≤ 62) : Fp Tryz.prog 37 [netE (netL R n)] (.bool (lineE R n).isSome) := by
  have hNl := netL_len R n
  refine Fc.start (S := []) Tryz.func37 Tryz.ntmps37 Tryz.results37 rfl (by decide) rfl (by kernel_rfl) ?_
  simp (maxSteps := 1000000) (disch := omega) only [push_cast, go_sem, wpS_tt, wpS_tf, wpS_ft, wpS_ff, wpCond_tt, wpCond_ff, simprocAttr, netE_eq, hNl]
  refine ⟨by omega, fun gr => ?_⟩
  refine Sat.loop (σ := Nat × (Nat → Bool)) (fun x => upd (upd (upd noT 0 (.eptr [.sl ((netL R n).map boolsV)])) 3 (.msl 3 [] (some gr) n n)) 4 (.int .i64 x.1)) (fun x => noM.set 3 (.own 4 (some gr) n ((goneL x.2 n).map V.bool)))
    (fun x => cntE n x.2 = x.1 ∧ x.1 ≤ n ∧ (lineE R n).isSome = (elimE R n x.1 x.2).isSome) (fun x => x.1) (n, fun x => decide (x < n)) ⟨cnt_all, Nat.le_refl _, rfl⟩ ?_ ?_
  · (refine Less.start ?_; repeat (first | exact LessO.nil | exact LessO.all | refine LessO.skip (by decide) ?_ | refine LessO.upd ?_ ?_ | refine LessO.set ?_ ?_)) <;> (try simp (maxSteps := 1000000) (disch := omega) only [push_cast, go_sem, wpS_tt, wpS_tf, wpS_ft, wpS_ff, wpCond_tt, wpCond_ff, simprocAttr])
    all_goals rw [goneL_zero]; simp
  rintro ⟨k, L⟩ ⟨hc, hk, hline⟩ J hJ
  simp only at hc hk hline hJ
  refine Sat.of (S := []) (by kernel_rfl) ?_
  cases k with
  | zero =>
    simp (maxSteps := 1000000) (disch := omega) only [push_cast, go_sem, wpS_tt, wpS_tf, wpS_ft, wpS_ff, wpCond_tt, wpCond_ff, simprocAttr]
    rw [hline, elimE]; rfl
  | succ k =>
    rw [elimE] at hline
    have hg := goneL_len L n
    have hk0 : (0 : Int) < (k : Int) + 1 := by omega
    simp (maxSteps := 1000000) (disch := omega) only [push_cast, go_sem, wpS_tt, wpS_tf, wpS_ft, wpS_ff, wpCond_tt, wpCond_ff, simprocAttr, hk0]
    refine Sat.loop (σ := Nat × Option Nat) (fun x => upd (upd (upd (upd (upd noT 0 (.eptr [.sl ((netL R n).map boolsV)])) 3 (.msl 3 [] (some gr) n n)) 4 (.int .i64 (k + 1 : Nat))) 5 (.int .i64 (optZ x.2))) 6 (.int .i64 x.1)) (fun x => noM.set 3 (.own 4 (some gr) n ((goneL L n).map V.bool)))
      (fun x => x.1 ≤ n ∧ (x.2 = none → ∀ j, j < x.1 → freeE R n L j = false) ∧ ∀ z, x.2 = some z → z < n ∧ pickE R n L = some z) (fun x => n - x.1) (0, none) ⟨by omega, fun _ j hj => absurd hj (Nat.not_lt_zero j), fun z hz => by cases hz⟩ ?_ ?_
    · (refine Less.start ?_; repeat (first | exact LessO.nil | exact LessO.all | refine LessO.skip (by decide) ?_ | refine LessO.upd ?_ ?_ | refine LessO.set ?_ ?_)) <;> (try simp (maxSteps := 1000000) (disch := omega) only [push_cast, go_sem, wpS_tt, wpS_tf, wpS_ft, wpS_ff, wpCond_tt, wpCond_ff, simprocAttr])
      all_goals rfl
    rintro ⟨b, o⟩ ⟨hb, hno, hso⟩ J2 hJ2
    simp only at hb hno hso hJ2
    refine Sat.of (S := []) (by kernel_rfl) ?_
    cases o with
    | some z =>
      obtain ⟨hz, hpk⟩ := hso z rfl
      rw [hpk] at hline
      have hz0 : ¬ ((z : Int) < 0) := by omega
      have hset := goneL_set (L := L) hz
      have hcr := cnt_rem (L := L) (free_iff.1 (pick_some hpk).2).1 hz
      have hgz := goneL_get (L := L) hz
      have e1 : optZ (some z) = (z : Int) := rfl
      by_cases hbn : b < n
      all_goals
        simp (maxSteps := 1000000) (disch := omega) only [push_cast, go_sem, wpS_tt, wpS_tf, wpS_ft, wpS_ff, wpCond_tt, wpCond_ff, simprocAttr, e1, hz0, hbn, hNl, hg, hz, hgz]
        refine hJ (k, fun x => L x && !(x == z)) _ _ ⟨by dsimp only; omega, by dsimp only; omega, ?_⟩ (by dsimp only; omega) ?_
        · dsimp only
          rw [hline]
          show (Option.map (z :: ·) (elimE R n k fun x => L x && !(x == z))).isSome = _
          rw [Option.isSome_map]
        · dsimp only
          rw [← hset]
          (refine Less.start ?_; repeat (first | exact LessO.nil | exact LessO.all | refine LessO.skip (by decide) ?_ | refine LessO.upd ?_ ?_ | refine LessO.set ?_ ?_)) <;> (try simp (maxSteps := 1000000) (disch := omega) only [push_cast, go_sem, wpS_tt, wpS_tf, wpS_ft, wpS_ff, wpCond_tt, wpCond_ff, simprocAttr])
    | none =>
      have hno' := hno rfl
      have e1 : optZ none = -1 := rfl
      rcases Nat.lt_or_ge b n with hbn | hbn
      · have hgb := goneL_get (L := L) hbn
        simp (maxSteps := 1000000) (disch := omega) only [push_cast, go_sem, wpS_tt, wpS_tf, wpS_ft, wpS_ff, wpCond_tt, wpCond_ff, simprocAttr, e1, hbn, hNl, hg, hgb]
        refine Sat.loop (σ := Nat × Bool) (fun x => upd (upd (upd (upd (upd (upd (upd noT 0 (.eptr [.sl ((netL R n).map boolsV)])) 3 (.msl 3 [] (some gr) n n)) 4 (.int .i64 (k + 1 : Nat))) 5 (.int .i64 (-1))) 6 (.int .i64 b)) 7 (.bool x.2)) 8 (.int .i64 x.1)) (fun x => noM.set 3 (.own 4 (some gr) n ((goneL L n).map V.bool)))
          (fun x => x.1 ≤ n ∧ x.2 = frB R L b x.1) (fun x => n - x.1) (0, L b) ⟨by dsimp only; omega, by simp [frB]⟩ ?_ ?_
        · (refine Less.start ?_; repeat (first | exact LessO.nil | exact LessO.all | refine LessO.skip (by decide) ?_ | refine LessO.upd ?_ ?_ | refine LessO.set ?_ ?_)) <;> (try simp (maxSteps := 1000000) (disch := omega) only [push_cast, go_sem, wpS_tt, wpS_tf, wpS_ft, wpS_ff, wpCond_tt, wpCond_ff, simprocAttr])
          all_goals first | rfl | simp
        rintro ⟨a, fr⟩ ⟨ha, hfr⟩ J3 hJ3
        simp only at ha hfr hJ3
        refine Sat.of (S := []) (by kernel_rfl) ?_
        cases fr with
        | false =>
          have hff := frB_no (n := n) hfr.symm ha
          by_cases han : a < n
          all_goals
            simp (maxSteps := 1000000) (disch := omega) only [push_cast, go_sem, wpS_tt, wpS_tf, wpS_ft, wpS_ff, wpCond_tt, wpCond_ff, simprocAttr, han, hNl]
            refine hJ2 (b + 1, none) _ _ ⟨by dsimp only; omega, fun _ j hj => ?_, fun z hz => by cases hz⟩ (by dsimp only; omega) ?_
            · rcases Nat.lt_or_ge j b with h | h
              · exact hno' j h
              · have : j = b := by dsimp only at hj; omega
                rw [this]; exact hff
            · (refine Less.start ?_; repeat (first | exact LessO.nil | exact LessO.all | refine LessO.skip (by decide) ?_ | refine LessO.upd ?_ ?_ | refine LessO.set ?_ ?_)) <;> (try simp (maxSteps := 1000000) (disch := omega) only [push_cast, go_sem, wpS_tt, wpS_tf, wpS_ft, wpS_ff, wpCond_tt, wpCond_ff, simprocAttr])
              all_goals rfl
        | true =>
          rcases Nat.lt_or_ge a n with han | han
          · have hga := goneL_get (L := L) han
            have hna := netL_get (R := R) han
            have hnb : (List.range n)[b]? = some b := List.getElem?_range hbn
            cases hL : L a
            · rw [hL] at hga
              simp (maxSteps := 1000000) (disch := omega) only [push_cast, go_sem, wpS_tt, wpS_tf, wpS_ft, wpS_ff, wpCond_tt, wpCond_ff, simprocAttr, han, hNl, hg, hga]
              refine hJ3 (a + 1, true) _ _ ⟨by dsimp only; omega, by dsimp only; rw [frB_succ, ← hfr, hL]; rfl⟩ (by dsimp only; omega) ?_
              (refine Less.start ?_; repeat (first | exact LessO.nil | exact LessO.all | refine LessO.skip (by decide) ?_ | refine LessO.upd ?_ ?_ | refine LessO.set ?_ ?_)) <;> (try simp (maxSteps := 1000000) (disch := omega) only [push_cast, go_sem, wpS_tt, wpS_tf, wpS_ft, wpS_ff, wpCond_tt, wpCond_ff, simprocAttr])
            · rw [hL] at hga
              simp (maxSteps := 1000000) (disch := omega) only [push_cast, go_sem, wpS_tt, wpS_tf, wpS_ft, wpS_ff, wpCond_tt, wpCond_ff, simprocAttr, han, hNl, hg, hga, hna, boolsV_eq, hnb, hbn, List.length_range]
              refine hJ3 (a + 1, !R a b) _ _ ⟨by dsimp only; omega, by dsimp only; rw [frB_succ, ← hfr, hL]; simp⟩ (by dsimp only; omega) ?_
              (refine Less.start ?_; repeat (first | exact LessO.nil | exact LessO.all | refine LessO.skip (by decide) ?_ | refine LessO.upd ?_ ?_ | refine LessO.set ?_ ?_)) <;> (try simp (maxSteps := 1000000) (disch := omega) only [push_cast, go_sem, wpS_tt, wpS_tf, wpS_ft, wpS_ff, wpCond_tt, wpCond_ff, simprocAttr])
          · have : a = n := by omega
            subst this
            have hfe : freeE R a L b = true := hfr.symm
            simp (maxSteps := 1000000) (disch := omega) only [push_cast, go_sem, wpS_tt, wpS_tf, wpS_ft, wpS_ff, wpCond_tt, wpCond_ff, simprocAttr, hNl]
            refine hJ2 (b + 1, some b) _ _ ⟨by dsimp only; omega, nofun, fun z hz => ?_⟩ (by dsimp only; omega) ?_
            · cases hz
              exact ⟨hbn, find_some hbn hfe hno'⟩
            · (refine Less.start ?_; repeat (first | exact LessO.nil | exact LessO.all | refine LessO.skip (by decide) ?_ | refine LessO.upd ?_ ?_ | refine LessO.set ?_ ?_)) <;> (try simp (maxSteps := 1000000) (disch := omega) only [push_cast, go_sem, wpS_tt, wpS_tf, wpS_ft, wpS_ff, wpCond_tt, wpCond_ff, simprocAttr])
              all_goals rfl
      · have : b = n := by omega
        subst this
        have hpk : pickE R b L = none := find_none hno'
        rw [hpk] at hline
        simp (maxSteps := 1000000) (disch := omega) only [push_cast, go_sem, wpS_tt, wpS_tf, wpS_ft, wpS_ff, wpCond_tt, wpCond_ff, simprocAttr, e1, hNl]
        rw [hline]; rfl
end Go.Proofs.YtfdbminedccccaaGreatDoor
/-! ## What must be ahead of what, by the reference: what stays, what is told -/
namespace Go.Proofs.YtfdbminedccccaaGreatDoor
open Go.RowKit
set_option linter.unusedSimpArgs false
set_option linter.unusedVariables false
set_option pp.maxSteps 3000

section
variable (p : Prog) (x : Exe) (g : Nat) (c2 c3 c4 c5 : V) (a b : Nat)
theorem oloose_fn (hn : (events p).length ≤ 42) (ha : a < (events p).length) (hb : b < (events p).length) : Fo Tryz.prog 97 [.int .i64 a, .int .i64 b] g 6 (ordV p g c2 c3 c4 c5) (.bool (looseS p a b)) := by
  have h1 := odo_fn p g c2 c3 c4 c5 a ha
  have h2 := odo_fn p g c2 c3 c4 c5 b hb
  have h3 := oown_fn p g c2 c3 c4 c5 a b ha hb
  have h4 := oinside_fn p g c2 c3 c4 c5 a b hn ha hb
  have h5 := l12Source_fn p b hn hb
  have w1 := owall_fn (dsA p a)
  have w2 := owall_fn (dsA p b)
  rw [ordV_eq] at h1 h2 h3 h4
  rw [progV_eq] at h5
  rw [Do.V_eq] at w1 w2
  refine Fc.start (S := []) Tryz.func97 Tryz.ntmps97 Tryz.results97 rfl (by decide) rfl (by kernel_rfl) ?_
  simp (maxSteps := 1000000) (disch := omega) only [push_cast, go_sem, wpS_tt, wpS_tf, wpS_ft, wpS_ff, wpCond_tt, wpCond_ff, simprocAttr, ordV_eq]
  refine callR.look h3 rfl rfl rfl ?_
  cases ho : ownB (events p) a b
  · simp (maxSteps := 1000000) (disch := omega) only [push_cast, go_sem, wpS_tt, wpS_tf, wpS_ft, wpS_ff, wpCond_tt, wpCond_ff, simprocAttr]
    refine ⟨_, Sub.rfl, ?_, rfl⟩
    simp [looseS, ho]
  simp (maxSteps := 1000000) (disch := omega) only [push_cast, go_sem, wpS_tt, wpS_tf, wpS_ft, wpS_ff, wpCond_tt, wpCond_ff, simprocAttr]
  refine callR.look h1 rfl rfl rfl ?_
  simp (maxSteps := 1000000) (disch := omega) only [push_cast, go_sem, wpS_tt, wpS_tf, wpS_ft, wpS_ff, wpCond_tt, wpCond_ff, simprocAttr, Do.V_eq]
  intro g7
  refine callR.look h2 rfl rfl rfl ?_
  simp (maxSteps := 1000000) (disch := omega) only [push_cast, go_sem, wpS_tt, wpS_tf, wpS_ft, wpS_ff, wpCond_tt, wpCond_ff, simprocAttr, Do.V_eq]
  intro g8
  refine callR.pure w1 rfl rfl ?_
  have hl : looseS p a b = (wallB (dsA p a) || wallB (dsA p b) || (dsA p a).k == 5 || (dsA p b).k == 6 || insS p a b || ((dsA p b).k == 3 && srcOf (events p) (scene p).ds b b == (a : Int))) := by rw [looseS, ho, Bool.true_and]
  rw [hl]
  cases hw1 : wallB (dsA p a)
  rotate_left
  · simp (maxSteps := 1000000) (disch := omega) only [push_cast, go_sem, wpS_tt, wpS_tf, wpS_ft, wpS_ff, wpCond_tt, wpCond_ff, simprocAttr]
    refine ⟨_, ?_, rfl⟩
    ((repeat (first | exact Sub.no | refine Sub.set ?_ ?_)) <;> (try simp (disch := omega) only [push_cast, go_sem, wpS_tt, wpS_tf, wpS_ft, wpS_ff, wpCond_tt, wpCond_ff, simprocAttr]))
  simp (maxSteps := 1000000) (disch := omega) only [push_cast, go_sem, wpS_tt, wpS_tf, wpS_ft, wpS_ff, wpCond_tt, wpCond_ff, simprocAttr]
  refine callR.pure w2 rfl rfl ?_
  cases hw2 : wallB (dsA p b)
  rotate_left
  · simp (maxSteps := 1000000) (disch := omega) only [push_cast, go_sem, wpS_tt, wpS_tf, wpS_ft, wpS_ff, wpCond_tt, wpCond_ff, simprocAttr]
    refine ⟨_, ?_, rfl⟩
    ((repeat (first | exact Sub.no | refine Sub.set ?_ ?_)) <;> (try simp (disch := omega) only [push_cast, go_sem, wpS_tt, wpS_tf, wpS_ft, wpS_ff, wpCond_tt, wpCond_ff, simprocAttr]))
  cases h5a : ((dsA p a).k == 5)
  rotate_left
  · simp (maxSteps := 1000000) (disch := omega) only [push_cast, go_sem, wpS_tt, wpS_tf, wpS_ft, wpS_ff, wpCond_tt, wpCond_ff, simprocAttr, h5a]
    refine ⟨_, ?_, rfl⟩
    ((repeat (first | exact Sub.no | refine Sub.set ?_ ?_)) <;> (try simp (disch := omega) only [push_cast, go_sem, wpS_tt, wpS_tf, wpS_ft, wpS_ff, wpCond_tt, wpCond_ff, simprocAttr]))
  cases h6 : ((dsA p b).k == 6)
  rotate_left
  · simp (maxSteps := 1000000) (disch := omega) only [push_cast, go_sem, wpS_tt, wpS_tf, wpS_ft, wpS_ff, wpCond_tt, wpCond_ff, simprocAttr, h5a, h6]
    refine ⟨_, ?_, rfl⟩
    ((repeat (first | exact Sub.no | refine Sub.set ?_ ?_)) <;> (try simp (disch := omega) only [push_cast, go_sem, wpS_tt, wpS_tf, wpS_ft, wpS_ff, wpCond_tt, wpCond_ff, simprocAttr]))
  simp (maxSteps := 1000000) (disch := omega) only [push_cast, go_sem, wpS_tt, wpS_tf, wpS_ft, wpS_ff, wpCond_tt, wpCond_ff, simprocAttr, h5a, h6]
  refine callR.look h4 rfl rfl rfl ?_
  cases hin : insS p a b
  rotate_left
  · simp (maxSteps := 1000000) (disch := omega) only [push_cast, go_sem, wpS_tt, wpS_tf, wpS_ft, wpS_ff, wpCond_tt, wpCond_ff, simprocAttr]
    refine ⟨_, ?_, rfl⟩
    ((repeat (first | exact Sub.no | refine Sub.set ?_ ?_)) <;> (try simp (disch := omega) only [push_cast, go_sem, wpS_tt, wpS_tf, wpS_ft, wpS_ff, wpCond_tt, wpCond_ff, simprocAttr]))
  simp (maxSteps := 1000000) (disch := omega) only [push_cast, go_sem, wpS_tt, wpS_tf, wpS_ft, wpS_ff, wpCond_tt, wpCond_ff, simprocAttr]
  refine Sat.drawnE [] [] (List.range 18) (pureT [(114, .int .i64 (srcOf (events p) (scene p).ds b b))]) (by kernel_rfl) (by kernel_rfl) ?_
  cases h3 : ((dsA p b).k == 3)
  · simp (maxSteps := 1000000) (disch := omega) only [push_cast, go_sem, wpS_tt, wpS_tf, wpS_ft, wpS_ff, wpCond_tt, wpCond_ff, simprocAttr, h3]
    refine ⟨_, ?_, rfl⟩
    ((repeat (first | exact Sub.no | refine Sub.set ?_ ?_)) <;> (try simp (disch := omega) only [push_cast, go_sem, wpS_tt, wpS_tf, wpS_ft, wpS_ff, wpCond_tt, wpCond_ff, simprocAttr]))
  · simp (maxSteps := 1000000) (disch := omega) only [push_cast, go_sem, wpS_tt, wpS_tf, wpS_ft, wpS_ff, wpCond_tt, wpCond_ff, simprocAttr, h3]
    refine runD_pure rfl h5 rfl rfl ?_ ?_
    · rfl
    simp (maxSteps := 1000000) (disch := omega) only [push_cast, go_sem, wpS_tt, wpS_tf, wpS_ft, wpS_ff, wpCond_tt, wpCond_ff, simprocAttr]
    refine ⟨_, ?_, rfl⟩
    ((repeat (first | exact Sub.no | refine Sub.set ?_ ?_)) <;> (try simp (disch := omega) only [push_cast, go_sem, wpS_tt, wpS_tf, wpS_ft, wpS_ff, wpCond_tt, wpCond_ff, simprocAttr]))
theorem ostays_fn (hn : (events p).length ≤ 42) (kind : Int) (ha : a < (events p).length) (hb : b < (events p).length) : Fo Tryz.prog 71 [.int .i64 kind, .int .i64 a, .int .i64 b] g 6 (ordV p g (rdsV p) (wrtV p) c4 c5) (.bool (staysS p kind a b)) := by
  obtain ⟨ea, hea⟩ : ∃ e, (events p)[a]? = some e := ⟨_, List.getElem?_eq_getElem ha⟩
  obtain ⟨eb, heb⟩ : ∃ e, (events p)[b]? = some e := ⟨_, List.getElem?_eq_getElem hb⟩
  have hsl : (scene p).ds.length = (events p).length := by simp [scene]
  have hda : (scene p).ds[a]? = some (dsA p a) := by rw [dsA, scene_get hea]; rfl
  have hdb : (scene p).ds[b]? = some (dsA p b) := by rw [dsA, scene_get heb]; rfl
  have h1 := oown_fn p g (rdsV p) (wrtV p) c4 c5 a b ha hb
  have h2 := oloose_fn p g (rdsV p) (wrtV p) c4 c5 a b hn ha hb
  have h3 := osame_fn p g c4 c5 a b ha hb
  rw [ordV_eq, rdsV_eq, wrtV_eq] at h1 h2 h3
  unfold staysS
  refine Fc.start (S := []) Tryz.func71 Tryz.ntmps71 Tryz.results71 rfl (by decide) rfl (by kernel_rfl) ?_
  cases k1 : (kind == 1)
  rotate_left
  · simp (maxSteps := 1000000) (disch := omega) only [push_cast, go_sem, wpS_tt, wpS_tf, wpS_ft, wpS_ff, wpCond_tt, wpCond_ff, simprocAttr, ordV_eq, rdsV_eq, wrtV_eq, k1]
    refine callR.look h1 rfl rfl rfl ?_
    simp (maxSteps := 1000000) (disch := omega) only [push_cast, go_sem, wpS_tt, wpS_tf, wpS_ft, wpS_ff, wpCond_tt, wpCond_ff, simprocAttr]
    first | exact ⟨_, Sub.rfl, rfl, rfl⟩ | exact ⟨_, Sub.rfl, rfl⟩
  cases k2 : (kind == 2)
  rotate_left
  · simp (maxSteps := 1000000) (disch := omega) only [push_cast, go_sem, wpS_tt, wpS_tf, wpS_ft, wpS_ff, wpCond_tt, wpCond_ff, simprocAttr, ordV_eq, rdsV_eq, wrtV_eq, k1, k2]
    refine callR.look h1 rfl rfl rfl ?_
    cases ho : ownB (events p) a b
    · simp (maxSteps := 1000000) (disch := omega) only [push_cast, go_sem, wpS_tt, wpS_tf, wpS_ft, wpS_ff, wpCond_tt, wpCond_ff, simprocAttr]
      first | exact ⟨_, Sub.rfl, rfl, rfl⟩ | exact ⟨_, Sub.rfl, rfl⟩
    cases hw : (dsA p a).writes <;> cases hr : (dsA p b).reads
    all_goals
      simp (maxSteps := 1000000) (disch := omega) only [push_cast, go_sem, wpS_tt, wpS_tf, wpS_ft, wpS_ff, wpCond_tt, wpCond_ff, simprocAttr, hda, hdb, hsl, ha, hb, hw, hr]
      first | exact ⟨_, Sub.rfl, rfl, rfl⟩ | exact ⟨_, Sub.rfl, rfl⟩
  cases k3 : (kind == 3)
  rotate_left
  · simp (maxSteps := 1000000) (disch := omega) only [push_cast, go_sem, wpS_tt, wpS_tf, wpS_ft, wpS_ff, wpCond_tt, wpCond_ff, simprocAttr, ordV_eq, rdsV_eq, wrtV_eq, k1, k2, k3]
    refine callR.look h2 rfl rfl rfl ?_
    simp (maxSteps := 1000000) (disch := omega) only [push_cast, go_sem, wpS_tt, wpS_tf, wpS_ft, wpS_ff, wpCond_tt, wpCond_ff, simprocAttr]
    first | exact ⟨_, Sub.rfl, rfl, rfl⟩ | exact ⟨_, Sub.rfl, rfl⟩
  simp (maxSteps := 1000000) (disch := omega) only [push_cast, go_sem, wpS_tt, wpS_tf, wpS_ft, wpS_ff, wpCond_tt, wpCond_ff, simprocAttr, ordV_eq, rdsV_eq, wrtV_eq, k1, k2, k3]
  refine callR.look h1 rfl rfl rfl ?_
  cases ho : ownB (events p) a b
  · simp (maxSteps := 1000000) (disch := omega) only [push_cast, go_sem, wpS_tt, wpS_tf, wpS_ft, wpS_ff, wpCond_tt, wpCond_ff, simprocAttr]
    first | exact ⟨_, Sub.rfl, rfl, rfl⟩ | exact ⟨_, Sub.rfl, rfl⟩
  simp (maxSteps := 1000000) (disch := omega) only [push_cast, go_sem, wpS_tt, wpS_tf, wpS_ft, wpS_ff, wpCond_tt, wpCond_ff, simprocAttr]
  refine callR.look h3 rfl rfl rfl ?_
  simp (maxSteps := 1000000) (disch := omega) only [push_cast, go_sem, wpS_tt, wpS_tf, wpS_ft, wpS_ff, wpCond_tt, wpCond_ff, simprocAttr]
  first | exact ⟨_, Sub.rfl, rfl, rfl⟩ | exact ⟨_, Sub.rfl, rfl⟩
end
end Go.Proofs.YtfdbminedccccaaGreatDoor
