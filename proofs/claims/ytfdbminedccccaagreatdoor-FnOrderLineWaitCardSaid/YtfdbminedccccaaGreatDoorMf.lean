/-
  What must be ahead of what, by the reference: what is told; ranks; all together. Draws: a program and one way in which all may have been, mostly. What the reference looks at: made. OrderHas, by the reference. The reference: the net of an order; that with all that was read, and written. Who waits stands twice among the events: in pairs. The choices of both sides are the same. The reference: who waits. OrderHolds, by the program. OrderHolds, by the reference. A looser order has fewer that must be ahead; so it holds where a stricter one does. Draws: the reader is opened. Draws: a program, a way and an order. A law: what a stricter order allows a looser one does.
-/
import Derived.Test.YtfdbminedccccaaGreatDoorMe
/-! ## What must be ahead of what, by the reference: what is told; ranks; all together -/
namespace Go.Proofs.YtfdbminedccccaaGreatDoor
open Go.RowKit
set_option linter.unusedSimpArgs false
set_option linter.unusedVariables false
set_option pp.maxSteps 3000

/-- What is looked at, with a way. -/
def ranksV (p : Prog) (x : Exe) : V := .sl (((List.range (events p).length).map (rankS p x)).map (V.int .i64))
def frV' (x : Exe) : V := .sl (x.fr.map (V.int .i64))
section
variable (p : Prog) (x : Exe) (g : Nat) (a b : Nat)
theorem otold_fn (hx : x.fr.length = (events p).length) (hc : ∀ (i : Nat), i < (events p).length → 0 ≤ (dsA p i).p) (kind : Int) (ha : a < (events p).length) (hb : b < (events p).length) :
    Fo Tryz.prog 70 [.int .i64 kind, .int .i64 a, .int .i64 b] g 6 (ordV p g (rdsV p) (wrtV p) (.sl (x.fr.map (V.int .i64))) (.sl (((List.range (events p).length).map (rankS p x)).map (V.int .i64)))) (.bool (toldS p x kind a b)) := by
  obtain ⟨ea, hea⟩ : ∃ e, (events p)[a]? = some e := ⟨_, List.getElem?_eq_getElem ha⟩
  obtain ⟨eb, heb⟩ : ∃ e, (events p)[b]? = some e := ⟨_, List.getElem?_eq_getElem hb⟩
  have h1 := oread_fn p x g (.sl (((List.range (events p).length).map (rankS p x)).map (V.int .i64))) a b hx ha hb
  have h2 := oover_fn p x g (.sl (x.fr.map (V.int .i64))) a b hc ha hb
  rw [ordV_eq, rdsV_eq, wrtV_eq] at h1 h2
  obtain ⟨ap, hap⟩ : ∃ v, (ea.t != eb.t) = v := ⟨_, rfl⟩
  have e3 : apartS p a b = ap := by rw [apartS, th, th, hea, heb]; exact hap
  unfold toldS
  rw [e3]
  generalize ((List.range (events p).length).map (rankS p x)).map (V.int .i64) = rk at h1 h2 ⊢
  refine Fc.start (S := []) Tryz.func70 Tryz.ntmps70 Tryz.results70 rfl (by decide) rfl (by kernel_rfl) ?_
  simp (maxSteps := 1000000) (disch := omega) only [push_cast, go_sem, wpS_tt, wpS_tf, wpS_ft, wpS_ff, wpCond_tt, wpCond_ff, simprocAttr, ordV_eq, rdsV_eq, wrtV_eq]
  refine Sat.drawnE [] [] (List.range 18) (fun _ _ _ => none) (by kernel_rfl) (by kernel_rfl) ?_
  simp (maxSteps := 1000000) (disch := omega) only [push_cast, go_sem, wpS_tt, wpS_tf, wpS_ft, wpS_ff, wpCond_tt, wpCond_ff, simprocAttr, hea, heb, ha, hb, Evt.V_eq, hap]
  cases hrd : readS p x a b <;> cases hov : overS p x a b <;> rw [hrd] at h1 <;> rw [hov] at h2
  all_goals
    cases k1 : (kind == 2)
    · cases k2 : (kind == 3)
      · simp (maxSteps := 1000000) (disch := omega) only [push_cast, go_sem, wpS_tt, wpS_tf, wpS_ft, wpS_ff, wpCond_tt, wpCond_ff, simprocAttr, k1, k2]
        refine callR.look h1 rfl rfl rfl ?_
        simp (maxSteps := 1000000) (disch := omega) only [push_cast, go_sem, wpS_tt, wpS_tf, wpS_ft, wpS_ff, wpCond_tt, wpCond_ff, simprocAttr]
        try (refine callR.look h2 rfl rfl rfl ?_; simp (maxSteps := 1000000) (disch := omega) only [push_cast, go_sem, wpS_tt, wpS_tf, wpS_ft, wpS_ff, wpCond_tt, wpCond_ff, simprocAttr])
        first | exact ⟨_, Sub.rfl, rfl, rfl⟩ | exact ⟨_, Sub.rfl, rfl⟩
      · cases ap
        · simp (maxSteps := 1000000) (disch := omega) only [push_cast, go_sem, wpS_tt, wpS_tf, wpS_ft, wpS_ff, wpCond_tt, wpCond_ff, simprocAttr, k1, k2]
          first | exact ⟨_, Sub.rfl, rfl, rfl⟩ | exact ⟨_, Sub.rfl, rfl⟩
        · simp (maxSteps := 1000000) (disch := omega) only [push_cast, go_sem, wpS_tt, wpS_tf, wpS_ft, wpS_ff, wpCond_tt, wpCond_ff, simprocAttr, k1, k2]
          refine callR.look h1 rfl rfl rfl ?_
          simp (maxSteps := 1000000) (disch := omega) only [push_cast, go_sem, wpS_tt, wpS_tf, wpS_ft, wpS_ff, wpCond_tt, wpCond_ff, simprocAttr]
          try (refine callR.look h2 rfl rfl rfl ?_; simp (maxSteps := 1000000) (disch := omega) only [push_cast, go_sem, wpS_tt, wpS_tf, wpS_ft, wpS_ff, wpCond_tt, wpCond_ff, simprocAttr])
          first | exact ⟨_, Sub.rfl, rfl, rfl⟩ | exact ⟨_, Sub.rfl, rfl⟩
    · cases ap
      · simp (maxSteps := 1000000) (disch := omega) only [push_cast, go_sem, wpS_tt, wpS_tf, wpS_ft, wpS_ff, wpCond_tt, wpCond_ff, simprocAttr, k1]
        refine callR.look h2 rfl rfl rfl ?_
        simp (maxSteps := 1000000) (disch := omega) only [push_cast, go_sem, wpS_tt, wpS_tf, wpS_ft, wpS_ff, wpCond_tt, wpCond_ff, simprocAttr]
        first | exact ⟨_, Sub.rfl, rfl, rfl⟩ | exact ⟨_, Sub.rfl, rfl⟩
      · simp (maxSteps := 1000000) (disch := omega) only [push_cast, go_sem, wpS_tt, wpS_tf, wpS_ft, wpS_ff, wpCond_tt, wpCond_ff, simprocAttr, k1]
        refine callR.look h1 rfl rfl rfl ?_
        simp (maxSteps := 1000000) (disch := omega) only [push_cast, go_sem, wpS_tt, wpS_tf, wpS_ft, wpS_ff, wpCond_tt, wpCond_ff, simprocAttr]
        try (refine callR.look h2 rfl rfl rfl ?_; simp (maxSteps := 1000000) (disch := omega) only [push_cast, go_sem, wpS_tt, wpS_tf, wpS_ft, wpS_ff, wpCond_tt, wpCond_ff, simprocAttr])
        first | exact ⟨_, Sub.rfl, rfl, rfl⟩ | exact ⟨_, Sub.rfl, rfl⟩
end
theorem rank_fn (zs : List Int) (z : Int) (hl : zs.length < 2 ^ 40) : Fp Tryz.prog 68 [.sl (zs.map (V.int .i64)), .int .i64 z] (.int .i64 (Lib.idxOf zs z)) := by
  refine Fc.start (S := [6]) Tryz.func68 Tryz.ntmps68 Tryz.results68 rfl (by decide) rfl (by kernel_rfl) ?_
  simp (maxSteps := 1000000) (disch := omega) only [push_cast, go_sem, wpS_tt, wpS_tf, wpS_ft, wpS_ff, wpCond_tt, wpCond_ff, simprocAttr]
  refine Sat.loop (σ := Nat) (fun k => upd (upd (upd noT 0 (.sl (zs.map (V.int .i64)))) 1 (.int .i64 z)) 5 (.int .i64 k)) (fun _ => noM)
    (fun k => k ≤ zs.length ∧ Lib.idxOf zs z = Lib.idxFrom (zs.drop k) z k) (fun k => zs.length - k) 0 ⟨by omega, rfl⟩ ?_ ?_
  · (refine Less.start ?_; repeat (first | exact LessO.nil | exact LessO.all | refine LessO.skip (by decide) ?_ | refine LessO.upd ?_ ?_ | refine LessO.set ?_ ?_)) <;> (try simp (maxSteps := 1000000) (disch := omega) only [push_cast, go_sem, wpS_tt, wpS_tf, wpS_ft, wpS_ff, wpCond_tt, wpCond_ff, simprocAttr])
  rintro k ⟨hk, hc⟩ J hJ
  refine Sat.of (S := []) (by kernel_rfl) ?_
  rcases Nat.lt_or_ge k zs.length with hlt | hge
  · obtain ⟨y, hy⟩ : ∃ z, zs[k]? = some z := ⟨_, List.getElem?_eq_getElem hlt⟩
    rw [drop_get hy, Lib.idxFrom] at hc
    cases hyz : (y == z)
    · have hyz' : ¬ y = z := by simpa using hyz
      rw [if_neg hyz'] at hc
      simp (maxSteps := 1000000) (disch := omega) only [push_cast, go_sem, wpS_tt, wpS_tf, wpS_ft, wpS_ff, wpCond_tt, wpCond_ff, simprocAttr, hy, hlt, hyz]
      refine hJ (k + 1) _ _ ⟨by omega, hc⟩ (by omega) ?_
      (refine Less.start ?_; repeat (first | exact LessO.nil | exact LessO.all | refine LessO.skip (by decide) ?_ | refine LessO.upd ?_ ?_ | refine LessO.set ?_ ?_)) <;> (try simp (maxSteps := 1000000) (disch := omega) only [push_cast, go_sem, wpS_tt, wpS_tf, wpS_ft, wpS_ff, wpCond_tt, wpCond_ff, simprocAttr])
    · have hyz' : y = z := by simpa using hyz
      rw [if_pos hyz'] at hc
      simp (maxSteps := 1000000) (disch := omega) only [push_cast, go_sem, wpS_tt, wpS_tf, wpS_ft, wpS_ff, wpCond_tt, wpCond_ff, simprocAttr, hy, hlt, hyz]
      exact hc.symm
  · have : k = zs.length := by omega
    subst this
    rw [List.drop_length, Lib.idxFrom] at hc
    simp (maxSteps := 1000000) (disch := omega) only [push_cast, go_sem, wpS_tt, wpS_tf, wpS_ft, wpS_ff, wpCond_tt, wpCond_ff, simprocAttr]
    refine Sat.of (S := []) (by kernel_rfl) ?_
    simp (maxSteps := 1000000) (disch := omega) only [push_cast, go_sem, wpS_tt, wpS_tf, wpS_ft, wpS_ff, wpCond_tt, wpCond_ff, simprocAttr]
    exact hc.symm
end Go.Proofs.YtfdbminedccccaaGreatDoor
/-! ## Draws: a program and one way in which all may have been, mostly -/
namespace Go.Proofs.YtfdbminedccccaaGreatDoor
open Go.RowKit
set_option linter.unusedSimpArgs false
set_option linter.unusedVariables false
set_option pp.maxSteps 3000

/-- What is drawn: within these bounds. -/
structure Exe.few (x : Exe) : Prop where
  fr : x.fr.length ≤ 43
  od : x.od.length = 3
  row : ∀ r ∈ x.od, r.length ≤ 43
theorem modInts (l : List Int) (k : Nat) (z : Int) : (l.map (V.int .i64)).modify k (fun x => x.setC 0 (V.int .i64 z)) = (l.set k z).map (V.int .i64) := by
  apply List.ext_getElem?
  intro i
  rw [List.getElem?_modify, List.getElem?_map, List.getElem?_map, List.getElem?_set]
  by_cases h : k = i
  · subst h
    cases hl : l[k]? with
    | none => have := List.getElem?_eq_none_iff.1 hl; simp; omega
    | some a => have := (List.getElem?_eq_some_iff.1 hl).1; simp [this, V.setC]
  · simp [h]
theorem l71Exec_rd (bs : List Int) (hb : Bytes bs) (g p : Nat) (hp : p < 2 ^ 27) : Fr Tryz.prog 26 [] g (rdO bs g p)
    (fun r o' => ∃ (x : Prog) (y : Exe), r = .tuple [progV x, y.V] ∧ x.length ≤ 3 ∧ (∀ l ∈ x, l.length < 2 ^ 11) ∧ y.few ∧ ∃ q, p ≤ q ∧ q ≤ p + 2 ^ 22 ∧ o' = rdO bs g q) := by
  refine Fc.start (S := [4, 5, 2006]) Tryz.func26 Tryz.ntmps26 Tryz.results26 rfl (by decide) rfl (by kernel_rfl) ?_
  simp (maxSteps := 1000000) (disch := omega) only [push_cast, go_sem, wpS_tt, wpS_tf, wpS_ft, wpS_ff, wpCond_tt, wpCond_ff, simprocAttr]
  intro g2 g3
  refine callR.rd (l71Any_rd bs hb g p hp) rfl rfl rfl ?_
  rintro r o' ⟨x, rfl, hx1, hx2, q, hq1, hq2, rfl⟩
  simp (maxSteps := 1000000) (disch := omega) only [push_cast, go_sem, wpS_tt, wpS_tf, wpS_ft, wpS_ff, wpCond_tt, wpCond_ff, simprocAttr, progV_eq]
  intro g4
  refine callR.new (Q := fun r ob => ∃ (γ : Option Nat) (cap : Nat) (e : TypeId) (es : List RowE), es.map RowE.x = specAll x ∧ (∀ x ∈ es, x.γ' = none ∨ x.e = 26) ∧ (γ = none ∨ e = 29) ∧ r = .msl 100 [] γ es.length cap ∧ ob = .own e γ cap (es.map RowE.V))
    ((specExecAllO_fn x (by omega)).imp (by rintro r m ⟨γ, cap, e, es, h1, h2, h3, h4, rfl⟩; exact ⟨_, ⟨γ, cap, e, es, h1, h2, h3, h4, rfl⟩, rfl⟩)) rfl rfl ?_
  rintro r ob ⟨γ, cap, e, es, h1, h2, h3, rfl, rfl⟩
  have hel : es.length < 2 ^ 30 := by rw [← List.length_map (f := RowE.x), h1]; exact specAll_le x
  cases hes : ((es.length : Int) == 0)
  · simp (maxSteps := 1000000) (disch := omega) only [push_cast, go_sem, wpS_tt, wpS_tf, wpS_ft, wpS_ff, wpCond_tt, wpCond_ff, simprocAttr, hes]
    have hne : es ≠ [] := fun h => by subst h; simp at hes
    have hne0 : 0 < es.length := List.length_pos_iff.2 hne
    refine Sat.someG (o := 5) (e := e) (γ := γ) (cap := cap) (es := es.map RowE.V) rfl (by simpa using hne) ?_
    rintro g5 rfl
    have he : e = 29 := h3.resolve_left nofun
    subst he
    refine Sat.cutW 5 (σ := Nat × Nat) (fun s => upd (upd (upd (upd (upd (upd noT 0 (.ptr 0 [] 0 0 g 2)) 2 (.ptr 2 [] 0 0 g2 1)) 3 (.ptr 3 [] 0 0 g3 2)) 4 (.ptr 4 [] 0 0 g4 1)) 21 (.msl 5 [] (some g5) es.length cap)) 25 (.int .i64 s.1))
      (fun s => ((((noM.set 0 (rdO bs g s.2)).set 2 (.own 25 (some g2) 1 [.agg [.own 0 none 0 []]])).set 3 (.own 29 (some g3) 1 [.agg [.own 0 none 0 [], .own 0 none 0 []]])).set 4 (.own 25 (some g4) 1 [.agg [.sl (x.map thrV)]])).set 5 (.own 29 (some g5) cap (es.map RowE.V)))
      (fun s => s.1 < es.length ∧ s.2 = q + 1) (by kernel_rfl) ?_ ?_
    · simp (maxSteps := 1000000) (disch := omega) only [push_cast, go_sem, wpS_tt, wpS_tf, wpS_ft, wpS_ff, wpCond_tt, wpCond_ff, simprocAttr]
      refine callR.rd (pick_rd bs hb g q (by omega) es.length (by omega)) rfl rfl rfl ?_
      rintro r o' ⟨v, rfl, hv0, hv1, _, rfl⟩
      obtain ⟨v, rfl⟩ := Int.eq_ofNat_of_zero_le hv0
      simp (maxSteps := 1000000) (disch := omega) only [push_cast, go_sem, wpS_tt, wpS_tf, wpS_ft, wpS_ff, wpCond_tt, wpCond_ff, simprocAttr]
      refine ⟨(v, q + 1), ⟨by have := hv1 (by omega); dsimp only; omega, rfl⟩, ?_⟩
      (refine Less.start ?_; repeat (first | exact LessO.nil | exact LessO.all | refine LessO.skip (by decide) ?_ | refine LessO.upd ?_ ?_ | refine LessO.set ?_ ?_)) <;> (try simp (maxSteps := 1000000) (disch := omega) only [push_cast, go_sem, wpS_tt, wpS_tf, wpS_ft, wpS_ff, wpCond_tt, wpCond_ff, simprocAttr])
    rintro ⟨v, _⟩ ⟨hv, rfl⟩
    simp only at hv
    obtain ⟨y, hy⟩ : ∃ y, es[v]? = some y := ⟨_, List.getElem?_eq_getElem hv⟩
    refine SatW.lift 5 [] v 0 200 (n0 := .own 29 (some g5) cap (es.map RowE.V)) (e := 3) (γ := y.γ) (cap := y.c) (es := y.f.map (V.int .i64)) rfl ?_ rfl ?_
    · simp [V.cellAt, hy, RowE.V, V.cells]
    refine SatW.lift 5 [] v 1 201 (n0 := (V.own 29 (some g5) cap (es.map RowE.V)).setIJ v 0 (.msl 200 [] y.γ (y.f.map (V.int .i64)).length y.c)) (e := y.e) (γ := y.γ') (cap := y.c') (es := y.ws.map RowI.V) rfl ?_ rfl ?_
    · simp [V.setIJ, V.setC, V.cellAt, hy, RowE.V, V.cells]
    obtain ⟨zs, hzl, hz, hzm⟩ : ∃ zs : List V, zs.length = es.length ∧ zs[v]? = some (.agg [.msl 200 [] y.γ y.f.length y.c, .msl 201 [] y.γ' y.ws.length y.c']) ∧
        ((V.own 29 (some g5) cap (es.map RowE.V)).setIJ v 0 (.msl 200 [] y.γ (y.f.map (V.int .i64)).length y.c)).setIJ v 1 (.msl 201 [] y.γ' (y.ws.map RowI.V).length y.c') = .own 29 (some g5) cap zs := by
      refine ⟨_, ?_, ?_, rfl⟩
      · simp
      · simp [hy, RowE.V, V.setC]
    have hmem := specAll_small (p := x) (y := y.x) (by rw [← h1]; exact List.mem_map.2 ⟨y, List.mem_of_getElem? hy, rfl⟩)
    have hye := h2 y (List.mem_of_getElem? hy)
    refine SatW.less (T := upd (upd (upd (upd (upd (upd noT 0 (.ptr 0 [] 0 0 g 2)) 2 (.ptr 2 [] 0 0 g2 1)) 3 (.ptr 3 [] 0 0 g3 2)) 4 (.ptr 4 [] 0 0 g4 1)) 21 (.msl 5 [] (some g5) es.length cap)) 25 (.int .i64 v))
      (Mm := ((((((noM.set 0 (rdO bs g (q + 1))).set 2 (.own 25 (some g2) 1 [.agg [.own 0 none 0 []]])).set 3 (.own 29 (some g3) 1 [.agg [.own 0 none 0 [], .own 0 none 0 []]])).set 4 (.own 25 (some g4) 1 [.agg [.sl (x.map thrV)]])).set 5 (.own 29 (some g5) cap zs)).set 200 (.own 3 y.γ y.c (y.f.map (V.int .i64)))).set 201 (.own y.e y.γ' y.c' (y.ws.map RowI.V))) ?_ ?_
    rotate_left
    · rw [← hzm]
      (refine Less.start ?_; repeat (first | exact LessO.nil | exact LessO.all | refine LessO.skip (by decide) ?_ | refine LessO.upd ?_ ?_ | refine LessO.set ?_ ?_)) <;> (try simp (maxSteps := 1000000) (disch := omega) only [push_cast, go_sem, wpS_tt, wpS_tf, wpS_ft, wpS_ff, wpCond_tt, wpCond_ff, simprocAttr])
      rfl
    refine SatW.of (by kernel_rfl) (fun o h => List.mem_of_mem_drop h) ?_
    simp (maxSteps := 1000000) (disch := omega) only [push_cast, go_sem, wpS_tt, wpS_tf, wpS_ft, wpS_ff, wpCond_tt, wpCond_ff, simprocAttr, hz, hv, hzl]
    intro g6
    refine Sat.of (S := [2006]) (by kernel_rfl) ?_
    simp (maxSteps := 1000000) (disch := omega) only [push_cast, go_sem, wpS_tt, wpS_tf, wpS_ft, wpS_ff, wpCond_tt, wpCond_ff, simprocAttr]
    obtain ⟨hm1, hm2, hm3⟩ := hmem
    refine Sat.cut (σ := RowE × Nat) [] (fun s => upd (upd (upd (upd (upd noT 0 (.ptr 0 [] 0 0 g 2)) 2 (.ptr 2 [] 0 0 g2 1)) 3 (.ptr 3 [] 0 0 g3 2)) 4 (.ptr 4 [] 0 0 g4 1)) 6 (.ptr 6 [] 0 0 g6 2))
      (fun s => ((((noM.set 0 (rdO bs g s.2)).set 2 (.own 25 (some g2) 1 [.agg [.own 0 none 0 []]])).set 3 (.own 29 (some g3) 1 [.agg [.own 0 none 0 [], .own 0 none 0 []]])).set 4 (.own 25 (some g4) 1 [.agg [.sl (x.map thrV)]])).set 6 (.own 29 (some g6) 1 [.agg [.own 3 s.1.γ s.1.c (s.1.f.map (V.int .i64)), .own s.1.e s.1.γ' s.1.c' (s.1.ws.map RowI.V)]]))
      (fun s => s.1.x.few ∧ q ≤ s.2 ∧ s.2 ≤ q + 10) (by kernel_rfl) ?_ ?_
    · simp (maxSteps := 1000000) (disch := omega) only [push_cast, go_sem, wpS_tt, wpS_tf, wpS_ft, wpS_ff, wpCond_tt, wpCond_ff, simprocAttr]
      refine callR.rd (pick_rd bs hb g (q + 1) (by omega) 12 (by omega)) rfl rfl rfl ?_
      rintro r o' ⟨k, rfl, hk0, hk1, _, rfl⟩
      simp (maxSteps := 1000000) (disch := omega) only [push_cast, go_sem, wpS_tt, wpS_tf, wpS_ft, wpS_ff, wpCond_tt, wpCond_ff, simprocAttr]
      have hyl : y.ws.length = 3 := by have := hm2; simpa [RowE.x] using this
      have few0 : ∀ {t' : Nat → V} {M' : Mem}, _ → _ := fun {t'} {M'} h => (⟨(y, q + 1 + 1), ⟨⟨Nat.le_succ_of_le hm1, hm2, fun r hr => Nat.le_succ_of_le (hm3 r hr)⟩, by dsimp only; omega, by dsimp only; omega⟩, h⟩ : ∃ s : RowE × Nat, (s.1.x.few ∧ q ≤ s.2 ∧ s.2 ≤ q + 10) ∧ Less (upd (upd (upd (upd (upd noT 0 (.ptr 0 [] 0 0 g 2)) 2 (.ptr 2 [] 0 0 g2 1)) 3 (.ptr 3 [] 0 0 g3 2)) 4 (.ptr 4 [] 0 0 g4 1)) 6 (.ptr 6 [] 0 0 g6 2)) t'
        (((((noM.set 0 (rdO bs g s.2)).set 2 (.own 25 (some g2) 1 [.agg [.own 0 none 0 []]])).set 3 (.own 29 (some g3) 1 [.agg [.own 0 none 0 [], .own 0 none 0 []]])).set 4 (.own 25 (some g4) 1 [.agg [.sl (x.map thrV)]])).set 6 (.own 29 (some g6) 1 [.agg [.own 3 s.1.γ s.1.c (s.1.f.map (V.int .i64)), .own s.1.e s.1.γ' s.1.c' (s.1.ws.map RowI.V)]])) M')
      refine ⟨fun hk => ⟨fun hn => ?_, fun hn => ?_⟩, fun hk => ⟨fun hk1 => ?_, fun hk1 => ⟨fun hk2 => ?_, fun hk2 => ?_⟩⟩⟩
      · have hf0 : 0 < y.f.length := by omega
        have hf1 : y.f.length ≤ 42 := hm1
        refine Sat.someP (o := 6) (q := [(0, 0)]) (e := 3) (γ := y.γ) (cap := y.c) (es := y.f.map (V.int .i64)) rfl (fun h => by have := congrArg List.length h; simp at this; rw [this] at hf0; simp at hf0) ?_
        intro g7 hg7
        refine Sat.drawnE [(1, 6), (1, 8)] [] [1, 4] (rdTab bs g [(40, 1, pickQ)] []) (by kernel_rfl) (by kernel_rfl) ?_
        simp (maxSteps := 1000000) (disch := omega) only [push_cast, go_sem, wpS_tt, wpS_tf, wpS_ft, wpS_ff, wpCond_tt, wpCond_ff, simprocAttr, hg7]
        refine runD_pl (pick_pl bs hb g (q + 1 + 1) (by omega) y.f.length (by omega)) rfl rfl rfl rfl pickQ_ne ?_ ?_
        · rfl
        rintro r q3 hq5 hq6 ⟨n', v2, hn', rfl, hv2⟩
        cases hn'
        have hv21 := hv2.2.1 (by omega)
        obtain ⟨v2, rfl⟩ := Int.eq_ofNat_of_zero_le hv2.1
        simp (maxSteps := 1000000) (disch := omega) only [push_cast, go_sem, wpS_tt, wpS_tf, wpS_ft, wpS_ff, wpCond_tt, wpCond_ff, simprocAttr, hg7]
        refine runD_pl (pick_pl bs hb g q3 (by omega) 7 (by omega)) rfl rfl rfl rfl pickQ_ne ?_ ?_
        · rfl
        rintro r q4 hq7 hq8 ⟨n', v3, hn', rfl, hv3⟩
        cases hn'
        have hv31 := hv3.2.1 (by omega)
        have hv30 := hv3.1
        obtain ⟨a, ha⟩ : ∃ a, y.f[v2]? = some a := ⟨_, List.getElem?_eq_getElem (by omega)⟩
        simp (maxSteps := 1000000) (disch := omega) only [push_cast, go_sem, wpS_tt, wpS_tf, wpS_ft, wpS_ff, wpCond_tt, wpCond_ff, simprocAttr, hg7, ha]
        refine ⟨by omega, ({ y with f := y.f.set v2 (v3 - 3) }, q4), ⟨⟨by simp [RowE.x]; omega, hm2, fun r hr => by have := hm3 r hr; omega⟩, by dsimp only; omega, by dsimp only; omega⟩, ?_⟩
        (refine Less.start ?_; repeat (first | exact LessO.nil | exact LessO.all | refine LessO.skip (by decide) ?_ | refine LessO.upd ?_ ?_ | refine LessO.set ?_ ?_)) <;> (try simp (maxSteps := 1000000) (disch := omega) only [push_cast, go_sem, wpS_tt, wpS_tf, wpS_ft, wpS_ff, wpCond_tt, wpCond_ff, simprocAttr])
        rw [modInts, hg7]
      · exact few0 (by (refine Less.start ?_; repeat (first | exact LessO.nil | exact LessO.all | refine LessO.skip (by decide) ?_ | refine LessO.upd ?_ ?_ | refine LessO.set ?_ ?_)) <;> (try simp (maxSteps := 1000000) (disch := omega) only [push_cast, go_sem, wpS_tt, wpS_tf, wpS_ft, wpS_ff, wpCond_tt, wpCond_ff, simprocAttr]))
      · obtain ⟨r0, ws, hws⟩ : ∃ r0 ws, y.ws = r0 :: ws := by
          cases h : y.ws with
          | nil => rw [h] at hyl; cases hyl
          | cons a l => exact ⟨a, l, rfl⟩
        refine Sat.someP (o := 6) (q := [(0, 1)]) (e := y.e) (γ := y.γ') (cap := y.c') (es := y.ws.map RowI.V) rfl (by rw [hws]; nofun) ?_
        intro g7 hg7
        have hye' : y.e = 26 := hye.resolve_left (by rw [hg7]; nofun)
        refine Sat.drawnE [(1, 6), (3, 6), (5, 6)] [(1, 7)] [1, 3, 5] (fun _ _ _ => none) (by kernel_rfl) (by kernel_rfl) ?_
        simp (maxSteps := 1000000) (disch := omega) only [push_cast, go_sem, wpS_tt, wpS_tf, wpS_ft, wpS_ff, wpCond_tt, wpCond_ff, simprocAttr, hg7, hye', hws, RowI.V_eq]
        refine ⟨by omega, ?_⟩
        intro g8
        have hr0 : r0.l.length ≤ 42 := hm3 r0.l (by simp [RowE.x, hws])
        refine ⟨by omega, fun γ8 c8 _ => ⟨by omega, ({ y with ws := ⟨γ8, c8, r0.l ++ [0]⟩ :: ws }, q + 1 + 1), ⟨⟨Nat.le_succ_of_le hm1, ?_, ?_⟩, by dsimp only; omega, by dsimp only; omega⟩, ?_⟩⟩
        · rw [hws] at hyl; simpa [RowE.x] using hyl
        · intro r hr
          simp only [RowE.x, List.map_cons, List.mem_cons] at hr
          rcases hr with rfl | hr
          · simp; omega
          · have := hm3 r (by simp only [RowE.x, hws, List.map_cons, List.mem_cons]; exact .inr hr); omega
        · (refine Less.start ?_; repeat (first | exact LessO.nil | exact LessO.all | refine LessO.skip (by decide) ?_ | refine LessO.upd ?_ ?_ | refine LessO.set ?_ ?_)) <;> (try simp (maxSteps := 1000000) (disch := omega) only [push_cast, go_sem, wpS_tt, wpS_tf, wpS_ft, wpS_ff, wpCond_tt, wpCond_ff, simprocAttr])
          all_goals simp [RowI.V, hg7, hye']
      · intro g8
        have hm1' : y.f.length ≤ 42 := hm1
        refine ⟨by omega, fun γ8 c8 _ => ?_⟩
        refine ⟨({ y with γ := γ8, c := c8, f := y.f ++ [-2] }, q + 1 + 1), ⟨⟨by simp [RowE.x]; omega, hm2, fun r hr => by have := hm3 r hr; omega⟩, by dsimp only; omega, by dsimp only; omega⟩, ?_⟩
        (refine Less.start ?_; repeat (first | exact LessO.nil | exact LessO.all | refine LessO.skip (by decide) ?_ | refine LessO.upd ?_ ?_ | refine LessO.set ?_ ?_)) <;> (try simp (maxSteps := 1000000) (disch := omega) only [push_cast, go_sem, wpS_tt, wpS_tf, wpS_ft, wpS_ff, wpCond_tt, wpCond_ff, simprocAttr])
        all_goals simp
      · exact few0 (by (refine Less.start ?_; repeat (first | exact LessO.nil | exact LessO.all | refine LessO.skip (by decide) ?_ | refine LessO.upd ?_ ?_ | refine LessO.set ?_ ?_)) <;> (try simp (maxSteps := 1000000) (disch := omega) only [push_cast, go_sem, wpS_tt, wpS_tf, wpS_ft, wpS_ff, wpCond_tt, wpCond_ff, simprocAttr]))
    · rintro ⟨z, q2⟩ ⟨hz2, hq3, hq4⟩
      dsimp only at hz2 hq3 hq4 ⊢
      refine Sat.freezeC 6 [] 0 0 (n0 := .own 29 (some g6) 1 [.agg [.own 3 z.γ z.c (z.f.map (V.int .i64)), .own z.e z.γ' z.c' (z.ws.map RowI.V)]]) (d := .own 3 z.γ z.c (z.f.map (V.int .i64))) rfl rfl rfl ?_
      refine Sat.freezeC 6 [] 0 1 (n0 := .own 29 (some g6) 1 [.agg [(V.own 3 z.γ z.c (z.f.map (V.int .i64))).fz, .own z.e z.γ' z.c' (z.ws.map RowI.V)]]) (d := .own z.e z.γ' z.c' (z.ws.map RowI.V)) rfl rfl rfl ?_
      have e1 : (V.own 3 z.γ z.c (z.f.map (V.int .i64))).fz = .sl (z.f.map (V.int .i64)) := by simp only [V.fz, fzs_map, fzs_int]
      have e2 : (V.own z.e z.γ' z.c' (z.ws.map RowI.V)).fz = .sl (z.x.od.map intsV) := by simp only [V.fz, fzs_map, fz_rowsI, RowE.x]
      rw [e1, e2]
      refine Sat.of (S := []) (by kernel_rfl) ?_
      simp (maxSteps := 1000000) (disch := omega) only [push_cast, go_sem, wpS_tt, wpS_tf, wpS_ft, wpS_ff, wpCond_tt, wpCond_ff, simprocAttr]
      refine Sat.drawnE [(1, 2)] [] [0, 1] (fun _ _ _ => none) (by kernel_rfl) (by kernel_rfl) ?_
      simp (maxSteps := 1000000) (disch := omega) only [push_cast, go_sem, wpS_tt, wpS_tf, wpS_ft, wpS_ff, wpCond_tt, wpCond_ff, simprocAttr]
      refine ⟨_, ?_, _, ⟨x, z.x, by rw [Exe.V_eq]; rfl, hx1, hx2, hz2, q2, by omega, by omega, rfl⟩, rfl⟩
      ((repeat (first | exact Sub.no | refine Sub.set ?_ ?_)) <;> (try simp (disch := omega) only [push_cast, go_sem, wpS_tt, wpS_tf, wpS_ft, wpS_ff, wpCond_tt, wpCond_ff, simprocAttr]))
  · simp (maxSteps := 1000000) (disch := omega) only [push_cast, go_sem, wpS_tt, wpS_tf, wpS_ft, wpS_ff, wpCond_tt, wpCond_ff, simprocAttr, hes]
    have he0 : es = [] := by simpa using hes
    refine Sat.cut (σ := Nat × Nat × Nat × Nat × Nat) [] (fun s => upd (upd noT 2 (.ptr 2 [] 0 0 g2 1)) 3 (.ptr 3 [] 0 0 g3 2))
      (fun s => ((noM.set 0 (rdO bs g q)).set 2 (.own 25 (some g2) 1 [.agg [.sl (x.map thrV)]])).set 3 (.own 29 (some g3) 1 [.agg [.own 3 (some s.1) 1 [.int .i64 (-2)], .own 26 (some s.2.1) 3 [.own 3 (some s.2.2.1) 0 [], .own 3 (some s.2.2.2.1) 0 [], .own 3 (some s.2.2.2.2) 0 []]]]))
      (fun _ => True) (by kernel_rfl) ?_ ?_
    · simp (maxSteps := 1000000) (disch := omega) only [push_cast, go_sem, wpS_tt, wpS_tf, wpS_ft, wpS_ff, wpCond_tt, wpCond_ff, simprocAttr]
      intro a1 a2 a3 a4 a5
      refine ⟨(a1, a5, a2, a3, a4), ?_⟩
      (refine Less.start ?_; repeat (first | exact LessO.nil | exact LessO.all | refine LessO.skip (by decide) ?_ | refine LessO.upd ?_ ?_ | refine LessO.set ?_ ?_)) <;> (try simp (maxSteps := 1000000) (disch := omega) only [push_cast, go_sem, wpS_tt, wpS_tf, wpS_ft, wpS_ff, wpCond_tt, wpCond_ff, simprocAttr])
    · rintro ⟨a1, a2, a3, a4, a5⟩ _
      dsimp only
      refine Sat.freezeC 3 [] 0 0 (n0 := .own 29 (some g3) 1 [.agg [.own 3 (some a1) 1 [.int .i64 (-2)], .own 26 (some a2) 3 [.own 3 (some a3) 0 [], .own 3 (some a4) 0 [], .own 3 (some a5) 0 []]]]) (d := .own 3 (some a1) 1 [.int .i64 (-2)]) rfl rfl rfl ?_
      refine Sat.freezeC 3 [] 0 1 (n0 := .own 29 (some g3) 1 [.agg [.sl [.int .i64 (-2)], .own 26 (some a2) 3 [.own 3 (some a3) 0 [], .own 3 (some a4) 0 [], .own 3 (some a5) 0 []]]]) (d := .own 26 (some a2) 3 [.own 3 (some a3) 0 [], .own 3 (some a4) 0 [], .own 3 (some a5) 0 []]) rfl rfl rfl ?_
      refine Sat.of (S := []) (by kernel_rfl) ?_
      simp (maxSteps := 1000000) (disch := omega) only [push_cast, go_sem, wpS_tt, wpS_tf, wpS_ft, wpS_ff, wpCond_tt, wpCond_ff, simprocAttr, V.fz, V.fz.fzs]
      refine ⟨_, ?_, _, ⟨x, ⟨[-2], [[], [], []]⟩, rfl, hx1, hx2, ⟨by simp, rfl, by simp⟩, q, hq1, by omega, rfl⟩, rfl⟩
      ((repeat (first | exact Sub.no | refine Sub.set ?_ ?_)) <;> (try simp (disch := omega) only [push_cast, go_sem, wpS_tt, wpS_tf, wpS_ft, wpS_ff, wpCond_tt, wpCond_ff, simprocAttr]))
end Go.Proofs.YtfdbminedccccaaGreatDoor
/-! ## What the reference looks at: made -/
namespace Go.Proofs.YtfdbminedccccaaGreatDoor
open Go.RowKit
set_option linter.unusedSimpArgs false
set_option linter.unusedVariables false
set_option pp.maxSteps 3000

@[push_cast] theorem fzs_bool {α : Type} (f : α → Bool) (l : List α) : (l.map fun d => V.bool (f d)).map V.fz = l.map fun d => V.bool (f d) := by rw [List.map_map]; exact List.map_congr_left fun d _ => rfl
@[push_cast] theorem flatL_bool {α : Type} (f : α → Bool) (l : List α) : flatL (l.map fun d => V.bool (f d)) = true := by simp [flatL, V.cells, V.flatC]
theorem rds_take (p : Prog) (f : Do → Bool) {k : Nat} {d : Do} (h : (scene p).ds[k]? = some d) : ((scene p).ds.take (k + 1)).map (fun d => V.bool (f d)) = ((scene p).ds.take k).map (fun d => V.bool (f d)) ++ [.bool (f d)] := by
  rw [take_get h, List.map_append]; rfl
theorem olook_fn (p : Prog) (hp : p.length < 2 ^ 40) (hok : progOk p = true) : Fc Tryz.prog 33 [progV p] noM (fun r m => ∃ ob, (∃ g, r = .ptr 100 [] 0 0 g 6 ∧ ob = ordV p g (rdsV p) (wrtV p) (.own 0 none 0 []) (.own 0 none 0 [])) ∧ m = noM.set 100 ob) := by
  have hel := events_le hok
  have hsl : (scene p).ds.length = (events p).length := by simp [scene]
  have hev := specExecEvents_fn p hp
  rw [hok, if_pos rfl] at hev
  refine Fc.rekeyP (R' := fun r m => ∃ g, r = .ptr 2 [] 0 0 g 6 ∧ m = noM.set 2 (ordV p g (rdsV p) (wrtV p) (.own 0 none 0 []) (.own 0 none 0 []))) ?_ ?_
  rotate_left
  · rintro r m ⟨g, rfl, rfl⟩
    exact ⟨2, g, 6, _, rfl, rfl, _, ⟨g, rfl, rfl⟩, era_set rfl⟩
  rw [progV_eq] at hev
  refine Fc.start (S := [7]) Tryz.func33 Tryz.ntmps33 Tryz.results33 rfl (by decide) rfl (by kernel_rfl) ?_
  simp (maxSteps := 1000000) (disch := omega) only [push_cast, go_sem, wpS_tt, wpS_tf, wpS_ft, wpS_ff, wpCond_tt, wpCond_ff, simprocAttr, progV_eq]
  intro g1
  refine Sat.drawnE [] [] [0, 1, 2] (pureT [(62, .sl ((events p).map Evt.V))]) (by kernel_rfl) (by kernel_rfl) ?_
  simp (maxSteps := 1000000) (disch := omega) only [push_cast, go_sem, wpS_tt, wpS_tf, wpS_ft, wpS_ff, wpCond_tt, wpCond_ff, simprocAttr]
  refine runD_pure rfl hev rfl rfl ?_ ?_
  · rfl
  simp (maxSteps := 1000000) (disch := omega) only [push_cast, go_sem, wpS_tt, wpS_tf, wpS_ft, wpS_ff, wpCond_tt, wpCond_ff, simprocAttr]
  intro g3
  refine Sat.loop (σ := Nat × Rw × Rw) (fun x => upd (upd noT 3 (.ptr 3 [] 0 0 g3 6)) 4 (.int .i64 x.1)) (fun x => noM.set 3 (.own 74 (some g3) 1 [.agg [.sl (p.map thrV), .sl ((events p).map Evt.V), .own x.2.1.e x.2.1.γ x.2.1.c (((scene p).ds.take x.1).map fun d => .bool d.reads), .own x.2.2.e x.2.2.γ x.2.2.c (((scene p).ds.take x.1).map fun d => .bool d.writes), .own 0 none 0 [], .own 0 none 0 []]]))
    (fun x => x.1 ≤ (events p).length ∧ (x.2.1.γ = none ∨ x.2.1.e = 4) ∧ (x.2.2.γ = none ∨ x.2.2.e = 4)) (fun x => (events p).length - x.1) (0, ⟨0, none, 0⟩, ⟨0, none, 0⟩) ⟨by omega, .inl rfl, .inl rfl⟩ ?_ ?_
  · (refine Less.start ?_; repeat (first | exact LessO.nil | exact LessO.all | refine LessO.skip (by decide) ?_ | refine LessO.upd ?_ ?_ | refine LessO.set ?_ ?_)) <;> (try simp (maxSteps := 1000000) (disch := omega) only [push_cast, go_sem, wpS_tt, wpS_tf, wpS_ft, wpS_ff, wpCond_tt, wpCond_ff, simprocAttr])
    all_goals simp
  rintro ⟨k, ⟨e1, γ1, c1⟩, ⟨e2, γ2, c2⟩⟩ ⟨hk, hγ1, hγ2⟩ J hJ
  simp only at hk hγ1 hγ2 hJ
  have hγ1' : (γ1 = none ∨ e1 = 4) = True := by simp only [hγ1]
  have hγ2' : (γ2 = none ∨ e2 = 4) = True := by simp only [hγ2]
  refine Sat.of (S := []) (by kernel_rfl) ?_
  rcases Nat.lt_or_ge k (events p).length with hlt | hge
  · obtain ⟨ek, hek⟩ : ∃ e, (events p)[k]? = some e := ⟨_, List.getElem?_eq_getElem hlt⟩
    have hdk : (scene p).ds[k]? = some (dsA p k) := by rw [dsA, scene_get hek]; rfl
    have htl : ((scene p).ds.take k).length = k := by rw [List.length_take]; omega
    have h1 := odo_fn p g3 (.own e1 γ1 c1 (((scene p).ds.take k).map fun d => .bool d.reads)) (.own e2 γ2 c2 (((scene p).ds.take k).map fun d => .bool d.writes)) (.own 0 none 0 []) (.own 0 none 0 []) k hlt
    rw [ordV_eq, Do.V_eq] at h1
    have hr := l1Reads_fn (dsA p k)
    have hw := l1Writes_fn (dsA p k)
    rw [Do.V_eq] at hr hw
    simp (maxSteps := 1000000) (disch := omega) only [push_cast, go_sem, wpS_tt, wpS_tf, wpS_ft, wpS_ff, wpCond_tt, wpCond_ff, simprocAttr, hlt]
    refine Sat.drawnE [(4, 9)] [] [4, 7, 8] (lookT (.own 74 (some g3) 1 [.agg [.sl (p.map thrV), .sl ((events p).map Evt.V), .own e1 γ1 c1 (((scene p).ds.take k).map fun d => .bool d.reads), .own e2 γ2 c2 (((scene p).ds.take k).map fun d => .bool d.writes), .own 0 none 0 [], .own 0 none 0 []]]) [(65, .bool (dsA p k).reads)] [(66, (dsA p k).V)]) (by kernel_rfl) (by kernel_rfl) ?_
    simp (maxSteps := 1000000) (disch := omega) only [push_cast, go_sem, wpS_tt, wpS_tf, wpS_ft, wpS_ff, wpCond_tt, wpCond_ff, simprocAttr]
    refine runD_look h1 rfl rfl rfl rfl rfl ?_ ?_
    · rfl
    simp (maxSteps := 1000000) (disch := omega) only [push_cast, go_sem, wpS_tt, wpS_tf, wpS_ft, wpS_ff, wpCond_tt, wpCond_ff, simprocAttr, Do.V_eq]
    refine runD_pure rfl hr rfl rfl ?_ ?_
    · rfl
    simp (maxSteps := 1000000) (disch := omega) only [push_cast, go_sem, wpS_tt, wpS_tf, wpS_ft, wpS_ff, wpCond_tt, wpCond_ff, simprocAttr, hγ1', htl]
    intro g28
    refine ⟨by omega, fun γ3 c3 _ => ?_⟩
    have h2 := odo_fn p g3 (.own 4 γ3 c3 (((scene p).ds.take (k + 1)).map fun d => .bool d.reads)) (.own e2 γ2 c2 (((scene p).ds.take k).map fun d => .bool d.writes)) (.own 0 none 0 []) (.own 0 none 0 []) k hlt
    rw [rds_take p Do.reads hdk, ordV_eq, Do.V_eq] at h2
    refine Sat.drawnE [(4, 9)] [] [4, 7, 8] (lookT (.own 74 (some g3) 1 [.agg [.sl (p.map thrV), .sl ((events p).map Evt.V), .own 4 γ3 c3 ((((scene p).ds.take k).map fun d => .bool d.reads) ++ [.bool (dsA p k).reads]), .own e2 γ2 c2 (((scene p).ds.take k).map fun d => .bool d.writes), .own 0 none 0 [], .own 0 none 0 []]]) [(67, .bool (dsA p k).writes)] [(66, (dsA p k).V)]) (by kernel_rfl) (by kernel_rfl) ?_
    simp (maxSteps := 1000000) (disch := omega) only [push_cast, go_sem, wpS_tt, wpS_tf, wpS_ft, wpS_ff, wpCond_tt, wpCond_ff, simprocAttr]
    refine runD_look h2 rfl rfl rfl rfl rfl ?_ ?_
    · rfl
    simp (maxSteps := 1000000) (disch := omega) only [push_cast, go_sem, wpS_tt, wpS_tf, wpS_ft, wpS_ff, wpCond_tt, wpCond_ff, simprocAttr, Do.V_eq]
    refine runD_pure rfl hw rfl rfl ?_ ?_
    · rfl
    simp (maxSteps := 1000000) (disch := omega) only [push_cast, go_sem, wpS_tt, wpS_tf, wpS_ft, wpS_ff, wpCond_tt, wpCond_ff, simprocAttr, hγ2', htl]
    intro g41
    refine ⟨by omega, fun γ4 c4 _ => ?_⟩
    refine hJ (k + 1, ⟨4, γ3, c3⟩, ⟨4, γ4, c4⟩) _ _ ⟨by dsimp only; omega, .inr rfl, .inr rfl⟩ (by dsimp only; omega) ?_
    dsimp only
    rw [rds_take p Do.reads hdk, rds_take p Do.writes hdk]
    (refine Less.start ?_; repeat (first | exact LessO.nil | exact LessO.all | refine LessO.skip (by decide) ?_ | refine LessO.upd ?_ ?_ | refine LessO.set ?_ ?_)) <;> (try simp (maxSteps := 1000000) (disch := omega) only [push_cast, go_sem, wpS_tt, wpS_tf, wpS_ft, wpS_ff, wpCond_tt, wpCond_ff, simprocAttr])
  · have : k = (events p).length := by omega
    subst this
    simp (maxSteps := 1000000) (disch := omega) only [push_cast, go_sem, wpS_tt, wpS_tf, wpS_ft, wpS_ff, wpCond_tt, wpCond_ff, simprocAttr]
    refine Sat.freezeC 3 [] 0 2 (n0 := .own 74 (some g3) 1 [.agg [.sl (p.map thrV), .sl ((events p).map Evt.V), .own e1 γ1 c1 (((scene p).ds.take (events p).length).map fun d => .bool d.reads), .own e2 γ2 c2 (((scene p).ds.take (events p).length).map fun d => .bool d.writes), .own 0 none 0 [], .own 0 none 0 []]]) (d := .own e1 γ1 c1 (((scene p).ds.take (events p).length).map fun d => .bool d.reads)) rfl rfl rfl ?_
    have f1 : (V.own e1 γ1 c1 (((scene p).ds.take (events p).length).map fun d => .bool d.reads)).fz = rdsV p := by rw [← hsl, List.take_length]; simp only [V.fz, fzs_map, fzs_bool, rdsV]
    have f2 : (V.own e2 γ2 c2 (((scene p).ds.take (events p).length).map fun d => .bool d.writes)).fz = wrtV p := by rw [← hsl, List.take_length]; simp only [V.fz, fzs_map, fzs_bool, wrtV]
    rw [f1]
    refine Sat.freezeC 3 [] 0 3 (n0 := .own 74 (some g3) 1 [.agg [.sl (p.map thrV), .sl ((events p).map Evt.V), rdsV p, .own e2 γ2 c2 (((scene p).ds.take (events p).length).map fun d => .bool d.writes), .own 0 none 0 [], .own 0 none 0 []]]) (d := .own e2 γ2 c2 (((scene p).ds.take (events p).length).map fun d => .bool d.writes)) rfl rfl rfl ?_
    rw [f2]
    refine Sat.of (S := []) (by kernel_rfl) ?_
    simp (maxSteps := 1000000) (disch := omega) only [push_cast, go_sem, wpS_tt, wpS_tf, wpS_ft, wpS_ff, wpCond_tt, wpCond_ff, simprocAttr, rdsV_eq, wrtV_eq]
    refine ⟨_, ?_, g3, rfl, rfl⟩
    rw [ordV_eq]
    ((repeat (first | exact Sub.no | refine Sub.set ?_ ?_)) <;> (try simp (disch := omega) only [push_cast, go_sem, wpS_tt, wpS_tf, wpS_ft, wpS_ff, wpCond_tt, wpCond_ff, simprocAttr]))
/-- The ranks of the first k events, noughts behind. -/
def rnk (p : Prog) (x : Exe) (k : Nat) : List Int := (List.range (events p).length).map fun i => if i < k then rankS p x i else 0
theorem rnk_zero (p : Prog) (x : Exe) : rnk p x 0 = List.replicate (events p).length 0 := by
  rw [rnk, List.eq_replicate_iff]
  exact ⟨by simp, fun b hb => by simp at hb; exact hb.2.symm⟩
theorem rnk_all (p : Prog) (x : Exe) : rnk p x (events p).length = (List.range (events p).length).map (rankS p x) := by
  rw [rnk]
  exact List.map_congr_left fun i hi => if_pos (List.mem_range.1 hi)
theorem rnk_succ (p : Prog) (x : Exe) (k : Nat) : rnk p x (k + 1) = (rnk p x k).set k (rankS p x k) := by
  apply List.ext_getElem?
  intro i
  rw [rnk, rnk, List.getElem?_set, List.getElem?_map, List.getElem?_map, List.length_map, List.length_range]
  by_cases hi : i < (events p).length
  · rw [List.getElem?_range hi]
    by_cases hk : k = i
    · subst hk; simp [hi]
    · have e : i < k + 1 ↔ i < k := by omega
      simp [hk, e]
  · have : (List.range (events p).length)[i]? = none := by simp; omega
    rw [this]
    by_cases hk : k = i
    · subst hk; simp [hi]
    · simp [hk]
theorem rnk_same (p : Prog) (x : Exe) {k : Nat} (h : rankS p x k = 0) : rnk p x (k + 1) = rnk p x k := by
  rw [rnk, rnk]
  refine List.map_congr_left fun i hi => ?_
  by_cases hk : i = k
  · subst hk; simp [h]
  · have e : i < k + 1 ↔ i < k := by omega
    simp [e]
theorem oway_fn (p : Prog) (x : Exe) (g : Nat) (hok : progOk p = true) (hf : x.fr.length = (events p).length) (ho : x.od.length = 3) (hrow : ∀ r ∈ x.od, r.length < 2 ^ 40) :
    Fc Tryz.prog 34 [.ptr 0 [] 0 0 g 6, x.V] (noM.set 0 (ordV p g (rdsV p) (wrtV p) (.own 0 none 0 []) (.own 0 none 0 [])))
      (fun r m => ∃ ob, (∃ gr, r = .tuple [] ∧ ob = ordV p g (rdsV p) (wrtV p) (.sl (x.fr.map (V.int .i64))) (.own 3 (some gr) (events p).length (((List.range (events p).length).map (rankS p x)).map (V.int .i64)))) ∧ m = noM.set 0 ob) := by
  have hel := events_le hok
  have hsl : (scene p).ds.length = (events p).length := by simp [scene]
  refine Fc.start (S := []) Tryz.func34 Tryz.ntmps34 Tryz.results34 rfl (by decide) rfl (by kernel_rfl) ?_
  simp (maxSteps := 1000000) (disch := omega) only [push_cast, go_sem, wpS_tt, wpS_tf, wpS_ft, wpS_ff, wpCond_tt, wpCond_ff, simprocAttr, Exe.V_eq, ordV_eq, rdsV_eq, wrtV_eq, List.length_replicate]
  intro g3
  refine ⟨by omega, fun gr => ?_⟩
  refine Sat.loop (σ := Nat) (fun k => upd (upd (upd noT 0 (.ptr 0 [] 0 0 g 6)) 3 (.ptr 3 [] 0 0 g3 2)) 4 (.int .i64 k))
    (fun k => (noM.set 0 (.own 74 (some g) 1 [.agg [.sl (p.map thrV), .sl ((events p).map Evt.V), .sl ((scene p).ds.map fun d => .bool d.reads), .sl ((scene p).ds.map fun d => .bool d.writes), .sl (x.fr.map (V.int .i64)), .own 3 (some gr) (events p).length ((rnk p x k).map (V.int .i64))]])).set 3 (.own 29 (some g3) 1 [.agg [.sl (x.fr.map (V.int .i64)), .sl (x.od.map intsV)]]))
    (fun k => k ≤ (events p).length) (fun k => (events p).length - k) 0 (by omega) ?_ ?_
  · (refine Less.start ?_; repeat (first | exact LessO.nil | exact LessO.all | refine LessO.skip (by decide) ?_ | refine LessO.upd ?_ ?_ | refine LessO.set ?_ ?_)) <;> (try simp (maxSteps := 1000000) (disch := omega) only [push_cast, go_sem, wpS_tt, wpS_tf, wpS_ft, wpS_ff, wpCond_tt, wpCond_ff, simprocAttr])
    all_goals simp [rnk_zero]
  rintro k hk J hJ
  refine Sat.of (S := []) (by kernel_rfl) ?_
  have hrl : (rnk p x k).length = (events p).length := by simp [rnk]
  rcases Nat.lt_or_ge k (events p).length with hlt | hge
  · obtain ⟨ek, hek⟩ : ∃ e, (events p)[k]? = some e := ⟨_, List.getElem?_eq_getElem hlt⟩
    have hdk : (scene p).ds[k]? = some (dsA p k) := by rw [dsA, scene_get hek]; rfl
    have hp3 := scene_p hok (dsA p k) (List.mem_of_getElem? hdk)
    have h1 := odo_fn p g (rdsV p) (wrtV p) (.sl (x.fr.map (V.int .i64))) (.own 3 (some gr) (events p).length ((rnk p x k).map (V.int .i64))) k hlt
    rw [ordV_eq, rdsV_eq, wrtV_eq] at h1
    obtain ⟨z, hz⟩ : ∃ z, (rnk p x k)[k]? = some z := ⟨_, List.getElem?_eq_getElem (by omega)⟩
    obtain ⟨f, hfk⟩ : ∃ z, x.fr[k]? = some z := ⟨_, List.getElem?_eq_getElem (by omega)⟩
    have hfl : k < x.fr.length := by omega
    cases hw : (dsA p k).writes
    · cases hr : (dsA p k).reads
      · simp (maxSteps := 1000000) (disch := omega) only [push_cast, go_sem, wpS_tt, wpS_tf, wpS_ft, wpS_ff, wpCond_tt, wpCond_ff, simprocAttr, hlt, hdk, hsl, hw, hr]
        refine hJ (k + 1) _ _ (by omega) (by omega) ?_
        rw [rnk_same p x (by simp [rankS, hw, hr])]
        (refine Less.start ?_; repeat (first | exact LessO.nil | exact LessO.all | refine LessO.skip (by decide) ?_ | refine LessO.upd ?_ ?_ | refine LessO.set ?_ ?_)) <;> (try simp (maxSteps := 1000000) (disch := omega) only [push_cast, go_sem, wpS_tt, wpS_tf, wpS_ft, wpS_ff, wpCond_tt, wpCond_ff, simprocAttr])
      · obtain ⟨p0, p1⟩ := hp3 (by simp [Do.uses, hr])
        obtain ⟨pl, hpl⟩ := Int.eq_ofNat_of_zero_le p0
        obtain ⟨row, hrw⟩ : ∃ row, x.od[pl]? = some row := ⟨_, List.getElem?_eq_getElem (by omega)⟩
        have hrk := rank_fn row f (hrow row (List.mem_of_getElem? hrw))
        have hpl3 : (pl : Int) < 3 := by omega
        simp (maxSteps := 1000000) (disch := omega) only [push_cast, go_sem, wpS_tt, wpS_tf, wpS_ft, wpS_ff, wpCond_tt, wpCond_ff, simprocAttr, hlt, hdk, hsl, hw, hr]
        refine Sat.drawnE [] [] [3, 6, 9, 12, 14, 17, 18] (lookT (.own 74 (some g) 1 [.agg [.sl (p.map thrV), .sl ((events p).map Evt.V), .sl ((scene p).ds.map fun d => .bool d.reads), .sl ((scene p).ds.map fun d => .bool d.writes), .sl (x.fr.map (V.int .i64)), .own 3 (some gr) (events p).length ((rnk p x k).map (V.int .i64))]]) [(68, .int .i64 (Lib.idxOf row f))] [(66, (dsA p k).V)]) (by kernel_rfl) (by kernel_rfl) ?_
        simp (maxSteps := 1000000) (disch := omega) only [push_cast, go_sem, wpS_tt, wpS_tf, wpS_ft, wpS_ff, wpCond_tt, wpCond_ff, simprocAttr]
        refine runD_look h1 rfl rfl rfl rfl rfl ?_ ?_
        · rfl
        simp (maxSteps := 1000000) (disch := omega) only [push_cast, go_sem, wpS_tt, wpS_tf, wpS_ft, wpS_ff, wpCond_tt, wpCond_ff, simprocAttr, Do.V_eq, hpl, hpl3, ho, hrw, intsV_eq, hfk, hfl]
        refine runD_pure rfl hrk rfl rfl ?_ ?_
        · rfl
        simp (maxSteps := 1000000) (disch := omega) only [push_cast, go_sem, wpS_tt, wpS_tf, wpS_ft, wpS_ff, wpCond_tt, wpCond_ff, simprocAttr, hz, hrl, hlt]
        have hrS : rankS p x k = Lib.idxOf row f := by simp [rankS, hw, hr, hpl, hrw, hfk]
        refine hJ (k + 1) _ _ (by omega) (by omega) ?_
        rw [rnk_succ, hrS]
        (refine Less.start ?_; repeat (first | exact LessO.nil | exact LessO.all | refine LessO.skip (by decide) ?_ | refine LessO.upd ?_ ?_ | refine LessO.set ?_ ?_)) <;> (try simp (maxSteps := 1000000) (disch := omega) only [push_cast, go_sem, wpS_tt, wpS_tf, wpS_ft, wpS_ff, wpCond_tt, wpCond_ff, simprocAttr])
        rw [modInts]
    · obtain ⟨p0, p1⟩ := hp3 (by simp [Do.uses, hw])
      obtain ⟨pl, hpl⟩ := Int.eq_ofNat_of_zero_le p0
      obtain ⟨row, hrw⟩ : ∃ row, x.od[pl]? = some row := ⟨_, List.getElem?_eq_getElem (by omega)⟩
      have hrk := rank_fn row k (hrow row (List.mem_of_getElem? hrw))
      have hpl3 : (pl : Int) < 3 := by omega
      simp (maxSteps := 1000000) (disch := omega) only [push_cast, go_sem, wpS_tt, wpS_tf, wpS_ft, wpS_ff, wpCond_tt, wpCond_ff, simprocAttr, hlt, hdk, hsl, hw]
      refine Sat.drawnE [] [] [3, 6, 9, 12, 14] (lookT (.own 74 (some g) 1 [.agg [.sl (p.map thrV), .sl ((events p).map Evt.V), .sl ((scene p).ds.map fun d => .bool d.reads), .sl ((scene p).ds.map fun d => .bool d.writes), .sl (x.fr.map (V.int .i64)), .own 3 (some gr) (events p).length ((rnk p x k).map (V.int .i64))]]) [(68, .int .i64 (Lib.idxOf row k))] [(66, (dsA p k).V)]) (by kernel_rfl) (by kernel_rfl) ?_
      simp (maxSteps := 1000000) (disch := omega) only [push_cast, go_sem, wpS_tt, wpS_tf, wpS_ft, wpS_ff, wpCond_tt, wpCond_ff, simprocAttr]
      refine runD_look h1 rfl rfl rfl rfl rfl ?_ ?_
      · rfl
      simp (maxSteps := 1000000) (disch := omega) only [push_cast, go_sem, wpS_tt, wpS_tf, wpS_ft, wpS_ff, wpCond_tt, wpCond_ff, simprocAttr, Do.V_eq, hpl, hpl3, ho, hrw, intsV_eq]
      refine runD_pure rfl hrk rfl rfl ?_ ?_
      · rfl
      simp (maxSteps := 1000000) (disch := omega) only [push_cast, go_sem, wpS_tt, wpS_tf, wpS_ft, wpS_ff, wpCond_tt, wpCond_ff, simprocAttr, hz, hrl, hlt]
      have hrS : rankS p x k = Lib.idxOf row k := by simp [rankS, hw, hpl, hrw]
      refine hJ (k + 1) _ _ (by omega) (by omega) ?_
      rw [rnk_succ, hrS]
      (refine Less.start ?_; repeat (first | exact LessO.nil | exact LessO.all | refine LessO.skip (by decide) ?_ | refine LessO.upd ?_ ?_ | refine LessO.set ?_ ?_)) <;> (try simp (maxSteps := 1000000) (disch := omega) only [push_cast, go_sem, wpS_tt, wpS_tf, wpS_ft, wpS_ff, wpCond_tt, wpCond_ff, simprocAttr])
      rw [modInts]
  · have : k = (events p).length := by omega
    subst this
    simp (maxSteps := 1000000) (disch := omega) only [push_cast, go_sem, wpS_tt, wpS_tf, wpS_ft, wpS_ff, wpCond_tt, wpCond_ff, simprocAttr]
    rw [rnk_all]
    refine ⟨_, ?_, _, ⟨gr, rfl⟩, rfl⟩
    ((repeat (first | exact Sub.no | refine Sub.set ?_ ?_)) <;> (try simp (disch := omega) only [push_cast, go_sem, wpS_tt, wpS_tf, wpS_ft, wpS_ff, wpCond_tt, wpCond_ff, simprocAttr]))
end Go.Proofs.YtfdbminedccccaaGreatDoor
/-! ## OrderHas, by the reference -/
namespace Go.Proofs.YtfdbminedccccaaGreatDoor
open Go.RowKit
set_option linter.unusedSimpArgs false
set_option linter.unusedVariables false
set_option pp.maxSteps 3000

section
variable {P : Program} {M : Mem} {k : V → Mem → Prop}
/-- A call that changes the object of its first argument. -/
theorem callR.mod {f : FuncId} {bs : List V} {g a n : Nat} {o : V} {Q : V → V → Prop} {d : Option Nat} (h : Fc P f (.ptr 0 [] 0 0 g n :: bs) (noM.set 0 o) fun r m => ∃ o', Q r o' ∧ m = noM.set 0 o') (hM : M a = some o) (hk : (bs.all fun v => v.key.isNone) = true) (h9 : Nat.ble (bs.length + 1) 90 = true)
    (hK : ∀ r o', Q r o' → runV (some (True, det (resN d r) (M.set a o'))) k .mk) : callR P f (.ptr a [] 0 0 g n :: bs) d M k .mk := by
  have hk' : ((bs.map V.key).all fun x => x.isNone) = true := by rw [List.all_map]; exact hk
  refine callR.intro (F := noM.set 0 o) (R := fun r m => ∃ o', Q r o' ∧ m = noM.set 0 o') (by rw [look_args hk]; exact h) (look_nodup hk) (Nat.le_of_ble_eq_true h9) (Sub.set Sub.no (look_foot hM)) ?_
  rintro r0 Mf ⟨o', hq, rfl⟩
  have : mergeM M ((V.ptr a [] 0 0 g n :: bs).map V.key) d (noM.set 0 o') = M.set a o' := by
    rw [merge_eq, List.map_cons]
    have e1 : (noM.set 0 o') 100 = none := rfl
    have e2 : (noM.set 0 o') 0 = some o' := rfl
    rw [e1, mgD_none', key_ptr, mg_some, e2, mg_all_none hk', MemU_some]
  rw [this]
  exact ((runV_det.1 (hK r0 o' hq)).2)
end
end Go.Proofs.YtfdbminedccccaaGreatDoor
/-! ## The reference: the net of an order; that with all that was read, and written -/
namespace Go.Proofs.YtfdbminedccccaaGreatDoor
open Go.RowKit
set_option linter.unusedSimpArgs false
set_option linter.unusedVariables false
set_option pp.maxSteps 3000

def rowP (f : Nat → Bool) (n b : Nat) : List Bool := (List.range n).map fun j => decide (j < b) && f j
theorem rowP_len (f : Nat → Bool) (n b : Nat) : (rowP f n b).length = n := by simp [rowP]
theorem rowP_zero (f : Nat → Bool) (n : Nat) : rowP f n 0 = List.replicate n false := by
  rw [rowP, List.eq_replicate_iff]
  refine ⟨by simp, fun b hb => ?_⟩
  simp only [List.mem_map] at hb
  obtain ⟨i, _, rfl⟩ := hb
  simp
theorem rowP_all (f : Nat → Bool) (n : Nat) : rowP f n n = (List.range n).map f :=
  List.map_congr_left fun i hi => by simp [List.mem_range.1 hi]
theorem rowP_set (f : Nat → Bool) (n b : Nat) : (rowP f n b).set b (f b) = rowP f n (b + 1) := by
  apply List.ext_getElem?
  intro i
  rw [List.getElem?_set, rowP_len, rowP, rowP, List.getElem?_map, List.getElem?_map]
  by_cases hi : i < n
  · rw [List.getElem?_range hi]
    by_cases h : b = i
    · subst h; simp [hi]
    · have e1 : (i < b + 1) = (i < b) := by simp; omega
      simp [h, e1]
  · have : (List.range n)[i]? = none := by simp; omega
    rw [this]
    by_cases h : b = i
    · subst h; simp [hi]
    · simp [h]
theorem netL_take (R : Nat → Nat → Bool) {n a : Nat} (ha : a < n) : (netL R n).take (a + 1) = (netL R n).take a ++ [(List.range n).map (R a)] := take_get (netL_get ha)
theorem onet_fn (p : Prog) (g : Nat) (c4 c5 : V) (hn : (events p).length ≤ 42) (kind : Int) :
    Fo Tryz.prog 36 [.int .i64 kind] g 6 (ordV p g (rdsV p) (wrtV p) c4 c5) (netE (netL (staysS p kind) (events p).length)) := by
  have hst := fun a b ha hb => ostays_fn p g c4 c5 a b hn kind ha hb
  rw [ordV_eq, rdsV_eq, wrtV_eq] at hst ⊢
  obtain ⟨n, hnn⟩ : ∃ n, (events p).length = n := ⟨_, rfl⟩
  rw [hnn] at hn hst ⊢
  have hNl := netL_len (staysS p kind) n
  refine Fc.start (S := [11]) Tryz.func36 Tryz.ntmps36 Tryz.results36 rfl (by decide) rfl (by kernel_rfl) ?_
  simp (maxSteps := 1000000) (disch := omega) only [push_cast, go_sem, wpS_tt, wpS_tf, wpS_ft, wpS_ff, wpCond_tt, wpCond_ff, simprocAttr]
  intro g5
  refine Sat.loop (σ := EvS) (fun x => upd (upd (upd (upd noT 0 (.ptr 0 [] 0 0 g 6)) 1 (.int .i64 kind)) 5 (.ptr 5 [] 0 0 g5 1)) 6 (.int .i64 x.k))
    (fun x => (noM.set 0 (.own 74 (some g) 1 [.agg [.sl (p.map thrV), .sl ((events p).map Evt.V), .sl ((scene p).ds.map fun d => .bool d.reads), .sl ((scene p).ds.map fun d => .bool d.writes), c4, c5]])).set 5 (.own 100 (some g5) 1 [.agg [.own x.e x.γ x.c (((netL (staysS p kind) n).take x.k).map boolsV)]]))
    (fun x => x.k ≤ n ∧ (x.γ = none ∨ x.e = 72)) (fun x => n - x.k) ⟨0, 0, none, 0⟩ (by simp) ?_ ?_
  · (refine Less.start ?_; repeat (first | exact LessO.nil | exact LessO.all | refine LessO.skip (by decide) ?_ | refine LessO.upd ?_ ?_ | refine LessO.set ?_ ?_)) <;> (try simp (maxSteps := 1000000) (disch := omega) only [push_cast, go_sem, wpS_tt, wpS_tf, wpS_ft, wpS_ff, wpCond_tt, wpCond_ff, simprocAttr])
  rintro ⟨a, e, γ, c⟩ ⟨ha, hγ⟩ J hJ
  simp only at ha hγ hJ
  refine Sat.of (S := [11]) (by kernel_rfl) ?_
  rcases Nat.lt_or_ge a n with hlt | hge
  · simp (maxSteps := 1000000) (disch := omega) only [push_cast, go_sem, wpS_tt, wpS_tf, wpS_ft, wpS_ff, wpCond_tt, wpCond_ff, simprocAttr, hlt, hnn]
    refine ⟨by omega, fun gr => ?_⟩
    refine Sat.loop (σ := Nat) (fun b => upd (upd (upd (upd (upd (upd noT 0 (.ptr 0 [] 0 0 g 6)) 1 (.int .i64 kind)) 5 (.ptr 5 [] 0 0 g5 1)) 6 (.int .i64 a)) 7 (.msl 7 [] (some gr) n n)) 8 (.int .i64 b))
      (fun b => ((noM.set 0 (.own 74 (some g) 1 [.agg [.sl (p.map thrV), .sl ((events p).map Evt.V), .sl ((scene p).ds.map fun d => .bool d.reads), .sl ((scene p).ds.map fun d => .bool d.writes), c4, c5]])).set 5 (.own 100 (some g5) 1 [.agg [.own e γ c (((netL (staysS p kind) n).take a).map boolsV)]])).set 7 (.own 4 (some gr) n ((rowP (staysS p kind a) n b).map V.bool)))
      (fun b => b ≤ n) (fun b => n - b) 0 (by omega) ?_ ?_
    · (refine Less.start ?_; repeat (first | exact LessO.nil | exact LessO.all | refine LessO.skip (by decide) ?_ | refine LessO.upd ?_ ?_ | refine LessO.set ?_ ?_)) <;> (try simp (maxSteps := 1000000) (disch := omega) only [push_cast, go_sem, wpS_tt, wpS_tf, wpS_ft, wpS_ff, wpCond_tt, wpCond_ff, simprocAttr])
      all_goals rw [rowP_zero]; simp
    rintro b hb J2 hJ2
    have hpl := rowP_len (staysS p kind a) n b
    rcases Nat.lt_or_ge b n with hlt2 | hge2
    · refine Sat.of (S := [11]) (by kernel_rfl) ?_
      simp (maxSteps := 1000000) (disch := omega) only [push_cast, go_sem, wpS_tt, wpS_tf, wpS_ft, wpS_ff, wpCond_tt, wpCond_ff, simprocAttr, hlt2, hnn]
      refine callR.look (hst a b hlt hlt2) rfl rfl rfl ?_
      obtain ⟨z, hz⟩ : ∃ z, (rowP (staysS p kind a) n b)[b]? = some z := ⟨_, List.getElem?_eq_getElem (by omega)⟩
      simp (maxSteps := 1000000) (disch := omega) only [push_cast, go_sem, wpS_tt, wpS_tf, wpS_ft, wpS_ff, wpCond_tt, wpCond_ff, simprocAttr, hlt2, hpl, hz]
      refine hJ2 (b + 1) _ _ (by omega) (by omega) ?_
      rw [← rowP_set]
      (refine Less.start ?_; repeat (first | exact LessO.nil | exact LessO.all | refine LessO.skip (by decide) ?_ | refine LessO.upd ?_ ?_ | refine LessO.set ?_ ?_)) <;> (try simp (maxSteps := 1000000) (disch := omega) only [push_cast, go_sem, wpS_tt, wpS_tf, wpS_ft, wpS_ff, wpCond_tt, wpCond_ff, simprocAttr])
    · have : b = n := by omega
      subst this
      have hγ' : (γ = none ∨ e = 72) = True := by simp only [hγ]
      have htl : ((netL (staysS p kind) b).take a).length = a := by rw [List.length_take, hNl]; omega
      rw [rowP_all]
      refine Sat.freezeT (upd (upd (upd (upd (upd (upd noT 0 (.ptr 0 [] 0 0 g 6)) 1 (.int .i64 kind)) 5 (.ptr 5 [] 0 0 g5 1)) 6 (.int .i64 a)) 8 (.int .i64 b)) 7 (boolsV ((List.range b).map (staysS p kind a))))
        ((noM.set 0 (.own 74 (some g) 1 [.agg [.sl (p.map thrV), .sl ((events p).map Evt.V), .sl ((scene p).ds.map fun d => .bool d.reads), .sl ((scene p).ds.map fun d => .bool d.writes), c4, c5]])).set 5 (.own 100 (some g5) 1 [.agg [.own e γ c (((netL (staysS p kind) b).take a).map boolsV)]]))
        7 (e := 4) (γ := some gr) (cap := b) (es := ((List.range b).map (staysS p kind a)).map V.bool) rfl ?_ ?_
      · (refine Less.start ?_; repeat (first | exact LessO.nil | exact LessO.all | refine LessO.skip (by decide) ?_ | refine LessO.upd ?_ ?_ | refine LessO.set ?_ ?_)) <;> (try simp (maxSteps := 1000000) (disch := omega) only [push_cast, go_sem, wpS_tt, wpS_tf, wpS_ft, wpS_ff, wpCond_tt, wpCond_ff, simprocAttr])
        simp [boolsV]
      refine Sat.of (S := [11]) (by kernel_rfl) ?_
      simp (maxSteps := 1000000) (disch := omega) only [push_cast, go_sem, wpS_tt, wpS_tf, wpS_ft, wpS_ff, wpCond_tt, wpCond_ff, simprocAttr, hnn, hγ', htl, boolsV_eq]
      intro g49
      refine ⟨by omega, fun γ6 c6 _ => ?_⟩
      refine hJ ⟨a + 1, 72, γ6, c6⟩ _ _ ⟨by dsimp only; omega, .inr rfl⟩ (by dsimp only; omega) ?_
      dsimp only
      rw [netL_take _ hlt]
      (refine Less.start ?_; repeat (first | exact LessO.nil | exact LessO.all | refine LessO.skip (by decide) ?_ | refine LessO.upd ?_ ?_ | refine LessO.set ?_ ?_)) <;> (try simp (maxSteps := 1000000) (disch := omega) only [push_cast, go_sem, wpS_tt, wpS_tf, wpS_ft, wpS_ff, wpCond_tt, wpCond_ff, simprocAttr])
      all_goals simp [boolsV]
  · have : a = n := by omega
    subst this
    simp (maxSteps := 1000000) (disch := omega) only [push_cast, go_sem, wpS_tt, wpS_tf, wpS_ft, wpS_ff, wpCond_tt, wpCond_ff, simprocAttr, hnn]
    refine Sat.fixP (o := 5) (g := g5) (e := 100) (cap := 1) (es := [.agg [.own e γ c (((netL (staysS p kind) a).take a).map boolsV)]]) (T := upd noT 5 (netE (netL (staysS p kind) a))) rfl ?_ ?_
    · refine Fx.ptr Fx.nil rfl rfl (by kernel_rfl) ?_
      have htk : (netL (staysS p kind) a).take a = netL (staysS p kind) a := List.take_of_length_le (by omega)
      simp only [V.cells, List.drop_zero, List.map_cons, List.map_nil, V.fz, fzs_map, fzs_bls, htk]
    refine Sat.of (S := []) (by kernel_rfl) ?_
    simp (maxSteps := 1000000) (disch := omega) only [push_cast, go_sem, wpS_tt, wpS_tf, wpS_ft, wpS_ff, wpCond_tt, wpCond_ff, simprocAttr, netE_eq]
    refine ⟨_, ?_, rfl⟩
    ((repeat (first | exact Sub.no | refine Sub.set ?_ ?_)) <;> (try simp (disch := omega) only [push_cast, go_sem, wpS_tt, wpS_tf, wpS_ft, wpS_ff, wpCond_tt, wpCond_ff, simprocAttr]))

def upR (R T : Nat → Nat → Bool) (a b : Nat) : Nat → Nat → Bool := fun x y => R x y || (T x y && (decide (x < a) || (x == a && decide (y < b))))
def bothR (R T : Nat → Nat → Bool) : Nat → Nat → Bool := fun x y => R x y || T x y
theorem upR_zero (R T : Nat → Nat → Bool) (n : Nat) : netL (upR R T 0 0) n = netL R n := netL_congr fun a b _ _ => by simp [upR]
theorem upR_next (R T : Nat → Nat → Bool) (n a : Nat) : netL (upR R T a n) n = netL (upR R T (a + 1) 0) n := netL_congr fun x y _ hy => by
  simp only [upR]
  by_cases h : x < a
  · have : x < a + 1 := by omega
    simp [h, this]
  · by_cases h2 : x = a
    · subst h2; simp [hy]
    · have h3 : ¬ x < a + 1 := by omega
      simp [h, h2, h3]
theorem upR_all (R T : Nat → Nat → Bool) (n : Nat) : netL (upR R T n 0) n = netL (bothR R T) n := netL_congr fun x y hx _ => by simp [upR, bothR, hx]
theorem upR_no {R T : Nat → Nat → Bool} {n a b : Nat} (h : T a b = false) : netL (upR R T a (b + 1)) n = netL (upR R T a b) n := netL_congr fun x y _ _ => by
  simp only [upR]
  by_cases h2 : x = a
  · subst h2
    by_cases h3 : y = b
    · subst h3; simp [h]
    · have : (y < b + 1) = (y < b) := by simp; omega
      simp [this]
  · have h9 : (x == a) = false := by simpa using h2
    simp [h9]
theorem upR_yes {R T : Nat → Nat → Bool} {n a b : Nat} (h : T a b = true) : netL (upR R T a (b + 1)) n = netL (wiR (upR R T a b) a b) n := netL_congr fun x y _ _ => by
  simp only [upR, wiR]
  by_cases h2 : x = a
  · subst h2
    by_cases h3 : y = b
    · subst h3; simp [h]
    · have h4 : (y < b + 1) = (y < b) := by simp; omega
      simp [h4, h3]
  · have h9 : (x == a) = false := by simpa using h2
    simp [h9]
theorem owhole_fn (p : Prog) (x : Exe) (g : Nat) (R : Nat → Nat → Bool) (hn : (events p).length ≤ 42) (hfr : x.fr.length = (events p).length) (hc : ∀ (i : Nat), i < (events p).length → 0 ≤ (dsA p i).p) (kind : Int) :
    Fo Tryz.prog 35 [netE (netL R (events p).length), .int .i64 kind] g 6 (ordV p g (rdsV p) (wrtV p) (.sl (x.fr.map (V.int .i64))) (.sl (((List.range (events p).length).map (rankS p x)).map (V.int .i64)))) (netE (netL (bothR R (toldS p x kind)) (events p).length)) := by
  have hto := fun a b ha hb => otold_fn p x g a b hfr hc kind ha hb
  rw [ordV_eq, rdsV_eq, wrtV_eq] at hto ⊢
  obtain ⟨n, hnn⟩ : ∃ n, (events p).length = n := ⟨_, rfl⟩
  generalize hrk : V.sl (((List.range (events p).length).map (rankS p x)).map (V.int .i64)) = rk at hto ⊢
  rw [hnn] at hn hto ⊢
  have hNl := netL_len R n
  have hcp := ncopy_fn (netL R n) (by rw [hNl]; omega) (fun l hl => by
    simp only [netL, List.mem_map] at hl
    obtain ⟨i, _, rfl⟩ := hl
    simp; omega)
  rw [netE_eq] at hcp
  refine Fc.start (S := [10]) Tryz.func35 Tryz.ntmps35 Tryz.results35 rfl (by decide) rfl (by kernel_rfl) ?_
  simp (maxSteps := 1000000) (disch := omega) only [push_cast, go_sem, wpS_tt, wpS_tf, wpS_ft, wpS_ff, wpCond_tt, wpCond_ff, simprocAttr, netE_eq]
  refine callR.new hcp rfl rfl ?_
  rintro r ob ⟨g7, e, γ, c, xs, rfl, rfl, h1, h2, h3⟩
  simp (maxSteps := 1000000) (disch := omega) only [push_cast, go_sem, wpS_tt, wpS_tf, wpS_ft, wpS_ff, wpCond_tt, wpCond_ff, simprocAttr, netO_eq]
  refine Sat.loop (σ := Nat × List RowN) (fun y => upd (upd (upd (upd noT 0 (.ptr 0 [] 0 0 g 6)) 2 (.int .i64 kind)) 7 (.ptr 7 [] 0 0 g7 1)) 8 (.int .i64 y.1))
    (fun y => (noM.set 0 (.own 74 (some g) 1 [.agg [.sl (p.map thrV), .sl ((events p).map Evt.V), .sl ((scene p).ds.map fun d => .bool d.reads), .sl ((scene p).ds.map fun d => .bool d.writes), .sl (x.fr.map (V.int .i64)), rk]])).set 7 (.own 100 (some g7) 1 [.agg [.own e γ c (y.2.map RowN.V)]]))
    (fun y => y.1 ≤ n ∧ (∀ z ∈ y.2, z.γ = none ∨ z.e = 4) ∧ y.2.map RowN.l = netL (upR R (toldS p x kind) y.1 0) n) (fun y => n - y.1) (0, xs) ⟨by dsimp only; omega, h2, by dsimp only; rw [h3, upR_zero]⟩ ?_ ?_
  · (refine Less.start ?_; repeat (first | exact LessO.nil | exact LessO.all | refine LessO.skip (by decide) ?_ | refine LessO.upd ?_ ?_ | refine LessO.set ?_ ?_)) <;> (try simp (maxSteps := 1000000) (disch := omega) only [push_cast, go_sem, wpS_tt, wpS_tf, wpS_ft, wpS_ff, wpCond_tt, wpCond_ff, simprocAttr])
  rintro ⟨a, ys⟩ ⟨ha, hye, hys⟩ J hJ
  simp only at ha hye hys hJ
  refine Sat.of (S := [10]) (by kernel_rfl) ?_
  rcases Nat.lt_or_ge a n with hlt | hge
  · simp (maxSteps := 1000000) (disch := omega) only [push_cast, go_sem, wpS_tt, wpS_tf, wpS_ft, wpS_ff, wpCond_tt, wpCond_ff, simprocAttr, hlt, hnn]
    refine Sat.loop (σ := Nat × List RowN) (fun y => upd (upd (upd (upd (upd noT 0 (.ptr 0 [] 0 0 g 6)) 2 (.int .i64 kind)) 7 (.ptr 7 [] 0 0 g7 1)) 8 (.int .i64 a)) 9 (.int .i64 y.1))
      (fun y => (noM.set 0 (.own 74 (some g) 1 [.agg [.sl (p.map thrV), .sl ((events p).map Evt.V), .sl ((scene p).ds.map fun d => .bool d.reads), .sl ((scene p).ds.map fun d => .bool d.writes), .sl (x.fr.map (V.int .i64)), rk]])).set 7 (.own 100 (some g7) 1 [.agg [.own e γ c (y.2.map RowN.V)]]))
      (fun y => y.1 ≤ n ∧ (∀ z ∈ y.2, z.γ = none ∨ z.e = 4) ∧ y.2.map RowN.l = netL (upR R (toldS p x kind) a y.1) n) (fun y => n - y.1) (0, ys) ⟨by dsimp only; omega, hye, hys⟩ ?_ ?_
    · (refine Less.start ?_; repeat (first | exact LessO.nil | exact LessO.all | refine LessO.skip (by decide) ?_ | refine LessO.upd ?_ ?_ | refine LessO.set ?_ ?_)) <;> (try simp (maxSteps := 1000000) (disch := omega) only [push_cast, go_sem, wpS_tt, wpS_tf, wpS_ft, wpS_ff, wpCond_tt, wpCond_ff, simprocAttr])
    rintro ⟨b, zs⟩ ⟨hb, hze, hzs⟩ J2 hJ2
    simp only at hb hze hzs hJ2
    rcases Nat.lt_or_ge b n with hlt2 | hge2
    · have hzl : zs.length = n := by have := congrArg List.length hzs; rw [List.length_map, netL_len] at this; exact this
      refine Sat.someP (o := 7) (q := [(0, 0)]) (e := e) (γ := γ) (cap := c) (es := zs.map RowN.V) rfl ?_ ?_
      · intro h0
        have := congrArg List.length h0
        rw [List.length_map, hzl] at this; simp at this; omega
      intro g1 hg1
      subst hg1
      obtain rfl : e = 72 := h1.resolve_left nofun
      obtain ⟨⟨e1, γ1, c1, l1⟩, hrow⟩ : ∃ row, zs[a]? = some row := ⟨_, List.getElem?_eq_getElem (by omega)⟩
      have hl1 : l1 = (List.range n).map (upR R (toldS p x kind) a b a) := by
        have := netL_get (R := upR R (toldS p x kind) a b) hlt
        rw [← hzs, List.getElem?_map, hrow] at this
        simpa using this
      have hll : l1.length = n := by rw [hl1]; simp
      refine Sat.someP (o := 7) (q := [(0, 0), (a, 0)]) (e := e1) (γ := γ1) (cap := c1) (es := l1.map V.bool) ?_ ?_ ?_
      · simp [Mem.getP, Mem.set, V.getP, V.cellAt, hrow, RowN.V, V.cells]
      · intro h0
        have := congrArg List.length h0
        rw [List.length_map, hll] at this; simp at this; omega
      rintro g2 rfl
      obtain rfl : e1 = 4 := (hze _ (List.mem_of_getElem? hrow)).resolve_left nofun
      obtain ⟨z, hz⟩ : ∃ z, l1[b]? = some z := ⟨_, List.getElem?_eq_getElem (by omega)⟩
      refine Sat.of (S := [10]) (by kernel_rfl) ?_
      simp (maxSteps := 1000000) (disch := omega) only [push_cast, go_sem, wpS_tt, wpS_tf, wpS_ft, wpS_ff, wpCond_tt, wpCond_ff, simprocAttr, hlt2, hnn]
      refine callR.look (hto a b hlt hlt2) rfl rfl rfl ?_
      cases hT : toldS p x kind a b
      · simp (maxSteps := 1000000) (disch := omega) only [push_cast, go_sem, wpS_tt, wpS_tf, wpS_ft, wpS_ff, wpCond_tt, wpCond_ff, simprocAttr]
        refine hJ2 (b + 1, zs) _ _ ⟨by dsimp only; omega, hze, by dsimp only; rw [hzs, upR_no hT]⟩ (by dsimp only; omega) ?_
        (refine Less.start ?_; repeat (first | exact LessO.nil | exact LessO.all | refine LessO.skip (by decide) ?_ | refine LessO.upd ?_ ?_ | refine LessO.set ?_ ?_)) <;> (try simp (maxSteps := 1000000) (disch := omega) only [push_cast, go_sem, wpS_tt, wpS_tf, wpS_ft, wpS_ff, wpCond_tt, wpCond_ff, simprocAttr])
      · simp (maxSteps := 1000000) (disch := omega) only [push_cast, go_sem, wpS_tt, wpS_tf, wpS_ft, wpS_ff, wpCond_tt, wpCond_ff, simprocAttr, hrow, hzl, hlt, RowN.V_eq, hll, hlt2, hz]
        refine hJ2 (b + 1, zs.set a ⟨4, some g2, c1, l1.set b true⟩) _ _ ⟨by dsimp only; omega, ?_, ?_⟩ (by dsimp only; omega) ?_
        · intro y hy
          rcases List.mem_or_eq_of_mem_set hy with hy | hy
          · exact hze y hy
          · rw [hy]; exact .inr rfl
        · dsimp only
          rw [upR_yes hT, ← netL_wi hlt hlt2, ← hzs]
          apply List.ext_getElem?
          intro i
          rw [List.getElem?_modify, List.getElem?_map, List.getElem?_map, List.getElem?_set]
          by_cases h : a = i
          · subst h
            obtain ⟨k1, k2⟩ := List.getElem?_eq_some_iff.1 hrow
            simp [k1, k2]
          · simp [h]
        · (refine Less.start ?_; repeat (first | exact LessO.nil | exact LessO.all | refine LessO.skip (by decide) ?_ | refine LessO.upd ?_ ?_ | refine LessO.set ?_ ?_)) <;> (try simp (maxSteps := 1000000) (disch := omega) only [push_cast, go_sem, wpS_tt, wpS_tf, wpS_ft, wpS_ff, wpCond_tt, wpCond_ff, simprocAttr])
    · have : b = n := by omega
      subst this
      refine Sat.of (S := [10]) (by kernel_rfl) ?_
      simp (maxSteps := 1000000) (disch := omega) only [push_cast, go_sem, wpS_tt, wpS_tf, wpS_ft, wpS_ff, wpCond_tt, wpCond_ff, simprocAttr, hnn]
      refine hJ (a + 1, zs) _ _ ⟨by dsimp only; omega, hze, by dsimp only; rw [hzs, upR_next]⟩ (by dsimp only; omega) ?_
      (refine Less.start ?_; repeat (first | exact LessO.nil | exact LessO.all | refine LessO.skip (by decide) ?_ | refine LessO.upd ?_ ?_ | refine LessO.set ?_ ?_)) <;> (try simp (maxSteps := 1000000) (disch := omega) only [push_cast, go_sem, wpS_tt, wpS_tf, wpS_ft, wpS_ff, wpCond_tt, wpCond_ff, simprocAttr])
  · have : a = n := by omega
    subst this
    simp (maxSteps := 1000000) (disch := omega) only [push_cast, go_sem, wpS_tt, wpS_tf, wpS_ft, wpS_ff, wpCond_tt, wpCond_ff, simprocAttr, hnn]
    refine Sat.fixP (o := 7) (g := g7) (e := 100) (cap := 1) (es := [.agg [.own e γ c (ys.map RowN.V)]]) (T := upd noT 7 (netE (netL (bothR R (toldS p x kind)) a))) rfl ?_ ?_
    · refine Fx.ptr Fx.nil rfl rfl (by kernel_rfl) ?_
      simp only [V.cells, List.drop_zero, List.map_cons, List.map_nil, V.fz, fzs_map, fz_rowsN, hys, upR_all]
    refine Sat.of (S := []) (by kernel_rfl) ?_
    simp (maxSteps := 1000000) (disch := omega) only [push_cast, go_sem, wpS_tt, wpS_tf, wpS_ft, wpS_ff, wpCond_tt, wpCond_ff, simprocAttr, netE_eq]
    refine ⟨_, ?_, rfl⟩
    ((repeat (first | exact Sub.no | refine Sub.set ?_ ?_)) <;> (try simp (disch := omega) only [push_cast, go_sem, wpS_tt, wpS_tf, wpS_ft, wpS_ff, wpCond_tt, wpCond_ff, simprocAttr]))
end Go.Proofs.YtfdbminedccccaaGreatDoor
/-! ## Who waits stands twice among the events: in pairs. The choices of both sides are the same -/
namespace Go.Proofs.YtfdbminedccccaaGreatDoor
open Go.RowKit
set_option linter.unusedSimpArgs false
set_option linter.unusedVariables false
set_option pp.maxSteps 3000

def Evt.lt2 (e f : Evt) : Prop := e.t < f.t ∨ (e.t = f.t ∧ (e.s < f.s ∨ (e.s = f.s ∧ e.l = false ∧ f.l = true)))
theorem evThr_lt2 (t : Nat) (l : List Do) : ∀ k, (evThr t l k).Pairwise Evt.lt2
  | 0 => by simp [evThr]
  | k + 1 => by
    rw [evThr, List.pairwise_append]
    refine ⟨evThr_lt2 t l k, ?_, fun a ha b hb => ?_⟩
    · split
      · unfold evsOf
        split
        · simp [Evt.lt2]
        · simp
      · exact List.Pairwise.nil
    · obtain ⟨j, d, h1, _, h2, h3, _⟩ := mem_evThr ha
      split at hb
      · unfold evsOf at hb
        split at hb
        · simp at hb
          rcases hb with rfl | rfl <;> exact .inr ⟨h2, .inl (by simp only [h3]; omega)⟩
        · simp at hb
          subst hb
          exact .inr ⟨h2, .inl (by simp only [h3]; omega)⟩
      · cases hb
theorem evPro_lt2 (p : Prog) : ∀ i, (evPro p i).Pairwise Evt.lt2
  | 0 => by simp [evPro]
  | i + 1 => by
    rw [evPro, List.pairwise_append]
    refine ⟨evPro_lt2 p i, ?_, fun a ha b hb => ?_⟩
    · split
      · exact evThr_lt2 _ _ _
      · exact List.Pairwise.nil
    · have := evPro_t ha
      split at hb
      · rw [Evt.lt2, evThr_t hb]; exact .inl this
      · cases hb
theorem events_lt2 {p : Prog} {a b : Nat} {ea eb : Evt} (ha : (events p)[a]? = some ea) (hb : (events p)[b]? = some eb) (h : a < b) : ea.lt2 eb := by
  obtain ⟨ha1, ha2⟩ := List.getElem?_eq_some_iff.1 ha
  obtain ⟨hb1, hb2⟩ := List.getElem?_eq_some_iff.1 hb
  have := List.pairwise_iff_getElem.1 (evPro_lt2 p p.length) a b ha1 hb1 h
  rw [← ha2, ← hb2]; exact this
/-- One event stands once. -/
theorem events_inj {p : Prog} {a b : Nat} {e : Evt} (ha : (events p)[a]? = some e) (hb : (events p)[b]? = some e) : a = b := by
  have no : ∀ {a b : Nat}, (events p)[a]? = some e → (events p)[b]? = some e → ¬ a < b := by
    intro a b ha hb h
    have := events_lt2 ha hb h
    simp only [Evt.lt2] at this
    rcases this with h1 | ⟨_, h1 | ⟨_, h1, h2⟩⟩
    · omega
    · omega
    · rw [h1] at h2; cases h2
  have h1 := no ha hb
  have h2 := no hb ha
  omega
theorem evThr_late {t : Nat} {l : List Do} {d : Do} {j : Nat} (hd : l[j]? = some d) (h9 : d.k = 9) : ∀ {k : Nat}, j < k → (evThr t l k)[(evThr t l j).length + 1]? = some ⟨t, j, true⟩
  | 0, h => absurd h (by omega)
  | k + 1, h => by
    rcases Nat.lt_or_ge j k with hj | hj
    · have := evThr_late (t := t) hd h9 hj
      rw [evThr, List.getElem?_append_left (List.getElem?_eq_some_iff.1 this).1]
      exact this
    · have : j = k := by omega
      subst this
      rw [evThr, hd, List.getElem?_append_right (by omega)]
      have : (d.k == 9) = true := by simpa using h9
      simp [evsOf, this]
theorem events_late {p : Prog} {l : List Do} {d : Do} {i j : Nat} (hl : p[i]? = some l) (hd : l[j]? = some d) (h9 : d.k = 9) : (events p)[(evPro p i).length + (evThr i l j).length + 1]? = some ⟨i, j, true⟩ := by
  rw [Nat.add_assoc]
  exact evPro_at (List.getElem?_eq_some_iff.1 hl).1 hl (evThr_late hd h9 (List.getElem?_eq_some_iff.1 hd).1)
theorem wait_next {p : Prog} {w : Nat} (hw : w < (events p).length) (h9 : kd (scene p).ds w = 9) (hl : ltA (events p) w = false) : w + 1 < (events p).length ∧ kd (scene p).ds (w + 1) = 9 ∧ ltA (events p) (w + 1) = true := by
  obtain ⟨i, l, j, d, ha⟩ := At.of (List.getElem?_eq_getElem hw)
  have hd9 : d.k = 9 := by rw [← ha.kd]; exact h9
  have hm := At.mk' ha.pl ha.ld
  have hlt := events_late ha.pl ha.ld hd9
  have he : (events p)[w] = ⟨i, j, false⟩ := by
    have h1 := ha.t
    have h2 := ha.s
    rw [ltA, ha.ev] at hl
    cases hev : (events p)[w] with
    | mk t s l0 =>
      rw [hev] at h1 h2 hl
      simp only [Option.getD_some] at hl h1 h2
      rw [h1, h2, hl]
  have hwm : w = (evPro p i).length + (evThr i l j).length := events_inj (by rw [ha.ev, he]) hm.ev
  rw [← hwm] at hlt
  refine ⟨(List.getElem?_eq_some_iff.1 hlt).1, ?_, by rw [ltA, hlt]; rfl⟩
  have : (scene p).ds[w + 1]? = some d := by rw [scene_get hlt]; simp [stepAt, ha.pl, ha.ld]
  rw [kd, this]; exact hd9
theorem wait_prev {p : Prog} {e : Nat} (he : e < (events p).length) (hl : ltA (events p) e = true) : ∃ w, e = w + 1 ∧ kd (scene p).ds w = 9 ∧ ltA (events p) w = false := by
  obtain ⟨i, l, j, d, ha⟩ := At.of (List.getElem?_eq_getElem he)
  have hl' : (events p)[e].l = true := by rw [ltA, ha.ev] at hl; exact hl
  have hd9 : d.k = 9 := ha.late hl'
  have hm := At.mk' ha.pl ha.ld
  have hlt := events_late ha.pl ha.ld hd9
  have hee : (events p)[e] = ⟨i, j, true⟩ := by
    have h1 := ha.t
    have h2 := ha.s
    cases hev : (events p)[e] with
    | mk t s l0 =>
      rw [hev] at h1 h2 hl'
      simp only at hl' h1 h2
      rw [h1, h2, hl']
  have hwm : e = (evPro p i).length + (evThr i l j).length + 1 := events_inj (by rw [ha.ev, hee]) hlt
  exact ⟨_, hwm, by rw [hm.kd]; exact hd9, by rw [ltA, hm.ev]; rfl⟩
/-- The choices as the reference goes through them. -/
def chRef (p : Prog) : Nat → List (Nat × Nat)
  | 0 => []
  | w + 1 => chRef p w ++ (if kd (scene p).ds w == 9 && !ltA (events p) w then chIn (scene p).ds (w + 1) (scene p).ds.length else [])
theorem ch_step {p : Prog} : ∀ {k : Nat}, k + 1 ≤ (events p).length → chOut (scene p) (k + 1) = chRef p k
  | 0, h => by
    have h0 : ltA (events p) 0 = false := by
      cases hl : ltA (events p) 0
      · rfl
      · obtain ⟨w, h1, _⟩ := wait_prev (p := p) (e := 0) (by omega) hl
        omega
    simp [chOut, chRef, show (scene p).es = events p from rfl, h0]
  | k + 1, h => by
    rw [chOut, chRef, ch_step (by omega)]
    congr 1
    have e : (kd (scene p).ds (k + 1) == 9 && ltA (scene p).es (k + 1)) = (kd (scene p).ds k == 9 && !ltA (events p) k) := by
      rw [show (scene p).es = events p from rfl, Bool.eq_iff_iff, Bool.and_eq_true, Bool.and_eq_true, Bool.not_eq_true', beq_iff_eq, beq_iff_eq]
      constructor
      · rintro ⟨_, h2⟩
        obtain ⟨w, h3, h4, h5⟩ := wait_prev (by omega) h2
        have : w = k := by omega
        subst this
        exact ⟨h4, h5⟩
      · rintro ⟨h1, h2⟩
        exact (wait_next (by omega) h1 h2).2
    rw [e]
theorem ch_all (p : Prog) : chOut (scene p) (events p).length = chRef p (events p).length := by
  cases hn : (events p).length with
  | zero => rfl
  | succ n =>
    rw [ch_step (by omega), chRef]
    have : (kd (scene p).ds n == 9 && !ltA (events p) n) = false := by
      cases h : (kd (scene p).ds n == 9 && !ltA (events p) n)
      · rfl
      · rw [Bool.and_eq_true, Bool.not_eq_true', beq_iff_eq] at h
        have := (wait_next (by omega) h.1 h.2).1
        omega
    rw [this]; simp
theorem chIn_mem {ds : List Do} {e : Nat} {q : Nat × Nat} : ∀ {j : Nat}, q ∈ chIn ds e j → q.1 = e ∧ q.2 < j ∧ kd ds q.2 = 7
  | 0, h => by simp [chIn] at h
  | j + 1, h => by
    rw [chIn, List.mem_append] at h
    rcases h with h | h
    · obtain ⟨h1, h2, h3⟩ := chIn_mem h
      exact ⟨h1, by omega, h3⟩
    · split at h
      · rename_i h7
        obtain rfl := List.mem_singleton.1 h
        exact ⟨rfl, by simp, by simpa using h7⟩
      · cases h
theorem chRef_mem {p : Prog} {q : Nat × Nat} : ∀ {k : Nat}, q ∈ chRef p k → k ≤ (events p).length → 1 ≤ q.1 ∧ q.1 < (events p).length ∧ q.2 < (events p).length ∧ kd (scene p).ds q.2 = 7
  | 0, h, _ => by simp [chRef] at h
  | k + 1, h, hk => by
    rw [chRef, List.mem_append] at h
    rcases h with h | h
    · exact chRef_mem h (by omega)
    · split at h
      · rename_i h9
        rw [Bool.and_eq_true, Bool.not_eq_true', beq_iff_eq] at h9
        obtain ⟨h1, h2, h3⟩ := chIn_mem h
        have := (wait_next (by omega) h9.1 h9.2).1
        have hsl : (scene p).ds.length = (events p).length := by simp [scene]
        exact ⟨by omega, by omega, by omega, h3⟩
      · cases h
/-- Where a reader goes out. -/
def outA (p : Prog) (i : Nat) : Nat := ((List.range (events p).length).find? fun k => decide (i < k) && ownB (events p) i k && kd (scene p).ds k == 8).getD 0
theorem outA_eq {p : Prog} {i t : Nat} (h : Quiet p i t) (h8 : kd (scene p).ds t = 8) : (List.range (events p).length).find? (fun k => decide (i < k) && ownB (events p) i k && kd (scene p).ds k == 8) = some t := by
  refine find_some h.tl ?_ fun j hj => ?_
  · have := h.same
    simp only [th] at this
    simp [h.lt, h8, ownB, this]
  · by_cases hij : i < j
    · have := (h.no j hij hj).2.1
      simp [this]
    · simp [hij]
theorem outA_spec {p : Prog} (h : progOk p = true) {i : Nat} (hi : i < (events p).length) (h7 : kd (scene p).ds i = 7) : Quiet p i (outA p i) ∧ kd (scene p).ds (outA p i) = 8 := by
  obtain ⟨t, h1, h2⟩ := in_out h hi h7
  have : outA p i = t := by rw [outA, outA_eq h1 h2]; rfl
  rw [this]; exact ⟨h1, h2⟩
/-- The net of an order with all that is added; none if it does not hold. -/
def settledS (p : Prog) (x : Exe) (kind : Int) : Option (Nat → Nat → Bool) :=
  if (lineE (netR p x 0) (events p).length).isSome then settleR (events p).length (outA p) (chRef p (events p).length) (netR p x kind) else none
end Go.Proofs.YtfdbminedccccaaGreatDoor
/-! ## The reference: who waits -/
namespace Go.Proofs.YtfdbminedccccaaGreatDoor
open Go.RowKit
set_option linter.unusedSimpArgs false
set_option linter.unusedVariables false
set_option pp.maxSteps 3000

theorem oouts_fn (p : Prog) (g : Nat) (c2 c3 c4 c5 : V) (hok : progOk p = true) (i : Nat) (hi : i < (events p).length) (h7 : kd (scene p).ds i = 7) :
    Fo Tryz.prog 73 [.int .i64 i] g 6 (ordV p g c2 c3 c4 c5) (.int .i64 (outA p i)) := by
  obtain ⟨hq, h8⟩ := outA_spec hok hi h7
  have hel := events_le hok
  obtain ⟨t, ht⟩ : ∃ t, outA p i = t := ⟨_, rfl⟩
  rw [ht] at hq h8 ⊢
  have hdo := fun a ha => odo_fn p g c2 c3 c4 c5 a ha
  have hown := fun a b ha hb => oown_fn p g c2 c3 c4 c5 a b ha hb
  have hlt := hq.lt
  have htl := hq.tl
  rw [ordV_eq] at hdo hown ⊢
  refine Fc.start (S := []) Tryz.func73 Tryz.ntmps73 Tryz.results73 rfl (by decide) rfl (by kernel_rfl) ?_
  simp (maxSteps := 1000000) (disch := omega) only [push_cast, go_sem, wpS_tt, wpS_tf, wpS_ft, wpS_ff, wpCond_tt, wpCond_ff, simprocAttr]
  refine Sat.loop (σ := Nat) (fun k => upd (upd (upd noT 0 (.ptr 0 [] 0 0 g 6)) 1 (.int .i64 i)) 5 (.int .i64 k)) (fun k => (noM.set 0 (.own 74 (some g) 1 [.agg [.sl (p.map thrV), .sl ((events p).map Evt.V), c2, c3, c4, c5]])))
    (fun k => i < k ∧ k ≤ t) (fun k => t - k) (i + 1) ⟨by omega, by omega⟩ ?_ ?_
  · (refine Less.start ?_; repeat (first | exact LessO.nil | exact LessO.all | refine LessO.skip (by decide) ?_ | refine LessO.upd ?_ ?_ | refine LessO.set ?_ ?_)) <;> (try simp (maxSteps := 1000000) (disch := omega) only [push_cast, go_sem, wpS_tt, wpS_tf, wpS_ft, wpS_ff, wpCond_tt, wpCond_ff, simprocAttr])
  rintro k ⟨hk, hkt⟩ J hJ
  refine Sat.of (S := []) (by kernel_rfl) ?_
  have hkn : k < (events p).length := by omega
  have how : ownB (events p) i k = true := by
    have hs : th (events p) i = th (events p) k := by
      rcases Nat.lt_or_ge k t with h | h
      · exact ((hq.no k hk h).2.2).symm
      · have : k = t := by omega
        subst this; exact hq.same
    simp only [th] at hs
    simp [ownB, hk, hs]
  have hd := hdo k hkn
  rw [Do.V_eq] at hd
  simp (maxSteps := 1000000) (disch := omega) only [push_cast, go_sem, wpS_tt, wpS_tf, wpS_ft, wpS_ff, wpCond_tt, wpCond_ff, simprocAttr, hkn]
  refine callR.look (hown i k hi hkn) rfl rfl rfl ?_
  rw [how]
  simp (maxSteps := 1000000) (disch := omega) only [push_cast, go_sem, wpS_tt, wpS_tf, wpS_ft, wpS_ff, wpCond_tt, wpCond_ff, simprocAttr]
  refine callR.look hd rfl rfl rfl ?_
  rcases Nat.lt_or_ge k t with h | h
  · have h8' : ((dsA p k).k == 8) = false := by
      have := (hq.no k hk h).2.1
      simpa [kd, dsA] using this
    simp (maxSteps := 1000000) (disch := omega) only [push_cast, go_sem, wpS_tt, wpS_tf, wpS_ft, wpS_ff, wpCond_tt, wpCond_ff, simprocAttr, h8']
    refine hJ (k + 1) _ _ ⟨by omega, by omega⟩ (by omega) ?_
    (refine Less.start ?_; repeat (first | exact LessO.nil | exact LessO.all | refine LessO.skip (by decide) ?_ | refine LessO.upd ?_ ?_ | refine LessO.set ?_ ?_)) <;> (try simp (maxSteps := 1000000) (disch := omega) only [push_cast, go_sem, wpS_tt, wpS_tf, wpS_ft, wpS_ff, wpCond_tt, wpCond_ff, simprocAttr])
  · have : k = t := by omega
    subst this
    have h8' : ((dsA p k).k == 8) = true := by simpa [kd, dsA] using h8
    simp (maxSteps := 1000000) (disch := omega) only [push_cast, go_sem, wpS_tt, wpS_tf, wpS_ft, wpS_ff, wpCond_tt, wpCond_ff, simprocAttr, h8']
    refine ⟨_, ?_, rfl⟩
    ((repeat (first | exact Sub.no | refine Sub.set ?_ ?_)) <;> (try simp (disch := omega) only [push_cast, go_sem, wpS_tt, wpS_tf, wpS_ft, wpS_ff, wpCond_tt, wpCond_ff, simprocAttr]))
theorem chIn_pre (ds : List Do) (e : Nat) {j : Nat} (h7 : kd ds j = 7) : ∀ {n : Nat}, j < n → ∃ r, chIn ds e n = chIn ds e j ++ (e, j) :: r
  | 0, h => absurd h (by omega)
  | n + 1, h => by
    rcases Nat.lt_or_ge j n with hj | hj
    · obtain ⟨r, hr⟩ := chIn_pre ds e h7 hj
      exact ⟨r ++ (if kd ds n == 7 then [(e, n)] else []), by rw [chIn, hr]; simp⟩
    · have : j = n := by omega
      subst this
      exact ⟨[], by rw [chIn, h7]; rfl⟩
theorem chRef_pre {p : Prog} {w j : Nat} (h9 : kd (scene p).ds w = 9) (hl : ltA (events p) w = false) (h7 : kd (scene p).ds j = 7) (hj : j < (scene p).ds.length) : ∀ {n : Nat}, w < n → ∃ r, chRef p n = (chRef p w ++ chIn (scene p).ds (w + 1) j) ++ (w + 1, j) :: r
  | 0, h => absurd h (by omega)
  | n + 1, h => by
    rcases Nat.lt_or_ge w n with hw | hw
    · obtain ⟨r, hr⟩ := chRef_pre h9 hl h7 hj hw
      exact ⟨r ++ (if kd (scene p).ds n == 9 && !ltA (events p) n then chIn (scene p).ds (n + 1) (scene p).ds.length else []), by rw [chRef, hr]; simp⟩
    · have : w = n := by omega
      subst this
      obtain ⟨r, hr⟩ := chIn_pre (scene p).ds (w + 1) h7 hj
      exact ⟨r, by rw [chRef, h9, hl]; simp [hr]⟩
theorem chIn_succ (ds : List Do) (e j : Nat) : (chIn ds e (j + 1)).length = (chIn ds e j).length + (if kd ds j == 7 then 1 else 0) := by
  rw [chIn, List.length_append]; split <;> rfl
theorem chRef_succ (p : Prog) (w : Nat) : (chRef p (w + 1)).length = (chRef p w).length + (if kd (scene p).ds w == 9 && !ltA (events p) w then (chIn (scene p).ds (w + 1) (scene p).ds.length).length else 0) := by
  rw [chRef, List.length_append]; split <;> rfl
theorem chRef_le (p : Prog) (hn : (scene p).ds.length ≤ 62) : ∀ k, (chRef p k).length ≤ k * 62
  | 0 => by simp [chRef]
  | k + 1 => by
    have h1 := chRef_le p hn k
    have h2 := chIn_le (scene p).ds (k + 1) (scene p).ds.length
    rw [chRef_succ]
    split <;> omega
theorem owaits_fn (p : Prog) (g : Nat) (c4 c5 : V) (hok : progOk p = true) : ∀ (m frm : Nat) (R : Nat → Nat → Bool), (chRef p (events p).length).length - frm = m → frm ≤ (chRef p (events p).length).length →
    Fo Tryz.prog 38 [netE (netL R (events p).length), .int .i64 frm] g 6 (ordV p g (rdsV p) (wrtV p) c4 c5) (.bool (settleR (events p).length (outA p) ((chRef p (events p).length).drop frm) R).isSome) := by
  have hel := events_le hok
  have hsl : (scene p).ds.length = (events p).length := by simp [scene]
  have hcl := chRef_le p (by omega) (events p).length
  have hdo := fun a ha => odo_fn p g (rdsV p) (wrtV p) c4 c5 a ha
  have hout := fun i hi h7 => oouts_fn p g (rdsV p) (wrtV p) c4 c5 hok i hi h7
  have hpre := @chRef_pre p
  have hoq := fun i hi h7 => (outA_spec hok (i := i) hi h7).1.tl
  have hnx := @wait_next p
  rw [ordV_eq, rdsV_eq, wrtV_eq] at hdo hout
  obtain ⟨n, hnn⟩ : ∃ n, (events p).length = n := ⟨_, rfl⟩
  rw [hnn] at hsl hel hcl hdo hout hoq hnx ⊢
  obtain ⟨CL, hCL⟩ : ∃ l, chRef p n = l := ⟨_, rfl⟩
  rw [hCL] at hcl ⊢
  intro m
  induction m using Nat.strongRecOn with
  | _ m ih =>
  intro frm R hm hfl
  have hho := holds_fn R n (by omega)
  rw [ordV_eq, rdsV_eq, wrtV_eq] at ih ⊢
  rw [netE_eq] at hho
  refine Fc.start (S := []) Tryz.func38 Tryz.ntmps38 Tryz.results38 rfl (by decide) rfl (by kernel_rfl) ?_
  simp (maxSteps := 1000000) (disch := omega) only [push_cast, go_sem, wpS_tt, wpS_tf, wpS_ft, wpS_ff, wpCond_tt, wpCond_ff, simprocAttr, netE_eq]
  refine callR.pure hho rfl rfl ?_
  cases hl : lineE R n with
  | none =>
    simp (maxSteps := 1000000) (disch := omega) only [push_cast, go_sem, wpS_tt, wpS_tf, wpS_ft, wpS_ff, wpCond_tt, wpCond_ff, simprocAttr, Option.isSome_none]
    rw [settle_no hl]
    refine ⟨_, ?_, rfl, rfl⟩
    ((repeat (first | exact Sub.no | refine Sub.set ?_ ?_)) <;> (try simp (disch := omega) only [push_cast, go_sem, wpS_tt, wpS_tf, wpS_ft, wpS_ff, wpCond_tt, wpCond_ff, simprocAttr]))
  | some ls =>
    simp (maxSteps := 1000000) (disch := omega) only [push_cast, go_sem, wpS_tt, wpS_tf, wpS_ft, wpS_ff, wpCond_tt, wpCond_ff, simprocAttr, Option.isSome_some]
    refine Sat.loop (σ := Nat) (fun w => upd (upd (upd (upd (upd noT 0 (.ptr 0 [] 0 0 g 6)) 1 (.eptr [.sl ((netL R n).map boolsV)])) 2 (.int .i64 frm)) 7 (.int .i64 (chRef p w).length)) 8 (.int .i64 w)) (fun w => noM.set 0 (.own 74 (some g) 1 [.agg [.sl (p.map thrV), .sl ((events p).map Evt.V), .sl ((scene p).ds.map fun d => .bool d.reads), .sl ((scene p).ds.map fun d => .bool d.writes), c4, c5]]))
      (fun w => w ≤ n ∧ (chRef p w).length ≤ frm) (fun w => n - w) 0 ⟨by omega, by simp [chRef]⟩ ?_ ?_
    · (refine Less.start ?_; repeat (first | exact LessO.nil | exact LessO.all | refine LessO.skip (by decide) ?_ | refine LessO.upd ?_ ?_ | refine LessO.set ?_ ?_)) <;> (try simp (maxSteps := 1000000) (disch := omega) only [push_cast, go_sem, wpS_tt, wpS_tf, wpS_ft, wpS_ff, wpCond_tt, wpCond_ff, simprocAttr])
      all_goals simp [chRef]
    rintro w ⟨hw, hwf⟩ J hJ
    refine Sat.of (S := []) (by kernel_rfl) ?_
    rcases Nat.lt_or_ge w n with hlt | hge
    · obtain ⟨ew, hew⟩ : ∃ e, (events p)[w]? = some e := ⟨_, List.getElem?_eq_getElem (by omega)⟩
      have hwe : w < (events p).length := by omega
      have hkw : kd (scene p).ds w = (dsA p w).k := rfl
      have hlw : ltA (events p) w = ew.l := by rw [ltA, hew]; rfl
      have hdw := hdo w hlt
      rw [Do.V_eq] at hdw
      simp (maxSteps := 1000000) (disch := omega) only [push_cast, go_sem, wpS_tt, wpS_tf, wpS_ft, wpS_ff, wpCond_tt, wpCond_ff, simprocAttr, hlt, hnn]
      refine callR.look hdw rfl rfl rfl ?_
      cases h9 : ((dsA p w).k == 9)
      · have h9' : ((dsA p w).k != 9) = true := by simp [bne, h9]
        simp (maxSteps := 1000000) (disch := omega) only [push_cast, go_sem, wpS_tt, wpS_tf, wpS_ft, wpS_ff, wpCond_tt, wpCond_ff, simprocAttr, h9']
        have hcs : (chRef p (w + 1)).length = (chRef p w).length := by rw [chRef_succ, hkw, h9]; simp
        refine hJ (w + 1) _ _ ⟨by omega, by omega⟩ (by omega) ?_
        rw [hcs]
        (refine Less.start ?_; repeat (first | exact LessO.nil | exact LessO.all | refine LessO.skip (by decide) ?_ | refine LessO.upd ?_ ?_ | refine LessO.set ?_ ?_)) <;> (try simp (maxSteps := 1000000) (disch := omega) only [push_cast, go_sem, wpS_tt, wpS_tf, wpS_ft, wpS_ff, wpCond_tt, wpCond_ff, simprocAttr])
      have h9' : ((dsA p w).k != 9) = false := by simp [bne, h9]
      cases hll : ew.l
      rotate_left
      · simp (maxSteps := 1000000) (disch := omega) only [push_cast, go_sem, wpS_tt, wpS_tf, wpS_ft, wpS_ff, wpCond_tt, wpCond_ff, simprocAttr, h9', hew, hwe, Evt.V_eq, hll]
        have hcs : (chRef p (w + 1)).length = (chRef p w).length := by rw [chRef_succ, hlw, hll]; simp
        refine hJ (w + 1) _ _ ⟨by omega, by omega⟩ (by omega) ?_
        rw [hcs]
        (refine Less.start ?_; repeat (first | exact LessO.nil | exact LessO.all | refine LessO.skip (by decide) ?_ | refine LessO.upd ?_ ?_ | refine LessO.set ?_ ?_)) <;> (try simp (maxSteps := 1000000) (disch := omega) only [push_cast, go_sem, wpS_tt, wpS_tf, wpS_ft, wpS_ff, wpCond_tt, wpCond_ff, simprocAttr])
      simp (maxSteps := 1000000) (disch := omega) only [push_cast, go_sem, wpS_tt, wpS_tf, wpS_ft, wpS_ff, wpCond_tt, wpCond_ff, simprocAttr, h9', hew, hwe, Evt.V_eq, hll]
      have h9k : kd (scene p).ds w = 9 := by rw [hkw]; simpa using h9
      have hlwf : ltA (events p) w = false := by rw [hlw, hll]
      have hw1 := (hnx hlt h9k hlwf).1
      refine Sat.loop (σ := Nat) (fun j => upd (upd (upd (upd (upd (upd noT 0 (.ptr 0 [] 0 0 g 6)) 1 (.eptr [.sl ((netL R n).map boolsV)])) 2 (.int .i64 frm)) 7 (.int .i64 ((chRef p w).length + (chIn (scene p).ds (w + 1) j).length : Nat))) 8 (.int .i64 w)) 9 (.int .i64 j)) (fun _ => noM.set 0 (.own 74 (some g) 1 [.agg [.sl (p.map thrV), .sl ((events p).map Evt.V), .sl ((scene p).ds.map fun d => .bool d.reads), .sl ((scene p).ds.map fun d => .bool d.writes), c4, c5]]))
        (fun j => j ≤ n ∧ (chRef p w).length + (chIn (scene p).ds (w + 1) j).length ≤ frm) (fun j => n - j) 0 ⟨by omega, by simpa [chIn] using hwf⟩ ?_ ?_
      · (refine Less.start ?_; repeat (first | exact LessO.nil | exact LessO.all | refine LessO.skip (by decide) ?_ | refine LessO.upd ?_ ?_ | refine LessO.set ?_ ?_)) <;> (try simp (maxSteps := 1000000) (disch := omega) only [push_cast, go_sem, wpS_tt, wpS_tf, wpS_ft, wpS_ff, wpCond_tt, wpCond_ff, simprocAttr])
        all_goals simp [chIn]
      rintro j ⟨hj, hjf⟩ J2 hJ2
      refine Sat.of (S := []) (by kernel_rfl) ?_
      have hcw := chRef_le p (by omega) w
      have hci := chIn_le (scene p).ds (w + 1) j
      rcases Nat.lt_or_ge j n with hlt2 | hge2
      · have hkj : kd (scene p).ds j = (dsA p j).k := rfl
        have hdj := hdo j hlt2
        rw [Do.V_eq] at hdj
        simp (maxSteps := 1000000) (disch := omega) only [push_cast, go_sem, wpS_tt, wpS_tf, wpS_ft, wpS_ff, wpCond_tt, wpCond_ff, simprocAttr, hlt2, hnn]
        refine callR.look hdj rfl rfl rfl ?_
        cases h7 : ((dsA p j).k == 7)
        · have h7' : ((dsA p j).k != 7) = true := by simp [bne, h7]
          simp (maxSteps := 1000000) (disch := omega) only [push_cast, go_sem, wpS_tt, wpS_tf, wpS_ft, wpS_ff, wpCond_tt, wpCond_ff, simprocAttr, h7']
          have hcs : (chIn (scene p).ds (w + 1) (j + 1)).length = (chIn (scene p).ds (w + 1) j).length := by rw [chIn_succ, hkj, h7]; simp
          refine hJ2 (j + 1) _ _ ⟨by omega, by omega⟩ (by omega) ?_
          rw [hcs]
          (refine Less.start ?_; repeat (first | exact LessO.nil | exact LessO.all | refine LessO.skip (by decide) ?_ | refine LessO.upd ?_ ?_ | refine LessO.set ?_ ?_)) <;> (try simp (maxSteps := 1000000) (disch := omega) only [push_cast, go_sem, wpS_tt, wpS_tf, wpS_ft, wpS_ff, wpCond_tt, wpCond_ff, simprocAttr])
        have h7' : ((dsA p j).k != 7) = false := by simp [bne, h7]
        have h7k : kd (scene p).ds j = 7 := by rw [hkj]; simpa using h7
        rcases Nat.lt_or_ge ((chRef p w).length + (chIn (scene p).ds (w + 1) j).length) frm with hcf | hcf
        · have hng : ¬ ((frm : Int) < ((chRef p w).length : Int) + ((chIn (scene p).ds (w + 1) j).length : Int) + 1) := by omega
          simp (maxSteps := 1000000) (disch := omega) only [push_cast, go_sem, wpS_tt, wpS_tf, wpS_ft, wpS_ff, wpCond_tt, wpCond_ff, simprocAttr, h7', hng]
          have hcs : (chIn (scene p).ds (w + 1) (j + 1)).length = (chIn (scene p).ds (w + 1) j).length + 1 := by rw [chIn_succ, hkj, h7]; simp
          refine hJ2 (j + 1) _ _ ⟨by omega, by omega⟩ (by omega) ?_
          rw [hcs]
          (refine Less.start ?_; repeat (first | exact LessO.nil | exact LessO.all | refine LessO.skip (by decide) ?_ | refine LessO.upd ?_ ?_ | refine LessO.set ?_ ?_)) <;> (try simp (maxSteps := 1000000) (disch := omega) only [push_cast, go_sem, wpS_tt, wpS_tf, wpS_ft, wpS_ff, wpCond_tt, wpCond_ff, simprocAttr])
          all_goals omega
        · have hg : ((frm : Int) < ((chRef p w).length : Int) + ((chIn (scene p).ds (w + 1) j).length : Int) + 1) := by omega
          obtain ⟨r, hr⟩ := hpre h9k hlwf h7k (by omega) hlt
          rw [hCL] at hr
          have hfe : frm = (chRef p w ++ chIn (scene p).ds (w + 1) j).length := by rw [List.length_append]; omega
          have hd0 : CL.drop frm = (w + 1, j) :: r := by rw [hr, hfe]; exact List.drop_left
          have hd1 : CL.drop (frm + 1) = r := by rw [← List.drop_drop, hd0]; rfl
          have hfl1 : frm + 1 ≤ CL.length := by rw [hr, List.length_append, ← hfe]; simp
          have ho := hout j hlt2 h7k
          have hoj := hoq j hlt2 h7k
          have hw2 := nwith_fn R n (outA p j) (w + 1) (by omega) hoj hw1
          have hw3 := nwith_fn R n w j (by omega) hlt hlt2
          have ih1 := ih (m - 1) (by omega) (frm + 1) (wiR R (outA p j) (w + 1)) (by omega) hfl1
          have ih2 := ih (m - 1) (by omega) (frm + 1) (wiR R w j) (by omega) hfl1
          rw [hd1, netE_eq] at ih1 ih2
          rw [show ((frm + 1 : Nat) : Int) = (frm : Int) + 1 by omega] at ih1 ih2
          rw [show ((w + 1 : Nat) : Int) = (w : Int) + 1 by omega] at hw2
          rw [netE_eq, netE_eq] at hw2 hw3
          have hset : settleR n (outA p) (CL.drop frm) R = (settleR n (outA p) r (wiR R (outA p j) (w + 1))).or (settleR n (outA p) r (wiR R w j)) := by rw [hd0, settleR, hl]; rfl
          rw [hset]
          simp (maxSteps := 1000000) (disch := omega) only [push_cast, go_sem, wpS_tt, wpS_tf, wpS_ft, wpS_ff, wpCond_tt, wpCond_ff, simprocAttr, h7', hg]
          refine callR.look ho rfl rfl rfl ?_
          simp (maxSteps := 1000000) (disch := omega) only [push_cast, go_sem, wpS_tt, wpS_tf, wpS_ft, wpS_ff, wpCond_tt, wpCond_ff, simprocAttr]
          refine callR.pure hw2 rfl rfl ?_
          simp (maxSteps := 1000000) (disch := omega) only [push_cast, go_sem, wpS_tt, wpS_tf, wpS_ft, wpS_ff, wpCond_tt, wpCond_ff, simprocAttr]
          refine callR.look ih1 rfl rfl rfl ?_
          cases hs1 : settleR n (outA p) r (wiR R (outA p j) (w + 1)) with
          | some r1 =>
            simp (maxSteps := 1000000) (disch := omega) only [push_cast, go_sem, wpS_tt, wpS_tf, wpS_ft, wpS_ff, wpCond_tt, wpCond_ff, simprocAttr, Option.isSome_some]
            refine ⟨_, ?_, rfl, rfl⟩
            ((repeat (first | exact Sub.no | refine Sub.set ?_ ?_)) <;> (try simp (disch := omega) only [push_cast, go_sem, wpS_tt, wpS_tf, wpS_ft, wpS_ff, wpCond_tt, wpCond_ff, simprocAttr]))
          | none =>
            simp (maxSteps := 1000000) (disch := omega) only [push_cast, go_sem, wpS_tt, wpS_tf, wpS_ft, wpS_ff, wpCond_tt, wpCond_ff, simprocAttr, Option.isSome_none]
            refine callR.pure hw3 rfl rfl ?_
            simp (maxSteps := 1000000) (disch := omega) only [push_cast, go_sem, wpS_tt, wpS_tf, wpS_ft, wpS_ff, wpCond_tt, wpCond_ff, simprocAttr]
            refine callR.look ih2 rfl rfl rfl ?_
            simp (maxSteps := 1000000) (disch := omega) only [push_cast, go_sem, wpS_tt, wpS_tf, wpS_ft, wpS_ff, wpCond_tt, wpCond_ff, simprocAttr]
            refine ⟨_, ?_, rfl, rfl⟩
            ((repeat (first | exact Sub.no | refine Sub.set ?_ ?_)) <;> (try simp (disch := omega) only [push_cast, go_sem, wpS_tt, wpS_tf, wpS_ft, wpS_ff, wpCond_tt, wpCond_ff, simprocAttr]))
      · have : j = n := by omega
        subst this
        simp (maxSteps := 1000000) (disch := omega) only [push_cast, go_sem, wpS_tt, wpS_tf, wpS_ft, wpS_ff, wpCond_tt, wpCond_ff, simprocAttr, hnn]
        have hcs : (chRef p (w + 1)).length = (chRef p w).length + (chIn (scene p).ds (w + 1) j).length := by rw [chRef_succ, hkw, h9, hlwf, hsl]; simp
        refine hJ (w + 1) _ _ ⟨by omega, by omega⟩ (by omega) ?_
        rw [hcs]
        (refine Less.start ?_; repeat (first | exact LessO.nil | exact LessO.all | refine LessO.skip (by decide) ?_ | refine LessO.upd ?_ ?_ | refine LessO.set ?_ ?_)) <;> (try simp (maxSteps := 1000000) (disch := omega) only [push_cast, go_sem, wpS_tt, wpS_tf, wpS_ft, wpS_ff, wpCond_tt, wpCond_ff, simprocAttr])
    · have : w = n := by omega
      subst this
      simp (maxSteps := 1000000) (disch := omega) only [push_cast, go_sem, wpS_tt, wpS_tf, wpS_ft, wpS_ff, wpCond_tt, wpCond_ff, simprocAttr, hnn]
      have : frm = CL.length := by rw [hCL] at hwf; omega
      rw [this, List.drop_length, settleR, hl]
      refine ⟨_, ?_, rfl, rfl⟩
      ((repeat (first | exact Sub.no | refine Sub.set ?_ ?_)) <;> (try simp (disch := omega) only [push_cast, go_sem, wpS_tt, wpS_tf, wpS_ft, wpS_ff, wpCond_tt, wpCond_ff, simprocAttr]))
end Go.Proofs.YtfdbminedccccaaGreatDoor
/-! ## OrderHolds, by the program -/
namespace Go.Proofs.YtfdbminedccccaaGreatDoor
open Go.RowKit
set_option linter.unusedSimpArgs false
set_option linter.unusedVariables false
set_option pp.maxSteps 3000

theorem insideA_fn {p : Prog} (h : progOk p = true) (i : Nat) (hi : i < (scene p).ds.length) (h7 : kd (scene p).ds i = 7) :
    Fp Tryz.prog 89 [(scene p).V, .int .i64 i] (.tuple [.int .i64 i, .int .i64 (outA p i), .bool true]) := by
  have hsl : (scene p).ds.length = (events p).length := by simp [scene]
  have hel := events_le h
  obtain ⟨h1, h2⟩ := outA_spec h (by omega) h7
  have hbk : bkI (scene p).es (scene p).ds i i = some i := by
    cases i with
    | zero => rw [bkI, h7]; rfl
    | succ i => rw [bkI, h7]; rfl
  have := inside_fn (scene p) i (outA p i) hi (by omega) (scene_len p) (fun f hf => by rw [hbk] at hf; cases hf; exact h1.out h7 h2)
  rw [hbk, insR] at this
  have hle : decide (i ≤ outA p i) = true := by have := h1.lt; simp; omega
  rw [hle] at this
  exact this
theorem settled_fn (p : Prog) (x : Exe) (kind : Int) (hw : Way p x) (hx : x.small) (hk : inB kind 1 3 = true) :
    Fp Tryz.prog 30 [(scene p).V, x.V, .int .i64 kind] (settleV (events p).length (settledS p x kind)) := by
  have hpk := hw.ok
  have hel := events_le hpk
  have hsl : (scene p).ds.length = (events p).length := by simp [scene]
  have hes : (scene p).es = events p := rfl
  obtain ⟨n, hnn⟩ : ∃ n, (events p).length = n := ⟨_, rfl⟩
  have hg1 := graphOf_fn (scene p) (by rw [hes]; omega) 54 [.eptr (scC (scene p)), .eptr (exC x)] (netR p x 0) rfl (Nat.le_of_ble_eq_true rfl) (fun a b ha hb => set1_fn p x a b hw hx ha hb)
  have hg2 := graphOf_fn (scene p) (by rw [hes]; omega) 58 [.eptr (scC (scene p)), .eptr (exC x), .eptr [.int .i64 kind]] (netR p x kind) rfl (Nat.le_of_ble_eq_true rfl) (fun a b ha hb => set2_fn p x kind a b hw hx hk ha hb)
  have hch := choices_fn (scene p) (by omega) (scene_len p) (outA p) (fun i hi h7 => insideA_fn hpk i hi h7)
  have hlen := chOut_le (scene p) (by omega) (scene p).ds.length
  rw [hsl, ch_all] at hch hlen
  have hset := settle_fn (events p).length (by omega) (outA p) (chRef p (events p).length) (netR p x kind) (by omega) (fun q hq => by
    obtain ⟨q1, q2, q3, q4⟩ := chRef_mem hq (Nat.le_refl _)
    exact ⟨q1, q2, q3, (outA_spec hpk q3 q4).1.tl⟩)
  have hl := lineR_fn (netR p x 0) (events p).length (by omega)
  rw [settledS]
  rw [hes, Sc.V_eq, scC_eq, exC_eq] at hg1 hg2
  rw [Sc.V_eq] at hch
  rw [hnn] at hel hg1 hg2 hch hlen hset hl ⊢
  rw [bitsV_eq] at hg1 hg2 hset hl
  refine Fp.nilT ?_
  refine Fc.start (S := [1]) Tryz.func30 Tryz.ntmps30 Tryz.results30 rfl (by decide) rfl (by kernel_rfl) ?_
  simp (maxSteps := 1000000) (disch := omega) only [push_cast, go_sem, wpS_tt, wpS_tf, wpS_ft, wpS_ff, wpCond_tt, wpCond_ff, simprocAttr, Sc.V_eq, Exe.V_eq]
  intro g3 g4 g5
  refine Sat.fixP (o := 3) (g := g3) (e := 57) (cap := 1) (es := [.agg [.sl ((scene p).p.map thrV), .sl ((scene p).es.map Evt.V), .sl ((scene p).ds.map Do.V)]]) (T := upd (upd (upd noT 3 (.eptr [.sl ((scene p).p.map thrV), .sl ((scene p).es.map Evt.V), .sl ((scene p).ds.map Do.V)])) 4 (.ptr 4 [] 0 0 g4 2)) 5 (.ptr 5 [] 0 0 g5 1)) rfl ?_ ?_
  · exact Fx.upd (Fx.upd (Fx.ptr Fx.nil rfl rfl (by kernel_rfl) rfl) rfl) rfl
  refine Sat.fixP (o := 4) (g := g4) (e := 29) (cap := 1) (es := [.agg [.sl (x.fr.map (V.int .i64)), .sl (x.od.map intsV)]]) (T := upd (upd (upd noT 3 (.eptr [.sl ((scene p).p.map thrV), .sl ((scene p).es.map Evt.V), .sl ((scene p).ds.map Do.V)])) 4 (.eptr [.sl (x.fr.map (V.int .i64)), .sl (x.od.map intsV)])) 5 (.ptr 5 [] 0 0 g5 1)) rfl ?_ ?_
  · exact Fx.upd (Fx.ptr (Fx.upd Fx.nil rfl) rfl rfl (by kernel_rfl) rfl) rfl
  refine Sat.fixP (o := 5) (g := g5) (e := 3) (cap := 1) (es := [.int .i64 kind]) (T := upd (upd (upd noT 3 (.eptr [.sl ((scene p).p.map thrV), .sl ((scene p).es.map Evt.V), .sl ((scene p).ds.map Do.V)])) 4 (.eptr [.sl (x.fr.map (V.int .i64)), .sl (x.od.map intsV)])) 5 (.eptr [.int .i64 kind])) rfl ?_ ?_
  · exact Fx.ptr (Fx.upd (Fx.upd Fx.nil rfl) rfl) rfl rfl (by kernel_rfl) rfl
  refine Sat.of (S := []) (by kernel_rfl) ?_
  simp (maxSteps := 1000000) (disch := omega) only [push_cast, go_sem, wpS_tt, wpS_tf, wpS_ft, wpS_ff, wpCond_tt, wpCond_ff, simprocAttr]
  refine callR.pure hg1 rfl rfl ?_
  simp (maxSteps := 1000000) (disch := omega) only [push_cast, go_sem, wpS_tt, wpS_tf, wpS_ft, wpS_ff, wpCond_tt, wpCond_ff, simprocAttr]
  refine callR.pure hl rfl rfl ?_
  cases hl0 : lineE (netR p x 0) n with
  | none =>
    simp (maxSteps := 1000000) (disch := omega) only [push_cast, go_sem, wpS_tt, wpS_tf, wpS_ft, wpS_ff, wpCond_tt, wpCond_ff, simprocAttr, no_line]
    right
    exact ⟨6, [], .bool false, rfl, rfl⟩
  | some ls =>
    simp (maxSteps := 1000000) (disch := omega) only [push_cast, go_sem, wpS_tt, wpS_tf, wpS_ft, wpS_ff, wpCond_tt, wpCond_ff, simprocAttr, ok_line]
    cases hr : settleR n (outA p) (chRef p n) (netR p x kind) with
    | none =>
      rw [hr, no_settle] at hset
      refine Sat.drawnE [] [] [0, 2, 3, 4, 5] (pureT [(42, .sl ((graphL (netR p x kind) n).map bitE)), (60, .sl ((chRef p n).map (chE (outA p)))), (59, .tuple [.nilsl, .bool false])]) (by kernel_rfl) (by kernel_rfl) ?_
      simp (maxSteps := 1000000) (disch := omega) only [push_cast, go_sem, wpS_tt, wpS_tf, wpS_ft, wpS_ff, wpCond_tt, wpCond_ff, simprocAttr]
      refine runD_pure rfl hg2 rfl rfl ?_ ?_
      · rfl
      simp (maxSteps := 1000000) (disch := omega) only [push_cast, go_sem, wpS_tt, wpS_tf, wpS_ft, wpS_ff, wpCond_tt, wpCond_ff, simprocAttr]
      refine runD_pure rfl hch rfl rfl ?_ ?_
      · rfl
      simp (maxSteps := 1000000) (disch := omega) only [push_cast, go_sem, wpS_tt, wpS_tf, wpS_ft, wpS_ff, wpCond_tt, wpCond_ff, simprocAttr]
      refine runD_pure rfl hset rfl rfl ?_ ?_
      · rfl
      simp (maxSteps := 1000000) (disch := omega) only [push_cast, go_sem, wpS_tt, wpS_tf, wpS_ft, wpS_ff, wpCond_tt, wpCond_ff, simprocAttr]
      right
      exact ⟨6, [], .bool false, rfl, rfl⟩
    | some r =>
      rw [hr, some_settle] at hset
      refine Sat.drawnE [] [] [0, 2, 3, 4, 5] (pureT [(42, .sl ((graphL (netR p x kind) n).map bitE)), (60, .sl ((chRef p n).map (chE (outA p)))), (59, .tuple [.sl ((graphL r n).map bitE), .bool true])]) (by kernel_rfl) (by kernel_rfl) ?_
      simp (maxSteps := 1000000) (disch := omega) only [push_cast, go_sem, wpS_tt, wpS_tf, wpS_ft, wpS_ff, wpCond_tt, wpCond_ff, simprocAttr]
      refine runD_pure rfl hg2 rfl rfl ?_ ?_
      · rfl
      simp (maxSteps := 1000000) (disch := omega) only [push_cast, go_sem, wpS_tt, wpS_tf, wpS_ft, wpS_ff, wpCond_tt, wpCond_ff, simprocAttr]
      refine runD_pure rfl hch rfl rfl ?_ ?_
      · rfl
      simp (maxSteps := 1000000) (disch := omega) only [push_cast, go_sem, wpS_tt, wpS_tf, wpS_ft, wpS_ff, wpCond_tt, wpCond_ff, simprocAttr]
      refine runD_pure rfl hset rfl rfl ?_ ?_
      · rfl
      simp (maxSteps := 1000000) (disch := omega) only [push_cast, go_sem, wpS_tt, wpS_tf, wpS_ft, wpS_ff, wpCond_tt, wpCond_ff, simprocAttr]
      left
      rfl
def holdsS (p : Prog) (x : Exe) (kind : Int) : Bool := specOk p x && inB kind 1 3 && (settledS p x kind).isSome
theorem implOrderHolds_fn (p : Prog) (x : Exe) (kind : Int) (hp : p.length < 2 ^ 40) (hl : ∀ l ∈ p, l.length < 2 ^ 40) (hx : x.small) : Fp Tryz.prog 10 [progV p, x.V, .int .i64 kind] (.bool (holdsS p x kind)) := by
  have h1 := implExecOk_fn p x hp hl hx
  rw [ok_eq] at h1
  unfold holdsS
  refine Fc.start (S := []) Tryz.func10 Tryz.ntmps10 Tryz.results10 rfl (by decide) rfl (by kernel_rfl) ?_
  simp (maxSteps := 1000000) (disch := omega) only [push_cast, go_sem, wpS_tt, wpS_tf, wpS_ft, wpS_ff, wpCond_tt, wpCond_ff, simprocAttr, progV_eq, Exe.V_eq]
  intro g3 g4
  refine callR.pure h1 rfl rfl ?_
  cases hok : specOk p x
  · simp (maxSteps := 1000000) (disch := omega) only [push_cast, go_sem, wpS_tt, wpS_tf, wpS_ft, wpS_ff, wpCond_tt, wpCond_ff, simprocAttr]
  have hw : Way p x := Way.of (by rw [ok_eq]; exact hok)
  have hpk := hw.ok
  simp (maxSteps := 1000000) (disch := omega) only [push_cast, go_sem, wpS_tt, wpS_tf, wpS_ft, wpS_ff, wpCond_tt, wpCond_ff, simprocAttr]
  refine callR.pure (isOrd_fn kind) rfl rfl ?_
  cases hk : inB kind 1 3
  · simp (maxSteps := 1000000) (disch := omega) only [push_cast, go_sem, wpS_tt, wpS_tf, wpS_ft, wpS_ff, wpCond_tt, wpCond_ff, simprocAttr]
  have hs := settled_fn p x kind hw hx hk
  have hsc := sceneOf_fn p hpk
  rw [Exe.V_eq] at hs
  rw [Sc.V_eq] at hs hsc
  cases hr : settledS p x kind with
  | none =>
    rw [hr, no_settle] at hs
    simp (maxSteps := 1000000) (disch := omega) only [push_cast, go_sem, wpS_tt, wpS_tf, wpS_ft, wpS_ff, wpCond_tt, wpCond_ff, simprocAttr]
    refine Sat.drawnE [] [] [0, 1, 2, 4] (pureT [(29, (.agg [.sl ((scene p).p.map thrV), .sl ((scene p).es.map Evt.V), .sl ((scene p).ds.map Do.V)])), (30, .tuple [.nilsl, .bool false])]) (by kernel_rfl) (by kernel_rfl) ?_
    simp (maxSteps := 1000000) (disch := omega) only [push_cast, go_sem, wpS_tt, wpS_tf, wpS_ft, wpS_ff, wpCond_tt, wpCond_ff, simprocAttr]
    refine runD_pure rfl hsc rfl rfl ?_ ?_
    · rfl
    simp (maxSteps := 1000000) (disch := omega) only [push_cast, go_sem, wpS_tt, wpS_tf, wpS_ft, wpS_ff, wpCond_tt, wpCond_ff, simprocAttr]
    refine runD_pure rfl hs rfl rfl ?_ ?_
    · rfl
    simp (maxSteps := 1000000) (disch := omega) only [push_cast, go_sem, wpS_tt, wpS_tf, wpS_ft, wpS_ff, wpCond_tt, wpCond_ff, simprocAttr]
  | some r =>
    rw [hr, some_settle] at hs
    simp (maxSteps := 1000000) (disch := omega) only [push_cast, go_sem, wpS_tt, wpS_tf, wpS_ft, wpS_ff, wpCond_tt, wpCond_ff, simprocAttr]
    refine Sat.drawnE [] [] [0, 1, 2, 4] (pureT [(29, (.agg [.sl ((scene p).p.map thrV), .sl ((scene p).es.map Evt.V), .sl ((scene p).ds.map Do.V)])), (30, .tuple [.sl ((graphL r (events p).length).map bitE), .bool true])]) (by kernel_rfl) (by kernel_rfl) ?_
    simp (maxSteps := 1000000) (disch := omega) only [push_cast, go_sem, wpS_tt, wpS_tf, wpS_ft, wpS_ff, wpCond_tt, wpCond_ff, simprocAttr]
    refine runD_pure rfl hsc rfl rfl ?_ ?_
    · rfl
    simp (maxSteps := 1000000) (disch := omega) only [push_cast, go_sem, wpS_tt, wpS_tf, wpS_ft, wpS_ff, wpCond_tt, wpCond_ff, simprocAttr]
    refine runD_pure rfl hs rfl rfl ?_ ?_
    · rfl
    simp (maxSteps := 1000000) (disch := omega) only [push_cast, go_sem, wpS_tt, wpS_tf, wpS_ft, wpS_ff, wpCond_tt, wpCond_ff, simprocAttr]
end Go.Proofs.YtfdbminedccccaaGreatDoor
/-! ## OrderHolds, by the reference -/
namespace Go.Proofs.YtfdbminedccccaaGreatDoor
open Go.RowKit
set_option linter.unusedSimpArgs false
set_option linter.unusedVariables false
set_option pp.maxSteps 3000

theorem ds_place {p : Prog} (hpk : progOk p = true) : ∀ (i : Nat), i < (events p).length → 0 ≤ (dsA p i).p := fun i hi => by
  obtain ⟨e, he⟩ : ∃ e, (events p)[i]? = some e := ⟨_, List.getElem?_eq_getElem hi⟩
  have hd : (scene p).ds[i]? = some (dsA p i) := by rw [dsA, scene_get he]; rfl
  have := scene_formed hpk _ (List.mem_of_getElem? hd)
  cases hu : (dsA p i).uses
  · simp only [Do.formed, hu, Bool.false_eq_true, if_false, Bool.and_eq_true, beq_iff_eq] at this
    omega
  · exact (formed_place this hu).1
theorem specOrderHolds_fn (p : Prog) (x : Exe) (kind : Int) (hp : p.length < 2 ^ 40) (hx : x.small) : Fp Tryz.prog 11 [progV p, x.V, .int .i64 kind] (.bool (holdsS p x kind)) := by
  have h1 := specExecOk_fn p x hp hx
  unfold holdsS
  refine Fc.start (S := [5]) Tryz.func11 Tryz.ntmps11 Tryz.results11 rfl (by decide) rfl (by kernel_rfl) ?_
  simp (maxSteps := 1000000) (disch := omega) only [push_cast, go_sem, wpS_tt, wpS_tf, wpS_ft, wpS_ff, wpCond_tt, wpCond_ff, simprocAttr, progV_eq, Exe.V_eq]
  intro g3 g4
  refine callR.pure h1 rfl rfl ?_
  cases hok : specOk p x
  · simp (maxSteps := 1000000) (disch := omega) only [push_cast, go_sem, wpS_tt, wpS_tf, wpS_ft, wpS_ff, wpCond_tt, wpCond_ff, simprocAttr]
  have hw : Way p x := Way.of (by rw [ok_eq]; exact hok)
  have hpk := hw.ok
  have hel := events_le hpk
  have hsl : (scene p).ds.length = (events p).length := by simp [scene]
  have hfr : x.fr.length = (events p).length := by rw [hw.fr, hsl]
  simp (maxSteps := 1000000) (disch := omega) only [push_cast, go_sem, wpS_tt, wpS_tf, wpS_ft, wpS_ff, wpCond_tt, wpCond_ff, simprocAttr]
  refine callR.pure (l6In_fn kind 1 3) rfl rfl ?_
  cases hk : inB kind 1 3
  · simp (maxSteps := 1000000) (disch := omega) only [push_cast, go_sem, wpS_tt, wpS_tf, wpS_ft, wpS_ff, wpCond_tt, wpCond_ff, simprocAttr]
  simp (maxSteps := 1000000) (disch := omega) only [push_cast, go_sem, wpS_tt, wpS_tf, wpS_ft, wpS_ff, wpCond_tt, wpCond_ff, simprocAttr]
  refine callR.new (olook_fn p hp hpk) rfl rfl ?_
  rintro r ob ⟨g, rfl, rfl⟩
  simp (maxSteps := 1000000) (disch := omega) only [push_cast, go_sem, wpS_tt, wpS_tf, wpS_ft, wpS_ff, wpCond_tt, wpCond_ff, simprocAttr, ordV_eq]
  have hway := oway_fn p x g hpk hfr hw.od hx.row
  rw [ordV_eq, rdsV_eq, wrtV_eq, Exe.V_eq] at hway
  rw [rdsV_eq, wrtV_eq]
  refine callR.mod hway rfl rfl rfl ?_
  rintro r ob ⟨gr, rfl, rfl⟩
  simp (maxSteps := 1000000) (disch := omega) only [push_cast, go_sem, wpS_tt, wpS_tf, wpS_ft, wpS_ff, wpCond_tt, wpCond_ff, simprocAttr, ordV_eq]
  have hnet := fun kind => onet_fn p g (.sl (x.fr.map (V.int .i64))) (.sl (((List.range (events p).length).map (rankS p x)).map (V.int .i64))) hel kind
  have hwh := fun R kind => owhole_fn p x g R hel hfr (ds_place hpk) kind
  have hwt := owaits_fn p g (.sl (x.fr.map (V.int .i64))) (.sl (((List.range (events p).length).map (rankS p x)).map (V.int .i64))) hpk _ 0 (netR p x kind) rfl (by omega)
  have hho := holds_fn (netR p x 0) (events p).length (by omega)
  rw [List.drop_zero, ordV_eq, rdsV_eq, wrtV_eq, netE_eq] at hwt
  have hn0 := hnet 0
  have hnk := hnet kind
  have hw0 := hwh (staysS p 0) 0
  have hwk := hwh (staysS p kind) kind
  rw [ordV_eq, rdsV_eq, wrtV_eq, netE_eq] at hn0 hnk
  rw [ordV_eq, rdsV_eq, wrtV_eq, netE_eq, netE_eq] at hw0 hwk
  rw [show bothR (staysS p 0) (toldS p x 0) = netR p x 0 from rfl] at hw0
  rw [show bothR (staysS p kind) (toldS p x kind) = netR p x kind from rfl] at hwk
  rw [netE_eq] at hho
  refine Sat.freezeC 7 [] 0 5 (n0 := .own 74 (some g) 1 [.agg [.sl (p.map thrV), .sl ((events p).map Evt.V), .sl ((scene p).ds.map fun d => .bool d.reads), .sl ((scene p).ds.map fun d => .bool d.writes), .sl (x.fr.map (V.int .i64)), .own 3 (some gr) (events p).length (((List.range (events p).length).map (rankS p x)).map (V.int .i64))]])
    (d := .own 3 (some gr) (events p).length (((List.range (events p).length).map (rankS p x)).map (V.int .i64))) ?_ rfl rfl ?_
  · rfl
  have e1 : (V.own 3 (some gr) (events p).length (((List.range (events p).length).map (rankS p x)).map (V.int .i64))).fz = .sl (((List.range (events p).length).map (rankS p x)).map (V.int .i64)) := by simp only [V.fz, fzs_map, fzs_int]
  rw [e1]
  generalize ((List.range (events p).length).map (rankS p x)).map (V.int .i64) = rk at hwt hn0 hnk hw0 hwk ⊢
  refine Sat.of (S := []) (by kernel_rfl) ?_
  simp (maxSteps := 1000000) (disch := omega) only [push_cast, go_sem, wpS_tt, wpS_tf, wpS_ft, wpS_ff, wpCond_tt, wpCond_ff, simprocAttr]
  refine callR.look hn0 rfl rfl rfl ?_
  simp (maxSteps := 1000000) (disch := omega) only [push_cast, go_sem, wpS_tt, wpS_tf, wpS_ft, wpS_ff, wpCond_tt, wpCond_ff, simprocAttr]
  refine callR.look hw0 rfl rfl rfl ?_
  simp (maxSteps := 1000000) (disch := omega) only [push_cast, go_sem, wpS_tt, wpS_tf, wpS_ft, wpS_ff, wpCond_tt, wpCond_ff, simprocAttr]
  refine callR.pure hho rfl rfl ?_
  rw [settledS]
  cases hl : lineE (netR p x 0) (events p).length with
  | none =>
    simp (maxSteps := 1000000) (disch := omega) only [push_cast, go_sem, wpS_tt, wpS_tf, wpS_ft, wpS_ff, wpCond_tt, wpCond_ff, simprocAttr, Option.isSome_none]
  | some ls =>
    simp (maxSteps := 1000000) (disch := omega) only [push_cast, go_sem, wpS_tt, wpS_tf, wpS_ft, wpS_ff, wpCond_tt, wpCond_ff, simprocAttr, Option.isSome_some]
    refine callR.look hnk rfl rfl rfl ?_
    simp (maxSteps := 1000000) (disch := omega) only [push_cast, go_sem, wpS_tt, wpS_tf, wpS_ft, wpS_ff, wpCond_tt, wpCond_ff, simprocAttr]
    refine callR.look hwk rfl rfl rfl ?_
    simp (maxSteps := 1000000) (disch := omega) only [push_cast, go_sem, wpS_tt, wpS_tf, wpS_ft, wpS_ff, wpCond_tt, wpCond_ff, simprocAttr]
    refine callR.look hwt rfl rfl rfl ?_
    simp (maxSteps := 1000000) (disch := omega) only [push_cast, go_sem, wpS_tt, wpS_tf, wpS_ft, wpS_ff, wpCond_tt, wpCond_ff, simprocAttr]
end Go.Proofs.YtfdbminedccccaaGreatDoor
/-! ## A looser order has fewer that must be ahead; so it holds where a stricter one does -/
namespace Go.Proofs.YtfdbminedccccaaGreatDoor
open Go.RowKit
set_option linter.unusedSimpArgs false
set_option linter.unusedVariables false
set_option pp.maxSteps 3000

theorem netR_late {p : Prog} {x : Exe} {a b : Nat} (h3 : netR p x 2 a b = true) : netR p x 1 a b = true := by
  have e1 : staysS p 2 a b = (ownB (events p) a b && !((dsA p a).writes && (dsA p b).reads)) := rfl
  have e2 : staysS p 1 a b = ownB (events p) a b := rfl
  have e3 : toldS p x 2 a b = ((apartS p a b && readS p x a b) || overS p x a b) := rfl
  have e4 : toldS p x 1 a b = (readS p x a b || overS p x a b) := rfl
  rw [netR, e1, e3] at h3
  rw [netR, e2, e4]
  simp only [Bool.and_eq_true, Bool.or_eq_true] at h3 ⊢
  rcases h3 with h3 | h3 | h3
  · exact .inl h3.1
  · exact .inr (.inl h3.2)
  · exact .inr (.inr h3)
theorem looseS_late {p : Prog} {a b : Nat} (h : looseS p a b = true) : ((dsA p a).writes && (dsA p b).reads) = false := by
  have hw : (dsA p a).writes = true → (dsA p a).k = 1 ∨ (dsA p a).k = 3 ∨ (dsA p a).k = 6 := fun h => by simpa [Do.writes, or_assoc] using h
  have hr : (dsA p b).reads = true → (dsA p b).k = 2 ∨ (dsA p b).k = 5 := fun h => by simpa [Do.reads] using h
  rw [Bool.eq_false_iff]
  intro hh
  rw [Bool.and_eq_true] at hh
  have k1 := hw hh.1
  have k2 := hr hh.2
  have e1 : kd (scene p).ds a = (dsA p a).k := rfl
  have e2 : kd (scene p).ds b = (dsA p b).k := rfl
  simp only [looseS, wallB, insS, Bool.and_eq_true, Bool.or_eq_true, beq_iff_eq, e1, e2] at h
  omega
theorem netR_loose {p : Prog} {x : Exe} {a b : Nat} (h3 : netR p x 3 a b = true) : netR p x 2 a b = true := by
  have e1 : staysS p 2 a b = (ownB (events p) a b && !((dsA p a).writes && (dsA p b).reads)) := rfl
  have e2 : staysS p 3 a b = looseS p a b := rfl
  have e3 : toldS p x 2 a b = ((apartS p a b && readS p x a b) || overS p x a b) := rfl
  have e4 : toldS p x 3 a b = (apartS p a b && (readS p x a b || overS p x a b)) := rfl
  rw [netR, e2, e4, Bool.or_eq_true] at h3
  rw [netR, e1, e3, Bool.or_eq_true]
  rcases h3 with h3 | h3
  · left
    rw [looseS_late h3]
    simp only [looseS, Bool.and_eq_true] at h3
    simp [h3.1]
  · right
    simp only [Bool.and_eq_true, Bool.or_eq_true] at h3 ⊢
    rcases h3 with ⟨h3, h4 | h4⟩
    · exact .inl ⟨h3, h4⟩
    · exact .inr h4
theorem settle_less {n : Nat} {out : Nat → Nat} : ∀ {l : List (Nat × Nat)} {R R' : Nat → Nat → Bool}, (∀ a b, a < n → b < n → R' a b = true → R a b = true) → (settleR n out l R).isSome = true → (settleR n out l R').isSome = true
  | [], R, R', hs, h => by
    rw [settleR] at h ⊢
    cases hl : (lineE R n).isSome
    · rw [hl] at h; cases h
    · rw [line_less hs hl]; rfl
  | (e, i) :: l, R, R', hs, h => by
    rw [settleR] at h ⊢
    have wi : ∀ {x y : Nat}, ∀ a b, a < n → b < n → wiR R' x y a b = true → wiR R x y a b = true := by
      intro x y a b ha hb hh
      simp only [wiR, Bool.or_eq_true] at hh ⊢
      exact hh.imp (hs a b ha hb) id
    cases hl : (lineE R n).isSome
    · rw [hl] at h; cases h
    · rw [line_less hs hl]
      rw [hl] at h
      simp only [if_true, Option.isSome_or, Bool.or_eq_true] at h ⊢
      exact h.imp (settle_less wi) (settle_less wi)
theorem settled_less {p : Prog} {x : Exe} {k k' : Int} (hs : ∀ a b, netR p x k' a b = true → netR p x k a b = true) (h : (settledS p x k).isSome = true) : (settledS p x k').isSome = true := by
  rw [settledS] at h ⊢
  cases hl : (lineE (netR p x 0) (events p).length).isSome
  · rw [hl] at h; cases h
  · rw [hl] at h
    exact settle_less (fun a b _ _ => hs a b) h
theorem holdsS_late {p : Prog} {x : Exe} (h : holdsS p x 1 = true) : holdsS p x 2 = true := by
  simp only [holdsS, Bool.and_eq_true] at h ⊢
  exact ⟨⟨h.1.1, rfl⟩, settled_less (fun a b => netR_late) h.2⟩
theorem holdsS_loose {p : Prog} {x : Exe} (h : holdsS p x 2 = true) : holdsS p x 3 = true := by
  simp only [holdsS, Bool.and_eq_true] at h ⊢
  exact ⟨⟨h.1.1, rfl⟩, settled_less (fun a b => netR_loose) h.2⟩
end Go.Proofs.YtfdbminedccccaaGreatDoor
/-! ## Draws: the reader is opened -/
namespace Go.Proofs.YtfdbminedccccaaGreatDoor
open Go.RowKit
set_option linter.unusedSimpArgs false
set_option linter.unusedVariables false
set_option pp.maxSteps 3000

/-- Bytes of an argument. -/
def Code8 (bs : List Int) : Prop := ∀ b ∈ bs, 0 ≤ b ∧ b < 256
def codeV (bs : List Int) : V := .sl (bs.map (V.int .u8))
theorem codeV_eq (bs : List Int) : codeV bs = .sl (bs.map (V.int .u8)) := rfl
theorem Code8.take {bs : List Int} (h : Code8 bs) : Bytes (bs.take 2000) := ⟨by simp; omega, fun b hb => h b (List.mem_of_mem_take hb)⟩
theorem cells_code (bs : List Int) {s : Nat} (hs : s = 1) : (∀ x ∈ bs.map (V.int .u8), x.cells.length = s) = True := by
  simp only [List.mem_map, eq_iff_iff, iff_true]
  rintro x ⟨b, _, rfl⟩
  rw [hs]; rfl
theorem l6Open_fn (bs : List Int) (hl : bs.length < 2 ^ 40) : Fc Tryz.prog 25 [codeV bs] noM (fun r m => ∃ ob, (∃ g, r = .ptr 100 [] 0 0 g 2 ∧ ob = rdO (bs.take 2000) g 0) ∧ m = noM.set 100 ob) := by
  refine Fc.rekeyP (R' := fun r m => ∃ g, r = .ptr 2 [] 0 0 g 2 ∧ m = noM.set 2 (rdO (bs.take 2000) g 0)) ?_ ?_
  · refine Fc.start (S := []) Tryz.func25 Tryz.ntmps25 Tryz.results25 rfl (by decide) rfl (by kernel_rfl) ?_
    by_cases h : (2000 : Int) < bs.length
    · simp (maxSteps := 1000000) (disch := omega) only [push_cast, go_sem, wpS_tt, wpS_tf, wpS_ft, wpS_ff, wpCond_tt, wpCond_ff, simprocAttr, codeV_eq, h, cells_code bs rfl]
      refine ⟨by omega, fun g => ⟨_, ?_, g, rfl, rfl⟩⟩
      ((repeat (first | exact Sub.no | refine Sub.set ?_ ?_)) <;> (try simp (disch := omega) only [push_cast, go_sem, wpS_tt, wpS_tf, wpS_ft, wpS_ff, wpCond_tt, wpCond_ff, simprocAttr]))
      simp [rdO, List.map_take]
    · simp (maxSteps := 1000000) (disch := omega) only [push_cast, go_sem, wpS_tt, wpS_tf, wpS_ft, wpS_ff, wpCond_tt, wpCond_ff, simprocAttr, codeV_eq, h]
      refine fun g => ⟨_, ?_, g, rfl, rfl⟩
      ((repeat (first | exact Sub.no | refine Sub.set ?_ ?_)) <;> (try simp (disch := omega) only [push_cast, go_sem, wpS_tt, wpS_tf, wpS_ft, wpS_ff, wpCond_tt, wpCond_ff, simprocAttr]))
      rw [List.take_of_length_le (by omega)]; rfl
  · rintro r m ⟨g, rfl, rfl⟩
    refine ⟨2, g, 2, _, rfl, rfl, _, ⟨g, rfl, rfl⟩, era_set rfl⟩
end Go.Proofs.YtfdbminedccccaaGreatDoor
/-! ## Draws: a program, a way and an order. A law: what a stricter order allows a looser one does -/
namespace Go.Proofs.YtfdbminedccccaaGreatDoor
open Go.RowKit
set_option linter.unusedSimpArgs false
set_option linter.unusedVariables false
set_option pp.maxSteps 3000

theorem l71Kind_pl (bs : List Int) (hb : Bytes bs) (g p : Nat) (hp : p < 2 ^ 29) : Fr Tryz.prog 27 [] g (rdO bs g p)
    (fun r o' => (∃ v : Int, r = .int .i64 v) ∧ ∃ q, p ≤ q ∧ q ≤ p + 2 ∧ o' = rdO bs g q) := by
  refine Fc.start (S := []) Tryz.func27 Tryz.ntmps27 Tryz.results27 rfl (by decide) rfl (by kernel_rfl) ?_
  simp (maxSteps := 1000000) (disch := omega) only [push_cast, go_sem, wpS_tt, wpS_tf, wpS_ft, wpS_ff, wpCond_tt, wpCond_ff, simprocAttr]
  refine callR.rd (pick_rd bs hb g p (by omega) 24 (by omega)) rfl rfl rfl ?_
  rintro r o' ⟨v, rfl, hv0, hv1, _, rfl⟩
  simp (maxSteps := 1000000) (disch := omega) only [push_cast, go_sem, wpS_tt, wpS_tf, wpS_ft, wpS_ff, wpCond_tt, wpCond_ff, simprocAttr]
  refine ⟨fun hv g1 => ?_, fun hv => ?_⟩
  · refine callR.rd (pick_rd bs hb g (p + 1) (by omega) 3 (by omega)) rfl rfl rfl ?_
    rintro r o' ⟨u, rfl, hu0, hu1, _, rfl⟩
    have hu : u < 3 := hu1 (by omega)
    obtain ⟨n, rfl⟩ := Int.eq_ofNat_of_zero_le hu0
    obtain ⟨z, hz⟩ := ints_get (l := [.int .i64 0, .int .i64 4, .int .i64 (-1)]) (n := n) rfl (by simp; omega)
    simp (maxSteps := 1000000) (disch := omega) only [push_cast, go_sem, wpS_tt, wpS_tf, wpS_ft, wpS_ff, wpCond_tt, wpCond_ff, simprocAttr, hz]
    refine ⟨by omega, _, Sub.set Sub.no rfl, _, ⟨⟨_, rfl⟩, p + 1 + 1, by omega, by omega, rfl⟩, rfl⟩
  · refine callR.rd (pick_rd bs hb g (p + 1) (by omega) 3 (by omega)) rfl rfl rfl ?_
    rintro r o' ⟨u, rfl, hu0, hu1, _, rfl⟩
    simp (maxSteps := 1000000) (disch := omega) only [push_cast, go_sem, wpS_tt, wpS_tf, wpS_ft, wpS_ff, wpCond_tt, wpCond_ff, simprocAttr]
    exact ⟨_, Sub.rfl, _, ⟨⟨_, rfl⟩, p + 1 + 1, by omega, by omega, rfl⟩, rfl⟩
/-- What is drawn. -/
def DrawnH (r : V) : Prop := ∃ (p : Prog) (x : Exe) (kind : Int), r = .tuple [progV p, x.V, .int .i64 kind] ∧ p.length ≤ 3 ∧ (∀ l ∈ p, l.length < 2 ^ 11) ∧ x.small
theorem DrawOrderHolds_fn (bs : List Int) (hb : Code8 bs) (hl : bs.length < 2 ^ 40) : Fc Tryz.prog 9 [codeV bs] noM (fun r m => DrawnH r ∧ m = noM) := by
  refine Fc.start (S := []) Tryz.func9 Tryz.ntmps9 Tryz.results9 rfl (by decide) rfl (by kernel_rfl) ?_
  simp (maxSteps := 1000000) (disch := omega) only [push_cast, go_sem, wpS_tt, wpS_tf, wpS_ft, wpS_ff, wpCond_tt, wpCond_ff, simprocAttr, codeV_eq]
  intro g2 g3
  refine callR.new (l6Open_fn bs hl) rfl rfl ?_
  rintro r ob ⟨g, rfl, rfl⟩
  simp (maxSteps := 1000000) (disch := omega) only [push_cast, go_sem, wpS_tt, wpS_tf, wpS_ft, wpS_ff, wpCond_tt, wpCond_ff, simprocAttr]
  refine callR.rd (l71Exec_rd (bs.take 2000) hb.take g 0 (by omega)) rfl rfl rfl ?_
  rintro r o' ⟨x, y, rfl, hx1, hx2, hy, q, hq1, hq2, rfl⟩
  have hyf := hy.fr
  have hys : y.small := ⟨by have := hy.fr; omega, by have := hy.od; omega, fun r hr => by have := hy.row r hr; omega⟩
  simp (maxSteps := 1000000) (disch := omega) only [push_cast, go_sem, wpS_tt, wpS_tf, wpS_ft, wpS_ff, wpCond_tt, wpCond_ff, simprocAttr, progV_eq, Exe.V_eq]
  intro g8 g9
  refine Sat.drawnE [(0, 3), (1, 3), (1, 4)] [] [0, 1] (rdTab (bs.take 2000) g [(27, 2, fun _ r => ∃ v : Int, r = .int .i64 v)] []) (by kernel_rfl) (by kernel_rfl) ?_
  simp (maxSteps := 1000000) (disch := omega) only [push_cast, go_sem, wpS_tt, wpS_tf, wpS_ft, wpS_ff, wpCond_tt, wpCond_ff, simprocAttr]
  refine runD_pl (l71Kind_pl (bs.take 2000) hb.take g q (by omega)) rfl rfl rfl rfl ⟨.int .i64 0, 0, rfl⟩ ?_ ?_
  · rfl
  rintro r q2 hq3 hq4 ⟨kind, rfl⟩
  simp (maxSteps := 1000000) (disch := omega) only [push_cast, go_sem, wpS_tt, wpS_tf, wpS_ft, wpS_ff, wpCond_tt, wpCond_ff, simprocAttr]
  exact ⟨x, y, kind, rfl, hx1, hx2, hys⟩
theorem lawOrderHolds_fn (bs : List Int) (hb : Code8 bs) : Fp Tryz.prog 3 [codeV bs] (.bool true) := by
  refine Fc.start (S := []) Tryz.func3 Tryz.ntmps3 Tryz.results3 rfl (by decide) rfl (by kernel_rfl) ?_
  by_cases h : (1048576 : Int) < bs.length
  · simp (maxSteps := 1000000) (disch := omega) only [push_cast, go_sem, wpS_tt, wpS_tf, wpS_ft, wpS_ff, wpCond_tt, wpCond_ff, simprocAttr, codeV_eq, h]
  simp (maxSteps := 1000000) (disch := omega) only [push_cast, go_sem, wpS_tt, wpS_tf, wpS_ft, wpS_ff, wpCond_tt, wpCond_ff, simprocAttr, codeV_eq, h]
  refine callR.ex (DrawOrderHolds_fn bs hb (by omega)) rfl rfl ?_
  rintro r ⟨p, x, kind, rfl, hp, hl, hx⟩
  have hl' : ∀ l ∈ p, l.length < 2 ^ 40 := fun l h => by have := hl l h; omega
  have h1 := implOrderHolds_fn p x kind (by omega) hl' hx
  have h2 := specOrderHolds_fn p x kind (by omega) hx
  have h3 := implOrderHolds_fn p x 1 (by omega) hl' hx
  have h4 := implOrderHolds_fn p x 2 (by omega) hl' hx
  have h5 := implOrderHolds_fn p x 3 (by omega) hl' hx
  have i1 := holdsS_late (p := p) (x := x)
  have i2 := holdsS_loose (p := p) (x := x)
  obtain ⟨v, hv⟩ : ∃ v, holdsS p x kind = v := ⟨_, rfl⟩
  obtain ⟨v1, hv1⟩ : ∃ v, holdsS p x 1 = v := ⟨_, rfl⟩
  obtain ⟨v2, hv2⟩ : ∃ v, holdsS p x 2 = v := ⟨_, rfl⟩
  obtain ⟨v3, hv3⟩ : ∃ v, holdsS p x 3 = v := ⟨_, rfl⟩
  rw [hv] at h1 h2
  rw [hv1] at h3 i1
  rw [hv2] at h4 i1 i2
  rw [hv3] at h5 i2
  have hvv : (v != v) = false := by simp
  simp (maxSteps := 1000000) (disch := omega) only [push_cast, go_sem, wpS_tt, wpS_tf, wpS_ft, wpS_ff, wpCond_tt, wpCond_ff, simprocAttr, progV_eq, Exe.V_eq]
  intro g3 g4
  refine callR.pure h1 rfl rfl ?_
  simp (maxSteps := 1000000) (disch := omega) only [push_cast, go_sem, wpS_tt, wpS_tf, wpS_ft, wpS_ff, wpCond_tt, wpCond_ff, simprocAttr]
  refine callR.pure h2 rfl rfl ?_
  simp (maxSteps := 1000000) (disch := omega) only [push_cast, go_sem, wpS_tt, wpS_tf, wpS_ft, wpS_ff, wpCond_tt, wpCond_ff, simprocAttr, hvv]
  refine callR.pure h3 rfl rfl ?_
  simp (maxSteps := 1000000) (disch := omega) only [push_cast, go_sem, wpS_tt, wpS_tf, wpS_ft, wpS_ff, wpCond_tt, wpCond_ff, simprocAttr]
  refine callR.pure h4 rfl rfl ?_
  cases v1
  · cases v2
    · simp (maxSteps := 1000000) (disch := omega) only [push_cast, go_sem, wpS_tt, wpS_tf, wpS_ft, wpS_ff, wpCond_tt, wpCond_ff, simprocAttr]
    · have : v3 = true := i2 rfl
      subst this
      simp (maxSteps := 1000000) (disch := omega) only [push_cast, go_sem, wpS_tt, wpS_tf, wpS_ft, wpS_ff, wpCond_tt, wpCond_ff, simprocAttr]
      refine callR.pure h5 rfl rfl ?_
      simp (maxSteps := 1000000) (disch := omega) only [push_cast, go_sem, wpS_tt, wpS_tf, wpS_ft, wpS_ff, wpCond_tt, wpCond_ff, simprocAttr]
  · have : v2 = true := i1 rfl
    subst this
    have : v3 = true := i2 rfl
    subst this
    simp (maxSteps := 1000000) (disch := omega) only [push_cast, go_sem, wpS_tt, wpS_tf, wpS_ft, wpS_ff, wpCond_tt, wpCond_ff, simprocAttr]
    refine callR.pure h5 rfl rfl ?_
    simp (maxSteps := 1000000) (disch := omega) only [push_cast, go_sem, wpS_tt, wpS_tf, wpS_ft, wpS_ff, wpCond_tt, wpCond_ff, simprocAttr]
end Go.Proofs.YtfdbminedccccaaGreatDoor
