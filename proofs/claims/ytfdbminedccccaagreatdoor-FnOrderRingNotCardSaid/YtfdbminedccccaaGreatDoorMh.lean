/-
  OrderRing, by the reference. Draws: a program, a way and an order, with a ring, mostly. A law: where there is a ring it does not hold; where nobody waits and there is none by the strict order, it does. Rows: what all laws of a code share. Rows of a great seat: the library's table, from what the row lists.
-/
import Derived.Test.YtfdbminedccccaaGreatDoorMg
import Derived.Test.YtfdbminedccccaaGreatDoorRows
import Derived.ProofKit
import Derived.OpenShut
import Derived.ChangeSlices
import Derived.JoinedOf
import Derived.JoinedAt
import Derived.Deep.DeepHandedRow
import Derived.Lib.LaidTab
import Derived.Test.YtfdbminedccccaaGreatDoorCards
import Derived.Test.YtfdbminedccccaaGreatDoorTie
/-! ## OrderRing, by the reference -/
namespace Go.Proofs.YtfdbminedccccaaGreatDoor
open Go.RowKit
set_option linter.unusedSimpArgs false
set_option linter.unusedVariables false
set_option pp.maxSteps 3000

theorem nor_of {R : Nat → Nat → Bool} {n : Nat} : ∀ {s : Nat}, s ≤ n → (∀ j, j < s → ringL R n j = none) → NoR R n (s + 1)
  | 0, _, _ => fun k m h1 h2 => absurd h2 (by omega)
  | s + 1, hs, h => fun k m h1 h2 hm => by
    have ih := nor_of (s := s) (by omega) (fun j hj => h j (by omega))
    rcases Nat.lt_or_ge k (s + 1) with hk | hk
    · exact ih k m h1 hk hm
    · have : k = s + 1 := by omega
      subst this
      have := h s (by omega)
      rw [ringL, List.findSome?_eq_none_iff] at this
      exact ring_none hm ih (by omega) (this m (List.mem_range.2 hm))
theorem specOrderRing_fn (p : Prog) (x : Exe) (kind : Int) (hp : p.length < 2 ^ 40) (hx : x.small) : Fp Tryz.prog 13 [progV p, x.V, .int .i64 kind] (lineW (ringO p x kind)) := by
  have h1 := specExecOk_fn p x hp hx
  rw [progV_eq, Exe.V_eq] at h1
  rw [ringO]
  refine Fp.fzT ?_
  refine Fc.start (S := [5, 12]) Tryz.func13 Tryz.ntmps13 Tryz.results13 rfl (by decide) rfl (by kernel_rfl) ?_
  simp (maxSteps := 1000000) (disch := omega) only [push_cast, go_sem, wpS_tt, wpS_tf, wpS_ft, wpS_ff, wpCond_tt, wpCond_ff, simprocAttr, progV_eq, Exe.V_eq]
  intro g3 g4
  refine callR.pure h1 rfl rfl ?_
  cases hok : specOk p x
  · simp (maxSteps := 1000000) (disch := omega) only [push_cast, go_sem, wpS_tt, wpS_tf, wpS_ft, wpS_ff, wpCond_tt, wpCond_ff, simprocAttr]
    intro g16
    refine ⟨noM.set 6 (.own 3 (some g16) 0 []), Sub.set Sub.no rfl, .inr ⟨6, some g16, 0, 3, [], .bool false, rfl, rfl, rfl⟩⟩
  have hw : Way p x := Way.of (by rw [ok_eq]; exact hok)
  have hpk := hw.ok
  have hel := events_le hpk
  have hsl : (scene p).ds.length = (events p).length := by simp [scene]
  have hfr : x.fr.length = (events p).length := by rw [hw.fr, hsl]
  simp (maxSteps := 1000000) (disch := omega) only [push_cast, go_sem, wpS_tt, wpS_tf, wpS_ft, wpS_ff, wpCond_tt, wpCond_ff, simprocAttr]
  refine callR.pure (l6In_fn kind 1 3) rfl rfl ?_
  cases hk : inB kind 1 3
  · simp (maxSteps := 1000000) (disch := omega) only [push_cast, go_sem, wpS_tt, wpS_tf, wpS_ft, wpS_ff, wpCond_tt, wpCond_ff, simprocAttr]
    intro g16
    refine ⟨noM.set 6 (.own 3 (some g16) 0 []), Sub.set Sub.no rfl, .inr ⟨6, some g16, 0, 3, [], .bool false, rfl, rfl, rfl⟩⟩
  have hlk := olook_fn p hp hpk
  rw [progV_eq] at hlk
  simp (maxSteps := 1000000) (disch := omega) only [push_cast, go_sem, wpS_tt, wpS_tf, wpS_ft, wpS_ff, wpCond_tt, wpCond_ff, simprocAttr]
  refine callR.new hlk rfl rfl ?_
  rintro r0 ob ⟨g, rfl, rfl⟩
  simp (maxSteps := 1000000) (disch := omega) only [push_cast, go_sem, wpS_tt, wpS_tf, wpS_ft, wpS_ff, wpCond_tt, wpCond_ff, simprocAttr, ordV_eq]
  have hway := oway_fn p x g hpk hfr hw.od hx.row
  rw [ordV_eq, rdsV_eq, wrtV_eq, Exe.V_eq] at hway
  rw [rdsV_eq, wrtV_eq]
  refine callR.mod hway rfl rfl rfl ?_
  rintro r0 ob ⟨gr, rfl, rfl⟩
  simp (maxSteps := 1000000) (disch := omega) only [push_cast, go_sem, wpS_tt, wpS_tf, wpS_ft, wpS_ff, wpCond_tt, wpCond_ff, simprocAttr, ordV_eq]
  have hnk := onet_fn p g (.sl (x.fr.map (V.int .i64))) (.sl (((List.range (events p).length).map (rankS p x)).map (V.int .i64))) hel kind
  have hwk := owhole_fn p x g (staysS p kind) hel hfr (ds_place hpk) kind
  rw [ordV_eq, rdsV_eq, wrtV_eq, netE_eq] at hnk
  rw [ordV_eq, rdsV_eq, wrtV_eq, netE_eq, netE_eq] at hwk
  rw [show bothR (staysS p kind) (toldS p x kind) = netR p x kind from rfl] at hwk
  refine Sat.freezeC 8 [] 0 5 (n0 := .own 74 (some g) 1 [.agg [.sl (p.map thrV), .sl ((events p).map Evt.V), .sl ((scene p).ds.map fun d => .bool d.reads), .sl ((scene p).ds.map fun d => .bool d.writes), .sl (x.fr.map (V.int .i64)), .own 3 (some gr) (events p).length (((List.range (events p).length).map (rankS p x)).map (V.int .i64))]])
    (d := .own 3 (some gr) (events p).length (((List.range (events p).length).map (rankS p x)).map (V.int .i64))) ?_ rfl rfl ?_
  · rfl
  have e1 : (V.own 3 (some gr) (events p).length (((List.range (events p).length).map (rankS p x)).map (V.int .i64))).fz = .sl (((List.range (events p).length).map (rankS p x)).map (V.int .i64)) := by simp only [V.fz, fzs_map, fzs_int]
  rw [e1]
  generalize ((List.range (events p).length).map (rankS p x)).map (V.int .i64) = rk at hnk hwk ⊢
  refine Sat.of (S := [12]) (by kernel_rfl) ?_
  simp (maxSteps := 1000000) (disch := omega) only [push_cast, go_sem, wpS_tt, wpS_tf, wpS_ft, wpS_ff, wpCond_tt, wpCond_ff, simprocAttr]
  refine callR.look hnk rfl rfl rfl ?_
  simp (maxSteps := 1000000) (disch := omega) only [push_cast, go_sem, wpS_tt, wpS_tf, wpS_ft, wpS_ff, wpCond_tt, wpCond_ff, simprocAttr]
  refine callR.look hwk rfl rfl rfl ?_
  simp (maxSteps := 1000000) (disch := omega) only [push_cast, go_sem, wpS_tt, wpS_tf, wpS_ft, wpS_ff, wpCond_tt, wpCond_ff, simprocAttr]
  clear hnk hwk hway hlk
  generalize hR : netR p x kind = R
  obtain ⟨n, hnn⟩ : ∃ n, (events p).length = n := ⟨_, rfl⟩
  rw [hnn] at hel ⊢
  have hon := fun k m a lo size row h1 h2 h3 h4 h5 h6 h7 => l14On_fn R n (by omega) k m a lo size row h1 h2 h3 h4 h5 h6 h7
  refine Sat.loop (σ := Nat) (fun s => upd (upd (upd noT 8 (.ptr 8 [] 0 0 g 6)) 9 (.eptr [.sl ((netL R n).map boolsV)])) 10 (.int .i64 (s + 1)))
    (fun _ => noM.set 8 (.own 74 (some g) 1 [.agg [.sl (p.map thrV), .sl ((events p).map Evt.V), .sl ((scene p).ds.map fun d => .bool d.reads), .sl ((scene p).ds.map fun d => .bool d.writes), .sl (x.fr.map (V.int .i64)), .sl rk]]))
    (fun s => s ≤ n ∧ ∀ j, j < s → ringL R n j = none) (fun s => n - s) 0 ⟨by omega, fun j hj => absurd hj (by omega)⟩ ?_ ?_
  · (refine Less.start ?_; repeat (first | exact LessO.nil | exact LessO.all | refine LessO.skip (by decide) ?_ | refine LessO.upd ?_ ?_ | refine LessO.set ?_ ?_)) <;> (try simp (maxSteps := 1000000) (disch := omega) only [push_cast, go_sem, wpS_tt, wpS_tf, wpS_ft, wpS_ff, wpCond_tt, wpCond_ff, simprocAttr])
  rintro s ⟨hs, hno⟩ J hJ
  refine Sat.of (S := [12]) (by kernel_rfl) ?_
  rcases Nat.lt_or_ge s n with hlt | hge
  · have hsn : (s : Int) + 1 ≤ n := by omega
    simp (maxSteps := 1000000) (disch := omega) only [push_cast, go_sem, wpS_tt, wpS_tf, wpS_ft, wpS_ff, wpCond_tt, wpCond_ff, simprocAttr, hnn, hsn]
    refine Sat.loop (σ := Nat) (fun a => upd (upd (upd (upd noT 8 (.ptr 8 [] 0 0 g 6)) 9 (.eptr [.sl ((netL R n).map boolsV)])) 10 (.int .i64 (s + 1))) 11 (.int .i64 a))
      (fun _ => noM.set 8 (.own 74 (some g) 1 [.agg [.sl (p.map thrV), .sl ((events p).map Evt.V), .sl ((scene p).ds.map fun d => .bool d.reads), .sl ((scene p).ds.map fun d => .bool d.writes), .sl (x.fr.map (V.int .i64)), .sl rk]]))
      (fun a => a ≤ n ∧ ∀ j, j < a → ringS R n j (s + 1) = none) (fun a => n - a) 0 ⟨by omega, fun j hj => absurd hj (by omega)⟩ ?_ ?_
    · (refine Less.start ?_; repeat (first | exact LessO.nil | exact LessO.all | refine LessO.skip (by decide) ?_ | refine LessO.upd ?_ ?_ | refine LessO.set ?_ ?_)) <;> (try simp (maxSteps := 1000000) (disch := omega) only [push_cast, go_sem, wpS_tt, wpS_tf, wpS_ft, wpS_ff, wpCond_tt, wpCond_ff, simprocAttr])
    rintro a ⟨ha, hna⟩ J2 hJ2
    refine Sat.of (S := [12]) (by kernel_rfl) ?_
    rcases Nat.lt_or_ge a n with hlt2 | hge2
    · have hr := hon s 0 a a (s + 1) [a] rfl rfl rfl hlt2 hlt2 (by omega) (by omega)
      have he := ring_eq (R := R) (size := s + 1) hlt2 (nor_of (by omega) hno) (by omega)
      rw [show s + 1 - 1 = s by omega] at he
      rw [he, netE_eq, rowE_eq, show ((s + 1 : Nat) : Int) = (s : Int) + 1 by omega] at hr
      simp (maxSteps := 1000000) (disch := omega) only [push_cast, go_sem, wpS_tt, wpS_tf, wpS_ft, wpS_ff, wpCond_tt, wpCond_ff, simprocAttr, hnn, hlt2]
      refine Sat.cutW 3 (σ := Option Nat × Nat) (fun y => upd (upd (upd (upd (upd (upd noT 8 (.ptr 8 [] 0 0 g 6)) 9 (.eptr [.sl ((netL R n).map boolsV)])) 10 (.int .i64 (s + 1))) 11 (.int .i64 a)) 54 (.eptr [.sl ((netL R n).map boolsV)])) 56 (.msl 56 [] y.1 1 y.2))
        (fun y => (noM.set 8 (.own 74 (some g) 1 [.agg [.sl (p.map thrV), .sl ((events p).map Evt.V), .sl ((scene p).ds.map fun d => .bool d.reads), .sl ((scene p).ds.map fun d => .bool d.writes), .sl (x.fr.map (V.int .i64)), .sl rk]])).set 56 (.own 3 y.1 y.2 ((intsN [a]).map (V.int .i64)))) (fun y => y.1 = y.1) (by kernel_rfl) ?_ ?_
      · simp (maxSteps := 1000000) (disch := omega) only [push_cast, go_sem, wpS_tt, wpS_tf, wpS_ft, wpS_ff, wpCond_tt, wpCond_ff, simprocAttr]
        intro g56
        refine ⟨(some g56, 1), ?_⟩
        (refine Less.start ?_; repeat (first | exact LessO.nil | exact LessO.all | refine LessO.skip (by decide) ?_ | refine LessO.upd ?_ ?_ | refine LessO.set ?_ ?_)) <;> (try simp (maxSteps := 1000000) (disch := omega) only [push_cast, go_sem, wpS_tt, wpS_tf, wpS_ft, wpS_ff, wpCond_tt, wpCond_ff, simprocAttr])
        all_goals simp [intsN]
      rintro ⟨γ, c⟩ -
      refine SatW.freezeT (upd (upd (upd (upd (upd (upd noT 8 (.ptr 8 [] 0 0 g 6)) 9 (.eptr [.sl ((netL R n).map boolsV)])) 10 (.int .i64 (s + 1))) 11 (.int .i64 a)) 54 (.eptr [.sl ((netL R n).map boolsV)])) 56 (.sl ((intsN [a]).map (V.int .i64))))
        (noM.set 8 (.own 74 (some g) 1 [.agg [.sl (p.map thrV), .sl ((events p).map Evt.V), .sl ((scene p).ds.map fun d => .bool d.reads), .sl ((scene p).ds.map fun d => .bool d.writes), .sl (x.fr.map (V.int .i64)), .sl rk]])) 56 (e := 3) (γ := γ) (cap := c) (es := (intsN [a]).map (V.int .i64)) rfl ?_ ?_
      · (refine Less.start ?_; repeat (first | exact LessO.nil | exact LessO.all | refine LessO.skip (by decide) ?_ | refine LessO.upd ?_ ?_ | refine LessO.set ?_ ?_)) <;> (try simp (maxSteps := 1000000) (disch := omega) only [push_cast, go_sem, wpS_tt, wpS_tf, wpS_ft, wpS_ff, wpCond_tt, wpCond_ff, simprocAttr])
        all_goals simp [intsN]
      refine SatW.of (by kernel_rfl) (fun o h => List.mem_of_mem_drop h) ?_
      cases ho : ringS R n a (s + 1) with
      | none =>
        rw [ho, onV_none] at hr
        simp (maxSteps := 1000000) (disch := omega) only [push_cast, go_sem, wpS_tt, wpS_tf, wpS_ft, wpS_ff, wpCond_tt, wpCond_ff, simprocAttr]
        refine callR.pure hr rfl rfl ?_
        simp (maxSteps := 1000000) (disch := omega) only [push_cast, go_sem, wpS_tt, wpS_tf, wpS_ft, wpS_ff, wpCond_tt, wpCond_ff, simprocAttr]
        refine Sat.of (S := []) (by kernel_rfl) ?_
        simp (maxSteps := 1000000) (disch := omega) only [push_cast, go_sem, wpS_tt, wpS_tf, wpS_ft, wpS_ff, wpCond_tt, wpCond_ff, simprocAttr]
        refine hJ2 (a + 1) _ _ ⟨by omega, fun j hj => ?_⟩ (by omega) ?_
        · rcases Nat.lt_or_ge j a with h | h
          · exact hna j h
          · have : j = a := by omega
            subst this; exact ho
        · (refine Less.start ?_; repeat (first | exact LessO.nil | exact LessO.all | refine LessO.skip (by decide) ?_ | refine LessO.upd ?_ ?_ | refine LessO.set ?_ ?_)) <;> (try simp (maxSteps := 1000000) (disch := omega) only [push_cast, go_sem, wpS_tt, wpS_tf, wpS_ft, wpS_ff, wpCond_tt, wpCond_ff, simprocAttr])
      | some r =>
        rw [ho, onV_some] at hr
        simp (maxSteps := 1000000) (disch := omega) only [push_cast, go_sem, wpS_tt, wpS_tf, wpS_ft, wpS_ff, wpCond_tt, wpCond_ff, simprocAttr]
        refine callR.pure hr rfl rfl ?_
        simp (maxSteps := 1000000) (disch := omega) only [push_cast, go_sem, wpS_tt, wpS_tf, wpS_ft, wpS_ff, wpCond_tt, wpCond_ff, simprocAttr]
        refine Sat.of (S := []) (by kernel_rfl) ?_
        simp (maxSteps := 1000000) (disch := omega) only [push_cast, go_sem, wpS_tt, wpS_tf, wpS_ft, wpS_ff, wpCond_tt, wpCond_ff, simprocAttr]
        refine ⟨noM, Sub.no, .inl ⟨?_, rfl⟩⟩
        rw [ringA_eq, fs_at hlt hno (fs_at hlt2 hna ho)]; rfl
    · have : a = n := by omega
      subst this
      simp (maxSteps := 1000000) (disch := omega) only [push_cast, go_sem, wpS_tt, wpS_tf, wpS_ft, wpS_ff, wpCond_tt, wpCond_ff, simprocAttr, hnn]
      refine hJ (s + 1) _ _ ⟨by omega, fun j hj => ?_⟩ (by omega) ?_
      · rcases Nat.lt_or_ge j s with h | h
        · exact hno j h
        · have : j = s := by omega
          subst this; exact fs_none hna
      · (refine Less.start ?_; repeat (first | exact LessO.nil | exact LessO.all | refine LessO.skip (by decide) ?_ | refine LessO.upd ?_ ?_ | refine LessO.set ?_ ?_)) <;> (try simp (maxSteps := 1000000) (disch := omega) only [push_cast, go_sem, wpS_tt, wpS_tf, wpS_ft, wpS_ff, wpCond_tt, wpCond_ff, simprocAttr])
  · have : s = n := by omega
    subst this
    have hsn : ¬ ((s : Int) + 1 ≤ s) := by omega
    simp (maxSteps := 1000000) (disch := omega) only [push_cast, go_sem, wpS_tt, wpS_tf, wpS_ft, wpS_ff, wpCond_tt, wpCond_ff, simprocAttr, hnn, hsn]
    intro g16
    refine ⟨noM.set 6 (.own 3 (some g16) 0 []), Sub.set Sub.no rfl, .inr ⟨6, some g16, 0, 3, [], .bool false, rfl, rfl, ?_⟩⟩
    rw [ringA_eq, fs_none hno]; rfl
end Go.Proofs.YtfdbminedccccaaGreatDoor
/-! ## Draws: a program, a way and an order, with a ring, mostly -/
namespace Go.Proofs.YtfdbminedccccaaGreatDoor
open Go.RowKit
set_option linter.unusedSimpArgs false
set_option linter.unusedVariables false
set_option pp.maxSteps 3000

theorem fz_rowE (x : RowE) : x.V.fz = x.x.V := by
  simp only [RowE.V, RowE.x, Exe.V, V.fz, List.map_cons, List.map_nil, fzs_map, fzs_int, fz_rowsI]
theorem specExecAllF_fn (p : Prog) (hp : p.length < 2 ^ 40) : Fp Tryz.prog 39 [progV p] (.sl ((specAll p).map Exe.V)) :=
  Fc.fzRow (specExecAllO_fn p hp) (by
    rintro r m ⟨γ, cap, e, es, h1, h2, h3, rfl, rfl⟩
    refine ⟨100, γ, cap, e, es.map RowE.V, by rw [List.length_map], by simp [Mem.set], ?_⟩
    rw [← h1, List.map_map, List.map_map]
    exact List.map_congr_left fun x _ => fz_rowE x)
theorem DrawOrderRing_fn (bs : List Int) (hb : Code8 bs) (hl : bs.length < 2 ^ 40) : Fc Tryz.prog 12 [codeV bs] noM (fun r m => DrawnH r ∧ m = noM) := by
  refine Fc.start (S := []) Tryz.func12 Tryz.ntmps12 Tryz.results12 rfl (by decide) rfl (by kernel_rfl) ?_
  simp (maxSteps := 1000000) (disch := omega) only [push_cast, go_sem, wpS_tt, wpS_tf, wpS_ft, wpS_ff, wpCond_tt, wpCond_ff, simprocAttr, codeV_eq]
  intro g2 g3
  refine callR.new (l6Open_fn bs hl) rfl rfl ?_
  rintro r ob ⟨g, rfl, rfl⟩
  simp (maxSteps := 1000000) (disch := omega) only [push_cast, go_sem, wpS_tt, wpS_tf, wpS_ft, wpS_ff, wpCond_tt, wpCond_ff, simprocAttr]
  refine callR.rd (l71Exec_rd (bs.take 2000) hb.take g 0 (by omega)) rfl rfl rfl ?_
  rintro r o' ⟨x, y, rfl, hx1, hx2, hy, q, hq1, hq2, rfl⟩
  have hyf := hy.fr
  have hys : y.small := ⟨by have := hy.fr; omega, by have := hy.od; omega, fun r hr => by have := hy.row r hr; omega⟩
  simp (maxSteps := 1000000) (disch := omega) only [push_cast, go_sem, wpS_tt, wpS_tf, wpS_ft, wpS_ff, wpCond_tt, wpCond_ff, simprocAttr, progV_eq, Exe.V_eq]
  intro g6 g7
  refine callR.rd (l71Kind_pl (bs.take 2000) hb.take g q (by omega)) rfl rfl rfl ?_
  rintro r o' ⟨⟨kind, rfl⟩, q1, hq3, hq4, rfl⟩
  have hall := specExecAllF_fn x (by omega)
  rw [progV_eq] at hall
  simp (maxSteps := 1000000) (disch := omega) only [push_cast, go_sem, wpS_tt, wpS_tf, wpS_ft, wpS_ff, wpCond_tt, wpCond_ff, simprocAttr]
  refine callR.pure hall rfl rfl ?_
  simp (maxSteps := 1000000) (disch := omega) only [push_cast, go_sem, wpS_tt, wpS_tf, wpS_ft, wpS_ff, wpCond_tt, wpCond_ff, simprocAttr]
  have hsle := specAll_le x
  refine Sat.loop (σ := Nat × Exe × Nat) (fun s => upd (upd (upd (upd (upd (upd (upd (upd noT 2 (.ptr 2 [] 0 0 g2 1)) 3 (.ptr 3 [] 0 0 g3 2)) 5 (.ptr 5 [] 0 0 g 2)) 6 (.ptr 6 [] 0 0 g6 1)) 7 (.ptr 7 [] 0 0 g7 2)) 8 (.int .i64 kind)) 9 (.sl ((specAll x).map Exe.V))) 10 (.int .i64 s.1))
    (fun s => ((((noM.set 2 (.own 25 (some g2) 1 [.agg [.own 0 none 0 []]])).set 3 (.own 29 (some g3) 1 [.agg [.own 0 none 0 [], .own 0 none 0 []]])).set 5 (rdO (bs.take 2000) g s.2.2)).set 6 (.own 25 (some g6) 1 [.agg [.sl (x.map thrV)]])).set 7 (.own 29 (some g7) 1 [.agg [.sl (s.2.1.fr.map (V.int .i64)), .sl (s.2.1.od.map intsV)]]))
    (fun s => s.1 ≤ 6 ∧ s.2.1.small ∧ q1 ≤ s.2.2 ∧ s.2.2 ≤ q1 + s.1 * 4) (fun s => 6 - s.1) (0, y, q1) ⟨by dsimp only; omega, hys, by dsimp only; omega, by dsimp only; omega⟩ ?_ ?_
  · (refine Less.start ?_; repeat (first | exact LessO.nil | exact LessO.all | refine LessO.skip (by decide) ?_ | refine LessO.upd ?_ ?_ | refine LessO.set ?_ ?_)) <;> (try simp (maxSteps := 1000000) (disch := omega) only [push_cast, go_sem, wpS_tt, wpS_tf, wpS_ft, wpS_ff, wpCond_tt, wpCond_ff, simprocAttr])
  rintro ⟨i, z, q2⟩ ⟨hi, hz, hq5, hq6⟩ J hJ
  simp only at hi hz hq5 hq6 hJ
  refine Sat.of (S := []) (by kernel_rfl) ?_
  have fin : DrawnH (.tuple [progV x, z.V, .int .i64 kind]) := ⟨x, z, kind, rfl, hx1, hx2, hz⟩
  rw [progV_eq, Exe.V_eq] at fin
  by_cases h6 : (i : Int) < 6
  · by_cases hne : (0 : Int) < (specAll x).length
    · simp (maxSteps := 1000000) (disch := omega) only [push_cast, go_sem, wpS_tt, wpS_tf, wpS_ft, wpS_ff, wpCond_tt, wpCond_ff, simprocAttr, h6, hne]
      refine callR.rd (pick_rd (bs.take 2000) hb.take g q2 (by omega) 5 (by omega)) rfl rfl rfl ?_
      rintro r o' ⟨v, rfl, hv0, hv1, _, rfl⟩
      by_cases hv : (0 : Int) < v
      · have hr := specOrderRing_fn x z kind (by omega) hz
        rw [progV_eq, Exe.V_eq] at hr
        cases hrr : ringO x z kind with
        | none =>
          rw [hrr, show lineW none = .tuple [.sl [], .bool false] from rfl] at hr
          simp (maxSteps := 1000000) (disch := omega) only [push_cast, go_sem, wpS_tt, wpS_tf, wpS_ft, wpS_ff, wpCond_tt, wpCond_ff, simprocAttr, hv]
          refine callR.pure hr rfl rfl ?_
          simp (maxSteps := 1000000) (disch := omega) only [push_cast, go_sem, wpS_tt, wpS_tf, wpS_ft, wpS_ff, wpCond_tt, wpCond_ff, simprocAttr]
          refine callR.rd (pick_rd (bs.take 2000) hb.take g (q2 + 1) (by omega) (specAll x).length (by omega)) rfl rfl rfl ?_
          rintro r o' ⟨u, rfl, hu0, hu1, _, rfl⟩
          have hu := hu1 (by omega)
          obtain ⟨u, rfl⟩ := Int.eq_ofNat_of_zero_le hu0
          have hul : u < (specAll x).length := by omega
          obtain ⟨z', hz'⟩ : ∃ z', (specAll x)[u]? = some z' := ⟨_, List.getElem?_eq_getElem hul⟩
          have hsm := specAll_small (List.mem_of_getElem? hz')
          have hsm' : z'.small := ⟨by omega, by omega, fun r hr => by have := hsm.2.2 r hr; omega⟩
          simp (maxSteps := 1000000) (disch := omega) only [push_cast, go_sem, wpS_tt, wpS_tf, wpS_ft, wpS_ff, wpCond_tt, wpCond_ff, simprocAttr, hz', hul, Exe.V_eq]
          refine hJ (i + 1, z', q2 + 1 + 1) _ _ ⟨by dsimp only; omega, hsm', by dsimp only; omega, by dsimp only; omega⟩ (by dsimp only; omega) ?_
          (refine Less.start ?_; repeat (first | exact LessO.nil | exact LessO.all | refine LessO.skip (by decide) ?_ | refine LessO.upd ?_ ?_ | refine LessO.set ?_ ?_)) <;> (try simp (maxSteps := 1000000) (disch := omega) only [push_cast, go_sem, wpS_tt, wpS_tf, wpS_ft, wpS_ff, wpCond_tt, wpCond_ff, simprocAttr])
        | some r =>
          rw [hrr, lineW_some] at hr
          simp (maxSteps := 1000000) (disch := omega) only [push_cast, go_sem, wpS_tt, wpS_tf, wpS_ft, wpS_ff, wpCond_tt, wpCond_ff, simprocAttr, hv]
          refine callR.pure hr rfl rfl ?_
          simp (maxSteps := 1000000) (disch := omega) only [push_cast, go_sem, wpS_tt, wpS_tf, wpS_ft, wpS_ff, wpCond_tt, wpCond_ff, simprocAttr]
          refine Sat.drawnE [(0, 1), (1, 3)] [] [0, 1] (fun _ _ _ => none) (by kernel_rfl) (by kernel_rfl) ?_
          simp (maxSteps := 1000000) (disch := omega) only [push_cast, go_sem, wpS_tt, wpS_tf, wpS_ft, wpS_ff, wpCond_tt, wpCond_ff, simprocAttr]
          exact fin
      · simp (maxSteps := 1000000) (disch := omega) only [push_cast, go_sem, wpS_tt, wpS_tf, wpS_ft, wpS_ff, wpCond_tt, wpCond_ff, simprocAttr, hv]
        refine Sat.drawnE [(0, 1), (1, 3)] [] [0, 1] (fun _ _ _ => none) (by kernel_rfl) (by kernel_rfl) ?_
        simp (maxSteps := 1000000) (disch := omega) only [push_cast, go_sem, wpS_tt, wpS_tf, wpS_ft, wpS_ff, wpCond_tt, wpCond_ff, simprocAttr]
        exact fin
    · simp (maxSteps := 1000000) (disch := omega) only [push_cast, go_sem, wpS_tt, wpS_tf, wpS_ft, wpS_ff, wpCond_tt, wpCond_ff, simprocAttr, h6, hne]
      refine Sat.drawnE [(0, 1), (1, 3)] [] [0, 1] (fun _ _ _ => none) (by kernel_rfl) (by kernel_rfl) ?_
      simp (maxSteps := 1000000) (disch := omega) only [push_cast, go_sem, wpS_tt, wpS_tf, wpS_ft, wpS_ff, wpCond_tt, wpCond_ff, simprocAttr]
      exact fin
  · simp (maxSteps := 1000000) (disch := omega) only [push_cast, go_sem, wpS_tt, wpS_tf, wpS_ft, wpS_ff, wpCond_tt, wpCond_ff, simprocAttr, h6]
    refine Sat.drawnE [(0, 1), (1, 3)] [] [0, 1] (fun _ _ _ => none) (by kernel_rfl) (by kernel_rfl) ?_
    simp (maxSteps := 1000000) (disch := omega) only [push_cast, go_sem, wpS_tt, wpS_tf, wpS_ft, wpS_ff, wpCond_tt, wpCond_ff, simprocAttr]
    exact fin
end Go.Proofs.YtfdbminedccccaaGreatDoor
/-! ## A law: where there is a ring it does not hold; where nobody waits and there is none by the strict order, it does -/
namespace Go.Proofs.YtfdbminedccccaaGreatDoor
open Go.RowKit
set_option linter.unusedSimpArgs false
set_option linter.unusedVariables false
set_option pp.maxSteps 3000

theorem lpWaits_fn (p : Prog) (hp : p.length < 2 ^ 40) (hls : ∀ l ∈ p, l.length < 2 ^ 40) : Fp Tryz.prog 18 [progV p] (.bool (waitsB p)) := by
  refine Fc.start (S := []) Tryz.func18 Tryz.ntmps18 Tryz.results18 rfl (by decide) rfl (by kernel_rfl) ?_
  simp (maxSteps := 1000000) (disch := omega) only [push_cast, go_sem, wpS_tt, wpS_tf, wpS_ft, wpS_ff, wpCond_tt, wpCond_ff, simprocAttr, progV_eq]
  intro g1
  refine Sat.loop (σ := Nat) (fun i => upd (upd noT 1 (.ptr 1 [] 0 0 g1 1)) 3 (.int .i64 i)) (fun _ => noM.set 1 (.own 25 (some g1) 1 [.agg [.sl (p.map thrV)]]))
    (fun i => i ≤ p.length ∧ waitsB (p.take i) = false) (fun i => p.length - i) 0 ⟨by omega, rfl⟩ ?_ ?_
  · (refine Less.start ?_; repeat (first | exact LessO.nil | exact LessO.all | refine LessO.skip (by decide) ?_ | refine LessO.upd ?_ ?_ | refine LessO.set ?_ ?_)) <;> (try simp (maxSteps := 1000000) (disch := omega) only [push_cast, go_sem, wpS_tt, wpS_tf, wpS_ft, wpS_ff, wpCond_tt, wpCond_ff, simprocAttr])
  rintro i ⟨hi, hno⟩ J hJ
  refine Sat.of (S := []) (by kernel_rfl) ?_
  rcases Nat.lt_or_ge i p.length with hlt | hge
  · obtain ⟨l, hl⟩ : ∃ l, p[i]? = some l := ⟨_, List.getElem?_eq_getElem hlt⟩
    have htk := take_get hl
    have hll := hls l (List.mem_of_getElem? hl)
    simp (maxSteps := 1000000) (disch := omega) only [push_cast, go_sem, wpS_tt, wpS_tf, wpS_ft, wpS_ff, wpCond_tt, wpCond_ff, simprocAttr, hlt]
    refine Sat.loop (σ := Nat) (fun k => upd (upd (upd noT 1 (.ptr 1 [] 0 0 g1 1)) 3 (.int .i64 i)) 4 (.int .i64 k)) (fun _ => noM.set 1 (.own 25 (some g1) 1 [.agg [.sl (p.map thrV)]]))
      (fun k => k ≤ l.length ∧ (l.take k).any (fun d => d.k == 9) = false) (fun k => l.length - k) 0 ⟨by omega, rfl⟩ ?_ ?_
    · (refine Less.start ?_; repeat (first | exact LessO.nil | exact LessO.all | refine LessO.skip (by decide) ?_ | refine LessO.upd ?_ ?_ | refine LessO.set ?_ ?_)) <;> (try simp (maxSteps := 1000000) (disch := omega) only [push_cast, go_sem, wpS_tt, wpS_tf, wpS_ft, wpS_ff, wpCond_tt, wpCond_ff, simprocAttr])
    rintro k ⟨hk, hnk⟩ J2 hJ2
    refine Sat.of (S := []) (by kernel_rfl) ?_
    rcases Nat.lt_or_ge k l.length with hlt2 | hge2
    · obtain ⟨d, hd⟩ : ∃ d, l[k]? = some d := ⟨_, List.getElem?_eq_getElem hlt2⟩
      have htl := take_get hd
      cases h9 : (d.k == 9)
      · simp (maxSteps := 1000000) (disch := omega) only [push_cast, go_sem, wpS_tt, wpS_tf, wpS_ft, wpS_ff, wpCond_tt, wpCond_ff, simprocAttr, hlt, hlt2, hl, hd, thrV_eq, Do.V_eq, h9]
        refine hJ2 (k + 1) _ _ ⟨by omega, by rw [htl, List.any_append, hnk]; simp [h9]⟩ (by omega) ?_
        (refine Less.start ?_; repeat (first | exact LessO.nil | exact LessO.all | refine LessO.skip (by decide) ?_ | refine LessO.upd ?_ ?_ | refine LessO.set ?_ ?_)) <;> (try simp (maxSteps := 1000000) (disch := omega) only [push_cast, go_sem, wpS_tt, wpS_tf, wpS_ft, wpS_ff, wpCond_tt, wpCond_ff, simprocAttr])
      · simp (maxSteps := 1000000) (disch := omega) only [push_cast, go_sem, wpS_tt, wpS_tf, wpS_ft, wpS_ff, wpCond_tt, wpCond_ff, simprocAttr, hlt, hlt2, hl, hd, thrV_eq, Do.V_eq, h9]
        have : waitsB p = true := by
          rw [waitsB, List.any_eq_true]
          exact ⟨l, List.mem_of_getElem? hl, List.any_eq_true.2 ⟨d, List.mem_of_getElem? hd, h9⟩⟩
        rw [this]
    · have : k = l.length := by omega
      subst this
      simp (maxSteps := 1000000) (disch := omega) only [push_cast, go_sem, wpS_tt, wpS_tf, wpS_ft, wpS_ff, wpCond_tt, wpCond_ff, simprocAttr, hlt, hl, thrV_eq]
      refine hJ (i + 1) _ _ ⟨by omega, ?_⟩ (by omega) ?_
      · rw [List.take_length] at hnk
        rw [htk, waitsB, List.any_append]
        rw [waitsB] at hno
        rw [hno]; simp [hnk]
      · (refine Less.start ?_; repeat (first | exact LessO.nil | exact LessO.all | refine LessO.skip (by decide) ?_ | refine LessO.upd ?_ ?_ | refine LessO.set ?_ ?_)) <;> (try simp (maxSteps := 1000000) (disch := omega) only [push_cast, go_sem, wpS_tt, wpS_tf, wpS_ft, wpS_ff, wpCond_tt, wpCond_ff, simprocAttr])
  · have : i = p.length := by omega
    subst this
    rw [List.take_length] at hno
    simp (maxSteps := 1000000) (disch := omega) only [push_cast, go_sem, wpS_tt, wpS_tf, wpS_ft, wpS_ff, wpCond_tt, wpCond_ff, simprocAttr]
    rw [hno]
theorem lawOrderRingNot_fn (bs : List Int) (hb : Code8 bs) : Fp Tryz.prog 5 [codeV bs] (.bool true) := by
  refine Fc.start (S := [6, 8]) Tryz.func5 Tryz.ntmps5 Tryz.results5 rfl (by decide) rfl (by kernel_rfl) ?_
  by_cases h : (1048576 : Int) < bs.length
  · simp (maxSteps := 1000000) (disch := omega) only [push_cast, go_sem, wpS_tt, wpS_tf, wpS_ft, wpS_ff, wpCond_tt, wpCond_ff, simprocAttr, codeV_eq, h]
  simp (maxSteps := 1000000) (disch := omega) only [push_cast, go_sem, wpS_tt, wpS_tf, wpS_ft, wpS_ff, wpCond_tt, wpCond_ff, simprocAttr, codeV_eq, h]
  refine callR.ex (DrawOrderRing_fn bs hb (by omega)) rfl rfl ?_
  rintro r ⟨p, x, kind, rfl, hp, hl, hx⟩
  have hl' : ∀ l ∈ p, l.length < 2 ^ 40 := fun l h => by have := hl l h; omega
  have h1 := implOrderRing_fn p x kind (by omega) hl' hx
  have h2 := specOrderRing_fn p x kind (by omega) hx
  have h3 := implOrderHolds_fn p x kind (by omega) hl' hx
  have h4 := implOrderHolds_fn p x 1 (by omega) hl' hx
  have h5 := implOrderRing_fn p x 1 (by omega) hl' hx
  have h6 := implExecOk_fn p x (by omega) hl' hx
  have h7 := lpWaits_fn p (by omega) hl'
  rw [ok_eq] at h6
  have rest : ∀ (o : Bool), o = (ringO p x kind).isSome → (!(o && holdsS p x kind)) = true := fun o ho => by
    subst ho
    cases hr : (ringO p x kind).isSome
    · rfl
    · rw [ringO_holds hr]; rfl
  have bad : (specOk p x && inB kind 1 3) = false → (ringO p x kind).isSome = false ∧ holdsS p x kind = false := fun h => by
    obtain ⟨k1, k2⟩ := ringO_bad h
    rw [k1, k2]; exact ⟨rfl, rfl⟩
  have good : specOk p x = true → waitsB p = false → (holdsS p x 1 != (ringO p x 1).isSome) = true := fun h1 h2 => by
    rw [ringO_none h1 h2]; cases (ringO p x 1).isSome <;> rfl
  obtain ⟨r0, hr0⟩ : ∃ r, (ringO p x kind).isSome = r := ⟨_, rfl⟩
  obtain ⟨r1, hr1⟩ : ∃ r, (ringO p x 1).isSome = r := ⟨_, rfl⟩
  obtain ⟨v0, hv0⟩ : ∃ v, holdsS p x kind = v := ⟨_, rfl⟩
  obtain ⟨v1, hv1⟩ : ∃ v, holdsS p x 1 = v := ⟨_, rfl⟩
  rw [hr0, hv0] at rest bad
  rw [hv1, hr1] at good
  rw [hv0] at h3
  rw [hv1] at h4
  have h5' : ∃ u, lineV (ringO p x 1) = .tuple [u, .bool r1] ∧ (u = .nilsl ∨ ∃ xs, u = .sl xs) := by
    rw [← hr1]
    cases ringO p x 1 with
    | none => exact ⟨_, rfl, .inl rfl⟩
    | some l => exact ⟨_, rfl, .inr ⟨_, rfl⟩⟩
  obtain ⟨u, hu, hun⟩ := h5'
  rw [hu, progV_eq, Exe.V_eq] at h5
  rw [progV_eq, Exe.V_eq] at h3 h4 h6
  rw [progV_eq] at h7
  cases hh : ringO p x kind with
  | none =>
    have hr : r0 = false := by rw [← hr0, hh]; rfl
    subst hr
    rw [hh] at h1 h2
    have hi := lpInts_fn [] [] (by decide) (by decide)
    rw [show lineV none = .tuple [.nilsl, .bool false] from rfl] at h1
    rw [show lineW none = .tuple [.sl [], .bool false] from rfl] at h2
    rw [intsV_nil] at hi
    simp (maxSteps := 1000000) (disch := omega) only [push_cast, go_sem, wpS_tt, wpS_tf, wpS_ft, wpS_ff, wpCond_tt, wpCond_ff, simprocAttr, progV_eq, Exe.V_eq]
    intro g3 g4
    refine callR.pure h2 rfl rfl ?_
    simp (maxSteps := 1000000) (disch := omega) only [push_cast, go_sem, wpS_tt, wpS_tf, wpS_ft, wpS_ff, wpCond_tt, wpCond_ff, simprocAttr]
    refine callR.pure h1 rfl rfl ?_
    simp (maxSteps := 1000000) (disch := omega) only [push_cast, go_sem, wpS_tt, wpS_tf, wpS_ft, wpS_ff, wpCond_tt, wpCond_ff, simprocAttr]
    refine Sat.freezeT (upd (upd (upd (upd (upd (upd (upd noT 3 (.ptr 3 [] 0 0 g3 1)) 4 (.ptr 4 [] 0 0 g4 2)) 5 (.int .i64 kind)) 6 (.sl [])) 7 (.bool false)) 9 (.bool false)) 8 (.sl []))
      ((noM.set 3 (.own 25 (some g3) 1 [.agg [.sl (p.map thrV)]])).set 4 (.own 29 (some g4) 1 [.agg [.sl (x.fr.map (V.int .i64)), .sl (x.od.map intsV)]])) 8 (e := 0) (γ := none) (cap := 0) (es := []) rfl ?_ ?_
    · (refine Less.start ?_; repeat (first | exact LessO.nil | exact LessO.all | refine LessO.skip (by decide) ?_ | refine LessO.upd ?_ ?_ | refine LessO.set ?_ ?_)) <;> (try simp (maxSteps := 1000000) (disch := omega) only [push_cast, go_sem, wpS_tt, wpS_tf, wpS_ft, wpS_ff, wpCond_tt, wpCond_ff, simprocAttr])
    refine Sat.of (S := []) (by kernel_rfl) ?_
    simp (maxSteps := 1000000) (disch := omega) only [push_cast, go_sem, wpS_tt, wpS_tf, wpS_ft, wpS_ff, wpCond_tt, wpCond_ff, simprocAttr]
    refine callR.pure hi rfl rfl ?_
    simp (maxSteps := 1000000) (disch := omega) only [push_cast, go_sem, wpS_tt, wpS_tf, wpS_ft, wpS_ff, wpCond_tt, wpCond_ff, simprocAttr]
    refine Sat.of (S := []) (by kernel_rfl) ?_
    simp (maxSteps := 1000000) (disch := omega) only [push_cast, go_sem, wpS_tt, wpS_tf, wpS_ft, wpS_ff, wpCond_tt, wpCond_ff, simprocAttr]
    refine callR.pure h3 rfl rfl ?_
    simp (maxSteps := 1000000) (disch := omega) only [push_cast, go_sem, wpS_tt, wpS_tf, wpS_ft, wpS_ff, wpCond_tt, wpCond_ff, simprocAttr]
    refine callR.pure h4 rfl rfl ?_
    simp (maxSteps := 1000000) (disch := omega) only [push_cast, go_sem, wpS_tt, wpS_tf, wpS_ft, wpS_ff, wpCond_tt, wpCond_ff, simprocAttr]
    refine callR.pure h5 rfl rfl ?_
    rcases hun with rfl | ⟨xs, rfl⟩
    all_goals
      simp (maxSteps := 1000000) (disch := omega) only [push_cast, go_sem, wpS_tt, wpS_tf, wpS_ft, wpS_ff, wpCond_tt, wpCond_ff, simprocAttr]
      refine callR.pure h6 rfl rfl ?_
      cases hok : specOk p x
      · have hb := (bad (by rw [hok]; rfl)).2
        rw [hb]
        simp (maxSteps := 1000000) (disch := omega) only [push_cast, go_sem, wpS_tt, wpS_tf, wpS_ft, wpS_ff, wpCond_tt, wpCond_ff, simprocAttr]
      have good' := good hok
      rw [hok] at bad
      by_cases hk1 : kind < 1
      · have hb := (bad (by simp [inB]; omega)).2
        rw [hb]
        simp (maxSteps := 1000000) (disch := omega) only [push_cast, go_sem, wpS_tt, wpS_tf, wpS_ft, wpS_ff, wpCond_tt, wpCond_ff, simprocAttr, hk1]
      by_cases hk3 : 3 < kind
      · have hb := (bad (by simp [inB]; omega)).2
        rw [hb]
        simp (maxSteps := 1000000) (disch := omega) only [push_cast, go_sem, wpS_tt, wpS_tf, wpS_ft, wpS_ff, wpCond_tt, wpCond_ff, simprocAttr, hk1, hk3]
      simp (maxSteps := 1000000) (disch := omega) only [push_cast, go_sem, wpS_tt, wpS_tf, wpS_ft, wpS_ff, wpCond_tt, wpCond_ff, simprocAttr, hk1, hk3]
      refine callR.pure h7 rfl rfl ?_
      cases hwt : waitsB p
      · have hg := good' hwt
        simp (maxSteps := 1000000) (disch := omega) only [push_cast, go_sem, wpS_tt, wpS_tf, wpS_ft, wpS_ff, wpCond_tt, wpCond_ff, simprocAttr]
        exact hg
      · simp (maxSteps := 1000000) (disch := omega) only [push_cast, go_sem, wpS_tt, wpS_tf, wpS_ft, wpS_ff, wpCond_tt, wpCond_ff, simprocAttr]
  | some l =>
    have hr : r0 = true := by rw [← hr0, hh]; rfl
    subst hr
    have hv : v0 = false := by have := rest true rfl; simpa using this
    subst hv
    obtain ⟨hl2, hle, hall, hhas⟩ := ringO_has hh
    have hc : specOk p x = true ∧ inB kind 1 3 = true := by
      rw [ringO] at hh
      cases hc : specOk p x && inB kind 1 3
      · rw [hc] at hh; cases hh
      · rw [Bool.and_eq_true] at hc; exact hc
    have hok := hc.1
    have hkk := hc.2
    have hpk : progOk p = true := (Way.of (by rw [ok_eq]; exact hok)).ok
    have hel := events_le hpk
    have hil := intsN_len l
    have hln : (intsN l).length < 2 ^ 40 := by rw [hil]; omega
    rw [hh] at h1 h2
    rw [show lineV (some l) = .tuple [.sl ((intsN l).map (V.int .i64)), .bool true] from by rw [← natE_map]; rfl] at h1
    rw [lineW_some] at h2
    have hi := lpInts_fn (intsN l) (intsN l) hln hln
    rw [intsV_eq] at hi
    have hdt : decide (intsN l = intsN l) = true := by simp
    rw [hdt] at hi
    simp (maxSteps := 1000000) (disch := omega) only [push_cast, go_sem, wpS_tt, wpS_tf, wpS_ft, wpS_ff, wpCond_tt, wpCond_ff, simprocAttr, progV_eq, Exe.V_eq]
    intro g3 g4
    refine callR.pure h2 rfl rfl ?_
    simp (maxSteps := 1000000) (disch := omega) only [push_cast, go_sem, wpS_tt, wpS_tf, wpS_ft, wpS_ff, wpCond_tt, wpCond_ff, simprocAttr]
    refine callR.pure h1 rfl rfl ?_
    simp (maxSteps := 1000000) (disch := omega) only [push_cast, go_sem, wpS_tt, wpS_tf, wpS_ft, wpS_ff, wpCond_tt, wpCond_ff, simprocAttr]
    refine Sat.of (S := []) (by kernel_rfl) ?_
    simp (maxSteps := 1000000) (disch := omega) only [push_cast, go_sem, wpS_tt, wpS_tf, wpS_ft, wpS_ff, wpCond_tt, wpCond_ff, simprocAttr]
    refine callR.pure hi rfl rfl ?_
    simp (maxSteps := 1000000) (disch := omega) only [push_cast, go_sem, wpS_tt, wpS_tf, wpS_ft, wpS_ff, wpCond_tt, wpCond_ff, simprocAttr]
    refine Sat.of (S := []) (by kernel_rfl) ?_
    simp (maxSteps := 1000000) (disch := omega) only [push_cast, go_sem, wpS_tt, wpS_tf, wpS_ft, wpS_ff, wpCond_tt, wpCond_ff, simprocAttr]
    refine callR.pure h3 rfl rfl ?_
    simp (maxSteps := 1000000) (disch := omega) only [push_cast, go_sem, wpS_tt, wpS_tf, wpS_ft, wpS_ff, wpCond_tt, wpCond_ff, simprocAttr]
    refine callR.pure h4 rfl rfl ?_
    simp (maxSteps := 1000000) (disch := omega) only [push_cast, go_sem, wpS_tt, wpS_tf, wpS_ft, wpS_ff, wpCond_tt, wpCond_ff, simprocAttr]
    refine callR.pure h5 rfl rfl ?_
    rcases hun with rfl | ⟨xs, rfl⟩
    all_goals
      simp (maxSteps := 1000000) (disch := omega) only [push_cast, go_sem, wpS_tt, wpS_tf, wpS_ft, wpS_ff, wpCond_tt, wpCond_ff, simprocAttr]
      refine callR.pure h6 rfl rfl ?_
      rw [hok]
      have hk1 : ¬ kind < 1 := by simp [inB] at hkk; omega
      have hk3 : ¬ 3 < kind := by simp [inB] at hkk; omega
      simp (maxSteps := 1000000) (disch := omega) only [push_cast, go_sem, wpS_tt, wpS_tf, wpS_ft, wpS_ff, wpCond_tt, wpCond_ff, simprocAttr, hk1, hk3]
      refine callR.pure h7 rfl rfl ?_
      cases hwt : waitsB p
      · have hg := good hok hwt
        simp (maxSteps := 1000000) (disch := omega) only [push_cast, go_sem, wpS_tt, wpS_tf, wpS_ft, wpS_ff, wpCond_tt, wpCond_ff, simprocAttr]
        exact hg
      · simp (maxSteps := 1000000) (disch := omega) only [push_cast, go_sem, wpS_tt, wpS_tf, wpS_ft, wpS_ff, wpCond_tt, wpCond_ff, simprocAttr]
end Go.Proofs.YtfdbminedccccaaGreatDoor
/-! ## Rows: what all laws of a code share -/
namespace Go.Proofs.YtfdbminedccccaaGreatDoor
open Go.ChangeShapes Go.WideShapes Go.ChangeAt Go.RowKit
set_option linter.unusedSimpArgs false
set_option linter.unusedVariables false

theorem own : ownKnob Tryz.prog.godebug = none := by kernel_rfl
theorem laidOut' : laidOutB Tryz.prog = true := by kernel_rfl
theorem cells8 : Tryz.prog.cellsOf 5 = 1 := by kernel_rfl

/-- A row of bytes that is never written again. -/
theorem code_rp {imm : Nat → Prop} {W : World} {b off len cap : Nat} {zs : List Int} (hlz : len ≤ zs.length) (hl : len ≤ cap) (hi : imm b) (hcell : ∀ i, i < zs.length → W.cell? ⟨b, off + i, none⟩ = some (.int .u8 (zs.getD i 0))) :
    Rp imm W (codeV (zs.take len)) (.slice (some ⟨b, off, none⟩) len cap) := by
  by_cases h0 : len = 0
  · subst h0; exact .sl0 _ _
  have hc0 := hcell 0 (by omega)
  unfold World.cell? at hc0
  split at hc0
  · rename_i cur t fr hg
    have hln : (zs.take len).length = len := by rw [List.length_take]; omega
    have e : ((zs.take len).map (V.int .u8)).length = len := by rw [List.length_map]; exact hln
    have get : ∀ (i : Nat) (x : V), ((zs.take len).map (V.int .u8))[i]? = some x → x = .int .u8 (zs.getD i 0) ∧ i < len := by
      intro i x hx
      have hlt : i < len := by have := (List.getElem?_eq_some_iff.1 hx).1; omega
      rw [List.getElem?_map, List.getElem?_take_of_lt hlt] at hx
      obtain ⟨y, hy, rfl⟩ := Option.map_eq_some_iff.1 hx
      exact ⟨by rw [List.getD, hy]; rfl, hlt⟩
    have := Rp.sl (imm := imm) (w := W) ((zs.take len).map (V.int .u8)) b off cap 1 cur t fr (fun i _ => .int .u8 (zs.getD i 0)) hi hg (by omega)
      (fun i x hx => by rw [(get i x hx).1]; rfl)
      (fun i x j c hx hc => by
        obtain ⟨rfl, hlt⟩ := get i x hx
        have hj : j = 0 := by
          cases j with
          | zero => rfl
          | succ j => simp [V.cells] at hc
        subst hj
        have := hcell i (by omega)
        unfold World.cell? at this
        simp only [hg] at this
        simpa using this)
      (fun i x j c hx hc => by
        obtain ⟨rfl, hlt⟩ := get i x hx
        have hj : j = 0 := by
          cases j with
          | zero => rfl
          | succ j => simp [V.cells] at hc
        subst hj
        simp [V.cells] at hc
        subst hc
        exact .int _ _)
    rw [e] at this
    exact this
  · cases hc0

/-- A law of one code: what its contract says of the world. -/
theorem law_calls {f : FuncId} {W : World} {x : V} {v : Value} {imm : Nat → Prop} (h : Fp Tryz.prog f [x] (.bool true)) (hG : Glob imm W) (hi : ∀ g, imm g → g < W.heap.size) (hx : Rp imm W x v) :
    Calls Tryz.prog f #[v] W fun e w' => e = .returned (.bool true) ∧ Below W.heap.size W w' := by
  refine (h.fn imm W #[v] hG inv_no hi rfl ?_).mono ?_
  · intro j c u hj hu
    cases j with
    | zero => simp at hj hu; subst hj; subst hu; exact hx
    | succ j => simp at hj
  · rintro e w' ⟨r, r', m, imm', rfl, ⟨rfl, rfl⟩, h3, h4⟩
    rw [h3.bool_inv]
    exact ⟨rfl, h4.os, h4.tape, h4.output, h4.size, fun k hk => (h4.block k hk not_owns_no).1⟩
end Go.Proofs.YtfdbminedccccaaGreatDoor
/-! ## Rows of a great seat: the library's table, from what the row lists -/
namespace Go.Proofs.YtfdbminedccccaaGreatDoor
open Go.ChangeShapes Go.WideShapes Go.ChangeAt Go.RowKit
set_option linter.unusedSimpArgs false
set_option linter.unusedVariables false

theorem laid_tab {H : Type} : (Rows.laid_math_bits_deBruijn64tab : DataW H) = Lib.tabData .u8 (Lib.deBruijn64tab.map fun n : Nat => (n : Int)) := rfl
theorem tabs_of {W : World} {rest : List (String × DataW Unit)} (h : laidMet Tryz.prog (("math/bits.deBruijn64tab", Rows.laid_math_bits_deBruijn64tab) :: rest) W) : ∀ x ∈ globT, Tab x.1 x.2 W := by
  rw [laid_tab] at h
  intro x hx
  simp only [globT, List.mem_cons, List.not_mem_nil, or_false] at hx
  subst hx
  intro j hj
  have hT := Lib.tabIs_of_head (t := 123) (e := 5) (n := 64) (g := (globT.headD (0, [])).1) (by kernel_rfl) (by kernel_rfl) Tryz.underlying123 Tryz.underlying5 cells8 (by kernel_rfl) h
  have := hT.cell (g := (globT.headD (0, [])).1) (by kernel_rfl) j (by rw [List.length_map]; exact hj)
  have e : (Lib.deBruijn64tab.map fun n : Nat => (n : Int)).getD j 0 = ((Lib.deBruijn64tab.getD j 0 : Nat) : Int) := by
    simp only [List.getD, List.getElem?_map]
    cases Lib.deBruijn64tab[j]? <;> rfl
  rw [e] at this
  exact this
theorem glob_of {W : World} {imm : Nat → Prop} (hT : ∀ x ∈ globT, Tab x.1 x.2 W) (hi : ∀ x ∈ globT, imm x.1) : Glob imm W := fun x hx => ⟨hi x hx, hT x hx⟩
theorem glob_lt {W : World} (hT : ∀ x ∈ globT, Tab x.1 x.2 W) : ∀ x ∈ globT, x.1 < W.heap.size := by
  intro x hx
  have h := hT x hx
  simp only [globT, List.mem_cons, List.not_mem_nil, or_false] at hx
  subst hx
  have := h 0 (by decide)
  unfold World.cell? at this
  split at this
  · rename_i hh; exact (Array.getElem?_eq_some_iff.1 hh).1
  · cases this
end Go.Proofs.YtfdbminedccccaaGreatDoor
