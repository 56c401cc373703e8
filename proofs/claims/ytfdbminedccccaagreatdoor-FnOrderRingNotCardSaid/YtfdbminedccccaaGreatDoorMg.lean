/-
  The reference: who waits. OrderHolds, by the reference. A looser order has fewer that must be ahead; so it holds where a stricter one does. Draws: the reader is opened. Draws: a program, a way and an order. A law: what a stricter order allows a looser one does. The reference: the events of a net in line. The reference: which events must be ahead of which, the first way in which it holds of all who wait; OrderLine. The law's helpers: whether numbers are the same; whether ways are. Draws: a program, a way and an order by which it holds, mostly. Rings of an order, in plain words: each must be ahead of the next; where there is one it does not hold; where nobody waits it holds where there is none. OrderRing, by the program. The reference: the first row of events that goes on from some to the first.
-/
import Derived.Test.YtfdbminedccccaaGreatDoorMf
/-! ## The reference: who waits -/
namespace Go.Proofs.YtfdbminedccccaaGreatDoor
open Go.RowKit
set_option linter.unusedSimpArgs false
set_option linter.unusedVariables false
set_option pp.maxSteps 3000

theorem oouts_fn (p : Prog) (g : Nat) (c2 c3 c4 c5 : V) (hok : progOk p = true) (i : Nat) (hi : i < (events p).length) (h7 : kd (scene p).ds i = 7) :
    Fo Tryz.prog 73 [.int .i64 i] g 6 (ordV p g c2 c3 c4 c5) (.int .i64 (outA p i)) := by
  obtain ⟨hq, h8⟩ := outA_spec hok hi h7
  have hel := events_le hok
  obtain ⟨t, ht⟩ : ∃ t, outA p i = t := ⟨_, rfl⟩
  rw [ht] at hq h8 ⊢
  have hdo := fun a ha => odo_fn p g c2 c3 c4 c5 a ha
  have hown := fun a b ha hb => oown_fn p g c2 c3 c4 c5 a b ha hb
  have hlt := hq.lt
  have htl := hq.tl
  rw [ordV_eq] at hdo hown ⊢
  refine Fc.start (S := []) Tryz.func73 Tryz.ntmps73 Tryz.results73 rfl (by decide) rfl (by kernel_rfl) ?_
  simp (maxSteps := 1000000) (disch := omega) only [push_cast, go_sem, wpS_tt, wpS_tf, wpS_ft, wpS_ff, wpCond_tt, wpCond_ff, simprocAttr]
  refine Sat.loop (σ := Nat) (fun k => upd (upd (upd noT 0 (.ptr 0 [] 0 0 g 6)) 1 (.int .i64 i)) 5 (.int .i64 k)) (fun k => (noM.set 0 (.own 74 (some g) 1 [.agg [.sl (p.map thrV), .sl ((events p).map Evt.V), c2, c3, c4, c5]])))
    (fun k => i < k ∧ k ≤ t) (fun k => t - k) (i + 1) ⟨by omega, by omega⟩ ?_ ?_
  · (refine Less.start ?_; repeat (first | exact LessO.nil | exact LessO.all | refine LessO.skip (by decide) ?_ | refine LessO.upd ?_ ?_ | refine LessO.set ?_ ?_)) <;> (try simp (maxSteps := 1000000) (disch := omega) only [push_cast, go_sem, wpS_tt, wpS_tf, wpS_ft, wpS_ff, wpCond_tt, wpCond_ff, simprocAttr])
  rintro k ⟨hk, hkt⟩ J hJ
  refine Sat.of (S := []) (by kernel_rfl) ?_
  have hkn : k < (events p).length := by omega
  have how : ownB (events p) i k = true := by
    have hs : th (events p) i = th (events p) k := by
      rcases Nat.lt_or_ge k t with h | h
      · exact ((hq.no k hk h).2.2).symm
      · have : k = t := by omega
        subst this; exact hq.same
    simp only [th] at hs
    simp [ownB, hk, hs]
  have hd := hdo k hkn
  rw [Do.V_eq] at hd
  simp (maxSteps := 1000000) (disch := omega) only [push_cast, go_sem, wpS_tt, wpS_tf, wpS_ft, wpS_ff, wpCond_tt, wpCond_ff, simprocAttr, hkn]
  refine callR.look (hown i k hi hkn) rfl rfl rfl ?_
  rw [how]
  simp (maxSteps := 1000000) (disch := omega) only [push_cast, go_sem, wpS_tt, wpS_tf, wpS_ft, wpS_ff, wpCond_tt, wpCond_ff, simprocAttr]
  refine callR.look hd rfl rfl rfl ?_
  rcases Nat.lt_or_ge k t with h | h
  · have h8' : ((dsA p k).k == 8) = false := by
      have := (hq.no k hk h).2.1
      simpa [kd, dsA] using this
    simp (maxSteps := 1000000) (disch := omega) only [push_cast, go_sem, wpS_tt, wpS_tf, wpS_ft, wpS_ff, wpCond_tt, wpCond_ff, simprocAttr, h8']
    refine hJ (k + 1) _ _ ⟨by omega, by omega⟩ (by omega) ?_
    (refine Less.start ?_; repeat (first | exact LessO.nil | exact LessO.all | refine LessO.skip (by decide) ?_ | refine LessO.upd ?_ ?_ | refine LessO.set ?_ ?_)) <;> (try simp (maxSteps := 1000000) (disch := omega) only [push_cast, go_sem, wpS_tt, wpS_tf, wpS_ft, wpS_ff, wpCond_tt, wpCond_ff, simprocAttr])
  · have : k = t := by omega
    subst this
    have h8' : ((dsA p k).k == 8) = true := by simpa [kd, dsA] using h8
    simp (maxSteps := 1000000) (disch := omega) only [push_cast, go_sem, wpS_tt, wpS_tf, wpS_ft, wpS_ff, wpCond_tt, wpCond_ff, simprocAttr, h8']
    refine ⟨_, ?_, rfl⟩
    ((repeat (first | exact Sub.no | refine Sub.set ?_ ?_)) <;> (try simp (disch := omega) only [push_cast, go_sem, wpS_tt, wpS_tf, wpS_ft, wpS_ff, wpCond_tt, wpCond_ff, simprocAttr]))
theorem chIn_pre (ds : List Do) (e : Nat) {j : Nat} (h7 : kd ds j = 7) : ∀ {n : Nat}, j < n → ∃ r, chIn ds e n = chIn ds e j ++ (e, j) :: r
  | 0, h => absurd h (by omega)
  | n + 1, h => by
    rcases Nat.lt_or_ge j n with hj | hj
    · obtain ⟨r, hr⟩ := chIn_pre ds e h7 hj
      exact ⟨r ++ (if kd ds n == 7 then [(e, n)] else []), by rw [chIn, hr]; simp⟩
    · have : j = n := by omega
      subst this
      exact ⟨[], by rw [chIn, h7]; rfl⟩
theorem chRef_pre {p : Prog} {w j : Nat} (h9 : kd (scene p).ds w = 9) (hl : ltA (events p) w = false) (h7 : kd (scene p).ds j = 7) (hj : j < (scene p).ds.length) : ∀ {n : Nat}, w < n → ∃ r, chRef p n = (chRef p w ++ chIn (scene p).ds (w + 1) j) ++ (w + 1, j) :: r
  | 0, h => absurd h (by omega)
  | n + 1, h => by
    rcases Nat.lt_or_ge w n with hw | hw
    · obtain ⟨r, hr⟩ := chRef_pre h9 hl h7 hj hw
      exact ⟨r ++ (if kd (scene p).ds n == 9 && !ltA (events p) n then chIn (scene p).ds (n + 1) (scene p).ds.length else []), by rw [chRef, hr]; simp⟩
    · have : w = n := by omega
      subst this
      obtain ⟨r, hr⟩ := chIn_pre (scene p).ds (w + 1) h7 hj
      exact ⟨r, by rw [chRef, h9, hl]; simp [hr]⟩
theorem chIn_succ (ds : List Do) (e j : Nat) : (chIn ds e (j + 1)).length = (chIn ds e j).length + (if kd ds j == 7 then 1 else 0) := by
  rw [chIn, List.length_append]; split <;> rfl
theorem chRef_succ (p : Prog) (w : Nat) : (chRef p (w + 1)).length = (chRef p w).length + (if kd (scene p).ds w == 9 && !ltA (events p) w then (chIn (scene p).ds (w + 1) (scene p).ds.length).length else 0) := by
  rw [chRef, List.length_append]; split <;> rfl
theorem chRef_le (p : Prog) (hn : (scene p).ds.length ≤ 62) : ∀ k, (chRef p k).length ≤ k * 62
  | 0 => by simp [chRef]
  | k + 1 => by
    have h1 := chRef_le p hn k
    have h2 := chIn_le (scene p).ds (k + 1) (scene p).ds.length
    rw [chRef_succ]
    split <;> omega
theorem owaits_fn (p : Prog) (g : Nat) (c4 c5 : V) (hok : progOk p = true) : ∀ (m frm : Nat) (R : Nat → Nat → Bool), (chRef p (events p).length).length - frm = m → frm ≤ (chRef p (events p).length).length →
    Fo Tryz.prog 38 [netE (netL R (events p).length), .int .i64 frm] g 6 (ordV p g (rdsV p) (wrtV p) c4 c5) (.bool (settleR (events p).length (outA p) ((chRef p (events p).length).drop frm) R).isSome) := by
  have hel := events_le hok
  have hsl : (scene p).ds.length = (events p).length := by simp [scene]
  have hcl := chRef_le p (by omega) (events p).length
  have hdo := fun a ha => odo_fn p g (rdsV p) (wrtV p) c4 c5 a ha
  have hout := fun i hi h7 => oouts_fn p g (rdsV p) (wrtV p) c4 c5 hok i hi h7
  have hpre := @chRef_pre p
  have hoq := fun i hi h7 => (outA_spec hok (i := i) hi h7).1.tl
  have hnx := @wait_next p
  rw [ordV_eq, rdsV_eq, wrtV_eq] at hdo hout
  obtain ⟨n, hnn⟩ : ∃ n, (events p).length = n := ⟨_, rfl⟩
  rw [hnn] at hsl hel hcl hdo hout hoq hnx ⊢
  obtain ⟨CL, hCL⟩ : ∃ l, chRef p n = l := ⟨_, rfl⟩
  rw [hCL] at hcl ⊢
  intro m
  induction m using Nat.strongRecOn with
  | _ m ih =>
  intro frm R hm hfl
  have hho := holds_fn R n (by omega)
  rw [ordV_eq, rdsV_eq, wrtV_eq] at ih ⊢
  rw [netE_eq] at hho
  refine Fc.start (S := []) Tryz.func38 Tryz.ntmps38 Tryz.results38 rfl (by decide) rfl (by kernel_rfl) ?_
  simp (maxSteps := 1000000) (disch := omega) only [push_cast, go_sem, wpS_tt, wpS_tf, wpS_ft, wpS_ff, wpCond_tt, wpCond_ff, simprocAttr, netE_eq]
  refine callR.pure hho rfl rfl ?_
  cases hl : lineE R n with
  | none =>
    simp (maxSteps := 1000000) (disch := omega) only [push_cast, go_sem, wpS_tt, wpS_tf, wpS_ft, wpS_ff, wpCond_tt, wpCond_ff, simprocAttr, Option.isSome_none]
    rw [settle_no hl]
    refine ⟨_, ?_, rfl, rfl⟩
    ((repeat (first | exact Sub.no | refine Sub.set ?_ ?_)) <;> (try simp (disch := omega) only [push_cast, go_sem, wpS_tt, wpS_tf, wpS_ft, wpS_ff, wpCond_tt, wpCond_ff, simprocAttr]))
  | some ls =>
    simp (maxSteps := 1000000) (disch := omega) only [push_cast, go_sem, wpS_tt, wpS_tf, wpS_ft, wpS_ff, wpCond_tt, wpCond_ff, simprocAttr, Option.isSome_some]
    refine Sat.loop (σ := Nat) (fun w => upd (upd (upd (upd (upd noT 0 (.ptr 0 [] 0 0 g 6)) 1 (.eptr [.sl ((netL R n).map boolsV)])) 2 (.int .i64 frm)) 7 (.int .i64 (chRef p w).length)) 8 (.int .i64 w)) (fun w => noM.set 0 (.own 74 (some g) 1 [.agg [.sl (p.map thrV), .sl ((events p).map Evt.V), .sl ((scene p).ds.map fun d => .bool d.reads), .sl ((scene p).ds.map fun d => .bool d.writes), c4, c5]]))
      (fun w => w ≤ n ∧ (chRef p w).length ≤ frm) (fun w => n - w) 0 ⟨by omega, by simp [chRef]⟩ ?_ ?_
    · (refine Less.start ?_; repeat (first | exact LessO.nil | exact LessO.all | refine LessO.skip (by decide) ?_ | refine LessO.upd ?_ ?_ | refine LessO.set ?_ ?_)) <;> (try simp (maxSteps := 1000000) (disch := omega) only [push_cast, go_sem, wpS_tt, wpS_tf, wpS_ft, wpS_ff, wpCond_tt, wpCond_ff, simprocAttr])
      all_goals simp [chRef]
    rintro w ⟨hw, hwf⟩ J hJ
    refine Sat.of (S := []) (by kernel_rfl) ?_
    rcases Nat.lt_or_ge w n with hlt | hge
    · obtain ⟨ew, hew⟩ : ∃ e, (events p)[w]? = some e := ⟨_, List.getElem?_eq_getElem (by omega)⟩
      have hwe : w < (events p).length := by omega
      have hkw : kd (scene p).ds w = (dsA p w).k := rfl
      have hlw : ltA (events p) w = ew.l := by rw [ltA, hew]; rfl
      have hdw := hdo w hlt
      rw [Do.V_eq] at hdw
      simp (maxSteps := 1000000) (disch := omega) only [push_cast, go_sem, wpS_tt, wpS_tf, wpS_ft, wpS_ff, wpCond_tt, wpCond_ff, simprocAttr, hlt, hnn]
      refine callR.look hdw rfl rfl rfl ?_
      cases h9 : ((dsA p w).k == 9)
      · have h9' : ((dsA p w).k != 9) = true := by simp [bne, h9]
        simp (maxSteps := 1000000) (disch := omega) only [push_cast, go_sem, wpS_tt, wpS_tf, wpS_ft, wpS_ff, wpCond_tt, wpCond_ff, simprocAttr, h9']
        have hcs : (chRef p (w + 1)).length = (chRef p w).length := by rw [chRef_succ, hkw, h9]; simp
        refine hJ (w + 1) _ _ ⟨by omega, by omega⟩ (by omega) ?_
        rw [hcs]
        (refine Less.start ?_; repeat (first | exact LessO.nil | exact LessO.all | refine LessO.skip (by decide) ?_ | refine LessO.upd ?_ ?_ | refine LessO.set ?_ ?_)) <;> (try simp (maxSteps := 1000000) (disch := omega) only [push_cast, go_sem, wpS_tt, wpS_tf, wpS_ft, wpS_ff, wpCond_tt, wpCond_ff, simprocAttr])
      have h9' : ((dsA p w).k != 9) = false := by simp [bne, h9]
      cases hll : ew.l
      rotate_left
      · simp (maxSteps := 1000000) (disch := omega) only [push_cast, go_sem, wpS_tt, wpS_tf, wpS_ft, wpS_ff, wpCond_tt, wpCond_ff, simprocAttr, h9', hew, hwe, Evt.V_eq, hll]
        have hcs : (chRef p (w + 1)).length = (chRef p w).length := by rw [chRef_succ, hlw, hll]; simp
        refine hJ (w + 1) _ _ ⟨by omega, by omega⟩ (by omega) ?_
        rw [hcs]
        (refine Less.start ?_; repeat (first | exact LessO.nil | exact LessO.all | refine LessO.skip (by decide) ?_ | refine LessO.upd ?_ ?_ | refine LessO.set ?_ ?_)) <;> (try simp (maxSteps := 1000000) (disch := omega) only [push_cast, go_sem, wpS_tt, wpS_tf, wpS_ft, wpS_ff, wpCond_tt, wpCond_ff, simprocAttr])
      simp (maxSteps := 1000000) (disch := omega) only [push_cast, go_sem, wpS_tt, wpS_tf, wpS_ft, wpS_ff, wpCond_tt, wpCond_ff, simprocAttr, h9', hew, hwe, Evt.V_eq, hll]
      have h9k : kd (scene p).ds w = 9 := by rw [hkw]; simpa using h9
      have hlwf : ltA (events p) w = false := by rw [hlw, hll]
      have hw1 := (hnx hlt h9k hlwf).1
      refine Sat.loop (σ := Nat) (fun j => upd (upd (upd (upd (upd (upd noT 0 (.ptr 0 [] 0 0 g 6)) 1 (.eptr [.sl ((netL R n).map boolsV)])) 2 (.int .i64 frm)) 7 (.int .i64 ((chRef p w).length + (chIn (scene p).ds (w + 1) j).length : Nat))) 8 (.int .i64 w)) 9 (.int .i64 j)) (fun _ => noM.set 0 (.own 74 (some g) 1 [.agg [.sl (p.map thrV), .sl ((events p).map Evt.V), .sl ((scene p).ds.map fun d => .bool d.reads), .sl ((scene p).ds.map fun d => .bool d.writes), c4, c5]]))
        (fun j => j ≤ n ∧ (chRef p w).length + (chIn (scene p).ds (w + 1) j).length ≤ frm) (fun j => n - j) 0 ⟨by omega, by simpa [chIn] using hwf⟩ ?_ ?_
      · (refine Less.start ?_; repeat (first | exact LessO.nil | exact LessO.all | refine LessO.skip (by decide) ?_ | refine LessO.upd ?_ ?_ | refine LessO.set ?_ ?_)) <;> (try simp (maxSteps := 1000000) (disch := omega) only [push_cast, go_sem, wpS_tt, wpS_tf, wpS_ft, wpS_ff, wpCond_tt, wpCond_ff, simprocAttr])
        all_goals simp [chIn]
      rintro j ⟨hj, hjf⟩ J2 hJ2
      refine Sat.of (S := []) (by kernel_rfl) ?_
      have hcw := chRef_le p (by omega) w
      have hci := chIn_le (scene p).ds (w + 1) j
      rcases Nat.lt_or_ge j n with hlt2 | hge2
      · have hkj : kd (scene p).ds j = (dsA p j).k := rfl
        have hdj := hdo j hlt2
        rw [Do.V_eq] at hdj
        simp (maxSteps := 1000000) (disch := omega) only [push_cast, go_sem, wpS_tt, wpS_tf, wpS_ft, wpS_ff, wpCond_tt, wpCond_ff, simprocAttr, hlt2, hnn]
        refine callR.look hdj rfl rfl rfl ?_
        cases h7 : ((dsA p j).k == 7)
        · have h7' : ((dsA p j).k != 7) = true := by simp [bne, h7]
          simp (maxSteps := 1000000) (disch := omega) only [push_cast, go_sem, wpS_tt, wpS_tf, wpS_ft, wpS_ff, wpCond_tt, wpCond_ff, simprocAttr, h7']
          have hcs : (chIn (scene p).ds (w + 1) (j + 1)).length = (chIn (scene p).ds (w + 1) j).length := by rw [chIn_succ, hkj, h7]; simp
          refine hJ2 (j + 1) _ _ ⟨by omega, by omega⟩ (by omega) ?_
          rw [hcs]
          (refine Less.start ?_; repeat (first | exact LessO.nil | exact LessO.all | refine LessO.skip (by decide) ?_ | refine LessO.upd ?_ ?_ | refine LessO.set ?_ ?_)) <;> (try simp (maxSteps := 1000000) (disch := omega) only [push_cast, go_sem, wpS_tt, wpS_tf, wpS_ft, wpS_ff, wpCond_tt, wpCond_ff, simprocAttr])
        have h7' : ((dsA p j).k != 7) = false := by simp [bne, h7]
        have h7k : kd (scene p).ds j = 7 := by rw [hkj]; simpa using h7
        rcases Nat.lt_or_ge ((chRef p w).length + (chIn (scene p).ds (w + 1) j).length) frm with hcf | hcf
        · have hng : ¬ ((frm : Int) < ((chRef p w).length : Int) + ((chIn (scene p).ds (w + 1) j).length : Int) + 1) := by omega
          simp (maxSteps := 1000000) (disch := omega) only [push_cast, go_sem, wpS_tt, wpS_tf, wpS_ft, wpS_ff, wpCond_tt, wpCond_ff, simprocAttr, h7', hng]
          have hcs : (chIn (scene p).ds (w + 1) (j + 1)).length = (chIn (scene p).ds (w + 1) j).length + 1 := by rw [chIn_succ, hkj, h7]; simp
          refine hJ2 (j + 1) _ _ ⟨by omega, by omega⟩ (by omega) ?_
          rw [hcs]
          (refine Less.start ?_; repeat (first | exact LessO.nil | exact LessO.all | refine LessO.skip (by decide) ?_ | refine LessO.upd ?_ ?_ | refine LessO.set ?_ ?_)) <;> (try simp (maxSteps := 1000000) (disch := omega) only [push_cast, go_sem, wpS_tt, wpS_tf, wpS_ft, wpS_ff, wpCond_tt, wpCond_ff, simprocAttr])
          all_goals omega
        · have hg : ((frm : Int) < ((chRef p w).length : Int) + ((chIn (scene p).ds (w + 1) j).length : Int) + 1) := by omega
          obtain ⟨r, hr⟩ := hpre h9k hlwf h7k (by omega) hlt
          rw [hCL] at hr
          have hfe : frm = (chRef p w ++ chIn (scene p).ds (w + 1) j).length := by rw [List.length_append]; omega
          have hd0 : CL.drop frm = (w + 1, j) :: r := by rw [hr, hfe]; exact List.drop_left
          have hd1 : CL.drop (frm + 1) = r := by rw [← List.drop_drop, hd0]; rfl
          have hfl1 : frm + 1 ≤ CL.length := by rw [hr, List.length_append, ← hfe]; simp
          have ho := hout j hlt2 h7k
          have hoj := hoq j hlt2 h7k
          have hw2 := nwith_fn R n (outA p j) (w + 1) (by omega) hoj hw1
          have hw3 := nwith_fn R n w j (by omega) hlt hlt2
          have ih1 := ih (m - 1) (by omega) (frm + 1) (wiR R (outA p j) (w + 1)) (by omega) hfl1
          have ih2 := ih (m - 1) (by omega) (frm + 1) (wiR R w j) (by omega) hfl1
          rw [hd1, netE_eq] at ih1 ih2
          rw [show ((frm + 1 : Nat) : Int) = (frm : Int) + 1 by omega] at ih1 ih2
          rw [show ((w + 1 : Nat) : Int) = (w : Int) + 1 by omega] at hw2
          rw [netE_eq, netE_eq] at hw2 hw3
          have hset : settleR n (outA p) (CL.drop frm) R = (settleR n (outA p) r (wiR R (outA p j) (w + 1))).or (settleR n (outA p) r (wiR R w j)) := by rw [hd0, settleR, hl]; rfl
          rw [hset]
          simp (maxSteps := 1000000) (disch := omega) only [push_cast, go_sem, wpS_tt, wpS_tf, wpS_ft, wpS_ff, wpCond_tt, wpCond_ff, simprocAttr, h7', hg]
          refine callR.look ho rfl rfl rfl ?_
          simp (maxSteps := 1000000) (disch := omega) only [push_cast, go_sem, wpS_tt, wpS_tf, wpS_ft, wpS_ff, wpCond_tt, wpCond_ff, simprocAttr]
          refine callR.pure hw2 rfl rfl ?_
          simp (maxSteps := 1000000) (disch := omega) only [push_cast, go_sem, wpS_tt, wpS_tf, wpS_ft, wpS_ff, wpCond_tt, wpCond_ff, simprocAttr]
          refine callR.look ih1 rfl rfl rfl ?_
          cases hs1 : settleR n (outA p) r (wiR R (outA p j) (w + 1)) with
          | some r1 =>
            simp (maxSteps := 1000000) (disch := omega) only [push_cast, go_sem, wpS_tt, wpS_tf, wpS_ft, wpS_ff, wpCond_tt, wpCond_ff, simprocAttr, Option.isSome_some]
            refine ⟨_, ?_, rfl, rfl⟩
            ((repeat (first | exact Sub.no | refine Sub.set ?_ ?_)) <;> (try simp (disch := omega) only [push_cast, go_sem, wpS_tt, wpS_tf, wpS_ft, wpS_ff, wpCond_tt, wpCond_ff, simprocAttr]))
          | none =>
            simp (maxSteps := 1000000) (disch := omega) only [push_cast, go_sem, wpS_tt, wpS_tf, wpS_ft, wpS_ff, wpCond_tt, wpCond_ff, simprocAttr, Option.isSome_none]
            refine callR.pure hw3 rfl rfl ?_
            simp (maxSteps := 1000000) (disch := omega) only [push_cast, go_sem, wpS_tt, wpS_tf, wpS_ft, wpS_ff, wpCond_tt, wpCond_ff, simprocAttr]
            refine callR.look ih2 rfl rfl rfl ?_
            simp (maxSteps := 1000000) (disch := omega) only [push_cast, go_sem, wpS_tt, wpS_tf, wpS_ft, wpS_ff, wpCond_tt, wpCond_ff, simprocAttr]
            refine ⟨_, ?_, rfl, rfl⟩
            ((repeat (first | exact Sub.no | refine Sub.set ?_ ?_)) <;> (try simp (disch := omega) only [push_cast, go_sem, wpS_tt, wpS_tf, wpS_ft, wpS_ff, wpCond_tt, wpCond_ff, simprocAttr]))
      · have : j = n := by omega
        subst this
        simp (maxSteps := 1000000) (disch := omega) only [push_cast, go_sem, wpS_tt, wpS_tf, wpS_ft, wpS_ff, wpCond_tt, wpCond_ff, simprocAttr, hnn]
        have hcs : (chRef p (w + 1)).length = (chRef p w).length + (chIn (scene p).ds (w + 1) j).length := by rw [chRef_succ, hkw, h9, hlwf, hsl]; simp
        refine hJ (w + 1) _ _ ⟨by omega, by omega⟩ (by omega) ?_
        rw [hcs]
        (refine Less.start ?_; repeat (first | exact LessO.nil | exact LessO.all | refine LessO.skip (by decide) ?_ | refine LessO.upd ?_ ?_ | refine LessO.set ?_ ?_)) <;> (try simp (maxSteps := 1000000) (disch := omega) only [push_cast, go_sem, wpS_tt, wpS_tf, wpS_ft, wpS_ff, wpCond_tt, wpCond_ff, simprocAttr])
    · have : w = n := by omega
      subst this
      simp (maxSteps := 1000000) (disch := omega) only [push_cast, go_sem, wpS_tt, wpS_tf, wpS_ft, wpS_ff, wpCond_tt, wpCond_ff, simprocAttr, hnn]
      have : frm = CL.length := by rw [hCL] at hwf; omega
      rw [this, List.drop_length, settleR, hl]
      refine ⟨_, ?_, rfl, rfl⟩
      ((repeat (first | exact Sub.no | refine Sub.set ?_ ?_)) <;> (try simp (disch := omega) only [push_cast, go_sem, wpS_tt, wpS_tf, wpS_ft, wpS_ff, wpCond_tt, wpCond_ff, simprocAttr]))
end Go.Proofs.YtfdbminedccccaaGreatDoor
/-! ## OrderHolds, by the reference -/
namespace Go.Proofs.YtfdbminedccccaaGreatDoor
open Go.RowKit
set_option linter.unusedSimpArgs false
set_option linter.unusedVariables false
set_option pp.maxSteps 3000

theorem ds_place {p : Prog} (hpk : progOk p = true) : ∀ (i : Nat), i < (events p).length → 0 ≤ (dsA p i).p := fun i hi => by
  obtain ⟨e, he⟩ : ∃ e, (events p)[i]? = some e := ⟨_, List.getElem?_eq_getElem hi⟩
  have hd : (scene p).ds[i]? = some (dsA p i) := by rw [dsA, scene_get he]; rfl
  have := scene_formed hpk _ (List.mem_of_getElem? hd)
  cases hu : (dsA p i).uses
  · simp only [Do.formed, hu, Bool.false_eq_true, if_false, Bool.and_eq_true, beq_iff_eq] at this
    omega
  · exact (formed_place this hu).1
theorem specOrderHolds_fn (p : Prog) (x : Exe) (kind : Int) (hp : p.length < 2 ^ 40) (hx : x.small) : Fp Tryz.prog 11 [progV p, x.V, .int .i64 kind] (.bool (holdsS p x kind)) := by
  have h1 := specExecOk_fn p x hp hx
  unfold holdsS
  refine Fc.start (S := [5]) Tryz.func11 Tryz.ntmps11 Tryz.results11 rfl (by decide) rfl (by kernel_rfl) ?_
  simp (maxSteps := 1000000) (disch := omega) only [push_cast, go_sem, wpS_tt, wpS_tf, wpS_ft, wpS_ff, wpCond_tt, wpCond_ff, simprocAttr, progV_eq, Exe.V_eq]
  intro g3 g4
  refine callR.pure h1 rfl rfl ?_
  cases hok : specOk p x
  · simp (maxSteps := 1000000) (disch := omega) only [push_cast, go_sem, wpS_tt, wpS_tf, wpS_ft, wpS_ff, wpCond_tt, wpCond_ff, simprocAttr]
  have hw : Way p x := Way.of (by rw [ok_eq]; exact hok)
  have hpk := hw.ok
  have hel := events_le hpk
  have hsl : (scene p).ds.length = (events p).length := by simp [scene]
  have hfr : x.fr.length = (events p).length := by rw [hw.fr, hsl]
  simp (maxSteps := 1000000) (disch := omega) only [push_cast, go_sem, wpS_tt, wpS_tf, wpS_ft, wpS_ff, wpCond_tt, wpCond_ff, simprocAttr]
  refine callR.pure (l6In_fn kind 1 3) rfl rfl ?_
  cases hk : inB kind 1 3
  · simp (maxSteps := 1000000) (disch := omega) only [push_cast, go_sem, wpS_tt, wpS_tf, wpS_ft, wpS_ff, wpCond_tt, wpCond_ff, simprocAttr]
  simp (maxSteps := 1000000) (disch := omega) only [push_cast, go_sem, wpS_tt, wpS_tf, wpS_ft, wpS_ff, wpCond_tt, wpCond_ff, simprocAttr]
  refine callR.new (olook_fn p hp hpk) rfl rfl ?_
  rintro r ob ⟨g, rfl, rfl⟩
  simp (maxSteps := 1000000) (disch := omega) only [push_cast, go_sem, wpS_tt, wpS_tf, wpS_ft, wpS_ff, wpCond_tt, wpCond_ff, simprocAttr, ordV_eq]
  have hway := oway_fn p x g hpk hfr hw.od hx.row
  rw [ordV_eq, rdsV_eq, wrtV_eq, Exe.V_eq] at hway
  rw [rdsV_eq, wrtV_eq]
  refine callR.mod hway rfl rfl rfl ?_
  rintro r ob ⟨gr, rfl, rfl⟩
  simp (maxSteps := 1000000) (disch := omega) only [push_cast, go_sem, wpS_tt, wpS_tf, wpS_ft, wpS_ff, wpCond_tt, wpCond_ff, simprocAttr, ordV_eq]
  have hnet := fun kind => onet_fn p g (.sl (x.fr.map (V.int .i64))) (.sl (((List.range (events p).length).map (rankS p x)).map (V.int .i64))) hel kind
  have hwh := fun R kind => owhole_fn p x g R hel hfr (ds_place hpk) kind
  have hwt := owaits_fn p g (.sl (x.fr.map (V.int .i64))) (.sl (((List.range (events p).length).map (rankS p x)).map (V.int .i64))) hpk _ 0 (netR p x kind) rfl (by omega)
  have hho := holds_fn (netR p x 0) (events p).length (by omega)
  rw [List.drop_zero, ordV_eq, rdsV_eq, wrtV_eq, netE_eq] at hwt
  have hn0 := hnet 0
  have hnk := hnet kind
  have hw0 := hwh (staysS p 0) 0
  have hwk := hwh (staysS p kind) kind
  rw [ordV_eq, rdsV_eq, wrtV_eq, netE_eq] at hn0 hnk
  rw [ordV_eq, rdsV_eq, wrtV_eq, netE_eq, netE_eq] at hw0 hwk
  rw [show bothR (staysS p 0) (toldS p x 0) = netR p x 0 from rfl] at hw0
  rw [show bothR (staysS p kind) (toldS p x kind) = netR p x kind from rfl] at hwk
  rw [netE_eq] at hho
  refine Sat.freezeC 7 [] 0 5 (n0 := .own 74 (some g) 1 [.agg [.sl (p.map thrV), .sl ((events p).map Evt.V), .sl ((scene p).ds.map fun d => .bool d.reads), .sl ((scene p).ds.map fun d => .bool d.writes), .sl (x.fr.map (V.int .i64)), .own 3 (some gr) (events p).length (((List.range (events p).length).map (rankS p x)).map (V.int .i64))]])
    (d := .own 3 (some gr) (events p).length (((List.range (events p).length).map (rankS p x)).map (V.int .i64))) ?_ rfl rfl ?_
  · rfl
  have e1 : (V.own 3 (some gr) (events p).length (((List.range (events p).length).map (rankS p x)).map (V.int .i64))).fz = .sl (((List.range (events p).length).map (rankS p x)).map (V.int .i64)) := by simp only [V.fz, fzs_map, fzs_int]
  rw [e1]
  generalize ((List.range (events p).length).map (rankS p x)).map (V.int .i64) = rk at hwt hn0 hnk hw0 hwk ⊢
  refine Sat.of (S := []) (by kernel_rfl) ?_
  simp (maxSteps := 1000000) (disch := omega) only [push_cast, go_sem, wpS_tt, wpS_tf, wpS_ft, wpS_ff, wpCond_tt, wpCond_ff, simprocAttr]
  refine callR.look hn0 rfl rfl rfl ?_
  simp (maxSteps := 1000000) (disch := omega) only [push_cast, go_sem, wpS_tt, wpS_tf, wpS_ft, wpS_ff, wpCond_tt, wpCond_ff, simprocAttr]
  refine callR.look hw0 rfl rfl rfl ?_
  simp (maxSteps := 1000000) (disch := omega) only [push_cast, go_sem, wpS_tt, wpS_tf, wpS_ft, wpS_ff, wpCond_tt, wpCond_ff, simprocAttr]
  refine callR.pure hho rfl rfl ?_
  rw [settledS]
  cases hl : lineE (netR p x 0) (events p).length with
  | none =>
    simp (maxSteps := 1000000) (disch := omega) only [push_cast, go_sem, wpS_tt, wpS_tf, wpS_ft, wpS_ff, wpCond_tt, wpCond_ff, simprocAttr, Option.isSome_none]
  | some ls =>
    simp (maxSteps := 1000000) (disch := omega) only [push_cast, go_sem, wpS_tt, wpS_tf, wpS_ft, wpS_ff, wpCond_tt, wpCond_ff, simprocAttr, Option.isSome_some]
    refine callR.look hnk rfl rfl rfl ?_
    simp (maxSteps := 1000000) (disch := omega) only [push_cast, go_sem, wpS_tt, wpS_tf, wpS_ft, wpS_ff, wpCond_tt, wpCond_ff, simprocAttr]
    refine callR.look hwk rfl rfl rfl ?_
    simp (maxSteps := 1000000) (disch := omega) only [push_cast, go_sem, wpS_tt, wpS_tf, wpS_ft, wpS_ff, wpCond_tt, wpCond_ff, simprocAttr]
    refine callR.look hwt rfl rfl rfl ?_
    simp (maxSteps := 1000000) (disch := omega) only [push_cast, go_sem, wpS_tt, wpS_tf, wpS_ft, wpS_ff, wpCond_tt, wpCond_ff, simprocAttr]
end Go.Proofs.YtfdbminedccccaaGreatDoor
/-! ## A looser order has fewer that must be ahead; so it holds where a stricter one does -/
namespace Go.Proofs.YtfdbminedccccaaGreatDoor
open Go.RowKit
set_option linter.unusedSimpArgs false
set_option linter.unusedVariables false
set_option pp.maxSteps 3000

theorem netR_late {p : Prog} {x : Exe} {a b : Nat} (h3 : netR p x 2 a b = true) : netR p x 1 a b = true := by
  have e1 : staysS p 2 a b = (ownB (events p) a b && !((dsA p a).writes && (dsA p b).reads)) := rfl
  have e2 : staysS p 1 a b = ownB (events p) a b := rfl
  have e3 : toldS p x 2 a b = ((apartS p a b && readS p x a b) || overS p x a b) := rfl
  have e4 : toldS p x 1 a b = (readS p x a b || overS p x a b) := rfl
  rw [netR, e1, e3] at h3
  rw [netR, e2, e4]
  simp only [Bool.and_eq_true, Bool.or_eq_true] at h3 ⊢
  rcases h3 with h3 | h3 | h3
  · exact .inl h3.1
  · exact .inr (.inl h3.2)
  · exact .inr (.inr h3)
theorem looseS_late {p : Prog} {a b : Nat} (h : looseS p a b = true) : ((dsA p a).writes && (dsA p b).reads) = false := by
  have hw : (dsA p a).writes = true → (dsA p a).k = 1 ∨ (dsA p a).k = 3 ∨ (dsA p a).k = 6 := fun h => by simpa [Do.writes, or_assoc] using h
  have hr : (dsA p b).reads = true → (dsA p b).k = 2 ∨ (dsA p b).k = 5 := fun h => by simpa [Do.reads] using h
  rw [Bool.eq_false_iff]
  intro hh
  rw [Bool.and_eq_true] at hh
  have k1 := hw hh.1
  have k2 := hr hh.2
  have e1 : kd (scene p).ds a = (dsA p a).k := rfl
  have e2 : kd (scene p).ds b = (dsA p b).k := rfl
  simp only [looseS, wallB, insS, Bool.and_eq_true, Bool.or_eq_true, beq_iff_eq, e1, e2] at h
  omega
theorem netR_loose {p : Prog} {x : Exe} {a b : Nat} (h3 : netR p x 3 a b = true) : netR p x 2 a b = true := by
  have e1 : staysS p 2 a b = (ownB (events p) a b && !((dsA p a).writes && (dsA p b).reads)) := rfl
  have e2 : staysS p 3 a b = looseS p a b := rfl
  have e3 : toldS p x 2 a b = ((apartS p a b && readS p x a b) || overS p x a b) := rfl
  have e4 : toldS p x 3 a b = (apartS p a b && (readS p x a b || overS p x a b)) := rfl
  rw [netR, e2, e4, Bool.or_eq_true] at h3
  rw [netR, e1, e3, Bool.or_eq_true]
  rcases h3 with h3 | h3
  · left
    rw [looseS_late h3]
    simp only [looseS, Bool.and_eq_true] at h3
    simp [h3.1]
  · right
    simp only [Bool.and_eq_true, Bool.or_eq_true] at h3 ⊢
    rcases h3 with ⟨h3, h4 | h4⟩
    · exact .inl ⟨h3, h4⟩
    · exact .inr h4
theorem settle_less {n : Nat} {out : Nat → Nat} : ∀ {l : List (Nat × Nat)} {R R' : Nat → Nat → Bool}, (∀ a b, a < n → b < n → R' a b = true → R a b = true) → (settleR n out l R).isSome = true → (settleR n out l R').isSome = true
  | [], R, R', hs, h => by
    rw [settleR] at h ⊢
    cases hl : (lineE R n).isSome
    · rw [hl] at h; cases h
    · rw [line_less hs hl]; rfl
  | (e, i) :: l, R, R', hs, h => by
    rw [settleR] at h ⊢
    have wi : ∀ {x y : Nat}, ∀ a b, a < n → b < n → wiR R' x y a b = true → wiR R x y a b = true := by
      intro x y a b ha hb hh
      simp only [wiR, Bool.or_eq_true] at hh ⊢
      exact hh.imp (hs a b ha hb) id
    cases hl : (lineE R n).isSome
    · rw [hl] at h; cases h
    · rw [line_less hs hl]
      rw [hl] at h
      simp only [if_true, Option.isSome_or, Bool.or_eq_true] at h ⊢
      exact h.imp (settle_less wi) (settle_less wi)
theorem settled_less {p : Prog} {x : Exe} {k k' : Int} (hs : ∀ a b, netR p x k' a b = true → netR p x k a b = true) (h : (settledS p x k).isSome = true) : (settledS p x k').isSome = true := by
  rw [settledS] at h ⊢
  cases hl : (lineE (netR p x 0) (events p).length).isSome
  · rw [hl] at h; cases h
  · rw [hl] at h
    exact settle_less (fun a b _ _ => hs a b) h
theorem holdsS_late {p : Prog} {x : Exe} (h : holdsS p x 1 = true) : holdsS p x 2 = true := by
  simp only [holdsS, Bool.and_eq_true] at h ⊢
  exact ⟨⟨h.1.1, rfl⟩, settled_less (fun a b => netR_late) h.2⟩
theorem holdsS_loose {p : Prog} {x : Exe} (h : holdsS p x 2 = true) : holdsS p x 3 = true := by
  simp only [holdsS, Bool.and_eq_true] at h ⊢
  exact ⟨⟨h.1.1, rfl⟩, settled_less (fun a b => netR_loose) h.2⟩
end Go.Proofs.YtfdbminedccccaaGreatDoor
/-! ## Draws: the reader is opened -/
namespace Go.Proofs.YtfdbminedccccaaGreatDoor
open Go.RowKit
set_option linter.unusedSimpArgs false
set_option linter.unusedVariables false
set_option pp.maxSteps 3000

/-- Bytes of an argument. -/
def Code8 (bs : List Int) : Prop := ∀ b ∈ bs, 0 ≤ b ∧ b < 256
def codeV (bs : List Int) : V := .sl (bs.map (V.int .u8))
theorem codeV_eq (bs : List Int) : codeV bs = .sl (bs.map (V.int .u8)) := rfl
theorem Code8.take {bs : List Int} (h : Code8 bs) : Bytes (bs.take 2000) := ⟨by simp; omega, fun b hb => h b (List.mem_of_mem_take hb)⟩
theorem cells_code (bs : List Int) {s : Nat} (hs : s = 1) : (∀ x ∈ bs.map (V.int .u8), x.cells.length = s) = True := by
  simp only [List.mem_map, eq_iff_iff, iff_true]
  rintro x ⟨b, _, rfl⟩
  rw [hs]; rfl
theorem l6Open_fn (bs : List Int) (hl : bs.length < 2 ^ 40) : Fc Tryz.prog 25 [codeV bs] noM (fun r m => ∃ ob, (∃ g, r = .ptr 100 [] 0 0 g 2 ∧ ob = rdO (bs.take 2000) g 0) ∧ m = noM.set 100 ob) := by
  refine Fc.rekeyP (R' := fun r m => ∃ g, r = .ptr 2 [] 0 0 g 2 ∧ m = noM.set 2 (rdO (bs.take 2000) g 0)) ?_ ?_
  · refine Fc.start (S := []) Tryz.func25 Tryz.ntmps25 Tryz.results25 rfl (by decide) rfl (by kernel_rfl) ?_
    by_cases h : (2000 : Int) < bs.length
    · simp (maxSteps := 1000000) (disch := omega) only [push_cast, go_sem, wpS_tt, wpS_tf, wpS_ft, wpS_ff, wpCond_tt, wpCond_ff, simprocAttr, codeV_eq, h, cells_code bs rfl]
      refine ⟨by omega, fun g => ⟨_, ?_, g, rfl, rfl⟩⟩
      ((repeat (first | exact Sub.no | refine Sub.set ?_ ?_)) <;> (try simp (disch := omega) only [push_cast, go_sem, wpS_tt, wpS_tf, wpS_ft, wpS_ff, wpCond_tt, wpCond_ff, simprocAttr]))
      simp [rdO, List.map_take]
    · simp (maxSteps := 1000000) (disch := omega) only [push_cast, go_sem, wpS_tt, wpS_tf, wpS_ft, wpS_ff, wpCond_tt, wpCond_ff, simprocAttr, codeV_eq, h]
      refine fun g => ⟨_, ?_, g, rfl, rfl⟩
      ((repeat (first | exact Sub.no | refine Sub.set ?_ ?_)) <;> (try simp (disch := omega) only [push_cast, go_sem, wpS_tt, wpS_tf, wpS_ft, wpS_ff, wpCond_tt, wpCond_ff, simprocAttr]))
      rw [List.take_of_length_le (by omega)]; rfl
  · rintro r m ⟨g, rfl, rfl⟩
    refine ⟨2, g, 2, _, rfl, rfl, _, ⟨g, rfl, rfl⟩, era_set rfl⟩
end Go.Proofs.YtfdbminedccccaaGreatDoor
/-! ## Draws: a program, a way and an order. A law: what a stricter order allows a looser one does -/
namespace Go.Proofs.YtfdbminedccccaaGreatDoor
open Go.RowKit
set_option linter.unusedSimpArgs false
set_option linter.unusedVariables false
set_option pp.maxSteps 3000

theorem l71Kind_pl (bs : List Int) (hb : Bytes bs) (g p : Nat) (hp : p < 2 ^ 29) : Fr Tryz.prog 27 [] g (rdO bs g p)
    (fun r o' => (∃ v : Int, r = .int .i64 v) ∧ ∃ q, p ≤ q ∧ q ≤ p + 2 ∧ o' = rdO bs g q) := by
  refine Fc.start (S := []) Tryz.func27 Tryz.ntmps27 Tryz.results27 rfl (by decide) rfl (by kernel_rfl) ?_
  simp (maxSteps := 1000000) (disch := omega) only [push_cast, go_sem, wpS_tt, wpS_tf, wpS_ft, wpS_ff, wpCond_tt, wpCond_ff, simprocAttr]
  refine callR.rd (pick_rd bs hb g p (by omega) 24 (by omega)) rfl rfl rfl ?_
  rintro r o' ⟨v, rfl, hv0, hv1, _, rfl⟩
  simp (maxSteps := 1000000) (disch := omega) only [push_cast, go_sem, wpS_tt, wpS_tf, wpS_ft, wpS_ff, wpCond_tt, wpCond_ff, simprocAttr]
  refine ⟨fun hv g1 => ?_, fun hv => ?_⟩
  · refine callR.rd (pick_rd bs hb g (p + 1) (by omega) 3 (by omega)) rfl rfl rfl ?_
    rintro r o' ⟨u, rfl, hu0, hu1, _, rfl⟩
    have hu : u < 3 := hu1 (by omega)
    obtain ⟨n, rfl⟩ := Int.eq_ofNat_of_zero_le hu0
    obtain ⟨z, hz⟩ := ints_get (l := [.int .i64 0, .int .i64 4, .int .i64 (-1)]) (n := n) rfl (by simp; omega)
    simp (maxSteps := 1000000) (disch := omega) only [push_cast, go_sem, wpS_tt, wpS_tf, wpS_ft, wpS_ff, wpCond_tt, wpCond_ff, simprocAttr, hz]
    refine ⟨by omega, _, Sub.set Sub.no rfl, _, ⟨⟨_, rfl⟩, p + 1 + 1, by omega, by omega, rfl⟩, rfl⟩
  · refine callR.rd (pick_rd bs hb g (p + 1) (by omega) 3 (by omega)) rfl rfl rfl ?_
    rintro r o' ⟨u, rfl, hu0, hu1, _, rfl⟩
    simp (maxSteps := 1000000) (disch := omega) only [push_cast, go_sem, wpS_tt, wpS_tf, wpS_ft, wpS_ff, wpCond_tt, wpCond_ff, simprocAttr]
    exact ⟨_, Sub.rfl, _, ⟨⟨_, rfl⟩, p + 1 + 1, by omega, by omega, rfl⟩, rfl⟩
/-- What is drawn. -/
def DrawnH (r : V) : Prop := ∃ (p : Prog) (x : Exe) (kind : Int), r = .tuple [progV p, x.V, .int .i64 kind] ∧ p.length ≤ 3 ∧ (∀ l ∈ p, l.length < 2 ^ 11) ∧ x.small
theorem DrawOrderHolds_fn (bs : List Int) (hb : Code8 bs) (hl : bs.length < 2 ^ 40) : Fc Tryz.prog 9 [codeV bs] noM (fun r m => DrawnH r ∧ m = noM) := by
  refine Fc.start (S := []) Tryz.func9 Tryz.ntmps9 Tryz.results9 rfl (by decide) rfl (by kernel_rfl) ?_
  simp (maxSteps := 1000000) (disch := omega) only [push_cast, go_sem, wpS_tt, wpS_tf, wpS_ft, wpS_ff, wpCond_tt, wpCond_ff, simprocAttr, codeV_eq]
  intro g2 g3
  refine callR.new (l6Open_fn bs hl) rfl rfl ?_
  rintro r ob ⟨g, rfl, rfl⟩
  simp (maxSteps := 1000000) (disch := omega) only [push_cast, go_sem, wpS_tt, wpS_tf, wpS_ft, wpS_ff, wpCond_tt, wpCond_ff, simprocAttr]
  refine callR.rd (l71Exec_rd (bs.take 2000) hb.take g 0 (by omega)) rfl rfl rfl ?_
  rintro r o' ⟨x, y, rfl, hx1, hx2, hy, q, hq1, hq2, rfl⟩
  have hyf := hy.fr
  have hys : y.small := ⟨by have := hy.fr; omega, by have := hy.od; omega, fun r hr => by have := hy.row r hr; omega⟩
  simp (maxSteps := 1000000) (disch := omega) only [push_cast, go_sem, wpS_tt, wpS_tf, wpS_ft, wpS_ff, wpCond_tt, wpCond_ff, simprocAttr, progV_eq, Exe.V_eq]
  intro g8 g9
  refine Sat.drawnE [(0, 3), (1, 3), (1, 4)] [] [0, 1] (rdTab (bs.take 2000) g [(27, 2, fun _ r => ∃ v : Int, r = .int .i64 v)] []) (by kernel_rfl) (by kernel_rfl) ?_
  simp (maxSteps := 1000000) (disch := omega) only [push_cast, go_sem, wpS_tt, wpS_tf, wpS_ft, wpS_ff, wpCond_tt, wpCond_ff, simprocAttr]
  refine runD_pl (l71Kind_pl (bs.take 2000) hb.take g q (by omega)) rfl rfl rfl rfl ⟨.int .i64 0, 0, rfl⟩ ?_ ?_
  · rfl
  rintro r q2 hq3 hq4 ⟨kind, rfl⟩
  simp (maxSteps := 1000000) (disch := omega) only [push_cast, go_sem, wpS_tt, wpS_tf, wpS_ft, wpS_ff, wpCond_tt, wpCond_ff, simprocAttr]
  exact ⟨x, y, kind, rfl, hx1, hx2, hys⟩
theorem lawOrderHolds_fn (bs : List Int) (hb : Code8 bs) : Fp Tryz.prog 3 [codeV bs] (.bool true) := by
  refine Fc.start (S := []) Tryz.func3 Tryz.ntmps3 Tryz.results3 rfl (by decide) rfl (by kernel_rfl) ?_
  by_cases h : (1048576 : Int) < bs.length
  · simp (maxSteps := 1000000) (disch := omega) only [push_cast, go_sem, wpS_tt, wpS_tf, wpS_ft, wpS_ff, wpCond_tt, wpCond_ff, simprocAttr, codeV_eq, h]
  simp (maxSteps := 1000000) (disch := omega) only [push_cast, go_sem, wpS_tt, wpS_tf, wpS_ft, wpS_ff, wpCond_tt, wpCond_ff, simprocAttr, codeV_eq, h]
  refine callR.ex (DrawOrderHolds_fn bs hb (by omega)) rfl rfl ?_
  rintro r ⟨p, x, kind, rfl, hp, hl, hx⟩
  have hl' : ∀ l ∈ p, l.length < 2 ^ 40 := fun l h => by have := hl l h; omega
  have h1 := implOrderHolds_fn p x kind (by omega) hl' hx
  have h2 := specOrderHolds_fn p x kind (by omega) hx
  have h3 := implOrderHolds_fn p x 1 (by omega) hl' hx
  have h4 := implOrderHolds_fn p x 2 (by omega) hl' hx
  have h5 := implOrderHolds_fn p x 3 (by omega) hl' hx
  have i1 := holdsS_late (p := p) (x := x)
  have i2 := holdsS_loose (p := p) (x := x)
  obtain ⟨v, hv⟩ : ∃ v, holdsS p x kind = v := ⟨_, rfl⟩
  obtain ⟨v1, hv1⟩ : ∃ v, holdsS p x 1 = v := ⟨_, rfl⟩
  obtain ⟨v2, hv2⟩ : ∃ v, holdsS p x 2 = v := ⟨_, rfl⟩
  obtain ⟨v3, hv3⟩ : ∃ v, holdsS p x 3 = v := ⟨_, rfl⟩
  rw [hv] at h1 h2
  rw [hv1] at h3 i1
  rw [hv2] at h4 i1 i2
  rw [hv3] at h5 i2
  have hvv : (v != v) = false := by simp
  simp (maxSteps := 1000000) (disch := omega) only [push_cast, go_sem, wpS_tt, wpS_tf, wpS_ft, wpS_ff, wpCond_tt, wpCond_ff, simprocAttr, progV_eq, Exe.V_eq]
  intro g3 g4
  refine callR.pure h1 rfl rfl ?_
  simp (maxSteps := 1000000) (disch := omega) only [push_cast, go_sem, wpS_tt, wpS_tf, wpS_ft, wpS_ff, wpCond_tt, wpCond_ff, simprocAttr]
  refine callR.pure h2 rfl rfl ?_
  simp (maxSteps := 1000000) (disch := omega) only [push_cast, go_sem, wpS_tt, wpS_tf, wpS_ft, wpS_ff, wpCond_tt, wpCond_ff, simprocAttr, hvv]
  refine callR.pure h3 rfl rfl ?_
  simp (maxSteps := 1000000) (disch := omega) only [push_cast, go_sem, wpS_tt, wpS_tf, wpS_ft, wpS_ff, wpCond_tt, wpCond_ff, simprocAttr]
  refine callR.pure h4 rfl rfl ?_
  cases v1
  · cases v2
    · simp (maxSteps := 1000000) (disch := omega) only [push_cast, go_sem, wpS_tt, wpS_tf, wpS_ft, wpS_ff, wpCond_tt, wpCond_ff, simprocAttr]
    · have : v3 = true := i2 rfl
      subst this
      simp (maxSteps := 1000000) (disch := omega) only [push_cast, go_sem, wpS_tt, wpS_tf, wpS_ft, wpS_ff, wpCond_tt, wpCond_ff, simprocAttr]
      refine callR.pure h5 rfl rfl ?_
      simp (maxSteps := 1000000) (disch := omega) only [push_cast, go_sem, wpS_tt, wpS_tf, wpS_ft, wpS_ff, wpCond_tt, wpCond_ff, simprocAttr]
  · have : v2 = true := i1 rfl
    subst this
    have : v3 = true := i2 rfl
    subst this
    simp (maxSteps := 1000000) (disch := omega) only [push_cast, go_sem, wpS_tt, wpS_tf, wpS_ft, wpS_ff, wpCond_tt, wpCond_ff, simprocAttr]
    refine callR.pure h5 rfl rfl ?_
    simp (maxSteps := 1000000) (disch := omega) only [push_cast, go_sem, wpS_tt, wpS_tf, wpS_ft, wpS_ff, wpCond_tt, wpCond_ff, simprocAttr]
end Go.Proofs.YtfdbminedccccaaGreatDoor
/-! ## The reference: the events of a net in line -/
namespace Go.Proofs.YtfdbminedccccaaGreatDoor
open Go.RowKit
set_option linter.unusedSimpArgs false
set_option linter.unusedVariables false
set_option pp.maxSteps 3000

/-- A row that is handed over beside another thing stays. -/
theorem Fp.fzT {P : Program} {f : FuncId} {args : List V} {v : V} (h : Fc P f args noM fun r m => (r = v ∧ m = noM) ∨ ∃ s γ cap e es x, r = .tuple [.msl s [] γ es.length cap, x] ∧ m s = some (.own e γ cap es) ∧ v = .tuple [.sl (es.map V.fz), x]) : Fp P f args v := by
  refine ⟨fun imm w vals hG hI hi hs hv => (h.fn imm w vals hG hI hi hs hv).mono ?_, h.go⟩
  rintro e' w' ⟨u, r, m, imm', rfl, hq, hr, hS⟩
  rcases hq with ⟨rfl, rfl⟩ | ⟨s, γ, cap, e, es, x, rfl, hm, rfl⟩
  · exact ⟨_, _, _, imm', rfl, ⟨rfl, rfl⟩, hr, hS⟩
  obtain ⟨h1, h2, h3⟩ := hS.inv.freeze (o := s) (e := e) (γ := γ) (cap := cap) (es := es) hm
  have he : Ev imm' w' (fun g' => imm' g' ∨ (V.own e γ cap es).blocks g') w' := fun g' hg => ⟨.inl hg, rfl⟩
  refine ⟨_, _, noM, fun g' => imm' g' ∨ (V.own e γ cap es).blocks g', rfl, ⟨rfl, rfl⟩, ?_, ⟨inv_no, fun g hg => hg.elim (hS.lt g) (fun hb => (h3 g hb).1), hS.size, hS.os, hS.tape, hS.output, fun g hg hno => ⟨(hS.block g hg hno).1, ?_⟩, fun g hg => absurd hg not_owns_no⟩⟩
  · cases hr with
    | tuple _ arr hl hh =>
      refine .tuple _ arr hl fun j c u' hc hu => ?_
      cases j with
      | zero =>
        simp at hc; subst hc
        have := hh 0 (.msl s [] γ es.length cap) u' rfl hu
        cases this
        exact h2
      | succ j =>
        have := hh (j + 1) c u' (by simpa using hc) hu
        exact this.ev he
  constructor
  · rintro (h | h)
    · exact (hS.block g hg hno).2.1 h
    · rcases hS.owns g (h3 g h).2 with h | h
      · exact absurd h not_owns_no
      · omega
  · exact fun h => .inl ((hS.block g hg hno).2.2 h)
/-- Events that are told. -/
def intsN (l : List Nat) : List Int := l.map fun n : Nat => (n : Int)
theorem intsN_len (l : List Nat) : (intsN l).length = l.length := by simp [intsN]
theorem intsN_has (l : List Nat) (b : Nat) : (intsN l).contains (b : Int) = l.contains b := by
  rw [Bool.eq_iff_iff, List.contains_iff_mem, List.contains_iff_mem, intsN, List.mem_map]
  exact ⟨fun ⟨x, hx, e⟩ => by have : x = b := by omega
                              rw [← this]; exact hx, fun h => ⟨b, h, rfl⟩⟩
def lineW : Option (List Nat) → V
  | some l => .tuple [intsV (intsN l), .bool true]
  | none => .tuple [intsV [], .bool false]
theorem nline_fn (R : Nat → Nat → Bool) (n : Nat) (hn : n ≤ 62) : Fp Tryz.prog 51 [netE (netL R n)] (lineW (lineE R n)) := by
  have hNl := netL_len R n
  refine Fp.fzT ?_
  refine Fc.start (S := [17]) Tryz.func51 Tryz.ntmps51 Tryz.results51 rfl (by decide) rfl (by kernel_rfl) ?_
  simp (maxSteps := 1000000) (disch := omega) only [push_cast, go_sem, wpS_tt, wpS_tf, wpS_ft, wpS_ff, wpCond_tt, wpCond_ff, simprocAttr, netE_eq]
  intro g9
  refine Sat.loop (σ := EvS × List Nat × (Nat → Bool)) (fun x => upd (upd noT 0 (.eptr [.sl ((netL R n).map boolsV)])) 4 (.msl 4 [] x.1.γ x.2.1.length x.1.c)) (fun x => noM.set 4 (.own x.1.e x.1.γ x.1.c ((intsN x.2.1).map (V.int .i64))))
    (fun x => cntE n x.2.2 = x.1.k ∧ x.1.k ≤ n ∧ x.2.1.length + x.1.k = n ∧ x.1.e = 3 ∧ (∀ b, b < n → x.2.2 b = !x.2.1.contains b) ∧ lineE R n = (elimE R n x.1.k x.2.2).map (x.2.1 ++ ·)) (fun x => x.1.k) (⟨n, 3, some g9, 0⟩, [], fun x => decide (x < n)) ⟨cnt_all, Nat.le_refl _, by simp, rfl, fun b hb => by simp [hb], ?_⟩ ?_ ?_
  · dsimp only
    rw [lineE]
    cases elimE R n n fun x => decide (x < n) <;> rfl
  · (refine Less.start ?_; repeat (first | exact LessO.nil | exact LessO.all | refine LessO.skip (by decide) ?_ | refine LessO.upd ?_ ?_ | refine LessO.set ?_ ?_)) <;> (try simp (maxSteps := 1000000) (disch := omega) only [push_cast, go_sem, wpS_tt, wpS_tf, wpS_ft, wpS_ff, wpCond_tt, wpCond_ff, simprocAttr])
    all_goals simp [intsN]
  rintro ⟨⟨k, e, γ, c⟩, out, L⟩ ⟨hc, hk, hol, hγ, hL, hline⟩ J hJ
  simp only at hc hk hol hγ hL hline hJ
  subst hγ
  refine Sat.of (S := [17]) (by kernel_rfl) ?_
  have hγ' : (γ = none ∨ 3 = 3) = True := by simp
  have hil := intsN_len out
  have hhas := fun b => l12HasO_fn (intsN out) b γ c (by rw [hil]; omega)
  rw [hil] at hhas
  cases k with
  | zero =>
    have hnl : ¬ ((out.length : Int) < n) := by omega
    simp (maxSteps := 1000000) (disch := omega) only [push_cast, go_sem, wpS_tt, wpS_tf, wpS_ft, wpS_ff, wpCond_tt, wpCond_ff, simprocAttr, hNl, hnl]
    refine Sat.freezeT (upd noT 4 (intsV (intsN out))) noM 4 (e := 3) (γ := γ) (cap := c) (es := (intsN out).map (V.int .i64)) rfl ?_ ?_
    · (refine Less.start ?_; repeat (first | exact LessO.nil | exact LessO.all | refine LessO.skip (by decide) ?_ | refine LessO.upd ?_ ?_ | refine LessO.set ?_ ?_)) <;> (try simp (maxSteps := 1000000) (disch := omega) only [push_cast, go_sem, wpS_tt, wpS_tf, wpS_ft, wpS_ff, wpCond_tt, wpCond_ff, simprocAttr])
      rw [hil]; simp [intsV]
    refine Sat.of (S := []) (by kernel_rfl) ?_
    simp (maxSteps := 1000000) (disch := omega) only [push_cast, go_sem, wpS_tt, wpS_tf, wpS_ft, wpS_ff, wpCond_tt, wpCond_ff, simprocAttr, intsV_eq]
    refine ⟨_, Sub.rfl, .inl ⟨?_, rfl⟩⟩
    rw [hline, elimE]
    simp [lineW, intsV]
  | succ k =>
    rw [elimE] at hline
    have hnl : (out.length : Int) < n := by omega
    simp (maxSteps := 1000000) (disch := omega) only [push_cast, go_sem, wpS_tt, wpS_tf, wpS_ft, wpS_ff, wpCond_tt, wpCond_ff, simprocAttr, hNl, hnl]
    refine Sat.loop (σ := Nat × Option Nat) (fun x => upd (upd (upd (upd noT 0 (.eptr [.sl ((netL R n).map boolsV)])) 4 (.msl 4 [] γ out.length c)) 5 (.int .i64 (optZ x.2))) 6 (.int .i64 x.1)) (fun x => noM.set 4 (.own 3 γ c ((intsN out).map (V.int .i64))))
      (fun x => x.1 ≤ n ∧ (x.2 = none → ∀ j, j < x.1 → freeE R n L j = false) ∧ ∀ z, x.2 = some z → z < n ∧ pickE R n L = some z) (fun x => n - x.1) (0, none) ⟨by dsimp only; omega, fun _ j hj => absurd hj (Nat.not_lt_zero j), fun z hz => by cases hz⟩ ?_ ?_
    · (refine Less.start ?_; repeat (first | exact LessO.nil | exact LessO.all | refine LessO.skip (by decide) ?_ | refine LessO.upd ?_ ?_ | refine LessO.set ?_ ?_)) <;> (try simp (maxSteps := 1000000) (disch := omega) only [push_cast, go_sem, wpS_tt, wpS_tf, wpS_ft, wpS_ff, wpCond_tt, wpCond_ff, simprocAttr])
      all_goals rfl
    rintro ⟨b, o⟩ ⟨hb, hno, hso⟩ J2 hJ2
    simp only at hb hno hso hJ2
    refine Sat.of (S := []) (by kernel_rfl) ?_
    cases o with
    | some z =>
      obtain ⟨hz, hpk⟩ := hso z rfl
      rw [hpk] at hline
      have hz0 : ¬ ((z : Int) < 0) := by omega
      have hLz := (free_iff.1 (pick_some hpk).2).1
      have hcr := cnt_rem (L := L) hLz hz
      have e1 : optZ (some z) = (z : Int) := rfl
      by_cases hbn : b < n
      all_goals
        simp (maxSteps := 1000000) (disch := omega) only [push_cast, go_sem, wpS_tt, wpS_tf, wpS_ft, wpS_ff, wpCond_tt, wpCond_ff, simprocAttr, e1, hz0, hbn, hNl, hγ']
        intro g70
        refine ⟨⟨hil, by rw [hil]; omega⟩, fun γ6 c6 _ => ?_⟩
        refine hJ (⟨k, 3, γ6, c6⟩, out ++ [z], fun x => L x && !(x == z)) _ _ ⟨by dsimp only; omega, by dsimp only; omega, by simp at hol ⊢; omega, rfl, fun x hx => ?_, ?_⟩ (by dsimp only; omega) ?_
        · dsimp only
          rw [hL x hx]
          rw [List.contains_append, Bool.not_or]
          simp [Bool.beq_eq_decide_eq]
        · dsimp only
          have hl2 : lineE R n = ((elimE R n k fun x => L x && !(x == z)).map (z :: ·)).map (out ++ ·) := hline
          rw [hl2]
          cases elimE R n k fun x => L x && !(x == z) <;> simp
        · (refine Less.start ?_; repeat (first | exact LessO.nil | exact LessO.all | refine LessO.skip (by decide) ?_ | refine LessO.upd ?_ ?_ | refine LessO.set ?_ ?_)) <;> (try simp (maxSteps := 1000000) (disch := omega) only [push_cast, go_sem, wpS_tt, wpS_tf, wpS_ft, wpS_ff, wpCond_tt, wpCond_ff, simprocAttr])
          all_goals simp [intsN]
    | none =>
      have hno' := hno rfl
      have e1 : optZ none = -1 := rfl
      rcases Nat.lt_or_ge b n with hbn | hbn
      · simp (maxSteps := 1000000) (disch := omega) only [push_cast, go_sem, wpS_tt, wpS_tf, wpS_ft, wpS_ff, wpCond_tt, wpCond_ff, simprocAttr, e1, hbn, hNl]
        refine callR.peek (hhas b) rfl rfl rfl ?_
        rw [intsN_has]
        simp (maxSteps := 1000000) (disch := omega) only [push_cast, go_sem, wpS_tt, wpS_tf, wpS_ft, wpS_ff, wpCond_tt, wpCond_ff, simprocAttr]
        refine Sat.loop (σ := Nat × Bool) (fun x => upd (upd (upd (upd (upd (upd noT 0 (.eptr [.sl ((netL R n).map boolsV)])) 4 (.msl 4 [] γ out.length c)) 5 (.int .i64 (-1))) 6 (.int .i64 b)) 7 (.bool x.2)) 8 (.int .i64 x.1)) (fun x => noM.set 4 (.own 3 γ c ((intsN out).map (V.int .i64))))
          (fun x => x.1 ≤ n ∧ x.2 = frB R L b x.1) (fun x => n - x.1) (0, L b) ⟨by dsimp only; omega, by simp [frB]⟩ ?_ ?_
        · (refine Less.start ?_; repeat (first | exact LessO.nil | exact LessO.all | refine LessO.skip (by decide) ?_ | refine LessO.upd ?_ ?_ | refine LessO.set ?_ ?_)) <;> (try simp (maxSteps := 1000000) (disch := omega) only [push_cast, go_sem, wpS_tt, wpS_tf, wpS_ft, wpS_ff, wpCond_tt, wpCond_ff, simprocAttr])
          all_goals first | rfl | (rw [hL b hbn]) | simp
        rintro ⟨a, fr⟩ ⟨ha, hfr⟩ J3 hJ3
        simp only at ha hfr hJ3
        refine Sat.of (S := []) (by kernel_rfl) ?_
        cases fr with
        | false =>
          have hff := frB_no (n := n) hfr.symm ha
          by_cases han : a < n
          all_goals
            simp (maxSteps := 1000000) (disch := omega) only [push_cast, go_sem, wpS_tt, wpS_tf, wpS_ft, wpS_ff, wpCond_tt, wpCond_ff, simprocAttr, han, hNl]
            refine hJ2 (b + 1, none) _ _ ⟨by dsimp only; omega, fun _ j hj => ?_, fun z hz => by cases hz⟩ (by dsimp only; omega) ?_
            · rcases Nat.lt_or_ge j b with h | h
              · exact hno' j h
              · have : j = b := by dsimp only at hj; omega
                rw [this]; exact hff
            · (refine Less.start ?_; repeat (first | exact LessO.nil | exact LessO.all | refine LessO.skip (by decide) ?_ | refine LessO.upd ?_ ?_ | refine LessO.set ?_ ?_)) <;> (try simp (maxSteps := 1000000) (disch := omega) only [push_cast, go_sem, wpS_tt, wpS_tf, wpS_ft, wpS_ff, wpCond_tt, wpCond_ff, simprocAttr])
              all_goals rfl
        | true =>
          rcases Nat.lt_or_ge a n with han | han
          · have hLa := hL a han
            have hna := netL_get (R := R) han
            have hnb : (List.range n)[b]? = some b := List.getElem?_range hbn
            simp (maxSteps := 1000000) (disch := omega) only [push_cast, go_sem, wpS_tt, wpS_tf, wpS_ft, wpS_ff, wpCond_tt, wpCond_ff, simprocAttr, han, hNl]
            refine callR.peek (hhas a) rfl rfl rfl ?_
            rw [intsN_has]
            cases hc2 : out.contains a
            · rw [hc2] at hLa
              simp (maxSteps := 1000000) (disch := omega) only [push_cast, go_sem, wpS_tt, wpS_tf, wpS_ft, wpS_ff, wpCond_tt, wpCond_ff, simprocAttr, hna, hNl, han, boolsV_eq, hnb, hbn, List.length_range]
              refine hJ3 (a + 1, !R a b) _ _ ⟨by dsimp only; omega, by dsimp only; rw [frB_succ, ← hfr, hLa]; simp⟩ (by dsimp only; omega) ?_
              (refine Less.start ?_; repeat (first | exact LessO.nil | exact LessO.all | refine LessO.skip (by decide) ?_ | refine LessO.upd ?_ ?_ | refine LessO.set ?_ ?_)) <;> (try simp (maxSteps := 1000000) (disch := omega) only [push_cast, go_sem, wpS_tt, wpS_tf, wpS_ft, wpS_ff, wpCond_tt, wpCond_ff, simprocAttr])
            · rw [hc2] at hLa
              simp (maxSteps := 1000000) (disch := omega) only [push_cast, go_sem, wpS_tt, wpS_tf, wpS_ft, wpS_ff, wpCond_tt, wpCond_ff, simprocAttr]
              refine hJ3 (a + 1, true) _ _ ⟨by dsimp only; omega, by dsimp only; rw [frB_succ, ← hfr, hLa]; rfl⟩ (by dsimp only; omega) ?_
              (refine Less.start ?_; repeat (first | exact LessO.nil | exact LessO.all | refine LessO.skip (by decide) ?_ | refine LessO.upd ?_ ?_ | refine LessO.set ?_ ?_)) <;> (try simp (maxSteps := 1000000) (disch := omega) only [push_cast, go_sem, wpS_tt, wpS_tf, wpS_ft, wpS_ff, wpCond_tt, wpCond_ff, simprocAttr])
          · have : a = n := by omega
            subst this
            have hfe : freeE R a L b = true := hfr.symm
            simp (maxSteps := 1000000) (disch := omega) only [push_cast, go_sem, wpS_tt, wpS_tf, wpS_ft, wpS_ff, wpCond_tt, wpCond_ff, simprocAttr, hNl]
            refine hJ2 (b + 1, some b) _ _ ⟨by dsimp only; omega, nofun, fun z hz => ?_⟩ (by dsimp only; omega) ?_
            · cases hz
              exact ⟨hbn, find_some hbn hfe hno'⟩
            · (refine Less.start ?_; repeat (first | exact LessO.nil | exact LessO.all | refine LessO.skip (by decide) ?_ | refine LessO.upd ?_ ?_ | refine LessO.set ?_ ?_)) <;> (try simp (maxSteps := 1000000) (disch := omega) only [push_cast, go_sem, wpS_tt, wpS_tf, wpS_ft, wpS_ff, wpCond_tt, wpCond_ff, simprocAttr])
              all_goals rfl
      · have : b = n := by omega
        subst this
        have hpk : pickE R b L = none := find_none hno'
        rw [hpk] at hline
        simp (maxSteps := 1000000) (disch := omega) only [push_cast, go_sem, wpS_tt, wpS_tf, wpS_ft, wpS_ff, wpCond_tt, wpCond_ff, simprocAttr, e1, hNl]
        intro g67
        refine ⟨_, Sub.rfl, .inr ⟨2, some g67, 0, 3, [], .bool false, rfl, rfl, by rw [hline]; rfl⟩⟩
end Go.Proofs.YtfdbminedccccaaGreatDoor
/-! ## The reference: which events must be ahead of which, the first way in which it holds of all who wait; OrderLine -/
namespace Go.Proofs.YtfdbminedccccaaGreatDoor
open Go.RowKit
set_option linter.unusedSimpArgs false
set_option linter.unusedVariables false
set_option pp.maxSteps 3000

def foundR (n : Nat) (out : Nat → Nat) : List (Nat × Nat) → (Nat → Nat → Bool) → (Nat → Nat → Bool) × Bool
  | [], R => (R, (lineE R n).isSome)
  | (e, i) :: l, R => if (lineE R n).isSome then (if (foundR n out l (wiR R (out i) e)).2 then foundR n out l (wiR R (out i) e) else foundR n out l (wiR R (e - 1) i)) else (R, false)
def foundV (n : Nat) (x : (Nat → Nat → Bool) × Bool) : V := .tuple [netE (netL x.1 n), .bool x.2]
theorem foundV_eq (n : Nat) (R : Nat → Nat → Bool) (b : Bool) : foundV n (R, b) = .tuple [.eptr [.sl ((netL R n).map boolsV)], .bool b] := rfl
theorem found_no {n : Nat} {out : Nat → Nat} {l : List (Nat × Nat)} {R : Nat → Nat → Bool} (h : lineE R n = none) : foundR n out l R = (R, false) := by
  cases l with
  | nil => rw [foundR, h]; rfl
  | cons q l => obtain ⟨e, i⟩ := q; rw [foundR, h]; rfl
/-- It is what the program settles. -/
theorem found_settle {n : Nat} {out : Nat → Nat} : ∀ {l : List (Nat × Nat)} {R : Nat → Nat → Bool}, (foundR n out l R).2 = (settleR n out l R).isSome ∧ ∀ r, settleR n out l R = some r → foundR n out l R = (r, true)
  | [], R => by
    rw [foundR, settleR]
    cases hl : (lineE R n).isSome
    · exact ⟨rfl, nofun⟩
    · exact ⟨rfl, fun r hr => by cases hr; rfl⟩
  | (e, i) :: l, R => by
    rw [foundR, settleR]
    obtain ⟨a1, a2⟩ := found_settle (n := n) (out := out) (l := l) (R := wiR R (out i) e)
    obtain ⟨b1, b2⟩ := found_settle (n := n) (out := out) (l := l) (R := wiR R (e - 1) i)
    cases hl : (lineE R n).isSome
    · exact ⟨rfl, nofun⟩
    · simp only [if_true]
      cases hs : settleR n out l (wiR R (out i) e) with
      | none =>
        rw [hs] at a1
        rw [a1]
        simp only [Option.isSome_none, Bool.false_eq_true, if_false, Option.none_or]
        exact ⟨b1, b2⟩
      | some r1 =>
        rw [hs] at a1
        rw [a1]
        simp only [Option.isSome_some, if_true, Option.some_or]
        exact ⟨a1, fun r hr => by cases hr; exact a2 r1 hs⟩
theorem ofound_fn (p : Prog) (g : Nat) (c4 c5 : V) (hok : progOk p = true) : ∀ (m frm : Nat) (R : Nat → Nat → Bool), (chRef p (events p).length).length - frm = m → frm ≤ (chRef p (events p).length).length →
    Fo Tryz.prog 50 [netE (netL R (events p).length), .int .i64 frm] g 6 (ordV p g (rdsV p) (wrtV p) c4 c5) (foundV (events p).length (foundR (events p).length (outA p) ((chRef p (events p).length).drop frm) R)) := by
  have hel := events_le hok
  have hsl : (scene p).ds.length = (events p).length := by simp [scene]
  have hcl := chRef_le p (by omega) (events p).length
  have hdo := fun a ha => odo_fn p g (rdsV p) (wrtV p) c4 c5 a ha
  have hout := fun i hi h7 => oouts_fn p g (rdsV p) (wrtV p) c4 c5 hok i hi h7
  have hpre := @chRef_pre p
  have hoq := fun i hi h7 => (outA_spec hok (i := i) hi h7).1.tl
  have hnx := @wait_next p
  rw [ordV_eq, rdsV_eq, wrtV_eq] at hdo hout
  obtain ⟨n, hnn⟩ : ∃ n, (events p).length = n := ⟨_, rfl⟩
  rw [hnn] at hsl hel hcl hdo hout hoq hnx ⊢
  obtain ⟨CL, hCL⟩ : ∃ l, chRef p n = l := ⟨_, rfl⟩
  rw [hCL] at hcl ⊢
  intro m
  induction m using Nat.strongRecOn with
  | _ m ih =>
  intro frm R hm hfl
  have hho := holds_fn R n (by omega)
  rw [ordV_eq, rdsV_eq, wrtV_eq] at ih ⊢
  rw [netE_eq] at hho
  refine Fc.start (S := []) Tryz.func50 Tryz.ntmps50 Tryz.results50 rfl (by decide) rfl (by kernel_rfl) ?_
  simp (maxSteps := 1000000) (disch := omega) only [push_cast, go_sem, wpS_tt, wpS_tf, wpS_ft, wpS_ff, wpCond_tt, wpCond_ff, simprocAttr, netE_eq]
  refine callR.pure hho rfl rfl ?_
  cases hl : lineE R n with
  | none =>
    simp (maxSteps := 1000000) (disch := omega) only [push_cast, go_sem, wpS_tt, wpS_tf, wpS_ft, wpS_ff, wpCond_tt, wpCond_ff, simprocAttr, Option.isSome_none]
    rw [found_no hl]
    refine ⟨_, ?_, rfl, rfl⟩
    ((repeat (first | exact Sub.no | refine Sub.set ?_ ?_)) <;> (try simp (disch := omega) only [push_cast, go_sem, wpS_tt, wpS_tf, wpS_ft, wpS_ff, wpCond_tt, wpCond_ff, simprocAttr]))
  | some ls =>
    simp (maxSteps := 1000000) (disch := omega) only [push_cast, go_sem, wpS_tt, wpS_tf, wpS_ft, wpS_ff, wpCond_tt, wpCond_ff, simprocAttr, Option.isSome_some]
    refine Sat.loop (σ := Nat) (fun w => upd (upd (upd (upd (upd noT 0 (.ptr 0 [] 0 0 g 6)) 1 (.eptr [.sl ((netL R n).map boolsV)])) 2 (.int .i64 frm)) 8 (.int .i64 (chRef p w).length)) 9 (.int .i64 w)) (fun w => noM.set 0 (.own 74 (some g) 1 [.agg [.sl (p.map thrV), .sl ((events p).map Evt.V), .sl ((scene p).ds.map fun d => .bool d.reads), .sl ((scene p).ds.map fun d => .bool d.writes), c4, c5]]))
      (fun w => w ≤ n ∧ (chRef p w).length ≤ frm) (fun w => n - w) 0 ⟨by omega, by simp [chRef]⟩ ?_ ?_
    · (refine Less.start ?_; repeat (first | exact LessO.nil | exact LessO.all | refine LessO.skip (by decide) ?_ | refine LessO.upd ?_ ?_ | refine LessO.set ?_ ?_)) <;> (try simp (maxSteps := 1000000) (disch := omega) only [push_cast, go_sem, wpS_tt, wpS_tf, wpS_ft, wpS_ff, wpCond_tt, wpCond_ff, simprocAttr])
      all_goals simp [chRef]
    rintro w ⟨hw, hwf⟩ J hJ
    refine Sat.of (S := []) (by kernel_rfl) ?_
    rcases Nat.lt_or_ge w n with hlt | hge
    · obtain ⟨ew, hew⟩ : ∃ e, (events p)[w]? = some e := ⟨_, List.getElem?_eq_getElem (by omega)⟩
      have hwe : w < (events p).length := by omega
      have hkw : kd (scene p).ds w = (dsA p w).k := rfl
      have hlw : ltA (events p) w = ew.l := by rw [ltA, hew]; rfl
      have hdw := hdo w hlt
      rw [Do.V_eq] at hdw
      simp (maxSteps := 1000000) (disch := omega) only [push_cast, go_sem, wpS_tt, wpS_tf, wpS_ft, wpS_ff, wpCond_tt, wpCond_ff, simprocAttr, hlt, hnn]
      refine callR.look hdw rfl rfl rfl ?_
      cases h9 : ((dsA p w).k == 9)
      · have h9' : ((dsA p w).k != 9) = true := by simp [bne, h9]
        simp (maxSteps := 1000000) (disch := omega) only [push_cast, go_sem, wpS_tt, wpS_tf, wpS_ft, wpS_ff, wpCond_tt, wpCond_ff, simprocAttr, h9']
        have hcs : (chRef p (w + 1)).length = (chRef p w).length := by rw [chRef_succ, hkw, h9]; simp
        refine hJ (w + 1) _ _ ⟨by omega, by omega⟩ (by omega) ?_
        rw [hcs]
        (refine Less.start ?_; repeat (first | exact LessO.nil | exact LessO.all | refine LessO.skip (by decide) ?_ | refine LessO.upd ?_ ?_ | refine LessO.set ?_ ?_)) <;> (try simp (maxSteps := 1000000) (disch := omega) only [push_cast, go_sem, wpS_tt, wpS_tf, wpS_ft, wpS_ff, wpCond_tt, wpCond_ff, simprocAttr])
      have h9' : ((dsA p w).k != 9) = false := by simp [bne, h9]
      cases hll : ew.l
      rotate_left
      · simp (maxSteps := 1000000) (disch := omega) only [push_cast, go_sem, wpS_tt, wpS_tf, wpS_ft, wpS_ff, wpCond_tt, wpCond_ff, simprocAttr, h9', hew, hwe, Evt.V_eq, hll]
        have hcs : (chRef p (w + 1)).length = (chRef p w).length := by rw [chRef_succ, hlw, hll]; simp
        refine hJ (w + 1) _ _ ⟨by omega, by omega⟩ (by omega) ?_
        rw [hcs]
        (refine Less.start ?_; repeat (first | exact LessO.nil | exact LessO.all | refine LessO.skip (by decide) ?_ | refine LessO.upd ?_ ?_ | refine LessO.set ?_ ?_)) <;> (try simp (maxSteps := 1000000) (disch := omega) only [push_cast, go_sem, wpS_tt, wpS_tf, wpS_ft, wpS_ff, wpCond_tt, wpCond_ff, simprocAttr])
      simp (maxSteps := 1000000) (disch := omega) only [push_cast, go_sem, wpS_tt, wpS_tf, wpS_ft, wpS_ff, wpCond_tt, wpCond_ff, simprocAttr, h9', hew, hwe, Evt.V_eq, hll]
      have h9k : kd (scene p).ds w = 9 := by rw [hkw]; simpa using h9
      have hlwf : ltA (events p) w = false := by rw [hlw, hll]
      have hw1 := (hnx hlt h9k hlwf).1
      refine Sat.loop (σ := Nat) (fun j => upd (upd (upd (upd (upd (upd noT 0 (.ptr 0 [] 0 0 g 6)) 1 (.eptr [.sl ((netL R n).map boolsV)])) 2 (.int .i64 frm)) 8 (.int .i64 ((chRef p w).length + (chIn (scene p).ds (w + 1) j).length : Nat))) 9 (.int .i64 w)) 10 (.int .i64 j)) (fun _ => noM.set 0 (.own 74 (some g) 1 [.agg [.sl (p.map thrV), .sl ((events p).map Evt.V), .sl ((scene p).ds.map fun d => .bool d.reads), .sl ((scene p).ds.map fun d => .bool d.writes), c4, c5]]))
        (fun j => j ≤ n ∧ (chRef p w).length + (chIn (scene p).ds (w + 1) j).length ≤ frm) (fun j => n - j) 0 ⟨by omega, by simpa [chIn] using hwf⟩ ?_ ?_
      · (refine Less.start ?_; repeat (first | exact LessO.nil | exact LessO.all | refine LessO.skip (by decide) ?_ | refine LessO.upd ?_ ?_ | refine LessO.set ?_ ?_)) <;> (try simp (maxSteps := 1000000) (disch := omega) only [push_cast, go_sem, wpS_tt, wpS_tf, wpS_ft, wpS_ff, wpCond_tt, wpCond_ff, simprocAttr])
        all_goals simp [chIn]
      rintro j ⟨hj, hjf⟩ J2 hJ2
      refine Sat.of (S := []) (by kernel_rfl) ?_
      have hcw := chRef_le p (by omega) w
      have hci := chIn_le (scene p).ds (w + 1) j
      rcases Nat.lt_or_ge j n with hlt2 | hge2
      · have hkj : kd (scene p).ds j = (dsA p j).k := rfl
        have hdj := hdo j hlt2
        rw [Do.V_eq] at hdj
        simp (maxSteps := 1000000) (disch := omega) only [push_cast, go_sem, wpS_tt, wpS_tf, wpS_ft, wpS_ff, wpCond_tt, wpCond_ff, simprocAttr, hlt2, hnn]
        refine callR.look hdj rfl rfl rfl ?_
        cases h7 : ((dsA p j).k == 7)
        · have h7' : ((dsA p j).k != 7) = true := by simp [bne, h7]
          simp (maxSteps := 1000000) (disch := omega) only [push_cast, go_sem, wpS_tt, wpS_tf, wpS_ft, wpS_ff, wpCond_tt, wpCond_ff, simprocAttr, h7']
          have hcs : (chIn (scene p).ds (w + 1) (j + 1)).length = (chIn (scene p).ds (w + 1) j).length := by rw [chIn_succ, hkj, h7]; simp
          refine hJ2 (j + 1) _ _ ⟨by omega, by omega⟩ (by omega) ?_
          rw [hcs]
          (refine Less.start ?_; repeat (first | exact LessO.nil | exact LessO.all | refine LessO.skip (by decide) ?_ | refine LessO.upd ?_ ?_ | refine LessO.set ?_ ?_)) <;> (try simp (maxSteps := 1000000) (disch := omega) only [push_cast, go_sem, wpS_tt, wpS_tf, wpS_ft, wpS_ff, wpCond_tt, wpCond_ff, simprocAttr])
        have h7' : ((dsA p j).k != 7) = false := by simp [bne, h7]
        have h7k : kd (scene p).ds j = 7 := by rw [hkj]; simpa using h7
        rcases Nat.lt_or_ge ((chRef p w).length + (chIn (scene p).ds (w + 1) j).length) frm with hcf | hcf
        · have hng : ¬ ((frm : Int) < ((chRef p w).length : Int) + ((chIn (scene p).ds (w + 1) j).length : Int) + 1) := by omega
          simp (maxSteps := 1000000) (disch := omega) only [push_cast, go_sem, wpS_tt, wpS_tf, wpS_ft, wpS_ff, wpCond_tt, wpCond_ff, simprocAttr, h7', hng]
          have hcs : (chIn (scene p).ds (w + 1) (j + 1)).length = (chIn (scene p).ds (w + 1) j).length + 1 := by rw [chIn_succ, hkj, h7]; simp
          refine hJ2 (j + 1) _ _ ⟨by omega, by omega⟩ (by omega) ?_
          rw [hcs]
          (refine Less.start ?_; repeat (first | exact LessO.nil | exact LessO.all | refine LessO.skip (by decide) ?_ | refine LessO.upd ?_ ?_ | refine LessO.set ?_ ?_)) <;> (try simp (maxSteps := 1000000) (disch := omega) only [push_cast, go_sem, wpS_tt, wpS_tf, wpS_ft, wpS_ff, wpCond_tt, wpCond_ff, simprocAttr])
          all_goals omega
        · have hg : ((frm : Int) < ((chRef p w).length : Int) + ((chIn (scene p).ds (w + 1) j).length : Int) + 1) := by omega
          obtain ⟨r, hr⟩ := hpre h9k hlwf h7k (by omega) hlt
          rw [hCL] at hr
          have hfe : frm = (chRef p w ++ chIn (scene p).ds (w + 1) j).length := by rw [List.length_append]; omega
          have hd0 : CL.drop frm = (w + 1, j) :: r := by rw [hr, hfe]; exact List.drop_left
          have hd1 : CL.drop (frm + 1) = r := by rw [← List.drop_drop, hd0]; rfl
          have hfl1 : frm + 1 ≤ CL.length := by rw [hr, List.length_append, ← hfe]; simp
          have ho := hout j hlt2 h7k
          have hoj := hoq j hlt2 h7k
          have hw2 := nwith_fn R n (outA p j) (w + 1) (by omega) hoj hw1
          have hw3 := nwith_fn R n w j (by omega) hlt hlt2
          have ih1 := ih (m - 1) (by omega) (frm + 1) (wiR R (outA p j) (w + 1)) (by omega) hfl1
          have ih2 := ih (m - 1) (by omega) (frm + 1) (wiR R w j) (by omega) hfl1
          rw [hd1, netE_eq] at ih1 ih2
          rw [show ((frm + 1 : Nat) : Int) = (frm : Int) + 1 by omega] at ih1 ih2
          rw [show ((w + 1 : Nat) : Int) = (w : Int) + 1 by omega] at hw2
          rw [netE_eq, netE_eq] at hw2 hw3
          have hset : foundR n (outA p) (CL.drop frm) R = (if (foundR n (outA p) r (wiR R (outA p j) (w + 1))).2 then foundR n (outA p) r (wiR R (outA p j) (w + 1)) else foundR n (outA p) r (wiR R w j)) := by rw [hd0, foundR, hl]; rfl
          rw [hset]
          simp (maxSteps := 1000000) (disch := omega) only [push_cast, go_sem, wpS_tt, wpS_tf, wpS_ft, wpS_ff, wpCond_tt, wpCond_ff, simprocAttr, h7', hg]
          refine callR.look ho rfl rfl rfl ?_
          simp (maxSteps := 1000000) (disch := omega) only [push_cast, go_sem, wpS_tt, wpS_tf, wpS_ft, wpS_ff, wpCond_tt, wpCond_ff, simprocAttr]
          refine callR.pure hw2 rfl rfl ?_
          simp (maxSteps := 1000000) (disch := omega) only [push_cast, go_sem, wpS_tt, wpS_tf, wpS_ft, wpS_ff, wpCond_tt, wpCond_ff, simprocAttr]
          refine callR.look ih1 rfl rfl rfl ?_
          obtain ⟨⟨R1, b1⟩, hf1⟩ : ∃ x, foundR n (outA p) r (wiR R (outA p j) (w + 1)) = x := ⟨_, rfl⟩
          obtain ⟨⟨R2, b2⟩, hf2⟩ : ∃ x, foundR n (outA p) r (wiR R w j) = x := ⟨_, rfl⟩
          rw [hf1, hf2]
          rw [hf2] at ih2
          cases b1 with
          | true =>
            simp (maxSteps := 1000000) (disch := omega) only [push_cast, go_sem, wpS_tt, wpS_tf, wpS_ft, wpS_ff, wpCond_tt, wpCond_ff, simprocAttr, foundV_eq]
            refine ⟨_, ?_, rfl⟩
            ((repeat (first | exact Sub.no | refine Sub.set ?_ ?_)) <;> (try simp (disch := omega) only [push_cast, go_sem, wpS_tt, wpS_tf, wpS_ft, wpS_ff, wpCond_tt, wpCond_ff, simprocAttr]))
          | false =>
            simp (maxSteps := 1000000) (disch := omega) only [push_cast, go_sem, wpS_tt, wpS_tf, wpS_ft, wpS_ff, wpCond_tt, wpCond_ff, simprocAttr, foundV_eq]
            refine callR.pure hw3 rfl rfl ?_
            simp (maxSteps := 1000000) (disch := omega) only [push_cast, go_sem, wpS_tt, wpS_tf, wpS_ft, wpS_ff, wpCond_tt, wpCond_ff, simprocAttr]
            refine callR.look ih2 rfl rfl rfl ?_
            simp (maxSteps := 1000000) (disch := omega) only [push_cast, go_sem, wpS_tt, wpS_tf, wpS_ft, wpS_ff, wpCond_tt, wpCond_ff, simprocAttr, foundV_eq]
            refine ⟨_, ?_, rfl⟩
            ((repeat (first | exact Sub.no | refine Sub.set ?_ ?_)) <;> (try simp (disch := omega) only [push_cast, go_sem, wpS_tt, wpS_tf, wpS_ft, wpS_ff, wpCond_tt, wpCond_ff, simprocAttr]))
      · have : j = n := by omega
        subst this
        simp (maxSteps := 1000000) (disch := omega) only [push_cast, go_sem, wpS_tt, wpS_tf, wpS_ft, wpS_ff, wpCond_tt, wpCond_ff, simprocAttr, hnn]
        have hcs : (chRef p (w + 1)).length = (chRef p w).length + (chIn (scene p).ds (w + 1) j).length := by rw [chRef_succ, hkw, h9, hlwf, hsl]; simp
        refine hJ (w + 1) _ _ ⟨by omega, by omega⟩ (by omega) ?_
        rw [hcs]
        (refine Less.start ?_; repeat (first | exact LessO.nil | exact LessO.all | refine LessO.skip (by decide) ?_ | refine LessO.upd ?_ ?_ | refine LessO.set ?_ ?_)) <;> (try simp (maxSteps := 1000000) (disch := omega) only [push_cast, go_sem, wpS_tt, wpS_tf, wpS_ft, wpS_ff, wpCond_tt, wpCond_ff, simprocAttr])
    · have : w = n := by omega
      subst this
      simp (maxSteps := 1000000) (disch := omega) only [push_cast, go_sem, wpS_tt, wpS_tf, wpS_ft, wpS_ff, wpCond_tt, wpCond_ff, simprocAttr, hnn]
      have : frm = CL.length := by rw [hCL] at hwf; omega
      rw [this, List.drop_length, foundR, hl]
      refine ⟨_, ?_, rfl, rfl⟩
      ((repeat (first | exact Sub.no | refine Sub.set ?_ ?_)) <;> (try simp (disch := omega) only [push_cast, go_sem, wpS_tt, wpS_tf, wpS_ft, wpS_ff, wpCond_tt, wpCond_ff, simprocAttr]))

theorem settle_line {n : Nat} {out : Nat → Nat} : ∀ {l : List (Nat × Nat)} {R r : Nat → Nat → Bool}, settleR n out l R = some r → (lineE r n).isSome = true
  | [], R, r, h => by
    rw [settleR] at h
    cases hl : (lineE R n).isSome
    · rw [hl] at h; cases h
    · rw [hl] at h; cases h; exact hl
  | (e, i) :: l, R, r, h => by
    rw [settleR] at h
    cases hl : (lineE R n).isSome
    · rw [hl] at h; cases h
    · rw [hl] at h
      simp only [if_true] at h
      rcases Option.or_eq_some_iff.1 h with h | ⟨_, h⟩
      · exact settle_line h
      · exact settle_line h
/-- All events in a line that an order allows. -/
def lineS (p : Prog) (x : Exe) (kind : Int) : Option (List Nat) := if holdsS p x kind then (settledS p x kind).bind fun r => lineE r (events p).length else none
theorem lineS_yes {p : Prog} {x : Exe} {kind : Int} (h : holdsS p x kind = true) : ∃ r l, settledS p x kind = some r ∧ settleR (events p).length (outA p) (chRef p (events p).length) (netR p x kind) = some r ∧ lineE r (events p).length = some l ∧ lineS p x kind = some l := by
  rw [lineS, h]
  simp only [holdsS, Bool.and_eq_true] at h
  obtain ⟨r, hr⟩ := Option.isSome_iff_exists.1 h.2
  have hr2 := hr
  rw [settledS] at hr2
  split at hr2
  · obtain ⟨l, hl⟩ := Option.isSome_iff_exists.1 (settle_line hr2)
    exact ⟨r, l, hr, hr2, hl, by rw [hr]; exact hl⟩
  · cases hr2
theorem lineW_some (l : List Nat) : lineW (some l) = .tuple [.sl ((intsN l).map (V.int .i64)), .bool true] := rfl
theorem specOrderLine_fn (p : Prog) (x : Exe) (kind : Int) (hp : p.length < 2 ^ 40) (hx : x.small) : Fp Tryz.prog 20 [progV p, x.V, .int .i64 kind] (lineW (lineS p x kind)) := by
  have h1 := specOrderHolds_fn p x kind hp hx
  rw [progV_eq, Exe.V_eq] at h1
  refine Fp.fzT ?_
  refine Fc.start (S := [5]) Tryz.func20 Tryz.ntmps20 Tryz.results20 rfl (by decide) rfl (by kernel_rfl) ?_
  simp (maxSteps := 1000000) (disch := omega) only [push_cast, go_sem, wpS_tt, wpS_tf, wpS_ft, wpS_ff, wpCond_tt, wpCond_ff, simprocAttr, progV_eq, Exe.V_eq]
  intro g3 g4
  refine callR.pure h1 rfl rfl ?_
  cases hh : holdsS p x kind
  · simp (maxSteps := 1000000) (disch := omega) only [push_cast, go_sem, wpS_tt, wpS_tf, wpS_ft, wpS_ff, wpCond_tt, wpCond_ff, simprocAttr]
    intro g16
    refine ⟨noM.set 6 (.own 3 (some g16) 0 []), Sub.set Sub.no rfl, .inr ⟨6, some g16, 0, 3, [], .bool false, rfl, rfl, by rw [lineS, hh]; rfl⟩⟩
  obtain ⟨r, l, hr1, hr2, hl, hls⟩ := lineS_yes hh
  have hh' := hh
  simp only [holdsS, Bool.and_eq_true] at hh'
  have hw : Way p x := Way.of (by rw [ok_eq]; exact hh'.1.1)
  have hpk := hw.ok
  have hel := events_le hpk
  have hsl : (scene p).ds.length = (events p).length := by simp [scene]
  have hfr : x.fr.length = (events p).length := by rw [hw.fr, hsl]
  have hlk := olook_fn p hp hpk
  rw [progV_eq] at hlk
  simp (maxSteps := 1000000) (disch := omega) only [push_cast, go_sem, wpS_tt, wpS_tf, wpS_ft, wpS_ff, wpCond_tt, wpCond_ff, simprocAttr]
  refine callR.new hlk rfl rfl ?_
  rintro r0 ob ⟨g, rfl, rfl⟩
  simp (maxSteps := 1000000) (disch := omega) only [push_cast, go_sem, wpS_tt, wpS_tf, wpS_ft, wpS_ff, wpCond_tt, wpCond_ff, simprocAttr, ordV_eq]
  have hway := oway_fn p x g hpk hfr hw.od hx.row
  rw [ordV_eq, rdsV_eq, wrtV_eq, Exe.V_eq] at hway
  rw [rdsV_eq, wrtV_eq]
  refine callR.mod hway rfl rfl rfl ?_
  rintro r0 ob ⟨gr, rfl, rfl⟩
  simp (maxSteps := 1000000) (disch := omega) only [push_cast, go_sem, wpS_tt, wpS_tf, wpS_ft, wpS_ff, wpCond_tt, wpCond_ff, simprocAttr, ordV_eq]
  have hnk := onet_fn p g (.sl (x.fr.map (V.int .i64))) (.sl (((List.range (events p).length).map (rankS p x)).map (V.int .i64))) hel kind
  have hwk := owhole_fn p x g (staysS p kind) hel hfr (ds_place hpk) kind
  have hfo := ofound_fn p g (.sl (x.fr.map (V.int .i64))) (.sl (((List.range (events p).length).map (rankS p x)).map (V.int .i64))) hpk _ 0 (netR p x kind) rfl (by omega)
  have hli := nline_fn r (events p).length (by omega)
  rw [List.drop_zero, found_settle.2 r hr2, foundV_eq, ordV_eq, rdsV_eq, wrtV_eq, netE_eq] at hfo
  rw [ordV_eq, rdsV_eq, wrtV_eq, netE_eq] at hnk
  rw [ordV_eq, rdsV_eq, wrtV_eq, netE_eq, netE_eq] at hwk
  rw [show bothR (staysS p kind) (toldS p x kind) = netR p x kind from rfl] at hwk
  rw [netE_eq, hl, lineW_some] at hli
  refine Sat.freezeC 8 [] 0 5 (n0 := .own 74 (some g) 1 [.agg [.sl (p.map thrV), .sl ((events p).map Evt.V), .sl ((scene p).ds.map fun d => .bool d.reads), .sl ((scene p).ds.map fun d => .bool d.writes), .sl (x.fr.map (V.int .i64)), .own 3 (some gr) (events p).length (((List.range (events p).length).map (rankS p x)).map (V.int .i64))]])
    (d := .own 3 (some gr) (events p).length (((List.range (events p).length).map (rankS p x)).map (V.int .i64))) ?_ rfl rfl ?_
  · rfl
  have e1 : (V.own 3 (some gr) (events p).length (((List.range (events p).length).map (rankS p x)).map (V.int .i64))).fz = .sl (((List.range (events p).length).map (rankS p x)).map (V.int .i64)) := by simp only [V.fz, fzs_map, fzs_int]
  rw [e1]
  generalize ((List.range (events p).length).map (rankS p x)).map (V.int .i64) = rk at hnk hwk hfo ⊢
  refine Sat.of (S := []) (by kernel_rfl) ?_
  simp (maxSteps := 1000000) (disch := omega) only [push_cast, go_sem, wpS_tt, wpS_tf, wpS_ft, wpS_ff, wpCond_tt, wpCond_ff, simprocAttr]
  refine callR.look hnk rfl rfl rfl ?_
  simp (maxSteps := 1000000) (disch := omega) only [push_cast, go_sem, wpS_tt, wpS_tf, wpS_ft, wpS_ff, wpCond_tt, wpCond_ff, simprocAttr]
  refine callR.look hwk rfl rfl rfl ?_
  simp (maxSteps := 1000000) (disch := omega) only [push_cast, go_sem, wpS_tt, wpS_tf, wpS_ft, wpS_ff, wpCond_tt, wpCond_ff, simprocAttr]
  refine callR.look hfo rfl rfl rfl ?_
  simp (maxSteps := 1000000) (disch := omega) only [push_cast, go_sem, wpS_tt, wpS_tf, wpS_ft, wpS_ff, wpCond_tt, wpCond_ff, simprocAttr]
  refine callR.pure hli rfl rfl ?_
  simp (maxSteps := 1000000) (disch := omega) only [push_cast, go_sem, wpS_tt, wpS_tf, wpS_ft, wpS_ff, wpCond_tt, wpCond_ff, simprocAttr]
  exact ⟨noM, Sub.no, .inl ⟨by rw [hls]; rfl, rfl⟩⟩
theorem natE_map (l : List Nat) : l.map natE = (intsN l).map (V.int .i64) := by rw [intsN, List.map_map]; rfl
theorem implOrderLine_fn (p : Prog) (x : Exe) (kind : Int) (hp : p.length < 2 ^ 40) (hl : ∀ l ∈ p, l.length < 2 ^ 40) (hx : x.small) : Fp Tryz.prog 21 [progV p, x.V, .int .i64 kind] (lineV (lineS p x kind)) := by
  have h1 := implExecOk_fn p x hp hl hx
  rw [ok_eq] at h1
  rw [lineS, holdsS]
  refine Fp.nilT ?_
  refine Fc.start (S := []) Tryz.func21 Tryz.ntmps21 Tryz.results21 rfl (by decide) rfl (by kernel_rfl) ?_
  simp (maxSteps := 1000000) (disch := omega) only [push_cast, go_sem, wpS_tt, wpS_tf, wpS_ft, wpS_ff, wpCond_tt, wpCond_ff, simprocAttr, progV_eq, Exe.V_eq]
  intro g3 g4
  refine callR.pure h1 rfl rfl ?_
  cases hok : specOk p x
  · simp (maxSteps := 1000000) (disch := omega) only [push_cast, go_sem, wpS_tt, wpS_tf, wpS_ft, wpS_ff, wpCond_tt, wpCond_ff, simprocAttr]
    exact .inr ⟨6, [], .bool false, rfl, rfl⟩
  have hw : Way p x := Way.of (by rw [ok_eq]; exact hok)
  have hpk := hw.ok
  have hel := events_le hpk
  simp (maxSteps := 1000000) (disch := omega) only [push_cast, go_sem, wpS_tt, wpS_tf, wpS_ft, wpS_ff, wpCond_tt, wpCond_ff, simprocAttr]
  refine callR.pure (isOrd_fn kind) rfl rfl ?_
  cases hk : inB kind 1 3
  · simp (maxSteps := 1000000) (disch := omega) only [push_cast, go_sem, wpS_tt, wpS_tf, wpS_ft, wpS_ff, wpCond_tt, wpCond_ff, simprocAttr]
    exact .inr ⟨6, [], .bool false, rfl, rfl⟩
  have hs := settled_fn p x kind hw hx hk
  have hsc := sceneOf_fn p hpk
  rw [Exe.V_eq] at hs
  rw [Sc.V_eq] at hs hsc
  cases hr : settledS p x kind with
  | none =>
    rw [hr, no_settle] at hs
    simp (maxSteps := 1000000) (disch := omega) only [push_cast, go_sem, wpS_tt, wpS_tf, wpS_ft, wpS_ff, wpCond_tt, wpCond_ff, simprocAttr]
    refine Sat.drawnE [] [] [0, 1, 2, 4] (pureT [(29, (.agg [.sl ((scene p).p.map thrV), .sl ((scene p).es.map Evt.V), .sl ((scene p).ds.map Do.V)])), (30, .tuple [.nilsl, .bool false])]) (by kernel_rfl) (by kernel_rfl) ?_
    simp (maxSteps := 1000000) (disch := omega) only [push_cast, go_sem, wpS_tt, wpS_tf, wpS_ft, wpS_ff, wpCond_tt, wpCond_ff, simprocAttr]
    refine runD_pure rfl hsc rfl rfl ?_ ?_
    · rfl
    simp (maxSteps := 1000000) (disch := omega) only [push_cast, go_sem, wpS_tt, wpS_tf, wpS_ft, wpS_ff, wpCond_tt, wpCond_ff, simprocAttr]
    refine runD_pure rfl hs rfl rfl ?_ ?_
    · rfl
    simp (maxSteps := 1000000) (disch := omega) only [push_cast, go_sem, wpS_tt, wpS_tf, wpS_ft, wpS_ff, wpCond_tt, wpCond_ff, simprocAttr]
    exact .inr ⟨6, [], .bool false, rfl, rfl⟩
  | some r =>
    have hr2 := hr
    rw [settledS] at hr2
    split at hr2
    rotate_left
    · cases hr2
    obtain ⟨l, hll⟩ := Option.isSome_iff_exists.1 (settle_line hr2)
    have hli := lineR_fn r (events p).length (by omega)
    rw [bitsV_eq, hll, ok_line] at hli
    rw [hr, some_settle] at hs
    simp (maxSteps := 1000000) (disch := omega) only [push_cast, go_sem, wpS_tt, wpS_tf, wpS_ft, wpS_ff, wpCond_tt, wpCond_ff, simprocAttr]
    refine Sat.drawnE [] [] [0, 1, 2, 4] (pureT [(29, (.agg [.sl ((scene p).p.map thrV), .sl ((scene p).es.map Evt.V), .sl ((scene p).ds.map Do.V)])), (30, .tuple [.sl ((graphL r (events p).length).map bitE), .bool true])]) (by kernel_rfl) (by kernel_rfl) ?_
    simp (maxSteps := 1000000) (disch := omega) only [push_cast, go_sem, wpS_tt, wpS_tf, wpS_ft, wpS_ff, wpCond_tt, wpCond_ff, simprocAttr]
    refine runD_pure rfl hsc rfl rfl ?_ ?_
    · rfl
    simp (maxSteps := 1000000) (disch := omega) only [push_cast, go_sem, wpS_tt, wpS_tf, wpS_ft, wpS_ff, wpCond_tt, wpCond_ff, simprocAttr]
    refine runD_pure rfl hs rfl rfl ?_ ?_
    · rfl
    simp (maxSteps := 1000000) (disch := omega) only [push_cast, go_sem, wpS_tt, wpS_tf, wpS_ft, wpS_ff, wpCond_tt, wpCond_ff, simprocAttr]
    refine callR.pure hli rfl rfl ?_
    simp (maxSteps := 1000000) (disch := omega) only [push_cast, go_sem, wpS_tt, wpS_tf, wpS_ft, wpS_ff, wpCond_tt, wpCond_ff, simprocAttr]
    left
    rw [hll]; rfl
end Go.Proofs.YtfdbminedccccaaGreatDoor
/-! ## The law's helpers: whether numbers are the same; whether ways are -/
namespace Go.Proofs.YtfdbminedccccaaGreatDoor
open Go.RowKit
set_option linter.unusedSimpArgs false
set_option linter.unusedVariables false
set_option pp.maxSteps 3000

theorem list_eq_drop {α : Type} [BEq α] [LawfulBEq α] {a b : List α} {k : Nat} (hl : a.length = b.length) (h : ∀ (j : Nat) (x y : α), j < k → a[j]? = some x → b[j]? = some y → (x == y) = true) (hk : a.length ≤ k) : a = b := by
  apply List.ext_getElem hl
  intro j h1 h2
  exact beq_iff_eq.1 (h j _ _ (by omega) (List.getElem?_eq_getElem h1) (List.getElem?_eq_getElem h2))
theorem list_ne_at {α : Type} {a b : List α} {k : Nat} {x y : α} (hx : a[k]? = some x) (hy : b[k]? = some y) (h : x ≠ y) : a ≠ b := fun e => by
  rw [e, hy] at hx; cases hx; exact h rfl
theorem lpInts_fn (a b : List Int) (ha : a.length < 2 ^ 40) (hb : b.length < 2 ^ 40) : Fp Tryz.prog 15 [intsV a, intsV b] (.bool (decide (a = b))) := by
  refine Fc.start (S := [8]) Tryz.func15 Tryz.ntmps15 Tryz.results15 rfl (by decide) rfl (by kernel_rfl) ?_
  cases hl : ((a.length : Int) != b.length)
  rotate_left
  · simp (maxSteps := 1000000) (disch := omega) only [push_cast, go_sem, wpS_tt, wpS_tf, wpS_ft, wpS_ff, wpCond_tt, wpCond_ff, simprocAttr, intsV_eq, hl]
    have : ¬ a = b := fun h => by rw [h] at hl; simp at hl
    simp [this]
  have hl' : a.length = b.length := by have : (a.length : Int) = b.length := by simpa using hl
                                       omega
  simp (maxSteps := 1000000) (disch := omega) only [push_cast, go_sem, wpS_tt, wpS_tf, wpS_ft, wpS_ff, wpCond_tt, wpCond_ff, simprocAttr, intsV_eq, hl]
  refine Sat.loop (σ := Nat) (fun k => upd (upd (upd noT 0 (.sl (a.map (V.int .i64)))) 1 (.sl (b.map (V.int .i64)))) 5 (.int .i64 k)) (fun _ => noM)
    (fun k => k ≤ a.length ∧ ∀ (j : Nat) (x y : Int), j < k → a[j]? = some x → b[j]? = some y → (x == y) = true) (fun k => a.length - k) 0 (by simp) ?_ ?_
  · (refine Less.start ?_; repeat (first | exact LessO.nil | exact LessO.all | refine LessO.skip (by decide) ?_ | refine LessO.upd ?_ ?_ | refine LessO.set ?_ ?_)) <;> (try simp (maxSteps := 1000000) (disch := omega) only [push_cast, go_sem, wpS_tt, wpS_tf, wpS_ft, wpS_ff, wpCond_tt, wpCond_ff, simprocAttr])
  rintro k ⟨hk, hall⟩ J hJ
  refine Sat.of (S := []) (by kernel_rfl) ?_
  rcases Nat.lt_or_ge k a.length with hlt | hge
  · obtain ⟨x, hx⟩ : ∃ x, a[k]? = some x := ⟨_, List.getElem?_eq_getElem hlt⟩
    have hltb : k < b.length := by omega
    obtain ⟨y, hy⟩ : ∃ y, b[k]? = some y := ⟨_, List.getElem?_eq_getElem hltb⟩
    cases hne : (x != y)
    · simp (maxSteps := 1000000) (disch := omega) only [push_cast, go_sem, wpS_tt, wpS_tf, wpS_ft, wpS_ff, wpCond_tt, wpCond_ff, simprocAttr, hlt]
      refine Sat.drawnE [] [] [3, 7] (fun _ _ _ => none) (by kernel_rfl) (by kernel_rfl) ?_
      simp (maxSteps := 1000000) (disch := omega) only [push_cast, go_sem, wpS_tt, wpS_tf, wpS_ft, wpS_ff, wpCond_tt, wpCond_ff, simprocAttr, hx, hy, hlt, hltb, hne]
      refine hJ (k + 1) _ _ ⟨by omega, fun j x' y' hj h1 h2 => ?_⟩ (by omega) ?_
      · rcases Nat.lt_or_ge j k with h | h
        · exact hall j x' y' h h1 h2
        · have : j = k := by omega
          subst this; rw [hx] at h1; rw [hy] at h2; cases h1; cases h2
          simpa only [bne, Bool.not_eq_false'] using hne
      · (refine Less.start ?_; repeat (first | exact LessO.nil | exact LessO.all | refine LessO.skip (by decide) ?_ | refine LessO.upd ?_ ?_ | refine LessO.set ?_ ?_)) <;> (try simp (maxSteps := 1000000) (disch := omega) only [push_cast, go_sem, wpS_tt, wpS_tf, wpS_ft, wpS_ff, wpCond_tt, wpCond_ff, simprocAttr])
    · simp (maxSteps := 1000000) (disch := omega) only [push_cast, go_sem, wpS_tt, wpS_tf, wpS_ft, wpS_ff, wpCond_tt, wpCond_ff, simprocAttr, hlt]
      refine Sat.drawnE [] [] [3, 7] (fun _ _ _ => none) (by kernel_rfl) (by kernel_rfl) ?_
      simp (maxSteps := 1000000) (disch := omega) only [push_cast, go_sem, wpS_tt, wpS_tf, wpS_ft, wpS_ff, wpCond_tt, wpCond_ff, simprocAttr, hx, hy, hlt, hltb, hne]
      have : ¬ a = b := list_ne_at hx hy (by simpa using hne)
      simp [this]
  · have hkl : k = a.length := by omega
    subst hkl
    simp (maxSteps := 1000000) (disch := omega) only [push_cast, go_sem, wpS_tt, wpS_tf, wpS_ft, wpS_ff, wpCond_tt, wpCond_ff, simprocAttr]
    refine Sat.of (S := []) (by kernel_rfl) ?_
    simp (maxSteps := 1000000) (disch := omega) only [push_cast, go_sem, wpS_tt, wpS_tf, wpS_ft, wpS_ff, wpCond_tt, wpCond_ff, simprocAttr]
    have : a = b := list_eq_drop hl' hall (Nat.le_refl _)
    simp [this]

instance : DecidableEq Exe := fun x y => decidable_of_iff (x.fr = y.fr ∧ x.od = y.od) (by cases x; cases y; simp)
end Go.Proofs.YtfdbminedccccaaGreatDoor
/-! ## Draws: a program, a way and an order by which it holds, mostly -/
namespace Go.Proofs.YtfdbminedccccaaGreatDoor
open Go.RowKit
set_option linter.unusedSimpArgs false
set_option linter.unusedVariables false
set_option pp.maxSteps 3000

theorem elim_len {R : Nat → Nat → Bool} {n : Nat} : ∀ {k : Nat} {L : Nat → Bool} {l : List Nat}, elimE R n k L = some l → l.length = k
  | 0, L, l, h => by rw [elimE] at h; cases h; rfl
  | k + 1, L, l, h => by
    rw [elimE] at h
    split at h
    · cases h
    · rename_i b hb
      obtain ⟨l', h1, rfl⟩ := Option.map_eq_some_iff.1 h
      rw [List.length_cons, elim_len h1]
theorem line_len {R : Nat → Nat → Bool} {n : Nat} {l : List Nat} (h : lineE R n = some l) : l.length = n := elim_len h
theorem few_small {y : Exe} (hy : y.few) : y.small := ⟨by have := hy.fr; omega, by have := hy.od; omega, fun r hr => by have := hy.row r hr; omega⟩
theorem l71Hold_rd (bs : List Int) (hb : Bytes bs) (g p : Nat) (hp : p < 2 ^ 20) : Fr Tryz.prog 49 [] g (rdO bs g p)
    (fun r o' => ∃ (x : Prog) (y : Exe) (kind : Int), r = .tuple [progV x, y.V, .int .i64 kind] ∧ x.length ≤ 3 ∧ (∀ l ∈ x, l.length < 2 ^ 11) ∧ y.few ∧ ∃ q, p ≤ q ∧ q ≤ p + 2 ^ 26 ∧ o' = rdO bs g q) := by
  refine Fc.start (S := []) Tryz.func49 Tryz.ntmps49 Tryz.results49 rfl (by decide) rfl (by kernel_rfl) ?_
  simp (maxSteps := 1000000) (disch := omega) only [push_cast, go_sem, wpS_tt, wpS_tf, wpS_ft, wpS_ff, wpCond_tt, wpCond_ff, simprocAttr]
  intro g2 g3
  refine callR.rd (l71Exec_rd bs hb g p (by omega)) rfl rfl rfl ?_
  rintro r o' ⟨x, y, rfl, hx1, hx2, hy, q, hq1, hq2, rfl⟩
  simp (maxSteps := 1000000) (disch := omega) only [push_cast, go_sem, wpS_tt, wpS_tf, wpS_ft, wpS_ff, wpCond_tt, wpCond_ff, simprocAttr, progV_eq, Exe.V_eq]
  intro g5 g6
  refine callR.rd (l71Kind_pl bs hb g q (by omega)) rfl rfl rfl ?_
  rintro r o' ⟨⟨kind, rfl⟩, q1, hq3, hq4, rfl⟩
  simp (maxSteps := 1000000) (disch := omega) only [push_cast, go_sem, wpS_tt, wpS_tf, wpS_ft, wpS_ff, wpCond_tt, wpCond_ff, simprocAttr]
  refine Sat.loop (σ := Nat × Prog × Exe × Nat) (fun s => upd (upd (upd (upd (upd (upd (upd noT 0 (.ptr 0 [] 0 0 g 2)) 2 (.ptr 2 [] 0 0 g2 1)) 3 (.ptr 3 [] 0 0 g3 2)) 5 (.ptr 5 [] 0 0 g5 1)) 6 (.ptr 6 [] 0 0 g6 2)) 7 (.int .i64 kind)) 8 (.int .i64 s.1))
    (fun s => ((((noM.set 0 (rdO bs g s.2.2.2)).set 2 (.own 25 (some g2) 1 [.agg [.own 0 none 0 []]])).set 3 (.own 29 (some g3) 1 [.agg [.own 0 none 0 [], .own 0 none 0 []]])).set 5 (.own 25 (some g5) 1 [.agg [.sl (s.2.1.map thrV)]])).set 6 (.own 29 (some g6) 1 [.agg [.sl (s.2.2.1.fr.map (V.int .i64)), .sl (s.2.2.1.od.map intsV)]]))
    (fun s => s.1 ≤ 8 ∧ s.2.1.length ≤ 3 ∧ (∀ l ∈ s.2.1, l.length < 2 ^ 11) ∧ s.2.2.1.few ∧ q1 ≤ s.2.2.2 ∧ s.2.2.2 ≤ q1 + s.1 * (2 ^ 22 + 1)) (fun s => 8 - s.1) (0, x, y, q1) ⟨by dsimp only; omega, hx1, hx2, hy, by dsimp only; omega, by dsimp only; omega⟩ ?_ ?_
  · (refine Less.start ?_; repeat (first | exact LessO.nil | exact LessO.all | refine LessO.skip (by decide) ?_ | refine LessO.upd ?_ ?_ | refine LessO.set ?_ ?_)) <;> (try simp (maxSteps := 1000000) (disch := omega) only [push_cast, go_sem, wpS_tt, wpS_tf, wpS_ft, wpS_ff, wpCond_tt, wpCond_ff, simprocAttr])
  rintro ⟨i, x, y, q2⟩ ⟨hi, hx1, hx2, hy, hq5, hq6⟩ J hJ
  simp only at hi hx1 hx2 hy hq5 hq6 hJ
  refine Sat.of (S := []) (by kernel_rfl) ?_
  have hys := few_small hy
  have hyf := hy.fr
  have hh := specOrderHolds_fn x y kind (by omega) hys
  rw [progV_eq, Exe.V_eq] at hh
  by_cases h8 : (i : Int) < 8
  · simp (maxSteps := 1000000) (disch := omega) only [push_cast, go_sem, wpS_tt, wpS_tf, wpS_ft, wpS_ff, wpCond_tt, wpCond_ff, simprocAttr, h8]
    refine callR.rd (pick_rd bs hb g q2 (by omega) 8 (by omega)) rfl rfl rfl ?_
    rintro r o' ⟨v, rfl, hv0, hv1, _, rfl⟩
    by_cases hv : (0 : Int) < v
    · simp (maxSteps := 1000000) (disch := omega) only [push_cast, go_sem, wpS_tt, wpS_tf, wpS_ft, wpS_ff, wpCond_tt, wpCond_ff, simprocAttr, hv]
      refine callR.pure hh rfl rfl ?_
      cases hho : holdsS x y kind
      · simp (maxSteps := 1000000) (disch := omega) only [push_cast, go_sem, wpS_tt, wpS_tf, wpS_ft, wpS_ff, wpCond_tt, wpCond_ff, simprocAttr]
        refine callR.rd (l71Exec_rd bs hb g (q2 + 1) (by omega)) rfl rfl rfl ?_
        rintro r o' ⟨x', y', rfl, hx1', hx2', hy', q3, hq7, hq8, rfl⟩
        simp (maxSteps := 1000000) (disch := omega) only [push_cast, go_sem, wpS_tt, wpS_tf, wpS_ft, wpS_ff, wpCond_tt, wpCond_ff, simprocAttr, progV_eq, Exe.V_eq]
        refine hJ (i + 1, x', y', q3) _ _ ⟨by dsimp only; omega, hx1', hx2', hy', by dsimp only; omega, by dsimp only; omega⟩ (by dsimp only; omega) ?_
        (refine Less.start ?_; repeat (first | exact LessO.nil | exact LessO.all | refine LessO.skip (by decide) ?_ | refine LessO.upd ?_ ?_ | refine LessO.set ?_ ?_)) <;> (try simp (maxSteps := 1000000) (disch := omega) only [push_cast, go_sem, wpS_tt, wpS_tf, wpS_ft, wpS_ff, wpCond_tt, wpCond_ff, simprocAttr])
      · simp (maxSteps := 1000000) (disch := omega) only [push_cast, go_sem, wpS_tt, wpS_tf, wpS_ft, wpS_ff, wpCond_tt, wpCond_ff, simprocAttr]
        refine Sat.drawnE [(0, 1), (1, 3)] [] [0, 1] (fun _ _ _ => none) (by kernel_rfl) (by kernel_rfl) ?_
        simp (maxSteps := 1000000) (disch := omega) only [push_cast, go_sem, wpS_tt, wpS_tf, wpS_ft, wpS_ff, wpCond_tt, wpCond_ff, simprocAttr]
        refine ⟨_, ?_, _, ⟨x, y, kind, rfl, hx1, hx2, hy, q2 + 1, by omega, by omega, rfl⟩, rfl⟩
        ((repeat (first | exact Sub.no | refine Sub.set ?_ ?_)) <;> (try simp (disch := omega) only [push_cast, go_sem, wpS_tt, wpS_tf, wpS_ft, wpS_ff, wpCond_tt, wpCond_ff, simprocAttr]))
    · simp (maxSteps := 1000000) (disch := omega) only [push_cast, go_sem, wpS_tt, wpS_tf, wpS_ft, wpS_ff, wpCond_tt, wpCond_ff, simprocAttr, hv]
      refine Sat.drawnE [(0, 1), (1, 3)] [] [0, 1] (fun _ _ _ => none) (by kernel_rfl) (by kernel_rfl) ?_
      simp (maxSteps := 1000000) (disch := omega) only [push_cast, go_sem, wpS_tt, wpS_tf, wpS_ft, wpS_ff, wpCond_tt, wpCond_ff, simprocAttr]
      refine ⟨_, ?_, _, ⟨x, y, kind, rfl, hx1, hx2, hy, q2 + 1, by omega, by omega, rfl⟩, rfl⟩
      ((repeat (first | exact Sub.no | refine Sub.set ?_ ?_)) <;> (try simp (disch := omega) only [push_cast, go_sem, wpS_tt, wpS_tf, wpS_ft, wpS_ff, wpCond_tt, wpCond_ff, simprocAttr]))
  · simp (maxSteps := 1000000) (disch := omega) only [push_cast, go_sem, wpS_tt, wpS_tf, wpS_ft, wpS_ff, wpCond_tt, wpCond_ff, simprocAttr, h8]
    refine Sat.drawnE [(0, 1), (1, 3)] [] [0, 1] (fun _ _ _ => none) (by kernel_rfl) (by kernel_rfl) ?_
    simp (maxSteps := 1000000) (disch := omega) only [push_cast, go_sem, wpS_tt, wpS_tf, wpS_ft, wpS_ff, wpCond_tt, wpCond_ff, simprocAttr]
    refine ⟨_, ?_, _, ⟨x, y, kind, rfl, hx1, hx2, hy, q2, by omega, by omega, rfl⟩, rfl⟩
    ((repeat (first | exact Sub.no | refine Sub.set ?_ ?_)) <;> (try simp (disch := omega) only [push_cast, go_sem, wpS_tt, wpS_tf, wpS_ft, wpS_ff, wpCond_tt, wpCond_ff, simprocAttr]))
theorem DrawOrderLine_fn (bs : List Int) (hb : Code8 bs) (hl : bs.length < 2 ^ 40) : Fc Tryz.prog 19 [codeV bs] noM (fun r m => DrawnH r ∧ m = noM) := by
  refine Fc.start (S := []) Tryz.func19 Tryz.ntmps19 Tryz.results19 rfl (by decide) rfl (by kernel_rfl) ?_
  simp (maxSteps := 1000000) (disch := omega) only [push_cast, go_sem, wpS_tt, wpS_tf, wpS_ft, wpS_ff, wpCond_tt, wpCond_ff, simprocAttr, codeV_eq]
  intro g2 g3
  refine callR.new (l6Open_fn bs hl) rfl rfl ?_
  rintro r ob ⟨g, rfl, rfl⟩
  simp (maxSteps := 1000000) (disch := omega) only [push_cast, go_sem, wpS_tt, wpS_tf, wpS_ft, wpS_ff, wpCond_tt, wpCond_ff, simprocAttr]
  refine callR.rd (l71Hold_rd (bs.take 2000) hb.take g 0 (by omega)) rfl rfl rfl ?_
  rintro r o' ⟨x, y, kind, rfl, hx1, hx2, hy, q, hq1, hq2, rfl⟩
  simp (maxSteps := 1000000) (disch := omega) only [push_cast, go_sem, wpS_tt, wpS_tf, wpS_ft, wpS_ff, wpCond_tt, wpCond_ff, simprocAttr, progV_eq, Exe.V_eq]
  exact ⟨x, y, kind, rfl, hx1, hx2, few_small hy⟩
theorem holds_le {p : Prog} {x : Exe} {kind : Int} (h : holdsS p x kind = true) : (events p).length ≤ 42 := by
  simp only [holdsS, Bool.and_eq_true] at h
  exact events_le (Way.of (by rw [ok_eq]; exact h.1.1)).ok
theorem intsV_nil : intsV [] = .sl [] := rfl
theorem lawOrderLineHolds_fn (bs : List Int) (hb : Code8 bs) : Fp Tryz.prog 7 [codeV bs] (.bool true) := by
  refine Fc.start (S := [6]) Tryz.func7 Tryz.ntmps7 Tryz.results7 rfl (by decide) rfl (by kernel_rfl) ?_
  by_cases h : (1048576 : Int) < bs.length
  · simp (maxSteps := 1000000) (disch := omega) only [push_cast, go_sem, wpS_tt, wpS_tf, wpS_ft, wpS_ff, wpCond_tt, wpCond_ff, simprocAttr, codeV_eq, h]
  simp (maxSteps := 1000000) (disch := omega) only [push_cast, go_sem, wpS_tt, wpS_tf, wpS_ft, wpS_ff, wpCond_tt, wpCond_ff, simprocAttr, codeV_eq, h]
  refine callR.ex (DrawOrderLine_fn bs hb (by omega)) rfl rfl ?_
  rintro r ⟨p, x, kind, rfl, hp, hl, hx⟩
  have hl' : ∀ l ∈ p, l.length < 2 ^ 40 := fun l h => by have := hl l h; omega
  have h1 := implOrderLine_fn p x kind (by omega) hl' hx
  have h2 := specOrderLine_fn p x kind (by omega) hx
  have h3 := implOrderHolds_fn p x kind (by omega) hl' hx
  cases hh : holdsS p x kind
  · have hn : lineS p x kind = none := by rw [lineS, hh]; rfl
    rw [hn] at h1 h2
    rw [hh] at h3
    have hi := lpInts_fn [] [] (by decide) (by decide)
    rw [show lineV none = .tuple [.nilsl, .bool false] from rfl] at h1
    rw [show lineW none = .tuple [.sl [], .bool false] from rfl] at h2
    rw [intsV_nil] at hi
    simp (maxSteps := 1000000) (disch := omega) only [push_cast, go_sem, wpS_tt, wpS_tf, wpS_ft, wpS_ff, wpCond_tt, wpCond_ff, simprocAttr, progV_eq, Exe.V_eq]
    intro g3 g4
    refine callR.pure h2 rfl rfl ?_
    simp (maxSteps := 1000000) (disch := omega) only [push_cast, go_sem, wpS_tt, wpS_tf, wpS_ft, wpS_ff, wpCond_tt, wpCond_ff, simprocAttr]
    refine callR.pure h1 rfl rfl ?_
    simp (maxSteps := 1000000) (disch := omega) only [push_cast, go_sem, wpS_tt, wpS_tf, wpS_ft, wpS_ff, wpCond_tt, wpCond_ff, simprocAttr]
    refine Sat.freezeT (upd (upd (upd (upd (upd (upd (upd noT 3 (.ptr 3 [] 0 0 g3 1)) 4 (.ptr 4 [] 0 0 g4 2)) 5 (.int .i64 kind)) 6 (.sl [])) 7 (.bool false)) 9 (.bool false)) 8 (.sl []))
      ((noM.set 3 (.own 25 (some g3) 1 [.agg [.sl (p.map thrV)]])).set 4 (.own 29 (some g4) 1 [.agg [.sl (x.fr.map (V.int .i64)), .sl (x.od.map intsV)]])) 8 (e := 0) (γ := none) (cap := 0) (es := []) rfl ?_ ?_
    · (refine Less.start ?_; repeat (first | exact LessO.nil | exact LessO.all | refine LessO.skip (by decide) ?_ | refine LessO.upd ?_ ?_ | refine LessO.set ?_ ?_)) <;> (try simp (maxSteps := 1000000) (disch := omega) only [push_cast, go_sem, wpS_tt, wpS_tf, wpS_ft, wpS_ff, wpCond_tt, wpCond_ff, simprocAttr])
    refine Sat.of (S := []) (by kernel_rfl) ?_
    simp (maxSteps := 1000000) (disch := omega) only [push_cast, go_sem, wpS_tt, wpS_tf, wpS_ft, wpS_ff, wpCond_tt, wpCond_ff, simprocAttr]
    refine callR.pure hi rfl rfl ?_
    simp (maxSteps := 1000000) (disch := omega) only [push_cast, go_sem, wpS_tt, wpS_tf, wpS_ft, wpS_ff, wpCond_tt, wpCond_ff, simprocAttr]
    refine callR.pure h3 rfl rfl ?_
    simp (maxSteps := 1000000) (disch := omega) only [push_cast, go_sem, wpS_tt, wpS_tf, wpS_ft, wpS_ff, wpCond_tt, wpCond_ff, simprocAttr]
  · obtain ⟨r, l, hr1, hr2, hll, hls⟩ := lineS_yes hh
    rw [hls] at h1 h2
    rw [hh] at h3
    rw [show lineV (some l) = .tuple [.sl ((intsN l).map (V.int .i64)), .bool true] from by rw [← natE_map]; rfl] at h1
    rw [lineW_some] at h2
    have hel := holds_le hh
    have hln : (intsN l).length < 2 ^ 40 := by rw [intsN_len, line_len hll]; omega
    have hi := lpInts_fn (intsN l) (intsN l) hln hln
    rw [intsV_eq] at hi
    have hdt : decide (intsN l = intsN l) = true := by simp
    rw [hdt] at hi
    simp (maxSteps := 1000000) (disch := omega) only [push_cast, go_sem, wpS_tt, wpS_tf, wpS_ft, wpS_ff, wpCond_tt, wpCond_ff, simprocAttr, progV_eq, Exe.V_eq]
    intro g3 g4
    refine callR.pure h2 rfl rfl ?_
    simp (maxSteps := 1000000) (disch := omega) only [push_cast, go_sem, wpS_tt, wpS_tf, wpS_ft, wpS_ff, wpCond_tt, wpCond_ff, simprocAttr]
    refine callR.pure h1 rfl rfl ?_
    simp (maxSteps := 1000000) (disch := omega) only [push_cast, go_sem, wpS_tt, wpS_tf, wpS_ft, wpS_ff, wpCond_tt, wpCond_ff, simprocAttr]
    refine Sat.of (S := []) (by kernel_rfl) ?_
    simp (maxSteps := 1000000) (disch := omega) only [push_cast, go_sem, wpS_tt, wpS_tf, wpS_ft, wpS_ff, wpCond_tt, wpCond_ff, simprocAttr]
    refine callR.pure hi rfl rfl ?_
    simp (maxSteps := 1000000) (disch := omega) only [push_cast, go_sem, wpS_tt, wpS_tf, wpS_ft, wpS_ff, wpCond_tt, wpCond_ff, simprocAttr]
    refine callR.pure h3 rfl rfl ?_
    simp (maxSteps := 1000000) (disch := omega) only [push_cast, go_sem, wpS_tt, wpS_tf, wpS_ft, wpS_ff, wpCond_tt, wpCond_ff, simprocAttr]
end Go.Proofs.YtfdbminedccccaaGreatDoor
/-! ## Rings of an order, in plain words: each must be ahead of the next; where there is one it does not hold; where nobody waits it holds where there is none -/
namespace Go.Proofs.YtfdbminedccccaaGreatDoor
open Go.RowKit
set_option linter.unusedSimpArgs false
set_option linter.unusedVariables false

theorem netR_zero {p : Prog} {x : Exe} {a b : Nat} (h : netR p x 0 a b = true) : netR p x 1 a b = true := by
  have e1 : staysS p 1 a b = ownB (events p) a b := rfl
  have e3 : toldS p x 0 a b = toldS p x 1 a b := rfl
  rw [netR, Bool.or_eq_true] at h ⊢
  rw [e1, ← e3]
  rcases h with h | h
  · simp only [staysS] at h
    simp at h
    exact .inl (by simp [h])
  · exact .inr h
theorem netR_self (p : Prog) (x : Exe) (kind : Int) (a : Nat) : netR p x kind a a = false := by
  have h0 : ownB (events p) a a = false := by simp [ownB]
  have h1 : staysS p kind a a = false := by
    simp only [staysS, looseS, h0, Bool.false_and]
    split
    · rfl
    · split
      · rfl
      · split <;> simp
  have h2 : readS p x a a = false := by
    rw [readS]
    cases hw : (dsA p a).writes
    · rfl
    · rw [writes_noreads hw]; rfl
  have h3 : overS p x a a = false := by simp [overS]
  have h4 : toldS p x kind a a = false := by
    simp only [toldS, h2, h3, Bool.and_false, Bool.or_false]
    split
    · rfl
    · split <;> rfl
  rw [netR, h1, h4]; rfl
/-- The ring that is told. -/
def ringO (p : Prog) (x : Exe) (kind : Int) : Option (List Nat) := if specOk p x && inB kind 1 3 then ringA (netR p x kind) (events p).length else none
theorem hasS_net {p : Prog} {x : Exe} {kind : Int} {a b : Nat} (hok : specOk p x = true) (hk : inB kind 1 3 = true) (ha : a < (events p).length) (hb : b < (events p).length) (h : netR p x kind a b = true) : hasS p x kind a b = true := by
  have h1 : inB (a : Int) 0 ((events p).length - 1) = true := by simp only [inB, Bool.and_eq_true, decide_eq_true_eq]; omega
  have h2 : inB (b : Int) 0 ((events p).length - 1) = true := by simp only [inB, Bool.and_eq_true, decide_eq_true_eq]; omega
  rw [netR] at h
  rw [hasS, hok, hk, h1, h2]
  simpa using h
theorem next_at {l : List Nat} {lo i : Nat} (hi : i < (lo :: l).length) : (l ++ [lo])[i]? = (lo :: l)[(i + 1) % (lo :: l).length]? := by
  rw [List.length_cons] at hi ⊢
  rcases Nat.lt_or_ge i l.length with h | h
  · rw [Nat.mod_eq_of_lt (by omega), List.getElem?_append_left h, List.getElem?_cons_succ]
  · have : i = l.length := by omega
    subst this
    simp
theorem ringO_has {p : Prog} {x : Exe} {kind : Int} {r : List Nat} (h : ringO p x kind = some r) : 2 ≤ r.length ∧ r.length ≤ (events p).length ∧ (∀ y ∈ r, y < (events p).length) ∧
    ∀ i, i < r.length → ∃ a b, r[i]? = some a ∧ r[(i + 1) % r.length]? = some b ∧ hasS p x kind a b = true := by
  rw [ringO] at h
  cases hc : specOk p x && inB kind 1 3
  · rw [hc] at h; cases h
  rw [hc, if_pos rfl] at h
  rw [Bool.and_eq_true] at hc
  obtain ⟨lo, l, rfl, h1, h2, h3, h4⟩ := ringA_ch h
  have hall : ∀ y ∈ lo :: l, y < (events p).length := fun y hy => by
    rcases List.mem_cons.1 hy with rfl | hy
    · exact h1
    · exact h4 y hy
  refine ⟨?_, by rw [List.length_cons]; omega, hall, fun i hi => ?_⟩
  · cases l with
    | nil =>
      have := netR_self p x kind lo
      rw [show netR p x kind lo lo = true from h3] at this; cases this
    | cons y l => simp
  · obtain ⟨a, ha⟩ : ∃ a, (lo :: l)[i]? = some a := ⟨_, List.getElem?_eq_getElem hi⟩
    have hm : (i + 1) % (lo :: l).length < (lo :: l).length := Nat.mod_lt _ (by omega)
    obtain ⟨b, hb⟩ : ∃ b, (lo :: l)[(i + 1) % (lo :: l).length]? = some b := ⟨_, List.getElem?_eq_getElem hm⟩
    exact ⟨a, b, ha, hb, hasS_net hc.1 hc.2 (hall a (List.mem_of_getElem? ha)) (hall b (List.mem_of_getElem? hb)) (ch_get h3 i a b ha (by rw [next_at hi]; exact hb))⟩
theorem settle_line0 {n : Nat} {out : Nat → Nat} {l : List (Nat × Nat)} {R : Nat → Nat → Bool} (h : (settleR n out l R).isSome = true) : (lineE R n).isSome = true := by
  cases l with
  | nil =>
    rw [settleR] at h
    cases hl : (lineE R n).isSome
    · rw [hl] at h; cases h
    · rfl
  | cons q l =>
    obtain ⟨e, i⟩ := q
    rw [settleR] at h
    cases hl : (lineE R n).isSome
    · rw [hl] at h; cases h
    · rfl
theorem ringO_holds {p : Prog} {x : Exe} {kind : Int} (h : (ringO p x kind).isSome = true) : holdsS p x kind = false := by
  rw [Bool.eq_false_iff]
  intro hh
  simp only [holdsS, Bool.and_eq_true] at hh
  rw [ringO, hh.1.1, hh.1.2] at h
  simp only [Bool.and_self, if_true] at h
  rw [ringA_line] at h
  have hs := hh.2
  rw [settledS] at hs
  cases hl : (lineE (netR p x 0) (events p).length).isSome
  · rw [hl] at hs; cases hs
  · rw [hl] at hs
    rw [settle_line0 hs] at h
    cases h
/-- Somebody waits. -/
def waitsB (p : Prog) : Bool := p.any fun l => l.any fun d => d.k == 9
theorem ch_none {p : Prog} (h : waitsB p = false) : ∀ {w : Nat}, w ≤ (events p).length → chRef p w = []
  | 0, _ => rfl
  | w + 1, hw => by
    rw [chRef, ch_none h (by omega)]
    have : (kd (scene p).ds w == 9) = false := by
      rw [Bool.eq_false_iff]
      intro h9
      rw [beq_iff_eq] at h9
      obtain ⟨i, l, j, d, ha⟩ := At.of (List.getElem?_eq_getElem (show w < (events p).length by omega))
      rw [ha.kd] at h9
      have : waitsB p = true := by
        rw [waitsB, List.any_eq_true]
        refine ⟨l, List.mem_of_getElem? ha.pl, ?_⟩
        rw [List.any_eq_true]
        exact ⟨d, List.mem_of_getElem? ha.ld, by simp [h9]⟩
      rw [h] at this; cases this
    rw [this]; rfl
theorem ringO_none {p : Prog} {x : Exe} (hok : specOk p x = true) (hw : waitsB p = false) : holdsS p x 1 = !(ringO p x 1).isSome := by
  rw [ringO, holdsS, hok, show inB 1 1 3 = true from rfl]
  simp only [Bool.and_self, if_true, Bool.true_and]
  rw [ringA_line, Bool.not_not, settledS, ch_none hw (Nat.le_refl _), settleR]
  cases hl : (lineE (netR p x 1) (events p).length).isSome
  · simp
  · rw [line_less (fun a b _ _ h => netR_zero h) hl]; rfl
theorem ringO_bad {p : Prog} {x : Exe} {kind : Int} (h : (specOk p x && inB kind 1 3) = false) : ringO p x kind = none ∧ holdsS p x kind = false := by
  rw [ringO, holdsS, h]; exact ⟨rfl, rfl⟩
end Go.Proofs.YtfdbminedccccaaGreatDoor
/-! ## OrderRing, by the program -/
namespace Go.Proofs.YtfdbminedccccaaGreatDoor
open Go.RowKit
set_option linter.unusedSimpArgs false
set_option linter.unusedVariables false
set_option pp.maxSteps 3000

theorem set3_fn (p : Prog) (x : Exe) (kind : Int) (a b : Nat) (hw : Way p x) (hx : x.small) (hk : inB kind 1 3 = true) (hal : a < (events p).length) (hbl : b < (events p).length) :
    Fp Tryz.prog 43 [.int .i64 a, .int .i64 b, .eptr (scC (scene p)), .eptr (exC x), .eptr [.int .i64 kind]] (.bool (netR p x kind a b)) := by
  have h := has_way p x kind a b hw hx hk hal hbl
  rw [Sc.V_eq, Exe.V_eq] at h
  refine Fc.start (S := []) Tryz.func43 Tryz.ntmps43 Tryz.results43 rfl (by decide) rfl (by kernel_rfl) ?_
  simp (maxSteps := 1000000) (disch := omega) only [push_cast, go_sem, wpS_tt, wpS_tf, wpS_ft, wpS_ff, wpCond_tt, wpCond_ff, simprocAttr, scC_eq, exC_eq]
  refine callR.pure h rfl rfl ?_
  simp (maxSteps := 1000000) (disch := omega) only [push_cast, go_sem, wpS_tt, wpS_tf, wpS_ft, wpS_ff, wpCond_tt, wpCond_ff, simprocAttr]
theorem fs_none {f : Nat → Option (List Nat)} {n : Nat} (h : ∀ j, j < n → f j = none) : (List.range n).findSome? f = none := List.findSome?_eq_none_iff.2 fun j hj => h j (List.mem_range.1 hj)
theorem fs_at {f : Nat → Option (List Nat)} {r : List Nat} : ∀ {n s : Nat}, s < n → (∀ j, j < s → f j = none) → f s = some r → (List.range n).findSome? f = some r
  | 0, s, hs, _, _ => absurd hs (by omega)
  | n + 1, s, hs, hno, h => by
    rw [List.range_succ, List.findSome?_append]
    rcases Nat.lt_or_ge s n with h1 | h1
    · rw [fs_at h1 hno h]; rfl
    · have : s = n := by omega
      subst this
      rw [fs_none hno]; simp [h]
/-- The first ring of a length. -/
def ringL (R : Nat → Nat → Bool) (n s : Nat) : Option (List Nat) := (List.range n).findSome? fun a => ringS R n a (s + 1)
theorem ringA_eq (R : Nat → Nat → Bool) (n : Nat) : ringA R n = (List.range n).findSome? (ringL R n) := rfl
theorem implOrderRing_fn (p : Prog) (x : Exe) (kind : Int) (hp : p.length < 2 ^ 40) (hl : ∀ l ∈ p, l.length < 2 ^ 40) (hx : x.small) : Fp Tryz.prog 14 [progV p, x.V, .int .i64 kind] (lineV (ringO p x kind)) := by
  have h1 := implExecOk_fn p x hp hl hx
  rw [ok_eq] at h1
  rw [ringO]
  refine Fp.nilT ?_
  refine Fc.start (S := [4]) Tryz.func14 Tryz.ntmps14 Tryz.results14 rfl (by decide) rfl (by kernel_rfl) ?_
  simp (maxSteps := 1000000) (disch := omega) only [push_cast, go_sem, wpS_tt, wpS_tf, wpS_ft, wpS_ff, wpCond_tt, wpCond_ff, simprocAttr, progV_eq, Exe.V_eq]
  intro g3 g4 g5
  refine callR.pure h1 rfl rfl ?_
  cases hok : specOk p x
  · simp (maxSteps := 1000000) (disch := omega) only [push_cast, go_sem, wpS_tt, wpS_tf, wpS_ft, wpS_ff, wpCond_tt, wpCond_ff, simprocAttr]
    exact .inr ⟨6, [], .bool false, rfl, rfl⟩
  have hw : Way p x := Way.of (by rw [ok_eq]; exact hok)
  have hpk := hw.ok
  have hel := events_le hpk
  simp (maxSteps := 1000000) (disch := omega) only [push_cast, go_sem, wpS_tt, wpS_tf, wpS_ft, wpS_ff, wpCond_tt, wpCond_ff, simprocAttr]
  refine callR.pure (isOrd_fn kind) rfl rfl ?_
  cases hk : inB kind 1 3
  · simp (maxSteps := 1000000) (disch := omega) only [push_cast, go_sem, wpS_tt, wpS_tf, wpS_ft, wpS_ff, wpCond_tt, wpCond_ff, simprocAttr]
    exact .inr ⟨6, [], .bool false, rfl, rfl⟩
  have hsc := sceneOf_fn p hpk
  have hes : (scene p).es = events p := rfl
  obtain ⟨n, hnn⟩ : ∃ n, (events p).length = n := ⟨_, rfl⟩
  have hg := graphOf_fn (scene p) (by rw [hes]; omega) 43 [.eptr (scC (scene p)), .eptr (exC x), .eptr [.int .i64 kind]] (netR p x kind) rfl (Nat.le_of_ble_eq_true rfl) (fun a b ha hb => set3_fn p x kind a b hw hx hk ha hb)
  rw [hes, Sc.V_eq, scC_eq, exC_eq, bitsV_eq] at hg
  rw [Sc.V_eq] at hsc
  rw [hnn] at hel hg ⊢
  generalize hR : netR p x kind = R at hg ⊢
  have hring := fun a s ha h1 h2 => ring_fn R n a s (by omega) ha h1 h2
  rw [bitsV_eq] at hring
  have hgl := graphL_len R n
  simp (maxSteps := 1000000) (disch := omega) only [push_cast, go_sem, wpS_tt, wpS_tf, wpS_ft, wpS_ff, wpCond_tt, wpCond_ff, simprocAttr]
  refine callR.pure hsc rfl rfl ?_
  simp (maxSteps := 1000000) (disch := omega) only [push_cast, go_sem, wpS_tt, wpS_tf, wpS_ft, wpS_ff, wpCond_tt, wpCond_ff, simprocAttr]
  intro g8
  refine Sat.fixP (o := 8) (g := g8) (e := 57) (cap := 1) (es := [.agg [.sl ((scene p).p.map thrV), .sl ((scene p).es.map Evt.V), .sl ((scene p).ds.map Do.V)]]) (T := upd (upd (upd noT 8 (.eptr [.sl ((scene p).p.map thrV), .sl ((scene p).es.map Evt.V), .sl ((scene p).ds.map Do.V)])) 4 (.ptr 4 [] 0 0 g4 2)) 5 (.ptr 5 [] 0 0 g5 1)) rfl ?_ ?_
  · exact Fx.upd (Fx.upd (Fx.ptr Fx.nil rfl rfl (by kernel_rfl) rfl) rfl) rfl
  refine Sat.fixP (o := 4) (g := g4) (e := 29) (cap := 1) (es := [.agg [.sl (x.fr.map (V.int .i64)), .sl (x.od.map intsV)]]) (T := upd (upd (upd noT 8 (.eptr [.sl ((scene p).p.map thrV), .sl ((scene p).es.map Evt.V), .sl ((scene p).ds.map Do.V)])) 4 (.eptr [.sl (x.fr.map (V.int .i64)), .sl (x.od.map intsV)])) 5 (.ptr 5 [] 0 0 g5 1)) rfl ?_ ?_
  · exact Fx.upd (Fx.ptr (Fx.upd Fx.nil rfl) rfl rfl (by kernel_rfl) rfl) rfl
  refine Sat.fixP (o := 5) (g := g5) (e := 3) (cap := 1) (es := [.int .i64 kind]) (T := upd (upd (upd noT 8 (.eptr [.sl ((scene p).p.map thrV), .sl ((scene p).es.map Evt.V), .sl ((scene p).ds.map Do.V)])) 4 (.eptr [.sl (x.fr.map (V.int .i64)), .sl (x.od.map intsV)])) 5 (.eptr [.int .i64 kind])) rfl ?_ ?_
  · exact Fx.ptr (Fx.upd (Fx.upd Fx.nil rfl) rfl) rfl rfl (by kernel_rfl) rfl
  refine Sat.of (S := []) (by kernel_rfl) ?_
  simp (maxSteps := 1000000) (disch := omega) only [push_cast, go_sem, wpS_tt, wpS_tf, wpS_ft, wpS_ff, wpCond_tt, wpCond_ff, simprocAttr]
  refine callR.pure hg rfl rfl ?_
  simp (maxSteps := 1000000) (disch := omega) only [push_cast, go_sem, wpS_tt, wpS_tf, wpS_ft, wpS_ff, wpCond_tt, wpCond_ff, simprocAttr]
  refine Sat.loop (σ := Nat) (fun s => upd (upd noT 9 (.sl ((graphL R n).map bitE))) 10 (.int .i64 (s + 1))) (fun _ => noM)
    (fun s => s ≤ n ∧ ∀ j, j < s → ringL R n j = none) (fun s => n - s) 0 ⟨by omega, fun j hj => absurd hj (by omega)⟩ ?_ ?_
  · (refine Less.start ?_; repeat (first | exact LessO.nil | exact LessO.all | refine LessO.skip (by decide) ?_ | refine LessO.upd ?_ ?_ | refine LessO.set ?_ ?_)) <;> (try simp (maxSteps := 1000000) (disch := omega) only [push_cast, go_sem, wpS_tt, wpS_tf, wpS_ft, wpS_ff, wpCond_tt, wpCond_ff, simprocAttr])
  rintro s ⟨hs, hno⟩ J hJ
  refine Sat.of (S := []) (by kernel_rfl) ?_
  rcases Nat.lt_or_ge s n with hlt | hge
  · have hsn : (s : Int) + 1 ≤ n := by omega
    simp (maxSteps := 1000000) (disch := omega) only [push_cast, go_sem, wpS_tt, wpS_tf, wpS_ft, wpS_ff, wpCond_tt, wpCond_ff, simprocAttr, hgl, hsn]
    refine Sat.loop (σ := Nat) (fun a => upd (upd (upd (upd noT 9 (.sl ((graphL R n).map bitE))) 10 (.int .i64 (s + 1))) 35 (.int .i64 n)) 36 (.int .i64 a)) (fun _ => noM)
      (fun a => a ≤ n ∧ ∀ j, j < a → ringS R n j (s + 1) = none) (fun a => n - a) 0 ⟨by omega, fun j hj => absurd hj (by omega)⟩ ?_ ?_
    · (refine Less.start ?_; repeat (first | exact LessO.nil | exact LessO.all | refine LessO.skip (by decide) ?_ | refine LessO.upd ?_ ?_ | refine LessO.set ?_ ?_)) <;> (try simp (maxSteps := 1000000) (disch := omega) only [push_cast, go_sem, wpS_tt, wpS_tf, wpS_ft, wpS_ff, wpCond_tt, wpCond_ff, simprocAttr])
    rintro a ⟨ha, hna⟩ J2 hJ2
    refine Sat.of (S := []) (by kernel_rfl) ?_
    rcases Nat.lt_or_ge a n with hlt2 | hge2
    · have hr := hring a (s + 1) hlt2 (by omega) (by omega)
      rw [show ((s + 1 : Nat) : Int) = (s : Int) + 1 by omega] at hr
      cases hrr : ringS R n a (s + 1) with
      | none =>
        rw [hrr, no_line] at hr
        simp (maxSteps := 1000000) (disch := omega) only [push_cast, go_sem, wpS_tt, wpS_tf, wpS_ft, wpS_ff, wpCond_tt, wpCond_ff, simprocAttr, hlt2]
        refine callR.pure hr rfl rfl ?_
        simp (maxSteps := 1000000) (disch := omega) only [push_cast, go_sem, wpS_tt, wpS_tf, wpS_ft, wpS_ff, wpCond_tt, wpCond_ff, simprocAttr]
        refine hJ2 (a + 1) _ _ ⟨by omega, fun j hj => ?_⟩ (by omega) ?_
        · rcases Nat.lt_or_ge j a with h | h
          · exact hna j h
          · have : j = a := by omega
            subst this; exact hrr
        · (refine Less.start ?_; repeat (first | exact LessO.nil | exact LessO.all | refine LessO.skip (by decide) ?_ | refine LessO.upd ?_ ?_ | refine LessO.set ?_ ?_)) <;> (try simp (maxSteps := 1000000) (disch := omega) only [push_cast, go_sem, wpS_tt, wpS_tf, wpS_ft, wpS_ff, wpCond_tt, wpCond_ff, simprocAttr])
      | some r =>
        rw [hrr, ok_line] at hr
        simp (maxSteps := 1000000) (disch := omega) only [push_cast, go_sem, wpS_tt, wpS_tf, wpS_ft, wpS_ff, wpCond_tt, wpCond_ff, simprocAttr, hlt2]
        refine callR.pure hr rfl rfl ?_
        simp (maxSteps := 1000000) (disch := omega) only [push_cast, go_sem, wpS_tt, wpS_tf, wpS_ft, wpS_ff, wpCond_tt, wpCond_ff, simprocAttr]
        left
        rw [ringA_eq, fs_at hlt hno (fs_at hlt2 hna hrr)]; rfl
    · have : a = n := by omega
      subst this
      simp (maxSteps := 1000000) (disch := omega) only [push_cast, go_sem, wpS_tt, wpS_tf, wpS_ft, wpS_ff, wpCond_tt, wpCond_ff, simprocAttr]
      refine hJ (s + 1) _ _ ⟨by omega, fun j hj => ?_⟩ (by omega) ?_
      · rcases Nat.lt_or_ge j s with h | h
        · exact hno j h
        · have : j = s := by omega
          subst this; exact fs_none hna
      · (refine Less.start ?_; repeat (first | exact LessO.nil | exact LessO.all | refine LessO.skip (by decide) ?_ | refine LessO.upd ?_ ?_ | refine LessO.set ?_ ?_)) <;> (try simp (maxSteps := 1000000) (disch := omega) only [push_cast, go_sem, wpS_tt, wpS_tf, wpS_ft, wpS_ff, wpCond_tt, wpCond_ff, simprocAttr])
  · have : s = n := by omega
    subst this
    have hsn : ¬ ((s : Int) + 1 ≤ s) := by omega
    simp (maxSteps := 1000000) (disch := omega) only [push_cast, go_sem, wpS_tt, wpS_tf, wpS_ft, wpS_ff, wpCond_tt, wpCond_ff, simprocAttr, hgl, hsn]
    right
    refine ⟨6, [], .bool false, rfl, ?_⟩
    rw [ringA_eq, fs_none hno]; rfl
end Go.Proofs.YtfdbminedccccaaGreatDoor
/-! ## The reference: the first row of events that goes on from some to the first -/
namespace Go.Proofs.YtfdbminedccccaaGreatDoor
open Go.RowKit
set_option linter.unusedSimpArgs false
set_option linter.unusedVariables false
set_option pp.maxSteps 3000

theorem SatW.freezeT {P : Program} {N : Nat} {ops : Array Oper} {M : Mem} {t : Nat → V} {K : (Nat → V) → Mem → Prop} {l : List Oper} (T : Nat → V) (Mm : Mem) {e : TypeId} {γ : Option Nat} {cap : Nat} {es : List V} (o : Nat) (ho : M o = some (.own e γ cap es)) (hl : Less T (frT o γ cap es t) Mm (M.era o)) (h : SatW P N ops l T Mm K) : SatW P N ops l t M K := by
  intro imm0 w0 M0 imm a w hr
  obtain ⟨imm', hr'⟩ := hr.freeze ho
  exact h _ _ _ _ _ _ (hr'.less hl)
def rowE (l : List Nat) : V := .sl ((intsN l).map (V.int .i64))
theorem rowE_eq (l : List Nat) : rowE l = .sl ((intsN l).map (V.int .i64)) := rfl
def onV (row : List Nat) : Option (List Nat) → V
  | some r => .tuple [rowE r, .bool true]
  | none => .tuple [rowE row, .bool false]
theorem onV_some (row r : List Nat) : onV row (some r) = .tuple [.sl ((intsN r).map (V.int .i64)), .bool true] := rfl
theorem onV_none (row : List Nat) : onV row none = .tuple [.sl ((intsN row).map (V.int .i64)), .bool false] := rfl
theorem l14On_fn (R : Nat → Nat → Bool) (n : Nat) (hn : n ≤ 60) : ∀ (k m a lo size : Nat) (row : List Nat), row.length = m + 1 → row[m]? = some a → row[0]? = some lo → a < n → lo < n → m + 1 + k = size → size ≤ n →
    Fp Tryz.prog 41 [netE (netL R n), rowE row, .int .i64 size] (onV row (onS R n lo k a row)) := by
  intro k
  induction k with
  | zero =>
    intro m a lo size row hl ha h0 han hlo hk hsn
    have hNl := netL_len R n
    have hil := intsN_len row
    have ha' : (intsN row)[m]? = some (a : Int) := by rw [intsN, List.getElem?_map, ha]; rfl
    have h0' : (intsN row)[0]? = some (lo : Int) := by rw [intsN, List.getElem?_map, h0]; rfl
    have hna := netL_get (R := R) han
    have hnb : (List.range n)[lo]? = some lo := List.getElem?_range hlo
    have hmm : m < m + 1 := by omega
    have h0m : 0 < m + 1 := by omega
    have hmi : (m : Int) < (m : Int) + 1 := by omega
    have h0i : (0 : Int) < (m : Int) + 1 := by omega
    have hsz : ((m : Int) + 1 == (size : Int)) = true := by simp; omega
    rw [onS, rowE_eq]
    refine Fc.start (S := []) Tryz.func41 Tryz.ntmps41 Tryz.results41 rfl (by decide) rfl (by kernel_rfl) ?_
    simp (maxSteps := 1000000) (disch := omega) only [push_cast, go_sem, wpS_tt, wpS_tf, wpS_ft, wpS_ff, wpCond_tt, wpCond_ff, simprocAttr, netE_eq, hil, hl, ha', hmm, hmi, hsz]
    refine Sat.drawnE [] [] (List.range 15) (fun _ _ _ => none) (by kernel_rfl) (by kernel_rfl) ?_
    simp (maxSteps := 1000000) (disch := omega) only [push_cast, go_sem, wpS_tt, wpS_tf, wpS_ft, wpS_ff, wpCond_tt, wpCond_ff, simprocAttr, hNl, hna, han, hil, hl, h0', hnb, h0m, h0i, hlo, boolsV_eq, List.length_range]
    cases R a lo <;> rfl
  | succ k ih =>
    intro m a lo size row hl ha h0 han hlo hk hsn
    have hNl := netL_len R n
    have hil := intsN_len row
    have ha' : (intsN row)[m]? = some (a : Int) := by rw [intsN, List.getElem?_map, ha]; rfl
    have h0' : (intsN row)[0]? = some (lo : Int) := by rw [intsN, List.getElem?_map, h0]; rfl
    have hna := netL_get (R := R) han
    have hmm : m < m + 1 := by omega
    have h0m : 0 < m + 1 := by omega
    have hmi : (m : Int) < (m : Int) + 1 := by omega
    have h0i : (0 : Int) < (m : Int) + 1 := by omega
    have hsz : ((m : Int) + 1 == (size : Int)) = false := by rw [beq_eq_false_iff_ne]; omega
    have hhas := fun b : Nat => l12Has_fn (intsN row) b (by rw [hil]; omega)
    obtain ⟨F, hF⟩ : ∃ F : Nat → Option (List Nat), (fun b => if decide (lo < b) && (R a b && !row.contains b) then onS R n lo k b (row ++ [b]) else none) = F := ⟨_, rfl⟩
    rw [onS, hF, rowE_eq]
    refine Fc.start (S := [8]) Tryz.func41 Tryz.ntmps41 Tryz.results41 rfl (by decide) rfl (by kernel_rfl) ?_
    simp (maxSteps := 1000000) (disch := omega) only [push_cast, go_sem, wpS_tt, wpS_tf, wpS_ft, wpS_ff, wpCond_tt, wpCond_ff, simprocAttr, netE_eq, hil, hl, ha', hmm, hmi, hsz, h0', h0m, h0i]
    refine Sat.loop (σ := Nat) (fun b => upd (upd (upd (upd (upd noT 0 (.eptr [.sl ((netL R n).map boolsV)])) 1 (.sl ((intsN row).map (V.int .i64)))) 2 (.int .i64 size)) 8 (.int .i64 a)) 9 (.int .i64 b)) (fun _ => noM)
      (fun b => lo < b ∧ b ≤ n ∧ ∀ j, j < b → F j = none) (fun b => n - b) (lo + 1) ⟨by omega, by omega, fun j hj => ?_⟩ ?_ ?_
    · have : ¬ lo < j := by omega
      rw [← hF]; simp [this]
    · (refine Less.start ?_; repeat (first | exact LessO.nil | exact LessO.all | refine LessO.skip (by decide) ?_ | refine LessO.upd ?_ ?_ | refine LessO.set ?_ ?_)) <;> (try simp (maxSteps := 1000000) (disch := omega) only [push_cast, go_sem, wpS_tt, wpS_tf, wpS_ft, wpS_ff, wpCond_tt, wpCond_ff, simprocAttr])
    rintro b ⟨hlb, hbn, hno⟩ J hJ
    refine Sat.of (S := [8]) (by kernel_rfl) ?_
    rcases Nat.lt_or_ge b n with hlt | hge
    · have hnb : (List.range n)[b]? = some b := List.getElem?_range hlt
      have hFb : F b = if R a b && !row.contains b then onS R n lo k b (row ++ [b]) else none := by rw [← hF]; simp [hlb]
      have next : F b = none → ∀ j, j < b + 1 → F j = none := fun h j hj => by
        rcases Nat.lt_or_ge j b with h1 | h1
        · exact hno j h1
        · have : j = b := by omega
          subst this; exact h
      simp (maxSteps := 1000000) (disch := omega) only [push_cast, go_sem, wpS_tt, wpS_tf, wpS_ft, wpS_ff, wpCond_tt, wpCond_ff, simprocAttr, hNl, hlt, hna, han, hnb, boolsV_eq, List.length_range]
      cases hR : R a b
      · simp (maxSteps := 1000000) (disch := omega) only [push_cast, go_sem, wpS_tt, wpS_tf, wpS_ft, wpS_ff, wpCond_tt, wpCond_ff, simprocAttr]
        refine hJ (b + 1) _ _ ⟨by omega, by omega, next (by rw [hFb, hR]; rfl)⟩ (by omega) ?_
        (refine Less.start ?_; repeat (first | exact LessO.nil | exact LessO.all | refine LessO.skip (by decide) ?_ | refine LessO.upd ?_ ?_ | refine LessO.set ?_ ?_)) <;> (try simp (maxSteps := 1000000) (disch := omega) only [push_cast, go_sem, wpS_tt, wpS_tf, wpS_ft, wpS_ff, wpCond_tt, wpCond_ff, simprocAttr])
      simp (maxSteps := 1000000) (disch := omega) only [push_cast, go_sem, wpS_tt, wpS_tf, wpS_ft, wpS_ff, wpCond_tt, wpCond_ff, simprocAttr]
      have hh := hhas b
      rw [intsN_has, intsV_eq] at hh
      refine callR.pure hh rfl rfl ?_
      cases hc : row.contains b
      rotate_left
      · simp (maxSteps := 1000000) (disch := omega) only [push_cast, go_sem, wpS_tt, wpS_tf, wpS_ft, wpS_ff, wpCond_tt, wpCond_ff, simprocAttr]
        refine hJ (b + 1) _ _ ⟨by omega, by omega, next (by rw [hFb, hR, hc]; rfl)⟩ (by omega) ?_
        (refine Less.start ?_; repeat (first | exact LessO.nil | exact LessO.all | refine LessO.skip (by decide) ?_ | refine LessO.upd ?_ ?_ | refine LessO.set ?_ ?_)) <;> (try simp (maxSteps := 1000000) (disch := omega) only [push_cast, go_sem, wpS_tt, wpS_tf, wpS_ft, wpS_ff, wpCond_tt, wpCond_ff, simprocAttr])
      simp (maxSteps := 1000000) (disch := omega) only [push_cast, go_sem, wpS_tt, wpS_tf, wpS_ft, wpS_ff, wpCond_tt, wpCond_ff, simprocAttr]
      refine Sat.cutW 7 (σ := Option Nat × Nat) (fun x => upd (upd (upd (upd (upd (upd (upd noT 0 (.eptr [.sl ((netL R n).map boolsV)])) 1 (.sl ((intsN row).map (V.int .i64)))) 2 (.int .i64 size)) 8 (.int .i64 a)) 9 (.int .i64 b)) 65 (.eptr [.sl ((netL R n).map boolsV)])) 71 (.msl 71 [] x.1 (m + 2) x.2))
        (fun x => noM.set 71 (.own 3 x.1 x.2 ((intsN (row ++ [b])).map (V.int .i64)))) (fun x => x.1 = x.1) (by kernel_rfl) ?_ ?_
      · simp (maxSteps := 1000000) (disch := omega) only [push_cast, go_sem, wpS_tt, wpS_tf, wpS_ft, wpS_ff, wpCond_tt, wpCond_ff, simprocAttr, hil, hl]
        intro g66
        refine ⟨by omega, fun γ1 c1 _ => ?_⟩
        intro g70
        refine ⟨by omega, fun γ2 c2 _ => ?_⟩
        refine ⟨(γ2, c2), ?_⟩
        (refine Less.start ?_; repeat (first | exact LessO.nil | exact LessO.all | refine LessO.skip (by decide) ?_ | refine LessO.upd ?_ ?_ | refine LessO.set ?_ ?_)) <;> (try simp (maxSteps := 1000000) (disch := omega) only [push_cast, go_sem, wpS_tt, wpS_tf, wpS_ft, wpS_ff, wpCond_tt, wpCond_ff, simprocAttr])
        all_goals simp [intsN]
      rintro ⟨γ, c⟩ -
      refine SatW.freezeT (upd (upd (upd (upd (upd (upd (upd noT 0 (.eptr [.sl ((netL R n).map boolsV)])) 1 (.sl ((intsN row).map (V.int .i64)))) 2 (.int .i64 size)) 8 (.int .i64 a)) 9 (.int .i64 b)) 65 (.eptr [.sl ((netL R n).map boolsV)])) 71 (.sl ((intsN (row ++ [b])).map (V.int .i64)))) noM 71 (e := 3) (γ := γ) (cap := c) (es := (intsN (row ++ [b])).map (V.int .i64)) rfl ?_ ?_
      · (refine Less.start ?_; repeat (first | exact LessO.nil | exact LessO.all | refine LessO.skip (by decide) ?_ | refine LessO.upd ?_ ?_ | refine LessO.set ?_ ?_)) <;> (try simp (maxSteps := 1000000) (disch := omega) only [push_cast, go_sem, wpS_tt, wpS_tf, wpS_ft, wpS_ff, wpCond_tt, wpCond_ff, simprocAttr])
        all_goals simp [intsN, hl]
      refine SatW.of (by kernel_rfl) (fun o h => List.mem_of_mem_drop h) ?_
      have hr := ih (m + 1) b lo size (row ++ [b]) (by simp [hl]) (by rw [List.getElem?_append_right (by omega), hl]; simp) (by rw [List.getElem?_append_left (by omega)]; exact h0) hlt hlo (by omega) hsn
      rw [netE_eq, rowE_eq] at hr
      cases ho : onS R n lo k b (row ++ [b]) with
      | none =>
        rw [ho, onV_none] at hr
        simp (maxSteps := 1000000) (disch := omega) only [push_cast, go_sem, wpS_tt, wpS_tf, wpS_ft, wpS_ff, wpCond_tt, wpCond_ff, simprocAttr]
        refine callR.pure hr rfl rfl ?_
        simp (maxSteps := 1000000) (disch := omega) only [push_cast, go_sem, wpS_tt, wpS_tf, wpS_ft, wpS_ff, wpCond_tt, wpCond_ff, simprocAttr]
        refine Sat.of (S := []) (by kernel_rfl) ?_
        simp (maxSteps := 1000000) (disch := omega) only [push_cast, go_sem, wpS_tt, wpS_tf, wpS_ft, wpS_ff, wpCond_tt, wpCond_ff, simprocAttr]
        refine hJ (b + 1) _ _ ⟨by omega, by omega, next (by rw [hFb, hR, hc]; exact ho)⟩ (by omega) ?_
        (refine Less.start ?_; repeat (first | exact LessO.nil | exact LessO.all | refine LessO.skip (by decide) ?_ | refine LessO.upd ?_ ?_ | refine LessO.set ?_ ?_)) <;> (try simp (maxSteps := 1000000) (disch := omega) only [push_cast, go_sem, wpS_tt, wpS_tf, wpS_ft, wpS_ff, wpCond_tt, wpCond_ff, simprocAttr])
      | some r =>
        rw [ho, onV_some] at hr
        simp (maxSteps := 1000000) (disch := omega) only [push_cast, go_sem, wpS_tt, wpS_tf, wpS_ft, wpS_ff, wpCond_tt, wpCond_ff, simprocAttr]
        refine callR.pure hr rfl rfl ?_
        simp (maxSteps := 1000000) (disch := omega) only [push_cast, go_sem, wpS_tt, wpS_tf, wpS_ft, wpS_ff, wpCond_tt, wpCond_ff, simprocAttr]
        refine Sat.of (S := []) (by kernel_rfl) ?_
        simp (maxSteps := 1000000) (disch := omega) only [push_cast, go_sem, wpS_tt, wpS_tf, wpS_ft, wpS_ff, wpCond_tt, wpCond_ff, simprocAttr]
        rw [fs_at hlt hno (by rw [hFb, hR, hc]; exact ho)]; rfl
    · have : b = n := by omega
      subst this
      simp (maxSteps := 1000000) (disch := omega) only [push_cast, go_sem, wpS_tt, wpS_tf, wpS_ft, wpS_ff, wpCond_tt, wpCond_ff, simprocAttr, hNl]
      rw [fs_none hno]; rfl
end Go.Proofs.YtfdbminedccccaaGreatDoor
