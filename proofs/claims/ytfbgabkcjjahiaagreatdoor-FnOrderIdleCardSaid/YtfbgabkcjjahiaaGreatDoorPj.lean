/-
 Contracts and plain laws.
-/
import Derived.Test.YtfbgabkcjjahiaaGreatDoorPb
import Derived.Test.YtfbgabkcjjahiaaGreatDoorPd
import Derived.Test.YtfbgabkcjjahiaaGreatDoorPh
import Derived.Test.YtfbgabkcjjahiaaGreatDoorPi
set_option linter.unusedSimpArgs false
set_option linter.unusedVariables false
set_option linter.unusedSectionVars false
namespace Go.Proofs.YtfbgabkcjjahiaaGreatDoor
section
open Go.RowKit
theorem oouts_fn (p : Prog) (g : Nat) (c2 c3 c4 c5 : V) (hok : progOk p = true) (i : Nat) (hi : i < (events p).length) (h7 : kd (scene p).ds i = 7) :
  Fo Tryz.prog 108 [.int .i64 i] g 6 (ordV p g c2 c3 c4 c5) (.int .i64 (outA p i)) := by
 obtain ⟨hq, h8⟩ := outA_spec hok hi h7
 have hel := events_le hok
 obtain ⟨t, ht⟩ : ∃ t, outA p i = t := ⟨_, rfl⟩
 rw [ht] at hq h8 ⊢
 have hdo := fun a ha => odo_fn p g c2 c3 c4 c5 a ha
 have hown := fun a b ha hb => oown_fn p g c2 c3 c4 c5 a b ha hb
 have hlt := hq.lt
 have htl := hq.tl
 rw [ordV_eq] at hdo hown ⊢
 refine Fc.start (S := []) Tryz.func108 Tryz.ntmps108 Tryz.results108 rfl (by decide) rfl (by kernel_rfl) ?_
 simp (disch := omega) only [push_cast, go_sem, zA, simprocAttr]
 refine Sat.loop (σ := Nat) (fun k => upd (upd (upd noT 0 (.ptr 0 [] 0 0 g 6)) 1 (.int .i64 i)) 5 (.int .i64 k)) (fun k => (noM.set 0 (.own 134 (some g) 1 [.agg [.sl (p.map thrV), .sl ((events p).map Evt.V), c2, c3, c4, c5]])))
  (fun k => i < k ∧ k ≤ t) (fun k => t - k) (i + 1) ⟨by omega, by omega⟩ ?_ ?_
 ·(refine zB ?_; repeat (first | exact zC | exact zD | refine zE (by decide) ?_ | refine zF ?_ ?_ | refine zG ?_ ?_)) <;> (try simp (disch := omega) only [push_cast, go_sem, zA, simprocAttr])
 rintro k ⟨hk, hkt⟩ J hJ
 refine Sat.of (S := []) (by kernel_rfl) ?_
 have hkn : k < (events p).length := by omega
 have how : ownB (events p) i k = true := by
  have hs : th (events p) i = th (events p) k := by
   rcases Nat.lt_or_ge k t with h | h
   ·exact ((hq.no k hk h).2.2).symm
   ·have : k = t := by omega
    subst this; exact hq.same
  simp only [th] at hs
  simp [ownB, hk, hs]
 have hd := hdo k hkn
 rw [Do.V_eq] at hd
 simp (disch := omega) only [push_cast, go_sem, zA, simprocAttr, hkn]
 refine callR.look (hown i k hi hkn) rfl rfl rfl ?_
 rw [how]
 simp (disch := omega) only [push_cast, go_sem, zA, simprocAttr]
 refine callR.look hd rfl rfl rfl ?_
 rcases Nat.lt_or_ge k t with h | h
 ·have h8' : ((dsA p k).k == 8) = false := by
   have := (hq.no k hk h).2.1
   simpa [kd, dsA] using this
  simp (disch := omega) only [push_cast, go_sem, zA, simprocAttr, h8']
  refine hJ (k + 1) _ _ ⟨by omega, by omega⟩ (by omega) ?_
  (refine zB ?_; repeat (first | exact zC | exact zD | refine zE (by decide) ?_ | refine zF ?_ ?_ | refine zG ?_ ?_)) <;> (try simp (disch := omega) only [push_cast, go_sem, zA, simprocAttr])
 ·have : k = t := by omega
  subst this
  have h8' : ((dsA p k).k == 8) = true := by simpa [kd, dsA] using h8
  simp (disch := omega) only [push_cast, go_sem, zA, simprocAttr, h8']
  refine ⟨_, ?_, rfl⟩
  ((repeat (first | exact Sub.no | refine Sub.set ?_ ?_)) <;> (try simp (disch := omega) only [push_cast, go_sem, zA, simprocAttr]))
theorem chIn_pre (ds : List Do) (e : Nat) {j : Nat} (h7 : kd ds j = 7) : ∀ {n : Nat}, j < n → ∃ r, chIn ds e n = chIn ds e j ++ (e, j) :: r
 | 0, h => absurd h (by omega)
 | n + 1, h => by
  rcases Nat.lt_or_ge j n with hj | hj
  ·obtain ⟨r, hr⟩ := chIn_pre ds e h7 hj
   exact ⟨r ++ (if kd ds n == 7 then [(e, n)] else []), by rw [chIn, hr]; simp⟩
  ·have : j = n := by omega
   subst this
   exact ⟨[], by rw [chIn, h7]; rfl⟩
theorem chRef_pre {p : Prog} {w j : Nat} (h9 : kd (scene p).ds w = 9) (hl : ltA (events p) w = false) (h7 : kd (scene p).ds j = 7) (hj : j < (scene p).ds.length) : ∀ {n : Nat}, w < n → ∃ r, chRef p n = (chRef p w ++ chIn (scene p).ds (w + 1) j) ++ (w + 1, j) :: r
 | 0, h => absurd h (by omega)
 | n + 1, h => by
  rcases Nat.lt_or_ge w n with hw | hw
  ·obtain ⟨r, hr⟩ := chRef_pre h9 hl h7 hj hw
   exact ⟨r ++ (if kd (scene p).ds n == 9 && !ltA (events p) n then chIn (scene p).ds (n + 1) (scene p).ds.length else []), by rw [chRef, hr]; simp⟩
  ·have : w = n := by omega
   subst this
   obtain ⟨r, hr⟩ := chIn_pre (scene p).ds (w + 1) h7 hj
   exact ⟨r, by rw [chRef, h9, hl]; simp [hr]⟩
theorem chIn_succ (ds : List Do) (e j : Nat) : (chIn ds e (j + 1)).length = (chIn ds e j).length + (if kd ds j == 7 then 1 else 0) := by
 rw [chIn, List.length_append]; split <;> rfl
theorem chRef_succ (p : Prog) (w : Nat) : (chRef p (w + 1)).length = (chRef p w).length + (if kd (scene p).ds w == 9 && !ltA (events p) w then (chIn (scene p).ds (w + 1) (scene p).ds.length).length else 0) := by
 rw [chRef, List.length_append]; split <;> rfl
theorem chRef_le (p : Prog) (hn : (scene p).ds.length ≤ 62) : ∀ k, (chRef p k).length ≤ k * 62
 | 0 => by simp [chRef]
 | k + 1 => by
  have h1 := chRef_le p hn k
  have h2 := chIn_le (scene p).ds (k + 1) (scene p).ds.length
  rw [chRef_succ]
  split <;> omega
theorem owaits_fn (p : Prog) (g : Nat) (c4 c5 : V) (hok : progOk p = true) : ∀ (m frm : Nat) (R : Nat → Nat → Bool), (chRef p (events p).length).length - frm = m → frm ≤ (chRef p (events p).length).length →
  Fo Tryz.prog 64 [netE (netL R (events p).length), .int .i64 frm] g 6 (ordV p g (rdsV p) (wrtV p) c4 c5) (.bool (settleR (events p).length (outA p) ((chRef p (events p).length).drop frm) R).isSome) := by
 have hel := events_le hok
 have hsl : (scene p).ds.length = (events p).length := by simp [scene]
 have hcl := chRef_le p (by omega) (events p).length
 have hdo := fun a ha => odo_fn p g (rdsV p) (wrtV p) c4 c5 a ha
 have hout := fun i hi h7 => oouts_fn p g (rdsV p) (wrtV p) c4 c5 hok i hi h7
 have hpre := @chRef_pre p
 have hoq := fun i hi h7 => (outA_spec hok (i := i) hi h7).1.tl
 have hnx := @wait_next p
 rw [ordV_eq, rdsV_eq, wrtV_eq] at hdo hout
 obtain ⟨n, hnn⟩ : ∃ n, (events p).length = n := ⟨_, rfl⟩
 rw [hnn] at hsl hel hcl hdo hout hoq hnx ⊢
 obtain ⟨CL, hCL⟩ : ∃ l, chRef p n = l := ⟨_, rfl⟩
 rw [hCL] at hcl ⊢
 intro m
 induction m using Nat.strongRecOn with
 | _ m ih =>
 intro frm R hm hfl
 have hho := holds_fn R n (by omega)
 rw [ordV_eq, rdsV_eq, wrtV_eq] at ih ⊢
 rw [netE_eq] at hho
 refine Fc.start (S := []) Tryz.func64 Tryz.ntmps64 Tryz.results64 rfl (by decide) rfl (by kernel_rfl) ?_
 simp (disch := omega) only [push_cast, go_sem, zA, simprocAttr, netE_eq]
 refine callR.pure hho rfl rfl ?_
 cases hl : lineE R n with
 | none =>
  simp (disch := omega) only [push_cast, go_sem, zA, simprocAttr, Option.isSome_none]
  rw [settle_no hl]
  refine ⟨_, ?_, rfl, rfl⟩
  ((repeat (first | exact Sub.no | refine Sub.set ?_ ?_)) <;> (try simp (disch := omega) only [push_cast, go_sem, zA, simprocAttr]))
 | some ls =>
  simp (disch := omega) only [push_cast, go_sem, zA, simprocAttr, Option.isSome_some]
  refine Sat.loop (σ := Nat) (fun w => upd (upd (upd (upd (upd noT 0 (.ptr 0 [] 0 0 g 6)) 1 (.eptr [.sl ((netL R n).map boolsV)])) 2 (.int .i64 frm)) 7 (.int .i64 (chRef p w).length)) 8 (.int .i64 w)) (fun w => noM.set 0 (.own 134 (some g) 1 [.agg [.sl (p.map thrV), .sl ((events p).map Evt.V), .sl ((scene p).ds.map fun d => .bool d.reads), .sl ((scene p).ds.map fun d => .bool d.writes), c4, c5]]))
   (fun w => w ≤ n ∧ (chRef p w).length ≤ frm) (fun w => n - w) 0 ⟨by omega, by simp [chRef]⟩ ?_ ?_
  ·(refine zB ?_; repeat (first | exact zC | exact zD | refine zE (by decide) ?_ | refine zF ?_ ?_ | refine zG ?_ ?_)) <;> (try simp (disch := omega) only [push_cast, go_sem, zA, simprocAttr])
   all_goals simp [chRef]
  rintro w ⟨hw, hwf⟩ J hJ
  refine Sat.of (S := []) (by kernel_rfl) ?_
  rcases Nat.lt_or_ge w n with hlt | hge
  ·obtain ⟨ew, hew⟩ : ∃ e, (events p)[w]? = some e := ⟨_, List.getElem?_eq_getElem (by omega)⟩
   have hwe : w < (events p).length := by omega
   have hkw : kd (scene p).ds w = (dsA p w).k := rfl
   have hlw : ltA (events p) w = ew.l := by rw [ltA, hew]; rfl
   have hdw := hdo w hlt
   rw [Do.V_eq] at hdw
   simp (disch := omega) only [push_cast, go_sem, zA, simprocAttr, hlt, hnn]
   refine callR.look hdw rfl rfl rfl ?_
   cases h9 : ((dsA p w).k == 9)
   ·have h9' : ((dsA p w).k != 9) = true := by simp [bne, h9]
    simp (disch := omega) only [push_cast, go_sem, zA, simprocAttr, h9']
    have hcs : (chRef p (w + 1)).length = (chRef p w).length := by rw [chRef_succ, hkw, h9]; simp
    refine hJ (w + 1) _ _ ⟨by omega, by omega⟩ (by omega) ?_
    rw [hcs]
    (refine zB ?_; repeat (first | exact zC | exact zD | refine zE (by decide) ?_ | refine zF ?_ ?_ | refine zG ?_ ?_)) <;> (try simp (disch := omega) only [push_cast, go_sem, zA, simprocAttr])
   have h9' : ((dsA p w).k != 9) = false := by simp [bne, h9]
   cases hll : ew.l
   rotate_left
   ·simp (disch := omega) only [push_cast, go_sem, zA, simprocAttr, h9', hew, hwe, Evt.V_eq, hll]
    have hcs : (chRef p (w + 1)).length = (chRef p w).length := by rw [chRef_succ, hlw, hll]; simp
    refine hJ (w + 1) _ _ ⟨by omega, by omega⟩ (by omega) ?_
    rw [hcs]
    (refine zB ?_; repeat (first | exact zC | exact zD | refine zE (by decide) ?_ | refine zF ?_ ?_ | refine zG ?_ ?_)) <;> (try simp (disch := omega) only [push_cast, go_sem, zA, simprocAttr])
   simp (disch := omega) only [push_cast, go_sem, zA, simprocAttr, h9', hew, hwe, Evt.V_eq, hll]
   have h9k : kd (scene p).ds w = 9 := by rw [hkw]; simpa using h9
   have hlwf : ltA (events p) w = false := by rw [hlw, hll]
   have hw1 := (hnx hlt h9k hlwf).1
   refine Sat.loop (σ := Nat) (fun j => upd (upd (upd (upd (upd (upd noT 0 (.ptr 0 [] 0 0 g 6)) 1 (.eptr [.sl ((netL R n).map boolsV)])) 2 (.int .i64 frm)) 7 (.int .i64 ((chRef p w).length + (chIn (scene p).ds (w + 1) j).length : Nat))) 8 (.int .i64 w)) 9 (.int .i64 j)) (fun _ => noM.set 0 (.own 134 (some g) 1 [.agg [.sl (p.map thrV), .sl ((events p).map Evt.V), .sl ((scene p).ds.map fun d => .bool d.reads), .sl ((scene p).ds.map fun d => .bool d.writes), c4, c5]]))
    (fun j => j ≤ n ∧ (chRef p w).length + (chIn (scene p).ds (w + 1) j).length ≤ frm) (fun j => n - j) 0 ⟨by omega, by simpa [chIn] using hwf⟩ ?_ ?_
   ·(refine zB ?_; repeat (first | exact zC | exact zD | refine zE (by decide) ?_ | refine zF ?_ ?_ | refine zG ?_ ?_)) <;> (try simp (disch := omega) only [push_cast, go_sem, zA, simprocAttr])
    all_goals simp [chIn]
   rintro j ⟨hj, hjf⟩ J2 hJ2
   refine Sat.of (S := []) (by kernel_rfl) ?_
   have hcw := chRef_le p (by omega) w
   have hci := chIn_le (scene p).ds (w + 1) j
   rcases Nat.lt_or_ge j n with hlt2 | hge2
   ·have hkj : kd (scene p).ds j = (dsA p j).k := rfl
    have hdj := hdo j hlt2
    rw [Do.V_eq] at hdj
    simp (disch := omega) only [push_cast, go_sem, zA, simprocAttr, hlt2, hnn]
    refine callR.look hdj rfl rfl rfl ?_
    cases h7 : ((dsA p j).k == 7)
    ·have h7' : ((dsA p j).k != 7) = true := by simp [bne, h7]
     simp (disch := omega) only [push_cast, go_sem, zA, simprocAttr, h7']
     have hcs : (chIn (scene p).ds (w + 1) (j + 1)).length = (chIn (scene p).ds (w + 1) j).length := by rw [chIn_succ, hkj, h7]; simp
     refine hJ2 (j + 1) _ _ ⟨by omega, by omega⟩ (by omega) ?_
     rw [hcs]
     (refine zB ?_; repeat (first | exact zC | exact zD | refine zE (by decide) ?_ | refine zF ?_ ?_ | refine zG ?_ ?_)) <;> (try simp (disch := omega) only [push_cast, go_sem, zA, simprocAttr])
    have h7' : ((dsA p j).k != 7) = false := by simp [bne, h7]
    have h7k : kd (scene p).ds j = 7 := by rw [hkj]; simpa using h7
    rcases Nat.lt_or_ge ((chRef p w).length + (chIn (scene p).ds (w + 1) j).length) frm with hcf | hcf
    ·have hng : ¬ ((frm : Int) < ((chRef p w).length : Int) + ((chIn (scene p).ds (w + 1) j).length : Int) + 1) := by omega
     simp (disch := omega) only [push_cast, go_sem, zA, simprocAttr, h7', hng]
     have hcs : (chIn (scene p).ds (w + 1) (j + 1)).length = (chIn (scene p).ds (w + 1) j).length + 1 := by rw [chIn_succ, hkj, h7]; simp
     refine hJ2 (j + 1) _ _ ⟨by omega, by omega⟩ (by omega) ?_
     rw [hcs]
     (refine zB ?_; repeat (first | exact zC | exact zD | refine zE (by decide) ?_ | refine zF ?_ ?_ | refine zG ?_ ?_)) <;> (try simp (disch := omega) only [push_cast, go_sem, zA, simprocAttr])
     all_goals omega
    ·have hg : ((frm : Int) < ((chRef p w).length : Int) + ((chIn (scene p).ds (w + 1) j).length : Int) + 1) := by omega
     obtain ⟨r, hr⟩ := hpre h9k hlwf h7k (by omega) hlt
     rw [hCL] at hr
     have hfe : frm = (chRef p w ++ chIn (scene p).ds (w + 1) j).length := by rw [List.length_append]; omega
     have hd0 : CL.drop frm = (w + 1, j) :: r := by rw [hr, hfe]; exact List.drop_left
     have hd1 : CL.drop (frm + 1) = r := by rw [← List.drop_drop, hd0]; rfl
     have hfl1 : frm + 1 ≤ CL.length := by rw [hr, List.length_append, ← hfe]; simp
     have ho := hout j hlt2 h7k
     have hoj := hoq j hlt2 h7k
     have hw2 := nwith_fn R n (outA p j) (w + 1) (by omega) hoj hw1
     have hw3 := nwith_fn R n w j (by omega) hlt hlt2
     have ih1 := ih (m - 1) (by omega) (frm + 1) (wiR R (outA p j) (w + 1)) (by omega) hfl1
     have ih2 := ih (m - 1) (by omega) (frm + 1) (wiR R w j) (by omega) hfl1
     rw [hd1, netE_eq] at ih1 ih2
     rw [show ((frm + 1 : Nat) : Int) = (frm : Int) + 1 by omega] at ih1 ih2
     rw [show ((w + 1 : Nat) : Int) = (w : Int) + 1 by omega] at hw2
     rw [netE_eq, netE_eq] at hw2 hw3
     have hset : settleR n (outA p) (CL.drop frm) R = (settleR n (outA p) r (wiR R (outA p j) (w + 1))).or (settleR n (outA p) r (wiR R w j)) := by rw [hd0, settleR, hl]; rfl
     rw [hset]
     simp (disch := omega) only [push_cast, go_sem, zA, simprocAttr, h7', hg]
     refine callR.look ho rfl rfl rfl ?_
     simp (disch := omega) only [push_cast, go_sem, zA, simprocAttr]
     refine callR.pure hw2 rfl rfl ?_
     simp (disch := omega) only [push_cast, go_sem, zA, simprocAttr]
     refine callR.look ih1 rfl rfl rfl ?_
     cases hs1 : settleR n (outA p) r (wiR R (outA p j) (w + 1)) with
     | some r1 =>
      simp (disch := omega) only [push_cast, go_sem, zA, simprocAttr, Option.isSome_some]
      refine ⟨_, ?_, rfl, rfl⟩
      ((repeat (first | exact Sub.no | refine Sub.set ?_ ?_)) <;> (try simp (disch := omega) only [push_cast, go_sem, zA, simprocAttr]))
     | none =>
      simp (disch := omega) only [push_cast, go_sem, zA, simprocAttr, Option.isSome_none]
      refine callR.pure hw3 rfl rfl ?_
      simp (disch := omega) only [push_cast, go_sem, zA, simprocAttr]
      refine callR.look ih2 rfl rfl rfl ?_
      simp (disch := omega) only [push_cast, go_sem, zA, simprocAttr]
      refine ⟨_, ?_, rfl, rfl⟩
      ((repeat (first | exact Sub.no | refine Sub.set ?_ ?_)) <;> (try simp (disch := omega) only [push_cast, go_sem, zA, simprocAttr]))
   ·have : j = n := by omega
    subst this
    simp (disch := omega) only [push_cast, go_sem, zA, simprocAttr, hnn]
    have hcs : (chRef p (w + 1)).length = (chRef p w).length + (chIn (scene p).ds (w + 1) j).length := by rw [chRef_succ, hkw, h9, hlwf, hsl]; simp
    refine hJ (w + 1) _ _ ⟨by omega, by omega⟩ (by omega) ?_
    rw [hcs]
    (refine zB ?_; repeat (first | exact zC | exact zD | refine zE (by decide) ?_ | refine zF ?_ ?_ | refine zG ?_ ?_)) <;> (try simp (disch := omega) only [push_cast, go_sem, zA, simprocAttr])
  ·have : w = n := by omega
   subst this
   simp (disch := omega) only [push_cast, go_sem, zA, simprocAttr, hnn]
   have : frm = CL.length := by rw [hCL] at hwf; omega
   rw [this, List.drop_length, settleR, hl]
   refine ⟨_, ?_, rfl, rfl⟩
   ((repeat (first | exact Sub.no | refine Sub.set ?_ ?_)) <;> (try simp (disch := omega) only [push_cast, go_sem, zA, simprocAttr]))
end
section
open Go.RowKit
theorem ds_place {p : Prog} (hpk : progOk p = true) : ∀ (i : Nat), i < (events p).length → 0 ≤ (dsA p i).p := fun i hi => by
 obtain ⟨e, he⟩ : ∃ e, (events p)[i]? = some e := ⟨_, List.getElem?_eq_getElem hi⟩
 have hd : (scene p).ds[i]? = some (dsA p i) := by rw [dsA, scene_get he]; rfl
 have := scene_formed hpk _ (List.mem_of_getElem? hd)
 cases hu : (dsA p i).uses
 ·simp only [Do.formed, hu, Bool.false_eq_true, if_false, Bool.and_eq_true, beq_iff_eq] at this
  omega
 ·exact (formed_place this hu).1
end
section
open Go.RowKit
theorem fz_rowX (x : RowE) : x.V.fz = x.x.V := by
 simp only [RowE.V, RowE.x, Exe.V, V.fz, List.map_cons, List.map_nil, fzs_map, fzs_int, fz_rowsI]
theorem specAllF_fn (p : Prog) (hp : p.length < 2 ^ 40) : Fp Tryz.prog 43 [progV p] (.sl ((specAll p).map Exe.V)) :=
 Fc.fzRow (specExecAllO_fn p hp) (by
  rintro r m ⟨γ, cap, e, es, h1, h2, h3, rfl, rfl⟩
  refine ⟨100, γ, cap, e, es.map RowE.V, by rw [List.length_map], by simp [Mem.set], ?_⟩
  rw [← h1, List.map_map, List.map_map]
  exact List.map_congr_left fun x _ => fz_rowX x)
end
section
open Go.RowKit
theorem oway2_fn (p : Prog) (x : Exe) (c4 c5 : List V) (g : Nat) (hok : progOk p = true) (hf : x.fr.length = (events p).length) (ho : x.od.length = 3) (hrow : ∀ r ∈ x.od, r.length < 2 ^ 40) :
  Fc Tryz.prog 60 [.ptr 0 [] 0 0 g 6, x.V] (noM.set 0 (ordV p g (rdsV p) (wrtV p) (.sl c4) (.sl c5)))
   (fun r m => ∃ ob, (∃ gr, r = .tuple [] ∧ ob = ordV p g (rdsV p) (wrtV p) (.sl (x.fr.map (V.int .i64))) (.own 3 (some gr) (events p).length (((List.range (events p).length).map (rankS p x)).map (V.int .i64)))) ∧ m = noM.set 0 ob) := by
 have hel := events_le hok
 have hsl : (scene p).ds.length = (events p).length := by simp [scene]
 refine Fc.start (S := []) Tryz.func60 Tryz.ntmps60 Tryz.results60 rfl (by decide) rfl (by kernel_rfl) ?_
 simp (disch := omega) only [push_cast, go_sem, zA, simprocAttr, Exe.V_eq, ordV_eq, rdsV_eq, wrtV_eq, List.length_replicate]
 intro g3
 refine ⟨by omega, fun gr => ?_⟩
 refine Sat.loop (σ := Nat) (fun k => upd (upd (upd noT 0 (.ptr 0 [] 0 0 g 6)) 3 (.ptr 3 [] 0 0 g3 2)) 4 (.int .i64 k))
  (fun k => (noM.set 0 (.own 134 (some g) 1 [.agg [.sl (p.map thrV), .sl ((events p).map Evt.V), .sl ((scene p).ds.map fun d => .bool d.reads), .sl ((scene p).ds.map fun d => .bool d.writes), .sl (x.fr.map (V.int .i64)), .own 3 (some gr) (events p).length ((rnk p x k).map (V.int .i64))]])).set 3 (.own 33 (some g3) 1 [.agg [.sl (x.fr.map (V.int .i64)), .sl (x.od.map intsV)]]))
  (fun k => k ≤ (events p).length) (fun k => (events p).length - k) 0 (by omega) ?_ ?_
 ·(refine zB ?_; repeat (first | exact zC | exact zD | refine zE (by decide) ?_ | refine zF ?_ ?_ | refine zG ?_ ?_)) <;> (try simp (disch := omega) only [push_cast, go_sem, zA, simprocAttr])
  all_goals simp [rnk_zero]
 rintro k hk J hJ
 refine Sat.of (S := []) (by kernel_rfl) ?_
 have hrl : (rnk p x k).length = (events p).length := by simp [rnk]
 rcases Nat.lt_or_ge k (events p).length with hlt | hge
 ·obtain ⟨ek, hek⟩ : ∃ e, (events p)[k]? = some e := ⟨_, List.getElem?_eq_getElem hlt⟩
  have hdk : (scene p).ds[k]? = some (dsA p k) := by rw [dsA, scene_get hek]; rfl
  have hp3 := scene_p hok (dsA p k) (List.mem_of_getElem? hdk)
  have h1 := odo_fn p g (rdsV p) (wrtV p) (.sl (x.fr.map (V.int .i64))) (.own 3 (some gr) (events p).length ((rnk p x k).map (V.int .i64))) k hlt
  rw [ordV_eq, rdsV_eq, wrtV_eq] at h1
  obtain ⟨z, hz⟩ : ∃ z, (rnk p x k)[k]? = some z := ⟨_, List.getElem?_eq_getElem (by omega)⟩
  obtain ⟨f, hfk⟩ : ∃ z, x.fr[k]? = some z := ⟨_, List.getElem?_eq_getElem (by omega)⟩
  have hfl : k < x.fr.length := by omega
  cases hw : (dsA p k).writes
  ·cases hr : (dsA p k).reads
   ·simp (disch := omega) only [push_cast, go_sem, zA, simprocAttr, hlt, hdk, hsl, hw, hr]
    refine hJ (k + 1) _ _ (by omega) (by omega) ?_
    rw [rnk_same p x (by simp [rankS, hw, hr])]
    (refine zB ?_; repeat (first | exact zC | exact zD | refine zE (by decide) ?_ | refine zF ?_ ?_ | refine zG ?_ ?_)) <;> (try simp (disch := omega) only [push_cast, go_sem, zA, simprocAttr])
   ·obtain ⟨p0, p1⟩ := hp3 (by simp [Do.uses, hr])
    obtain ⟨pl, hpl⟩ := Int.eq_ofNat_of_zero_le p0
    obtain ⟨row, hrw⟩ : ∃ row, x.od[pl]? = some row := ⟨_, List.getElem?_eq_getElem (by omega)⟩
    have hrk := rank_fn row f (hrow row (List.mem_of_getElem? hrw))
    have hpl3 : (pl : Int) < 3 := by omega
    simp (disch := omega) only [push_cast, go_sem, zA, simprocAttr, hlt, hdk, hsl, hw, hr]
    refine Sat.drawnE [] [] [3, 6, 9, 12, 14, 17, 18] (lookT (.own 134 (some g) 1 [.agg [.sl (p.map thrV), .sl ((events p).map Evt.V), .sl ((scene p).ds.map fun d => .bool d.reads), .sl ((scene p).ds.map fun d => .bool d.writes), .sl (x.fr.map (V.int .i64)), .own 3 (some gr) (events p).length ((rnk p x k).map (V.int .i64))]]) [(103, .int .i64 (Lib.idxOf row f))] [(102, (dsA p k).V)]) (by kernel_rfl) (by kernel_rfl) ?_
    simp (disch := omega) only [push_cast, go_sem, zA, simprocAttr]
    refine runD_look h1 rfl rfl rfl rfl rfl ?_ ?_
    ·rfl
    simp (disch := omega) only [push_cast, go_sem, zA, simprocAttr, Do.V_eq, hpl, hpl3, ho, hrw, intsV_eq, hfk, hfl]
    refine runD_pure rfl hrk rfl rfl ?_ ?_
    ·rfl
    simp (disch := omega) only [push_cast, go_sem, zA, simprocAttr, hz, hrl, hlt]
    have hrS : rankS p x k = Lib.idxOf row f := by simp [rankS, hw, hr, hpl, hrw, hfk]
    refine hJ (k + 1) _ _ (by omega) (by omega) ?_
    rw [rnk_succ, hrS]
    (refine zB ?_; repeat (first | exact zC | exact zD | refine zE (by decide) ?_ | refine zF ?_ ?_ | refine zG ?_ ?_)) <;> (try simp (disch := omega) only [push_cast, go_sem, zA, simprocAttr])
    rw [modInts]
  ·obtain ⟨p0, p1⟩ := hp3 (by simp [Do.uses, hw])
   obtain ⟨pl, hpl⟩ := Int.eq_ofNat_of_zero_le p0
   obtain ⟨row, hrw⟩ : ∃ row, x.od[pl]? = some row := ⟨_, List.getElem?_eq_getElem (by omega)⟩
   have hrk := rank_fn row k (hrow row (List.mem_of_getElem? hrw))
   have hpl3 : (pl : Int) < 3 := by omega
   simp (disch := omega) only [push_cast, go_sem, zA, simprocAttr, hlt, hdk, hsl, hw]
   refine Sat.drawnE [] [] [3, 6, 9, 12, 14] (lookT (.own 134 (some g) 1 [.agg [.sl (p.map thrV), .sl ((events p).map Evt.V), .sl ((scene p).ds.map fun d => .bool d.reads), .sl ((scene p).ds.map fun d => .bool d.writes), .sl (x.fr.map (V.int .i64)), .own 3 (some gr) (events p).length ((rnk p x k).map (V.int .i64))]]) [(103, .int .i64 (Lib.idxOf row k))] [(102, (dsA p k).V)]) (by kernel_rfl) (by kernel_rfl) ?_
   simp (disch := omega) only [push_cast, go_sem, zA, simprocAttr]
   refine runD_look h1 rfl rfl rfl rfl rfl ?_ ?_
   ·rfl
   simp (disch := omega) only [push_cast, go_sem, zA, simprocAttr, Do.V_eq, hpl, hpl3, ho, hrw, intsV_eq]
   refine runD_pure rfl hrk rfl rfl ?_ ?_
   ·rfl
   simp (disch := omega) only [push_cast, go_sem, zA, simprocAttr, hz, hrl, hlt]
   have hrS : rankS p x k = Lib.idxOf row k := by simp [rankS, hw, hpl, hrw]
   refine hJ (k + 1) _ _ (by omega) (by omega) ?_
   rw [rnk_succ, hrS]
   (refine zB ?_; repeat (first | exact zC | exact zD | refine zE (by decide) ?_ | refine zF ?_ ?_ | refine zG ?_ ?_)) <;> (try simp (disch := omega) only [push_cast, go_sem, zA, simprocAttr])
   rw [modInts]
 ·have : k = (events p).length := by omega
  subst this
  simp (disch := omega) only [push_cast, go_sem, zA, simprocAttr]
  rw [rnk_all]
  refine ⟨_, ?_, _, ⟨gr, rfl⟩, rfl⟩
  ((repeat (first | exact Sub.no | refine Sub.set ?_ ?_)) <;> (try simp (disch := omega) only [push_cast, go_sem, zA, simprocAttr]))
end
section
open Go.RowKit
def seensS (p : Prog) (kind : Int) (l : List Exe) : List Sn := (l.filter fun x => holdsS p x kind).map (seenF p)
def ordAll (p : Prog) (kind : Int) : List Sn := if progOk p && inB kind 1 3 then (seensS p kind (specAll p)).foldl putS [] else []
def accS (p : Prog) (kind : Int) (l : List Exe) : List Sn := (seensS p kind l).foldl putS []
theorem acc_yes {p : Prog} {kind : Int} {l : List Exe} {x : Exe} (h : holdsS p x kind = true) : accS p kind (l ++ [x]) = putS (accS p kind l) (seenF p x) := by
 simp [accS, seensS, List.filter_append, h]
theorem acc_no {p : Prog} {kind : Int} {l : List Exe} {x : Exe} (h : holdsS p x kind = false) : accS p kind (l ++ [x]) = accS p kind l := by
 simp [accS, seensS, List.filter_append, h]
theorem put_mem {L : List Sn} {s t : Sn} (h : t ∈ putS L s) : t ∈ L ∨ t = s := by
 rw [putS] at h
 split at h
 ·exact .inl h
 ·have key : ∀ L : List Sn, t ∈ insP L s → t ∈ L ∨ t = s := by
   intro L
   induction L with
   | nil => intro h; simp [insP] at h; exact .inr h
   | cons a L ih =>
    intro h
    rw [insP] at h
    split at h
    ·simp at h ⊢; rcases h with h | h | h
     ·exact .inr h
     ·exact .inl (.inl h)
     ·exact .inl (.inr h)
    ·simp at h ⊢; rcases h with h | h
     ·exact .inl (.inl h)
     ·exact (ih h).imp .inr id
  exact key L h
theorem fold_mem {t : Sn} : ∀ {l L : List Sn}, t ∈ l.foldl putS L → t ∈ L ∨ t ∈ l
 | [], L, h => .inl h
 | s :: l, L, h => by
  rw [List.foldl_cons] at h
  rcases fold_mem h with h | h
  ·rcases put_mem h with h | h
   ·exact .inl h
   ·exact .inr (by simp [h])
  ·exact .inr (by simp [h])
theorem fold_len : ∀ {l L : List Sn}, (l.foldl putS L).length ≤ L.length + l.length
 | [], L => by simp
 | s :: l, L => by
  rw [List.foldl_cons]
  have := fold_len (l := l) (L := putS L s)
  have := put_len L s
  rw [List.length_cons]; omega
theorem acc_len (p : Prog) (kind : Int) (l : List Exe) : (accS p kind l).length ≤ l.length := by
 have := fold_len (l := seensS p kind l) (L := [])
 have h2 : (seensS p kind l).length ≤ l.length := by rw [seensS, List.length_map]; exact List.length_filter_le _ _
 rw [accS]; simp at this; omega
theorem acc_small {p : Prog} {kind : Int} {l : List Exe} (h : ∀ x ∈ l, execOk p x = true) : ∀ t ∈ accS p kind l, t.small := fun t ht => by
 rcases fold_mem ht with h1 | h1
 ·cases h1
 ·simp only [seensS, List.mem_map, List.mem_filter] at h1
  obtain ⟨x, ⟨hx, _⟩, rfl⟩ := h1
  exact rdK_small p x (h x hx)
theorem l13All_fn (p : Prog) (kind : Int) (hp : p.length < 2 ^ 40) : Fp Tryz.prog 68 [progV p, .sl ((specAll p).map Exe.V), .int .i64 kind] (.sl ((ordAll p kind).map Sn.V)) := by
 have h1 := specProgOk_fn p hp
 rw [progV_eq] at h1
 rw [ordAll]
 have hle := specAll_le p
 refine Fc.start (S := [2, 8, 11]) Tryz.func68 Tryz.ntmps68 Tryz.results68 rfl (by decide) rfl (by kernel_rfl) ?_
 simp (disch := omega) only [push_cast, go_sem, zA, simprocAttr, progV_eq]
 intro g3 g12
 refine Sat.freezeT (upd (upd (upd (upd noT 1 (.sl ((specAll p).map Exe.V))) 2 (.int .i64 kind)) 3 (.ptr 3 [] 0 0 g3 1)) 7 (.sl [])) (noM.set 3 (.own 25 (some g3) 1 [.agg [.sl (p.map thrV)]])) 7 (e := 28) (γ := some g12) (cap := 0) (es := []) rfl ?_ ?_
 ·(refine zB ?_; repeat (first | exact zC | exact zD | refine zE (by decide) ?_ | refine zF ?_ ?_ | refine zG ?_ ?_)) <;> (try simp (disch := omega) only [push_cast, go_sem, zA, simprocAttr])
 refine Sat.of (S := [8, 11]) (by kernel_rfl) ?_
 simp (disch := omega) only [push_cast, go_sem, zA, simprocAttr]
 refine callR.pure h1 rfl rfl ?_
 cases hok : progOk p
 ·simp (disch := omega) only [push_cast, go_sem, zA, simprocAttr]
 simp (disch := omega) only [push_cast, go_sem, zA, simprocAttr]
 refine callR.pure (l6In_fn kind 1 3) rfl rfl ?_
 cases hk : inB kind 1 3
 ·simp (disch := omega) only [push_cast, go_sem, zA, simprocAttr]
 have hel := events_le hok
 have hsl : (scene p).ds.length = (events p).length := by simp [scene]
 have hlk := olook_fn p hp hok
 rw [progV_eq] at hlk
 simp (disch := omega) only [push_cast, go_sem, zA, simprocAttr]
 refine callR.new hlk rfl rfl ?_
 rintro r ob ⟨g, rfl, rfl⟩
 have hn0 := onet_fn p g (.own 0 none 0 []) (.own 0 none 0 []) hel 0
 have hnk := onet_fn p g (.own 0 none 0 []) (.own 0 none 0 []) hel kind
 rw [ordV_eq, netE_eq] at hn0 hnk
 simp (disch := omega) only [push_cast, go_sem, zA, simprocAttr, ordV_eq]
 refine callR.look hn0 rfl rfl rfl ?_
 simp (disch := omega) only [push_cast, go_sem, zA, simprocAttr]
 refine callR.look hnk rfl rfl rfl ?_
 simp (disch := omega) only [push_cast, go_sem, zA, simprocAttr]
 rw [rdsV_eq, wrtV_eq]
 refine Sat.freezeC 8 [] 0 4 (n0 := .own 134 (some g) 1 [.agg [.sl (p.map thrV), .sl ((events p).map Evt.V), .sl ((scene p).ds.map fun d => .bool d.reads), .sl ((scene p).ds.map fun d => .bool d.writes), .own 0 none 0 [], .own 0 none 0 []]]) (d := .own 0 none 0 []) ?_ rfl rfl ?_
 ·rfl
 rw [fz_own0]
 refine Sat.freezeC 8 [] 0 5 (n0 := .own 134 (some g) 1 [.agg [.sl (p.map thrV), .sl ((events p).map Evt.V), .sl ((scene p).ds.map fun d => .bool d.reads), .sl ((scene p).ds.map fun d => .bool d.writes), .sl [], .own 0 none 0 []]]) (d := .own 0 none 0 []) ?_ rfl rfl ?_
 ·rfl
 rw [fz_own0]
 have hwh := fun x R kind hfr => owhole_fn p x g R hel hfr (ds_place hok) kind
 refine Sat.loop (σ := Nat × List V × List V) (fun y => upd (upd (upd (upd (upd (upd (upd (upd noT 1 (.sl ((specAll p).map Exe.V))) 2 (.int .i64 kind)) 3 (.ptr 3 [] 0 0 g3 1)) 7 (.sl ((accS p kind ((specAll p).take y.1)).map Sn.V))) 8 (.ptr 8 [] 0 0 g 6)) 9 (netE (netL (staysS p 0) (events p).length))) 10 (netE (netL (staysS p kind) (events p).length))) 11 (.int .i64 y.1))
  (fun y => (noM.set 3 (.own 25 (some g3) 1 [.agg [.sl (p.map thrV)]])).set 8 (.own 134 (some g) 1 [.agg [.sl (p.map thrV), .sl ((events p).map Evt.V), .sl ((scene p).ds.map fun d => .bool d.reads), .sl ((scene p).ds.map fun d => .bool d.writes), .sl y.2.1, .sl y.2.2]]))
  (fun y => y.1 ≤ (specAll p).length) (fun y => (specAll p).length - y.1) (0, [], []) (by simp) ?_ ?_
 ·(refine zB ?_; repeat (first | exact zC | exact zD | refine zE (by decide) ?_ | refine zF ?_ ?_ | refine zG ?_ ?_)) <;> (try simp (disch := omega) only [push_cast, go_sem, zA, simprocAttr])
  all_goals rfl
 rintro ⟨i, a, b⟩ hi J hJ
 simp only at hi hJ
 refine Sat.of (S := [11]) (by kernel_rfl) ?_
 have hal := acc_len p kind ((specAll p).take i)
 have htl : ((specAll p).take i).length = i := by rw [List.length_take]; omega
 rw [htl] at hal
 rcases Nat.lt_or_ge i (specAll p).length with hlt | hge
 ·obtain ⟨x, hx⟩ : ∃ x, (specAll p)[i]? = some x := ⟨_, List.getElem?_eq_getElem hlt⟩
  have hxm := List.mem_of_getElem? hx
  have hxo := all_ok (p := p) (x := x) (by rw [all_eq]; exact hxm)
  have hw := Way.of hxo
  have hsm := specAll_small hxm
  have hxs : x.small := ⟨by omega, by omega, fun r hr => by have := hsm.2.2 r hr; omega⟩
  have hfr : x.fr.length = (events p).length := by rw [hw.fr, hsl]
  have htk := take_get hx
  have hway := oway2_fn p x a b g hok hfr hw.od hxs.row
  rw [ordV_eq, rdsV_eq, wrtV_eq, Exe.V_eq] at hway
  simp (disch := omega) only [push_cast, go_sem, zA, simprocAttr, hx, hlt, Exe.V_eq]
  refine callR.mod hway rfl rfl rfl ?_
  rintro r ob ⟨gr, rfl, rfl⟩
  simp (disch := omega) only [push_cast, go_sem, zA, simprocAttr, ordV_eq]
  have hw0 := hwh x (staysS p 0) 0 hfr
  have hwk := hwh x (staysS p kind) kind hfr
  have hwt := owaits_fn p g (.sl (x.fr.map (V.int .i64))) (.sl (((List.range (events p).length).map (rankS p x)).map (V.int .i64))) hok _ 0 (netR p x kind) rfl (by omega)
  have hho := holds_fn (netR p x 0) (events p).length (by omega)
  rw [List.drop_zero, ordV_eq, rdsV_eq, wrtV_eq, netE_eq] at hwt
  rw [ordV_eq, rdsV_eq, wrtV_eq, netE_eq, netE_eq] at hw0 hwk
  rw [show bothR (staysS p 0) (toldS p x 0) = netR p x 0 from rfl] at hw0
  rw [show bothR (staysS p kind) (toldS p x kind) = netR p x kind from rfl] at hwk
  rw [netE_eq] at hho
  have hse := l12Seen_fn p x hxo hxs
  have hpu := l2Put_fn (accS p kind ((specAll p).take i)) (seenF p x) (by omega) (acc_small fun y hy => all_ok (p := p) (x := y) (by rw [all_eq]; exact List.mem_of_mem_take hy)) (rdK_small p x hxo)
  rw [progV_eq, Exe.V_eq, Sn.V_eq] at hse
  rw [Sn.V_eq] at hpu
  refine Sat.freezeC 8 [] 0 5 (n0 := .own 134 (some g) 1 [.agg [.sl (p.map thrV), .sl ((events p).map Evt.V), .sl ((scene p).ds.map fun d => .bool d.reads), .sl ((scene p).ds.map fun d => .bool d.writes), .sl (x.fr.map (V.int .i64)), .own 3 (some gr) (events p).length (((List.range (events p).length).map (rankS p x)).map (V.int .i64))]])
   (d := .own 3 (some gr) (events p).length (((List.range (events p).length).map (rankS p x)).map (V.int .i64))) ?_ rfl rfl ?_
  ·rfl
  have e1 : (V.own 3 (some gr) (events p).length (((List.range (events p).length).map (rankS p x)).map (V.int .i64))).fz = .sl (((List.range (events p).length).map (rankS p x)).map (V.int .i64)) := by simp only [V.fz, fzs_map, fzs_int]
  rw [e1]
  generalize ((List.range (events p).length).map (rankS p x)).map (V.int .i64) = rk at hw0 hwk hwt ⊢
  have hhs : holdsS p x kind = ((lineE (netR p x 0) (events p).length).isSome && (settledS p x kind).isSome) := by
   have := hxo
   rw [ok_eq] at this
   rw [holdsS, this, hk, settledS]
   cases lineE (netR p x 0) (events p).length <;> rfl
  refine Sat.of (S := []) (by kernel_rfl) ?_
  simp (disch := omega) only [push_cast, go_sem, zA, simprocAttr, netE_eq]
  refine callR.look hw0 rfl rfl rfl ?_
  simp (disch := omega) only [push_cast, go_sem, zA, simprocAttr]
  refine callR.pure hho rfl rfl ?_
  cases hln : lineE (netR p x 0) (events p).length with
  | none =>
   rw [hln] at hhs
   have hf : holdsS p x kind = false := hhs
   simp (disch := omega) only [push_cast, go_sem, zA, simprocAttr, Option.isSome_none]
   refine hJ (i + 1, x.fr.map (V.int .i64), rk) _ _ (by dsimp only; omega) (by dsimp only; omega) ?_
   dsimp only
   rw [htk, acc_no hf]
   (refine zB ?_; repeat (first | exact zC | exact zD | refine zE (by decide) ?_ | refine zF ?_ ?_ | refine zG ?_ ?_)) <;> (try simp (disch := omega) only [push_cast, go_sem, zA, simprocAttr])
   all_goals rfl
  | some ls =>
   rw [hln] at hhs
   simp (disch := omega) only [push_cast, go_sem, zA, simprocAttr, Option.isSome_some]
   refine callR.look hwk rfl rfl rfl ?_
   simp (disch := omega) only [push_cast, go_sem, zA, simprocAttr]
   refine callR.look hwt rfl rfl rfl ?_
   have hst : (settledS p x kind).isSome = (settleR (events p).length (outA p) (chRef p (events p).length) (netR p x kind)).isSome := by rw [settledS, hln]; rfl
   rw [hst] at hhs
   cases hr : (settleR (events p).length (outA p) (chRef p (events p).length) (netR p x kind)).isSome
   ·rw [hr] at hhs
    have hf : holdsS p x kind = false := hhs
    simp (disch := omega) only [push_cast, go_sem, zA, simprocAttr]
    refine hJ (i + 1, x.fr.map (V.int .i64), rk) _ _ (by dsimp only; omega) (by dsimp only; omega) ?_
    dsimp only
    rw [htk, acc_no hf]
    (refine zB ?_; repeat (first | exact zC | exact zD | refine zE (by decide) ?_ | refine zF ?_ ?_ | refine zG ?_ ?_)) <;> (try simp (disch := omega) only [push_cast, go_sem, zA, simprocAttr])
    all_goals rfl
   ·rw [hr] at hhs
    have hf : holdsS p x kind = true := hhs
    simp (disch := omega) only [push_cast, go_sem, zA, simprocAttr]
    refine Sat.drawnE [] [] (List.range 13) (pureT [(79, .agg [.sl ((seenF p x).rd.map (V.int .i64)), .sl ((seenF p x).ls.map (V.int .i64))]), (115, .sl ((putS (accS p kind ((specAll p).take i)) (seenF p x)).map Sn.V))]) (by kernel_rfl) (by kernel_rfl) ?_
    simp (disch := omega) only [push_cast, go_sem, zA, simprocAttr, hx, hlt, Exe.V_eq]
    refine runD_pure rfl hse rfl rfl ?_ ?_
    ·rfl
    simp (disch := omega) only [push_cast, go_sem, zA, simprocAttr]
    refine runD_pure rfl hpu rfl rfl ?_ ?_
    ·rfl
    simp (disch := omega) only [push_cast, go_sem, zA, simprocAttr]
    refine hJ (i + 1, x.fr.map (V.int .i64), rk) _ _ (by dsimp only; omega) (by dsimp only; omega) ?_
    dsimp only
    rw [htk, acc_yes hf]
    (refine zB ?_; repeat (first | exact zC | exact zD | refine zE (by decide) ?_ | refine zF ?_ ?_ | refine zG ?_ ?_)) <;> (try simp (disch := omega) only [push_cast, go_sem, zA, simprocAttr])
    all_goals rfl
 ·have : i = (specAll p).length := by omega
  subst this
  rw [List.take_length]
  simp (disch := omega) only [push_cast, go_sem, zA, simprocAttr]
  rfl
end
section
open Go.RowKit
def ordI (p : Prog) (kind : Int) : List Sn := if progOk p && inB kind 1 3 then seenS (seensS p kind (execAll p)) else []
theorem seens_yes {p : Prog} {kind : Int} {l : List Exe} {x : Exe} (h : holdsS p x kind = true) : seensS p kind (l ++ [x]) = seensS p kind l ++ [seenF p x] := by simp [seensS, h]
theorem seens_no {p : Prog} {kind : Int} {l : List Exe} {x : Exe} (h : holdsS p x kind = false) : seensS p kind (l ++ [x]) = seensS p kind l := by simp [seensS, h]
theorem seens_len (p : Prog) (kind : Int) (l : List Exe) : (seensS p kind l).length ≤ l.length := by
 rw [seensS, List.length_map]; exact List.length_filter_le _ _
theorem seens_small {p : Prog} {kind : Int} {l : List Exe} (h : ∀ x ∈ l, execOk p x = true) : ∀ t ∈ seensS p kind l, t.small := fun t ht => by
 simp only [seensS, List.mem_map, List.mem_filter] at ht
 obtain ⟨x, ⟨hx, _⟩, rfl⟩ := ht
 exact rdK_small p x (h x hx)
theorem implOrderAll_fn (p : Prog) (kind : Int) (hp : p.length < 2 ^ 40) (hl : ∀ l ∈ p, l.length < 2 ^ 40) : Fp Tryz.prog 28 [progV p, .int .i64 kind] (.sl ((ordI p kind).map Sn.V)) := by
 have h1 := implProgOk_fn p hp hl
 rw [progV_eq] at h1
 rw [ordI]
 cases hok : progOk p
 ·refine Fc.nilrow (R' := fun r _ => r = .msl 4 [] none 0 0) ?_ (fun r m hr => ⟨4, [], hr, rfl, rfl⟩)
  refine Fc.start (S := []) Tryz.func28 Tryz.ntmps28 Tryz.results28 rfl (by decide) rfl (by kernel_rfl) ?_
  simp (disch := omega) only [push_cast, go_sem, zA, simprocAttr, progV_eq]
  intro g
  refine callR.pure h1 rfl rfl ?_
  simp (disch := omega) only [push_cast, go_sem, zA, simprocAttr, hok]
  exact ⟨noM, Sub.no⟩
 cases hk : inB kind 1 3
 ·refine Fc.nilrow (R' := fun r _ => r = .msl 4 [] none 0 0) ?_ (fun r m hr => ⟨4, [], hr, rfl, rfl⟩)
  refine Fc.start (S := []) Tryz.func28 Tryz.ntmps28 Tryz.results28 rfl (by decide) rfl (by kernel_rfl) ?_
  simp (disch := omega) only [push_cast, go_sem, zA, simprocAttr, progV_eq]
  intro g
  refine callR.pure h1 rfl rfl ?_
  simp (disch := omega) only [push_cast, go_sem, zA, simprocAttr, hok]
  refine callR.pure (isOrd_fn kind) rfl rfl ?_
  simp (disch := omega) only [push_cast, go_sem, zA, simprocAttr, hk]
  exact ⟨noM, Sub.no⟩
 have hel := events_le hok
 have hus := scene_uses hok
 have hfew : Few (scene p).ds := ⟨Nat.le_trans (count_le _) hus⟩
 have hsc := sceneOf_fn p hok
 have hall := all_fn (scene p) (by simp only [scene, List.length_map]; omega) (scene_len p) (scene_copy hok) hfew.wr (fun k hk => by have := froms_le hus k hk; omega) (fun k hk => by have := orders_le hus k hk; omega)
  (Nat.lt_of_le_of_lt (Nat.mul_le_mul (froms_le hus _ (Nat.le_refl _)) (orders_le hus 3 (Nat.le_refl _))) (by decide))
 have hae : allOf (scene p) = execAll p := by rw [execAll, hok]; rfl
 rw [hae] at hall
 have hsee := fun x hx => seen_fn p x (all_ok hx)
 have hle : (execAll p).length < 2 ^ 30 := by rw [all_eq]; exact specAll_le p
 have hsl := seens_len p kind (execAll p)
 have hsort := seenSort_fn (seensS p kind (execAll p)) (seens_small fun x hx => all_ok hx) (by omega)
 rw [progV_eq] at hsc
 rw [Sc.V_eq] at hsc hall
 rw [Bool.and_self, if_pos rfl]
 refine Fc.start (S := [12]) Tryz.func28 Tryz.ntmps28 Tryz.results28 rfl (by decide) rfl (by kernel_rfl) ?_
 simp (disch := omega) only [push_cast, go_sem, zA, simprocAttr, progV_eq]
 intro g2
 refine callR.pure h1 rfl rfl ?_
 simp (disch := omega) only [push_cast, go_sem, zA, simprocAttr, hok]
 refine callR.pure (isOrd_fn kind) rfl rfl ?_
 simp (disch := omega) only [push_cast, go_sem, zA, simprocAttr, hk]
 refine callR.pure hsc rfl rfl ?_
 simp (disch := omega) only [push_cast, go_sem, zA, simprocAttr]
 intro g5
 refine callR.pure hall rfl rfl ?_
 simp (disch := omega) only [push_cast, go_sem, zA, simprocAttr]
 refine Sat.loop (σ := EvS) (fun x => upd (upd (upd (upd (upd (upd noT 1 (.int .i64 kind)) 5 (.ptr 5 [] 0 0 g5 3)) 22 (.sl ((execAll p).map Exe.V))) 23 (.int .i64 (execAll p).length)) 24 (.int .i64 x.k)) 6 (.msl 6 [] x.γ (seensS p kind ((execAll p).take x.k)).length x.c))
  (fun x => (noM.set 5 (.own 74 (some g5) 1 [.agg [.sl ((scene p).p.map thrV), .sl ((scene p).es.map Evt.V), .sl ((scene p).ds.map Do.V)]])).set 6 (.own x.e x.γ x.c ((seensS p kind ((execAll p).take x.k)).map Sn.V)))
  (fun x => x.k ≤ (execAll p).length ∧ (x.γ = none ∨ x.e = 28)) (fun x => (execAll p).length - x.k) ⟨0, 0, none, 0⟩ (by simp) ?_ ?_
 ·(refine zB ?_; repeat (first | exact zC | exact zD | refine zE (by decide) ?_ | refine zF ?_ ?_ | refine zG ?_ ?_)) <;> (try simp (disch := omega) only [push_cast, go_sem, zA, simprocAttr])
  all_goals rfl
 rintro ⟨k, e, γ, c⟩ ⟨hi, hγ⟩ J hJ
 simp only at hi hγ hJ
 have hγ' : (γ = none ∨ e = 28) = True := by simp only [hγ]
 refine Sat.of (S := []) (by kernel_rfl) ?_
 rcases Nat.lt_or_ge k (execAll p).length with hlt | hge
 ·obtain ⟨x, hx⟩ : ∃ x, (execAll p)[k]? = some x := ⟨_, List.getElem?_eq_getElem hlt⟩
  have hxm := List.mem_of_getElem? hx
  have hxo := all_ok hxm
  have hw := Way.of hxo
  have hsm := specAll_small (p := p) (y := x) (by rw [← all_eq]; exact hxm)
  have hxs : x.small := ⟨by omega, by omega, fun r hr => by have := hsm.2.2 r hr; omega⟩
  have hse := hsee x hxm hxs
  have hst := settled_fn p x kind hw hxs hk
  have htk := take_get hx
  have hho : holdsS p x kind = (settledS p x kind).isSome := by
   have := hxo
   rw [ok_eq] at this
   rw [holdsS, this, hk]; rfl
  have hcl := seens_len p kind ((execAll p).take k)
  have htl : ((execAll p).take k).length = k := by rw [List.length_take]; omega
  rw [Exe.V_eq, Sc.V_eq] at hse hst
  rw [Sn.V_eq] at hse
  simp (disch := omega) only [push_cast, go_sem, zA, simprocAttr, hx, hlt, Exe.V_eq]
  intro g8
  cases hr : settledS p x kind with
  | none =>
   rw [hr] at hho hst
   rw [no_settle] at hst
   refine callR.pure hst rfl rfl ?_
   simp (disch := omega) only [push_cast, go_sem, zA, simprocAttr]
   refine hJ ⟨k + 1, e, γ, c⟩ _ _ ⟨by dsimp only; omega, hγ⟩ (by dsimp only; omega) ?_
   dsimp only
   rw [htk, seens_no hho]
   (refine zB ?_; repeat (first | exact zC | exact zD | refine zE (by decide) ?_ | refine zF ?_ ?_ | refine zG ?_ ?_)) <;> (try simp (disch := omega) only [push_cast, go_sem, zA, simprocAttr])
  | some r =>
   rw [hr] at hho hst
   rw [some_settle] at hst
   refine callR.pure hst rfl rfl ?_
   simp (disch := omega) only [push_cast, go_sem, zA, simprocAttr]
   refine callR.pure hse rfl rfl ?_
   simp (disch := omega) only [push_cast, go_sem, zA, simprocAttr, hγ']
   intro g40
   refine ⟨by omega, fun γ' c' _ => ?_⟩
   refine hJ ⟨k + 1, 28, γ', c'⟩ _ _ ⟨by dsimp only; omega, .inr rfl⟩ (by dsimp only; omega) ?_
   dsimp only
   rw [htk, seens_yes hho]
   (refine zB ?_; repeat (first | exact zC | exact zD | refine zE (by decide) ?_ | refine zF ?_ ?_ | refine zG ?_ ?_)) <;> (try simp (disch := omega) only [push_cast, go_sem, zA, simprocAttr])
   all_goals simp [Sn.V]
 ·have : k = (execAll p).length := by omega
  subst this
  simp (disch := omega) only [push_cast, go_sem, zA, simprocAttr, List.take_length]
  refine Sat.freezeT (upd noT 6 (.sl ((seensS p kind (execAll p)).map Sn.V))) noM 6 (e := e) (γ := γ) (cap := c) (es := (seensS p kind (execAll p)).map Sn.V) rfl ?_ ?_
  ·(refine zB ?_; repeat (first | exact zC | exact zD | refine zE (by decide) ?_ | refine zF ?_ ?_ | refine zG ?_ ?_)) <;> (try simp (disch := omega) only [push_cast, go_sem, zA, simprocAttr])
  refine Sat.of (S := []) (by kernel_rfl) ?_
  simp (disch := omega) only [push_cast, go_sem, zA, simprocAttr]
  refine callR.pure hsort rfl rfl ?_
  simp (disch := omega) only [push_cast, go_sem, zA, simprocAttr]
end
section
open Go.RowKit Go.Lib
def strictS (l : List Sn) : Prop := l.Pairwise fun s t => cmpS s t < 0
theorem cmpS_irr (s : Sn) : ¬ cmpS s s < 0 := by rw [cmpS_zero.2 rfl]; omega
theorem strict_nodup {l : List Sn} (h : strictS l) : l.Nodup := h.imp fun {a b} hab e => by subst e; exact cmpS_irr a hab
theorem strict_ext {l m : List Sn} (hl : strictS l) (hm : strictS m) (h : ∀ s, s ∈ l ↔ s ∈ m) : l = m := by
 have hp : l.Perm m := (List.perm_ext_iff_of_nodup (strict_nodup hl) (strict_nodup hm)).2 h
 refine List.Perm.eq_of_pairwise (le := fun s t => cmpS s t < 0) ?_ hl hm hp
 intro a b _ _ h1 h2
 exact absurd (cmpS_trans a b a h1 h2) (cmpS_irr a)
theorem mem_insP {s t : Sn} : ∀ {l : List Sn}, t ∈ insP l s ↔ t = s ∨ t ∈ l
 | [] => by simp [insP]
 | u :: l => by
  rw [insP]
  split
  ·simp
  ·rw [List.mem_cons, mem_insP, List.mem_cons]
   constructor
   ·rintro (h | h | h) <;> simp [h]
   ·rintro (h | h | h) <;> simp [h]
theorem strict_insP {s : Sn} : ∀ {l : List Sn}, strictS l → s ∉ l → strictS (insP l s)
 | [], _, _ => by simp [insP, strictS]
 | u :: l, h, hn => by
  rw [insP]
  have h' := List.pairwise_cons.1 h
  split
  ·rename_i hlt
   have hsu : cmpS s u < 0 := by have := cmpS_neg u s; omega
   refine List.pairwise_cons.2 ⟨fun t ht => ?_, h⟩
   rcases List.mem_cons.1 ht with rfl | ht
   ·exact hsu
   ·exact cmpS_trans _ _ _ hsu (h'.1 t ht)
  ·rename_i hlt
   have hne : u ≠ s := fun e => hn (by rw [e]; exact List.mem_cons_self ..)
   have hus : cmpS u s < 0 := by
    have : cmpS u s ≠ 0 := fun e => hne (cmpS_zero.1 e)
    omega
   refine List.pairwise_cons.2 ⟨fun t ht => ?_, strict_insP h'.2 fun hm => hn (List.mem_cons_of_mem _ hm)⟩
   rcases mem_insP.1 ht with rfl | ht
   ·exact hus
   ·exact h'.1 t ht
theorem mem_putS {L : List Sn} {s t : Sn} : t ∈ putS L s ↔ t ∈ L ∨ t = s := by
 rw [putS]
 split
 ·rename_i h
  have hs : s ∈ L := List.contains_iff_mem.1 h
  constructor
  ·exact .inl
  ·rintro (h | rfl)
   ·exact h
   ·exact hs
 ·rw [mem_insP]; exact ⟨fun h => h.symm, fun h => h.symm⟩
theorem strict_putS {L : List Sn} {s : Sn} (h : strictS L) : strictS (putS L s) := by
 rw [putS]
 split
 ·exact h
 ·rename_i hn
  exact strict_insP h fun hm => hn (List.contains_iff_mem.2 hm)
theorem fold_putS {l : List Sn} : ∀ {L : List Sn}, strictS L → strictS (l.foldl putS L) ∧ ∀ s, s ∈ l.foldl putS L ↔ s ∈ L ∨ s ∈ l := by
 induction l with
 | nil => intro L h; exact ⟨h, fun s => by simp⟩
 | cons a l ih =>
  intro L h
  rw [List.foldl_cons]
  obtain ⟨h1, h2⟩ := ih (strict_putS (s := a) h)
  refine ⟨h1, fun s => ?_⟩
  rw [h2, mem_putS, List.mem_cons, or_assoc]
theorem compact_strict {d : Array Sn} (h : d.toList.Pairwise fun s t => ¬ cmpS t s < 0) : ∀ m, m ≤ d.size → strictS (compactUpTo d m) ∧ (∀ s, s ∈ compactUpTo d m ↔ s ∈ d.toList.take m) ∧ (0 < m → ∃ l, compactUpTo d m = l ++ [d[m - 1]!])
 | 0, _ => ⟨by simp [compactUpTo, strictS], fun s => by simp [compactUpTo], fun h => absurd h (by omega)⟩
 | m + 1, hm => by
  obtain ⟨i1, i2, i3⟩ := compact_strict h m (by omega)
  have hd : d[m]! = d.toList[m]'(by simp; omega) := by rw [getElem!_pos d m (by omega)]; simp
  have htk : d.toList.take (m + 1) = d.toList.take m ++ [d[m]!] := by rw [List.take_add_one, List.getElem?_eq_getElem (by simp; omega), hd]; rfl
  rw [compactUpTo_succ, htk]
  cases hk : keeps d m
  ·have hk' : ¬ (m = 0 ∨ d[m]! ≠ d[m - 1]!) := by simpa [keeps] using hk
   have hm0 : 0 < m := by omega
   have he : d[m]! = d[m - 1]! := Classical.byContradiction fun hne => hk' (.inr hne)
   obtain ⟨l, hl⟩ := i3 hm0
   simp only [Bool.false_eq_true, if_false, List.append_nil]
   refine ⟨i1, fun s => ?_, fun _ => ⟨l, by rw [hl, Nat.add_sub_cancel, he]⟩⟩
   rw [List.mem_append, ← i2]
   constructor
   ·exact .inl
   ·rintro (h | h)
    ·exact h
    ·have : s = d[m - 1]! := by rw [← he]; simpa using h
     rw [hl, this]; simp
  ·simp only [if_true]
   refine ⟨?_, fun s => by rw [List.mem_append, List.mem_append, i2], fun _ => ⟨_, by rw [Nat.add_sub_cancel]⟩⟩
   refine List.pairwise_append.2 ⟨i1, by simp, fun a ha b hb => ?_⟩
   have hb' : b = d[m]! := by simpa using hb
   subst hb'
   by_cases hm0 : m = 0
   ·subst hm0; simp [compactUpTo] at ha
   ·have hne : d[m]! ≠ d[m - 1]! := by
     have : m = 0 ∨ d[m]! ≠ d[m - 1]! := by simpa [keeps] using hk
     exact this.resolve_left hm0
    have hpair : ∀ i j (hi : i < d.toList.length) (hj : j < d.toList.length), i < j → ¬ cmpS d.toList[j] d.toList[i] < 0 := fun i j hi hj hij => (List.pairwise_iff_getElem.1 h) i j hi hj hij
    have hlast : cmpS d[m - 1]! d[m]! < 0 := by
     have h1 := hpair (m - 1) m (by simp; omega) (by simp; omega) (by omega)
     have e1 : d[m - 1]! = d.toList[m - 1]'(by simp; omega) := by rw [getElem!_pos d (m - 1) (by omega)]; simp
     rw [← hd, ← e1] at h1
     have h2 := cmpS_neg d[m - 1]! d[m]!
     have h3 : cmpS d[m - 1]! d[m]! ≠ 0 := fun e => hne (cmpS_zero.1 e).symm
     omega
    obtain ⟨l, hl⟩ := i3 (by omega)
    rw [hl] at ha i1
    rcases List.mem_append.1 ha with ha | ha
    ·exact cmpS_trans _ _ _ ((List.pairwise_append.1 i1).2.2 a ha _ (by simp)) hlast
    ·have : a = d[m - 1]! := by simpa using ha
     rw [this]; exact hlast
theorem sortSn_pw (l : List Sn) : (sortSn l).Pairwise fun s t => ¬ cmpS t s < 0 := by
 have := List.pairwise_mergeSort (le := fun s t => !decide (cmpS t s < 0)) (fun a b c h1 h2 => by
  simp only [Bool.not_eq_true', decide_eq_false_iff_not] at *
  intro h3
  have e1 := cmpS_neg a b
  have e2 := cmpS_neg b c
  by_cases k1 : cmpS a b = 0
  ·rw [cmpS_zero.1 k1] at h3; exact h2 h3
  ·by_cases k2 : cmpS b c = 0
   ·rw [← cmpS_zero.1 k2] at h3; exact h1 h3
   ·have := cmpS_trans a b c (by omega) (by omega)
    have := cmpS_neg a c
    omega) (fun a b => by
  have := cmpS_neg a b
  simp only [Bool.or_eq_true, Bool.not_eq_true', decide_eq_false_iff_not]; omega) l
 exact this.imp fun h => by simpa using h
theorem seenS_eq (l : List Sn) : seenS l = l.foldl putS [] := by
 obtain ⟨h1, h2⟩ := fold_putS (l := l) (L := []) .nil
 have hc := compact_strict (d := (sortSn l).toArray) (by simpa using sortSn_pw l) (sortSn l).length (by simp)
 refine strict_ext hc.1 h1 fun s => ?_
 rw [h2]
 show s ∈ compactUpTo _ _ ↔ _
 rw [hc.2.1]
 simp [(sortSn_perm l).mem_iff]
theorem ordI_eq (p : Prog) (kind : Int) : ordI p kind = ordAll p kind := by
 rw [ordI, ordAll, all_eq, seenS_eq]
theorem mem_ord {p : Prog} {kind : Int} {s : Sn} : s ∈ ordAll p kind ↔ progOk p = true ∧ inB kind 1 3 = true ∧ ∃ x ∈ specAll p, holdsS p x kind = true ∧ seenF p x = s := by
 rw [ordAll]
 split
 ·rename_i h
  rw [Bool.and_eq_true] at h
  rw [(fold_putS (l := seensS p kind (specAll p)) (L := []) .nil).2]
  simp only [List.not_mem_nil, false_or, seensS, List.mem_map, List.mem_filter, h.1, h.2, true_and]
  constructor
  ·rintro ⟨x, ⟨h1, h2⟩, h3⟩; exact ⟨x, h1, h2, h3⟩
  ·rintro ⟨x, h1, h2, h3⟩; exact ⟨x, ⟨h1, h2⟩, h3⟩
 ·rename_i h
  constructor
  ·intro h'; cases h'
  ·rintro ⟨h1, h2, _⟩; exact absurd (by rw [h1, h2]; rfl) h
theorem ord_strict (p : Prog) (kind : Int) : strictS (ordAll p kind) := by
 rw [ordAll]
 split
 ·exact (fold_putS .nil).1
 ·exact .nil
theorem ord_ext {p q : Prog} {k m : Int} (h : ∀ s, s ∈ ordAll p k ↔ s ∈ ordAll q m) : ordAll p k = ordAll q m := strict_ext (ord_strict p k) (ord_strict q m) h
end
section
open Go.RowKit
theorem netR_late {p : Prog} {x : Exe} {a b : Nat} (h3 : netR p x 2 a b = true) : netR p x 1 a b = true := by
 have e1 : staysS p 2 a b = (ownB (events p) a b && !((dsA p a).writes && (dsA p b).reads)) := rfl
 have e2 : staysS p 1 a b = ownB (events p) a b := rfl
 have e3 : toldS p x 2 a b = ((apartS p a b && readS p x a b) || overS p x a b) := rfl
 have e4 : toldS p x 1 a b = (readS p x a b || overS p x a b) := rfl
 rw [netR, e1, e3] at h3
 rw [netR, e2, e4]
 simp only [Bool.and_eq_true, Bool.or_eq_true] at h3 ⊢
 rcases h3 with h3 | h3 | h3
 ·exact .inl h3.1
 ·exact .inr (.inl h3.2)
 ·exact .inr (.inr h3)
theorem looseS_late {p : Prog} {a b : Nat} (h : looseS p a b = true) : ((dsA p a).writes && (dsA p b).reads) = false := by
 have hw : (dsA p a).writes = true → (dsA p a).k = 1 ∨ (dsA p a).k = 3 ∨ (dsA p a).k = 6 := fun h => by simpa [Do.writes, or_assoc] using h
 have hr : (dsA p b).reads = true → (dsA p b).k = 2 ∨ (dsA p b).k = 5 := fun h => by simpa [Do.reads] using h
 rw [Bool.eq_false_iff]
 intro hh
 rw [Bool.and_eq_true] at hh
 have k1 := hw hh.1
 have k2 := hr hh.2
 have e1 : kd (scene p).ds a = (dsA p a).k := rfl
 have e2 : kd (scene p).ds b = (dsA p b).k := rfl
 simp only [looseS, wallB, insS, Bool.and_eq_true, Bool.or_eq_true, beq_iff_eq, e1, e2] at h
 omega
theorem netR_loose {p : Prog} {x : Exe} {a b : Nat} (h3 : netR p x 3 a b = true) : netR p x 2 a b = true := by
 have e1 : staysS p 2 a b = (ownB (events p) a b && !((dsA p a).writes && (dsA p b).reads)) := rfl
 have e2 : staysS p 3 a b = looseS p a b := rfl
 have e3 : toldS p x 2 a b = ((apartS p a b && readS p x a b) || overS p x a b) := rfl
 have e4 : toldS p x 3 a b = (apartS p a b && (readS p x a b || overS p x a b)) := rfl
 rw [netR, e2, e4, Bool.or_eq_true] at h3
 rw [netR, e1, e3, Bool.or_eq_true]
 rcases h3 with h3 | h3
 ·left
  rw [looseS_late h3]
  simp only [looseS, Bool.and_eq_true] at h3
  simp [h3.1]
 ·right
  simp only [Bool.and_eq_true, Bool.or_eq_true] at h3 ⊢
  rcases h3 with ⟨h3, h4 | h4⟩
  ·exact .inl ⟨h3, h4⟩
  ·exact .inr h4
theorem settle_less {n : Nat} {out : Nat → Nat} : ∀ {l : List (Nat × Nat)} {R R' : Nat → Nat → Bool}, (∀ a b, a < n → b < n → R' a b = true → R a b = true) → (settleR n out l R).isSome = true → (settleR n out l R').isSome = true
 | [], R, R', hs, h => by
  rw [settleR] at h ⊢
  cases hl : (lineE R n).isSome
  ·rw [hl] at h; cases h
  ·rw [line_less hs hl]; rfl
 | (e, i) :: l, R, R', hs, h => by
  rw [settleR] at h ⊢
  have wi : ∀ {x y : Nat}, ∀ a b, a < n → b < n → wiR R' x y a b = true → wiR R x y a b = true := by
   intro x y a b ha hb hh
   simp only [wiR, Bool.or_eq_true] at hh ⊢
   exact hh.imp (hs a b ha hb) id
  cases hl : (lineE R n).isSome
  ·rw [hl] at h; cases h
  ·rw [line_less hs hl]
   rw [hl] at h
   simp only [if_true, Option.isSome_or, Bool.or_eq_true] at h ⊢
   exact h.imp (settle_less wi) (settle_less wi)
theorem settled_less {p : Prog} {x : Exe} {k k' : Int} (hs : ∀ a b, netR p x k' a b = true → netR p x k a b = true) (h : (settledS p x k).isSome = true) : (settledS p x k').isSome = true := by
 rw [settledS] at h ⊢
 cases hl : (lineE (netR p x 0) (events p).length).isSome
 ·rw [hl] at h; cases h
 ·rw [hl] at h
  exact settle_less (fun a b _ _ => hs a b) h
theorem holdsS_late {p : Prog} {x : Exe} (h : holdsS p x 1 = true) : holdsS p x 2 = true := by
 simp only [holdsS, Bool.and_eq_true] at h ⊢
 exact ⟨⟨h.1.1, rfl⟩, settled_less (fun a b => netR_late) h.2⟩
theorem holdsS_loose {p : Prog} {x : Exe} (h : holdsS p x 2 = true) : holdsS p x 3 = true := by
 simp only [holdsS, Bool.and_eq_true] at h ⊢
 exact ⟨⟨h.1.1, rfl⟩, settled_less (fun a b => netR_loose) h.2⟩
end
section
open Go.RowKit
theorem l71Kind_pl (bs : List Int) (hb : Bytes bs) (g p : Nat) (hp : p < 2 ^ 29) : Fr Tryz.prog 41 [] g (rdO bs g p)
  (fun r o' => (∃ v : Int, r = .int .i64 v) ∧ ∃ q, p ≤ q ∧ q ≤ p + 2 ∧ o' = rdO bs g q) := by
 refine Fc.start (S := []) Tryz.func41 Tryz.ntmps41 Tryz.results41 rfl (by decide) rfl (by kernel_rfl) ?_
 simp (disch := omega) only [push_cast, go_sem, zA, simprocAttr]
 refine callR.rd (pick_rd bs hb g p (by omega) 24 (by omega)) rfl rfl rfl ?_
 rintro r o' ⟨v, rfl, hv0, hv1, _, rfl⟩
 simp (disch := omega) only [push_cast, go_sem, zA, simprocAttr]
 refine ⟨fun hv g1 => ?_, fun hv => ?_⟩
 ·refine callR.rd (pick_rd bs hb g (p + 1) (by omega) 3 (by omega)) rfl rfl rfl ?_
  rintro r o' ⟨u, rfl, hu0, hu1, _, rfl⟩
  have hu : u < 3 := hu1 (by omega)
  obtain ⟨n, rfl⟩ := Int.eq_ofNat_of_zero_le hu0
  obtain ⟨z, hz⟩ := ints_get (l := [.int .i64 0, .int .i64 4, .int .i64 (-1)]) (n := n) rfl (by simp; omega)
  simp (disch := omega) only [push_cast, go_sem, zA, simprocAttr, hz]
  refine ⟨by omega, _, Sub.set Sub.no rfl, _, ⟨⟨_, rfl⟩, p + 1 + 1, by omega, by omega, rfl⟩, rfl⟩
 ·refine callR.rd (pick_rd bs hb g (p + 1) (by omega) 3 (by omega)) rfl rfl rfl ?_
  rintro r o' ⟨u, rfl, hu0, hu1, _, rfl⟩
  simp (disch := omega) only [push_cast, go_sem, zA, simprocAttr]
  exact ⟨_, Sub.rfl, _, ⟨⟨_, rfl⟩, p + 1 + 1, by omega, by omega, rfl⟩, rfl⟩
end
section
open Go.RowKit
theorem specOrderAll_fn (p : Prog) (kind : Int) (hp : p.length < 2 ^ 40) : Fp Tryz.prog 31 [progV p, .int .i64 kind] (.sl ((ordAll p kind).map Sn.V)) := by
 have h1 := specAllF_fn p hp
 have h2 := l13All_fn p kind hp
 rw [progV_eq] at h1 h2
 refine Fc.start (S := []) Tryz.func31 Tryz.ntmps31 Tryz.results31 rfl (by decide) rfl (by kernel_rfl) ?_
 simp (disch := omega) only [push_cast, go_sem, zA, simprocAttr, progV_eq]
 intro g2
 refine Sat.drawnE [] [] (List.range 6) (pureT [(43, .sl ((specAll p).map Exe.V)), (68, .sl ((ordAll p kind).map Sn.V))]) (by kernel_rfl) (by kernel_rfl) ?_
 simp (disch := omega) only [push_cast, go_sem, zA, simprocAttr]
 refine runD_pure rfl h1 rfl rfl ?_ ?_
 ·rfl
 simp (disch := omega) only [push_cast, go_sem, zA, simprocAttr]
 refine runD_pure rfl h2 rfl rfl ?_ ?_
 ·rfl
 simp (disch := omega) only [push_cast, go_sem, zA, simprocAttr]
theorem ord_small {p : Prog} {kind : Int} : ∀ t ∈ ordAll p kind, t.small := by
 rw [ordAll]
 split
 ·exact acc_small (p := p) (kind := kind) (l := specAll p) fun x hx => all_ok (p := p) (x := x) (by rw [all_eq]; exact hx)
 ·exact fun t ht => by cases ht
theorem ord_len (p : Prog) (kind : Int) : (ordAll p kind).length < 2 ^ 30 := by
 rw [ordAll]
 split
 ·have := acc_len p kind (specAll p)
  have := specAll_le p
  rw [accS] at *; omega
 ·simp
end
section
open Go.RowKit
end
section
open Go.RowKit
end
end Go.Proofs.YtfbgabkcjjahiaaGreatDoor
