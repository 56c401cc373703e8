/-
 Contracts and plain laws.
-/
import Derived.Test.YtfbgabkcjjahiaaGreatDoorCd
import Derived.Test.YtfbgabkcjjahiaaGreatDoorCf
import Derived.Test.YtfbgabkcjjahiaaGreatDoorCh
set_option linter.unusedSimpArgs false
set_option linter.unusedVariables false
set_option linter.unusedSectionVars false
namespace Go.Proofs.YtfbgabkcjjahiaaGreatDoor
section
open Go.RowKit
section
variable (p : Prog) (x : Exe) (g : Nat) (c2 c3 c4 c5 : V) (a b : Nat)
theorem oloose_fn (hn : (events p).length ≤ 42) (ha : a < (events p).length) (hb : b < (events p).length) : Fo Tryz.prog 140 [.int .i64 a, .int .i64 b] g 6 (ordV p g c2 c3 c4 c5) (.bool (looseS p a b)) := by
 have h1 := odo_fn p g c2 c3 c4 c5 a ha
 have h2 := odo_fn p g c2 c3 c4 c5 b hb
 have h3 := oown_fn p g c2 c3 c4 c5 a b ha hb
 have h4 := oinside_fn p g c2 c3 c4 c5 a b hn ha hb
 have h5 := l12Source_fn p b hn hb
 have w1 := owall_fn (dsA p a)
 have w2 := owall_fn (dsA p b)
 rw [ordV_eq] at h1 h2 h3 h4
 rw [progV_eq] at h5
 rw [Do.V_eq] at w1 w2
 refine Fc.start (S := []) Tryz.func140 Tryz.ntmps140 Tryz.results140 rfl (by decide) rfl (by kernel_rfl) ?_
 simp (disch := omega) only [push_cast, go_sem, zA, simprocAttr, ordV_eq]
 refine callR.look h3 rfl rfl rfl ?_
 cases ho : ownB (events p) a b
 ·simp (disch := omega) only [push_cast, go_sem, zA, simprocAttr]
  refine ⟨_, Sub.rfl, ?_, rfl⟩
  simp [looseS, ho]
 simp (disch := omega) only [push_cast, go_sem, zA, simprocAttr]
 refine callR.look h1 rfl rfl rfl ?_
 simp (disch := omega) only [push_cast, go_sem, zA, simprocAttr, Do.V_eq]
 intro g7
 refine callR.look h2 rfl rfl rfl ?_
 simp (disch := omega) only [push_cast, go_sem, zA, simprocAttr, Do.V_eq]
 intro g8
 refine callR.pure w1 rfl rfl ?_
 have hl : looseS p a b = (wallB (dsA p a) || wallB (dsA p b) || (dsA p a).k == 5 || (dsA p b).k == 6 || insS p a b || ((dsA p b).k == 3 && srcOf (events p) (scene p).ds b b == (a : Int))) := by rw [looseS, ho, Bool.true_and]
 rw [hl]
 cases hw1 : wallB (dsA p a)
 rotate_left
 ·simp (disch := omega) only [push_cast, go_sem, zA, simprocAttr]
  refine ⟨_, ?_, rfl⟩
  ((repeat (first | exact Sub.no | refine Sub.set ?_ ?_)) <;> (try simp (disch := omega) only [push_cast, go_sem, zA, simprocAttr]))
 simp (disch := omega) only [push_cast, go_sem, zA, simprocAttr]
 refine callR.pure w2 rfl rfl ?_
 cases hw2 : wallB (dsA p b)
 rotate_left
 ·simp (disch := omega) only [push_cast, go_sem, zA, simprocAttr]
  refine ⟨_, ?_, rfl⟩
  ((repeat (first | exact Sub.no | refine Sub.set ?_ ?_)) <;> (try simp (disch := omega) only [push_cast, go_sem, zA, simprocAttr]))
 cases h5a : ((dsA p a).k == 5)
 rotate_left
 ·simp (disch := omega) only [push_cast, go_sem, zA, simprocAttr, h5a]
  refine ⟨_, ?_, rfl⟩
  ((repeat (first | exact Sub.no | refine Sub.set ?_ ?_)) <;> (try simp (disch := omega) only [push_cast, go_sem, zA, simprocAttr]))
 cases h6 : ((dsA p b).k == 6)
 rotate_left
 ·simp (disch := omega) only [push_cast, go_sem, zA, simprocAttr, h5a, h6]
  refine ⟨_, ?_, rfl⟩
  ((repeat (first | exact Sub.no | refine Sub.set ?_ ?_)) <;> (try simp (disch := omega) only [push_cast, go_sem, zA, simprocAttr]))
 simp (disch := omega) only [push_cast, go_sem, zA, simprocAttr, h5a, h6]
 refine callR.look h4 rfl rfl rfl ?_
 cases hin : insS p a b
 rotate_left
 ·simp (disch := omega) only [push_cast, go_sem, zA, simprocAttr]
  refine ⟨_, ?_, rfl⟩
  ((repeat (first | exact Sub.no | refine Sub.set ?_ ?_)) <;> (try simp (disch := omega) only [push_cast, go_sem, zA, simprocAttr]))
 simp (disch := omega) only [push_cast, go_sem, zA, simprocAttr]
 refine Sat.drawnE [] [] (List.range 18) (pureT [(150, .int .i64 (srcOf (events p) (scene p).ds b b))]) (by kernel_rfl) (by kernel_rfl) ?_
 cases h3 : ((dsA p b).k == 3)
 ·simp (disch := omega) only [push_cast, go_sem, zA, simprocAttr, h3]
  refine ⟨_, ?_, rfl⟩
  ((repeat (first | exact Sub.no | refine Sub.set ?_ ?_)) <;> (try simp (disch := omega) only [push_cast, go_sem, zA, simprocAttr]))
 ·simp (disch := omega) only [push_cast, go_sem, zA, simprocAttr, h3]
  refine runD_pure rfl h5 rfl rfl ?_ ?_
  ·rfl
  simp (disch := omega) only [push_cast, go_sem, zA, simprocAttr]
  refine ⟨_, ?_, rfl⟩
  ((repeat (first | exact Sub.no | refine Sub.set ?_ ?_)) <;> (try simp (disch := omega) only [push_cast, go_sem, zA, simprocAttr]))
theorem ostays_fn (hn : (events p).length ≤ 42) (kind : Int) (ha : a < (events p).length) (hb : b < (events p).length) : Fo Tryz.prog 106 [.int .i64 kind, .int .i64 a, .int .i64 b] g 6 (ordV p g (rdsV p) (wrtV p) c4 c5) (.bool (staysS p kind a b)) := by
 obtain ⟨ea, hea⟩ : ∃ e, (events p)[a]? = some e := ⟨_, List.getElem?_eq_getElem ha⟩
 obtain ⟨eb, heb⟩ : ∃ e, (events p)[b]? = some e := ⟨_, List.getElem?_eq_getElem hb⟩
 have hsl : (scene p).ds.length = (events p).length := by simp [scene]
 have hda : (scene p).ds[a]? = some (dsA p a) := by rw [dsA, scene_get hea]; rfl
 have hdb : (scene p).ds[b]? = some (dsA p b) := by rw [dsA, scene_get heb]; rfl
 have h1 := oown_fn p g (rdsV p) (wrtV p) c4 c5 a b ha hb
 have h2 := oloose_fn p g (rdsV p) (wrtV p) c4 c5 a b hn ha hb
 have h3 := osame_fn p g c4 c5 a b ha hb
 rw [ordV_eq, rdsV_eq, wrtV_eq] at h1 h2 h3
 unfold staysS
 refine Fc.start (S := []) Tryz.func106 Tryz.ntmps106 Tryz.results106 rfl (by decide) rfl (by kernel_rfl) ?_
 cases k1 : (kind == 1)
 rotate_left
 ·simp (disch := omega) only [push_cast, go_sem, zA, simprocAttr, ordV_eq, rdsV_eq, wrtV_eq, k1]
  refine callR.look h1 rfl rfl rfl ?_
  simp (disch := omega) only [push_cast, go_sem, zA, simprocAttr]
  first | exact ⟨_, Sub.rfl, rfl, rfl⟩ | exact ⟨_, Sub.rfl, rfl⟩
 cases k2 : (kind == 2)
 rotate_left
 ·simp (disch := omega) only [push_cast, go_sem, zA, simprocAttr, ordV_eq, rdsV_eq, wrtV_eq, k1, k2]
  refine callR.look h1 rfl rfl rfl ?_
  cases ho : ownB (events p) a b
  ·simp (disch := omega) only [push_cast, go_sem, zA, simprocAttr]
   first | exact ⟨_, Sub.rfl, rfl, rfl⟩ | exact ⟨_, Sub.rfl, rfl⟩
  cases hw : (dsA p a).writes <;> cases hr : (dsA p b).reads
  all_goals
   simp (disch := omega) only [push_cast, go_sem, zA, simprocAttr, hda, hdb, hsl, ha, hb, hw, hr]
   first | exact ⟨_, Sub.rfl, rfl, rfl⟩ | exact ⟨_, Sub.rfl, rfl⟩
 cases k3 : (kind == 3)
 rotate_left
 ·simp (disch := omega) only [push_cast, go_sem, zA, simprocAttr, ordV_eq, rdsV_eq, wrtV_eq, k1, k2, k3]
  refine callR.look h2 rfl rfl rfl ?_
  simp (disch := omega) only [push_cast, go_sem, zA, simprocAttr]
  first | exact ⟨_, Sub.rfl, rfl, rfl⟩ | exact ⟨_, Sub.rfl, rfl⟩
 simp (disch := omega) only [push_cast, go_sem, zA, simprocAttr, ordV_eq, rdsV_eq, wrtV_eq, k1, k2, k3]
 refine callR.look h1 rfl rfl rfl ?_
 cases ho : ownB (events p) a b
 ·simp (disch := omega) only [push_cast, go_sem, zA, simprocAttr]
  first | exact ⟨_, Sub.rfl, rfl, rfl⟩ | exact ⟨_, Sub.rfl, rfl⟩
 simp (disch := omega) only [push_cast, go_sem, zA, simprocAttr]
 refine callR.look h3 rfl rfl rfl ?_
 simp (disch := omega) only [push_cast, go_sem, zA, simprocAttr]
 first | exact ⟨_, Sub.rfl, rfl, rfl⟩ | exact ⟨_, Sub.rfl, rfl⟩
end
end
section
open Go.RowKit
section
variable (p : Prog) (x : Exe) (g : Nat) (a b : Nat)
theorem otold_fn (hx : x.fr.length = (events p).length) (hc : ∀ (i : Nat), i < (events p).length → 0 ≤ (dsA p i).p) (kind : Int) (ha : a < (events p).length) (hb : b < (events p).length) :
  Fo Tryz.prog 105 [.int .i64 kind, .int .i64 a, .int .i64 b] g 6 (ordV p g (rdsV p) (wrtV p) (.sl (x.fr.map (V.int .i64))) (.sl (((List.range (events p).length).map (rankS p x)).map (V.int .i64)))) (.bool (toldS p x kind a b)) := by
 obtain ⟨ea, hea⟩ : ∃ e, (events p)[a]? = some e := ⟨_, List.getElem?_eq_getElem ha⟩
 obtain ⟨eb, heb⟩ : ∃ e, (events p)[b]? = some e := ⟨_, List.getElem?_eq_getElem hb⟩
 have h1 := oread_fn p x g (.sl (((List.range (events p).length).map (rankS p x)).map (V.int .i64))) a b hx ha hb
 have h2 := oover_fn p x g (.sl (x.fr.map (V.int .i64))) a b hc ha hb
 rw [ordV_eq, rdsV_eq, wrtV_eq] at h1 h2
 obtain ⟨ap, hap⟩ : ∃ v, (ea.t != eb.t) = v := ⟨_, rfl⟩
 have e3 : apartS p a b = ap := by rw [apartS, th, th, hea, heb]; exact hap
 unfold toldS
 rw [e3]
 generalize ((List.range (events p).length).map (rankS p x)).map (V.int .i64) = rk at h1 h2 ⊢
 refine Fc.start (S := []) Tryz.func105 Tryz.ntmps105 Tryz.results105 rfl (by decide) rfl (by kernel_rfl) ?_
 simp (disch := omega) only [push_cast, go_sem, zA, simprocAttr, ordV_eq, rdsV_eq, wrtV_eq]
 refine Sat.drawnE [] [] (List.range 18) (fun _ _ _ => none) (by kernel_rfl) (by kernel_rfl) ?_
 simp (disch := omega) only [push_cast, go_sem, zA, simprocAttr, hea, heb, ha, hb, Evt.V_eq, hap]
 cases hrd : readS p x a b <;> cases hov : overS p x a b <;> rw [hrd] at h1 <;> rw [hov] at h2
 all_goals
  cases k1 : (kind == 2)
  ·cases k2 : (kind == 3)
   ·simp (disch := omega) only [push_cast, go_sem, zA, simprocAttr, k1, k2]
    refine callR.look h1 rfl rfl rfl ?_
    simp (disch := omega) only [push_cast, go_sem, zA, simprocAttr]
    try (refine callR.look h2 rfl rfl rfl ?_; simp (disch := omega) only [push_cast, go_sem, zA, simprocAttr])
    first | exact ⟨_, Sub.rfl, rfl, rfl⟩ | exact ⟨_, Sub.rfl, rfl⟩
   ·cases ap
    ·simp (disch := omega) only [push_cast, go_sem, zA, simprocAttr, k1, k2]
     first | exact ⟨_, Sub.rfl, rfl, rfl⟩ | exact ⟨_, Sub.rfl, rfl⟩
    ·simp (disch := omega) only [push_cast, go_sem, zA, simprocAttr, k1, k2]
     refine callR.look h1 rfl rfl rfl ?_
     simp (disch := omega) only [push_cast, go_sem, zA, simprocAttr]
     try (refine callR.look h2 rfl rfl rfl ?_; simp (disch := omega) only [push_cast, go_sem, zA, simprocAttr])
     first | exact ⟨_, Sub.rfl, rfl, rfl⟩ | exact ⟨_, Sub.rfl, rfl⟩
  ·cases ap
   ·simp (disch := omega) only [push_cast, go_sem, zA, simprocAttr, k1]
    refine callR.look h2 rfl rfl rfl ?_
    simp (disch := omega) only [push_cast, go_sem, zA, simprocAttr]
    first | exact ⟨_, Sub.rfl, rfl, rfl⟩ | exact ⟨_, Sub.rfl, rfl⟩
   ·simp (disch := omega) only [push_cast, go_sem, zA, simprocAttr, k1]
    refine callR.look h1 rfl rfl rfl ?_
    simp (disch := omega) only [push_cast, go_sem, zA, simprocAttr]
    try (refine callR.look h2 rfl rfl rfl ?_; simp (disch := omega) only [push_cast, go_sem, zA, simprocAttr])
    first | exact ⟨_, Sub.rfl, rfl, rfl⟩ | exact ⟨_, Sub.rfl, rfl⟩
end
theorem rank_fn (zs : List Int) (z : Int) (hl : zs.length < 2 ^ 40) : Fp Tryz.prog 103 [.sl (zs.map (V.int .i64)), .int .i64 z] (.int .i64 (Lib.idxOf zs z)) := by
 refine Fc.start (S := [6]) Tryz.func103 Tryz.ntmps103 Tryz.results103 rfl (by decide) rfl (by kernel_rfl) ?_
 simp (disch := omega) only [push_cast, go_sem, zA, simprocAttr]
 refine Sat.loop (σ := Nat) (fun k => upd (upd (upd noT 0 (.sl (zs.map (V.int .i64)))) 1 (.int .i64 z)) 5 (.int .i64 k)) (fun _ => noM)
  (fun k => k ≤ zs.length ∧ Lib.idxOf zs z = Lib.idxFrom (zs.drop k) z k) (fun k => zs.length - k) 0 ⟨by omega, rfl⟩ ?_ ?_
 ·(refine zB ?_; repeat (first | exact zC | exact zD | refine zE (by decide) ?_ | refine zF ?_ ?_ | refine zG ?_ ?_)) <;> (try simp (disch := omega) only [push_cast, go_sem, zA, simprocAttr])
 rintro k ⟨hk, hc⟩ J hJ
 refine Sat.of (S := []) (by kernel_rfl) ?_
 rcases Nat.lt_or_ge k zs.length with hlt | hge
 ·obtain ⟨y, hy⟩ : ∃ z, zs[k]? = some z := ⟨_, List.getElem?_eq_getElem hlt⟩
  rw [drop_get hy, Lib.idxFrom] at hc
  cases hyz : (y == z)
  ·have hyz' : ¬ y = z := by simpa using hyz
   rw [if_neg hyz'] at hc
   simp (disch := omega) only [push_cast, go_sem, zA, simprocAttr, hy, hlt, hyz]
   refine hJ (k + 1) _ _ ⟨by omega, hc⟩ (by omega) ?_
   (refine zB ?_; repeat (first | exact zC | exact zD | refine zE (by decide) ?_ | refine zF ?_ ?_ | refine zG ?_ ?_)) <;> (try simp (disch := omega) only [push_cast, go_sem, zA, simprocAttr])
  ·have hyz' : y = z := by simpa using hyz
   rw [if_pos hyz'] at hc
   simp (disch := omega) only [push_cast, go_sem, zA, simprocAttr, hy, hlt, hyz]
   exact hc.symm
 ·have : k = zs.length := by omega
  subst this
  rw [List.drop_length, Lib.idxFrom] at hc
  simp (disch := omega) only [push_cast, go_sem, zA, simprocAttr]
  refine Sat.of (S := []) (by kernel_rfl) ?_
  simp (disch := omega) only [push_cast, go_sem, zA, simprocAttr]
  exact hc.symm
end
section
open Go.RowKit
structure Exe.few (x : Exe) : Prop where
 fr : x.fr.length ≤ 43
 od : x.od.length = 3
 row : ∀ r ∈ x.od, r.length ≤ 43
theorem modInts (l : List Int) (k : Nat) (z : Int) : (l.map (V.int .i64)).modify k (fun x => x.setC 0 (V.int .i64 z)) = (l.set k z).map (V.int .i64) := by
 apply List.ext_getElem?
 intro i
 rw [List.getElem?_modify, List.getElem?_map, List.getElem?_map, List.getElem?_set]
 by_cases h : k = i
 ·subst h
  cases hl : l[k]? with
  | none => have := List.getElem?_eq_none_iff.1 hl; simp; omega
  | some a => have := (List.getElem?_eq_some_iff.1 hl).1; simp [this, V.setC]
 ·simp [h]
end
section
open Go.RowKit
@[push_cast] theorem fzs_bool {α : Type} (f : α → Bool) (l : List α) : (l.map fun d => V.bool (f d)).map V.fz = l.map fun d => V.bool (f d) := by rw [List.map_map]; exact List.map_congr_left fun d _ => rfl
@[push_cast] theorem flatL_bool {α : Type} (f : α → Bool) (l : List α) : flatL (l.map fun d => V.bool (f d)) = true := by simp [flatL, V.cells, V.flatC]
theorem rds_take (p : Prog) (f : Do → Bool) {k : Nat} {d : Do} (h : (scene p).ds[k]? = some d) : ((scene p).ds.take (k + 1)).map (fun d => V.bool (f d)) = ((scene p).ds.take k).map (fun d => V.bool (f d)) ++ [.bool (f d)] := by
 rw [take_get h, List.map_append]; rfl
theorem olook_fn (p : Prog) (hp : p.length < 2 ^ 40) (hok : progOk p = true) : Fc Tryz.prog 59 [progV p] noM (fun r m => ∃ ob, (∃ g, r = .ptr 100 [] 0 0 g 6 ∧ ob = ordV p g (rdsV p) (wrtV p) (.own 0 none 0 []) (.own 0 none 0 [])) ∧ m = noM.set 100 ob) := by
 have hel := events_le hok
 have hsl : (scene p).ds.length = (events p).length := by simp [scene]
 have hev := specExecEvents_fn p hp
 rw [hok, if_pos rfl] at hev
 refine Fc.rekeyP (R' := fun r m => ∃ g, r = .ptr 2 [] 0 0 g 6 ∧ m = noM.set 2 (ordV p g (rdsV p) (wrtV p) (.own 0 none 0 []) (.own 0 none 0 []))) ?_ ?_
 rotate_left
 ·rintro r m ⟨g, rfl, rfl⟩
  exact ⟨2, g, 6, _, rfl, rfl, _, ⟨g, rfl, rfl⟩, era_set rfl⟩
 rw [progV_eq] at hev
 refine Fc.start (S := [7]) Tryz.func59 Tryz.ntmps59 Tryz.results59 rfl (by decide) rfl (by kernel_rfl) ?_
 simp (disch := omega) only [push_cast, go_sem, zA, simprocAttr, progV_eq]
 intro g1
 refine Sat.drawnE [] [] [0, 1, 2] (pureT [(75, .sl ((events p).map Evt.V))]) (by kernel_rfl) (by kernel_rfl) ?_
 simp (disch := omega) only [push_cast, go_sem, zA, simprocAttr]
 refine runD_pure rfl hev rfl rfl ?_ ?_
 ·rfl
 simp (disch := omega) only [push_cast, go_sem, zA, simprocAttr]
 intro g3
 refine Sat.loop (σ := Nat × Rw × Rw) (fun x => upd (upd noT 3 (.ptr 3 [] 0 0 g3 6)) 4 (.int .i64 x.1)) (fun x => noM.set 3 (.own 134 (some g3) 1 [.agg [.sl (p.map thrV), .sl ((events p).map Evt.V), .own x.2.1.e x.2.1.γ x.2.1.c (((scene p).ds.take x.1).map fun d => .bool d.reads), .own x.2.2.e x.2.2.γ x.2.2.c (((scene p).ds.take x.1).map fun d => .bool d.writes), .own 0 none 0 [], .own 0 none 0 []]]))
  (fun x => x.1 ≤ (events p).length ∧ (x.2.1.γ = none ∨ x.2.1.e = 4) ∧ (x.2.2.γ = none ∨ x.2.2.e = 4)) (fun x => (events p).length - x.1) (0, ⟨0, none, 0⟩, ⟨0, none, 0⟩) ⟨by omega, .inl rfl, .inl rfl⟩ ?_ ?_
 ·(refine zB ?_; repeat (first | exact zC | exact zD | refine zE (by decide) ?_ | refine zF ?_ ?_ | refine zG ?_ ?_)) <;> (try simp (disch := omega) only [push_cast, go_sem, zA, simprocAttr])
  all_goals simp
 rintro ⟨k, ⟨e1, γ1, c1⟩, ⟨e2, γ2, c2⟩⟩ ⟨hk, hγ1, hγ2⟩ J hJ
 simp only at hk hγ1 hγ2 hJ
 have hγ1' : (γ1 = none ∨ e1 = 4) = True := by simp only [hγ1]
 have hγ2' : (γ2 = none ∨ e2 = 4) = True := by simp only [hγ2]
 refine Sat.of (S := []) (by kernel_rfl) ?_
 rcases Nat.lt_or_ge k (events p).length with hlt | hge
 ·obtain ⟨ek, hek⟩ : ∃ e, (events p)[k]? = some e := ⟨_, List.getElem?_eq_getElem hlt⟩
  have hdk : (scene p).ds[k]? = some (dsA p k) := by rw [dsA, scene_get hek]; rfl
  have htl : ((scene p).ds.take k).length = k := by rw [List.length_take]; omega
  have h1 := odo_fn p g3 (.own e1 γ1 c1 (((scene p).ds.take k).map fun d => .bool d.reads)) (.own e2 γ2 c2 (((scene p).ds.take k).map fun d => .bool d.writes)) (.own 0 none 0 []) (.own 0 none 0 []) k hlt
  rw [ordV_eq, Do.V_eq] at h1
  have hr := l1Reads_fn (dsA p k)
  have hw := l1Writes_fn (dsA p k)
  rw [Do.V_eq] at hr hw
  simp (disch := omega) only [push_cast, go_sem, zA, simprocAttr, hlt]
  refine Sat.drawnE [(4, 9)] [] [4, 7, 8] (lookT (.own 134 (some g3) 1 [.agg [.sl (p.map thrV), .sl ((events p).map Evt.V), .own e1 γ1 c1 (((scene p).ds.take k).map fun d => .bool d.reads), .own e2 γ2 c2 (((scene p).ds.take k).map fun d => .bool d.writes), .own 0 none 0 [], .own 0 none 0 []]]) [(72, .bool (dsA p k).reads)] [(102, (dsA p k).V)]) (by kernel_rfl) (by kernel_rfl) ?_
  simp (disch := omega) only [push_cast, go_sem, zA, simprocAttr]
  refine runD_look h1 rfl rfl rfl rfl rfl ?_ ?_
  ·rfl
  simp (disch := omega) only [push_cast, go_sem, zA, simprocAttr, Do.V_eq]
  refine runD_pure rfl hr rfl rfl ?_ ?_
  ·rfl
  simp (disch := omega) only [push_cast, go_sem, zA, simprocAttr, hγ1', htl]
  intro g28
  refine ⟨by omega, fun γ3 c3 _ => ?_⟩
  have h2 := odo_fn p g3 (.own 4 γ3 c3 (((scene p).ds.take (k + 1)).map fun d => .bool d.reads)) (.own e2 γ2 c2 (((scene p).ds.take k).map fun d => .bool d.writes)) (.own 0 none 0 []) (.own 0 none 0 []) k hlt
  rw [rds_take p Do.reads hdk, ordV_eq, Do.V_eq] at h2
  refine Sat.drawnE [(4, 9)] [] [4, 7, 8] (lookT (.own 134 (some g3) 1 [.agg [.sl (p.map thrV), .sl ((events p).map Evt.V), .own 4 γ3 c3 ((((scene p).ds.take k).map fun d => .bool d.reads) ++ [.bool (dsA p k).reads]), .own e2 γ2 c2 (((scene p).ds.take k).map fun d => .bool d.writes), .own 0 none 0 [], .own 0 none 0 []]]) [(73, .bool (dsA p k).writes)] [(102, (dsA p k).V)]) (by kernel_rfl) (by kernel_rfl) ?_
  simp (disch := omega) only [push_cast, go_sem, zA, simprocAttr]
  refine runD_look h2 rfl rfl rfl rfl rfl ?_ ?_
  ·rfl
  simp (disch := omega) only [push_cast, go_sem, zA, simprocAttr, Do.V_eq]
  refine runD_pure rfl hw rfl rfl ?_ ?_
  ·rfl
  simp (disch := omega) only [push_cast, go_sem, zA, simprocAttr, hγ2', htl]
  intro g41
  refine ⟨by omega, fun γ4 c4 _ => ?_⟩
  refine hJ (k + 1, ⟨4, γ3, c3⟩, ⟨4, γ4, c4⟩) _ _ ⟨by dsimp only; omega, .inr rfl, .inr rfl⟩ (by dsimp only; omega) ?_
  dsimp only
  rw [rds_take p Do.reads hdk, rds_take p Do.writes hdk]
  (refine zB ?_; repeat (first | exact zC | exact zD | refine zE (by decide) ?_ | refine zF ?_ ?_ | refine zG ?_ ?_)) <;> (try simp (disch := omega) only [push_cast, go_sem, zA, simprocAttr])
 ·have : k = (events p).length := by omega
  subst this
  simp (disch := omega) only [push_cast, go_sem, zA, simprocAttr]
  refine Sat.freezeC 3 [] 0 2 (n0 := .own 134 (some g3) 1 [.agg [.sl (p.map thrV), .sl ((events p).map Evt.V), .own e1 γ1 c1 (((scene p).ds.take (events p).length).map fun d => .bool d.reads), .own e2 γ2 c2 (((scene p).ds.take (events p).length).map fun d => .bool d.writes), .own 0 none 0 [], .own 0 none 0 []]]) (d := .own e1 γ1 c1 (((scene p).ds.take (events p).length).map fun d => .bool d.reads)) rfl rfl rfl ?_
  have f1 : (V.own e1 γ1 c1 (((scene p).ds.take (events p).length).map fun d => .bool d.reads)).fz = rdsV p := by rw [← hsl, List.take_length]; simp only [V.fz, fzs_map, fzs_bool, rdsV]
  have f2 : (V.own e2 γ2 c2 (((scene p).ds.take (events p).length).map fun d => .bool d.writes)).fz = wrtV p := by rw [← hsl, List.take_length]; simp only [V.fz, fzs_map, fzs_bool, wrtV]
  rw [f1]
  refine Sat.freezeC 3 [] 0 3 (n0 := .own 134 (some g3) 1 [.agg [.sl (p.map thrV), .sl ((events p).map Evt.V), rdsV p, .own e2 γ2 c2 (((scene p).ds.take (events p).length).map fun d => .bool d.writes), .own 0 none 0 [], .own 0 none 0 []]]) (d := .own e2 γ2 c2 (((scene p).ds.take (events p).length).map fun d => .bool d.writes)) rfl rfl rfl ?_
  rw [f2]
  refine Sat.of (S := []) (by kernel_rfl) ?_
  simp (disch := omega) only [push_cast, go_sem, zA, simprocAttr, rdsV_eq, wrtV_eq]
  refine ⟨_, ?_, g3, rfl, rfl⟩
  rw [ordV_eq]
  ((repeat (first | exact Sub.no | refine Sub.set ?_ ?_)) <;> (try simp (disch := omega) only [push_cast, go_sem, zA, simprocAttr]))
def rnk (p : Prog) (x : Exe) (k : Nat) : List Int := (List.range (events p).length).map fun i => if i < k then rankS p x i else 0
theorem rnk_zero (p : Prog) (x : Exe) : rnk p x 0 = List.replicate (events p).length 0 := by
 rw [rnk, List.eq_replicate_iff]
 exact ⟨by simp, fun b hb => by simp at hb; exact hb.2.symm⟩
theorem rnk_all (p : Prog) (x : Exe) : rnk p x (events p).length = (List.range (events p).length).map (rankS p x) := by
 rw [rnk]
 exact List.map_congr_left fun i hi => if_pos (List.mem_range.1 hi)
theorem rnk_succ (p : Prog) (x : Exe) (k : Nat) : rnk p x (k + 1) = (rnk p x k).set k (rankS p x k) := by
 apply List.ext_getElem?
 intro i
 rw [rnk, rnk, List.getElem?_set, List.getElem?_map, List.getElem?_map, List.length_map, List.length_range]
 by_cases hi : i < (events p).length
 ·rw [List.getElem?_range hi]
  by_cases hk : k = i
  ·subst hk; simp [hi]
  ·have e : i < k + 1 ↔ i < k := by omega
   simp [hk, e]
 ·have : (List.range (events p).length)[i]? = none := by simp; omega
  rw [this]
  by_cases hk : k = i
  ·subst hk; simp [hi]
  ·simp [hk]
theorem rnk_same (p : Prog) (x : Exe) {k : Nat} (h : rankS p x k = 0) : rnk p x (k + 1) = rnk p x k := by
 rw [rnk, rnk]
 refine List.map_congr_left fun i hi => ?_
 by_cases hk : i = k
 ·subst hk; simp [h]
 ·have e : i < k + 1 ↔ i < k := by omega
  simp [e]
end
section
open Go.RowKit
section
variable {P : Program} {M : Mem} {k : V → Mem → Prop}
theorem callR.mod {f : FuncId} {bs : List V} {g a n : Nat} {o : V} {Q : V → V → Prop} {d : Option Nat} (h : Fc P f (.ptr 0 [] 0 0 g n :: bs) (noM.set 0 o) fun r m => ∃ o', Q r o' ∧ m = noM.set 0 o') (hM : M a = some o) (hk : (bs.all fun v => v.key.isNone) = true) (h9 : Nat.ble (bs.length + 1) 90 = true)
  (hK : ∀ r o', Q r o' → runV (some (True, det (resN d r) (M.set a o'))) k .mk) : callR P f (.ptr a [] 0 0 g n :: bs) d M k .mk := by
 have hk' : ((bs.map V.key).all fun x => x.isNone) = true := by rw [List.all_map]; exact hk
 refine callR.intro (F := noM.set 0 o) (R := fun r m => ∃ o', Q r o' ∧ m = noM.set 0 o') (by rw [look_args hk]; exact h) (look_nodup hk) (Nat.le_of_ble_eq_true h9) (Sub.set Sub.no (look_foot hM)) ?_
 rintro r0 Mf ⟨o', hq, rfl⟩
 have : mergeM M ((V.ptr a [] 0 0 g n :: bs).map V.key) d (noM.set 0 o') = M.set a o' := by
  rw [merge_eq, List.map_cons]
  have e1 : (noM.set 0 o') 100 = none := rfl
  have e2 : (noM.set 0 o') 0 = some o' := rfl
  rw [e1, mgD_none', key_ptr, mg_some, e2, mg_all_none hk', MemU_some]
 rw [this]
 exact ((runV_det.1 (hK r0 o' hq)).2)
end
end
section
open Go.RowKit
def rowP (f : Nat → Bool) (n b : Nat) : List Bool := (List.range n).map fun j => decide (j < b) && f j
theorem rowP_len (f : Nat → Bool) (n b : Nat) : (rowP f n b).length = n := by simp [rowP]
theorem rowP_zero (f : Nat → Bool) (n : Nat) : rowP f n 0 = List.replicate n false := by
 rw [rowP, List.eq_replicate_iff]
 refine ⟨by simp, fun b hb => ?_⟩
 simp only [List.mem_map] at hb
 obtain ⟨i, _, rfl⟩ := hb
 simp
theorem rowP_all (f : Nat → Bool) (n : Nat) : rowP f n n = (List.range n).map f :=
 List.map_congr_left fun i hi => by simp [List.mem_range.1 hi]
theorem rowP_set (f : Nat → Bool) (n b : Nat) : (rowP f n b).set b (f b) = rowP f n (b + 1) := by
 apply List.ext_getElem?
 intro i
 rw [List.getElem?_set, rowP_len, rowP, rowP, List.getElem?_map, List.getElem?_map]
 by_cases hi : i < n
 ·rw [List.getElem?_range hi]
  by_cases h : b = i
  ·subst h; simp [hi]
  ·have e1 : (i < b + 1) = (i < b) := by simp; omega
   simp [h, e1]
 ·have : (List.range n)[i]? = none := by simp; omega
  rw [this]
  by_cases h : b = i
  ·subst h; simp [hi]
  ·simp [h]
theorem netL_take (R : Nat → Nat → Bool) {n a : Nat} (ha : a < n) : (netL R n).take (a + 1) = (netL R n).take a ++ [(List.range n).map (R a)] := take_get (netL_get ha)
theorem onet_fn (p : Prog) (g : Nat) (c4 c5 : V) (hn : (events p).length ≤ 42) (kind : Int) :
  Fo Tryz.prog 62 [.int .i64 kind] g 6 (ordV p g (rdsV p) (wrtV p) c4 c5) (netE (netL (staysS p kind) (events p).length)) := by
 have hst := fun a b ha hb => ostays_fn p g c4 c5 a b hn kind ha hb
 rw [ordV_eq, rdsV_eq, wrtV_eq] at hst ⊢
 obtain ⟨n, hnn⟩ : ∃ n, (events p).length = n := ⟨_, rfl⟩
 rw [hnn] at hn hst ⊢
 have hNl := netL_len (staysS p kind) n
 refine Fc.start (S := [11]) Tryz.func62 Tryz.ntmps62 Tryz.results62 rfl (by decide) rfl (by kernel_rfl) ?_
 simp (disch := omega) only [push_cast, go_sem, zA, simprocAttr]
 intro g5
 refine Sat.loop (σ := EvS) (fun x => upd (upd (upd (upd noT 0 (.ptr 0 [] 0 0 g 6)) 1 (.int .i64 kind)) 5 (.ptr 5 [] 0 0 g5 1)) 6 (.int .i64 x.k))
  (fun x => (noM.set 0 (.own 134 (some g) 1 [.agg [.sl (p.map thrV), .sl ((events p).map Evt.V), .sl ((scene p).ds.map fun d => .bool d.reads), .sl ((scene p).ds.map fun d => .bool d.writes), c4, c5]])).set 5 (.own 140 (some g5) 1 [.agg [.own x.e x.γ x.c (((netL (staysS p kind) n).take x.k).map boolsV)]]))
  (fun x => x.k ≤ n ∧ (x.γ = none ∨ x.e = 132)) (fun x => n - x.k) ⟨0, 0, none, 0⟩ (by simp) ?_ ?_
 ·(refine zB ?_; repeat (first | exact zC | exact zD | refine zE (by decide) ?_ | refine zF ?_ ?_ | refine zG ?_ ?_)) <;> (try simp (disch := omega) only [push_cast, go_sem, zA, simprocAttr])
 rintro ⟨a, e, γ, c⟩ ⟨ha, hγ⟩ J hJ
 simp only at ha hγ hJ
 refine Sat.of (S := [11]) (by kernel_rfl) ?_
 rcases Nat.lt_or_ge a n with hlt | hge
 ·simp (disch := omega) only [push_cast, go_sem, zA, simprocAttr, hlt, hnn]
  refine ⟨by omega, fun gr => ?_⟩
  refine Sat.loop (σ := Nat) (fun b => upd (upd (upd (upd (upd (upd noT 0 (.ptr 0 [] 0 0 g 6)) 1 (.int .i64 kind)) 5 (.ptr 5 [] 0 0 g5 1)) 6 (.int .i64 a)) 7 (.msl 7 [] (some gr) n n)) 8 (.int .i64 b))
   (fun b => ((noM.set 0 (.own 134 (some g) 1 [.agg [.sl (p.map thrV), .sl ((events p).map Evt.V), .sl ((scene p).ds.map fun d => .bool d.reads), .sl ((scene p).ds.map fun d => .bool d.writes), c4, c5]])).set 5 (.own 140 (some g5) 1 [.agg [.own e γ c (((netL (staysS p kind) n).take a).map boolsV)]])).set 7 (.own 4 (some gr) n ((rowP (staysS p kind a) n b).map V.bool)))
   (fun b => b ≤ n) (fun b => n - b) 0 (by omega) ?_ ?_
  ·(refine zB ?_; repeat (first | exact zC | exact zD | refine zE (by decide) ?_ | refine zF ?_ ?_ | refine zG ?_ ?_)) <;> (try simp (disch := omega) only [push_cast, go_sem, zA, simprocAttr])
   all_goals rw [rowP_zero]; simp
  rintro b hb J2 hJ2
  have hpl := rowP_len (staysS p kind a) n b
  rcases Nat.lt_or_ge b n with hlt2 | hge2
  ·refine Sat.of (S := [11]) (by kernel_rfl) ?_
   simp (disch := omega) only [push_cast, go_sem, zA, simprocAttr, hlt2, hnn]
   refine callR.look (hst a b hlt hlt2) rfl rfl rfl ?_
   obtain ⟨z, hz⟩ : ∃ z, (rowP (staysS p kind a) n b)[b]? = some z := ⟨_, List.getElem?_eq_getElem (by omega)⟩
   simp (disch := omega) only [push_cast, go_sem, zA, simprocAttr, hlt2, hpl, hz]
   refine hJ2 (b + 1) _ _ (by omega) (by omega) ?_
   rw [← rowP_set]
   (refine zB ?_; repeat (first | exact zC | exact zD | refine zE (by decide) ?_ | refine zF ?_ ?_ | refine zG ?_ ?_)) <;> (try simp (disch := omega) only [push_cast, go_sem, zA, simprocAttr])
  ·have : b = n := by omega
   subst this
   have hγ' : (γ = none ∨ e = 132) = True := by simp only [hγ]
   have htl : ((netL (staysS p kind) b).take a).length = a := by rw [List.length_take, hNl]; omega
   rw [rowP_all]
   refine Sat.freezeT (upd (upd (upd (upd (upd (upd noT 0 (.ptr 0 [] 0 0 g 6)) 1 (.int .i64 kind)) 5 (.ptr 5 [] 0 0 g5 1)) 6 (.int .i64 a)) 8 (.int .i64 b)) 7 (boolsV ((List.range b).map (staysS p kind a))))
    ((noM.set 0 (.own 134 (some g) 1 [.agg [.sl (p.map thrV), .sl ((events p).map Evt.V), .sl ((scene p).ds.map fun d => .bool d.reads), .sl ((scene p).ds.map fun d => .bool d.writes), c4, c5]])).set 5 (.own 140 (some g5) 1 [.agg [.own e γ c (((netL (staysS p kind) b).take a).map boolsV)]]))
    7 (e := 4) (γ := some gr) (cap := b) (es := ((List.range b).map (staysS p kind a)).map V.bool) rfl ?_ ?_
   ·(refine zB ?_; repeat (first | exact zC | exact zD | refine zE (by decide) ?_ | refine zF ?_ ?_ | refine zG ?_ ?_)) <;> (try simp (disch := omega) only [push_cast, go_sem, zA, simprocAttr])
    simp [boolsV]
   refine Sat.of (S := [11]) (by kernel_rfl) ?_
   simp (disch := omega) only [push_cast, go_sem, zA, simprocAttr, hnn, hγ', htl, boolsV_eq]
   intro g49
   refine ⟨by omega, fun γ6 c6 _ => ?_⟩
   refine hJ ⟨a + 1, 132, γ6, c6⟩ _ _ ⟨by dsimp only; omega, .inr rfl⟩ (by dsimp only; omega) ?_
   dsimp only
   rw [netL_take _ hlt]
   (refine zB ?_; repeat (first | exact zC | exact zD | refine zE (by decide) ?_ | refine zF ?_ ?_ | refine zG ?_ ?_)) <;> (try simp (disch := omega) only [push_cast, go_sem, zA, simprocAttr])
   all_goals simp [boolsV]
 ·have : a = n := by omega
  subst this
  simp (disch := omega) only [push_cast, go_sem, zA, simprocAttr, hnn]
  refine Sat.fixP (o := 5) (g := g5) (e := 140) (cap := 1) (es := [.agg [.own e γ c (((netL (staysS p kind) a).take a).map boolsV)]]) (T := upd noT 5 (netE (netL (staysS p kind) a))) rfl ?_ ?_
  ·refine Fx.ptr Fx.nil rfl rfl (by kernel_rfl) ?_
   have htk : (netL (staysS p kind) a).take a = netL (staysS p kind) a := List.take_of_length_le (by omega)
   simp only [V.cells, List.drop_zero, List.map_cons, List.map_nil, V.fz, fzs_map, fzs_bls, htk]
  refine Sat.of (S := []) (by kernel_rfl) ?_
  simp (disch := omega) only [push_cast, go_sem, zA, simprocAttr, netE_eq]
  refine ⟨_, ?_, rfl⟩
  ((repeat (first | exact Sub.no | refine Sub.set ?_ ?_)) <;> (try simp (disch := omega) only [push_cast, go_sem, zA, simprocAttr]))
def upR (R T : Nat → Nat → Bool) (a b : Nat) : Nat → Nat → Bool := fun x y => R x y || (T x y && (decide (x < a) || (x == a && decide (y < b))))
def bothR (R T : Nat → Nat → Bool) : Nat → Nat → Bool := fun x y => R x y || T x y
theorem upR_zero (R T : Nat → Nat → Bool) (n : Nat) : netL (upR R T 0 0) n = netL R n := netL_congr fun a b _ _ => by simp [upR]
theorem upR_next (R T : Nat → Nat → Bool) (n a : Nat) : netL (upR R T a n) n = netL (upR R T (a + 1) 0) n := netL_congr fun x y _ hy => by
 simp only [upR]
 by_cases h : x < a
 ·have : x < a + 1 := by omega
  simp [h, this]
 ·by_cases h2 : x = a
  ·subst h2; simp [hy]
  ·have h3 : ¬ x < a + 1 := by omega
   simp [h, h2, h3]
theorem upR_all (R T : Nat → Nat → Bool) (n : Nat) : netL (upR R T n 0) n = netL (bothR R T) n := netL_congr fun x y hx _ => by simp [upR, bothR, hx]
theorem upR_no {R T : Nat → Nat → Bool} {n a b : Nat} (h : T a b = false) : netL (upR R T a (b + 1)) n = netL (upR R T a b) n := netL_congr fun x y _ _ => by
 simp only [upR]
 by_cases h2 : x = a
 ·subst h2
  by_cases h3 : y = b
  ·subst h3; simp [h]
  ·have : (y < b + 1) = (y < b) := by simp; omega
   simp [this]
 ·have h9 : (x == a) = false := by simpa using h2
  simp [h9]
theorem upR_yes {R T : Nat → Nat → Bool} {n a b : Nat} (h : T a b = true) : netL (upR R T a (b + 1)) n = netL (wiR (upR R T a b) a b) n := netL_congr fun x y _ _ => by
 simp only [upR, wiR]
 by_cases h2 : x = a
 ·subst h2
  by_cases h3 : y = b
  ·subst h3; simp [h]
  ·have h4 : (y < b + 1) = (y < b) := by simp; omega
   simp [h4, h3]
 ·have h9 : (x == a) = false := by simpa using h2
  simp [h9]
theorem owhole_fn (p : Prog) (x : Exe) (g : Nat) (R : Nat → Nat → Bool) (hn : (events p).length ≤ 42) (hfr : x.fr.length = (events p).length) (hc : ∀ (i : Nat), i < (events p).length → 0 ≤ (dsA p i).p) (kind : Int) :
  Fo Tryz.prog 61 [netE (netL R (events p).length), .int .i64 kind] g 6 (ordV p g (rdsV p) (wrtV p) (.sl (x.fr.map (V.int .i64))) (.sl (((List.range (events p).length).map (rankS p x)).map (V.int .i64)))) (netE (netL (bothR R (toldS p x kind)) (events p).length)) := by
 have hto := fun a b ha hb => otold_fn p x g a b hfr hc kind ha hb
 rw [ordV_eq, rdsV_eq, wrtV_eq] at hto ⊢
 obtain ⟨n, hnn⟩ : ∃ n, (events p).length = n := ⟨_, rfl⟩
 generalize hrk : V.sl (((List.range (events p).length).map (rankS p x)).map (V.int .i64)) = rk at hto ⊢
 rw [hnn] at hn hto ⊢
 have hNl := netL_len R n
 have hcp := ncopy_fn (netL R n) (by rw [hNl]; omega) (fun l hl => by
  simp only [netL, List.mem_map] at hl
  obtain ⟨i, _, rfl⟩ := hl
  simp; omega)
 rw [netE_eq] at hcp
 refine Fc.start (S := [10]) Tryz.func61 Tryz.ntmps61 Tryz.results61 rfl (by decide) rfl (by kernel_rfl) ?_
 simp (disch := omega) only [push_cast, go_sem, zA, simprocAttr, netE_eq]
 refine callR.new hcp rfl rfl ?_
 rintro r ob ⟨g7, e, γ, c, xs, rfl, rfl, h1, h2, h3⟩
 simp (disch := omega) only [push_cast, go_sem, zA, simprocAttr, netO_eq]
 refine Sat.loop (σ := Nat × List RowN) (fun y => upd (upd (upd (upd noT 0 (.ptr 0 [] 0 0 g 6)) 2 (.int .i64 kind)) 7 (.ptr 7 [] 0 0 g7 1)) 8 (.int .i64 y.1))
  (fun y => (noM.set 0 (.own 134 (some g) 1 [.agg [.sl (p.map thrV), .sl ((events p).map Evt.V), .sl ((scene p).ds.map fun d => .bool d.reads), .sl ((scene p).ds.map fun d => .bool d.writes), .sl (x.fr.map (V.int .i64)), rk]])).set 7 (.own 140 (some g7) 1 [.agg [.own e γ c (y.2.map RowN.V)]]))
  (fun y => y.1 ≤ n ∧ (∀ z ∈ y.2, z.γ = none ∨ z.e = 4) ∧ y.2.map RowN.l = netL (upR R (toldS p x kind) y.1 0) n) (fun y => n - y.1) (0, xs) ⟨by dsimp only; omega, h2, by dsimp only; rw [h3, upR_zero]⟩ ?_ ?_
 ·(refine zB ?_; repeat (first | exact zC | exact zD | refine zE (by decide) ?_ | refine zF ?_ ?_ | refine zG ?_ ?_)) <;> (try simp (disch := omega) only [push_cast, go_sem, zA, simprocAttr])
 rintro ⟨a, ys⟩ ⟨ha, hye, hys⟩ J hJ
 simp only at ha hye hys hJ
 refine Sat.of (S := [10]) (by kernel_rfl) ?_
 rcases Nat.lt_or_ge a n with hlt | hge
 ·simp (disch := omega) only [push_cast, go_sem, zA, simprocAttr, hlt, hnn]
  refine Sat.loop (σ := Nat × List RowN) (fun y => upd (upd (upd (upd (upd noT 0 (.ptr 0 [] 0 0 g 6)) 2 (.int .i64 kind)) 7 (.ptr 7 [] 0 0 g7 1)) 8 (.int .i64 a)) 9 (.int .i64 y.1))
   (fun y => (noM.set 0 (.own 134 (some g) 1 [.agg [.sl (p.map thrV), .sl ((events p).map Evt.V), .sl ((scene p).ds.map fun d => .bool d.reads), .sl ((scene p).ds.map fun d => .bool d.writes), .sl (x.fr.map (V.int .i64)), rk]])).set 7 (.own 140 (some g7) 1 [.agg [.own e γ c (y.2.map RowN.V)]]))
   (fun y => y.1 ≤ n ∧ (∀ z ∈ y.2, z.γ = none ∨ z.e = 4) ∧ y.2.map RowN.l = netL (upR R (toldS p x kind) a y.1) n) (fun y => n - y.1) (0, ys) ⟨by dsimp only; omega, hye, hys⟩ ?_ ?_
  ·(refine zB ?_; repeat (first | exact zC | exact zD | refine zE (by decide) ?_ | refine zF ?_ ?_ | refine zG ?_ ?_)) <;> (try simp (disch := omega) only [push_cast, go_sem, zA, simprocAttr])
  rintro ⟨b, zs⟩ ⟨hb, hze, hzs⟩ J2 hJ2
  simp only at hb hze hzs hJ2
  rcases Nat.lt_or_ge b n with hlt2 | hge2
  ·have hzl : zs.length = n := by have := congrArg List.length hzs; rw [List.length_map, netL_len] at this; exact this
   refine Sat.someP (o := 7) (q := [(0, 0)]) (e := e) (γ := γ) (cap := c) (es := zs.map RowN.V) rfl ?_ ?_
   ·intro h0
    have := congrArg List.length h0
    rw [List.length_map, hzl] at this; simp at this; omega
   intro g1 hg1
   subst hg1
   obtain rfl : e = 132 := h1.resolve_left nofun
   obtain ⟨⟨e1, γ1, c1, l1⟩, hrow⟩ : ∃ row, zs[a]? = some row := ⟨_, List.getElem?_eq_getElem (by omega)⟩
   have hl1 : l1 = (List.range n).map (upR R (toldS p x kind) a b a) := by
    have := netL_get (R := upR R (toldS p x kind) a b) hlt
    rw [← hzs, List.getElem?_map, hrow] at this
    simpa using this
   have hll : l1.length = n := by rw [hl1]; simp
   refine Sat.someP (o := 7) (q := [(0, 0), (a, 0)]) (e := e1) (γ := γ1) (cap := c1) (es := l1.map V.bool) ?_ ?_ ?_
   ·simp [Mem.getP, Mem.set, V.getP, V.cellAt, hrow, RowN.V, V.cells]
   ·intro h0
    have := congrArg List.length h0
    rw [List.length_map, hll] at this; simp at this; omega
   rintro g2 rfl
   obtain rfl : e1 = 4 := (hze _ (List.mem_of_getElem? hrow)).resolve_left nofun
   obtain ⟨z, hz⟩ : ∃ z, l1[b]? = some z := ⟨_, List.getElem?_eq_getElem (by omega)⟩
   refine Sat.of (S := [10]) (by kernel_rfl) ?_
   simp (disch := omega) only [push_cast, go_sem, zA, simprocAttr, hlt2, hnn]
   refine callR.look (hto a b hlt hlt2) rfl rfl rfl ?_
   cases hT : toldS p x kind a b
   ·simp (disch := omega) only [push_cast, go_sem, zA, simprocAttr]
    refine hJ2 (b + 1, zs) _ _ ⟨by dsimp only; omega, hze, by dsimp only; rw [hzs, upR_no hT]⟩ (by dsimp only; omega) ?_
    (refine zB ?_; repeat (first | exact zC | exact zD | refine zE (by decide) ?_ | refine zF ?_ ?_ | refine zG ?_ ?_)) <;> (try simp (disch := omega) only [push_cast, go_sem, zA, simprocAttr])
   ·simp (disch := omega) only [push_cast, go_sem, zA, simprocAttr, hrow, hzl, hlt, RowN.V_eq, hll, hlt2, hz]
    refine hJ2 (b + 1, zs.set a ⟨4, some g2, c1, l1.set b true⟩) _ _ ⟨by dsimp only; omega, ?_, ?_⟩ (by dsimp only; omega) ?_
    ·intro y hy
     rcases List.mem_or_eq_of_mem_set hy with hy | hy
     ·exact hze y hy
     ·rw [hy]; exact .inr rfl
    ·dsimp only
     rw [upR_yes hT, ← netL_wi hlt hlt2, ← hzs]
     apply List.ext_getElem?
     intro i
     rw [List.getElem?_modify, List.getElem?_map, List.getElem?_map, List.getElem?_set]
     by_cases h : a = i
     ·subst h
      obtain ⟨k1, k2⟩ := List.getElem?_eq_some_iff.1 hrow
      simp [k1, k2]
     ·simp [h]
    ·(refine zB ?_; repeat (first | exact zC | exact zD | refine zE (by decide) ?_ | refine zF ?_ ?_ | refine zG ?_ ?_)) <;> (try simp (disch := omega) only [push_cast, go_sem, zA, simprocAttr])
  ·have : b = n := by omega
   subst this
   refine Sat.of (S := [10]) (by kernel_rfl) ?_
   simp (disch := omega) only [push_cast, go_sem, zA, simprocAttr, hnn]
   refine hJ (a + 1, zs) _ _ ⟨by dsimp only; omega, hze, by dsimp only; rw [hzs, upR_next]⟩ (by dsimp only; omega) ?_
   (refine zB ?_; repeat (first | exact zC | exact zD | refine zE (by decide) ?_ | refine zF ?_ ?_ | refine zG ?_ ?_)) <;> (try simp (disch := omega) only [push_cast, go_sem, zA, simprocAttr])
 ·have : a = n := by omega
  subst this
  simp (disch := omega) only [push_cast, go_sem, zA, simprocAttr, hnn]
  refine Sat.fixP (o := 7) (g := g7) (e := 140) (cap := 1) (es := [.agg [.own e γ c (ys.map RowN.V)]]) (T := upd noT 7 (netE (netL (bothR R (toldS p x kind)) a))) rfl ?_ ?_
  ·refine Fx.ptr Fx.nil rfl rfl (by kernel_rfl) ?_
   simp only [V.cells, List.drop_zero, List.map_cons, List.map_nil, V.fz, fzs_map, fz_rowsN, hys, upR_all]
  refine Sat.of (S := []) (by kernel_rfl) ?_
  simp (disch := omega) only [push_cast, go_sem, zA, simprocAttr, netE_eq]
  refine ⟨_, ?_, rfl⟩
  ((repeat (first | exact Sub.no | refine Sub.set ?_ ?_)) <;> (try simp (disch := omega) only [push_cast, go_sem, zA, simprocAttr]))
end
section
open Go.RowKit
theorem oouts_fn (p : Prog) (g : Nat) (c2 c3 c4 c5 : V) (hok : progOk p = true) (i : Nat) (hi : i < (events p).length) (h7 : kd (scene p).ds i = 7) :
  Fo Tryz.prog 108 [.int .i64 i] g 6 (ordV p g c2 c3 c4 c5) (.int .i64 (outA p i)) := by
 obtain ⟨hq, h8⟩ := outA_spec hok hi h7
 have hel := events_le hok
 obtain ⟨t, ht⟩ : ∃ t, outA p i = t := ⟨_, rfl⟩
 rw [ht] at hq h8 ⊢
 have hdo := fun a ha => odo_fn p g c2 c3 c4 c5 a ha
 have hown := fun a b ha hb => oown_fn p g c2 c3 c4 c5 a b ha hb
 have hlt := hq.lt
 have htl := hq.tl
 rw [ordV_eq] at hdo hown ⊢
 refine Fc.start (S := []) Tryz.func108 Tryz.ntmps108 Tryz.results108 rfl (by decide) rfl (by kernel_rfl) ?_
 simp (disch := omega) only [push_cast, go_sem, zA, simprocAttr]
 refine Sat.loop (σ := Nat) (fun k => upd (upd (upd noT 0 (.ptr 0 [] 0 0 g 6)) 1 (.int .i64 i)) 5 (.int .i64 k)) (fun k => (noM.set 0 (.own 134 (some g) 1 [.agg [.sl (p.map thrV), .sl ((events p).map Evt.V), c2, c3, c4, c5]])))
  (fun k => i < k ∧ k ≤ t) (fun k => t - k) (i + 1) ⟨by omega, by omega⟩ ?_ ?_
 ·(refine zB ?_; repeat (first | exact zC | exact zD | refine zE (by decide) ?_ | refine zF ?_ ?_ | refine zG ?_ ?_)) <;> (try simp (disch := omega) only [push_cast, go_sem, zA, simprocAttr])
 rintro k ⟨hk, hkt⟩ J hJ
 refine Sat.of (S := []) (by kernel_rfl) ?_
 have hkn : k < (events p).length := by omega
 have how : ownB (events p) i k = true := by
  have hs : th (events p) i = th (events p) k := by
   rcases Nat.lt_or_ge k t with h | h
   ·exact ((hq.no k hk h).2.2).symm
   ·have : k = t := by omega
    subst this; exact hq.same
  simp only [th] at hs
  simp [ownB, hk, hs]
 have hd := hdo k hkn
 rw [Do.V_eq] at hd
 simp (disch := omega) only [push_cast, go_sem, zA, simprocAttr, hkn]
 refine callR.look (hown i k hi hkn) rfl rfl rfl ?_
 rw [how]
 simp (disch := omega) only [push_cast, go_sem, zA, simprocAttr]
 refine callR.look hd rfl rfl rfl ?_
 rcases Nat.lt_or_ge k t with h | h
 ·have h8' : ((dsA p k).k == 8) = false := by
   have := (hq.no k hk h).2.1
   simpa [kd, dsA] using this
  simp (disch := omega) only [push_cast, go_sem, zA, simprocAttr, h8']
  refine hJ (k + 1) _ _ ⟨by omega, by omega⟩ (by omega) ?_
  (refine zB ?_; repeat (first | exact zC | exact zD | refine zE (by decide) ?_ | refine zF ?_ ?_ | refine zG ?_ ?_)) <;> (try simp (disch := omega) only [push_cast, go_sem, zA, simprocAttr])
 ·have : k = t := by omega
  subst this
  have h8' : ((dsA p k).k == 8) = true := by simpa [kd, dsA] using h8
  simp (disch := omega) only [push_cast, go_sem, zA, simprocAttr, h8']
  refine ⟨_, ?_, rfl⟩
  ((repeat (first | exact Sub.no | refine Sub.set ?_ ?_)) <;> (try simp (disch := omega) only [push_cast, go_sem, zA, simprocAttr]))
theorem chIn_pre (ds : List Do) (e : Nat) {j : Nat} (h7 : kd ds j = 7) : ∀ {n : Nat}, j < n → ∃ r, chIn ds e n = chIn ds e j ++ (e, j) :: r
 | 0, h => absurd h (by omega)
 | n + 1, h => by
  rcases Nat.lt_or_ge j n with hj | hj
  ·obtain ⟨r, hr⟩ := chIn_pre ds e h7 hj
   exact ⟨r ++ (if kd ds n == 7 then [(e, n)] else []), by rw [chIn, hr]; simp⟩
  ·have : j = n := by omega
   subst this
   exact ⟨[], by rw [chIn, h7]; rfl⟩
theorem chRef_pre {p : Prog} {w j : Nat} (h9 : kd (scene p).ds w = 9) (hl : ltA (events p) w = false) (h7 : kd (scene p).ds j = 7) (hj : j < (scene p).ds.length) : ∀ {n : Nat}, w < n → ∃ r, chRef p n = (chRef p w ++ chIn (scene p).ds (w + 1) j) ++ (w + 1, j) :: r
 | 0, h => absurd h (by omega)
 | n + 1, h => by
  rcases Nat.lt_or_ge w n with hw | hw
  ·obtain ⟨r, hr⟩ := chRef_pre h9 hl h7 hj hw
   exact ⟨r ++ (if kd (scene p).ds n == 9 && !ltA (events p) n then chIn (scene p).ds (n + 1) (scene p).ds.length else []), by rw [chRef, hr]; simp⟩
  ·have : w = n := by omega
   subst this
   obtain ⟨r, hr⟩ := chIn_pre (scene p).ds (w + 1) h7 hj
   exact ⟨r, by rw [chRef, h9, hl]; simp [hr]⟩
theorem chIn_succ (ds : List Do) (e j : Nat) : (chIn ds e (j + 1)).length = (chIn ds e j).length + (if kd ds j == 7 then 1 else 0) := by
 rw [chIn, List.length_append]; split <;> rfl
theorem chRef_succ (p : Prog) (w : Nat) : (chRef p (w + 1)).length = (chRef p w).length + (if kd (scene p).ds w == 9 && !ltA (events p) w then (chIn (scene p).ds (w + 1) (scene p).ds.length).length else 0) := by
 rw [chRef, List.length_append]; split <;> rfl
theorem chRef_le (p : Prog) (hn : (scene p).ds.length ≤ 62) : ∀ k, (chRef p k).length ≤ k * 62
 | 0 => by simp [chRef]
 | k + 1 => by
  have h1 := chRef_le p hn k
  have h2 := chIn_le (scene p).ds (k + 1) (scene p).ds.length
  rw [chRef_succ]
  split <;> omega
theorem owaits_fn (p : Prog) (g : Nat) (c4 c5 : V) (hok : progOk p = true) : ∀ (m frm : Nat) (R : Nat → Nat → Bool), (chRef p (events p).length).length - frm = m → frm ≤ (chRef p (events p).length).length →
  Fo Tryz.prog 64 [netE (netL R (events p).length), .int .i64 frm] g 6 (ordV p g (rdsV p) (wrtV p) c4 c5) (.bool (settleR (events p).length (outA p) ((chRef p (events p).length).drop frm) R).isSome) := by
 have hel := events_le hok
 have hsl : (scene p).ds.length = (events p).length := by simp [scene]
 have hcl := chRef_le p (by omega) (events p).length
 have hdo := fun a ha => odo_fn p g (rdsV p) (wrtV p) c4 c5 a ha
 have hout := fun i hi h7 => oouts_fn p g (rdsV p) (wrtV p) c4 c5 hok i hi h7
 have hpre := @chRef_pre p
 have hoq := fun i hi h7 => (outA_spec hok (i := i) hi h7).1.tl
 have hnx := @wait_next p
 rw [ordV_eq, rdsV_eq, wrtV_eq] at hdo hout
 obtain ⟨n, hnn⟩ : ∃ n, (events p).length = n := ⟨_, rfl⟩
 rw [hnn] at hsl hel hcl hdo hout hoq hnx ⊢
 obtain ⟨CL, hCL⟩ : ∃ l, chRef p n = l := ⟨_, rfl⟩
 rw [hCL] at hcl ⊢
 intro m
 induction m using Nat.strongRecOn with
 | _ m ih =>
 intro frm R hm hfl
 have hho := holds_fn R n (by omega)
 rw [ordV_eq, rdsV_eq, wrtV_eq] at ih ⊢
 rw [netE_eq] at hho
 refine Fc.start (S := []) Tryz.func64 Tryz.ntmps64 Tryz.results64 rfl (by decide) rfl (by kernel_rfl) ?_
 simp (disch := omega) only [push_cast, go_sem, zA, simprocAttr, netE_eq]
 refine callR.pure hho rfl rfl ?_
 cases hl : lineE R n with
 | none =>
  simp (disch := omega) only [push_cast, go_sem, zA, simprocAttr, Option.isSome_none]
  rw [settle_no hl]
  refine ⟨_, ?_, rfl, rfl⟩
  ((repeat (first | exact Sub.no | refine Sub.set ?_ ?_)) <;> (try simp (disch := omega) only [push_cast, go_sem, zA, simprocAttr]))
 | some ls =>
  simp (disch := omega) only [push_cast, go_sem, zA, simprocAttr, Option.isSome_some]
  refine Sat.loop (σ := Nat) (fun w => upd (upd (upd (upd (upd noT 0 (.ptr 0 [] 0 0 g 6)) 1 (.eptr [.sl ((netL R n).map boolsV)])) 2 (.int .i64 frm)) 7 (.int .i64 (chRef p w).length)) 8 (.int .i64 w)) (fun w => noM.set 0 (.own 134 (some g) 1 [.agg [.sl (p.map thrV), .sl ((events p).map Evt.V), .sl ((scene p).ds.map fun d => .bool d.reads), .sl ((scene p).ds.map fun d => .bool d.writes), c4, c5]]))
   (fun w => w ≤ n ∧ (chRef p w).length ≤ frm) (fun w => n - w) 0 ⟨by omega, by simp [chRef]⟩ ?_ ?_
  ·(refine zB ?_; repeat (first | exact zC | exact zD | refine zE (by decide) ?_ | refine zF ?_ ?_ | refine zG ?_ ?_)) <;> (try simp (disch := omega) only [push_cast, go_sem, zA, simprocAttr])
   all_goals simp [chRef]
  rintro w ⟨hw, hwf⟩ J hJ
  refine Sat.of (S := []) (by kernel_rfl) ?_
  rcases Nat.lt_or_ge w n with hlt | hge
  ·obtain ⟨ew, hew⟩ : ∃ e, (events p)[w]? = some e := ⟨_, List.getElem?_eq_getElem (by omega)⟩
   have hwe : w < (events p).length := by omega
   have hkw : kd (scene p).ds w = (dsA p w).k := rfl
   have hlw : ltA (events p) w = ew.l := by rw [ltA, hew]; rfl
   have hdw := hdo w hlt
   rw [Do.V_eq] at hdw
   simp (disch := omega) only [push_cast, go_sem, zA, simprocAttr, hlt, hnn]
   refine callR.look hdw rfl rfl rfl ?_
   cases h9 : ((dsA p w).k == 9)
   ·have h9' : ((dsA p w).k != 9) = true := by simp [bne, h9]
    simp (disch := omega) only [push_cast, go_sem, zA, simprocAttr, h9']
    have hcs : (chRef p (w + 1)).length = (chRef p w).length := by rw [chRef_succ, hkw, h9]; simp
    refine hJ (w + 1) _ _ ⟨by omega, by omega⟩ (by omega) ?_
    rw [hcs]
    (refine zB ?_; repeat (first | exact zC | exact zD | refine zE (by decide) ?_ | refine zF ?_ ?_ | refine zG ?_ ?_)) <;> (try simp (disch := omega) only [push_cast, go_sem, zA, simprocAttr])
   have h9' : ((dsA p w).k != 9) = false := by simp [bne, h9]
   cases hll : ew.l
   rotate_left
   ·simp (disch := omega) only [push_cast, go_sem, zA, simprocAttr, h9', hew, hwe, Evt.V_eq, hll]
    have hcs : (chRef p (w + 1)).length = (chRef p w).length := by rw [chRef_succ, hlw, hll]; simp
    refine hJ (w + 1) _ _ ⟨by omega, by omega⟩ (by omega) ?_
    rw [hcs]
    (refine zB ?_; repeat (first | exact zC | exact zD | refine zE (by decide) ?_ | refine zF ?_ ?_ | refine zG ?_ ?_)) <;> (try simp (disch := omega) only [push_cast, go_sem, zA, simprocAttr])
   simp (disch := omega) only [push_cast, go_sem, zA, simprocAttr, h9', hew, hwe, Evt.V_eq, hll]
   have h9k : kd (scene p).ds w = 9 := by rw [hkw]; simpa using h9
   have hlwf : ltA (events p) w = false := by rw [hlw, hll]
   have hw1 := (hnx hlt h9k hlwf).1
   refine Sat.loop (σ := Nat) (fun j => upd (upd (upd (upd (upd (upd noT 0 (.ptr 0 [] 0 0 g 6)) 1 (.eptr [.sl ((netL R n).map boolsV)])) 2 (.int .i64 frm)) 7 (.int .i64 ((chRef p w).length + (chIn (scene p).ds (w + 1) j).length : Nat))) 8 (.int .i64 w)) 9 (.int .i64 j)) (fun _ => noM.set 0 (.own 134 (some g) 1 [.agg [.sl (p.map thrV), .sl ((events p).map Evt.V), .sl ((scene p).ds.map fun d => .bool d.reads), .sl ((scene p).ds.map fun d => .bool d.writes), c4, c5]]))
    (fun j => j ≤ n ∧ (chRef p w).length + (chIn (scene p).ds (w + 1) j).length ≤ frm) (fun j => n - j) 0 ⟨by omega, by simpa [chIn] using hwf⟩ ?_ ?_
   ·(refine zB ?_; repeat (first | exact zC | exact zD | refine zE (by decide) ?_ | refine zF ?_ ?_ | refine zG ?_ ?_)) <;> (try simp (disch := omega) only [push_cast, go_sem, zA, simprocAttr])
    all_goals simp [chIn]
   rintro j ⟨hj, hjf⟩ J2 hJ2
   refine Sat.of (S := []) (by kernel_rfl) ?_
   have hcw := chRef_le p (by omega) w
   have hci := chIn_le (scene p).ds (w + 1) j
   rcases Nat.lt_or_ge j n with hlt2 | hge2
   ·have hkj : kd (scene p).ds j = (dsA p j).k := rfl
    have hdj := hdo j hlt2
    rw [Do.V_eq] at hdj
    simp (disch := omega) only [push_cast, go_sem, zA, simprocAttr, hlt2, hnn]
    refine callR.look hdj rfl rfl rfl ?_
    cases h7 : ((dsA p j).k == 7)
    ·have h7' : ((dsA p j).k != 7) = true := by simp [bne, h7]
     simp (disch := omega) only [push_cast, go_sem, zA, simprocAttr, h7']
     have hcs : (chIn (scene p).ds (w + 1) (j + 1)).length = (chIn (scene p).ds (w + 1) j).length := by rw [chIn_succ, hkj, h7]; simp
     refine hJ2 (j + 1) _ _ ⟨by omega, by omega⟩ (by omega) ?_
     rw [hcs]
     (refine zB ?_; repeat (first | exact zC | exact zD | refine zE (by decide) ?_ | refine zF ?_ ?_ | refine zG ?_ ?_)) <;> (try simp (disch := omega) only [push_cast, go_sem, zA, simprocAttr])
    have h7' : ((dsA p j).k != 7) = false := by simp [bne, h7]
    have h7k : kd (scene p).ds j = 7 := by rw [hkj]; simpa using h7
    rcases Nat.lt_or_ge ((chRef p w).length + (chIn (scene p).ds (w + 1) j).length) frm with hcf | hcf
    ·have hng : ¬ ((frm : Int) < ((chRef p w).length : Int) + ((chIn (scene p).ds (w + 1) j).length : Int) + 1) := by omega
     simp (disch := omega) only [push_cast, go_sem, zA, simprocAttr, h7', hng]
     have hcs : (chIn (scene p).ds (w + 1) (j + 1)).length = (chIn (scene p).ds (w + 1) j).length + 1 := by rw [chIn_succ, hkj, h7]; simp
     refine hJ2 (j + 1) _ _ ⟨by omega, by omega⟩ (by omega) ?_
     rw [hcs]
     (refine zB ?_; repeat (first | exact zC | exact zD | refine zE (by decide) ?_ | refine zF ?_ ?_ | refine zG ?_ ?_)) <;> (try simp (disch := omega) only [push_cast, go_sem, zA, simprocAttr])
     all_goals omega
    ·have hg : ((frm : Int) < ((chRef p w).length : Int) + ((chIn (scene p).ds (w + 1) j).length : Int) + 1) := by omega
     obtain ⟨r, hr⟩ := hpre h9k hlwf h7k (by omega) hlt
     rw [hCL] at hr
     have hfe : frm = (chRef p w ++ chIn (scene p).ds (w + 1) j).length := by rw [List.length_append]; omega
     have hd0 : CL.drop frm = (w + 1, j) :: r := by rw [hr, hfe]; exact List.drop_left
     have hd1 : CL.drop (frm + 1) = r := by rw [← List.drop_drop, hd0]; rfl
     have hfl1 : frm + 1 ≤ CL.length := by rw [hr, List.length_append, ← hfe]; simp
     have ho := hout j hlt2 h7k
     have hoj := hoq j hlt2 h7k
     have hw2 := nwith_fn R n (outA p j) (w + 1) (by omega) hoj hw1
     have hw3 := nwith_fn R n w j (by omega) hlt hlt2
     have ih1 := ih (m - 1) (by omega) (frm + 1) (wiR R (outA p j) (w + 1)) (by omega) hfl1
     have ih2 := ih (m - 1) (by omega) (frm + 1) (wiR R w j) (by omega) hfl1
     rw [hd1, netE_eq] at ih1 ih2
     rw [show ((frm + 1 : Nat) : Int) = (frm : Int) + 1 by omega] at ih1 ih2
     rw [show ((w + 1 : Nat) : Int) = (w : Int) + 1 by omega] at hw2
     rw [netE_eq, netE_eq] at hw2 hw3
     have hset : settleR n (outA p) (CL.drop frm) R = (settleR n (outA p) r (wiR R (outA p j) (w + 1))).or (settleR n (outA p) r (wiR R w j)) := by rw [hd0, settleR, hl]; rfl
     rw [hset]
     simp (disch := omega) only [push_cast, go_sem, zA, simprocAttr, h7', hg]
     refine callR.look ho rfl rfl rfl ?_
     simp (disch := omega) only [push_cast, go_sem, zA, simprocAttr]
     refine callR.pure hw2 rfl rfl ?_
     simp (disch := omega) only [push_cast, go_sem, zA, simprocAttr]
     refine callR.look ih1 rfl rfl rfl ?_
     cases hs1 : settleR n (outA p) r (wiR R (outA p j) (w + 1)) with
     | some r1 =>
      simp (disch := omega) only [push_cast, go_sem, zA, simprocAttr, Option.isSome_some]
      refine ⟨_, ?_, rfl, rfl⟩
      ((repeat (first | exact Sub.no | refine Sub.set ?_ ?_)) <;> (try simp (disch := omega) only [push_cast, go_sem, zA, simprocAttr]))
     | none =>
      simp (disch := omega) only [push_cast, go_sem, zA, simprocAttr, Option.isSome_none]
      refine callR.pure hw3 rfl rfl ?_
      simp (disch := omega) only [push_cast, go_sem, zA, simprocAttr]
      refine callR.look ih2 rfl rfl rfl ?_
      simp (disch := omega) only [push_cast, go_sem, zA, simprocAttr]
      refine ⟨_, ?_, rfl, rfl⟩
      ((repeat (first | exact Sub.no | refine Sub.set ?_ ?_)) <;> (try simp (disch := omega) only [push_cast, go_sem, zA, simprocAttr]))
   ·have : j = n := by omega
    subst this
    simp (disch := omega) only [push_cast, go_sem, zA, simprocAttr, hnn]
    have hcs : (chRef p (w + 1)).length = (chRef p w).length + (chIn (scene p).ds (w + 1) j).length := by rw [chRef_succ, hkw, h9, hlwf, hsl]; simp
    refine hJ (w + 1) _ _ ⟨by omega, by omega⟩ (by omega) ?_
    rw [hcs]
    (refine zB ?_; repeat (first | exact zC | exact zD | refine zE (by decide) ?_ | refine zF ?_ ?_ | refine zG ?_ ?_)) <;> (try simp (disch := omega) only [push_cast, go_sem, zA, simprocAttr])
  ·have : w = n := by omega
   subst this
   simp (disch := omega) only [push_cast, go_sem, zA, simprocAttr, hnn]
   have : frm = CL.length := by rw [hCL] at hwf; omega
   rw [this, List.drop_length, settleR, hl]
   refine ⟨_, ?_, rfl, rfl⟩
   ((repeat (first | exact Sub.no | refine Sub.set ?_ ?_)) <;> (try simp (disch := omega) only [push_cast, go_sem, zA, simprocAttr]))
end
section
open Go.RowKit
theorem ds_place {p : Prog} (hpk : progOk p = true) : ∀ (i : Nat), i < (events p).length → 0 ≤ (dsA p i).p := fun i hi => by
 obtain ⟨e, he⟩ : ∃ e, (events p)[i]? = some e := ⟨_, List.getElem?_eq_getElem hi⟩
 have hd : (scene p).ds[i]? = some (dsA p i) := by rw [dsA, scene_get he]; rfl
 have := scene_formed hpk _ (List.mem_of_getElem? hd)
 cases hu : (dsA p i).uses
 ·simp only [Do.formed, hu, Bool.false_eq_true, if_false, Bool.and_eq_true, beq_iff_eq] at this
  omega
 ·exact (formed_place this hu).1
end
section
open Go.RowKit
theorem fz_rowX (x : RowE) : x.V.fz = x.x.V := by
 simp only [RowE.V, RowE.x, Exe.V, V.fz, List.map_cons, List.map_nil, fzs_map, fzs_int, fz_rowsI]
theorem specAllF_fn (p : Prog) (hp : p.length < 2 ^ 40) : Fp Tryz.prog 43 [progV p] (.sl ((specAll p).map Exe.V)) :=
 Fc.fzRow (specExecAllO_fn p hp) (by
  rintro r m ⟨γ, cap, e, es, h1, h2, h3, rfl, rfl⟩
  refine ⟨100, γ, cap, e, es.map RowE.V, by rw [List.length_map], by simp [Mem.set], ?_⟩
  rw [← h1, List.map_map, List.map_map]
  exact List.map_congr_left fun x _ => fz_rowX x)
end
end Go.Proofs.YtfbgabkcjjahiaaGreatDoor
