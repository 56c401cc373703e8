/-
 Contracts and plain laws.
-/
import Derived.Test.YtkdolbffabmemaaGreatDoorKd
import Derived.Test.YtkdolbffabmemaaGreatDoorKf
import Derived.Test.YtkdolbffabmemaaGreatDoorKh
set_option linter.unusedSimpArgs false
set_option linter.unusedVariables false
set_option linter.unusedSectionVars false
namespace Go.Proofs.YtkdolbffabmemaaGreatDoor
section
open Go.RowKit
@[push_cast] theorem fzs_bool {α : Type} (f : α → Bool) (l : List α) : (l.map fun d => V.bool (f d)).map V.fz = l.map fun d => V.bool (f d) := by rw [List.map_map]; exact List.map_congr_left fun d _ => rfl
@[push_cast] theorem flatL_bool {α : Type} (f : α → Bool) (l : List α) : flatL (l.map fun d => V.bool (f d)) = true := by simp [flatL, V.cells, V.flatC]
theorem rds_take (p : Prog) (f : Do → Bool) {k : Nat} {d : Do} (h : (scene p).ds[k]? = some d) : ((scene p).ds.take (k + 1)).map (fun d => V.bool (f d)) = ((scene p).ds.take k).map (fun d => V.bool (f d)) ++ [.bool (f d)] := by
 rw [take_get h, List.map_append]; rfl
theorem olook_fn (p : Prog) (hp : p.length < 2 ^ 40) (hok : progOk p = true) : Fc Tryz.prog 80 [progV p] noM (fun r m => ∃ ob, (∃ g, r = .ptr 100 [] 0 0 g 6 ∧ ob = ordV p g (rdsV p) (wrtV p) (.own 0 none 0 []) (.own 0 none 0 [])) ∧ m = noM.set 100 ob) := by
 have hel := events_le hok
 have hsl : (scene p).ds.length = (events p).length := by simp [scene]
 have hev := specExecEvents_fn p hp
 rw [hok, if_pos rfl] at hev
 refine Fc.rekeyP (R' := fun r m => ∃ g, r = .ptr 2 [] 0 0 g 6 ∧ m = noM.set 2 (ordV p g (rdsV p) (wrtV p) (.own 0 none 0 []) (.own 0 none 0 []))) ?_ ?_
 rotate_left
 ·rintro r m ⟨g, rfl, rfl⟩
  exact ⟨2, g, 6, _, rfl, rfl, _, ⟨g, rfl, rfl⟩, era_set rfl⟩
 rw [progV_eq] at hev
 refine Fc.start (S := [7]) Tryz.func80 Tryz.ntmps80 Tryz.results80 rfl (by decide) rfl (by kernel_rfl) ?_
 simp (disch := omega) only [push_cast, go_sem, zA, simprocAttr, progV_eq]
 intro g1
 refine Sat.drawnE [] [] [0, 1, 2] (pureT [(88, .sl ((events p).map Evt.V))]) (by kernel_rfl) (by kernel_rfl) ?_
 simp (disch := omega) only [push_cast, go_sem, zA, simprocAttr]
 refine runD_pure rfl hev rfl rfl ?_ ?_
 ·rfl
 simp (disch := omega) only [push_cast, go_sem, zA, simprocAttr]
 intro g3
 refine Sat.loop (σ := Nat × Rw × Rw) (fun x => upd (upd noT 3 (.ptr 3 [] 0 0 g3 6)) 4 (.int .i64 x.1)) (fun x => noM.set 3 (.own 121 (some g3) 1 [.agg [.sl (p.map thrV), .sl ((events p).map Evt.V), .own x.2.1.e x.2.1.γ x.2.1.c (((scene p).ds.take x.1).map fun d => .bool d.reads), .own x.2.2.e x.2.2.γ x.2.2.c (((scene p).ds.take x.1).map fun d => .bool d.writes), .own 0 none 0 [], .own 0 none 0 []]]))
  (fun x => x.1 ≤ (events p).length ∧ (x.2.1.γ = none ∨ x.2.1.e = 4) ∧ (x.2.2.γ = none ∨ x.2.2.e = 4)) (fun x => (events p).length - x.1) (0, ⟨0, none, 0⟩, ⟨0, none, 0⟩) ⟨by omega, .inl rfl, .inl rfl⟩ ?_ ?_
 ·(refine zB ?_; repeat (first | exact zC | exact zD | refine zE (by decide) ?_ | refine zF ?_ ?_ | refine zG ?_ ?_)) <;> (try simp (disch := omega) only [push_cast, go_sem, zA, simprocAttr])
  all_goals simp
 rintro ⟨k, ⟨e1, γ1, c1⟩, ⟨e2, γ2, c2⟩⟩ ⟨hk, hγ1, hγ2⟩ J hJ
 simp only at hk hγ1 hγ2 hJ
 have hγ1' : (γ1 = none ∨ e1 = 4) = True := by simp only [hγ1]
 have hγ2' : (γ2 = none ∨ e2 = 4) = True := by simp only [hγ2]
 refine Sat.of (S := []) (by kernel_rfl) ?_
 rcases Nat.lt_or_ge k (events p).length with hlt | hge
 ·obtain ⟨ek, hek⟩ : ∃ e, (events p)[k]? = some e := ⟨_, List.getElem?_eq_getElem hlt⟩
  have hdk : (scene p).ds[k]? = some (dsA p k) := by rw [dsA, scene_get hek]; rfl
  have htl : ((scene p).ds.take k).length = k := by rw [List.length_take]; omega
  have h1 := odo_fn p g3 (.own e1 γ1 c1 (((scene p).ds.take k).map fun d => .bool d.reads)) (.own e2 γ2 c2 (((scene p).ds.take k).map fun d => .bool d.writes)) (.own 0 none 0 []) (.own 0 none 0 []) k hlt
  rw [ordV_eq, Do.V_eq] at h1
  have hr := l1Reads_fn (dsA p k)
  have hw := l1Writes_fn (dsA p k)
  rw [Do.V_eq] at hr hw
  simp (disch := omega) only [push_cast, go_sem, zA, simprocAttr, hlt]
  refine Sat.drawnE [(4, 9)] [] [4, 7, 8] (lookT (.own 121 (some g3) 1 [.agg [.sl (p.map thrV), .sl ((events p).map Evt.V), .own e1 γ1 c1 (((scene p).ds.take k).map fun d => .bool d.reads), .own e2 γ2 c2 (((scene p).ds.take k).map fun d => .bool d.writes), .own 0 none 0 [], .own 0 none 0 []]]) [(44, .bool (dsA p k).reads)] [(123, (dsA p k).V)]) (by kernel_rfl) (by kernel_rfl) ?_
  simp (disch := omega) only [push_cast, go_sem, zA, simprocAttr]
  refine runD_look h1 rfl rfl rfl rfl rfl ?_ ?_
  ·rfl
  simp (disch := omega) only [push_cast, go_sem, zA, simprocAttr, Do.V_eq]
  refine runD_pure rfl hr rfl rfl ?_ ?_
  ·rfl
  simp (disch := omega) only [push_cast, go_sem, zA, simprocAttr, hγ1', htl]
  intro g28
  refine ⟨by omega, fun γ3 c3 _ => ?_⟩
  have h2 := odo_fn p g3 (.own 4 γ3 c3 (((scene p).ds.take (k + 1)).map fun d => .bool d.reads)) (.own e2 γ2 c2 (((scene p).ds.take k).map fun d => .bool d.writes)) (.own 0 none 0 []) (.own 0 none 0 []) k hlt
  rw [rds_take p Do.reads hdk, ordV_eq, Do.V_eq] at h2
  refine Sat.drawnE [(4, 9)] [] [4, 7, 8] (lookT (.own 121 (some g3) 1 [.agg [.sl (p.map thrV), .sl ((events p).map Evt.V), .own 4 γ3 c3 ((((scene p).ds.take k).map fun d => .bool d.reads) ++ [.bool (dsA p k).reads]), .own e2 γ2 c2 (((scene p).ds.take k).map fun d => .bool d.writes), .own 0 none 0 [], .own 0 none 0 []]]) [(45, .bool (dsA p k).writes)] [(123, (dsA p k).V)]) (by kernel_rfl) (by kernel_rfl) ?_
  simp (disch := omega) only [push_cast, go_sem, zA, simprocAttr]
  refine runD_look h2 rfl rfl rfl rfl rfl ?_ ?_
  ·rfl
  simp (disch := omega) only [push_cast, go_sem, zA, simprocAttr, Do.V_eq]
  refine runD_pure rfl hw rfl rfl ?_ ?_
  ·rfl
  simp (disch := omega) only [push_cast, go_sem, zA, simprocAttr, hγ2', htl]
  intro g41
  refine ⟨by omega, fun γ4 c4 _ => ?_⟩
  refine hJ (k + 1, ⟨4, γ3, c3⟩, ⟨4, γ4, c4⟩) _ _ ⟨by dsimp only; omega, .inr rfl, .inr rfl⟩ (by dsimp only; omega) ?_
  dsimp only
  rw [rds_take p Do.reads hdk, rds_take p Do.writes hdk]
  (refine zB ?_; repeat (first | exact zC | exact zD | refine zE (by decide) ?_ | refine zF ?_ ?_ | refine zG ?_ ?_)) <;> (try simp (disch := omega) only [push_cast, go_sem, zA, simprocAttr])
 ·have : k = (events p).length := by omega
  subst this
  simp (disch := omega) only [push_cast, go_sem, zA, simprocAttr]
  refine Sat.freezeC 3 [] 0 2 (n0 := .own 121 (some g3) 1 [.agg [.sl (p.map thrV), .sl ((events p).map Evt.V), .own e1 γ1 c1 (((scene p).ds.take (events p).length).map fun d => .bool d.reads), .own e2 γ2 c2 (((scene p).ds.take (events p).length).map fun d => .bool d.writes), .own 0 none 0 [], .own 0 none 0 []]]) (d := .own e1 γ1 c1 (((scene p).ds.take (events p).length).map fun d => .bool d.reads)) rfl rfl rfl ?_
  have f1 : (V.own e1 γ1 c1 (((scene p).ds.take (events p).length).map fun d => .bool d.reads)).fz = rdsV p := by rw [← hsl, List.take_length]; simp only [V.fz, fzs_map, fzs_bool, rdsV]
  have f2 : (V.own e2 γ2 c2 (((scene p).ds.take (events p).length).map fun d => .bool d.writes)).fz = wrtV p := by rw [← hsl, List.take_length]; simp only [V.fz, fzs_map, fzs_bool, wrtV]
  rw [f1]
  refine Sat.freezeC 3 [] 0 3 (n0 := .own 121 (some g3) 1 [.agg [.sl (p.map thrV), .sl ((events p).map Evt.V), rdsV p, .own e2 γ2 c2 (((scene p).ds.take (events p).length).map fun d => .bool d.writes), .own 0 none 0 [], .own 0 none 0 []]]) (d := .own e2 γ2 c2 (((scene p).ds.take (events p).length).map fun d => .bool d.writes)) rfl rfl rfl ?_
  rw [f2]
  refine Sat.of (S := []) (by kernel_rfl) ?_
  simp (disch := omega) only [push_cast, go_sem, zA, simprocAttr, rdsV_eq, wrtV_eq]
  refine ⟨_, ?_, g3, rfl, rfl⟩
  rw [ordV_eq]
  ((repeat (first | exact Sub.no | refine Sub.set ?_ ?_)) <;> (try simp (disch := omega) only [push_cast, go_sem, zA, simprocAttr]))
def rnk (p : Prog) (x : Exe) (k : Nat) : List Int := (List.range (events p).length).map fun i => if i < k then rankS p x i else 0
theorem rnk_zero (p : Prog) (x : Exe) : rnk p x 0 = List.replicate (events p).length 0 := by
 rw [rnk, List.eq_replicate_iff]
 exact ⟨by simp, fun b hb => by simp at hb; exact hb.2.symm⟩
theorem rnk_all (p : Prog) (x : Exe) : rnk p x (events p).length = (List.range (events p).length).map (rankS p x) := by
 rw [rnk]
 exact List.map_congr_left fun i hi => if_pos (List.mem_range.1 hi)
theorem rnk_succ (p : Prog) (x : Exe) (k : Nat) : rnk p x (k + 1) = (rnk p x k).set k (rankS p x k) := by
 apply List.ext_getElem?
 intro i
 rw [rnk, rnk, List.getElem?_set, List.getElem?_map, List.getElem?_map, List.length_map, List.length_range]
 by_cases hi : i < (events p).length
 ·rw [List.getElem?_range hi]
  by_cases hk : k = i
  ·subst hk; simp [hi]
  ·have e : i < k + 1 ↔ i < k := by omega
   simp [hk, e]
 ·have : (List.range (events p).length)[i]? = none := by simp; omega
  rw [this]
  by_cases hk : k = i
  ·subst hk; simp [hi]
  ·simp [hk]
theorem rnk_same (p : Prog) (x : Exe) {k : Nat} (h : rankS p x k = 0) : rnk p x (k + 1) = rnk p x k := by
 rw [rnk, rnk]
 refine List.map_congr_left fun i hi => ?_
 by_cases hk : i = k
 ·subst hk; simp [h]
 ·have e : i < k + 1 ↔ i < k := by omega
  simp [e]
end
section
open Go.RowKit
section
variable {P : Program} {M : Mem} {k : V → Mem → Prop}
theorem callR.mod {f : FuncId} {bs : List V} {g a n : Nat} {o : V} {Q : V → V → Prop} {d : Option Nat} (h : Fc P f (.ptr 0 [] 0 0 g n :: bs) (noM.set 0 o) fun r m => ∃ o', Q r o' ∧ m = noM.set 0 o') (hM : M a = some o) (hk : (bs.all fun v => v.key.isNone) = true) (h9 : Nat.ble (bs.length + 1) 90 = true)
  (hK : ∀ r o', Q r o' → runV (some (True, det (resN d r) (M.set a o'))) k .mk) : callR P f (.ptr a [] 0 0 g n :: bs) d M k .mk := by
 have hk' : ((bs.map V.key).all fun x => x.isNone) = true := by rw [List.all_map]; exact hk
 refine callR.intro (F := noM.set 0 o) (R := fun r m => ∃ o', Q r o' ∧ m = noM.set 0 o') (by rw [look_args hk]; exact h) (look_nodup hk) (Nat.le_of_ble_eq_true h9) (Sub.set Sub.no (look_foot hM)) ?_
 rintro r0 Mf ⟨o', hq, rfl⟩
 have : mergeM M ((V.ptr a [] 0 0 g n :: bs).map V.key) d (noM.set 0 o') = M.set a o' := by
  rw [merge_eq, List.map_cons]
  have e1 : (noM.set 0 o') 100 = none := rfl
  have e2 : (noM.set 0 o') 0 = some o' := rfl
  rw [e1, mgD_none', key_ptr, mg_some, e2, mg_all_none hk', MemU_some]
 rw [this]
 exact ((runV_det.1 (hK r0 o' hq)).2)
end
end
section
open Go.RowKit
def rowP (f : Nat → Bool) (n b : Nat) : List Bool := (List.range n).map fun j => decide (j < b) && f j
theorem rowP_len (f : Nat → Bool) (n b : Nat) : (rowP f n b).length = n := by simp [rowP]
theorem rowP_zero (f : Nat → Bool) (n : Nat) : rowP f n 0 = List.replicate n false := by
 rw [rowP, List.eq_replicate_iff]
 refine ⟨by simp, fun b hb => ?_⟩
 simp only [List.mem_map] at hb
 obtain ⟨i, _, rfl⟩ := hb
 simp
theorem rowP_all (f : Nat → Bool) (n : Nat) : rowP f n n = (List.range n).map f :=
 List.map_congr_left fun i hi => by simp [List.mem_range.1 hi]
theorem rowP_set (f : Nat → Bool) (n b : Nat) : (rowP f n b).set b (f b) = rowP f n (b + 1) := by
 apply List.ext_getElem?
 intro i
 rw [List.getElem?_set, rowP_len, rowP, rowP, List.getElem?_map, List.getElem?_map]
 by_cases hi : i < n
 ·rw [List.getElem?_range hi]
  by_cases h : b = i
  ·subst h; simp [hi]
  ·have e1 : (i < b + 1) = (i < b) := by simp; omega
   simp [h, e1]
 ·have : (List.range n)[i]? = none := by simp; omega
  rw [this]
  by_cases h : b = i
  ·subst h; simp [hi]
  ·simp [h]
theorem netL_take (R : Nat → Nat → Bool) {n a : Nat} (ha : a < n) : (netL R n).take (a + 1) = (netL R n).take a ++ [(List.range n).map (R a)] := take_get (netL_get ha)
theorem onet_fn (p : Prog) (g : Nat) (c4 c5 : V) (hn : (events p).length ≤ 42) (kind : Int) :
  Fo Tryz.prog 81 [.int .i64 kind] g 6 (ordV p g (rdsV p) (wrtV p) c4 c5) (netE (netL (staysS p kind) (events p).length)) := by
 have hst := fun a b ha hb => ostays_fn p g c4 c5 a b hn kind ha hb
 rw [ordV_eq, rdsV_eq, wrtV_eq] at hst ⊢
 obtain ⟨n, hnn⟩ : ∃ n, (events p).length = n := ⟨_, rfl⟩
 rw [hnn] at hn hst ⊢
 have hNl := netL_len (staysS p kind) n
 refine Fc.start (S := [11]) Tryz.func81 Tryz.ntmps81 Tryz.results81 rfl (by decide) rfl (by kernel_rfl) ?_
 simp (disch := omega) only [push_cast, go_sem, zA, simprocAttr]
 intro g5
 refine Sat.loop (σ := EvS) (fun x => upd (upd (upd (upd noT 0 (.ptr 0 [] 0 0 g 6)) 1 (.int .i64 kind)) 5 (.ptr 5 [] 0 0 g5 1)) 6 (.int .i64 x.k))
  (fun x => (noM.set 0 (.own 121 (some g) 1 [.agg [.sl (p.map thrV), .sl ((events p).map Evt.V), .sl ((scene p).ds.map fun d => .bool d.reads), .sl ((scene p).ds.map fun d => .bool d.writes), c4, c5]])).set 5 (.own 150 (some g5) 1 [.agg [.own x.e x.γ x.c (((netL (staysS p kind) n).take x.k).map boolsV)]]))
  (fun x => x.k ≤ n ∧ (x.γ = none ∨ x.e = 119)) (fun x => n - x.k) ⟨0, 0, none, 0⟩ (by simp) ?_ ?_
 ·(refine zB ?_; repeat (first | exact zC | exact zD | refine zE (by decide) ?_ | refine zF ?_ ?_ | refine zG ?_ ?_)) <;> (try simp (disch := omega) only [push_cast, go_sem, zA, simprocAttr])
 rintro ⟨a, e, γ, c⟩ ⟨ha, hγ⟩ J hJ
 simp only at ha hγ hJ
 refine Sat.of (S := [11]) (by kernel_rfl) ?_
 rcases Nat.lt_or_ge a n with hlt | hge
 ·simp (disch := omega) only [push_cast, go_sem, zA, simprocAttr, hlt, hnn]
  refine ⟨by omega, fun gr => ?_⟩
  refine Sat.loop (σ := Nat) (fun b => upd (upd (upd (upd (upd (upd noT 0 (.ptr 0 [] 0 0 g 6)) 1 (.int .i64 kind)) 5 (.ptr 5 [] 0 0 g5 1)) 6 (.int .i64 a)) 7 (.msl 7 [] (some gr) n n)) 8 (.int .i64 b))
   (fun b => ((noM.set 0 (.own 121 (some g) 1 [.agg [.sl (p.map thrV), .sl ((events p).map Evt.V), .sl ((scene p).ds.map fun d => .bool d.reads), .sl ((scene p).ds.map fun d => .bool d.writes), c4, c5]])).set 5 (.own 150 (some g5) 1 [.agg [.own e γ c (((netL (staysS p kind) n).take a).map boolsV)]])).set 7 (.own 4 (some gr) n ((rowP (staysS p kind a) n b).map V.bool)))
   (fun b => b ≤ n) (fun b => n - b) 0 (by omega) ?_ ?_
  ·(refine zB ?_; repeat (first | exact zC | exact zD | refine zE (by decide) ?_ | refine zF ?_ ?_ | refine zG ?_ ?_)) <;> (try simp (disch := omega) only [push_cast, go_sem, zA, simprocAttr])
   all_goals rw [rowP_zero]; simp
  rintro b hb J2 hJ2
  have hpl := rowP_len (staysS p kind a) n b
  rcases Nat.lt_or_ge b n with hlt2 | hge2
  ·refine Sat.of (S := [11]) (by kernel_rfl) ?_
   simp (disch := omega) only [push_cast, go_sem, zA, simprocAttr, hlt2, hnn]
   refine callR.look (hst a b hlt hlt2) rfl rfl rfl ?_
   obtain ⟨z, hz⟩ : ∃ z, (rowP (staysS p kind a) n b)[b]? = some z := ⟨_, List.getElem?_eq_getElem (by omega)⟩
   simp (disch := omega) only [push_cast, go_sem, zA, simprocAttr, hlt2, hpl, hz]
   refine hJ2 (b + 1) _ _ (by omega) (by omega) ?_
   rw [← rowP_set]
   (refine zB ?_; repeat (first | exact zC | exact zD | refine zE (by decide) ?_ | refine zF ?_ ?_ | refine zG ?_ ?_)) <;> (try simp (disch := omega) only [push_cast, go_sem, zA, simprocAttr])
  ·have : b = n := by omega
   subst this
   have hγ' : (γ = none ∨ e = 119) = True := by simp only [hγ]
   have htl : ((netL (staysS p kind) b).take a).length = a := by rw [List.length_take, hNl]; omega
   rw [rowP_all]
   refine Sat.freezeT (upd (upd (upd (upd (upd (upd noT 0 (.ptr 0 [] 0 0 g 6)) 1 (.int .i64 kind)) 5 (.ptr 5 [] 0 0 g5 1)) 6 (.int .i64 a)) 8 (.int .i64 b)) 7 (boolsV ((List.range b).map (staysS p kind a))))
    ((noM.set 0 (.own 121 (some g) 1 [.agg [.sl (p.map thrV), .sl ((events p).map Evt.V), .sl ((scene p).ds.map fun d => .bool d.reads), .sl ((scene p).ds.map fun d => .bool d.writes), c4, c5]])).set 5 (.own 150 (some g5) 1 [.agg [.own e γ c (((netL (staysS p kind) b).take a).map boolsV)]]))
    7 (e := 4) (γ := some gr) (cap := b) (es := ((List.range b).map (staysS p kind a)).map V.bool) rfl ?_ ?_
   ·(refine zB ?_; repeat (first | exact zC | exact zD | refine zE (by decide) ?_ | refine zF ?_ ?_ | refine zG ?_ ?_)) <;> (try simp (disch := omega) only [push_cast, go_sem, zA, simprocAttr])
    simp [boolsV]
   refine Sat.of (S := [11]) (by kernel_rfl) ?_
   simp (disch := omega) only [push_cast, go_sem, zA, simprocAttr, hnn, hγ', htl, boolsV_eq]
   intro g49
   refine ⟨by omega, fun γ6 c6 _ => ?_⟩
   refine hJ ⟨a + 1, 119, γ6, c6⟩ _ _ ⟨by dsimp only; omega, .inr rfl⟩ (by dsimp only; omega) ?_
   dsimp only
   rw [netL_take _ hlt]
   (refine zB ?_; repeat (first | exact zC | exact zD | refine zE (by decide) ?_ | refine zF ?_ ?_ | refine zG ?_ ?_)) <;> (try simp (disch := omega) only [push_cast, go_sem, zA, simprocAttr])
   all_goals simp [boolsV]
 ·have : a = n := by omega
  subst this
  simp (disch := omega) only [push_cast, go_sem, zA, simprocAttr, hnn]
  refine Sat.fixP (o := 5) (g := g5) (e := 150) (cap := 1) (es := [.agg [.own e γ c (((netL (staysS p kind) a).take a).map boolsV)]]) (T := upd noT 5 (netE (netL (staysS p kind) a))) rfl ?_ ?_
  ·refine Fx.ptr Fx.nil rfl rfl (by kernel_rfl) ?_
   have htk : (netL (staysS p kind) a).take a = netL (staysS p kind) a := List.take_of_length_le (by omega)
   simp only [V.cells, List.drop_zero, List.map_cons, List.map_nil, V.fz, fzs_map, fzs_bls, htk]
  refine Sat.of (S := []) (by kernel_rfl) ?_
  simp (disch := omega) only [push_cast, go_sem, zA, simprocAttr, netE_eq]
  refine ⟨_, ?_, rfl⟩
  ((repeat (first | exact Sub.no | refine Sub.set ?_ ?_)) <;> (try simp (disch := omega) only [push_cast, go_sem, zA, simprocAttr]))
def upR (R T : Nat → Nat → Bool) (a b : Nat) : Nat → Nat → Bool := fun x y => R x y || (T x y && (decide (x < a) || (x == a && decide (y < b))))
def bothR (R T : Nat → Nat → Bool) : Nat → Nat → Bool := fun x y => R x y || T x y
theorem upR_zero (R T : Nat → Nat → Bool) (n : Nat) : netL (upR R T 0 0) n = netL R n := netL_congr fun a b _ _ => by simp [upR]
theorem upR_next (R T : Nat → Nat → Bool) (n a : Nat) : netL (upR R T a n) n = netL (upR R T (a + 1) 0) n := netL_congr fun x y _ hy => by
 simp only [upR]
 by_cases h : x < a
 ·have : x < a + 1 := by omega
  simp [h, this]
 ·by_cases h2 : x = a
  ·subst h2; simp [hy]
  ·have h3 : ¬ x < a + 1 := by omega
   simp [h, h2, h3]
theorem upR_all (R T : Nat → Nat → Bool) (n : Nat) : netL (upR R T n 0) n = netL (bothR R T) n := netL_congr fun x y hx _ => by simp [upR, bothR, hx]
theorem upR_no {R T : Nat → Nat → Bool} {n a b : Nat} (h : T a b = false) : netL (upR R T a (b + 1)) n = netL (upR R T a b) n := netL_congr fun x y _ _ => by
 simp only [upR]
 by_cases h2 : x = a
 ·subst h2
  by_cases h3 : y = b
  ·subst h3; simp [h]
  ·have : (y < b + 1) = (y < b) := by simp; omega
   simp [this]
 ·have h9 : (x == a) = false := by simpa using h2
  simp [h9]
theorem upR_yes {R T : Nat → Nat → Bool} {n a b : Nat} (h : T a b = true) : netL (upR R T a (b + 1)) n = netL (wiR (upR R T a b) a b) n := netL_congr fun x y _ _ => by
 simp only [upR, wiR]
 by_cases h2 : x = a
 ·subst h2
  by_cases h3 : y = b
  ·subst h3; simp [h]
  ·have h4 : (y < b + 1) = (y < b) := by simp; omega
   simp [h4, h3]
 ·have h9 : (x == a) = false := by simpa using h2
  simp [h9]
theorem owhole_fn (p : Prog) (x : Exe) (g : Nat) (R : Nat → Nat → Bool) (hn : (events p).length ≤ 42) (hfr : x.fr.length = (events p).length) (hc : ∀ (i : Nat), i < (events p).length → 0 ≤ (dsA p i).p) (kind : Int) :
  Fo Tryz.prog 83 [netE (netL R (events p).length), .int .i64 kind] g 6 (ordV p g (rdsV p) (wrtV p) (.sl (x.fr.map (V.int .i64))) (.sl (((List.range (events p).length).map (rankS p x)).map (V.int .i64)))) (netE (netL (bothR R (toldS p x kind)) (events p).length)) := by
 have hto := fun a b ha hb => otold_fn p x g a b hfr hc kind ha hb
 rw [ordV_eq, rdsV_eq, wrtV_eq] at hto ⊢
 obtain ⟨n, hnn⟩ : ∃ n, (events p).length = n := ⟨_, rfl⟩
 generalize hrk : V.sl (((List.range (events p).length).map (rankS p x)).map (V.int .i64)) = rk at hto ⊢
 rw [hnn] at hn hto ⊢
 have hNl := netL_len R n
 have hcp := ncopy_fn (netL R n) (by rw [hNl]; omega) (fun l hl => by
  simp only [netL, List.mem_map] at hl
  obtain ⟨i, _, rfl⟩ := hl
  simp; omega)
 rw [netE_eq] at hcp
 refine Fc.start (S := [10]) Tryz.func83 Tryz.ntmps83 Tryz.results83 rfl (by decide) rfl (by kernel_rfl) ?_
 simp (disch := omega) only [push_cast, go_sem, zA, simprocAttr, netE_eq]
 refine callR.new hcp rfl rfl ?_
 rintro r ob ⟨g7, e, γ, c, xs, rfl, rfl, h1, h2, h3⟩
 simp (disch := omega) only [push_cast, go_sem, zA, simprocAttr, netO_eq]
 refine Sat.loop (σ := Nat × List RowN) (fun y => upd (upd (upd (upd noT 0 (.ptr 0 [] 0 0 g 6)) 2 (.int .i64 kind)) 7 (.ptr 7 [] 0 0 g7 1)) 8 (.int .i64 y.1))
  (fun y => (noM.set 0 (.own 121 (some g) 1 [.agg [.sl (p.map thrV), .sl ((events p).map Evt.V), .sl ((scene p).ds.map fun d => .bool d.reads), .sl ((scene p).ds.map fun d => .bool d.writes), .sl (x.fr.map (V.int .i64)), rk]])).set 7 (.own 150 (some g7) 1 [.agg [.own e γ c (y.2.map RowN.V)]]))
  (fun y => y.1 ≤ n ∧ (∀ z ∈ y.2, z.γ = none ∨ z.e = 4) ∧ y.2.map RowN.l = netL (upR R (toldS p x kind) y.1 0) n) (fun y => n - y.1) (0, xs) ⟨by dsimp only; omega, h2, by dsimp only; rw [h3, upR_zero]⟩ ?_ ?_
 ·(refine zB ?_; repeat (first | exact zC | exact zD | refine zE (by decide) ?_ | refine zF ?_ ?_ | refine zG ?_ ?_)) <;> (try simp (disch := omega) only [push_cast, go_sem, zA, simprocAttr])
 rintro ⟨a, ys⟩ ⟨ha, hye, hys⟩ J hJ
 simp only at ha hye hys hJ
 refine Sat.of (S := [10]) (by kernel_rfl) ?_
 rcases Nat.lt_or_ge a n with hlt | hge
 ·simp (disch := omega) only [push_cast, go_sem, zA, simprocAttr, hlt, hnn]
  refine Sat.loop (σ := Nat × List RowN) (fun y => upd (upd (upd (upd (upd noT 0 (.ptr 0 [] 0 0 g 6)) 2 (.int .i64 kind)) 7 (.ptr 7 [] 0 0 g7 1)) 8 (.int .i64 a)) 9 (.int .i64 y.1))
   (fun y => (noM.set 0 (.own 121 (some g) 1 [.agg [.sl (p.map thrV), .sl ((events p).map Evt.V), .sl ((scene p).ds.map fun d => .bool d.reads), .sl ((scene p).ds.map fun d => .bool d.writes), .sl (x.fr.map (V.int .i64)), rk]])).set 7 (.own 150 (some g7) 1 [.agg [.own e γ c (y.2.map RowN.V)]]))
   (fun y => y.1 ≤ n ∧ (∀ z ∈ y.2, z.γ = none ∨ z.e = 4) ∧ y.2.map RowN.l = netL (upR R (toldS p x kind) a y.1) n) (fun y => n - y.1) (0, ys) ⟨by dsimp only; omega, hye, hys⟩ ?_ ?_
  ·(refine zB ?_; repeat (first | exact zC | exact zD | refine zE (by decide) ?_ | refine zF ?_ ?_ | refine zG ?_ ?_)) <;> (try simp (disch := omega) only [push_cast, go_sem, zA, simprocAttr])
  rintro ⟨b, zs⟩ ⟨hb, hze, hzs⟩ J2 hJ2
  simp only at hb hze hzs hJ2
  rcases Nat.lt_or_ge b n with hlt2 | hge2
  ·have hzl : zs.length = n := by have := congrArg List.length hzs; rw [List.length_map, netL_len] at this; exact this
   refine Sat.someP (o := 7) (q := [(0, 0)]) (e := e) (γ := γ) (cap := c) (es := zs.map RowN.V) rfl ?_ ?_
   ·intro h0
    have := congrArg List.length h0
    rw [List.length_map, hzl] at this; simp at this; omega
   intro g1 hg1
   subst hg1
   obtain rfl : e = 119 := h1.resolve_left nofun
   obtain ⟨⟨e1, γ1, c1, l1⟩, hrow⟩ : ∃ row, zs[a]? = some row := ⟨_, List.getElem?_eq_getElem (by omega)⟩
   have hl1 : l1 = (List.range n).map (upR R (toldS p x kind) a b a) := by
    have := netL_get (R := upR R (toldS p x kind) a b) hlt
    rw [← hzs, List.getElem?_map, hrow] at this
    simpa using this
   have hll : l1.length = n := by rw [hl1]; simp
   refine Sat.someP (o := 7) (q := [(0, 0), (a, 0)]) (e := e1) (γ := γ1) (cap := c1) (es := l1.map V.bool) ?_ ?_ ?_
   ·simp [Mem.getP, Mem.set, V.getP, V.cellAt, hrow, RowN.V, V.cells]
   ·intro h0
    have := congrArg List.length h0
    rw [List.length_map, hll] at this; simp at this; omega
   rintro g2 rfl
   obtain rfl : e1 = 4 := (hze _ (List.mem_of_getElem? hrow)).resolve_left nofun
   obtain ⟨z, hz⟩ : ∃ z, l1[b]? = some z := ⟨_, List.getElem?_eq_getElem (by omega)⟩
   refine Sat.of (S := [10]) (by kernel_rfl) ?_
   simp (disch := omega) only [push_cast, go_sem, zA, simprocAttr, hlt2, hnn]
   refine callR.look (hto a b hlt hlt2) rfl rfl rfl ?_
   cases hT : toldS p x kind a b
   ·simp (disch := omega) only [push_cast, go_sem, zA, simprocAttr]
    refine hJ2 (b + 1, zs) _ _ ⟨by dsimp only; omega, hze, by dsimp only; rw [hzs, upR_no hT]⟩ (by dsimp only; omega) ?_
    (refine zB ?_; repeat (first | exact zC | exact zD | refine zE (by decide) ?_ | refine zF ?_ ?_ | refine zG ?_ ?_)) <;> (try simp (disch := omega) only [push_cast, go_sem, zA, simprocAttr])
   ·simp (disch := omega) only [push_cast, go_sem, zA, simprocAttr, hrow, hzl, hlt, RowN.V_eq, hll, hlt2, hz]
    refine hJ2 (b + 1, zs.set a ⟨4, some g2, c1, l1.set b true⟩) _ _ ⟨by dsimp only; omega, ?_, ?_⟩ (by dsimp only; omega) ?_
    ·intro y hy
     rcases List.mem_or_eq_of_mem_set hy with hy | hy
     ·exact hze y hy
     ·rw [hy]; exact .inr rfl
    ·dsimp only
     rw [upR_yes hT, ← netL_wi hlt hlt2, ← hzs]
     apply List.ext_getElem?
     intro i
     rw [List.getElem?_modify, List.getElem?_map, List.getElem?_map, List.getElem?_set]
     by_cases h : a = i
     ·subst h
      obtain ⟨k1, k2⟩ := List.getElem?_eq_some_iff.1 hrow
      simp [k1, k2]
     ·simp [h]
    ·(refine zB ?_; repeat (first | exact zC | exact zD | refine zE (by decide) ?_ | refine zF ?_ ?_ | refine zG ?_ ?_)) <;> (try simp (disch := omega) only [push_cast, go_sem, zA, simprocAttr])
  ·have : b = n := by omega
   subst this
   refine Sat.of (S := [10]) (by kernel_rfl) ?_
   simp (disch := omega) only [push_cast, go_sem, zA, simprocAttr, hnn]
   refine hJ (a + 1, zs) _ _ ⟨by dsimp only; omega, hze, by dsimp only; rw [hzs, upR_next]⟩ (by dsimp only; omega) ?_
   (refine zB ?_; repeat (first | exact zC | exact zD | refine zE (by decide) ?_ | refine zF ?_ ?_ | refine zG ?_ ?_)) <;> (try simp (disch := omega) only [push_cast, go_sem, zA, simprocAttr])
 ·have : a = n := by omega
  subst this
  simp (disch := omega) only [push_cast, go_sem, zA, simprocAttr, hnn]
  refine Sat.fixP (o := 7) (g := g7) (e := 150) (cap := 1) (es := [.agg [.own e γ c (ys.map RowN.V)]]) (T := upd noT 7 (netE (netL (bothR R (toldS p x kind)) a))) rfl ?_ ?_
  ·refine Fx.ptr Fx.nil rfl rfl (by kernel_rfl) ?_
   simp only [V.cells, List.drop_zero, List.map_cons, List.map_nil, V.fz, fzs_map, fz_rowsN, hys, upR_all]
  refine Sat.of (S := []) (by kernel_rfl) ?_
  simp (disch := omega) only [push_cast, go_sem, zA, simprocAttr, netE_eq]
  refine ⟨_, ?_, rfl⟩
  ((repeat (first | exact Sub.no | refine Sub.set ?_ ?_)) <;> (try simp (disch := omega) only [push_cast, go_sem, zA, simprocAttr]))
end
section
open Go.RowKit
theorem oouts_fn (p : Prog) (g : Nat) (c2 c3 c4 c5 : V) (hok : progOk p = true) (i : Nat) (hi : i < (events p).length) (h7 : kd (scene p).ds i = 7) :
  Fo Tryz.prog 129 [.int .i64 i] g 6 (ordV p g c2 c3 c4 c5) (.int .i64 (outA p i)) := by
 obtain ⟨hq, h8⟩ := outA_spec hok hi h7
 have hel := events_le hok
 obtain ⟨t, ht⟩ : ∃ t, outA p i = t := ⟨_, rfl⟩
 rw [ht] at hq h8 ⊢
 have hdo := fun a ha => odo_fn p g c2 c3 c4 c5 a ha
 have hown := fun a b ha hb => oown_fn p g c2 c3 c4 c5 a b ha hb
 have hlt := hq.lt
 have htl := hq.tl
 rw [ordV_eq] at hdo hown ⊢
 refine Fc.start (S := []) Tryz.func129 Tryz.ntmps129 Tryz.results129 rfl (by decide) rfl (by kernel_rfl) ?_
 simp (disch := omega) only [push_cast, go_sem, zA, simprocAttr]
 refine Sat.loop (σ := Nat) (fun k => upd (upd (upd noT 0 (.ptr 0 [] 0 0 g 6)) 1 (.int .i64 i)) 5 (.int .i64 k)) (fun k => (noM.set 0 (.own 121 (some g) 1 [.agg [.sl (p.map thrV), .sl ((events p).map Evt.V), c2, c3, c4, c5]])))
  (fun k => i < k ∧ k ≤ t) (fun k => t - k) (i + 1) ⟨by omega, by omega⟩ ?_ ?_
 ·(refine zB ?_; repeat (first | exact zC | exact zD | refine zE (by decide) ?_ | refine zF ?_ ?_ | refine zG ?_ ?_)) <;> (try simp (disch := omega) only [push_cast, go_sem, zA, simprocAttr])
 rintro k ⟨hk, hkt⟩ J hJ
 refine Sat.of (S := []) (by kernel_rfl) ?_
 have hkn : k < (events p).length := by omega
 have how : ownB (events p) i k = true := by
  have hs : th (events p) i = th (events p) k := by
   rcases Nat.lt_or_ge k t with h | h
   ·exact ((hq.no k hk h).2.2).symm
   ·have : k = t := by omega
    subst this; exact hq.same
  simp only [th] at hs
  simp [ownB, hk, hs]
 have hd := hdo k hkn
 rw [Do.V_eq] at hd
 simp (disch := omega) only [push_cast, go_sem, zA, simprocAttr, hkn]
 refine callR.look (hown i k hi hkn) rfl rfl rfl ?_
 rw [how]
 simp (disch := omega) only [push_cast, go_sem, zA, simprocAttr]
 refine callR.look hd rfl rfl rfl ?_
 rcases Nat.lt_or_ge k t with h | h
 ·have h8' : ((dsA p k).k == 8) = false := by
   have := (hq.no k hk h).2.1
   simpa [kd, dsA] using this
  simp (disch := omega) only [push_cast, go_sem, zA, simprocAttr, h8']
  refine hJ (k + 1) _ _ ⟨by omega, by omega⟩ (by omega) ?_
  (refine zB ?_; repeat (first | exact zC | exact zD | refine zE (by decide) ?_ | refine zF ?_ ?_ | refine zG ?_ ?_)) <;> (try simp (disch := omega) only [push_cast, go_sem, zA, simprocAttr])
 ·have : k = t := by omega
  subst this
  have h8' : ((dsA p k).k == 8) = true := by simpa [kd, dsA] using h8
  simp (disch := omega) only [push_cast, go_sem, zA, simprocAttr, h8']
  refine ⟨_, ?_, rfl⟩
  ((repeat (first | exact Sub.no | refine Sub.set ?_ ?_)) <;> (try simp (disch := omega) only [push_cast, go_sem, zA, simprocAttr]))
theorem chIn_pre (ds : List Do) (e : Nat) {j : Nat} (h7 : kd ds j = 7) : ∀ {n : Nat}, j < n → ∃ r, chIn ds e n = chIn ds e j ++ (e, j) :: r
 | 0, h => absurd h (by omega)
 | n + 1, h => by
  rcases Nat.lt_or_ge j n with hj | hj
  ·obtain ⟨r, hr⟩ := chIn_pre ds e h7 hj
   exact ⟨r ++ (if kd ds n == 7 then [(e, n)] else []), by rw [chIn, hr]; simp⟩
  ·have : j = n := by omega
   subst this
   exact ⟨[], by rw [chIn, h7]; rfl⟩
theorem chRef_pre {p : Prog} {w j : Nat} (h9 : kd (scene p).ds w = 9) (hl : ltA (events p) w = false) (h7 : kd (scene p).ds j = 7) (hj : j < (scene p).ds.length) : ∀ {n : Nat}, w < n → ∃ r, chRef p n = (chRef p w ++ chIn (scene p).ds (w + 1) j) ++ (w + 1, j) :: r
 | 0, h => absurd h (by omega)
 | n + 1, h => by
  rcases Nat.lt_or_ge w n with hw | hw
  ·obtain ⟨r, hr⟩ := chRef_pre h9 hl h7 hj hw
   exact ⟨r ++ (if kd (scene p).ds n == 9 && !ltA (events p) n then chIn (scene p).ds (n + 1) (scene p).ds.length else []), by rw [chRef, hr]; simp⟩
  ·have : w = n := by omega
   subst this
   obtain ⟨r, hr⟩ := chIn_pre (scene p).ds (w + 1) h7 hj
   exact ⟨r, by rw [chRef, h9, hl]; simp [hr]⟩
theorem chIn_succ (ds : List Do) (e j : Nat) : (chIn ds e (j + 1)).length = (chIn ds e j).length + (if kd ds j == 7 then 1 else 0) := by
 rw [chIn, List.length_append]; split <;> rfl
theorem chRef_succ (p : Prog) (w : Nat) : (chRef p (w + 1)).length = (chRef p w).length + (if kd (scene p).ds w == 9 && !ltA (events p) w then (chIn (scene p).ds (w + 1) (scene p).ds.length).length else 0) := by
 rw [chRef, List.length_append]; split <;> rfl
theorem chRef_le (p : Prog) (hn : (scene p).ds.length ≤ 62) : ∀ k, (chRef p k).length ≤ k * 62
 | 0 => by simp [chRef]
 | k + 1 => by
  have h1 := chRef_le p hn k
  have h2 := chIn_le (scene p).ds (k + 1) (scene p).ds.length
  rw [chRef_succ]
  split <;> omega
theorem owaits_fn (p : Prog) (g : Nat) (c4 c5 : V) (hok : progOk p = true) : ∀ (m frm : Nat) (R : Nat → Nat → Bool), (chRef p (events p).length).length - frm = m → frm ≤ (chRef p (events p).length).length →
  Fo Tryz.prog 85 [netE (netL R (events p).length), .int .i64 frm] g 6 (ordV p g (rdsV p) (wrtV p) c4 c5) (.bool (settleR (events p).length (outA p) ((chRef p (events p).length).drop frm) R).isSome) := by
 have hel := events_le hok
 have hsl : (scene p).ds.length = (events p).length := by simp [scene]
 have hcl := chRef_le p (by omega) (events p).length
 have hdo := fun a ha => odo_fn p g (rdsV p) (wrtV p) c4 c5 a ha
 have hout := fun i hi h7 => oouts_fn p g (rdsV p) (wrtV p) c4 c5 hok i hi h7
 have hpre := @chRef_pre p
 have hoq := fun i hi h7 => (outA_spec hok (i := i) hi h7).1.tl
 have hnx := @wait_next p
 rw [ordV_eq, rdsV_eq, wrtV_eq] at hdo hout
 obtain ⟨n, hnn⟩ : ∃ n, (events p).length = n := ⟨_, rfl⟩
 rw [hnn] at hsl hel hcl hdo hout hoq hnx ⊢
 obtain ⟨CL, hCL⟩ : ∃ l, chRef p n = l := ⟨_, rfl⟩
 rw [hCL] at hcl ⊢
 intro m
 induction m using Nat.strongRecOn with
 | _ m ih =>
 intro frm R hm hfl
 have hho := holds_fn R n (by omega)
 rw [ordV_eq, rdsV_eq, wrtV_eq] at ih ⊢
 rw [netE_eq] at hho
 refine Fc.start (S := []) Tryz.func85 Tryz.ntmps85 Tryz.results85 rfl (by decide) rfl (by kernel_rfl) ?_
 simp (disch := omega) only [push_cast, go_sem, zA, simprocAttr, netE_eq]
 refine callR.pure hho rfl rfl ?_
 cases hl : lineE R n with
 | none =>
  simp (disch := omega) only [push_cast, go_sem, zA, simprocAttr, Option.isSome_none]
  rw [settle_no hl]
  refine ⟨_, ?_, rfl, rfl⟩
  ((repeat (first | exact Sub.no | refine Sub.set ?_ ?_)) <;> (try simp (disch := omega) only [push_cast, go_sem, zA, simprocAttr]))
 | some ls =>
  simp (disch := omega) only [push_cast, go_sem, zA, simprocAttr, Option.isSome_some]
  refine Sat.loop (σ := Nat) (fun w => upd (upd (upd (upd (upd noT 0 (.ptr 0 [] 0 0 g 6)) 1 (.eptr [.sl ((netL R n).map boolsV)])) 2 (.int .i64 frm)) 7 (.int .i64 (chRef p w).length)) 8 (.int .i64 w)) (fun w => noM.set 0 (.own 121 (some g) 1 [.agg [.sl (p.map thrV), .sl ((events p).map Evt.V), .sl ((scene p).ds.map fun d => .bool d.reads), .sl ((scene p).ds.map fun d => .bool d.writes), c4, c5]]))
   (fun w => w ≤ n ∧ (chRef p w).length ≤ frm) (fun w => n - w) 0 ⟨by omega, by simp [chRef]⟩ ?_ ?_
  ·(refine zB ?_; repeat (first | exact zC | exact zD | refine zE (by decide) ?_ | refine zF ?_ ?_ | refine zG ?_ ?_)) <;> (try simp (disch := omega) only [push_cast, go_sem, zA, simprocAttr])
   all_goals simp [chRef]
  rintro w ⟨hw, hwf⟩ J hJ
  refine Sat.of (S := []) (by kernel_rfl) ?_
  rcases Nat.lt_or_ge w n with hlt | hge
  ·obtain ⟨ew, hew⟩ : ∃ e, (events p)[w]? = some e := ⟨_, List.getElem?_eq_getElem (by omega)⟩
   have hwe : w < (events p).length := by omega
   have hkw : kd (scene p).ds w = (dsA p w).k := rfl
   have hlw : ltA (events p) w = ew.l := by rw [ltA, hew]; rfl
   have hdw := hdo w hlt
   rw [Do.V_eq] at hdw
   simp (disch := omega) only [push_cast, go_sem, zA, simprocAttr, hlt, hnn]
   refine callR.look hdw rfl rfl rfl ?_
   cases h9 : ((dsA p w).k == 9)
   ·have h9' : ((dsA p w).k != 9) = true := by simp [bne, h9]
    simp (disch := omega) only [push_cast, go_sem, zA, simprocAttr, h9']
    have hcs : (chRef p (w + 1)).length = (chRef p w).length := by rw [chRef_succ, hkw, h9]; simp
    refine hJ (w + 1) _ _ ⟨by omega, by omega⟩ (by omega) ?_
    rw [hcs]
    (refine zB ?_; repeat (first | exact zC | exact zD | refine zE (by decide) ?_ | refine zF ?_ ?_ | refine zG ?_ ?_)) <;> (try simp (disch := omega) only [push_cast, go_sem, zA, simprocAttr])
   have h9' : ((dsA p w).k != 9) = false := by simp [bne, h9]
   cases hll : ew.l
   rotate_left
   ·simp (disch := omega) only [push_cast, go_sem, zA, simprocAttr, h9', hew, hwe, Evt.V_eq, hll]
    have hcs : (chRef p (w + 1)).length = (chRef p w).length := by rw [chRef_succ, hlw, hll]; simp
    refine hJ (w + 1) _ _ ⟨by omega, by omega⟩ (by omega) ?_
    rw [hcs]
    (refine zB ?_; repeat (first | exact zC | exact zD | refine zE (by decide) ?_ | refine zF ?_ ?_ | refine zG ?_ ?_)) <;> (try simp (disch := omega) only [push_cast, go_sem, zA, simprocAttr])
   simp (disch := omega) only [push_cast, go_sem, zA, simprocAttr, h9', hew, hwe, Evt.V_eq, hll]
   have h9k : kd (scene p).ds w = 9 := by rw [hkw]; simpa using h9
   have hlwf : ltA (events p) w = false := by rw [hlw, hll]
   have hw1 := (hnx hlt h9k hlwf).1
   refine Sat.loop (σ := Nat) (fun j => upd (upd (upd (upd (upd (upd noT 0 (.ptr 0 [] 0 0 g 6)) 1 (.eptr [.sl ((netL R n).map boolsV)])) 2 (.int .i64 frm)) 7 (.int .i64 ((chRef p w).length + (chIn (scene p).ds (w + 1) j).length : Nat))) 8 (.int .i64 w)) 9 (.int .i64 j)) (fun _ => noM.set 0 (.own 121 (some g) 1 [.agg [.sl (p.map thrV), .sl ((events p).map Evt.V), .sl ((scene p).ds.map fun d => .bool d.reads), .sl ((scene p).ds.map fun d => .bool d.writes), c4, c5]]))
    (fun j => j ≤ n ∧ (chRef p w).length + (chIn (scene p).ds (w + 1) j).length ≤ frm) (fun j => n - j) 0 ⟨by omega, by simpa [chIn] using hwf⟩ ?_ ?_
   ·(refine zB ?_; repeat (first | exact zC | exact zD | refine zE (by decide) ?_ | refine zF ?_ ?_ | refine zG ?_ ?_)) <;> (try simp (disch := omega) only [push_cast, go_sem, zA, simprocAttr])
    all_goals simp [chIn]
   rintro j ⟨hj, hjf⟩ J2 hJ2
   refine Sat.of (S := []) (by kernel_rfl) ?_
   have hcw := chRef_le p (by omega) w
   have hci := chIn_le (scene p).ds (w + 1) j
   rcases Nat.lt_or_ge j n with hlt2 | hge2
   ·have hkj : kd (scene p).ds j = (dsA p j).k := rfl
    have hdj := hdo j hlt2
    rw [Do.V_eq] at hdj
    simp (disch := omega) only [push_cast, go_sem, zA, simprocAttr, hlt2, hnn]
    refine callR.look hdj rfl rfl rfl ?_
    cases h7 : ((dsA p j).k == 7)
    ·have h7' : ((dsA p j).k != 7) = true := by simp [bne, h7]
     simp (disch := omega) only [push_cast, go_sem, zA, simprocAttr, h7']
     have hcs : (chIn (scene p).ds (w + 1) (j + 1)).length = (chIn (scene p).ds (w + 1) j).length := by rw [chIn_succ, hkj, h7]; simp
     refine hJ2 (j + 1) _ _ ⟨by omega, by omega⟩ (by omega) ?_
     rw [hcs]
     (refine zB ?_; repeat (first | exact zC | exact zD | refine zE (by decide) ?_ | refine zF ?_ ?_ | refine zG ?_ ?_)) <;> (try simp (disch := omega) only [push_cast, go_sem, zA, simprocAttr])
    have h7' : ((dsA p j).k != 7) = false := by simp [bne, h7]
    have h7k : kd (scene p).ds j = 7 := by rw [hkj]; simpa using h7
    rcases Nat.lt_or_ge ((chRef p w).length + (chIn (scene p).ds (w + 1) j).length) frm with hcf | hcf
    ·have hng : ¬ ((frm : Int) < ((chRef p w).length : Int) + ((chIn (scene p).ds (w + 1) j).length : Int) + 1) := by omega
     simp (disch := omega) only [push_cast, go_sem, zA, simprocAttr, h7', hng]
     have hcs : (chIn (scene p).ds (w + 1) (j + 1)).length = (chIn (scene p).ds (w + 1) j).length + 1 := by rw [chIn_succ, hkj, h7]; simp
     refine hJ2 (j + 1) _ _ ⟨by omega, by omega⟩ (by omega) ?_
     rw [hcs]
     (refine zB ?_; repeat (first | exact zC | exact zD | refine zE (by decide) ?_ | refine zF ?_ ?_ | refine zG ?_ ?_)) <;> (try simp (disch := omega) only [push_cast, go_sem, zA, simprocAttr])
     all_goals omega
    ·have hg : ((frm : Int) < ((chRef p w).length : Int) + ((chIn (scene p).ds (w + 1) j).length : Int) + 1) := by omega
     obtain ⟨r, hr⟩ := hpre h9k hlwf h7k (by omega) hlt
     rw [hCL] at hr
     have hfe : frm = (chRef p w ++ chIn (scene p).ds (w + 1) j).length := by rw [List.length_append]; omega
     have hd0 : CL.drop frm = (w + 1, j) :: r := by rw [hr, hfe]; exact List.drop_left
     have hd1 : CL.drop (frm + 1) = r := by rw [← List.drop_drop, hd0]; rfl
     have hfl1 : frm + 1 ≤ CL.length := by rw [hr, List.length_append, ← hfe]; simp
     have ho := hout j hlt2 h7k
     have hoj := hoq j hlt2 h7k
     have hw2 := nwith_fn R n (outA p j) (w + 1) (by omega) hoj hw1
     have hw3 := nwith_fn R n w j (by omega) hlt hlt2
     have ih1 := ih (m - 1) (by omega) (frm + 1) (wiR R (outA p j) (w + 1)) (by omega) hfl1
     have ih2 := ih (m - 1) (by omega) (frm + 1) (wiR R w j) (by omega) hfl1
     rw [hd1, netE_eq] at ih1 ih2
     rw [show ((frm + 1 : Nat) : Int) = (frm : Int) + 1 by omega] at ih1 ih2
     rw [show ((w + 1 : Nat) : Int) = (w : Int) + 1 by omega] at hw2
     rw [netE_eq, netE_eq] at hw2 hw3
     have hset : settleR n (outA p) (CL.drop frm) R = (settleR n (outA p) r (wiR R (outA p j) (w + 1))).or (settleR n (outA p) r (wiR R w j)) := by rw [hd0, settleR, hl]; rfl
     rw [hset]
     simp (disch := omega) only [push_cast, go_sem, zA, simprocAttr, h7', hg]
     refine callR.look ho rfl rfl rfl ?_
     simp (disch := omega) only [push_cast, go_sem, zA, simprocAttr]
     refine callR.pure hw2 rfl rfl ?_
     simp (disch := omega) only [push_cast, go_sem, zA, simprocAttr]
     refine callR.look ih1 rfl rfl rfl ?_
     cases hs1 : settleR n (outA p) r (wiR R (outA p j) (w + 1)) with
     | some r1 =>
      simp (disch := omega) only [push_cast, go_sem, zA, simprocAttr, Option.isSome_some]
      refine ⟨_, ?_, rfl, rfl⟩
      ((repeat (first | exact Sub.no | refine Sub.set ?_ ?_)) <;> (try simp (disch := omega) only [push_cast, go_sem, zA, simprocAttr]))
     | none =>
      simp (disch := omega) only [push_cast, go_sem, zA, simprocAttr, Option.isSome_none]
      refine callR.pure hw3 rfl rfl ?_
      simp (disch := omega) only [push_cast, go_sem, zA, simprocAttr]
      refine callR.look ih2 rfl rfl rfl ?_
      simp (disch := omega) only [push_cast, go_sem, zA, simprocAttr]
      refine ⟨_, ?_, rfl, rfl⟩
      ((repeat (first | exact Sub.no | refine Sub.set ?_ ?_)) <;> (try simp (disch := omega) only [push_cast, go_sem, zA, simprocAttr]))
   ·have : j = n := by omega
    subst this
    simp (disch := omega) only [push_cast, go_sem, zA, simprocAttr, hnn]
    have hcs : (chRef p (w + 1)).length = (chRef p w).length + (chIn (scene p).ds (w + 1) j).length := by rw [chRef_succ, hkw, h9, hlwf, hsl]; simp
    refine hJ (w + 1) _ _ ⟨by omega, by omega⟩ (by omega) ?_
    rw [hcs]
    (refine zB ?_; repeat (first | exact zC | exact zD | refine zE (by decide) ?_ | refine zF ?_ ?_ | refine zG ?_ ?_)) <;> (try simp (disch := omega) only [push_cast, go_sem, zA, simprocAttr])
  ·have : w = n := by omega
   subst this
   simp (disch := omega) only [push_cast, go_sem, zA, simprocAttr, hnn]
   have : frm = CL.length := by rw [hCL] at hwf; omega
   rw [this, List.drop_length, settleR, hl]
   refine ⟨_, ?_, rfl, rfl⟩
   ((repeat (first | exact Sub.no | refine Sub.set ?_ ?_)) <;> (try simp (disch := omega) only [push_cast, go_sem, zA, simprocAttr]))
end
section
open Go.RowKit
theorem ds_place {p : Prog} (hpk : progOk p = true) : ∀ (i : Nat), i < (events p).length → 0 ≤ (dsA p i).p := fun i hi => by
 obtain ⟨e, he⟩ : ∃ e, (events p)[i]? = some e := ⟨_, List.getElem?_eq_getElem hi⟩
 have hd : (scene p).ds[i]? = some (dsA p i) := by rw [dsA, scene_get he]; rfl
 have := scene_formed hpk _ (List.mem_of_getElem? hd)
 cases hu : (dsA p i).uses
 ·simp only [Do.formed, hu, Bool.false_eq_true, if_false, Bool.and_eq_true, beq_iff_eq] at this
  omega
 ·exact (formed_place this hu).1
end
section
open Go.RowKit
theorem fz_rowX (x : RowE) : x.V.fz = x.x.V := by
 simp only [RowE.V, RowE.x, Exe.V, V.fz, List.map_cons, List.map_nil, fzs_map, fzs_int, fz_rowsI]
theorem specAllF_fn (p : Prog) (hp : p.length < 2 ^ 40) : Fp Tryz.prog 40 [progV p] (.sl ((specAll p).map Exe.V)) :=
 Fc.fzRow (specExecAllO_fn p hp) (by
  rintro r m ⟨γ, cap, e, es, h1, h2, h3, rfl, rfl⟩
  refine ⟨100, γ, cap, e, es.map RowE.V, by rw [List.length_map], by simp [Mem.set], ?_⟩
  rw [← h1, List.map_map, List.map_map]
  exact List.map_congr_left fun x _ => fz_rowX x)
end
section
open Go.RowKit
theorem oway2_fn (p : Prog) (x : Exe) (c4 c5 : List V) (g : Nat) (hok : progOk p = true) (hf : x.fr.length = (events p).length) (ho : x.od.length = 3) (hrow : ∀ r ∈ x.od, r.length < 2 ^ 40) :
  Fc Tryz.prog 82 [.ptr 0 [] 0 0 g 6, x.V] (noM.set 0 (ordV p g (rdsV p) (wrtV p) (.sl c4) (.sl c5)))
   (fun r m => ∃ ob, (∃ gr, r = .tuple [] ∧ ob = ordV p g (rdsV p) (wrtV p) (.sl (x.fr.map (V.int .i64))) (.own 3 (some gr) (events p).length (((List.range (events p).length).map (rankS p x)).map (V.int .i64)))) ∧ m = noM.set 0 ob) := by
 have hel := events_le hok
 have hsl : (scene p).ds.length = (events p).length := by simp [scene]
 refine Fc.start (S := []) Tryz.func82 Tryz.ntmps82 Tryz.results82 rfl (by decide) rfl (by kernel_rfl) ?_
 simp (disch := omega) only [push_cast, go_sem, zA, simprocAttr, Exe.V_eq, ordV_eq, rdsV_eq, wrtV_eq, List.length_replicate]
 intro g3
 refine ⟨by omega, fun gr => ?_⟩
 refine Sat.loop (σ := Nat) (fun k => upd (upd (upd noT 0 (.ptr 0 [] 0 0 g 6)) 3 (.ptr 3 [] 0 0 g3 2)) 4 (.int .i64 k))
  (fun k => (noM.set 0 (.own 121 (some g) 1 [.agg [.sl (p.map thrV), .sl ((events p).map Evt.V), .sl ((scene p).ds.map fun d => .bool d.reads), .sl ((scene p).ds.map fun d => .bool d.writes), .sl (x.fr.map (V.int .i64)), .own 3 (some gr) (events p).length ((rnk p x k).map (V.int .i64))]])).set 3 (.own 61 (some g3) 1 [.agg [.sl (x.fr.map (V.int .i64)), .sl (x.od.map intsV)]]))
  (fun k => k ≤ (events p).length) (fun k => (events p).length - k) 0 (by omega) ?_ ?_
 ·(refine zB ?_; repeat (first | exact zC | exact zD | refine zE (by decide) ?_ | refine zF ?_ ?_ | refine zG ?_ ?_)) <;> (try simp (disch := omega) only [push_cast, go_sem, zA, simprocAttr])
  all_goals simp [rnk_zero]
 rintro k hk J hJ
 refine Sat.of (S := []) (by kernel_rfl) ?_
 have hrl : (rnk p x k).length = (events p).length := by simp [rnk]
 rcases Nat.lt_or_ge k (events p).length with hlt | hge
 ·obtain ⟨ek, hek⟩ : ∃ e, (events p)[k]? = some e := ⟨_, List.getElem?_eq_getElem hlt⟩
  have hdk : (scene p).ds[k]? = some (dsA p k) := by rw [dsA, scene_get hek]; rfl
  have hp3 := scene_p hok (dsA p k) (List.mem_of_getElem? hdk)
  have h1 := odo_fn p g (rdsV p) (wrtV p) (.sl (x.fr.map (V.int .i64))) (.own 3 (some gr) (events p).length ((rnk p x k).map (V.int .i64))) k hlt
  rw [ordV_eq, rdsV_eq, wrtV_eq] at h1
  obtain ⟨z, hz⟩ : ∃ z, (rnk p x k)[k]? = some z := ⟨_, List.getElem?_eq_getElem (by omega)⟩
  obtain ⟨f, hfk⟩ : ∃ z, x.fr[k]? = some z := ⟨_, List.getElem?_eq_getElem (by omega)⟩
  have hfl : k < x.fr.length := by omega
  cases hw : (dsA p k).writes
  ·cases hr : (dsA p k).reads
   ·simp (disch := omega) only [push_cast, go_sem, zA, simprocAttr, hlt, hdk, hsl, hw, hr]
    refine hJ (k + 1) _ _ (by omega) (by omega) ?_
    rw [rnk_same p x (by simp [rankS, hw, hr])]
    (refine zB ?_; repeat (first | exact zC | exact zD | refine zE (by decide) ?_ | refine zF ?_ ?_ | refine zG ?_ ?_)) <;> (try simp (disch := omega) only [push_cast, go_sem, zA, simprocAttr])
   ·obtain ⟨p0, p1⟩ := hp3 (by simp [Do.uses, hr])
    obtain ⟨pl, hpl⟩ := Int.eq_ofNat_of_zero_le p0
    obtain ⟨row, hrw⟩ : ∃ row, x.od[pl]? = some row := ⟨_, List.getElem?_eq_getElem (by omega)⟩
    have hrk := rank_fn row f (hrow row (List.mem_of_getElem? hrw))
    have hpl3 : (pl : Int) < 3 := by omega
    simp (disch := omega) only [push_cast, go_sem, zA, simprocAttr, hlt, hdk, hsl, hw, hr]
    refine Sat.drawnE [] [] [3, 6, 9, 12, 14, 17, 18] (lookT (.own 121 (some g) 1 [.agg [.sl (p.map thrV), .sl ((events p).map Evt.V), .sl ((scene p).ds.map fun d => .bool d.reads), .sl ((scene p).ds.map fun d => .bool d.writes), .sl (x.fr.map (V.int .i64)), .own 3 (some gr) (events p).length ((rnk p x k).map (V.int .i64))]]) [(125, .int .i64 (Lib.idxOf row f))] [(123, (dsA p k).V)]) (by kernel_rfl) (by kernel_rfl) ?_
    simp (disch := omega) only [push_cast, go_sem, zA, simprocAttr]
    refine runD_look h1 rfl rfl rfl rfl rfl ?_ ?_
    ·rfl
    simp (disch := omega) only [push_cast, go_sem, zA, simprocAttr, Do.V_eq, hpl, hpl3, ho, hrw, intsV_eq, hfk, hfl]
    refine runD_pure rfl hrk rfl rfl ?_ ?_
    ·rfl
    simp (disch := omega) only [push_cast, go_sem, zA, simprocAttr, hz, hrl, hlt]
    have hrS : rankS p x k = Lib.idxOf row f := by simp [rankS, hw, hr, hpl, hrw, hfk]
    refine hJ (k + 1) _ _ (by omega) (by omega) ?_
    rw [rnk_succ, hrS]
    (refine zB ?_; repeat (first | exact zC | exact zD | refine zE (by decide) ?_ | refine zF ?_ ?_ | refine zG ?_ ?_)) <;> (try simp (disch := omega) only [push_cast, go_sem, zA, simprocAttr])
    rw [modInts]
  ·obtain ⟨p0, p1⟩ := hp3 (by simp [Do.uses, hw])
   obtain ⟨pl, hpl⟩ := Int.eq_ofNat_of_zero_le p0
   obtain ⟨row, hrw⟩ : ∃ row, x.od[pl]? = some row := ⟨_, List.getElem?_eq_getElem (by omega)⟩
   have hrk := rank_fn row k (hrow row (List.mem_of_getElem? hrw))
   have hpl3 : (pl : Int) < 3 := by omega
   simp (disch := omega) only [push_cast, go_sem, zA, simprocAttr, hlt, hdk, hsl, hw]
   refine Sat.drawnE [] [] [3, 6, 9, 12, 14] (lookT (.own 121 (some g) 1 [.agg [.sl (p.map thrV), .sl ((events p).map Evt.V), .sl ((scene p).ds.map fun d => .bool d.reads), .sl ((scene p).ds.map fun d => .bool d.writes), .sl (x.fr.map (V.int .i64)), .own 3 (some gr) (events p).length ((rnk p x k).map (V.int .i64))]]) [(125, .int .i64 (Lib.idxOf row k))] [(123, (dsA p k).V)]) (by kernel_rfl) (by kernel_rfl) ?_
   simp (disch := omega) only [push_cast, go_sem, zA, simprocAttr]
   refine runD_look h1 rfl rfl rfl rfl rfl ?_ ?_
   ·rfl
   simp (disch := omega) only [push_cast, go_sem, zA, simprocAttr, Do.V_eq, hpl, hpl3, ho, hrw, intsV_eq]
   refine runD_pure rfl hrk rfl rfl ?_ ?_
   ·rfl
   simp (disch := omega) only [push_cast, go_sem, zA, simprocAttr, hz, hrl, hlt]
   have hrS : rankS p x k = Lib.idxOf row k := by simp [rankS, hw, hpl, hrw]
   refine hJ (k + 1) _ _ (by omega) (by omega) ?_
   rw [rnk_succ, hrS]
   (refine zB ?_; repeat (first | exact zC | exact zD | refine zE (by decide) ?_ | refine zF ?_ ?_ | refine zG ?_ ?_)) <;> (try simp (disch := omega) only [push_cast, go_sem, zA, simprocAttr])
   rw [modInts]
 ·have : k = (events p).length := by omega
  subst this
  simp (disch := omega) only [push_cast, go_sem, zA, simprocAttr]
  rw [rnk_all]
  refine ⟨_, ?_, _, ⟨gr, rfl⟩, rfl⟩
  ((repeat (first | exact Sub.no | refine Sub.set ?_ ?_)) <;> (try simp (disch := omega) only [push_cast, go_sem, zA, simprocAttr]))
end
section
open Go.RowKit
def seensS (p : Prog) (kind : Int) (l : List Exe) : List Sn := (l.filter fun x => holdsS p x kind).map (seenF p)
def ordAll (p : Prog) (kind : Int) : List Sn := if progOk p && inB kind 1 3 then (seensS p kind (specAll p)).foldl putS [] else []
def accS (p : Prog) (kind : Int) (l : List Exe) : List Sn := (seensS p kind l).foldl putS []
theorem acc_yes {p : Prog} {kind : Int} {l : List Exe} {x : Exe} (h : holdsS p x kind = true) : accS p kind (l ++ [x]) = putS (accS p kind l) (seenF p x) := by
 simp [accS, seensS, List.filter_append, h]
theorem acc_no {p : Prog} {kind : Int} {l : List Exe} {x : Exe} (h : holdsS p x kind = false) : accS p kind (l ++ [x]) = accS p kind l := by
 simp [accS, seensS, List.filter_append, h]
theorem put_mem {L : List Sn} {s t : Sn} (h : t ∈ putS L s) : t ∈ L ∨ t = s := by
 rw [putS] at h
 split at h
 ·exact .inl h
 ·have key : ∀ L : List Sn, t ∈ insP L s → t ∈ L ∨ t = s := by
   intro L
   induction L with
   | nil => intro h; simp [insP] at h; exact .inr h
   | cons a L ih =>
    intro h
    rw [insP] at h
    split at h
    ·simp at h ⊢; rcases h with h | h | h
     ·exact .inr h
     ·exact .inl (.inl h)
     ·exact .inl (.inr h)
    ·simp at h ⊢; rcases h with h | h
     ·exact .inl (.inl h)
     ·exact (ih h).imp .inr id
  exact key L h
theorem fold_mem {t : Sn} : ∀ {l L : List Sn}, t ∈ l.foldl putS L → t ∈ L ∨ t ∈ l
 | [], L, h => .inl h
 | s :: l, L, h => by
  rw [List.foldl_cons] at h
  rcases fold_mem h with h | h
  ·rcases put_mem h with h | h
   ·exact .inl h
   ·exact .inr (by simp [h])
  ·exact .inr (by simp [h])
theorem fold_len : ∀ {l L : List Sn}, (l.foldl putS L).length ≤ L.length + l.length
 | [], L => by simp
 | s :: l, L => by
  rw [List.foldl_cons]
  have := fold_len (l := l) (L := putS L s)
  have := put_len L s
  rw [List.length_cons]; omega
theorem acc_len (p : Prog) (kind : Int) (l : List Exe) : (accS p kind l).length ≤ l.length := by
 have := fold_len (l := seensS p kind l) (L := [])
 have h2 : (seensS p kind l).length ≤ l.length := by rw [seensS, List.length_map]; exact List.length_filter_le _ _
 rw [accS]; simp at this; omega
theorem acc_small {p : Prog} {kind : Int} {l : List Exe} (h : ∀ x ∈ l, execOk p x = true) : ∀ t ∈ accS p kind l, t.small := fun t ht => by
 rcases fold_mem ht with h1 | h1
 ·cases h1
 ·simp only [seensS, List.mem_map, List.mem_filter] at h1
  obtain ⟨x, ⟨hx, _⟩, rfl⟩ := h1
  exact rdK_small p x (h x hx)
theorem l13All_fn (p : Prog) (kind : Int) (hp : p.length < 2 ^ 40) : Fp Tryz.prog 39 [progV p, .sl ((specAll p).map Exe.V), .int .i64 kind] (.sl ((ordAll p kind).map Sn.V)) := by
 have h1 := specProgOk_fn p hp
 rw [progV_eq] at h1
 rw [ordAll]
 have hle := specAll_le p
 refine Fc.start (S := [2, 8, 11]) Tryz.func39 Tryz.ntmps39 Tryz.results39 rfl (by decide) rfl (by kernel_rfl) ?_
 simp (disch := omega) only [push_cast, go_sem, zA, simprocAttr, progV_eq]
 intro g3 g12
 refine Sat.freezeT (upd (upd (upd (upd noT 1 (.sl ((specAll p).map Exe.V))) 2 (.int .i64 kind)) 3 (.ptr 3 [] 0 0 g3 1)) 7 (.sl [])) (noM.set 3 (.own 25 (some g3) 1 [.agg [.sl (p.map thrV)]])) 7 (e := 34) (γ := some g12) (cap := 0) (es := []) rfl ?_ ?_
 ·(refine zB ?_; repeat (first | exact zC | exact zD | refine zE (by decide) ?_ | refine zF ?_ ?_ | refine zG ?_ ?_)) <;> (try simp (disch := omega) only [push_cast, go_sem, zA, simprocAttr])
 refine Sat.of (S := [8, 11]) (by kernel_rfl) ?_
 simp (disch := omega) only [push_cast, go_sem, zA, simprocAttr]
 refine callR.pure h1 rfl rfl ?_
 cases hok : progOk p
 ·simp (disch := omega) only [push_cast, go_sem, zA, simprocAttr]
 simp (disch := omega) only [push_cast, go_sem, zA, simprocAttr]
 refine callR.pure (l6In_fn kind 1 3) rfl rfl ?_
 cases hk : inB kind 1 3
 ·simp (disch := omega) only [push_cast, go_sem, zA, simprocAttr]
 have hel := events_le hok
 have hsl : (scene p).ds.length = (events p).length := by simp [scene]
 have hlk := olook_fn p hp hok
 rw [progV_eq] at hlk
 simp (disch := omega) only [push_cast, go_sem, zA, simprocAttr]
 refine callR.new hlk rfl rfl ?_
 rintro r ob ⟨g, rfl, rfl⟩
 have hn0 := onet_fn p g (.own 0 none 0 []) (.own 0 none 0 []) hel 0
 have hnk := onet_fn p g (.own 0 none 0 []) (.own 0 none 0 []) hel kind
 rw [ordV_eq, netE_eq] at hn0 hnk
 simp (disch := omega) only [push_cast, go_sem, zA, simprocAttr, ordV_eq]
 refine callR.look hn0 rfl rfl rfl ?_
 simp (disch := omega) only [push_cast, go_sem, zA, simprocAttr]
 refine callR.look hnk rfl rfl rfl ?_
 simp (disch := omega) only [push_cast, go_sem, zA, simprocAttr]
 rw [rdsV_eq, wrtV_eq]
 refine Sat.freezeC 8 [] 0 4 (n0 := .own 121 (some g) 1 [.agg [.sl (p.map thrV), .sl ((events p).map Evt.V), .sl ((scene p).ds.map fun d => .bool d.reads), .sl ((scene p).ds.map fun d => .bool d.writes), .own 0 none 0 [], .own 0 none 0 []]]) (d := .own 0 none 0 []) ?_ rfl rfl ?_
 ·rfl
 rw [fz_own0]
 refine Sat.freezeC 8 [] 0 5 (n0 := .own 121 (some g) 1 [.agg [.sl (p.map thrV), .sl ((events p).map Evt.V), .sl ((scene p).ds.map fun d => .bool d.reads), .sl ((scene p).ds.map fun d => .bool d.writes), .sl [], .own 0 none 0 []]]) (d := .own 0 none 0 []) ?_ rfl rfl ?_
 ·rfl
 rw [fz_own0]
 have hwh := fun x R kind hfr => owhole_fn p x g R hel hfr (ds_place hok) kind
 refine Sat.loop (σ := Nat × List V × List V) (fun y => upd (upd (upd (upd (upd (upd (upd (upd noT 1 (.sl ((specAll p).map Exe.V))) 2 (.int .i64 kind)) 3 (.ptr 3 [] 0 0 g3 1)) 7 (.sl ((accS p kind ((specAll p).take y.1)).map Sn.V))) 8 (.ptr 8 [] 0 0 g 6)) 9 (netE (netL (staysS p 0) (events p).length))) 10 (netE (netL (staysS p kind) (events p).length))) 11 (.int .i64 y.1))
  (fun y => (noM.set 3 (.own 25 (some g3) 1 [.agg [.sl (p.map thrV)]])).set 8 (.own 121 (some g) 1 [.agg [.sl (p.map thrV), .sl ((events p).map Evt.V), .sl ((scene p).ds.map fun d => .bool d.reads), .sl ((scene p).ds.map fun d => .bool d.writes), .sl y.2.1, .sl y.2.2]]))
  (fun y => y.1 ≤ (specAll p).length) (fun y => (specAll p).length - y.1) (0, [], []) (by simp) ?_ ?_
 ·(refine zB ?_; repeat (first | exact zC | exact zD | refine zE (by decide) ?_ | refine zF ?_ ?_ | refine zG ?_ ?_)) <;> (try simp (disch := omega) only [push_cast, go_sem, zA, simprocAttr])
  all_goals rfl
 rintro ⟨i, a, b⟩ hi J hJ
 simp only at hi hJ
 refine Sat.of (S := [11]) (by kernel_rfl) ?_
 have hal := acc_len p kind ((specAll p).take i)
 have htl : ((specAll p).take i).length = i := by rw [List.length_take]; omega
 rw [htl] at hal
 rcases Nat.lt_or_ge i (specAll p).length with hlt | hge
 ·obtain ⟨x, hx⟩ : ∃ x, (specAll p)[i]? = some x := ⟨_, List.getElem?_eq_getElem hlt⟩
  have hxm := List.mem_of_getElem? hx
  have hxo := all_ok (p := p) (x := x) (by rw [all_eq]; exact hxm)
  have hw := Way.of hxo
  have hsm := specAll_small hxm
  have hxs : x.small := ⟨by omega, by omega, fun r hr => by have := hsm.2.2 r hr; omega⟩
  have hfr : x.fr.length = (events p).length := by rw [hw.fr, hsl]
  have htk := take_get hx
  have hway := oway2_fn p x a b g hok hfr hw.od hxs.row
  rw [ordV_eq, rdsV_eq, wrtV_eq, Exe.V_eq] at hway
  simp (disch := omega) only [push_cast, go_sem, zA, simprocAttr, hx, hlt, Exe.V_eq]
  refine callR.mod hway rfl rfl rfl ?_
  rintro r ob ⟨gr, rfl, rfl⟩
  simp (disch := omega) only [push_cast, go_sem, zA, simprocAttr, ordV_eq]
  have hw0 := hwh x (staysS p 0) 0 hfr
  have hwk := hwh x (staysS p kind) kind hfr
  have hwt := owaits_fn p g (.sl (x.fr.map (V.int .i64))) (.sl (((List.range (events p).length).map (rankS p x)).map (V.int .i64))) hok _ 0 (netR p x kind) rfl (by omega)
  have hho := holds_fn (netR p x 0) (events p).length (by omega)
  rw [List.drop_zero, ordV_eq, rdsV_eq, wrtV_eq, netE_eq] at hwt
  rw [ordV_eq, rdsV_eq, wrtV_eq, netE_eq, netE_eq] at hw0 hwk
  rw [show bothR (staysS p 0) (toldS p x 0) = netR p x 0 from rfl] at hw0
  rw [show bothR (staysS p kind) (toldS p x kind) = netR p x kind from rfl] at hwk
  rw [netE_eq] at hho
  have hse := l12Seen_fn p x hxo hxs
  have hpu := l2Put_fn (accS p kind ((specAll p).take i)) (seenF p x) (by omega) (acc_small fun y hy => all_ok (p := p) (x := y) (by rw [all_eq]; exact List.mem_of_mem_take hy)) (rdK_small p x hxo)
  rw [progV_eq, Exe.V_eq, Sn.V_eq] at hse
  rw [Sn.V_eq] at hpu
  refine Sat.freezeC 8 [] 0 5 (n0 := .own 121 (some g) 1 [.agg [.sl (p.map thrV), .sl ((events p).map Evt.V), .sl ((scene p).ds.map fun d => .bool d.reads), .sl ((scene p).ds.map fun d => .bool d.writes), .sl (x.fr.map (V.int .i64)), .own 3 (some gr) (events p).length (((List.range (events p).length).map (rankS p x)).map (V.int .i64))]])
   (d := .own 3 (some gr) (events p).length (((List.range (events p).length).map (rankS p x)).map (V.int .i64))) ?_ rfl rfl ?_
  ·rfl
  have e1 : (V.own 3 (some gr) (events p).length (((List.range (events p).length).map (rankS p x)).map (V.int .i64))).fz = .sl (((List.range (events p).length).map (rankS p x)).map (V.int .i64)) := by simp only [V.fz, fzs_map, fzs_int]
  rw [e1]
  generalize ((List.range (events p).length).map (rankS p x)).map (V.int .i64) = rk at hw0 hwk hwt ⊢
  have hhs : holdsS p x kind = ((lineE (netR p x 0) (events p).length).isSome && (settledS p x kind).isSome) := by
   have := hxo
   rw [ok_eq] at this
   rw [holdsS, this, hk, settledS]
   cases lineE (netR p x 0) (events p).length <;> rfl
  refine Sat.of (S := []) (by kernel_rfl) ?_
  simp (disch := omega) only [push_cast, go_sem, zA, simprocAttr, netE_eq]
  refine callR.look hw0 rfl rfl rfl ?_
  simp (disch := omega) only [push_cast, go_sem, zA, simprocAttr]
  refine callR.pure hho rfl rfl ?_
  cases hln : lineE (netR p x 0) (events p).length with
  | none =>
   rw [hln] at hhs
   have hf : holdsS p x kind = false := hhs
   simp (disch := omega) only [push_cast, go_sem, zA, simprocAttr, Option.isSome_none]
   refine hJ (i + 1, x.fr.map (V.int .i64), rk) _ _ (by dsimp only; omega) (by dsimp only; omega) ?_
   dsimp only
   rw [htk, acc_no hf]
   (refine zB ?_; repeat (first | exact zC | exact zD | refine zE (by decide) ?_ | refine zF ?_ ?_ | refine zG ?_ ?_)) <;> (try simp (disch := omega) only [push_cast, go_sem, zA, simprocAttr])
   all_goals rfl
  | some ls =>
   rw [hln] at hhs
   simp (disch := omega) only [push_cast, go_sem, zA, simprocAttr, Option.isSome_some]
   refine callR.look hwk rfl rfl rfl ?_
   simp (disch := omega) only [push_cast, go_sem, zA, simprocAttr]
   refine callR.look hwt rfl rfl rfl ?_
   have hst : (settledS p x kind).isSome = (settleR (events p).length (outA p) (chRef p (events p).length) (netR p x kind)).isSome := by rw [settledS, hln]; rfl
   rw [hst] at hhs
   cases hr : (settleR (events p).length (outA p) (chRef p (events p).length) (netR p x kind)).isSome
   ·rw [hr] at hhs
    have hf : holdsS p x kind = false := hhs
    simp (disch := omega) only [push_cast, go_sem, zA, simprocAttr]
    refine hJ (i + 1, x.fr.map (V.int .i64), rk) _ _ (by dsimp only; omega) (by dsimp only; omega) ?_
    dsimp only
    rw [htk, acc_no hf]
    (refine zB ?_; repeat (first | exact zC | exact zD | refine zE (by decide) ?_ | refine zF ?_ ?_ | refine zG ?_ ?_)) <;> (try simp (disch := omega) only [push_cast, go_sem, zA, simprocAttr])
    all_goals rfl
   ·rw [hr] at hhs
    have hf : holdsS p x kind = true := hhs
    simp (disch := omega) only [push_cast, go_sem, zA, simprocAttr]
    refine Sat.drawnE [] [] (List.range 13) (pureT [(87, .agg [.sl ((seenF p x).rd.map (V.int .i64)), .sl ((seenF p x).ls.map (V.int .i64))]), (86, .sl ((putS (accS p kind ((specAll p).take i)) (seenF p x)).map Sn.V))]) (by kernel_rfl) (by kernel_rfl) ?_
    simp (disch := omega) only [push_cast, go_sem, zA, simprocAttr, hx, hlt, Exe.V_eq]
    refine runD_pure rfl hse rfl rfl ?_ ?_
    ·rfl
    simp (disch := omega) only [push_cast, go_sem, zA, simprocAttr]
    refine runD_pure rfl hpu rfl rfl ?_ ?_
    ·rfl
    simp (disch := omega) only [push_cast, go_sem, zA, simprocAttr]
    refine hJ (i + 1, x.fr.map (V.int .i64), rk) _ _ (by dsimp only; omega) (by dsimp only; omega) ?_
    dsimp only
    rw [htk, acc_yes hf]
    (refine zB ?_; repeat (first | exact zC | exact zD | refine zE (by decide) ?_ | refine zF ?_ ?_ | refine zG ?_ ?_)) <;> (try simp (disch := omega) only [push_cast, go_sem, zA, simprocAttr])
    all_goals rfl
 ·have : i = (specAll p).length := by omega
  subst this
  rw [List.take_length]
  simp (disch := omega) only [push_cast, go_sem, zA, simprocAttr]
  rfl
end
section
open Go.RowKit
def ordI (p : Prog) (kind : Int) : List Sn := if progOk p && inB kind 1 3 then seenS (seensS p kind (execAll p)) else []
theorem seens_yes {p : Prog} {kind : Int} {l : List Exe} {x : Exe} (h : holdsS p x kind = true) : seensS p kind (l ++ [x]) = seensS p kind l ++ [seenF p x] := by simp [seensS, h]
theorem seens_no {p : Prog} {kind : Int} {l : List Exe} {x : Exe} (h : holdsS p x kind = false) : seensS p kind (l ++ [x]) = seensS p kind l := by simp [seensS, h]
theorem seens_len (p : Prog) (kind : Int) (l : List Exe) : (seensS p kind l).length ≤ l.length := by
 rw [seensS, List.length_map]; exact List.length_filter_le _ _
theorem seens_small {p : Prog} {kind : Int} {l : List Exe} (h : ∀ x ∈ l, execOk p x = true) : ∀ t ∈ seensS p kind l, t.small := fun t ht => by
 simp only [seensS, List.mem_map, List.mem_filter] at ht
 obtain ⟨x, ⟨hx, _⟩, rfl⟩ := ht
 exact rdK_small p x (h x hx)
theorem implOrderAll_fn (p : Prog) (kind : Int) (hp : p.length < 2 ^ 40) (hl : ∀ l ∈ p, l.length < 2 ^ 40) : Fp Tryz.prog 12 [progV p, .int .i64 kind] (.sl ((ordI p kind).map Sn.V)) := by
 have h1 := implProgOk_fn p hp hl
 rw [progV_eq] at h1
 rw [ordI]
 cases hok : progOk p
 ·refine Fc.nilrow (R' := fun r _ => r = .msl 4 [] none 0 0) ?_ (fun r m hr => ⟨4, [], hr, rfl, rfl⟩)
  refine Fc.start (S := []) Tryz.func12 Tryz.ntmps12 Tryz.results12 rfl (by decide) rfl (by kernel_rfl) ?_
  simp (disch := omega) only [push_cast, go_sem, zA, simprocAttr, progV_eq]
  intro g
  refine callR.pure h1 rfl rfl ?_
  simp (disch := omega) only [push_cast, go_sem, zA, simprocAttr, hok]
  exact ⟨noM, Sub.no⟩
 cases hk : inB kind 1 3
 ·refine Fc.nilrow (R' := fun r _ => r = .msl 4 [] none 0 0) ?_ (fun r m hr => ⟨4, [], hr, rfl, rfl⟩)
  refine Fc.start (S := []) Tryz.func12 Tryz.ntmps12 Tryz.results12 rfl (by decide) rfl (by kernel_rfl) ?_
  simp (disch := omega) only [push_cast, go_sem, zA, simprocAttr, progV_eq]
  intro g
  refine callR.pure h1 rfl rfl ?_
  simp (disch := omega) only [push_cast, go_sem, zA, simprocAttr, hok]
  refine callR.pure (isOrd_fn kind) rfl rfl ?_
  simp (disch := omega) only [push_cast, go_sem, zA, simprocAttr, hk]
  exact ⟨noM, Sub.no⟩
 have hel := events_le hok
 have hus := scene_uses hok
 have hfew : Few (scene p).ds := ⟨Nat.le_trans (count_le _) hus⟩
 have hsc := sceneOf_fn p hok
 have hall := all_fn (scene p) (by simp only [scene, List.length_map]; omega) (scene_len p) (scene_copy hok) hfew.wr (fun k hk => by have := froms_le hus k hk; omega) (fun k hk => by have := orders_le hus k hk; omega)
  (Nat.lt_of_le_of_lt (Nat.mul_le_mul (froms_le hus _ (Nat.le_refl _)) (orders_le hus 3 (Nat.le_refl _))) (by decide))
 have hae : allOf (scene p) = execAll p := by rw [execAll, hok]; rfl
 rw [hae] at hall
 have hsee := fun x hx => seen_fn p x (all_ok hx)
 have hle : (execAll p).length < 2 ^ 30 := by rw [all_eq]; exact specAll_le p
 have hsl := seens_len p kind (execAll p)
 have hsort := seenSort_fn (seensS p kind (execAll p)) (seens_small fun x hx => all_ok hx) (by omega)
 rw [progV_eq] at hsc
 rw [Sc.V_eq] at hsc hall
 rw [Bool.and_self, if_pos rfl]
 refine Fc.start (S := [12]) Tryz.func12 Tryz.ntmps12 Tryz.results12 rfl (by decide) rfl (by kernel_rfl) ?_
 simp (disch := omega) only [push_cast, go_sem, zA, simprocAttr, progV_eq]
 intro g2
 refine callR.pure h1 rfl rfl ?_
 simp (disch := omega) only [push_cast, go_sem, zA, simprocAttr, hok]
 refine callR.pure (isOrd_fn kind) rfl rfl ?_
 simp (disch := omega) only [push_cast, go_sem, zA, simprocAttr, hk]
 refine callR.pure hsc rfl rfl ?_
 simp (disch := omega) only [push_cast, go_sem, zA, simprocAttr]
 intro g5
 refine callR.pure hall rfl rfl ?_
 simp (disch := omega) only [push_cast, go_sem, zA, simprocAttr]
 refine Sat.loop (σ := EvS) (fun x => upd (upd (upd (upd (upd (upd noT 1 (.int .i64 kind)) 5 (.ptr 5 [] 0 0 g5 3)) 22 (.sl ((execAll p).map Exe.V))) 23 (.int .i64 (execAll p).length)) 24 (.int .i64 x.k)) 6 (.msl 6 [] x.γ (seensS p kind ((execAll p).take x.k)).length x.c))
  (fun x => (noM.set 5 (.own 55 (some g5) 1 [.agg [.sl ((scene p).p.map thrV), .sl ((scene p).es.map Evt.V), .sl ((scene p).ds.map Do.V)]])).set 6 (.own x.e x.γ x.c ((seensS p kind ((execAll p).take x.k)).map Sn.V)))
  (fun x => x.k ≤ (execAll p).length ∧ (x.γ = none ∨ x.e = 34)) (fun x => (execAll p).length - x.k) ⟨0, 0, none, 0⟩ (by simp) ?_ ?_
 ·(refine zB ?_; repeat (first | exact zC | exact zD | refine zE (by decide) ?_ | refine zF ?_ ?_ | refine zG ?_ ?_)) <;> (try simp (disch := omega) only [push_cast, go_sem, zA, simprocAttr])
  all_goals rfl
 rintro ⟨k, e, γ, c⟩ ⟨hi, hγ⟩ J hJ
 simp only at hi hγ hJ
 have hγ' : (γ = none ∨ e = 34) = True := by simp only [hγ]
 refine Sat.of (S := []) (by kernel_rfl) ?_
 rcases Nat.lt_or_ge k (execAll p).length with hlt | hge
 ·obtain ⟨x, hx⟩ : ∃ x, (execAll p)[k]? = some x := ⟨_, List.getElem?_eq_getElem hlt⟩
  have hxm := List.mem_of_getElem? hx
  have hxo := all_ok hxm
  have hw := Way.of hxo
  have hsm := specAll_small (p := p) (y := x) (by rw [← all_eq]; exact hxm)
  have hxs : x.small := ⟨by omega, by omega, fun r hr => by have := hsm.2.2 r hr; omega⟩
  have hse := hsee x hxm hxs
  have hst := settled_fn p x kind hw hxs hk
  have htk := take_get hx
  have hho : holdsS p x kind = (settledS p x kind).isSome := by
   have := hxo
   rw [ok_eq] at this
   rw [holdsS, this, hk]; rfl
  have hcl := seens_len p kind ((execAll p).take k)
  have htl : ((execAll p).take k).length = k := by rw [List.length_take]; omega
  rw [Exe.V_eq, Sc.V_eq] at hse hst
  rw [Sn.V_eq] at hse
  simp (disch := omega) only [push_cast, go_sem, zA, simprocAttr, hx, hlt, Exe.V_eq]
  intro g8
  cases hr : settledS p x kind with
  | none =>
   rw [hr] at hho hst
   rw [no_settle] at hst
   refine callR.pure hst rfl rfl ?_
   simp (disch := omega) only [push_cast, go_sem, zA, simprocAttr]
   refine hJ ⟨k + 1, e, γ, c⟩ _ _ ⟨by dsimp only; omega, hγ⟩ (by dsimp only; omega) ?_
   dsimp only
   rw [htk, seens_no hho]
   (refine zB ?_; repeat (first | exact zC | exact zD | refine zE (by decide) ?_ | refine zF ?_ ?_ | refine zG ?_ ?_)) <;> (try simp (disch := omega) only [push_cast, go_sem, zA, simprocAttr])
  | some r =>
   rw [hr] at hho hst
   rw [some_settle] at hst
   refine callR.pure hst rfl rfl ?_
   simp (disch := omega) only [push_cast, go_sem, zA, simprocAttr]
   refine callR.pure hse rfl rfl ?_
   simp (disch := omega) only [push_cast, go_sem, zA, simprocAttr, hγ']
   intro g40
   refine ⟨by omega, fun γ' c' _ => ?_⟩
   refine hJ ⟨k + 1, 34, γ', c'⟩ _ _ ⟨by dsimp only; omega, .inr rfl⟩ (by dsimp only; omega) ?_
   dsimp only
   rw [htk, seens_yes hho]
   (refine zB ?_; repeat (first | exact zC | exact zD | refine zE (by decide) ?_ | refine zF ?_ ?_ | refine zG ?_ ?_)) <;> (try simp (disch := omega) only [push_cast, go_sem, zA, simprocAttr])
   all_goals simp [Sn.V]
 ·have : k = (execAll p).length := by omega
  subst this
  simp (disch := omega) only [push_cast, go_sem, zA, simprocAttr, List.take_length]
  refine Sat.freezeT (upd noT 6 (.sl ((seensS p kind (execAll p)).map Sn.V))) noM 6 (e := e) (γ := γ) (cap := c) (es := (seensS p kind (execAll p)).map Sn.V) rfl ?_ ?_
  ·(refine zB ?_; repeat (first | exact zC | exact zD | refine zE (by decide) ?_ | refine zF ?_ ?_ | refine zG ?_ ?_)) <;> (try simp (disch := omega) only [push_cast, go_sem, zA, simprocAttr])
  refine Sat.of (S := []) (by kernel_rfl) ?_
  simp (disch := omega) only [push_cast, go_sem, zA, simprocAttr]
  refine callR.pure hsort rfl rfl ?_
  simp (disch := omega) only [push_cast, go_sem, zA, simprocAttr]
end
section
open Go.RowKit Go.Lib
def strictS (l : List Sn) : Prop := l.Pairwise fun s t => cmpS s t < 0
theorem cmpS_irr (s : Sn) : ¬ cmpS s s < 0 := by rw [cmpS_zero.2 rfl]; omega
theorem strict_nodup {l : List Sn} (h : strictS l) : l.Nodup := h.imp fun {a b} hab e => by subst e; exact cmpS_irr a hab
theorem strict_ext {l m : List Sn} (hl : strictS l) (hm : strictS m) (h : ∀ s, s ∈ l ↔ s ∈ m) : l = m := by
 have hp : l.Perm m := (List.perm_ext_iff_of_nodup (strict_nodup hl) (strict_nodup hm)).2 h
 refine List.Perm.eq_of_pairwise (le := fun s t => cmpS s t < 0) ?_ hl hm hp
 intro a b _ _ h1 h2
 exact absurd (cmpS_trans a b a h1 h2) (cmpS_irr a)
theorem mem_insP {s t : Sn} : ∀ {l : List Sn}, t ∈ insP l s ↔ t = s ∨ t ∈ l
 | [] => by simp [insP]
 | u :: l => by
  rw [insP]
  split
  ·simp
  ·rw [List.mem_cons, mem_insP, List.mem_cons]
   constructor
   ·rintro (h | h | h) <;> simp [h]
   ·rintro (h | h | h) <;> simp [h]
theorem strict_insP {s : Sn} : ∀ {l : List Sn}, strictS l → s ∉ l → strictS (insP l s)
 | [], _, _ => by simp [insP, strictS]
 | u :: l, h, hn => by
  rw [insP]
  have h' := List.pairwise_cons.1 h
  split
  ·rename_i hlt
   have hsu : cmpS s u < 0 := by have := cmpS_neg u s; omega
   refine List.pairwise_cons.2 ⟨fun t ht => ?_, h⟩
   rcases List.mem_cons.1 ht with rfl | ht
   ·exact hsu
   ·exact cmpS_trans _ _ _ hsu (h'.1 t ht)
  ·rename_i hlt
   have hne : u ≠ s := fun e => hn (by rw [e]; exact List.mem_cons_self ..)
   have hus : cmpS u s < 0 := by
    have : cmpS u s ≠ 0 := fun e => hne (cmpS_zero.1 e)
    omega
   refine List.pairwise_cons.2 ⟨fun t ht => ?_, strict_insP h'.2 fun hm => hn (List.mem_cons_of_mem _ hm)⟩
   rcases mem_insP.1 ht with rfl | ht
   ·exact hus
   ·exact h'.1 t ht
theorem mem_putS {L : List Sn} {s t : Sn} : t ∈ putS L s ↔ t ∈ L ∨ t = s := by
 rw [putS]
 split
 ·rename_i h
  have hs : s ∈ L := List.contains_iff_mem.1 h
  constructor
  ·exact .inl
  ·rintro (h | rfl)
   ·exact h
   ·exact hs
 ·rw [mem_insP]; exact ⟨fun h => h.symm, fun h => h.symm⟩
theorem strict_putS {L : List Sn} {s : Sn} (h : strictS L) : strictS (putS L s) := by
 rw [putS]
 split
 ·exact h
 ·rename_i hn
  exact strict_insP h fun hm => hn (List.contains_iff_mem.2 hm)
theorem fold_putS {l : List Sn} : ∀ {L : List Sn}, strictS L → strictS (l.foldl putS L) ∧ ∀ s, s ∈ l.foldl putS L ↔ s ∈ L ∨ s ∈ l := by
 induction l with
 | nil => intro L h; exact ⟨h, fun s => by simp⟩
 | cons a l ih =>
  intro L h
  rw [List.foldl_cons]
  obtain ⟨h1, h2⟩ := ih (strict_putS (s := a) h)
  refine ⟨h1, fun s => ?_⟩
  rw [h2, mem_putS, List.mem_cons, or_assoc]
theorem compact_strict {d : Array Sn} (h : d.toList.Pairwise fun s t => ¬ cmpS t s < 0) : ∀ m, m ≤ d.size → strictS (compactUpTo d m) ∧ (∀ s, s ∈ compactUpTo d m ↔ s ∈ d.toList.take m) ∧ (0 < m → ∃ l, compactUpTo d m = l ++ [d[m - 1]!])
 | 0, _ => ⟨by simp [compactUpTo, strictS], fun s => by simp [compactUpTo], fun h => absurd h (by omega)⟩
 | m + 1, hm => by
  obtain ⟨i1, i2, i3⟩ := compact_strict h m (by omega)
  have hd : d[m]! = d.toList[m]'(by simp; omega) := by rw [getElem!_pos d m (by omega)]; simp
  have htk : d.toList.take (m + 1) = d.toList.take m ++ [d[m]!] := by rw [List.take_add_one, List.getElem?_eq_getElem (by simp; omega), hd]; rfl
  rw [compactUpTo_succ, htk]
  cases hk : keeps d m
  ·have hk' : ¬ (m = 0 ∨ d[m]! ≠ d[m - 1]!) := by simpa [keeps] using hk
   have hm0 : 0 < m := by omega
   have he : d[m]! = d[m - 1]! := Classical.byContradiction fun hne => hk' (.inr hne)
   obtain ⟨l, hl⟩ := i3 hm0
   simp only [Bool.false_eq_true, if_false, List.append_nil]
   refine ⟨i1, fun s => ?_, fun _ => ⟨l, by rw [hl, Nat.add_sub_cancel, he]⟩⟩
   rw [List.mem_append, ← i2]
   constructor
   ·exact .inl
   ·rintro (h | h)
    ·exact h
    ·have : s = d[m - 1]! := by rw [← he]; simpa using h
     rw [hl, this]; simp
  ·simp only [if_true]
   refine ⟨?_, fun s => by rw [List.mem_append, List.mem_append, i2], fun _ => ⟨_, by rw [Nat.add_sub_cancel]⟩⟩
   refine List.pairwise_append.2 ⟨i1, by simp, fun a ha b hb => ?_⟩
   have hb' : b = d[m]! := by simpa using hb
   subst hb'
   by_cases hm0 : m = 0
   ·subst hm0; simp [compactUpTo] at ha
   ·have hne : d[m]! ≠ d[m - 1]! := by
     have : m = 0 ∨ d[m]! ≠ d[m - 1]! := by simpa [keeps] using hk
     exact this.resolve_left hm0
    have hpair : ∀ i j (hi : i < d.toList.length) (hj : j < d.toList.length), i < j → ¬ cmpS d.toList[j] d.toList[i] < 0 := fun i j hi hj hij => (List.pairwise_iff_getElem.1 h) i j hi hj hij
    have hlast : cmpS d[m - 1]! d[m]! < 0 := by
     have h1 := hpair (m - 1) m (by simp; omega) (by simp; omega) (by omega)
     have e1 : d[m - 1]! = d.toList[m - 1]'(by simp; omega) := by rw [getElem!_pos d (m - 1) (by omega)]; simp
     rw [← hd, ← e1] at h1
     have h2 := cmpS_neg d[m - 1]! d[m]!
     have h3 : cmpS d[m - 1]! d[m]! ≠ 0 := fun e => hne (cmpS_zero.1 e).symm
     omega
    obtain ⟨l, hl⟩ := i3 (by omega)
    rw [hl] at ha i1
    rcases List.mem_append.1 ha with ha | ha
    ·exact cmpS_trans _ _ _ ((List.pairwise_append.1 i1).2.2 a ha _ (by simp)) hlast
    ·have : a = d[m - 1]! := by simpa using ha
     rw [this]; exact hlast
theorem sortSn_pw (l : List Sn) : (sortSn l).Pairwise fun s t => ¬ cmpS t s < 0 := by
 have := List.pairwise_mergeSort (le := fun s t => !decide (cmpS t s < 0)) (fun a b c h1 h2 => by
  simp only [Bool.not_eq_true', decide_eq_false_iff_not] at *
  intro h3
  have e1 := cmpS_neg a b
  have e2 := cmpS_neg b c
  by_cases k1 : cmpS a b = 0
  ·rw [cmpS_zero.1 k1] at h3; exact h2 h3
  ·by_cases k2 : cmpS b c = 0
   ·rw [← cmpS_zero.1 k2] at h3; exact h1 h3
   ·have := cmpS_trans a b c (by omega) (by omega)
    have := cmpS_neg a c
    omega) (fun a b => by
  have := cmpS_neg a b
  simp only [Bool.or_eq_true, Bool.not_eq_true', decide_eq_false_iff_not]; omega) l
 exact this.imp fun h => by simpa using h
theorem seenS_eq (l : List Sn) : seenS l = l.foldl putS [] := by
 obtain ⟨h1, h2⟩ := fold_putS (l := l) (L := []) .nil
 have hc := compact_strict (d := (sortSn l).toArray) (by simpa using sortSn_pw l) (sortSn l).length (by simp)
 refine strict_ext hc.1 h1 fun s => ?_
 rw [h2]
 show s ∈ compactUpTo _ _ ↔ _
 rw [hc.2.1]
 simp [(sortSn_perm l).mem_iff]
theorem ordI_eq (p : Prog) (kind : Int) : ordI p kind = ordAll p kind := by
 rw [ordI, ordAll, all_eq, seenS_eq]
theorem mem_ord {p : Prog} {kind : Int} {s : Sn} : s ∈ ordAll p kind ↔ progOk p = true ∧ inB kind 1 3 = true ∧ ∃ x ∈ specAll p, holdsS p x kind = true ∧ seenF p x = s := by
 rw [ordAll]
 split
 ·rename_i h
  rw [Bool.and_eq_true] at h
  rw [(fold_putS (l := seensS p kind (specAll p)) (L := []) .nil).2]
  simp only [List.not_mem_nil, false_or, seensS, List.mem_map, List.mem_filter, h.1, h.2, true_and]
  constructor
  ·rintro ⟨x, ⟨h1, h2⟩, h3⟩; exact ⟨x, h1, h2, h3⟩
  ·rintro ⟨x, h1, h2, h3⟩; exact ⟨x, ⟨h1, h2⟩, h3⟩
 ·rename_i h
  constructor
  ·intro h'; cases h'
  ·rintro ⟨h1, h2, _⟩; exact absurd (by rw [h1, h2]; rfl) h
end
end Go.Proofs.YtkdolbffabmemaaGreatDoor
