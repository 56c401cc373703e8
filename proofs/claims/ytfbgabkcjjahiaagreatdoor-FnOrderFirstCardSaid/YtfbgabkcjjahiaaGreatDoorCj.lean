/-
 Contracts and plain laws.
-/
import Derived.Test.YtfbgabkcjjahiaaGreatDoorCf
import Derived.Test.YtfbgabkcjjahiaaGreatDoorCh
import Derived.Test.YtfbgabkcjjahiaaGreatDoorCi
set_option linter.unusedSimpArgs false
set_option linter.unusedVariables false
set_option linter.unusedSectionVars false
namespace Go.Proofs.YtfbgabkcjjahiaaGreatDoor
section
open Go.RowKit
theorem oway2_fn (p : Prog) (x : Exe) (c4 c5 : List V) (g : Nat) (hok : progOk p = true) (hf : x.fr.length = (events p).length) (ho : x.od.length = 3) (hrow : ∀ r ∈ x.od, r.length < 2 ^ 40) :
  Fc Tryz.prog 60 [.ptr 0 [] 0 0 g 6, x.V] (noM.set 0 (ordV p g (rdsV p) (wrtV p) (.sl c4) (.sl c5)))
   (fun r m => ∃ ob, (∃ gr, r = .tuple [] ∧ ob = ordV p g (rdsV p) (wrtV p) (.sl (x.fr.map (V.int .i64))) (.own 3 (some gr) (events p).length (((List.range (events p).length).map (rankS p x)).map (V.int .i64)))) ∧ m = noM.set 0 ob) := by
 have hel := events_le hok
 have hsl : (scene p).ds.length = (events p).length := by simp [scene]
 refine Fc.start (S := []) Tryz.func60 Tryz.ntmps60 Tryz.results60 rfl (by decide) rfl (by kernel_rfl) ?_
 simp (disch := omega) only [push_cast, go_sem, zA, simprocAttr, Exe.V_eq, ordV_eq, rdsV_eq, wrtV_eq, List.length_replicate]
 intro g3
 refine ⟨by omega, fun gr => ?_⟩
 refine Sat.loop (σ := Nat) (fun k => upd (upd (upd noT 0 (.ptr 0 [] 0 0 g 6)) 3 (.ptr 3 [] 0 0 g3 2)) 4 (.int .i64 k))
  (fun k => (noM.set 0 (.own 134 (some g) 1 [.agg [.sl (p.map thrV), .sl ((events p).map Evt.V), .sl ((scene p).ds.map fun d => .bool d.reads), .sl ((scene p).ds.map fun d => .bool d.writes), .sl (x.fr.map (V.int .i64)), .own 3 (some gr) (events p).length ((rnk p x k).map (V.int .i64))]])).set 3 (.own 33 (some g3) 1 [.agg [.sl (x.fr.map (V.int .i64)), .sl (x.od.map intsV)]]))
  (fun k => k ≤ (events p).length) (fun k => (events p).length - k) 0 (by omega) ?_ ?_
 ·(refine zB ?_; repeat (first | exact zC | exact zD | refine zE (by decide) ?_ | refine zF ?_ ?_ | refine zG ?_ ?_)) <;> (try simp (disch := omega) only [push_cast, go_sem, zA, simprocAttr])
  all_goals simp [rnk_zero]
 rintro k hk J hJ
 refine Sat.of (S := []) (by kernel_rfl) ?_
 have hrl : (rnk p x k).length = (events p).length := by simp [rnk]
 rcases Nat.lt_or_ge k (events p).length with hlt | hge
 ·obtain ⟨ek, hek⟩ : ∃ e, (events p)[k]? = some e := ⟨_, List.getElem?_eq_getElem hlt⟩
  have hdk : (scene p).ds[k]? = some (dsA p k) := by rw [dsA, scene_get hek]; rfl
  have hp3 := scene_p hok (dsA p k) (List.mem_of_getElem? hdk)
  have h1 := odo_fn p g (rdsV p) (wrtV p) (.sl (x.fr.map (V.int .i64))) (.own 3 (some gr) (events p).length ((rnk p x k).map (V.int .i64))) k hlt
  rw [ordV_eq, rdsV_eq, wrtV_eq] at h1
  obtain ⟨z, hz⟩ : ∃ z, (rnk p x k)[k]? = some z := ⟨_, List.getElem?_eq_getElem (by omega)⟩
  obtain ⟨f, hfk⟩ : ∃ z, x.fr[k]? = some z := ⟨_, List.getElem?_eq_getElem (by omega)⟩
  have hfl : k < x.fr.length := by omega
  cases hw : (dsA p k).writes
  ·cases hr : (dsA p k).reads
   ·simp (disch := omega) only [push_cast, go_sem, zA, simprocAttr, hlt, hdk, hsl, hw, hr]
    refine hJ (k + 1) _ _ (by omega) (by omega) ?_
    rw [rnk_same p x (by simp [rankS, hw, hr])]
    (refine zB ?_; repeat (first | exact zC | exact zD | refine zE (by decide) ?_ | refine zF ?_ ?_ | refine zG ?_ ?_)) <;> (try simp (disch := omega) only [push_cast, go_sem, zA, simprocAttr])
   ·obtain ⟨p0, p1⟩ := hp3 (by simp [Do.uses, hr])
    obtain ⟨pl, hpl⟩ := Int.eq_ofNat_of_zero_le p0
    obtain ⟨row, hrw⟩ : ∃ row, x.od[pl]? = some row := ⟨_, List.getElem?_eq_getElem (by omega)⟩
    have hrk := rank_fn row f (hrow row (List.mem_of_getElem? hrw))
    have hpl3 : (pl : Int) < 3 := by omega
    simp (disch := omega) only [push_cast, go_sem, zA, simprocAttr, hlt, hdk, hsl, hw, hr]
    refine Sat.drawnE [] [] [3, 6, 9, 12, 14, 17, 18] (lookT (.own 134 (some g) 1 [.agg [.sl (p.map thrV), .sl ((events p).map Evt.V), .sl ((scene p).ds.map fun d => .bool d.reads), .sl ((scene p).ds.map fun d => .bool d.writes), .sl (x.fr.map (V.int .i64)), .own 3 (some gr) (events p).length ((rnk p x k).map (V.int .i64))]]) [(103, .int .i64 (Lib.idxOf row f))] [(102, (dsA p k).V)]) (by kernel_rfl) (by kernel_rfl) ?_
    simp (disch := omega) only [push_cast, go_sem, zA, simprocAttr]
    refine runD_look h1 rfl rfl rfl rfl rfl ?_ ?_
    ·rfl
    simp (disch := omega) only [push_cast, go_sem, zA, simprocAttr, Do.V_eq, hpl, hpl3, ho, hrw, intsV_eq, hfk, hfl]
    refine runD_pure rfl hrk rfl rfl ?_ ?_
    ·rfl
    simp (disch := omega) only [push_cast, go_sem, zA, simprocAttr, hz, hrl, hlt]
    have hrS : rankS p x k = Lib.idxOf row f := by simp [rankS, hw, hr, hpl, hrw, hfk]
    refine hJ (k + 1) _ _ (by omega) (by omega) ?_
    rw [rnk_succ, hrS]
    (refine zB ?_; repeat (first | exact zC | exact zD | refine zE (by decide) ?_ | refine zF ?_ ?_ | refine zG ?_ ?_)) <;> (try simp (disch := omega) only [push_cast, go_sem, zA, simprocAttr])
    rw [modInts]
  ·obtain ⟨p0, p1⟩ := hp3 (by simp [Do.uses, hw])
   obtain ⟨pl, hpl⟩ := Int.eq_ofNat_of_zero_le p0
   obtain ⟨row, hrw⟩ : ∃ row, x.od[pl]? = some row := ⟨_, List.getElem?_eq_getElem (by omega)⟩
   have hrk := rank_fn row k (hrow row (List.mem_of_getElem? hrw))
   have hpl3 : (pl : Int) < 3 := by omega
   simp (disch := omega) only [push_cast, go_sem, zA, simprocAttr, hlt, hdk, hsl, hw]
   refine Sat.drawnE [] [] [3, 6, 9, 12, 14] (lookT (.own 134 (some g) 1 [.agg [.sl (p.map thrV), .sl ((events p).map Evt.V), .sl ((scene p).ds.map fun d => .bool d.reads), .sl ((scene p).ds.map fun d => .bool d.writes), .sl (x.fr.map (V.int .i64)), .own 3 (some gr) (events p).length ((rnk p x k).map (V.int .i64))]]) [(103, .int .i64 (Lib.idxOf row k))] [(102, (dsA p k).V)]) (by kernel_rfl) (by kernel_rfl) ?_
   simp (disch := omega) only [push_cast, go_sem, zA, simprocAttr]
   refine runD_look h1 rfl rfl rfl rfl rfl ?_ ?_
   ·rfl
   simp (disch := omega) only [push_cast, go_sem, zA, simprocAttr, Do.V_eq, hpl, hpl3, ho, hrw, intsV_eq]
   refine runD_pure rfl hrk rfl rfl ?_ ?_
   ·rfl
   simp (disch := omega) only [push_cast, go_sem, zA, simprocAttr, hz, hrl, hlt]
   have hrS : rankS p x k = Lib.idxOf row k := by simp [rankS, hw, hpl, hrw]
   refine hJ (k + 1) _ _ (by omega) (by omega) ?_
   rw [rnk_succ, hrS]
   (refine zB ?_; repeat (first | exact zC | exact zD | refine zE (by decide) ?_ | refine zF ?_ ?_ | refine zG ?_ ?_)) <;> (try simp (disch := omega) only [push_cast, go_sem, zA, simprocAttr])
   rw [modInts]
 ·have : k = (events p).length := by omega
  subst this
  simp (disch := omega) only [push_cast, go_sem, zA, simprocAttr]
  rw [rnk_all]
  refine ⟨_, ?_, _, ⟨gr, rfl⟩, rfl⟩
  ((repeat (first | exact Sub.no | refine Sub.set ?_ ?_)) <;> (try simp (disch := omega) only [push_cast, go_sem, zA, simprocAttr]))
end
section
open Go.RowKit
def seensS (p : Prog) (kind : Int) (l : List Exe) : List Sn := (l.filter fun x => holdsS p x kind).map (seenF p)
def ordAll (p : Prog) (kind : Int) : List Sn := if progOk p && inB kind 1 3 then (seensS p kind (specAll p)).foldl putS [] else []
def accS (p : Prog) (kind : Int) (l : List Exe) : List Sn := (seensS p kind l).foldl putS []
theorem acc_yes {p : Prog} {kind : Int} {l : List Exe} {x : Exe} (h : holdsS p x kind = true) : accS p kind (l ++ [x]) = putS (accS p kind l) (seenF p x) := by
 simp [accS, seensS, List.filter_append, h]
theorem acc_no {p : Prog} {kind : Int} {l : List Exe} {x : Exe} (h : holdsS p x kind = false) : accS p kind (l ++ [x]) = accS p kind l := by
 simp [accS, seensS, List.filter_append, h]
theorem put_mem {L : List Sn} {s t : Sn} (h : t ∈ putS L s) : t ∈ L ∨ t = s := by
 rw [putS] at h
 split at h
 ·exact .inl h
 ·have key : ∀ L : List Sn, t ∈ insP L s → t ∈ L ∨ t = s := by
   intro L
   induction L with
   | nil => intro h; simp [insP] at h; exact .inr h
   | cons a L ih =>
    intro h
    rw [insP] at h
    split at h
    ·simp at h ⊢; rcases h with h | h | h
     ·exact .inr h
     ·exact .inl (.inl h)
     ·exact .inl (.inr h)
    ·simp at h ⊢; rcases h with h | h
     ·exact .inl (.inl h)
     ·exact (ih h).imp .inr id
  exact key L h
theorem fold_mem {t : Sn} : ∀ {l L : List Sn}, t ∈ l.foldl putS L → t ∈ L ∨ t ∈ l
 | [], L, h => .inl h
 | s :: l, L, h => by
  rw [List.foldl_cons] at h
  rcases fold_mem h with h | h
  ·rcases put_mem h with h | h
   ·exact .inl h
   ·exact .inr (by simp [h])
  ·exact .inr (by simp [h])
theorem fold_len : ∀ {l L : List Sn}, (l.foldl putS L).length ≤ L.length + l.length
 | [], L => by simp
 | s :: l, L => by
  rw [List.foldl_cons]
  have := fold_len (l := l) (L := putS L s)
  have := put_len L s
  rw [List.length_cons]; omega
theorem acc_len (p : Prog) (kind : Int) (l : List Exe) : (accS p kind l).length ≤ l.length := by
 have := fold_len (l := seensS p kind l) (L := [])
 have h2 : (seensS p kind l).length ≤ l.length := by rw [seensS, List.length_map]; exact List.length_filter_le _ _
 rw [accS]; simp at this; omega
theorem acc_small {p : Prog} {kind : Int} {l : List Exe} (h : ∀ x ∈ l, execOk p x = true) : ∀ t ∈ accS p kind l, t.small := fun t ht => by
 rcases fold_mem ht with h1 | h1
 ·cases h1
 ·simp only [seensS, List.mem_map, List.mem_filter] at h1
  obtain ⟨x, ⟨hx, _⟩, rfl⟩ := h1
  exact rdK_small p x (h x hx)
theorem l13All_fn (p : Prog) (kind : Int) (hp : p.length < 2 ^ 40) : Fp Tryz.prog 68 [progV p, .sl ((specAll p).map Exe.V), .int .i64 kind] (.sl ((ordAll p kind).map Sn.V)) := by
 have h1 := specProgOk_fn p hp
 rw [progV_eq] at h1
 rw [ordAll]
 have hle := specAll_le p
 refine Fc.start (S := [2, 8, 11]) Tryz.func68 Tryz.ntmps68 Tryz.results68 rfl (by decide) rfl (by kernel_rfl) ?_
 simp (disch := omega) only [push_cast, go_sem, zA, simprocAttr, progV_eq]
 intro g3 g12
 refine Sat.freezeT (upd (upd (upd (upd noT 1 (.sl ((specAll p).map Exe.V))) 2 (.int .i64 kind)) 3 (.ptr 3 [] 0 0 g3 1)) 7 (.sl [])) (noM.set 3 (.own 25 (some g3) 1 [.agg [.sl (p.map thrV)]])) 7 (e := 28) (γ := some g12) (cap := 0) (es := []) rfl ?_ ?_
 ·(refine zB ?_; repeat (first | exact zC | exact zD | refine zE (by decide) ?_ | refine zF ?_ ?_ | refine zG ?_ ?_)) <;> (try simp (disch := omega) only [push_cast, go_sem, zA, simprocAttr])
 refine Sat.of (S := [8, 11]) (by kernel_rfl) ?_
 simp (disch := omega) only [push_cast, go_sem, zA, simprocAttr]
 refine callR.pure h1 rfl rfl ?_
 cases hok : progOk p
 ·simp (disch := omega) only [push_cast, go_sem, zA, simprocAttr]
 simp (disch := omega) only [push_cast, go_sem, zA, simprocAttr]
 refine callR.pure (l6In_fn kind 1 3) rfl rfl ?_
 cases hk : inB kind 1 3
 ·simp (disch := omega) only [push_cast, go_sem, zA, simprocAttr]
 have hel := events_le hok
 have hsl : (scene p).ds.length = (events p).length := by simp [scene]
 have hlk := olook_fn p hp hok
 rw [progV_eq] at hlk
 simp (disch := omega) only [push_cast, go_sem, zA, simprocAttr]
 refine callR.new hlk rfl rfl ?_
 rintro r ob ⟨g, rfl, rfl⟩
 have hn0 := onet_fn p g (.own 0 none 0 []) (.own 0 none 0 []) hel 0
 have hnk := onet_fn p g (.own 0 none 0 []) (.own 0 none 0 []) hel kind
 rw [ordV_eq, netE_eq] at hn0 hnk
 simp (disch := omega) only [push_cast, go_sem, zA, simprocAttr, ordV_eq]
 refine callR.look hn0 rfl rfl rfl ?_
 simp (disch := omega) only [push_cast, go_sem, zA, simprocAttr]
 refine callR.look hnk rfl rfl rfl ?_
 simp (disch := omega) only [push_cast, go_sem, zA, simprocAttr]
 rw [rdsV_eq, wrtV_eq]
 refine Sat.freezeC 8 [] 0 4 (n0 := .own 134 (some g) 1 [.agg [.sl (p.map thrV), .sl ((events p).map Evt.V), .sl ((scene p).ds.map fun d => .bool d.reads), .sl ((scene p).ds.map fun d => .bool d.writes), .own 0 none 0 [], .own 0 none 0 []]]) (d := .own 0 none 0 []) ?_ rfl rfl ?_
 ·rfl
 rw [fz_own0]
 refine Sat.freezeC 8 [] 0 5 (n0 := .own 134 (some g) 1 [.agg [.sl (p.map thrV), .sl ((events p).map Evt.V), .sl ((scene p).ds.map fun d => .bool d.reads), .sl ((scene p).ds.map fun d => .bool d.writes), .sl [], .own 0 none 0 []]]) (d := .own 0 none 0 []) ?_ rfl rfl ?_
 ·rfl
 rw [fz_own0]
 have hwh := fun x R kind hfr => owhole_fn p x g R hel hfr (ds_place hok) kind
 refine Sat.loop (σ := Nat × List V × List V) (fun y => upd (upd (upd (upd (upd (upd (upd (upd noT 1 (.sl ((specAll p).map Exe.V))) 2 (.int .i64 kind)) 3 (.ptr 3 [] 0 0 g3 1)) 7 (.sl ((accS p kind ((specAll p).take y.1)).map Sn.V))) 8 (.ptr 8 [] 0 0 g 6)) 9 (netE (netL (staysS p 0) (events p).length))) 10 (netE (netL (staysS p kind) (events p).length))) 11 (.int .i64 y.1))
  (fun y => (noM.set 3 (.own 25 (some g3) 1 [.agg [.sl (p.map thrV)]])).set 8 (.own 134 (some g) 1 [.agg [.sl (p.map thrV), .sl ((events p).map Evt.V), .sl ((scene p).ds.map fun d => .bool d.reads), .sl ((scene p).ds.map fun d => .bool d.writes), .sl y.2.1, .sl y.2.2]]))
  (fun y => y.1 ≤ (specAll p).length) (fun y => (specAll p).length - y.1) (0, [], []) (by simp) ?_ ?_
 ·(refine zB ?_; repeat (first | exact zC | exact zD | refine zE (by decide) ?_ | refine zF ?_ ?_ | refine zG ?_ ?_)) <;> (try simp (disch := omega) only [push_cast, go_sem, zA, simprocAttr])
  all_goals rfl
 rintro ⟨i, a, b⟩ hi J hJ
 simp only at hi hJ
 refine Sat.of (S := [11]) (by kernel_rfl) ?_
 have hal := acc_len p kind ((specAll p).take i)
 have htl : ((specAll p).take i).length = i := by rw [List.length_take]; omega
 rw [htl] at hal
 rcases Nat.lt_or_ge i (specAll p).length with hlt | hge
 ·obtain ⟨x, hx⟩ : ∃ x, (specAll p)[i]? = some x := ⟨_, List.getElem?_eq_getElem hlt⟩
  have hxm := List.mem_of_getElem? hx
  have hxo := all_ok (p := p) (x := x) (by rw [all_eq]; exact hxm)
  have hw := Way.of hxo
  have hsm := specAll_small hxm
  have hxs : x.small := ⟨by omega, by omega, fun r hr => by have := hsm.2.2 r hr; omega⟩
  have hfr : x.fr.length = (events p).length := by rw [hw.fr, hsl]
  have htk := take_get hx
  have hway := oway2_fn p x a b g hok hfr hw.od hxs.row
  rw [ordV_eq, rdsV_eq, wrtV_eq, Exe.V_eq] at hway
  simp (disch := omega) only [push_cast, go_sem, zA, simprocAttr, hx, hlt, Exe.V_eq]
  refine callR.mod hway rfl rfl rfl ?_
  rintro r ob ⟨gr, rfl, rfl⟩
  simp (disch := omega) only [push_cast, go_sem, zA, simprocAttr, ordV_eq]
  have hw0 := hwh x (staysS p 0) 0 hfr
  have hwk := hwh x (staysS p kind) kind hfr
  have hwt := owaits_fn p g (.sl (x.fr.map (V.int .i64))) (.sl (((List.range (events p).length).map (rankS p x)).map (V.int .i64))) hok _ 0 (netR p x kind) rfl (by omega)
  have hho := holds_fn (netR p x 0) (events p).length (by omega)
  rw [List.drop_zero, ordV_eq, rdsV_eq, wrtV_eq, netE_eq] at hwt
  rw [ordV_eq, rdsV_eq, wrtV_eq, netE_eq, netE_eq] at hw0 hwk
  rw [show bothR (staysS p 0) (toldS p x 0) = netR p x 0 from rfl] at hw0
  rw [show bothR (staysS p kind) (toldS p x kind) = netR p x kind from rfl] at hwk
  rw [netE_eq] at hho
  have hse := l12Seen_fn p x hxo hxs
  have hpu := l2Put_fn (accS p kind ((specAll p).take i)) (seenF p x) (by omega) (acc_small fun y hy => all_ok (p := p) (x := y) (by rw [all_eq]; exact List.mem_of_mem_take hy)) (rdK_small p x hxo)
  rw [progV_eq, Exe.V_eq, Sn.V_eq] at hse
  rw [Sn.V_eq] at hpu
  refine Sat.freezeC 8 [] 0 5 (n0 := .own 134 (some g) 1 [.agg [.sl (p.map thrV), .sl ((events p).map Evt.V), .sl ((scene p).ds.map fun d => .bool d.reads), .sl ((scene p).ds.map fun d => .bool d.writes), .sl (x.fr.map (V.int .i64)), .own 3 (some gr) (events p).length (((List.range (events p).length).map (rankS p x)).map (V.int .i64))]])
   (d := .own 3 (some gr) (events p).length (((List.range (events p).length).map (rankS p x)).map (V.int .i64))) ?_ rfl rfl ?_
  ·rfl
  have e1 : (V.own 3 (some gr) (events p).length (((List.range (events p).length).map (rankS p x)).map (V.int .i64))).fz = .sl (((List.range (events p).length).map (rankS p x)).map (V.int .i64)) := by simp only [V.fz, fzs_map, fzs_int]
  rw [e1]
  generalize ((List.range (events p).length).map (rankS p x)).map (V.int .i64) = rk at hw0 hwk hwt ⊢
  have hhs : holdsS p x kind = ((lineE (netR p x 0) (events p).length).isSome && (settledS p x kind).isSome) := by
   have := hxo
   rw [ok_eq] at this
   rw [holdsS, this, hk, settledS]
   cases lineE (netR p x 0) (events p).length <;> rfl
  refine Sat.of (S := []) (by kernel_rfl) ?_
  simp (disch := omega) only [push_cast, go_sem, zA, simprocAttr, netE_eq]
  refine callR.look hw0 rfl rfl rfl ?_
  simp (disch := omega) only [push_cast, go_sem, zA, simprocAttr]
  refine callR.pure hho rfl rfl ?_
  cases hln : lineE (netR p x 0) (events p).length with
  | none =>
   rw [hln] at hhs
   have hf : holdsS p x kind = false := hhs
   simp (disch := omega) only [push_cast, go_sem, zA, simprocAttr, Option.isSome_none]
   refine hJ (i + 1, x.fr.map (V.int .i64), rk) _ _ (by dsimp only; omega) (by dsimp only; omega) ?_
   dsimp only
   rw [htk, acc_no hf]
   (refine zB ?_; repeat (first | exact zC | exact zD | refine zE (by decide) ?_ | refine zF ?_ ?_ | refine zG ?_ ?_)) <;> (try simp (disch := omega) only [push_cast, go_sem, zA, simprocAttr])
   all_goals rfl
  | some ls =>
   rw [hln] at hhs
   simp (disch := omega) only [push_cast, go_sem, zA, simprocAttr, Option.isSome_some]
   refine callR.look hwk rfl rfl rfl ?_
   simp (disch := omega) only [push_cast, go_sem, zA, simprocAttr]
   refine callR.look hwt rfl rfl rfl ?_
   have hst : (settledS p x kind).isSome = (settleR (events p).length (outA p) (chRef p (events p).length) (netR p x kind)).isSome := by rw [settledS, hln]; rfl
   rw [hst] at hhs
   cases hr : (settleR (events p).length (outA p) (chRef p (events p).length) (netR p x kind)).isSome
   ·rw [hr] at hhs
    have hf : holdsS p x kind = false := hhs
    simp (disch := omega) only [push_cast, go_sem, zA, simprocAttr]
    refine hJ (i + 1, x.fr.map (V.int .i64), rk) _ _ (by dsimp only; omega) (by dsimp only; omega) ?_
    dsimp only
    rw [htk, acc_no hf]
    (refine zB ?_; repeat (first | exact zC | exact zD | refine zE (by decide) ?_ | refine zF ?_ ?_ | refine zG ?_ ?_)) <;> (try simp (disch := omega) only [push_cast, go_sem, zA, simprocAttr])
    all_goals rfl
   ·rw [hr] at hhs
    have hf : holdsS p x kind = true := hhs
    simp (disch := omega) only [push_cast, go_sem, zA, simprocAttr]
    refine Sat.drawnE [] [] (List.range 13) (pureT [(79, .agg [.sl ((seenF p x).rd.map (V.int .i64)), .sl ((seenF p x).ls.map (V.int .i64))]), (115, .sl ((putS (accS p kind ((specAll p).take i)) (seenF p x)).map Sn.V))]) (by kernel_rfl) (by kernel_rfl) ?_
    simp (disch := omega) only [push_cast, go_sem, zA, simprocAttr, hx, hlt, Exe.V_eq]
    refine runD_pure rfl hse rfl rfl ?_ ?_
    ·rfl
    simp (disch := omega) only [push_cast, go_sem, zA, simprocAttr]
    refine runD_pure rfl hpu rfl rfl ?_ ?_
    ·rfl
    simp (disch := omega) only [push_cast, go_sem, zA, simprocAttr]
    refine hJ (i + 1, x.fr.map (V.int .i64), rk) _ _ (by dsimp only; omega) (by dsimp only; omega) ?_
    dsimp only
    rw [htk, acc_yes hf]
    (refine zB ?_; repeat (first | exact zC | exact zD | refine zE (by decide) ?_ | refine zF ?_ ?_ | refine zG ?_ ?_)) <;> (try simp (disch := omega) only [push_cast, go_sem, zA, simprocAttr])
    all_goals rfl
 ·have : i = (specAll p).length := by omega
  subst this
  rw [List.take_length]
  simp (disch := omega) only [push_cast, go_sem, zA, simprocAttr]
  rfl
end
section
open Go.RowKit
def ordI (p : Prog) (kind : Int) : List Sn := if progOk p && inB kind 1 3 then seenS (seensS p kind (execAll p)) else []
theorem seens_yes {p : Prog} {kind : Int} {l : List Exe} {x : Exe} (h : holdsS p x kind = true) : seensS p kind (l ++ [x]) = seensS p kind l ++ [seenF p x] := by simp [seensS, h]
theorem seens_no {p : Prog} {kind : Int} {l : List Exe} {x : Exe} (h : holdsS p x kind = false) : seensS p kind (l ++ [x]) = seensS p kind l := by simp [seensS, h]
theorem seens_len (p : Prog) (kind : Int) (l : List Exe) : (seensS p kind l).length ≤ l.length := by
 rw [seensS, List.length_map]; exact List.length_filter_le _ _
theorem seens_small {p : Prog} {kind : Int} {l : List Exe} (h : ∀ x ∈ l, execOk p x = true) : ∀ t ∈ seensS p kind l, t.small := fun t ht => by
 simp only [seensS, List.mem_map, List.mem_filter] at ht
 obtain ⟨x, ⟨hx, _⟩, rfl⟩ := ht
 exact rdK_small p x (h x hx)
theorem implOrderAll_fn (p : Prog) (kind : Int) (hp : p.length < 2 ^ 40) (hl : ∀ l ∈ p, l.length < 2 ^ 40) : Fp Tryz.prog 28 [progV p, .int .i64 kind] (.sl ((ordI p kind).map Sn.V)) := by
 have h1 := implProgOk_fn p hp hl
 rw [progV_eq] at h1
 rw [ordI]
 cases hok : progOk p
 ·refine Fc.nilrow (R' := fun r _ => r = .msl 4 [] none 0 0) ?_ (fun r m hr => ⟨4, [], hr, rfl, rfl⟩)
  refine Fc.start (S := []) Tryz.func28 Tryz.ntmps28 Tryz.results28 rfl (by decide) rfl (by kernel_rfl) ?_
  simp (disch := omega) only [push_cast, go_sem, zA, simprocAttr, progV_eq]
  intro g
  refine callR.pure h1 rfl rfl ?_
  simp (disch := omega) only [push_cast, go_sem, zA, simprocAttr, hok]
  exact ⟨noM, Sub.no⟩
 cases hk : inB kind 1 3
 ·refine Fc.nilrow (R' := fun r _ => r = .msl 4 [] none 0 0) ?_ (fun r m hr => ⟨4, [], hr, rfl, rfl⟩)
  refine Fc.start (S := []) Tryz.func28 Tryz.ntmps28 Tryz.results28 rfl (by decide) rfl (by kernel_rfl) ?_
  simp (disch := omega) only [push_cast, go_sem, zA, simprocAttr, progV_eq]
  intro g
  refine callR.pure h1 rfl rfl ?_
  simp (disch := omega) only [push_cast, go_sem, zA, simprocAttr, hok]
  refine callR.pure (isOrd_fn kind) rfl rfl ?_
  simp (disch := omega) only [push_cast, go_sem, zA, simprocAttr, hk]
  exact ⟨noM, Sub.no⟩
 have hel := events_le hok
 have hus := scene_uses hok
 have hfew : Few (scene p).ds := ⟨Nat.le_trans (count_le _) hus⟩
 have hsc := sceneOf_fn p hok
 have hall := all_fn (scene p) (by simp only [scene, List.length_map]; omega) (scene_len p) (scene_copy hok) hfew.wr (fun k hk => by have := froms_le hus k hk; omega) (fun k hk => by have := orders_le hus k hk; omega)
  (Nat.lt_of_le_of_lt (Nat.mul_le_mul (froms_le hus _ (Nat.le_refl _)) (orders_le hus 3 (Nat.le_refl _))) (by decide))
 have hae : allOf (scene p) = execAll p := by rw [execAll, hok]; rfl
 rw [hae] at hall
 have hsee := fun x hx => seen_fn p x (all_ok hx)
 have hle : (execAll p).length < 2 ^ 30 := by rw [all_eq]; exact specAll_le p
 have hsl := seens_len p kind (execAll p)
 have hsort := seenSort_fn (seensS p kind (execAll p)) (seens_small fun x hx => all_ok hx) (by omega)
 rw [progV_eq] at hsc
 rw [Sc.V_eq] at hsc hall
 rw [Bool.and_self, if_pos rfl]
 refine Fc.start (S := [12]) Tryz.func28 Tryz.ntmps28 Tryz.results28 rfl (by decide) rfl (by kernel_rfl) ?_
 simp (disch := omega) only [push_cast, go_sem, zA, simprocAttr, progV_eq]
 intro g2
 refine callR.pure h1 rfl rfl ?_
 simp (disch := omega) only [push_cast, go_sem, zA, simprocAttr, hok]
 refine callR.pure (isOrd_fn kind) rfl rfl ?_
 simp (disch := omega) only [push_cast, go_sem, zA, simprocAttr, hk]
 refine callR.pure hsc rfl rfl ?_
 simp (disch := omega) only [push_cast, go_sem, zA, simprocAttr]
 intro g5
 refine callR.pure hall rfl rfl ?_
 simp (disch := omega) only [push_cast, go_sem, zA, simprocAttr]
 refine Sat.loop (σ := EvS) (fun x => upd (upd (upd (upd (upd (upd noT 1 (.int .i64 kind)) 5 (.ptr 5 [] 0 0 g5 3)) 22 (.sl ((execAll p).map Exe.V))) 23 (.int .i64 (execAll p).length)) 24 (.int .i64 x.k)) 6 (.msl 6 [] x.γ (seensS p kind ((execAll p).take x.k)).length x.c))
  (fun x => (noM.set 5 (.own 74 (some g5) 1 [.agg [.sl ((scene p).p.map thrV), .sl ((scene p).es.map Evt.V), .sl ((scene p).ds.map Do.V)]])).set 6 (.own x.e x.γ x.c ((seensS p kind ((execAll p).take x.k)).map Sn.V)))
  (fun x => x.k ≤ (execAll p).length ∧ (x.γ = none ∨ x.e = 28)) (fun x => (execAll p).length - x.k) ⟨0, 0, none, 0⟩ (by simp) ?_ ?_
 ·(refine zB ?_; repeat (first | exact zC | exact zD | refine zE (by decide) ?_ | refine zF ?_ ?_ | refine zG ?_ ?_)) <;> (try simp (disch := omega) only [push_cast, go_sem, zA, simprocAttr])
  all_goals rfl
 rintro ⟨k, e, γ, c⟩ ⟨hi, hγ⟩ J hJ
 simp only at hi hγ hJ
 have hγ' : (γ = none ∨ e = 28) = True := by simp only [hγ]
 refine Sat.of (S := []) (by kernel_rfl) ?_
 rcases Nat.lt_or_ge k (execAll p).length with hlt | hge
 ·obtain ⟨x, hx⟩ : ∃ x, (execAll p)[k]? = some x := ⟨_, List.getElem?_eq_getElem hlt⟩
  have hxm := List.mem_of_getElem? hx
  have hxo := all_ok hxm
  have hw := Way.of hxo
  have hsm := specAll_small (p := p) (y := x) (by rw [← all_eq]; exact hxm)
  have hxs : x.small := ⟨by omega, by omega, fun r hr => by have := hsm.2.2 r hr; omega⟩
  have hse := hsee x hxm hxs
  have hst := settled_fn p x kind hw hxs hk
  have htk := take_get hx
  have hho : holdsS p x kind = (settledS p x kind).isSome := by
   have := hxo
   rw [ok_eq] at this
   rw [holdsS, this, hk]; rfl
  have hcl := seens_len p kind ((execAll p).take k)
  have htl : ((execAll p).take k).length = k := by rw [List.length_take]; omega
  rw [Exe.V_eq, Sc.V_eq] at hse hst
  rw [Sn.V_eq] at hse
  simp (disch := omega) only [push_cast, go_sem, zA, simprocAttr, hx, hlt, Exe.V_eq]
  intro g8
  cases hr : settledS p x kind with
  | none =>
   rw [hr] at hho hst
   rw [no_settle] at hst
   refine callR.pure hst rfl rfl ?_
   simp (disch := omega) only [push_cast, go_sem, zA, simprocAttr]
   refine hJ ⟨k + 1, e, γ, c⟩ _ _ ⟨by dsimp only; omega, hγ⟩ (by dsimp only; omega) ?_
   dsimp only
   rw [htk, seens_no hho]
   (refine zB ?_; repeat (first | exact zC | exact zD | refine zE (by decide) ?_ | refine zF ?_ ?_ | refine zG ?_ ?_)) <;> (try simp (disch := omega) only [push_cast, go_sem, zA, simprocAttr])
  | some r =>
   rw [hr] at hho hst
   rw [some_settle] at hst
   refine callR.pure hst rfl rfl ?_
   simp (disch := omega) only [push_cast, go_sem, zA, simprocAttr]
   refine callR.pure hse rfl rfl ?_
   simp (disch := omega) only [push_cast, go_sem, zA, simprocAttr, hγ']
   intro g40
   refine ⟨by omega, fun γ' c' _ => ?_⟩
   refine hJ ⟨k + 1, 28, γ', c'⟩ _ _ ⟨by dsimp only; omega, .inr rfl⟩ (by dsimp only; omega) ?_
   dsimp only
   rw [htk, seens_yes hho]
   (refine zB ?_; repeat (first | exact zC | exact zD | refine zE (by decide) ?_ | refine zF ?_ ?_ | refine zG ?_ ?_)) <;> (try simp (disch := omega) only [push_cast, go_sem, zA, simprocAttr])
   all_goals simp [Sn.V]
 ·have : k = (execAll p).length := by omega
  subst this
  simp (disch := omega) only [push_cast, go_sem, zA, simprocAttr, List.take_length]
  refine Sat.freezeT (upd noT 6 (.sl ((seensS p kind (execAll p)).map Sn.V))) noM 6 (e := e) (γ := γ) (cap := c) (es := (seensS p kind (execAll p)).map Sn.V) rfl ?_ ?_
  ·(refine zB ?_; repeat (first | exact zC | exact zD | refine zE (by decide) ?_ | refine zF ?_ ?_ | refine zG ?_ ?_)) <;> (try simp (disch := omega) only [push_cast, go_sem, zA, simprocAttr])
  refine Sat.of (S := []) (by kernel_rfl) ?_
  simp (disch := omega) only [push_cast, go_sem, zA, simprocAttr]
  refine callR.pure hsort rfl rfl ?_
  simp (disch := omega) only [push_cast, go_sem, zA, simprocAttr]
end
section
open Go.RowKit Go.Lib
def strictS (l : List Sn) : Prop := l.Pairwise fun s t => cmpS s t < 0
theorem cmpS_irr (s : Sn) : ¬ cmpS s s < 0 := by rw [cmpS_zero.2 rfl]; omega
theorem strict_nodup {l : List Sn} (h : strictS l) : l.Nodup := h.imp fun {a b} hab e => by subst e; exact cmpS_irr a hab
theorem strict_ext {l m : List Sn} (hl : strictS l) (hm : strictS m) (h : ∀ s, s ∈ l ↔ s ∈ m) : l = m := by
 have hp : l.Perm m := (List.perm_ext_iff_of_nodup (strict_nodup hl) (strict_nodup hm)).2 h
 refine List.Perm.eq_of_pairwise (le := fun s t => cmpS s t < 0) ?_ hl hm hp
 intro a b _ _ h1 h2
 exact absurd (cmpS_trans a b a h1 h2) (cmpS_irr a)
theorem mem_insP {s t : Sn} : ∀ {l : List Sn}, t ∈ insP l s ↔ t = s ∨ t ∈ l
 | [] => by simp [insP]
 | u :: l => by
  rw [insP]
  split
  ·simp
  ·rw [List.mem_cons, mem_insP, List.mem_cons]
   constructor
   ·rintro (h | h | h) <;> simp [h]
   ·rintro (h | h | h) <;> simp [h]
theorem strict_insP {s : Sn} : ∀ {l : List Sn}, strictS l → s ∉ l → strictS (insP l s)
 | [], _, _ => by simp [insP, strictS]
 | u :: l, h, hn => by
  rw [insP]
  have h' := List.pairwise_cons.1 h
  split
  ·rename_i hlt
   have hsu : cmpS s u < 0 := by have := cmpS_neg u s; omega
   refine List.pairwise_cons.2 ⟨fun t ht => ?_, h⟩
   rcases List.mem_cons.1 ht with rfl | ht
   ·exact hsu
   ·exact cmpS_trans _ _ _ hsu (h'.1 t ht)
  ·rename_i hlt
   have hne : u ≠ s := fun e => hn (by rw [e]; exact List.mem_cons_self ..)
   have hus : cmpS u s < 0 := by
    have : cmpS u s ≠ 0 := fun e => hne (cmpS_zero.1 e)
    omega
   refine List.pairwise_cons.2 ⟨fun t ht => ?_, strict_insP h'.2 fun hm => hn (List.mem_cons_of_mem _ hm)⟩
   rcases mem_insP.1 ht with rfl | ht
   ·exact hus
   ·exact h'.1 t ht
theorem mem_putS {L : List Sn} {s t : Sn} : t ∈ putS L s ↔ t ∈ L ∨ t = s := by
 rw [putS]
 split
 ·rename_i h
  have hs : s ∈ L := List.contains_iff_mem.1 h
  constructor
  ·exact .inl
  ·rintro (h | rfl)
   ·exact h
   ·exact hs
 ·rw [mem_insP]; exact ⟨fun h => h.symm, fun h => h.symm⟩
theorem strict_putS {L : List Sn} {s : Sn} (h : strictS L) : strictS (putS L s) := by
 rw [putS]
 split
 ·exact h
 ·rename_i hn
  exact strict_insP h fun hm => hn (List.contains_iff_mem.2 hm)
theorem fold_putS {l : List Sn} : ∀ {L : List Sn}, strictS L → strictS (l.foldl putS L) ∧ ∀ s, s ∈ l.foldl putS L ↔ s ∈ L ∨ s ∈ l := by
 induction l with
 | nil => intro L h; exact ⟨h, fun s => by simp⟩
 | cons a l ih =>
  intro L h
  rw [List.foldl_cons]
  obtain ⟨h1, h2⟩ := ih (strict_putS (s := a) h)
  refine ⟨h1, fun s => ?_⟩
  rw [h2, mem_putS, List.mem_cons, or_assoc]
theorem compact_strict {d : Array Sn} (h : d.toList.Pairwise fun s t => ¬ cmpS t s < 0) : ∀ m, m ≤ d.size → strictS (compactUpTo d m) ∧ (∀ s, s ∈ compactUpTo d m ↔ s ∈ d.toList.take m) ∧ (0 < m → ∃ l, compactUpTo d m = l ++ [d[m - 1]!])
 | 0, _ => ⟨by simp [compactUpTo, strictS], fun s => by simp [compactUpTo], fun h => absurd h (by omega)⟩
 | m + 1, hm => by
  obtain ⟨i1, i2, i3⟩ := compact_strict h m (by omega)
  have hd : d[m]! = d.toList[m]'(by simp; omega) := by rw [getElem!_pos d m (by omega)]; simp
  have htk : d.toList.take (m + 1) = d.toList.take m ++ [d[m]!] := by rw [List.take_add_one, List.getElem?_eq_getElem (by simp; omega), hd]; rfl
  rw [compactUpTo_succ, htk]
  cases hk : keeps d m
  ·have hk' : ¬ (m = 0 ∨ d[m]! ≠ d[m - 1]!) := by simpa [keeps] using hk
   have hm0 : 0 < m := by omega
   have he : d[m]! = d[m - 1]! := Classical.byContradiction fun hne => hk' (.inr hne)
   obtain ⟨l, hl⟩ := i3 hm0
   simp only [Bool.false_eq_true, if_false, List.append_nil]
   refine ⟨i1, fun s => ?_, fun _ => ⟨l, by rw [hl, Nat.add_sub_cancel, he]⟩⟩
   rw [List.mem_append, ← i2]
   constructor
   ·exact .inl
   ·rintro (h | h)
    ·exact h
    ·have : s = d[m - 1]! := by rw [← he]; simpa using h
     rw [hl, this]; simp
  ·simp only [if_true]
   refine ⟨?_, fun s => by rw [List.mem_append, List.mem_append, i2], fun _ => ⟨_, by rw [Nat.add_sub_cancel]⟩⟩
   refine List.pairwise_append.2 ⟨i1, by simp, fun a ha b hb => ?_⟩
   have hb' : b = d[m]! := by simpa using hb
   subst hb'
   by_cases hm0 : m = 0
   ·subst hm0; simp [compactUpTo] at ha
   ·have hne : d[m]! ≠ d[m - 1]! := by
     have : m = 0 ∨ d[m]! ≠ d[m - 1]! := by simpa [keeps] using hk
     exact this.resolve_left hm0
    have hpair : ∀ i j (hi : i < d.toList.length) (hj : j < d.toList.length), i < j → ¬ cmpS d.toList[j] d.toList[i] < 0 := fun i j hi hj hij => (List.pairwise_iff_getElem.1 h) i j hi hj hij
    have hlast : cmpS d[m - 1]! d[m]! < 0 := by
     have h1 := hpair (m - 1) m (by simp; omega) (by simp; omega) (by omega)
     have e1 : d[m - 1]! = d.toList[m - 1]'(by simp; omega) := by rw [getElem!_pos d (m - 1) (by omega)]; simp
     rw [← hd, ← e1] at h1
     have h2 := cmpS_neg d[m - 1]! d[m]!
     have h3 : cmpS d[m - 1]! d[m]! ≠ 0 := fun e => hne (cmpS_zero.1 e).symm
     omega
    obtain ⟨l, hl⟩ := i3 (by omega)
    rw [hl] at ha i1
    rcases List.mem_append.1 ha with ha | ha
    ·exact cmpS_trans _ _ _ ((List.pairwise_append.1 i1).2.2 a ha _ (by simp)) hlast
    ·have : a = d[m - 1]! := by simpa using ha
     rw [this]; exact hlast
theorem sortSn_pw (l : List Sn) : (sortSn l).Pairwise fun s t => ¬ cmpS t s < 0 := by
 have := List.pairwise_mergeSort (le := fun s t => !decide (cmpS t s < 0)) (fun a b c h1 h2 => by
  simp only [Bool.not_eq_true', decide_eq_false_iff_not] at *
  intro h3
  have e1 := cmpS_neg a b
  have e2 := cmpS_neg b c
  by_cases k1 : cmpS a b = 0
  ·rw [cmpS_zero.1 k1] at h3; exact h2 h3
  ·by_cases k2 : cmpS b c = 0
   ·rw [← cmpS_zero.1 k2] at h3; exact h1 h3
   ·have := cmpS_trans a b c (by omega) (by omega)
    have := cmpS_neg a c
    omega) (fun a b => by
  have := cmpS_neg a b
  simp only [Bool.or_eq_true, Bool.not_eq_true', decide_eq_false_iff_not]; omega) l
 exact this.imp fun h => by simpa using h
theorem seenS_eq (l : List Sn) : seenS l = l.foldl putS [] := by
 obtain ⟨h1, h2⟩ := fold_putS (l := l) (L := []) .nil
 have hc := compact_strict (d := (sortSn l).toArray) (by simpa using sortSn_pw l) (sortSn l).length (by simp)
 refine strict_ext hc.1 h1 fun s => ?_
 rw [h2]
 show s ∈ compactUpTo _ _ ↔ _
 rw [hc.2.1]
 simp [(sortSn_perm l).mem_iff]
theorem ordI_eq (p : Prog) (kind : Int) : ordI p kind = ordAll p kind := by
 rw [ordI, ordAll, all_eq, seenS_eq]
theorem mem_ord {p : Prog} {kind : Int} {s : Sn} : s ∈ ordAll p kind ↔ progOk p = true ∧ inB kind 1 3 = true ∧ ∃ x ∈ specAll p, holdsS p x kind = true ∧ seenF p x = s := by
 rw [ordAll]
 split
 ·rename_i h
  rw [Bool.and_eq_true] at h
  rw [(fold_putS (l := seensS p kind (specAll p)) (L := []) .nil).2]
  simp only [List.not_mem_nil, false_or, seensS, List.mem_map, List.mem_filter, h.1, h.2, true_and]
  constructor
  ·rintro ⟨x, ⟨h1, h2⟩, h3⟩; exact ⟨x, h1, h2, h3⟩
  ·rintro ⟨x, h1, h2, h3⟩; exact ⟨x, ⟨h1, h2⟩, h3⟩
 ·rename_i h
  constructor
  ·intro h'; cases h'
  ·rintro ⟨h1, h2, _⟩; exact absurd (by rw [h1, h2]; rfl) h
theorem ord_strict (p : Prog) (kind : Int) : strictS (ordAll p kind) := by
 rw [ordAll]
 split
 ·exact (fold_putS .nil).1
 ·exact .nil
theorem ord_ext {p q : Prog} {k m : Int} (h : ∀ s, s ∈ ordAll p k ↔ s ∈ ordAll q m) : ordAll p k = ordAll q m := strict_ext (ord_strict p k) (ord_strict q m) h
end
section
open Go.RowKit
def Rkd (n : Nat) (R : Nat → Nat → Prop) : Prop := ∃ r : Nat → Nat, ∀ a b, a < n → b < n → R a b → r a < r b
theorem least_of {S : Nat → Prop} (r : Nat → Nat) (h : ∃ b, S b) : ∃ b, S b ∧ ∀ a, S a → r b ≤ r a := by
 obtain ⟨b0, h0⟩ := h
 have key : ∀ m b, r b = m → S b → ∃ b, S b ∧ ∀ a, S a → r b ≤ r a := by
  intro m
  induction m using Nat.strongRecOn with
  | ind m ih =>
   intro b hb hS
   by_cases hx : ∃ a, S a ∧ r a < r b
   ·obtain ⟨a, h1, h2⟩ := hx
    exact ih (r a) (by omega) a rfl h1
   ·exact ⟨b, hS, fun a ha => by
     rcases Nat.lt_or_ge (r a) (r b) with h | h
     ·exact absurd ⟨a, ha, h⟩ hx
     ·exact h⟩
 exact key _ b0 rfl h0
theorem Rkd.min {n : Nat} {R : Nat → Nat → Prop} (h : Rkd n R) (S : Nat → Prop) (hS : ∃ b, b < n ∧ S b) : ∃ b, b < n ∧ S b ∧ ∀ a, a < n → S a → ¬ R a b := by
 obtain ⟨r, hr⟩ := h
 obtain ⟨b, ⟨h1, h2⟩, h3⟩ := least_of (S := fun b => b < n ∧ S b) r hS
 refine ⟨b, h1, h2, fun a ha hSa hR => ?_⟩
 have := hr a b ha h1 hR
 have := h3 a ⟨ha, hSa⟩
 omega
theorem Rkd.of_min {n : Nat} {R : Nat → Nat → Prop} (h : ∀ S : Nat → Prop, (∃ b, b < n ∧ S b) → ∃ b, b < n ∧ S b ∧ ∀ a, a < n → S a → ¬ R a b) : Rkd n R := by
 have key : ∀ m (S : Nat → Bool), cntE n S = m → ∃ r : Nat → Nat, ∀ a b, a < n → b < n → S a = true → S b = true → R a b → r a < r b := by
  intro m
  induction m with
  | zero =>
   intro S hc
   refine ⟨fun _ => 0, fun a b ha hb hSa => ?_⟩
   have := cnt_pos ha hSa
   omega
  | succ m ih =>
   intro S hc
   by_cases hne : ∃ b, b < n ∧ S b = true
   ·obtain ⟨b, h1, h2, h3⟩ := h (fun b => S b = true) hne
    have := cnt_rem h2 h1
    obtain ⟨r, hr⟩ := ih (fun x => S x && !(x == b)) (by omega)
    refine ⟨fun x => if x = b then 0 else r x + 1, fun x y hx hy hSx hSy hR => ?_⟩
    have hyb : y ≠ b := fun e => h3 x hx hSx (e ▸ hR)
    simp only [if_neg hyb]
    by_cases hxb : x = b
    ·simp only [if_pos hxb]; omega
    ·simp only [if_neg hxb]
     have := hr x y hx hy (by simp [hSx, hxb]) (by simp [hSy, hyb]) hR
     omega
   ·exact ⟨fun _ => 0, fun a b ha hb hSa => absurd ⟨a, ha, hSa⟩ hne⟩
 obtain ⟨r, hr⟩ := key _ (fun _ => true) rfl
 exact ⟨r, fun a b ha hb => hr a b ha hb rfl rfl⟩
theorem acy_rkd {n : Nat} {R : Nat → Nat → Bool} : Acy R n ↔ Rkd n (fun a b => R a b = true) := by
 constructor
 ·intro h
  refine Rkd.of_min fun S hS => ?_
  obtain ⟨b, hb, hSb⟩ := hS
  obtain ⟨b, h1, h2, h3⟩ := h (fun x => @decide (S x) (Classical.propDecidable _)) ⟨b, hb, by simpa using hSb⟩
  exact ⟨b, h1, by simpa using h2, fun a ha hSa => by rw [h3 a ha (by simpa using hSa)]; simp⟩
 ·intro h S hS
  obtain ⟨b, h1, h2, h3⟩ := h.min (fun x => S x = true) hS
  exact ⟨b, h1, h2, fun a ha hSa => by simpa using h3 a ha hSa⟩
theorem Rkd.less {n : Nat} {R R' : Nat → Nat → Prop} (h : Rkd n R) (hs : ∀ a b, a < n → b < n → R' a b → R a b) : Rkd n R' := by
 obtain ⟨r, hr⟩ := h
 exact ⟨r, fun a b ha hb hR => hr a b ha hb (hs a b ha hb hR)⟩
theorem Rkd.pull {n m : Nat} {R R' : Nat → Nat → Prop} {f : Nat → Nat} (h : Rkd m R) (hf : ∀ a, a < n → f a < m) (hs : ∀ a b, a < n → b < n → R' a b → R (f a) (f b) ∨ ∃ v, v < m ∧ R (f a) v ∧ R v (f b)) : Rkd n R' := by
 obtain ⟨r, hr⟩ := h
 refine ⟨fun a => r (f a), fun a b ha hb hR => ?_⟩
 rcases hs a b ha hb hR with h1 | ⟨v, hv, h1, h2⟩
 ·exact hr _ _ (hf a ha) (hf b hb) h1
 ·have := hr _ _ (hf a ha) hv h1
  have := hr _ _ hv (hf b hb) h2
  dsimp only
  omega
theorem rkd_walls {n : Nat} {R own : Nat → Nat → Prop} {old : Nat → Prop} {r : Nat → Nat}
  (h1 : ∀ a b, a < n → b < n → old a → old b → R a b → r a < r b)
  (h2 : ∀ a b, a < n → b < n → R a b → (¬ old a ∨ ¬ old b) → own a b)
  (h3 : ∀ a v b, a < n → v < n → b < n → ¬ old v → old a → old b → own a v → own v b → r a < r b)
  (ho : ∀ a b, own a b → a < b) (ht : ∀ a b c, own a b → own b c → own a c) : Rkd n R := by
 refine Rkd.of_min fun S hS => ?_
 by_cases hold : ∃ u, (u < n ∧ S u) ∧ old u
 ·obtain ⟨u, ⟨⟨hun, hSu⟩, hou⟩, hmin⟩ := least_of (S := fun u => (u < n ∧ S u) ∧ old u) r hold
  by_cases hv : ∃ v, v < n ∧ S v ∧ ¬ old v ∧ own v u
  ·obtain ⟨v, ⟨hvn, hSv, hov, hvu⟩, hvm⟩ := least_of (S := fun v => v < n ∧ S v ∧ ¬ old v ∧ own v u) id hv
   refine ⟨v, hvn, hSv, fun a ha hSa hR => ?_⟩
   have hav := h2 a v ha hvn hR (.inr hov)
   by_cases hoa : old a
   ·have := h3 a v u ha hvn hun hov hoa hou hav hvu
    have := hmin a ⟨⟨ha, hSa⟩, hoa⟩
    omega
   ·have := hvm a ⟨ha, hSa, hoa, ht _ _ _ hav hvu⟩
    have := ho _ _ hav
    simp only [id] at *
    omega
  ·refine ⟨u, hun, hSu, fun a ha hSa hR => ?_⟩
   by_cases hoa : old a
   ·have := h1 a u ha hun hoa hou hR
    have := hmin a ⟨⟨ha, hSa⟩, hoa⟩
    omega
   ·exact hv ⟨a, ha, hSa, hoa, h2 a u ha hun hR (.inl hoa)⟩
 ·obtain ⟨b, ⟨hb, hSb⟩, hbm⟩ := least_of (S := fun b => b < n ∧ S b) id hS
  refine ⟨b, hb, hSb, fun a ha hSa hR => ?_⟩
  have := ho _ _ (h2 a b ha hb hR (.inl fun hoa => hold ⟨a, ⟨ha, hSa⟩, hoa⟩))
  have := hbm a ⟨ha, hSa⟩
  simp only [id] at *
  omega
theorem rkd_ends {n : Nat} {R : Nat → Nat → Prop} {src snk : Nat → Prop} {r : Nat → Nat}
  (h : ∀ a b, a < n → b < n → ¬ src a → ¬ snk a → ¬ src b → ¬ snk b → R a b → r a < r b)
  (h1 : ∀ a b, a < n → b < n → src b → ¬ R a b) (h2 : ∀ a b, a < n → b < n → snk a → ¬ R a b) : Rkd n R := by
 refine Rkd.of_min fun S hS => ?_
 by_cases hs : ∃ b, b < n ∧ S b ∧ src b
 ·obtain ⟨b, hb, hSb, hsb⟩ := hs
  exact ⟨b, hb, hSb, fun a ha _ => h1 a b ha hb hsb⟩
 ·by_cases hr : ∃ b, (b < n ∧ S b) ∧ ¬ snk b
  ·obtain ⟨b, ⟨⟨hb, hSb⟩, hnb⟩, hm⟩ := least_of (S := fun b => (b < n ∧ S b) ∧ ¬ snk b) r hr
   refine ⟨b, hb, hSb, fun a ha hSa hR => ?_⟩
   by_cases hka : snk a
   ·exact h2 a b ha hb hka hR
   ·have := h a b ha hb (fun e => hs ⟨a, ha, hSa, e⟩) hka (fun e => hs ⟨b, hb, hSb, e⟩) hnb hR
    have := hm a ⟨⟨ha, hSa⟩, hka⟩
    omega
  ·obtain ⟨b, hb, hSb⟩ := hS
   refine ⟨b, hb, hSb, fun a ha hSa hR => ?_⟩
   exact h2 a b ha hb (Classical.byContradiction fun e => hr ⟨a, ⟨ha, hSa⟩, e⟩) hR
def AddL (out : Nat → Nat) (l : List (Nat × Nat)) (σ : Nat → Nat → Bool) (a b : Nat) : Prop :=
 ∃ e i, (e, i) ∈ l ∧ ((σ e i = true ∧ a = out i ∧ b = e) ∨ (σ e i = false ∧ a = e - 1 ∧ b = i))
theorem settle_iff {n : Nat} {out : Nat → Nat} : ∀ {l : List (Nat × Nat)} {R : Nat → Nat → Bool}, (settleR n out l R).isSome = true ↔ ∃ σ, Rkd n fun a b => R a b = true ∨ AddL out l σ a b
 | [], R => by
  have e : (settleR n out [] R).isSome = (lineE R n).isSome := by
   rw [settleR]; cases (lineE R n).isSome <;> rfl
  rw [e, line_acy, acy_rkd]
  constructor
  ·intro h
   exact ⟨fun _ _ => true, h.less fun a b _ _ hh => hh.resolve_right (by rintro ⟨e, i, h, _⟩; cases h)⟩
  ·rintro ⟨σ, h⟩
   exact h.less fun a b _ _ hh => .inl hh
 | (e, i) :: l, R => by
  have hs : (settleR n out ((e, i) :: l) R).isSome = true ↔ (lineE R n).isSome = true ∧ ((settleR n out l (wiR R (out i) e)).isSome = true ∨ (settleR n out l (wiR R (e - 1) i)).isSome = true) := by
   rw [settleR]
   cases (lineE R n).isSome
   ·simp
   ·simp [Option.isSome_or]
  rw [hs, settle_iff, settle_iff, line_acy, acy_rkd]
  have wi : ∀ {x y a b : Nat}, wiR R x y a b = true ↔ R a b = true ∨ (a = x ∧ b = y) := by
   intro x y a b
   simp [wiR]
  constructor
  ·rintro ⟨_, ⟨σ, h⟩ | ⟨σ, h⟩⟩
   ·by_cases hm : (e, i) ∈ l
    ·refine ⟨σ, h.less fun a b _ _ hh => ?_⟩
     rcases hh with hh | ⟨e', i', h1, h2⟩
     ·exact .inl (wi.2 (.inl hh))
     ·rcases List.mem_cons.1 h1 with h1 | h1
      ·cases h1; exact .inr ⟨e, i, hm, h2⟩
      ·exact .inr ⟨e', i', h1, h2⟩
    ·refine ⟨fun x y => if x = e ∧ y = i then true else σ x y, h.less fun a b _ _ hh => ?_⟩
     rcases hh with hh | ⟨e', i', h1, h2⟩
     ·exact .inl (wi.2 (.inl hh))
     ·by_cases hq : e' = e ∧ i' = i
      ·obtain ⟨rfl, rfl⟩ := hq
       simp at h2
       exact .inl (wi.2 (.inr h2))
      ·simp only [hq, if_false] at h2
       rcases List.mem_cons.1 h1 with h1 | h1
       ·cases h1; exact absurd ⟨rfl, rfl⟩ hq
       ·exact .inr ⟨e', i', h1, h2⟩
   ·by_cases hm : (e, i) ∈ l
    ·refine ⟨σ, h.less fun a b _ _ hh => ?_⟩
     rcases hh with hh | ⟨e', i', h1, h2⟩
     ·exact .inl (wi.2 (.inl hh))
     ·rcases List.mem_cons.1 h1 with h1 | h1
      ·cases h1; exact .inr ⟨e, i, hm, h2⟩
      ·exact .inr ⟨e', i', h1, h2⟩
    ·refine ⟨fun x y => if x = e ∧ y = i then false else σ x y, h.less fun a b _ _ hh => ?_⟩
     rcases hh with hh | ⟨e', i', h1, h2⟩
     ·exact .inl (wi.2 (.inl hh))
     ·by_cases hq : e' = e ∧ i' = i
      ·obtain ⟨rfl, rfl⟩ := hq
       simp at h2
       exact .inl (wi.2 (.inr h2))
      ·simp only [hq, if_false] at h2
       rcases List.mem_cons.1 h1 with h1 | h1
       ·cases h1; exact absurd ⟨rfl, rfl⟩ hq
       ·exact .inr ⟨e', i', h1, h2⟩
  ·rintro ⟨σ, h⟩
   refine ⟨h.less fun a b _ _ hh => .inl hh, ?_⟩
   cases hσ : σ e i
   ·right
    refine ⟨σ, h.less fun a b _ _ hh => ?_⟩
    rcases hh with hh | ⟨e', i', h1, h2⟩
    ·rcases wi.1 hh with hh | hq
     ·exact .inl hh
     ·exact .inr ⟨e, i, by simp, .inr ⟨hσ, hq⟩⟩
    ·exact .inr ⟨e', i', by simp [h1], h2⟩
   ·left
    refine ⟨σ, h.less fun a b _ _ hh => ?_⟩
    rcases hh with hh | ⟨e', i', h1, h2⟩
    ·rcases wi.1 hh with hh | hq
     ·exact .inl hh
     ·exact .inr ⟨e, i, by simp, .inl ⟨hσ, hq⟩⟩
    ·exact .inr ⟨e', i', by simp [h1], h2⟩
theorem mem_chIn {ds : List Do} {e : Nat} {q : Nat × Nat} : ∀ {j : Nat}, q ∈ chIn ds e j ↔ q.1 = e ∧ q.2 < j ∧ kd ds q.2 = 7
 | 0 => by simp [chIn]
 | j + 1 => by
  constructor
  ·exact chIn_mem
  ·rintro ⟨h1, h2, h3⟩
   rw [chIn, List.mem_append]
   rcases Nat.lt_or_ge q.2 j with h | h
   ·exact .inl (mem_chIn.2 ⟨h1, h, h3⟩)
   ·have : q.2 = j := by omega
    right
    rw [← this, h3]
    simp [← h1]
structure WtIn (p : Prog) (e i : Nat) : Prop where
 el : e < (events p).length
 late : ltA (events p) e = true
 il : i < (events p).length
 k7 : kd (scene p).ds i = 7
theorem mem_chRef {p : Prog} {e i : Nat} : ∀ {k : Nat}, k ≤ (events p).length → ((e, i) ∈ chRef p k ↔ WtIn p e i ∧ e ≤ k)
 | 0, _ => by
  simp only [chRef, List.not_mem_nil, false_iff]
  rintro ⟨h, h0⟩
  obtain ⟨w, h1, _⟩ := wait_prev h.el h.late
  omega
 | k + 1, hk => by
  have hsl : (scene p).ds.length = (events p).length := by simp [scene]
  rw [chRef, List.mem_append, mem_chRef (by omega)]
  constructor
  ·rintro (⟨h1, h2⟩ | h)
   ·exact ⟨h1, by omega⟩
   ·split at h
    ·rename_i h9
     rw [Bool.and_eq_true, Bool.not_eq_true', beq_iff_eq] at h9
     obtain ⟨rfl, h2, h3⟩ := mem_chIn.1 h
     have := wait_next (by omega) h9.1 h9.2
     exact ⟨⟨this.1, this.2.2, by rw [← hsl]; exact h2, h3⟩, by simp⟩
    ·cases h
  ·rintro ⟨h1, h2⟩
   rcases Nat.lt_or_ge k e with h | h
   ·right
    have hek : e = k + 1 := by omega
    obtain ⟨w, h3, h4, h5⟩ := wait_prev h1.el h1.late
    have hwk : w = k := by omega
    subst hwk
    rw [h4, h5]
    simp only [beq_self_eq_true, Bool.not_false, Bool.and_self, if_true]
    exact mem_chIn.2 ⟨hek, by rw [hsl]; exact h1.il, h1.k7⟩
   ·exact .inl ⟨h1, h⟩
def AddR (p : Prog) (σ : Nat → Nat → Bool) (a b : Nat) : Prop :=
 ∃ e i, WtIn p e i ∧ ((σ e i = true ∧ a = outA p i ∧ b = e) ∨ (σ e i = false ∧ a + 1 = e ∧ b = i))
theorem add_iff {p : Prog} {σ : Nat → Nat → Bool} {a b : Nat} : AddL (outA p) (chRef p (events p).length) σ a b ↔ AddR p σ a b := by
 constructor
 ·rintro ⟨e, i, h, h2⟩
  have hw := ((mem_chRef (Nat.le_refl _)).1 h).1
  obtain ⟨w, h3, _⟩ := wait_prev hw.el hw.late
  refine ⟨e, i, hw, h2.imp id fun ⟨h4, h5, h6⟩ => ⟨h4, by omega, h6⟩⟩
 ·rintro ⟨e, i, h, h2⟩
  have := h.el
  exact ⟨e, i, (mem_chRef (Nat.le_refl _)).2 ⟨h, by omega⟩, h2.imp id fun ⟨h4, h5, h6⟩ => ⟨h4, by omega, h6⟩⟩
structure Hld (p : Prog) (x : Exe) (kind : Int) : Prop where
 pl : Rkd (events p).length fun a b => netR p x 0 a b = true
 ex : ∃ σ, Rkd (events p).length fun a b => netR p x kind a b = true ∨ AddR p σ a b
theorem holds_iff {p : Prog} {x : Exe} {kind : Int} : holdsS p x kind = true ↔ specOk p x = true ∧ inB kind 1 3 = true ∧ Hld p x kind := by
 have e : (settledS p x kind).isSome = true ↔ Hld p x kind := by
  rw [settledS]
  have h1 : (lineE (netR p x 0) (events p).length).isSome = true ↔ Rkd (events p).length fun a b => netR p x 0 a b = true := by rw [line_acy, acy_rkd]
  have h2 : (settleR (events p).length (outA p) (chRef p (events p).length) (netR p x kind)).isSome = true ↔ ∃ σ, Rkd (events p).length fun a b => netR p x kind a b = true ∨ AddR p σ a b := by
   rw [settle_iff]
   simp only [add_iff]
  split
  ·rename_i h
   rw [h2]
   exact ⟨fun hh => ⟨h1.1 h, hh⟩, fun hh => hh.ex⟩
  ·rename_i h
   simp only [Option.isSome_none, Bool.false_eq_true, false_iff]
   exact fun hh => h (h1.2 hh.pl)
 rw [holdsS, Bool.and_eq_true, Bool.and_eq_true, e, and_assoc]
end
section
open Go.RowKit
inductive Val (ds : List Do) (fr : List Int) : Nat → Int → Prop
 | val {i : Nat} {d : Do} : ds[i]? = some d → d.valued = true → Val ds fr i d.v
 | cp {i : Nat} {d : Do} {v : Int} : ds[i]? = some d → d.k = 3 → Val ds fr (lastRd ds i) v → Val ds fr i v
 | no {i : Nat} {d : Do} : ds[i]? = some d → d.reads = true → fr[i]? = some (-1) → Val ds fr i 0
 | rd {i b : Nat} {d : Do} {v : Int} : ds[i]? = some d → d.reads = true → fr[i]? = some (b : Int) → Val ds fr b v → Val ds fr i v
theorem k_valued {d : Do} (h : d.valued = true) : d.writes = true ∧ d.k ≠ 3 ∧ d.reads = false := by
 simp only [Do.valued, Bool.or_eq_true, beq_iff_eq] at h
 rcases h with h | h <;> simp [Do.writes, Do.reads, h]
theorem k_copy {d : Do} (h : d.k = 3) : d.writes = true ∧ d.valued = false ∧ d.reads = false := by simp [Do.writes, Do.reads, Do.valued, h]
theorem k_reads {d : Do} (h : d.reads = true) : d.writes = false ∧ d.valued = false ∧ d.k ≠ 3 := by
 simp only [Do.reads, Bool.or_eq_true, beq_iff_eq] at h
 rcases h with h | h <;> simp [Do.writes, Do.valued, h]
theorem k_writes {d : Do} (h : d.writes = true) (h3 : d.k ≠ 3) : d.valued = true := by
 simp only [Do.writes, Do.valued, Bool.or_eq_true, beq_iff_eq] at *
 omega
theorem uses_or {d : Do} : d.uses = true ↔ d.reads = true ∨ d.writes = true := by simp [Do.uses]
theorem val_I {ds : List Do} {fr : List Int} {i : Nat} {v : Int} (h : Val ds fr i v) : ∃ m, valI ds fr m i = some v := by
 induction h with
 | val hd hv => exact ⟨1, by rw [valI, hd]; simp [hv]⟩
 | cp hd h3 _ ih =>
  obtain ⟨m, hm⟩ := ih
  refine ⟨m + 1, ?_⟩
  rw [valI, hd]
  simp [(k_copy h3).2.1, h3, hm]
 | no hd hr hf => exact ⟨1, by rw [valI, hd]; simp [k_reads hr, hf]⟩
 | @rd i b d v hd hr hf _ ih =>
  obtain ⟨m, hm⟩ := ih
  refine ⟨m + 1, ?_⟩
  rw [valI, hd]
  have : ((b : Int) == -1) = false := beq_eq_false_iff_ne.2 (by omega)
  simp [k_reads hr, hf, this, hm]
theorem val_eqI {ds : List Do} {fr : List Int} {i : Nat} {v : Int} (h : Val ds fr i v) : valI ds fr ds.length i = some v := by
 obtain ⟨m, hm⟩ := val_I h
 exact valI_enough hm
theorem Val.fn {ds : List Do} {fr : List Int} {i : Nat} {v w : Int} (h : Val ds fr i v) (h' : Val ds fr i w) : v = w := by
 have h1 := val_eqI h
 rw [val_eqI h'] at h1
 exact (Option.some.inj h1).symm
theorem val_of {ds : List Do} {fr : List Int} (hc : copyOk ds) (hf : fromOk ds fr) : ∀ {m i : Nat} {d : Do} {v : Int}, ds[i]? = some d → d.uses = true → valI ds fr m i = some v → Val ds fr i v
 | 0, _, _, _, _, _, h => by rw [valI] at h; cases h
 | m + 1, i, d, v, hd, hu, h => by
  rw [valI, hd] at h
  dsimp only at h
  by_cases hv : d.valued = true
  ·rw [if_pos hv] at h
   cases h
   exact .val hd hv
  ·rw [if_neg hv] at h
   by_cases h3 : d.k = 3
   ·rw [if_pos (by simpa using h3)] at h
    obtain ⟨_, ⟨d', k2, k3⟩, _⟩ := lastRd_spec (hc i d hd h3)
    exact .cp hd h3 (val_of hc hf k2 (uses_or.2 (.inl k3)) h)
   ·rw [if_neg (by simpa using h3)] at h
    have hr : d.reads = true := by
     rcases uses_or.1 hu with hr | hw
     ·exact hr
     ·exact absurd (k_writes hw h3) hv
    obtain ⟨f, hfa⟩ : ∃ f, fr[i]? = some f := ⟨_, List.getElem?_eq_getElem (by have := (List.getElem?_eq_some_iff.1 hd).1; have := hf.1; omega)⟩
    rw [hfa] at h
    dsimp only at h
    rcases hf.2 i d f hd hfa hr with rfl | ⟨b, d', rfl, h1, h2⟩
    ·simp at h
     subst h
     exact .no hd hr hfa
    ·rw [if_neg (by simp)] at h
     exact .rd hd hr hfa (val_of hc hf h1 (uses_or.2 (.inr h2)) (by simpa using h))
structure OKW (ds : List Do) (x : Exe) : Prop where
 frl : x.fr.length = ds.length
 odl : x.od.length = 3
 od : ∀ k : Nat, k < 3 → ∃ r, x.od[k]? = some r ∧ r.Nodup ∧ ∀ z : Int, z ∈ r ↔ ∃ (b : Nat) (d : Do), z = b ∧ ds[b]? = some d ∧ d.writes = true ∧ d.p = k
 rd : ∀ (i : Nat) (d : Do) (f : Int), ds[i]? = some d → x.fr[i]? = some f → d.reads = true → f = -1 ∨ ∃ (b : Nat) (d' : Do), f = b ∧ ds[b]? = some d' ∧ d'.writes = true ∧ d'.p = d.p
 nr : ∀ (i : Nat) (d : Do) (f : Int), ds[i]? = some d → x.fr[i]? = some f → d.reads = false → f = -2
 ends : ∀ (i : Nat) (d : Do), ds[i]? = some d → d.uses = true → ∃ v, Val ds x.fr i v
theorem mem_writers {ds : List Do} {pl z : Int} : z ∈ writersOf ds pl ↔ ∃ (b : Nat) (d : Do), z = b ∧ ds[b]? = some d ∧ d.writes = true ∧ d.p = pl := by
 constructor
 ·intro h
  obtain ⟨b, d, _, h1, h2, h3, h4⟩ := mem_wrs h
  exact ⟨b, d, h1, h2, h3, h4⟩
 ·rintro ⟨b, d, rfl, h2, h3, h4⟩
  have key : ∀ k, b < k → (b : Int) ∈ wrs ds pl k := by
   intro k
   induction k with
   | zero => intro h; omega
   | succ k ih =>
    intro h
    rw [wrs, List.mem_append]
    rcases Nat.lt_or_ge b k with h' | h'
    ·exact .inl (ih h')
    ·have : b = k := by omega
     subst this
     right
     rw [h2]
     simp [h3, h4]
  exact key _ (List.getElem?_eq_some_iff.1 h2).1
theorem okw_iff {p : Prog} {x : Exe} (hok : progOk p = true) : specOk p x = true ↔ OKW (scene p).ds x := by
 have hsl : (scene p).ds.length = (events p).length := by simp [scene]
 constructor
 ·intro h
  have hex : execOk p x = true := by rw [ok_eq]; exact h
  have hw := Way.of hex
  simp only [specOk, formS, Bool.and_eq_true, decide_eq_true_eq, List.all_eq_true] at h
  obtain ⟨_, ⟨⟨⟨h1, h2⟩, h3⟩, h4⟩, _⟩ := h
  have hfit : fits (scene p) x = true := by
   simp only [execOk, okX, Bool.and_eq_true] at hex; exact hex.2.1
  have hff := fromOk_of (scene_len p) hfit
  refine ⟨by omega, h2, fun k hk => ?_, fun i d f hd hf hr => ?_, fun i d f hd hf hr => ?_, fun i d hd hu => ?_⟩
  ·have hr : x.od[k]? = some x.od[k] := List.getElem?_eq_getElem (by omega)
   have := h3 k (List.mem_range.2 hk)
   simp only [placeS, hr, Option.getD_some, Bool.and_eq_true, beq_iff_eq, List.all_eq_true, List.contains_iff_mem] at this
   have hp := perm_of (writers_nodup _ _) this.2 (by omega)
   exact ⟨_, hr, (hp.nodup_iff).1 (writers_nodup _ _), fun z => by rw [← hp.mem_iff, mem_writers]⟩
  ·have := hw.from_ i d f hd hf
   simp only [frOk, hr, if_true, Bool.or_eq_true, beq_iff_eq, List.contains_iff_mem] at this
   rcases this with h | h
   ·exact .inl h
   ·obtain ⟨b, d', k1, k2, k3, k4⟩ := mem_writers.1 h
    exact .inr ⟨b, d', k1, k2, k3, k4⟩
  ·have := hw.from_ i d f hd hf
   simpa [frOk, hr] using this
  ·exact ⟨_, val_of (scene_copy hok) hff hd hu (val_some hex hd hu)⟩
 ·intro h
  have hform : formS p x = true := by
   simp only [formS, Bool.and_eq_true, decide_eq_true_eq, List.all_eq_true]
   refine ⟨⟨⟨by have := h.frl; omega, h.odl⟩, fun k hk => ?_⟩, fun q hq => ?_⟩
   ·obtain ⟨r, h1, h2, h3⟩ := h.od k (List.mem_range.1 hk)
    have hp : (writersOf (scene p).ds k).Perm r := (List.perm_ext_iff_of_nodup (writers_nodup _ _) h2).2 fun z => by rw [mem_writers, h3]
    simp only [placeS, h1, Option.getD_some, Bool.and_eq_true, beq_iff_eq, List.all_eq_true, List.contains_iff_mem]
    exact ⟨hp.length_eq, fun z hz => hp.mem_iff.1 hz⟩
   ·obtain ⟨i, hi⟩ := List.getElem?_of_mem hq
    obtain ⟨d, f⟩ := q
    rw [List.getElem?_zip_eq_some] at hi
    obtain ⟨hd, hf⟩ := hi
    simp only [fromS]
    cases hr : d.reads
    ·simp only [Bool.false_eq_true, if_false, beq_iff_eq]
     exact h.nr i d f hd hf hr
    ·simp only [if_true, Bool.or_eq_true, beq_iff_eq, List.contains_iff_mem]
     rcases h.rd i d f hd hf hr with h1 | ⟨b, d', h1, h2, h3, h4⟩
     ·exact .inl h1
     ·right
      have hpl := formed_place (scene_formed hok d (List.mem_of_getElem? hd)) (uses_or.2 (.inl hr))
      obtain ⟨r, k1, k2, k3⟩ := h.od d.p.toNat (by omega)
      rw [k1, Option.getD_some, k3]
      exact ⟨b, d', h1, h2, h3, by omega⟩
  have hfit : fits (scene p) x = true := by rw [fits_form hok]; exact hform
  rw [← ok_eq, execOk, hok, okX, hfit, Bool.true_and, Bool.true_and, List.all_eq_true]
  rintro ⟨d, a⟩ hq
  obtain ⟨i, hi⟩ := List.getElem?_of_mem hq
  simp only [List.getElem?_zipIdx, Option.map_eq_some_iff, Prod.mk.injEq, Nat.zero_add] at hi
  obtain ⟨d', hd, rfl, rfl⟩ := hi
  rw [endOk]
  cases hu : d'.uses
  ·rfl
  ·obtain ⟨v, hv⟩ := h.ends i d' hd hu
   rw [val_eqI hv]; rfl
theorem mem_ordW {p : Prog} {kind : Int} {s : Sn} : s ∈ ordAll p kind ↔ progOk p = true ∧ inB kind 1 3 = true ∧ ∃ x, OKW (scene p).ds x ∧ Hld p x kind ∧ seenF p x = s := by
 rw [mem_ord]
 constructor
 ·rintro ⟨h1, h2, x, _, h3, h4⟩
  obtain ⟨k1, _, k3⟩ := holds_iff.1 h3
  exact ⟨h1, h2, x, (okw_iff h1).1 k1, k3, h4⟩
 ·rintro ⟨h1, h2, x, h3, h4, h5⟩
  have h6 := (okw_iff h1).2 h3
  exact ⟨h1, h2, x, by rw [← all_eq, mem_execAll, ok_eq]; exact h6, holds_iff.2 ⟨h6, h2, h4⟩, h5⟩
end
section
open Go.RowKit
structure Sim (d d' : Do) : Prop where
 r : d'.reads = d.reads
 w : d'.writes = d.writes
 p : d'.p = d.p
 v : d'.v = d.v
 c : d'.k = 3 ↔ d.k = 3
theorem Sim.refl (d : Do) : Sim d d := ⟨rfl, rfl, rfl, rfl, Iff.rfl⟩
theorem Sim.uses {d d' : Do} (h : Sim d d') : d'.uses = d.uses := by simp [Do.uses, h.r, h.w]
theorem Sim.valued {d d' : Do} (h : Sim d d') : d'.valued = d.valued := by
 cases hv : d.valued
 ·cases hv' : d'.valued
  ·rfl
  ·have h1 := k_valued hv'
   have : d.valued = true := k_writes (by rw [← h.w]; exact h1.1) fun e => h1.2.1 (h.c.2 e)
   rw [hv] at this; cases this
 ·have h1 := k_valued hv
  exact k_writes (by rw [h.w]; exact h1.1) fun e => h1.2.1 (h.c.1 e)
structure Emb (F G : List Do) (f : Nat → Nat) : Prop where
 mono : ∀ i j, i < j → j < F.length → f i < f j
 sim : ∀ (i : Nat) (d : Do), F[i]? = some d → ∃ d', G[f i]? = some d' ∧ Sim d d'
 cp : ∀ (i : Nat) (d : Do), F[i]? = some d → d.k = 3 → lastRd G (f i) = f (lastRd F i)
theorem Emb.lt {F G : List Do} {f : Nat → Nat} (h : Emb F G f) {i : Nat} (hi : i < F.length) : f i < G.length := by
 obtain ⟨d', h1, _⟩ := h.sim i _ (List.getElem?_eq_getElem hi)
 exact (List.getElem?_eq_some_iff.1 h1).1
theorem Emb.inj {F G : List Do} {f : Nat → Nat} (h : Emb F G f) {i j : Nat} (hi : i < F.length) (hj : j < F.length) (he : f i = f j) : i = j := by
 rcases Nat.lt_trichotomy i j with h1 | h1 | h1
 ·have := h.mono i j h1 hj; omega
 ·exact h1
 ·have := h.mono j i h1 hi; omega
theorem Emb.lt_iff {F G : List Do} {f : Nat → Nat} (h : Emb F G f) {i j : Nat} (hi : i < F.length) (hj : j < F.length) : f i < f j ↔ i < j := by
 constructor
 ·intro hh
  rcases Nat.lt_trichotomy i j with h1 | h1 | h1
  ·exact h1
  ·rw [h1] at hh; omega
  ·have := h.mono j i h1 hi; omega
 ·exact fun hh => h.mono i j hh hj
def lft (f : Nat → Nat) (z : Int) : Int := if 0 ≤ z then (f z.toNat : Int) else z
theorem lft_nat (f : Nat → Nat) (b : Nat) : lft f (b : Int) = f b := by rw [lft, if_pos (by omega)]; simp
theorem lft_neg (f : Nat → Nat) {z : Int} (h : z < 0) : lft f z = z := by rw [lft, if_neg (by omega)]
theorem lft_isneg {f : Nat → Nat} {z : Int} (h : lft f z < 0) : z < 0 ∧ lft f z = z := by
 rcases (by omega : z < 0 ∨ 0 ≤ z) with h1 | h1
 ·exact ⟨h1, lft_neg f h1⟩
 ·rw [lft, if_pos h1] at h; omega
structure Mat (F : List Do) (f : Nat → Nat) (x y : Exe) : Prop where
 fr : ∀ (i : Nat) (z : Int), i < F.length → x.fr[i]? = some z → y.fr[f i]? = some (lft f z)
 od : ∀ k : Nat, k < 3 → (∃ r, x.od[k]? = some r ∧ y.od[k]? = some (r.map (lft f))) ∨ ∀ d ∈ F, d.uses = true → d.p ≠ k
theorem Mat.val {F G : List Do} {f : Nat → Nat} {x y : Exe} (e : Emb F G f) (m : Mat F f x y) {i : Nat} {v : Int} (h : Val F x.fr i v) : Val G y.fr (f i) v := by
 induction h with
 | @val i d hd hv =>
  obtain ⟨d', h1, h2⟩ := e.sim i d hd
  rw [← h2.v]
  exact .val h1 (by rw [h2.valued]; exact hv)
 | @cp i d v hd h3 _ ih =>
  obtain ⟨d', h1, h2⟩ := e.sim i d hd
  refine .cp h1 (h2.c.2 h3) ?_
  rw [e.cp i d hd h3]; exact ih
 | @no i d hd hr hf =>
  obtain ⟨d', h1, h2⟩ := e.sim i d hd
  refine .no h1 (by rw [h2.r]; exact hr) ?_
  have := m.fr i _ (List.getElem?_eq_some_iff.1 hd).1 hf
  rwa [lft_neg f (by omega)] at this
 | @rd i b d v hd hr hf _ ih =>
  obtain ⟨d', h1, h2⟩ := e.sim i d hd
  refine .rd h1 (by rw [h2.r]; exact hr) ?_ ih
  have := m.fr i _ (List.getElem?_eq_some_iff.1 hd).1 hf
  rwa [lft_nat] at this
theorem Mat.back {F G : List Do} {f : Nat → Nat} {x y : Exe} (e : Emb F G f) (m : Mat F f x y) (hc : copyOk F) (hl : x.fr.length = F.length)
  (hx : ∀ (i : Nat) (d : Do) (z : Int), F[i]? = some d → x.fr[i]? = some z → d.reads = true → z = -1 ∨ ∃ b : Nat, z = b ∧ b < F.length) {j : Nat} {v : Int} (h : Val G y.fr j v) : ∀ i, i < F.length → f i = j → Val F x.fr i v := by
 induction h with
 | @val j d' hd hv =>
  rintro i hi rfl
  obtain ⟨d, hdi⟩ : ∃ d, F[i]? = some d := ⟨_, List.getElem?_eq_getElem hi⟩
  obtain ⟨d2, h1, h2⟩ := e.sim i d hdi
  rw [hd] at h1; cases h1
  rw [h2.v]
  exact .val hdi (by rw [← h2.valued]; exact hv)
 | @cp j d' v hd h3 _ ih =>
  rintro i hi rfl
  obtain ⟨d, hdi⟩ : ∃ d, F[i]? = some d := ⟨_, List.getElem?_eq_getElem hi⟩
  obtain ⟨d2, h1, h2⟩ := e.sim i d hdi
  rw [hd] at h1; cases h1
  have h3' := h2.c.1 h3
  obtain ⟨k1, _⟩ := lastRd_spec (hc i d hdi h3')
  exact .cp hdi h3' (ih _ (by omega) (e.cp i d hdi h3').symm)
 | @no j d' hd hr hf =>
  rintro i hi rfl
  obtain ⟨d, hdi⟩ : ∃ d, F[i]? = some d := ⟨_, List.getElem?_eq_getElem hi⟩
  obtain ⟨d2, h1, h2⟩ := e.sim i d hdi
  rw [hd] at h1; cases h1
  obtain ⟨z, hz⟩ : ∃ z, x.fr[i]? = some z := ⟨_, List.getElem?_eq_getElem (by omega)⟩
  have := m.fr i z hi hz
  rw [hf] at this
  have hz1 : lft f z = -1 := (Option.some.inj this).symm
  have := (lft_isneg (f := f) (z := z) (by omega)).2
  have : z = -1 := by omega
  subst this
  exact .no hdi (by rw [← h2.r]; exact hr) hz
 | @rd j b d' v hd hr hf _ ih =>
  rintro i hi rfl
  obtain ⟨d, hdi⟩ : ∃ d, F[i]? = some d := ⟨_, List.getElem?_eq_getElem hi⟩
  obtain ⟨d2, h1, h2⟩ := e.sim i d hdi
  rw [hd] at h1; cases h1
  have hr' : d.reads = true := by rw [← h2.r]; exact hr
  obtain ⟨z, hz⟩ : ∃ z, x.fr[i]? = some z := ⟨_, List.getElem?_eq_getElem (by omega)⟩
  have := m.fr i z hi hz
  rw [hf] at this
  have hz1 : lft f z = b := (Option.some.inj this).symm
  rcases hx i d z hdi hz hr' with rfl | ⟨b', rfl, hb'⟩
  ·rw [lft_neg f (by omega)] at hz1; omega
  ·rw [lft_nat] at hz1
   exact .rd hdi hr' hz (ih b' hb' (by omega))
def vF (ds : List Do) (fr : List Int) (i : Nat) : Int := (valI ds fr ds.length i).getD 0
theorem vF_eq {ds : List Do} {fr : List Int} {i : Nat} {v : Int} (h : Val ds fr i v) : vF ds fr i = v := by rw [vF, val_eqI h]; rfl
theorem Mat.vF {F G : List Do} {f : Nat → Nat} {x y : Exe} (e : Emb F G f) (m : Mat F f x y) (hx : OKW F x) {i : Nat} {d : Do} (hd : F[i]? = some d) (hu : d.uses = true) : vF G y.fr (f i) = vF F x.fr i := by
 obtain ⟨v, hv⟩ := hx.ends i d hd hu
 rw [vF_eq hv, vF_eq (m.val e hv)]
theorem Mat.lsF {F G : List Do} {f : Nat → Nat} {x y : Exe} (e : Emb F G f) (m : Mat F f x y) (hx : OKW F x) {k : Nat} {r : List Int} (hk : k < 3) (hr : x.od[k]? = some r) : Go.Proofs.YtfbgabkcjjahiaaGreatDoor.lsF (Go.Proofs.YtfbgabkcjjahiaaGreatDoor.vF G y.fr) (r.map (lft f)) = Go.Proofs.YtfbgabkcjjahiaaGreatDoor.lsF (Go.Proofs.YtfbgabkcjjahiaaGreatDoor.vF F x.fr) r := by
 rw [Go.Proofs.YtfbgabkcjjahiaaGreatDoor.lsF, Go.Proofs.YtfbgabkcjjahiaaGreatDoor.lsF, List.length_map, List.getElem?_map]
 cases hz : r[r.length - 1]? with
 | none => rfl
 | some z =>
  obtain ⟨r', h1, _, h3⟩ := hx.od k hk
  rw [hr] at h1; cases h1
  obtain ⟨b, d, rfl, hd, hw, _⟩ := (h3 z).1 (List.mem_of_getElem? hz)
  simp only [Option.map_some, lft_nat, Int.toNat_natCast]
  exact m.vF e hx hd (uses_or.2 (.inr hw))
end
section
open Go.RowKit
theorem scene_n (p : Prog) : (scene p).ds.length = (events p).length := by simp [scene]
theorem ds_at {p : Prog} {i : Nat} (h : i < (events p).length) : (scene p).ds[i]? = some (dsA p i) := by
 have h' : i < (scene p).ds.length := by rw [scene_n]; exact h
 rw [dsA, List.getElem?_eq_getElem h']; rfl
structure PE (p q : Prog) (f : Nat → Nat) : Prop where
 okp : progOk p = true
 okq : progOk q = true
 e : Emb (scene p).ds (scene q).ds f
 thr : ∀ a b, a < (events p).length → b < (events p).length → (th (events q) (f a) = th (events q) (f b) ↔ th (events p) a = th (events p) b)
 k7 : ∀ i, i < (events p).length → (kd (scene q).ds (f i) = 7 ↔ kd (scene p).ds i = 7)
 k8 : ∀ i, i < (events p).length → (kd (scene q).ds (f i) = 8 ↔ kd (scene p).ds i = 8)
 btw : ∀ a b j, a < (events p).length → b < (events p).length → th (events p) a = th (events p) b → f a < j → j < f b → (kd (scene q).ds j = 7 ∨ kd (scene q).ds j = 8) → ∃ i, a < i ∧ i < b ∧ f i = j
 late : ∀ i, i < (events p).length → ltA (events q) (f i) = ltA (events p) i
 adj : ∀ e, e + 1 < (events p).length → ltA (events p) (e + 1) = true → f (e + 1) = f e + 1
structure PEk (p q : Prog) (f : Nat → Nat) : Prop where
 wal : ∀ i, i < (events p).length → wallB (dsA p i) = true → wallB (dsA q (f i)) = true
 tk : ∀ i, i < (events p).length → (dsA p i).k = 5 → (dsA q (f i)).k = 5
 gv : ∀ i, i < (events p).length → (dsA p i).k = 6 → (dsA q (f i)).k = 6
structure PEk' (p q : Prog) (f : Nat → Nat) : Prop where
 wal : ∀ i, i < (events p).length → wallB (dsA q (f i)) = true → wallB (dsA p i) = true
 tk : ∀ i, i < (events p).length → (dsA q (f i)).k = 5 → (dsA p i).k = 5
 gv : ∀ i, i < (events p).length → (dsA q (f i)).k = 6 → (dsA p i).k = 6
section
variable {p q : Prog} {f : Nat → Nat}
theorem PE.lt (h : PE p q f) {a : Nat} (ha : a < (events p).length) : f a < (events q).length := by
 rw [← scene_n]; exact h.e.lt (by rw [scene_n]; exact ha)
theorem PE.sim (h : PE p q f) {a : Nat} (ha : a < (events p).length) : Sim (dsA p a) (dsA q (f a)) := by
 obtain ⟨d', h1, h2⟩ := h.e.sim a _ (ds_at ha)
 rw [ds_at (h.lt ha)] at h1
 cases h1; exact h2
theorem PE.inj (h : PE p q f) {a b : Nat} (ha : a < (events p).length) (hb : b < (events p).length) : f a = f b ↔ a = b :=
 ⟨h.e.inj (by rw [scene_n]; exact ha) (by rw [scene_n]; exact hb), fun e => by rw [e]⟩
theorem PE.lt_iff (h : PE p q f) {a b : Nat} (ha : a < (events p).length) (hb : b < (events p).length) : f a < f b ↔ a < b :=
 h.e.lt_iff (by rw [scene_n]; exact ha) (by rw [scene_n]; exact hb)
theorem own_iff {p : Prog} {a b : Nat} : ownB (events p) a b = true ↔ a < b ∧ th (events p) a = th (events p) b := by simp [ownB, th]
theorem PE.own (h : PE p q f) {a b : Nat} (ha : a < (events p).length) (hb : b < (events p).length) : ownB (events q) (f a) (f b) = ownB (events p) a b := by
 rw [Bool.eq_iff_iff, own_iff, own_iff, h.lt_iff ha hb, h.thr a b ha hb]
theorem PE.apart (h : PE p q f) {a b : Nat} (ha : a < (events p).length) (hb : b < (events p).length) : apartS q (f a) (f b) = apartS p a b := by
 rw [Bool.eq_iff_iff, apartS, apartS, bne_iff_ne, bne_iff_ne]
 exact not_congr (h.thr a b ha hb)
theorem PE.same (h : PE p q f) {a b : Nat} (ha : a < (events p).length) (hb : b < (events p).length) : sameS q (f a) (f b) = sameS p a b := by
 rw [sameS, sameS, (h.sim ha).uses, (h.sim hb).uses, (h.sim ha).p, (h.sim hb).p]
theorem PE.ins (h : PE p q f) {a b : Nat} (ha : a < (events p).length) (hb : b < (events p).length) (ho : ownB (events p) a b = true) : insS q (f a) (f b) = insS p a b := by
 have ho' : ownB (events q) (f a) (f b) = true := by rw [h.own ha hb]; exact ho
 rw [Bool.eq_iff_iff, insS_iff ho, insS_iff ho', h.k7 a ha, h.k8 b hb]
 have hth := (own_iff.1 ho).2
 refine and_congr Iff.rfl ⟨fun hh k h1 h2 => ?_, fun hh j h1 h2 => ?_⟩
 ·have hk : k < (events p).length := by omega
  have := hh (f k) ((h.lt_iff ha hk).2 h1) ((h.lt_iff hk hb).2 h2)
  rwa [h.k7 k hk, h.k8 k hk] at this
 ·by_cases hj : kd (scene q).ds j = 7 ∨ kd (scene q).ds j = 8
  ·obtain ⟨i, h3, h4, rfl⟩ := h.btw a b j ha hb hth h1 h2 hj
   have hi : i < (events p).length := by omega
   rw [h.k7 i hi, h.k8 i hi]
   exact hh i h3 h4
  ·exact ⟨fun e => hj (.inr e.2), fun e => hj (.inl e.2)⟩
theorem src_at {p : Prog} (h : progOk p = true) {b : Nat} (hb : b < (events p).length) (h3 : (dsA p b).k = 3) : srcOf (events p) (scene p).ds b b = lastRd (scene p).ds b := by
 have he := List.getElem?_eq_getElem hb
 refine src_last h he ?_
 have := ds_at hb
 rw [scene_get he] at this
 rw [Option.some.inj this]; exact h3
theorem PE.cpy (h : PE p q f) {a b : Nat} (ha : a < (events p).length) (hb : b < (events p).length) :
  ((dsA q (f b)).k == 3 && srcOf (events q) (scene q).ds (f b) (f b) == ((f a : Nat) : Int)) = ((dsA p b).k == 3 && srcOf (events p) (scene p).ds b b == (a : Int)) := by
 by_cases h3 : (dsA p b).k = 3
 ·have h3' := (h.sim hb).c.2 h3
  rw [src_at h.okp hb h3, src_at h.okq (h.lt hb) h3', h.e.cp b _ (ds_at hb) h3, h3, h3', Bool.eq_iff_iff]
  obtain ⟨k1, _⟩ := lastRd_spec (scene_copy h.okp b _ (ds_at hb) h3)
  have := h.inj (a := lastRd (scene p).ds b) (b := a) (by omega) ha
  rw [Bool.and_eq_true, Bool.and_eq_true, beq_iff_eq, beq_iff_eq, beq_iff_eq]
  omega
 ·have h3' : ¬ (dsA q (f b)).k = 3 := fun e => h3 ((h.sim hb).c.1 e)
  have e1 : ((dsA p b).k == 3) = false := beq_eq_false_iff_ne.2 h3
  have e2 : ((dsA q (f b)).k == 3) = false := beq_eq_false_iff_ne.2 h3'
  rw [e1, e2, Bool.false_and, Bool.false_and]
theorem PE.loose_le (h : PE p q f) (hk : PEk p q f) {a b : Nat} (ha : a < (events p).length) (hb : b < (events p).length) (hl : looseS p a b = true) : looseS q (f a) (f b) = true := by
 simp only [looseS, Bool.and_eq_true] at hl ⊢
 obtain ⟨ho, hl⟩ := hl
 refine ⟨by rw [h.own ha hb]; exact ho, ?_⟩
 have hc := h.cpy ha hb
 rw [h.ins ha hb ho, Bool.or_eq_true, hc]
 rw [Bool.or_eq_true] at hl
 refine hl.imp (fun hl => ?_) id
 simp only [Bool.or_eq_true, beq_iff_eq] at hl ⊢
 rcases hl with (((hl | hl) | hl) | hl) | hl
 ·exact .inl (.inl (.inl (.inl (hk.wal a ha hl))))
 ·exact .inl (.inl (.inl (.inr (hk.wal b hb hl))))
 ·exact .inl (.inl (.inr (hk.tk a ha hl)))
 ·exact .inl (.inr (hk.gv b hb hl))
 ·exact .inr hl
theorem PE.loose_ge (h : PE p q f) (hk : PEk' p q f) {a b : Nat} (ha : a < (events p).length) (hb : b < (events p).length) (hl : looseS q (f a) (f b) = true) : looseS p a b = true := by
 simp only [looseS, Bool.and_eq_true] at hl ⊢
 obtain ⟨ho, hl⟩ := hl
 rw [h.own ha hb] at ho
 refine ⟨ho, ?_⟩
 have hc := h.cpy ha hb
 rw [h.ins ha hb ho, Bool.or_eq_true, hc] at hl
 rw [Bool.or_eq_true]
 refine hl.imp (fun hl => ?_) id
 simp only [Bool.or_eq_true, beq_iff_eq] at hl ⊢
 rcases hl with (((hl | hl) | hl) | hl) | hl
 ·exact .inl (.inl (.inl (.inl (hk.wal a ha hl))))
 ·exact .inl (.inl (.inl (.inr (hk.wal b hb hl))))
 ·exact .inl (.inl (.inr (hk.tk a ha hl)))
 ·exact .inl (.inr (hk.gv b hb hl))
 ·exact .inr hl
theorem PE.stays_other (h : PE p q f) {kind : Int} (hk : kind ≠ 3) {a b : Nat} (ha : a < (events p).length) (hb : b < (events p).length) : staysS q kind (f a) (f b) = staysS p kind a b := by
 have hk' : (kind == 3) = false := by simpa using hk
 simp only [staysS, hk', Bool.false_eq_true, if_false]
 rw [h.own ha hb, h.same ha hb, (h.sim ha).w, (h.sim hb).r]
theorem PE.stays_le (h : PE p q f) (hk : PEk p q f) {kind : Int} {a b : Nat} (ha : a < (events p).length) (hb : b < (events p).length) (hl : staysS p kind a b = true) : staysS q kind (f a) (f b) = true := by
 by_cases h3 : kind = 3
 ·subst h3
  exact h.loose_le hk ha hb hl
 ·rw [h.stays_other h3 ha hb]; exact hl
theorem PE.stays_ge (h : PE p q f) (hk : PEk' p q f) {kind : Int} {a b : Nat} (ha : a < (events p).length) (hb : b < (events p).length) (hl : staysS q kind (f a) (f b) = true) : staysS p kind a b = true := by
 by_cases h3 : kind = 3
 ·subst h3
  exact h.loose_ge hk ha hb hl
 ·rw [h.stays_other h3 ha hb] at hl; exact hl
theorem idxFrom_map {g : Int → Int} {z : Int} : ∀ (r : List Int) (i : Nat), (∀ w ∈ r, g w = g z → w = z) → Lib.idxFrom (r.map g) (g z) i = Lib.idxFrom r z i
 | [], _, _ => rfl
 | w :: r, i, h => by
  rw [List.map_cons, Lib.idxFrom, Lib.idxFrom, idxFrom_map r (i + 1) fun w' hw => h w' (List.mem_cons_of_mem _ hw)]
  by_cases hw : w = z
  ·rw [if_pos hw, if_pos (by rw [hw])]
  ·rw [if_neg hw, if_neg fun e => hw (h w (List.mem_cons_self ..) e)]
theorem idxOf_map {g : Int → Int} {z : Int} {r : List Int} (h : ∀ w ∈ r, g w = g z → w = z) : Lib.idxOf (r.map g) (g z) = Lib.idxOf r z := idxFrom_map r 0 h
variable {x y : Exe}
theorem PE.fr (h : PE p q f) (m : Mat (scene p).ds f x y) (hx : OKW (scene p).ds x) {b : Nat} (hb : b < (events p).length) : ∃ z, x.fr[b]? = some z ∧ y.fr[f b]? = some (lft f z) ∧
  ((dsA p b).reads = true → z = -1 ∨ ∃ c : Nat, z = c ∧ c < (events p).length ∧ (dsA p c).writes = true ∧ (dsA p c).p = (dsA p b).p) ∧ ((dsA p b).reads = false → z = -2) := by
 have hb' : b < (scene p).ds.length := by rw [scene_n]; exact hb
 obtain ⟨z, hz⟩ : ∃ z, x.fr[b]? = some z := ⟨_, List.getElem?_eq_getElem (by rw [hx.frl]; exact hb')⟩
 refine ⟨z, hz, m.fr b z hb' hz, fun hr => ?_, fun hr => hx.nr b _ z (ds_at hb) hz hr⟩
 rcases hx.rd b _ z (ds_at hb) hz hr with h1 | ⟨c, d', h1, h2, h3, h4⟩
 ·exact .inl h1
 ·have hc : c < (events p).length := by rw [← scene_n]; exact (List.getElem?_eq_some_iff.1 h2).1
  rw [ds_at hc] at h2
  cases h2
  exact .inr ⟨c, h1, hc, h3, h4⟩
theorem PE.read (h : PE p q f) (m : Mat (scene p).ds f x y) (hx : OKW (scene p).ds x) {a b : Nat} (ha : a < (events p).length) (hb : b < (events p).length) : readS q y (f a) (f b) = readS p x a b := by
 obtain ⟨z, h1, h2, h3, _⟩ := h.fr m hx hb
 rw [readS, readS, (h.sim ha).w, (h.sim hb).r, h1, h2, Option.getD_some, Option.getD_some]
 cases hw : (dsA p a).writes
 ·rfl
 cases hr : (dsA p b).reads
 ·rfl
 simp only [Bool.true_and]
 rw [Bool.eq_iff_iff, beq_iff_eq, beq_iff_eq]
 rcases h3 hr with rfl | ⟨c, rfl, hc, _⟩
 ·rw [lft_neg f (by omega)]; omega
 ·rw [lft_nat]
  have := h.inj hc ha
  omega
theorem PE.rank (h : PE p q f) (m : Mat (scene p).ds f x y) (hx : OKW (scene p).ds x) {a : Nat} (ha : a < (events p).length) (hu : (dsA p a).uses = true) : rankS q y (f a) = rankS p x a := by
 have hd := ds_at ha
 have hpl := formed_place (scene_formed h.okp _ (List.mem_of_getElem? hd)) hu
 obtain ⟨r, k1, k2⟩ := (m.od (dsA p a).p.toNat (by omega)).resolve_right fun hh => hh _ (List.mem_of_getElem? hd) hu (by omega)
 obtain ⟨r', k3, _, k4⟩ := hx.od (dsA p a).p.toNat (by omega)
 rw [k1] at k3; cases k3
 have inj : ∀ w ∈ r, ∀ c : Nat, c < (events p).length → lft f w = lft f c → w = c := by
  intro w hw c hc he
  obtain ⟨b, d, rfl, hb, _⟩ := (k4 w).1 hw
  have hb' : b < (events p).length := by rw [← scene_n]; exact (List.getElem?_eq_some_iff.1 hb).1
  rw [lft_nat, lft_nat] at he
  have := (h.inj hb' hc).1 (by omega)
  omega
 rw [rankS, rankS, (h.sim ha).w, (h.sim ha).r, (h.sim ha).p, k1, k2, Option.getD_some, Option.getD_some]
 cases hw : (dsA p a).writes
 ·have hr : (dsA p a).reads = true := (uses_or.1 hu).resolve_right (by rw [hw]; simp)
  simp only [hr, Bool.false_eq_true, if_false, if_true]
  obtain ⟨z, h1, h2, h3, _⟩ := h.fr m hx ha
  rw [h1, h2, Option.getD_some, Option.getD_some]
  refine idxOf_map fun w hw' he => ?_
  rcases h3 hr with rfl | ⟨c, rfl, hc, _⟩
  ·obtain ⟨b, d, rfl, hb, _⟩ := (k4 w).1 hw'
   rw [lft_nat, lft_neg f (by omega)] at he
   omega
  ·exact inj w hw' c hc he
 ·simp only [if_true]
  rw [← lft_nat f a]
  exact idxOf_map fun w hw' he => inj w hw' a ha he
theorem PE.over (h : PE p q f) (m : Mat (scene p).ds f x y) (hx : OKW (scene p).ds x) {a b : Nat} (ha : a < (events p).length) (hb : b < (events p).length) : overS q y (f a) (f b) = overS p x a b := by
 rw [overS, overS, (h.sim hb).w, h.same ha hb]
 have e : (f a == f b) = (a == b) := by rw [Bool.eq_iff_iff, beq_iff_eq, beq_iff_eq]; exact h.inj ha hb
 rw [e]
 cases hs : sameS p a b
 ·simp
 ·have hs' := hs
  simp only [sameS, Bool.and_eq_true] at hs'
  rw [h.rank m hx ha hs'.1.1, h.rank m hx hb hs'.1.2]
theorem PE.told (h : PE p q f) (m : Mat (scene p).ds f x y) (hx : OKW (scene p).ds x) {kind : Int} {a b : Nat} (ha : a < (events p).length) (hb : b < (events p).length) : toldS q y kind (f a) (f b) = toldS p x kind a b := by
 rw [toldS, toldS, h.apart ha hb, h.read m hx ha hb, h.over m hx ha hb]
theorem PE.net_le (h : PE p q f) (hk : PEk p q f) (m : Mat (scene p).ds f x y) (hx : OKW (scene p).ds x) {kind : Int} {a b : Nat} (ha : a < (events p).length) (hb : b < (events p).length) (hn : netR p x kind a b = true) : netR q y kind (f a) (f b) = true := by
 rw [netR, Bool.or_eq_true] at hn ⊢
 rw [h.told m hx ha hb]
 exact hn.imp (h.stays_le hk ha hb) id
theorem PE.net_ge (h : PE p q f) (hk : PEk' p q f) (m : Mat (scene p).ds f x y) (hx : OKW (scene p).ds x) {kind : Int} {a b : Nat} (ha : a < (events p).length) (hb : b < (events p).length) (hn : netR q y kind (f a) (f b) = true) : netR p x kind a b = true := by
 rw [netR, Bool.or_eq_true] at hn ⊢
 rw [h.told m hx ha hb] at hn
 exact hn.imp (h.stays_ge hk ha hb) id
theorem PE.out (h : PE p q f) {i : Nat} (hi : i < (events p).length) (h7 : kd (scene p).ds i = 7) : outA q (f i) = f (outA p i) := by
 obtain ⟨qu, h8⟩ := outA_spec h.okp hi h7
 have ht := qu.tl
 have : (List.range (events q).length).find? (fun k => decide (f i < k) && ownB (events q) (f i) k && kd (scene q).ds k == 8) = some (f (outA p i)) := by
  refine find_some (h.lt ht) ?_ fun j hj => ?_
  ·have h1 : ownB (events q) (f i) (f (outA p i)) = true := by rw [h.own hi ht, own_iff]; exact ⟨qu.lt, qu.same⟩
   have h2 := (h.lt_iff hi ht).2 qu.lt
   have h3 := (h.k8 _ ht).2 h8
   simp [h1, h2, h3]
  ·by_cases hij : f i < j
   ·by_cases hk : kd (scene q).ds j = 8
    ·obtain ⟨k, k1, k2, rfl⟩ := h.btw i (outA p i) j hi ht qu.same hij hj (.inr hk)
     exact absurd ((h.k8 k (by omega)).1 hk) (qu.no k k1 k2).2.1
    ·simp [hk]
   ·simp [hij]
 rw [outA, this]; rfl
theorem PE.add_le (h : PE p q f) {σ : Nat → Nat → Bool} {a b : Nat} (ha : AddR p (fun e i => σ (f e) (f i)) a b) : AddR q σ (f a) (f b) := by
 obtain ⟨e, i, hw, h2⟩ := ha
 refine ⟨f e, f i, ⟨h.lt hw.el, by rw [h.late e hw.el]; exact hw.late, h.lt hw.il, (h.k7 i hw.il).2 hw.k7⟩, ?_⟩
 rcases h2 with ⟨h3, h4, h5⟩ | ⟨h3, h4, h5⟩
 ·exact .inl ⟨h3, by rw [h.out hw.il hw.k7, h4], by rw [h5]⟩
 ·subst h4
  exact .inr ⟨h3, (h.adj a hw.el hw.late).symm, by rw [h5]⟩
theorem Hld.back (h : PE p q f) (hk : PEk p q f) (m : Mat (scene p).ds f x y) (hx : OKW (scene p).ds x) {kind : Int} (hh : Hld q y kind) : Hld p x kind := by
 refine ⟨hh.pl.pull (fun a => h.lt) fun a b ha hb hn => .inl (h.net_le hk m hx ha hb hn), ?_⟩
 obtain ⟨σ, hs⟩ := hh.ex
 refine ⟨fun e i => σ (f e) (f i), hs.pull (fun a => h.lt) fun a b ha hb hn => .inl ?_⟩
 exact hn.imp (h.net_le hk m hx ha hb) h.add_le
def inv (f : Nat → Nat) (n j : Nat) : Nat := ((List.range n).find? fun i => f i == j).getD 0
theorem Emb.inv {F G : List Do} (e : Emb F G f) {i : Nat} (hi : i < F.length) : inv f F.length (f i) = i := by
 rw [Go.Proofs.YtfbgabkcjjahiaaGreatDoor.inv, find_some hi (by simp) fun j hj => ?_]
 ·rfl
 ·have : f j ≠ f i := fun he => by have := e.inj (by omega) hi he; omega
  simpa using this
theorem PE.inv (h : PE p q f) {i : Nat} (hi : i < (events p).length) : inv f (events p).length (f i) = i := by
 rw [← scene_n]; exact h.e.inv (by rw [scene_n]; exact hi)
theorem PE.add_ge (h : PE p q f) (hn : ∀ e i, WtIn q e i → (∃ e', e' < (events p).length ∧ f e' = e) ∧ ∃ i', i' < (events p).length ∧ f i' = i) {σ : Nat → Nat → Bool} {a b : Nat}
  (ha : AddR q (fun e i => σ (Go.Proofs.YtfbgabkcjjahiaaGreatDoor.inv f (events p).length e) (Go.Proofs.YtfbgabkcjjahiaaGreatDoor.inv f (events p).length i)) a b) : ∃ a' b', a' < (events p).length ∧ b' < (events p).length ∧ f a' = a ∧ f b' = b ∧ AddR p σ a' b' := by
 obtain ⟨e, i, hw, h2⟩ := ha
 obtain ⟨⟨e', he, rfl⟩, i', hi, rfl⟩ := hn e i hw
 have h7 := (h.k7 i' hi).1 hw.k7
 have hl : ltA (events p) e' = true := by rw [← h.late e' he]; exact hw.late
 have hw' : WtIn p e' i' := ⟨he, hl, hi, h7⟩
 simp only [h.inv he, h.inv hi] at h2
 rcases h2 with ⟨h3, h4, h5⟩ | ⟨h3, h4, h5⟩
 ·exact ⟨_, e', (outA_spec h.okp hi h7).1.tl, he, by rw [h4, h.out hi h7], h5.symm, e', i', hw', .inl ⟨h3, rfl, rfl⟩⟩
 ·obtain ⟨w, hww, _⟩ := wait_prev he hl
  subst hww
  have := h.adj w he hl
  exact ⟨w, i', by omega, hi, by omega, h5.symm, w + 1, i', hw', .inr ⟨h3, rfl, rfl⟩⟩
theorem Hld.ends (h : PE p q f) (hk : PEk' p q f) (m : Mat (scene p).ds f x y) (hx : OKW (scene p).ds x) {src snk : Nat → Prop} {kind : Int}
  (hn : ∀ e i, WtIn q e i → (∃ e', e' < (events p).length ∧ f e' = e) ∧ ∃ i', i' < (events p).length ∧ f i' = i)
  (hnew : ∀ j, j < (events q).length → (∃ i, i < (events p).length ∧ f i = j) ∨ src j ∨ snk j)
  (hold : ∀ i, i < (events p).length → ¬ src (f i) ∧ ¬ snk (f i))
  (h1 : ∀ k, (k = 0 ∨ k = kind) → ∀ a b, a < (events q).length → b < (events q).length → src b → netR q y k a b = false)
  (h2 : ∀ k, (k = 0 ∨ k = kind) → ∀ a b, a < (events q).length → b < (events q).length → snk a → netR q y k a b = false) (hh : Hld p x kind) : Hld q y kind := by
 refine ⟨?_, ?_⟩
 ·obtain ⟨r, hr⟩ := hh.pl
  refine rkd_ends (src := src) (snk := snk) (r := fun j => r (Go.Proofs.YtfbgabkcjjahiaaGreatDoor.inv f (events p).length j)) (fun a b ha hb s1 s2 s3 s4 hR => ?_) (fun a b ha hb hs => by rw [h1 0 (.inl rfl) a b ha hb hs]; simp) (fun a b ha hb hs => by rw [h2 0 (.inl rfl) a b ha hb hs]; simp)
  obtain ⟨i, hi, rfl⟩ := (hnew a ha).resolve_right fun e => e.elim s1 s2
  obtain ⟨j, hj, rfl⟩ := (hnew b hb).resolve_right fun e => e.elim s3 s4
  simp only [h.inv hi, h.inv hj]
  exact hr i j hi hj (h.net_ge hk m hx hi hj hR)
 ·obtain ⟨σ, r, hr⟩ := hh.ex
  refine ⟨_, rkd_ends (R := fun a b => netR q y kind a b = true ∨ AddR q (fun e i => σ (Go.Proofs.YtfbgabkcjjahiaaGreatDoor.inv f (events p).length e) (Go.Proofs.YtfbgabkcjjahiaaGreatDoor.inv f (events p).length i)) a b) (src := src) (snk := snk) (r := fun j => r (Go.Proofs.YtfbgabkcjjahiaaGreatDoor.inv f (events p).length j)) (fun a b ha hb s1 s2 s3 s4 hR => ?_) (fun a b ha hb hs hR => ?_) (fun a b ha hb hs hR => ?_)⟩
  ·obtain ⟨i, hi, rfl⟩ := (hnew a ha).resolve_right fun e => e.elim s1 s2
   obtain ⟨j, hj, rfl⟩ := (hnew b hb).resolve_right fun e => e.elim s3 s4
   simp only [h.inv hi, h.inv hj]
   refine hr i j hi hj (hR.imp (h.net_ge hk m hx hi hj) fun hA => ?_)
   obtain ⟨a', b', k1, k2, k3, k4, k5⟩ := h.add_ge hn hA
   have e1 := (h.inj k1 hi).1 k3
   have e2 := (h.inj k2 hj).1 k4
   subst e1; subst e2; exact k5
  ·rcases hR with hR | hR
   ·rw [h1 kind (.inr rfl) a b ha hb hs] at hR; cases hR
   ·obtain ⟨a', b', k1, k2, k3, k4, k5⟩ := h.add_ge hn hR
    subst k4; exact (hold b' k2).1 hs
  ·rcases hR with hR | hR
   ·rw [h2 kind (.inr rfl) a b ha hb hs] at hR; cases hR
   ·obtain ⟨a', b', k1, k2, k3, k4, k5⟩ := h.add_ge hn hR
    subst k3; exact (hold a' k1).2 hs
end
end
end Go.Proofs.YtfbgabkcjjahiaaGreatDoor
