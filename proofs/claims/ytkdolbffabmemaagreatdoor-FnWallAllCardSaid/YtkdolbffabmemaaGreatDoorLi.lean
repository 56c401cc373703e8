/-
 Contracts and plain laws.
-/
import Derived.Test.YtkdolbffabmemaaGreatDoorLd
import Derived.Test.YtkdolbffabmemaaGreatDoorLf
import Derived.Test.YtkdolbffabmemaaGreatDoorLh
set_option linter.unusedSimpArgs false
set_option linter.unusedVariables false
set_option linter.unusedSectionVars false
namespace Go.Proofs.YtkdolbffabmemaaGreatDoor
section
open Go.RowKit
@[push_cast] theorem fzs_bool {α : Type} (f : α → Bool) (l : List α) : (l.map fun d => V.bool (f d)).map V.fz = l.map fun d => V.bool (f d) := by rw [List.map_map]; exact List.map_congr_left fun d _ => rfl
@[push_cast] theorem flatL_bool {α : Type} (f : α → Bool) (l : List α) : flatL (l.map fun d => V.bool (f d)) = true := by simp [flatL, V.cells, V.flatC]
theorem rds_take (p : Prog) (f : Do → Bool) {k : Nat} {d : Do} (h : (scene p).ds[k]? = some d) : ((scene p).ds.take (k + 1)).map (fun d => V.bool (f d)) = ((scene p).ds.take k).map (fun d => V.bool (f d)) ++ [.bool (f d)] := by
 rw [take_get h, List.map_append]; rfl
end
section
open Go.RowKit
section
variable {P : Program} {M : Mem} {k : V → Mem → Prop}
end
end
section
open Go.RowKit
def rowP (f : Nat → Bool) (n b : Nat) : List Bool := (List.range n).map fun j => decide (j < b) && f j
end
section
open Go.RowKit
end
section
open Go.RowKit
end
section
open Go.RowKit
end
section
open Go.RowKit
end
section
open Go.RowKit
def seensS (p : Prog) (kind : Int) (l : List Exe) : List Sn := (l.filter fun x => holdsS p x kind).map (seenF p)
def ordAll (p : Prog) (kind : Int) : List Sn := if progOk p && inB kind 1 3 then (seensS p kind (specAll p)).foldl putS [] else []
def accS (p : Prog) (kind : Int) (l : List Exe) : List Sn := (seensS p kind l).foldl putS []
theorem put_mem {L : List Sn} {s t : Sn} (h : t ∈ putS L s) : t ∈ L ∨ t = s := by
 rw [putS] at h
 split at h
 ·exact .inl h
 ·have key : ∀ L : List Sn, t ∈ insP L s → t ∈ L ∨ t = s := by
   intro L
   induction L with
   | nil => intro h; simp [insP] at h; exact .inr h
   | cons a L ih =>
    intro h
    rw [insP] at h
    split at h
    ·simp at h ⊢; rcases h with h | h | h
     ·exact .inr h
     ·exact .inl (.inl h)
     ·exact .inl (.inr h)
    ·simp at h ⊢; rcases h with h | h
     ·exact .inl (.inl h)
     ·exact (ih h).imp .inr id
  exact key L h
theorem fold_mem {t : Sn} : ∀ {l L : List Sn}, t ∈ l.foldl putS L → t ∈ L ∨ t ∈ l
 | [], L, h => .inl h
 | s :: l, L, h => by
  rw [List.foldl_cons] at h
  rcases fold_mem h with h | h
  ·rcases put_mem h with h | h
   ·exact .inl h
   ·exact .inr (by simp [h])
  ·exact .inr (by simp [h])
theorem fold_len : ∀ {l L : List Sn}, (l.foldl putS L).length ≤ L.length + l.length
 | [], L => by simp
 | s :: l, L => by
  rw [List.foldl_cons]
  have := fold_len (l := l) (L := putS L s)
  have := put_len L s
  rw [List.length_cons]; omega
theorem acc_len (p : Prog) (kind : Int) (l : List Exe) : (accS p kind l).length ≤ l.length := by
 have := fold_len (l := seensS p kind l) (L := [])
 have h2 : (seensS p kind l).length ≤ l.length := by rw [seensS, List.length_map]; exact List.length_filter_le _ _
 rw [accS]; simp at this; omega
theorem acc_small {p : Prog} {kind : Int} {l : List Exe} (h : ∀ x ∈ l, execOk p x = true) : ∀ t ∈ accS p kind l, t.small := fun t ht => by
 rcases fold_mem ht with h1 | h1
 ·cases h1
 ·simp only [seensS, List.mem_map, List.mem_filter] at h1
  obtain ⟨x, ⟨hx, _⟩, rfl⟩ := h1
  exact rdK_small p x (h x hx)
end
section
open Go.RowKit
def ordI (p : Prog) (kind : Int) : List Sn := if progOk p && inB kind 1 3 then seenS (seensS p kind (execAll p)) else []
theorem seens_yes {p : Prog} {kind : Int} {l : List Exe} {x : Exe} (h : holdsS p x kind = true) : seensS p kind (l ++ [x]) = seensS p kind l ++ [seenF p x] := by simp [seensS, h]
theorem seens_no {p : Prog} {kind : Int} {l : List Exe} {x : Exe} (h : holdsS p x kind = false) : seensS p kind (l ++ [x]) = seensS p kind l := by simp [seensS, h]
theorem seens_len (p : Prog) (kind : Int) (l : List Exe) : (seensS p kind l).length ≤ l.length := by
 rw [seensS, List.length_map]; exact List.length_filter_le _ _
theorem seens_small {p : Prog} {kind : Int} {l : List Exe} (h : ∀ x ∈ l, execOk p x = true) : ∀ t ∈ seensS p kind l, t.small := fun t ht => by
 simp only [seensS, List.mem_map, List.mem_filter] at ht
 obtain ⟨x, ⟨hx, _⟩, rfl⟩ := ht
 exact rdK_small p x (h x hx)
theorem implOrderAll_fn (p : Prog) (kind : Int) (hp : p.length < 2 ^ 40) (hl : ∀ l ∈ p, l.length < 2 ^ 40) : Fp Tryz.prog 12 [progV p, .int .i64 kind] (.sl ((ordI p kind).map Sn.V)) := by
 have h1 := implProgOk_fn p hp hl
 rw [progV_eq] at h1
 rw [ordI]
 cases hok : progOk p
 ·refine Fc.nilrow (R' := fun r _ => r = .msl 4 [] none 0 0) ?_ (fun r m hr => ⟨4, [], hr, rfl, rfl⟩)
  refine Fc.start (S := []) Tryz.func12 Tryz.ntmps12 Tryz.results12 rfl (by decide) rfl (by kernel_rfl) ?_
  simp (disch := omega) only [push_cast, go_sem, zA, simprocAttr, progV_eq]
  intro g
  refine callR.pure h1 rfl rfl ?_
  simp (disch := omega) only [push_cast, go_sem, zA, simprocAttr, hok]
  exact ⟨noM, Sub.no⟩
 cases hk : inB kind 1 3
 ·refine Fc.nilrow (R' := fun r _ => r = .msl 4 [] none 0 0) ?_ (fun r m hr => ⟨4, [], hr, rfl, rfl⟩)
  refine Fc.start (S := []) Tryz.func12 Tryz.ntmps12 Tryz.results12 rfl (by decide) rfl (by kernel_rfl) ?_
  simp (disch := omega) only [push_cast, go_sem, zA, simprocAttr, progV_eq]
  intro g
  refine callR.pure h1 rfl rfl ?_
  simp (disch := omega) only [push_cast, go_sem, zA, simprocAttr, hok]
  refine callR.pure (isOrd_fn kind) rfl rfl ?_
  simp (disch := omega) only [push_cast, go_sem, zA, simprocAttr, hk]
  exact ⟨noM, Sub.no⟩
 have hel := events_le hok
 have hus := scene_uses hok
 have hfew : Few (scene p).ds := ⟨Nat.le_trans (count_le _) hus⟩
 have hsc := sceneOf_fn p hok
 have hall := all_fn (scene p) (by simp only [scene, List.length_map]; omega) (scene_len p) (scene_copy hok) hfew.wr (fun k hk => by have := froms_le hus k hk; omega) (fun k hk => by have := orders_le hus k hk; omega)
  (Nat.lt_of_le_of_lt (Nat.mul_le_mul (froms_le hus _ (Nat.le_refl _)) (orders_le hus 3 (Nat.le_refl _))) (by decide))
 have hae : allOf (scene p) = execAll p := by rw [execAll, hok]; rfl
 rw [hae] at hall
 have hsee := fun x hx => seen_fn p x (all_ok hx)
 have hle : (execAll p).length < 2 ^ 30 := by rw [all_eq]; exact specAll_le p
 have hsl := seens_len p kind (execAll p)
 have hsort := seenSort_fn (seensS p kind (execAll p)) (seens_small fun x hx => all_ok hx) (by omega)
 rw [progV_eq] at hsc
 rw [Sc.V_eq] at hsc hall
 rw [Bool.and_self, if_pos rfl]
 refine Fc.start (S := [12]) Tryz.func12 Tryz.ntmps12 Tryz.results12 rfl (by decide) rfl (by kernel_rfl) ?_
 simp (disch := omega) only [push_cast, go_sem, zA, simprocAttr, progV_eq]
 intro g2
 refine callR.pure h1 rfl rfl ?_
 simp (disch := omega) only [push_cast, go_sem, zA, simprocAttr, hok]
 refine callR.pure (isOrd_fn kind) rfl rfl ?_
 simp (disch := omega) only [push_cast, go_sem, zA, simprocAttr, hk]
 refine callR.pure hsc rfl rfl ?_
 simp (disch := omega) only [push_cast, go_sem, zA, simprocAttr]
 intro g5
 refine callR.pure hall rfl rfl ?_
 simp (disch := omega) only [push_cast, go_sem, zA, simprocAttr]
 refine Sat.loop (σ := EvS) (fun x => upd (upd (upd (upd (upd (upd noT 1 (.int .i64 kind)) 5 (.ptr 5 [] 0 0 g5 3)) 22 (.sl ((execAll p).map Exe.V))) 23 (.int .i64 (execAll p).length)) 24 (.int .i64 x.k)) 6 (.msl 6 [] x.γ (seensS p kind ((execAll p).take x.k)).length x.c))
  (fun x => (noM.set 5 (.own 55 (some g5) 1 [.agg [.sl ((scene p).p.map thrV), .sl ((scene p).es.map Evt.V), .sl ((scene p).ds.map Do.V)]])).set 6 (.own x.e x.γ x.c ((seensS p kind ((execAll p).take x.k)).map Sn.V)))
  (fun x => x.k ≤ (execAll p).length ∧ (x.γ = none ∨ x.e = 34)) (fun x => (execAll p).length - x.k) ⟨0, 0, none, 0⟩ (by simp) ?_ ?_
 ·(refine zB ?_; repeat (first | exact zC | exact zD | refine zE (by decide) ?_ | refine zF ?_ ?_ | refine zG ?_ ?_)) <;> (try simp (disch := omega) only [push_cast, go_sem, zA, simprocAttr])
  all_goals rfl
 rintro ⟨k, e, γ, c⟩ ⟨hi, hγ⟩ J hJ
 simp only at hi hγ hJ
 have hγ' : (γ = none ∨ e = 34) = True := by simp only [hγ]
 refine Sat.of (S := []) (by kernel_rfl) ?_
 rcases Nat.lt_or_ge k (execAll p).length with hlt | hge
 ·obtain ⟨x, hx⟩ : ∃ x, (execAll p)[k]? = some x := ⟨_, List.getElem?_eq_getElem hlt⟩
  have hxm := List.mem_of_getElem? hx
  have hxo := all_ok hxm
  have hw := Way.of hxo
  have hsm := specAll_small (p := p) (y := x) (by rw [← all_eq]; exact hxm)
  have hxs : x.small := ⟨by omega, by omega, fun r hr => by have := hsm.2.2 r hr; omega⟩
  have hse := hsee x hxm hxs
  have hst := settled_fn p x kind hw hxs hk
  have htk := take_get hx
  have hho : holdsS p x kind = (settledS p x kind).isSome := by
   have := hxo
   rw [ok_eq] at this
   rw [holdsS, this, hk]; rfl
  have hcl := seens_len p kind ((execAll p).take k)
  have htl : ((execAll p).take k).length = k := by rw [List.length_take]; omega
  rw [Exe.V_eq, Sc.V_eq] at hse hst
  rw [Sn.V_eq] at hse
  simp (disch := omega) only [push_cast, go_sem, zA, simprocAttr, hx, hlt, Exe.V_eq]
  intro g8
  cases hr : settledS p x kind with
  | none =>
   rw [hr] at hho hst
   rw [no_settle] at hst
   refine callR.pure hst rfl rfl ?_
   simp (disch := omega) only [push_cast, go_sem, zA, simprocAttr]
   refine hJ ⟨k + 1, e, γ, c⟩ _ _ ⟨by dsimp only; omega, hγ⟩ (by dsimp only; omega) ?_
   dsimp only
   rw [htk, seens_no hho]
   (refine zB ?_; repeat (first | exact zC | exact zD | refine zE (by decide) ?_ | refine zF ?_ ?_ | refine zG ?_ ?_)) <;> (try simp (disch := omega) only [push_cast, go_sem, zA, simprocAttr])
  | some r =>
   rw [hr] at hho hst
   rw [some_settle] at hst
   refine callR.pure hst rfl rfl ?_
   simp (disch := omega) only [push_cast, go_sem, zA, simprocAttr]
   refine callR.pure hse rfl rfl ?_
   simp (disch := omega) only [push_cast, go_sem, zA, simprocAttr, hγ']
   intro g40
   refine ⟨by omega, fun γ' c' _ => ?_⟩
   refine hJ ⟨k + 1, 34, γ', c'⟩ _ _ ⟨by dsimp only; omega, .inr rfl⟩ (by dsimp only; omega) ?_
   dsimp only
   rw [htk, seens_yes hho]
   (refine zB ?_; repeat (first | exact zC | exact zD | refine zE (by decide) ?_ | refine zF ?_ ?_ | refine zG ?_ ?_)) <;> (try simp (disch := omega) only [push_cast, go_sem, zA, simprocAttr])
   all_goals simp [Sn.V]
 ·have : k = (execAll p).length := by omega
  subst this
  simp (disch := omega) only [push_cast, go_sem, zA, simprocAttr, List.take_length]
  refine Sat.freezeT (upd noT 6 (.sl ((seensS p kind (execAll p)).map Sn.V))) noM 6 (e := e) (γ := γ) (cap := c) (es := (seensS p kind (execAll p)).map Sn.V) rfl ?_ ?_
  ·(refine zB ?_; repeat (first | exact zC | exact zD | refine zE (by decide) ?_ | refine zF ?_ ?_ | refine zG ?_ ?_)) <;> (try simp (disch := omega) only [push_cast, go_sem, zA, simprocAttr])
  refine Sat.of (S := []) (by kernel_rfl) ?_
  simp (disch := omega) only [push_cast, go_sem, zA, simprocAttr]
  refine callR.pure hsort rfl rfl ?_
  simp (disch := omega) only [push_cast, go_sem, zA, simprocAttr]
end
section
open Go.RowKit Go.Lib
def strictS (l : List Sn) : Prop := l.Pairwise fun s t => cmpS s t < 0
theorem cmpS_irr (s : Sn) : ¬ cmpS s s < 0 := by rw [cmpS_zero.2 rfl]; omega
theorem strict_nodup {l : List Sn} (h : strictS l) : l.Nodup := h.imp fun {a b} hab e => by subst e; exact cmpS_irr a hab
theorem strict_ext {l m : List Sn} (hl : strictS l) (hm : strictS m) (h : ∀ s, s ∈ l ↔ s ∈ m) : l = m := by
 have hp : l.Perm m := (List.perm_ext_iff_of_nodup (strict_nodup hl) (strict_nodup hm)).2 h
 refine List.Perm.eq_of_pairwise (le := fun s t => cmpS s t < 0) ?_ hl hm hp
 intro a b _ _ h1 h2
 exact absurd (cmpS_trans a b a h1 h2) (cmpS_irr a)
theorem mem_insP {s t : Sn} : ∀ {l : List Sn}, t ∈ insP l s ↔ t = s ∨ t ∈ l
 | [] => by simp [insP]
 | u :: l => by
  rw [insP]
  split
  ·simp
  ·rw [List.mem_cons, mem_insP, List.mem_cons]
   constructor
   ·rintro (h | h | h) <;> simp [h]
   ·rintro (h | h | h) <;> simp [h]
theorem strict_insP {s : Sn} : ∀ {l : List Sn}, strictS l → s ∉ l → strictS (insP l s)
 | [], _, _ => by simp [insP, strictS]
 | u :: l, h, hn => by
  rw [insP]
  have h' := List.pairwise_cons.1 h
  split
  ·rename_i hlt
   have hsu : cmpS s u < 0 := by have := cmpS_neg u s; omega
   refine List.pairwise_cons.2 ⟨fun t ht => ?_, h⟩
   rcases List.mem_cons.1 ht with rfl | ht
   ·exact hsu
   ·exact cmpS_trans _ _ _ hsu (h'.1 t ht)
  ·rename_i hlt
   have hne : u ≠ s := fun e => hn (by rw [e]; exact List.mem_cons_self ..)
   have hus : cmpS u s < 0 := by
    have : cmpS u s ≠ 0 := fun e => hne (cmpS_zero.1 e)
    omega
   refine List.pairwise_cons.2 ⟨fun t ht => ?_, strict_insP h'.2 fun hm => hn (List.mem_cons_of_mem _ hm)⟩
   rcases mem_insP.1 ht with rfl | ht
   ·exact hus
   ·exact h'.1 t ht
theorem mem_putS {L : List Sn} {s t : Sn} : t ∈ putS L s ↔ t ∈ L ∨ t = s := by
 rw [putS]
 split
 ·rename_i h
  have hs : s ∈ L := List.contains_iff_mem.1 h
  constructor
  ·exact .inl
  ·rintro (h | rfl)
   ·exact h
   ·exact hs
 ·rw [mem_insP]; exact ⟨fun h => h.symm, fun h => h.symm⟩
theorem strict_putS {L : List Sn} {s : Sn} (h : strictS L) : strictS (putS L s) := by
 rw [putS]
 split
 ·exact h
 ·rename_i hn
  exact strict_insP h fun hm => hn (List.contains_iff_mem.2 hm)
theorem fold_putS {l : List Sn} : ∀ {L : List Sn}, strictS L → strictS (l.foldl putS L) ∧ ∀ s, s ∈ l.foldl putS L ↔ s ∈ L ∨ s ∈ l := by
 induction l with
 | nil => intro L h; exact ⟨h, fun s => by simp⟩
 | cons a l ih =>
  intro L h
  rw [List.foldl_cons]
  obtain ⟨h1, h2⟩ := ih (strict_putS (s := a) h)
  refine ⟨h1, fun s => ?_⟩
  rw [h2, mem_putS, List.mem_cons, or_assoc]
theorem compact_strict {d : Array Sn} (h : d.toList.Pairwise fun s t => ¬ cmpS t s < 0) : ∀ m, m ≤ d.size → strictS (compactUpTo d m) ∧ (∀ s, s ∈ compactUpTo d m ↔ s ∈ d.toList.take m) ∧ (0 < m → ∃ l, compactUpTo d m = l ++ [d[m - 1]!])
 | 0, _ => ⟨by simp [compactUpTo, strictS], fun s => by simp [compactUpTo], fun h => absurd h (by omega)⟩
 | m + 1, hm => by
  obtain ⟨i1, i2, i3⟩ := compact_strict h m (by omega)
  have hd : d[m]! = d.toList[m]'(by simp; omega) := by rw [getElem!_pos d m (by omega)]; simp
  have htk : d.toList.take (m + 1) = d.toList.take m ++ [d[m]!] := by rw [List.take_add_one, List.getElem?_eq_getElem (by simp; omega), hd]; rfl
  rw [compactUpTo_succ, htk]
  cases hk : keeps d m
  ·have hk' : ¬ (m = 0 ∨ d[m]! ≠ d[m - 1]!) := by simpa [keeps] using hk
   have hm0 : 0 < m := by omega
   have he : d[m]! = d[m - 1]! := Classical.byContradiction fun hne => hk' (.inr hne)
   obtain ⟨l, hl⟩ := i3 hm0
   simp only [Bool.false_eq_true, if_false, List.append_nil]
   refine ⟨i1, fun s => ?_, fun _ => ⟨l, by rw [hl, Nat.add_sub_cancel, he]⟩⟩
   rw [List.mem_append, ← i2]
   constructor
   ·exact .inl
   ·rintro (h | h)
    ·exact h
    ·have : s = d[m - 1]! := by rw [← he]; simpa using h
     rw [hl, this]; simp
  ·simp only [if_true]
   refine ⟨?_, fun s => by rw [List.mem_append, List.mem_append, i2], fun _ => ⟨_, by rw [Nat.add_sub_cancel]⟩⟩
   refine List.pairwise_append.2 ⟨i1, by simp, fun a ha b hb => ?_⟩
   have hb' : b = d[m]! := by simpa using hb
   subst hb'
   by_cases hm0 : m = 0
   ·subst hm0; simp [compactUpTo] at ha
   ·have hne : d[m]! ≠ d[m - 1]! := by
     have : m = 0 ∨ d[m]! ≠ d[m - 1]! := by simpa [keeps] using hk
     exact this.resolve_left hm0
    have hpair : ∀ i j (hi : i < d.toList.length) (hj : j < d.toList.length), i < j → ¬ cmpS d.toList[j] d.toList[i] < 0 := fun i j hi hj hij => (List.pairwise_iff_getElem.1 h) i j hi hj hij
    have hlast : cmpS d[m - 1]! d[m]! < 0 := by
     have h1 := hpair (m - 1) m (by simp; omega) (by simp; omega) (by omega)
     have e1 : d[m - 1]! = d.toList[m - 1]'(by simp; omega) := by rw [getElem!_pos d (m - 1) (by omega)]; simp
     rw [← hd, ← e1] at h1
     have h2 := cmpS_neg d[m - 1]! d[m]!
     have h3 : cmpS d[m - 1]! d[m]! ≠ 0 := fun e => hne (cmpS_zero.1 e).symm
     omega
    obtain ⟨l, hl⟩ := i3 (by omega)
    rw [hl] at ha i1
    rcases List.mem_append.1 ha with ha | ha
    ·exact cmpS_trans _ _ _ ((List.pairwise_append.1 i1).2.2 a ha _ (by simp)) hlast
    ·have : a = d[m - 1]! := by simpa using ha
     rw [this]; exact hlast
theorem sortSn_pw (l : List Sn) : (sortSn l).Pairwise fun s t => ¬ cmpS t s < 0 := by
 have := List.pairwise_mergeSort (le := fun s t => !decide (cmpS t s < 0)) (fun a b c h1 h2 => by
  simp only [Bool.not_eq_true', decide_eq_false_iff_not] at *
  intro h3
  have e1 := cmpS_neg a b
  have e2 := cmpS_neg b c
  by_cases k1 : cmpS a b = 0
  ·rw [cmpS_zero.1 k1] at h3; exact h2 h3
  ·by_cases k2 : cmpS b c = 0
   ·rw [← cmpS_zero.1 k2] at h3; exact h1 h3
   ·have := cmpS_trans a b c (by omega) (by omega)
    have := cmpS_neg a c
    omega) (fun a b => by
  have := cmpS_neg a b
  simp only [Bool.or_eq_true, Bool.not_eq_true', decide_eq_false_iff_not]; omega) l
 exact this.imp fun h => by simpa using h
theorem seenS_eq (l : List Sn) : seenS l = l.foldl putS [] := by
 obtain ⟨h1, h2⟩ := fold_putS (l := l) (L := []) .nil
 have hc := compact_strict (d := (sortSn l).toArray) (by simpa using sortSn_pw l) (sortSn l).length (by simp)
 refine strict_ext hc.1 h1 fun s => ?_
 rw [h2]
 show s ∈ compactUpTo _ _ ↔ _
 rw [hc.2.1]
 simp [(sortSn_perm l).mem_iff]
theorem ordI_eq (p : Prog) (kind : Int) : ordI p kind = ordAll p kind := by
 rw [ordI, ordAll, all_eq, seenS_eq]
theorem mem_ord {p : Prog} {kind : Int} {s : Sn} : s ∈ ordAll p kind ↔ progOk p = true ∧ inB kind 1 3 = true ∧ ∃ x ∈ specAll p, holdsS p x kind = true ∧ seenF p x = s := by
 rw [ordAll]
 split
 ·rename_i h
  rw [Bool.and_eq_true] at h
  rw [(fold_putS (l := seensS p kind (specAll p)) (L := []) .nil).2]
  simp only [List.not_mem_nil, false_or, seensS, List.mem_map, List.mem_filter, h.1, h.2, true_and]
  constructor
  ·rintro ⟨x, ⟨h1, h2⟩, h3⟩; exact ⟨x, h1, h2, h3⟩
  ·rintro ⟨x, h1, h2, h3⟩; exact ⟨x, ⟨h1, h2⟩, h3⟩
 ·rename_i h
  constructor
  ·intro h'; cases h'
  ·rintro ⟨h1, h2, _⟩; exact absurd (by rw [h1, h2]; rfl) h
theorem ord_strict (p : Prog) (kind : Int) : strictS (ordAll p kind) := by
 rw [ordAll]
 split
 ·exact (fold_putS .nil).1
 ·exact .nil
theorem ord_ext {p q : Prog} {k m : Int} (h : ∀ s, s ∈ ordAll p k ↔ s ∈ ordAll q m) : ordAll p k = ordAll q m := strict_ext (ord_strict p k) (ord_strict q m) h
end
end Go.Proofs.YtkdolbffabmemaaGreatDoor
