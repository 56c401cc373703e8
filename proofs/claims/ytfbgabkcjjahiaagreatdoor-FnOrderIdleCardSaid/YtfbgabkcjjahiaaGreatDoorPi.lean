/-
 Contracts and plain laws.
-/
import Derived.Test.YtfbgabkcjjahiaaGreatDoorPe
import Derived.Test.YtfbgabkcjjahiaaGreatDoorPf
import Derived.Test.YtfbgabkcjjahiaaGreatDoorPg
import Derived.Test.YtfbgabkcjjahiaaGreatDoorPh
set_option linter.unusedSimpArgs false
set_option linter.unusedVariables false
set_option linter.unusedSectionVars false
namespace Go.Proofs.YtfbgabkcjjahiaaGreatDoor
section
open Go.RowKit
theorem valS_at {p : Prog} {x : Exe} (h : execOk p x = true) {a : Nat} {d : Do} (hd : (scene p).ds[a]? = some d) (hu : d.uses = true) : valS (events p) (scene p).ds x.fr (2 * (events p).length + 2) a = valF p x a := by
 have hw := Way.of h
 have hsl : (scene p).ds.length = (events p).length := by simp [scene]
 have hf : fromOk (scene p).ds x.fr := fromOk_of (scene_len p) (by simp only [execOk, okX, Bool.and_eq_true] at h; exact h.2.1)
 obtain ⟨h1, h2⟩ := val_eq hw.ok hf (2 * (events p).length + 2) a d hd hu
 have h3 := valI_up (val_some h hd hu) ((events p).length + 2)
 rw [hsl, show (events p).length + ((events p).length + 2) = 2 * (events p).length + 2 by omega] at h3
 rw [h1, h3]; rfl
theorem fr_lt {p : Prog} {x : Exe} (h : execOk p x = true) : ∀ f ∈ x.fr, f < (events p).length := by
 have hw := Way.of h
 have hsl : (scene p).ds.length = (events p).length := by simp [scene]
 intro f hf
 obtain ⟨i, hi⟩ := List.getElem?_of_mem hf
 have hil := (List.getElem?_eq_some_iff.1 hi).1
 rw [hw.fr] at hil
 have hd : (scene p).ds[i]? = some (scene p).ds[i] := List.getElem?_eq_getElem hil
 have := hw.from_ i _ f hd hi
 simp only [frOk] at this
 split at this
 ·rw [Bool.or_eq_true] at this
  rcases this with h1 | h1
  ·simp at h1; omega
  ·obtain ⟨b, d, k1, k2, k3, _⟩ := mem_wrs (List.contains_iff_mem.1 h1)
   have := (List.getElem?_eq_some_iff.1 k3).1
   omega
 ·simp at this; omega
theorem l12Seen_fn (p : Prog) (x : Exe) (h : execOk p x = true) (hx : x.small) : Fp Tryz.prog 79 [progV p, .sl ((events p).map Evt.V), x.V] (seenF p x).V := by
 have hw := Way.of h
 have hpk := hw.ok
 have hel := events_le hpk
 have hsl : (scene p).ds.length = (events p).length := by simp [scene]
 have hod := hw.od
 have hfl : x.fr.length = (events p).length := by rw [hw.fr, hsl]
 have hv := fun i hi => l12Val_fn p x hel hfl (fr_lt h) (2 * (events p).length + 2) i (by omega) hi
 have hm1 : valS (events p) (scene p).ds x.fr (2 * (events p).length + 2) (-1) = 0 := by simp [valS]
 have hva := fun a d hd hu => valS_at (a := a) (d := d) h hd hu
 have hodr : ∀ row ∈ x.od, ∀ z ∈ row, ∃ (b : Nat) (d : Do), z = b ∧ (scene p).ds[b]? = some d ∧ d.uses = true := fun row hr z hz => od_at h hr hz
 have hrow := hx.row
 obtain ⟨f, hff⟩ : ∃ f, valF p x = f := ⟨_, rfl⟩
 rw [hff] at hva
 rw [seenF, hff, Sn.V_eq, hsl]
 rw [Exe.V_eq] at hv ⊢
 rw [progV_eq] at hv
 obtain ⟨n, hnn⟩ : ∃ n, (events p).length = n := ⟨_, rfl⟩
 rw [hnn] at hel hsl hv hm1 hva ⊢
 have hev := fun (a : Nat) e (he : (events p)[a]? = some e) => l12Do_fn p e (evIn_of (List.mem_of_getElem? he))
 refine Fc.start (S := [14]) Tryz.func79 Tryz.ntmps79 Tryz.results79 rfl (by decide) rfl (by kernel_rfl) ?_
 simp (disch := omega) only [push_cast, go_sem, zA, simprocAttr, progV_eq]
 intro g3 g5 g6 g11 g7
 refine Sat.loop (σ := EvS) (fun y => upd (upd (upd (upd (upd (upd noT 1 (.sl ((events p).map Evt.V))) 3 (.ptr 3 [] 0 0 g3 1)) 5 (.ptr 5 [] 0 0 g5 2)) 6 (.ptr 6 [] 0 0 g6 2)) 7 (.ptr 7 [] 0 0 g7 2)) 8 (.int .i64 y.k))
  (fun y => (((noM.set 3 (.own 25 (some g3) 1 [.agg [.sl (p.map thrV)]])).set 5 (.own 33 (some g5) 1 [.agg [.sl (x.fr.map (V.int .i64)), .sl (x.od.map intsV)]])).set 6 (.own 28 (some g6) 1 [.agg [.own 0 none 0 [], .own 0 none 0 []]])).set 7 (.own 28 (some g7) 1 [.agg [.own y.e y.γ y.c ((rdK f (scene p).ds y.k).map (V.int .i64)), .own 0 none 0 []]]))
  (fun y => y.k ≤ n ∧ (y.γ = none ∨ y.e = 3)) (fun y => n - y.k) ⟨0, 3, some g11, 0⟩ (by simp) ?_ ?_
 ·(refine zB ?_; repeat (first | exact zC | exact zD | refine zE (by decide) ?_ | refine zF ?_ ?_ | refine zG ?_ ?_)) <;> (try simp (disch := omega) only [push_cast, go_sem, zA, simprocAttr])
  all_goals rfl
 rintro ⟨k, e, γ, c⟩ ⟨hk, hγ⟩ J hJ
 simp only at hk hγ hJ
 have hγ' : (γ = none ∨ e = 3) = True := by simp only [hγ]
 have hrl := rdK_le f (scene p).ds k
 refine Sat.of (S := [14]) (by kernel_rfl) ?_
 rcases Nat.lt_or_ge k n with hlt | hge
 ·obtain ⟨ev, he⟩ : ∃ d, (events p)[k]? = some d := ⟨_, List.getElem?_eq_getElem (by omega)⟩
  obtain ⟨d, hst⟩ : ∃ d, stepAt p ev = d := ⟨_, rfl⟩
  have hd := scene_get he
  have hdo := hev k ev he
  rw [hst] at hd hdo
  have hre := l1Reads_fn d
  rw [progV_eq, Evt.V_eq, Do.V_eq] at hdo
  rw [Do.V_eq] at hre
  have hkl : k < (events p).length := by omega
  simp (disch := omega) only [push_cast, go_sem, zA, simprocAttr, hnn, hlt]
  refine Sat.drawnE [] [] (List.range 7) (pureT [(118, .agg [.int .i64 d.k, .int .i64 d.p, .int .i64 d.v]), (72, .bool d.reads)]) (by kernel_rfl) (by kernel_rfl) ?_
  simp (disch := omega) only [push_cast, go_sem, zA, simprocAttr, hnn, hlt, he, hkl, Evt.V_eq]
  refine runD_pure rfl hdo rfl rfl ?_ ?_
  ·rfl
  simp (disch := omega) only [push_cast, go_sem, zA, simprocAttr]
  refine runD_pure rfl hre rfl rfl ?_ ?_
  ·rfl
  cases hr : d.reads
  ·simp (disch := omega) only [push_cast, go_sem, zA, simprocAttr]
   refine hJ ⟨k + 1, e, γ, c⟩ _ _ ⟨by dsimp only; omega, hγ⟩ (by dsimp only; omega) ?_
   dsimp only
   rw [rdK_no hd hr]
   (refine zB ?_; repeat (first | exact zC | exact zD | refine zE (by decide) ?_ | refine zF ?_ ?_ | refine zG ?_ ?_)) <;> (try simp (disch := omega) only [push_cast, go_sem, zA, simprocAttr])
  ·have hvk := hv k (by omega)
   rw [hva k d hd (by simp [Do.uses, hr])] at hvk
   simp (disch := omega) only [push_cast, go_sem, zA, simprocAttr]
   refine Sat.drawnE [(1, 11)] [] [0, 1, 2, 3, 4, 5, 6, 7, 8, 9, 10, 13] (pureT [(121, .int .i64 (f k))]) (by kernel_rfl) (by kernel_rfl) ?_
   simp (disch := omega) only [push_cast, go_sem, zA, simprocAttr, hnn]
   refine runD_pure rfl hvk rfl rfl ?_ ?_
   ·rfl
   simp (disch := omega) only [push_cast, go_sem, zA, simprocAttr, hγ']
   intro g37
   refine ⟨by omega, fun γ1 c1 _ => ?_⟩
   refine hJ ⟨k + 1, 3, γ1, c1⟩ _ _ ⟨by dsimp only; omega, .inr rfl⟩ (by dsimp only; omega) ?_
   dsimp only
   rw [rdK_yes hd hr]
   (refine zB ?_; repeat (first | exact zC | exact zD | refine zE (by decide) ?_ | refine zF ?_ ?_ | refine zG ?_ ?_)) <;> (try simp (disch := omega) only [push_cast, go_sem, zA, simprocAttr])
   all_goals simp
 have : k = n := by omega
 subst this
 simp (disch := omega) only [push_cast, go_sem, zA, simprocAttr, hnn]
 refine Sat.loop (σ := EvS) (fun y => upd (upd (upd (upd (upd (upd noT 1 (.sl ((events p).map Evt.V))) 3 (.ptr 3 [] 0 0 g3 1)) 5 (.ptr 5 [] 0 0 g5 2)) 6 (.ptr 6 [] 0 0 g6 2)) 7 (.ptr 7 [] 0 0 g7 2)) 9 (.int .i64 y.k))
  (fun y => (((noM.set 3 (.own 25 (some g3) 1 [.agg [.sl (p.map thrV)]])).set 5 (.own 33 (some g5) 1 [.agg [.sl (x.fr.map (V.int .i64)), .sl (x.od.map intsV)]])).set 6 (.own 28 (some g6) 1 [.agg [.own 0 none 0 [], .own 0 none 0 []]])).set 7 (.own 28 (some g7) 1 [.agg [.own e γ c ((rdK f (scene p).ds k).map (V.int .i64)), .own y.e y.γ y.c (((x.od.take y.k).map (lsF f)).map (V.int .i64))]]))
  (fun y => y.k ≤ 3 ∧ (y.γ = none ∨ y.e = 3)) (fun y => 3 - y.k) ⟨0, 0, none, 0⟩ (by simp) ?_ ?_
 ·(refine zB ?_; repeat (first | exact zC | exact zD | refine zE (by decide) ?_ | refine zF ?_ ?_ | refine zG ?_ ?_)) <;> (try simp (disch := omega) only [push_cast, go_sem, zA, simprocAttr])
  all_goals rfl
 rintro ⟨j, e2, γ2, c2⟩ ⟨hk2, hγ2⟩ J2 hJ2
 simp only at hk2 hγ2 hJ2
 have hγ2' : (γ2 = none ∨ e2 = 3) = True := by simp only [hγ2]
 refine Sat.of (S := [14]) (by kernel_rfl) ?_
 by_cases h3 : (j : Int) < 3
 ·have hlt : j < x.od.length := by omega
  have hl3 : j < 3 := by omega
  obtain ⟨row, hro⟩ : ∃ row, x.od[j]? = some row := ⟨_, List.getElem?_eq_getElem hlt⟩
  have htk := take_get hro
  have htl : ((x.od.take j).map (lsF f)).length = j := by rw [List.length_map, List.length_take]; omega
  have htl2 : (x.od.take j).length = j := by rw [List.length_take]; omega
  have hrs := hrow row (List.mem_of_getElem? hro)
  by_cases h0 : (0 : Int) < row.length
  ·obtain ⟨m, hm⟩ : ∃ m, row.length = m + 1 := ⟨row.length - 1, by omega⟩
   obtain ⟨z, hz⟩ : ∃ z, row[m]? = some z := ⟨_, List.getElem?_eq_getElem (by omega)⟩
   obtain ⟨b, d, rfl, hbd, hbu⟩ := hodr row (List.mem_of_getElem? hro) z (List.mem_of_getElem? hz)
   have hls : lsF f row = f b := by rw [lsF, hm, Nat.add_sub_cancel, hz]; simp
   have hmm : m < m + 1 := by omega
   have hmi : (m : Int) < (m : Int) + 1 := by omega
   have h0' : (0 : Int) < (m : Int) + 1 := by omega
   have hbl : b < k := by rw [← hsl]; exact (List.getElem?_eq_some_iff.1 hbd).1
   have hvb := hv b (by omega)
   rw [hva b d hbd hbu] at hvb
   simp (disch := omega) only [push_cast, go_sem, zA, simprocAttr, h3, hod, hl3, hro, intsV_eq, hm, h0']
   refine Sat.drawnE [] [] (List.range 15) (fun _ _ _ => none) (by kernel_rfl) (by kernel_rfl) ?_
   simp (disch := omega) only [push_cast, go_sem, zA, simprocAttr, hod, h3, hl3, hro, intsV_eq, hm, hz, hmm, hmi]
   refine Sat.drawnE [(1, 11)] [] [0, 1, 2, 3, 4, 5, 6, 7, 8, 9, 10, 13] (pureT [(121, .int .i64 (f b))]) (by kernel_rfl) (by kernel_rfl) ?_
   simp (disch := omega) only [push_cast, go_sem, zA, simprocAttr, hnn]
   refine runD_pure rfl hvb rfl rfl ?_ ?_
   ·rfl
   simp (disch := omega) only [push_cast, go_sem, zA, simprocAttr, hγ2', htl]
   intro g76
   refine ⟨by omega, fun γ1 c1 _ => ?_⟩
   refine hJ2 ⟨j + 1, 3, γ1, c1⟩ _ _ ⟨by dsimp only; omega, .inr rfl⟩ (by dsimp only; omega) ?_
   dsimp only
   rw [htk, List.map_append, List.map_append]
   (refine zB ?_; repeat (first | exact zC | exact zD | refine zE (by decide) ?_ | refine zF ?_ ?_ | refine zG ?_ ?_)) <;> (try simp (disch := omega) only [push_cast, go_sem, zA, simprocAttr])
   all_goals simp [hls]
  ·have hls : lsF f row = 0 := by
    have : row = [] := List.eq_nil_of_length_eq_zero (by omega)
    subst this; rfl
   have hvb := hv (-1) (by omega)
   rw [hm1] at hvb
   simp (disch := omega) only [push_cast, go_sem, zA, simprocAttr, h3, hod, hl3, hro, intsV_eq, h0]
   refine Sat.drawnE [(1, 11)] [] [0, 1, 2, 3, 4, 5, 6, 7, 8, 9, 10, 13] (pureT [(121, .int .i64 0)]) (by kernel_rfl) (by kernel_rfl) ?_
   simp (disch := omega) only [push_cast, go_sem, zA, simprocAttr, hnn]
   refine runD_pure rfl hvb rfl rfl ?_ ?_
   ·rfl
   simp (disch := omega) only [push_cast, go_sem, zA, simprocAttr, hγ2', htl]
   intro g76
   refine ⟨by omega, fun γ1 c1 _ => ?_⟩
   refine hJ2 ⟨j + 1, 3, γ1, c1⟩ _ _ ⟨by dsimp only; omega, .inr rfl⟩ (by dsimp only; omega) ?_
   dsimp only
   rw [htk, List.map_append, List.map_append]
   (refine zB ?_; repeat (first | exact zC | exact zD | refine zE (by decide) ?_ | refine zF ?_ ?_ | refine zG ?_ ?_)) <;> (try simp (disch := omega) only [push_cast, go_sem, zA, simprocAttr])
   all_goals simp [hls]
 have : j = 3 := by omega
 subst this
 have htt : x.od.take 3 = x.od := List.take_of_length_le (by omega)
 rw [htt]
 simp (disch := omega) only [push_cast, go_sem, zA, simprocAttr]
 refine Sat.freezeC 7 [] 0 0 (n0 := .own 28 (some g7) 1 [.agg [.own e γ c ((rdK f (scene p).ds k).map (V.int .i64)), .own e2 γ2 c2 ((x.od.map (lsF f)).map (V.int .i64))]]) (d := .own e γ c ((rdK f (scene p).ds k).map (V.int .i64))) ?_ rfl rfl ?_
 ·rfl
 have e1 : (V.own e γ c ((rdK f (scene p).ds k).map (V.int .i64))).fz = .sl ((rdK f (scene p).ds k).map (V.int .i64)) := by simp only [V.fz, fzs_map, fzs_int]
 rw [e1]
 refine Sat.freezeC 7 [] 0 1 (n0 := .own 28 (some g7) 1 [.agg [.sl ((rdK f (scene p).ds k).map (V.int .i64)), .own e2 γ2 c2 ((x.od.map (lsF f)).map (V.int .i64))]]) (d := .own e2 γ2 c2 ((x.od.map (lsF f)).map (V.int .i64))) ?_ rfl rfl ?_
 ·rfl
 have e2 : (V.own e2 γ2 c2 ((x.od.map (lsF f)).map (V.int .i64))).fz = .sl ((x.od.map (lsF f)).map (V.int .i64)) := by simp only [V.fz, fzs_map, fzs_int]
 rw [e2]
 refine Sat.of (S := []) (by kernel_rfl) ?_
 simp (disch := omega) only [push_cast, go_sem, zA, simprocAttr]
end
section
open Go.RowKit
def netL (R : Nat → Nat → Bool) (n : Nat) : List (List Bool) := (List.range n).map fun a => (List.range n).map (R a)
def boolsV (l : List Bool) : V := .sl (l.map V.bool)
theorem boolsV_eq (l : List Bool) : boolsV l = .sl (l.map V.bool) := rfl
def netE (L : List (List Bool)) : V := .eptr [.sl (L.map boolsV)]
theorem netE_eq (L : List (List Bool)) : netE L = .eptr [.sl (L.map boolsV)] := rfl
@[push_cast] theorem fzs_bl (l : List Bool) : (l.map V.bool).map V.fz = l.map V.bool := by rw [List.map_map]; exact List.map_congr_left fun d _ => rfl
@[push_cast] theorem flatL_bl (l : List Bool) : flatL (l.map V.bool) = true := by simp [flatL, V.cells, V.flatC]
@[push_cast] theorem fzs_bls (l : List (List Bool)) : (l.map boolsV).map V.fz = l.map boolsV := by rw [List.map_map]; exact List.map_congr_left fun d _ => rfl
theorem netL_len (R : Nat → Nat → Bool) (n : Nat) : (netL R n).length = n := by simp [netL]
theorem netL_get {R : Nat → Nat → Bool} {n a : Nat} (ha : a < n) : (netL R n)[a]? = some ((List.range n).map (R a)) := by
 rw [netL, List.getElem?_map, List.getElem?_range ha]; rfl
theorem netL_congr {R R' : Nat → Nat → Bool} {n : Nat} (h : ∀ a b, a < n → b < n → R a b = R' a b) : netL R n = netL R' n :=
 List.map_congr_left fun a ha => List.map_congr_left fun b hb => h a b (List.mem_range.1 ha) (List.mem_range.1 hb)
@[push_cast] theorem okY_bl (l : List Bool) : okY Tryz.prog 4 (l.map V.bool) = True := by
 simp only [okY, List.mem_map, eq_iff_iff, iff_true]
 rintro y ⟨d, _, rfl⟩
 exact ⟨by rw [szT_4]; rfl, by simp [V.cells, V.one]⟩
structure RowN where
 e : TypeId
 γ : Option Nat
 c : Nat
 l : List Bool
def RowN.V (x : RowN) : V := .own x.e x.γ x.c (x.l.map V.bool)
theorem RowN.V_eq (x : RowN) : x.V = .own x.e x.γ x.c (x.l.map V.bool) := rfl
theorem fz_rowN (x : RowN) : x.V.fz = boolsV x.l := by simp only [RowN.V, V.fz, fzs_map, fzs_bl, boolsV]
theorem fz_rowsN (xs : List RowN) : (xs.map RowN.V).map V.fz = (xs.map RowN.l).map boolsV := by
 rw [List.map_map, List.map_map]; exact List.map_congr_left fun d _ => fz_rowN d
def netO (g : Nat) (e : TypeId) (γ : Option Nat) (c : Nat) (xs : List RowN) : V := .own 140 (some g) 1 [.agg [.own e γ c (xs.map RowN.V)]]
theorem netO_eq (g : Nat) (e : TypeId) (γ : Option Nat) (c : Nat) (xs : List RowN) : netO g e γ c xs = .own 140 (some g) 1 [.agg [.own e γ c (xs.map RowN.V)]] := rfl
theorem ncopy_fn (L : List (List Bool)) (hn : L.length ≤ 62) (hr : ∀ l ∈ L, l.length ≤ 62) :
  Fc Tryz.prog 104 [netE L] noM (fun r m => ∃ ob, (∃ g e γ c xs, r = .ptr 100 [] 0 0 g 1 ∧ ob = netO g e γ c xs ∧ (γ = none ∨ e = 132) ∧ (∀ x ∈ xs, x.γ = none ∨ x.e = 4) ∧ xs.map RowN.l = L) ∧ m = noM.set 100 ob) := by
 refine Fc.rekeyP (R' := fun r m => ∃ g e γ c xs, r = .ptr 2 [] 0 0 g 1 ∧ m = noM.set 2 (netO g e γ c xs) ∧ (γ = none ∨ e = 132) ∧ (∀ x ∈ xs, x.γ = none ∨ x.e = 4) ∧ xs.map RowN.l = L) ?_ ?_
 rotate_left
 ·rintro r m ⟨g, e, γ, c, xs, rfl, rfl, h1, h2, h3⟩
  exact ⟨2, g, 1, _, rfl, rfl, _, ⟨g, e, γ, c, xs, rfl, rfl, h1, h2, h3⟩, era_set rfl⟩
 refine Fc.start (S := []) Tryz.func104 Tryz.ntmps104 Tryz.results104 rfl (by decide) rfl (by kernel_rfl) ?_
 simp (disch := omega) only [push_cast, go_sem, zA, simprocAttr, netE_eq]
 intro g3
 refine Sat.loop (σ := EvS × List RowN) (fun x => upd (upd (upd noT 0 (.eptr [.sl (L.map boolsV)])) 3 (.ptr 3 [] 0 0 g3 1)) 4 (.int .i64 x.1.k)) (fun x => noM.set 3 (.own 140 (some g3) 1 [.agg [.own x.1.e x.1.γ x.1.c (x.2.map RowN.V)]]))
  (fun x => x.1.k ≤ L.length ∧ (x.1.γ = none ∨ x.1.e = 132) ∧ (∀ y ∈ x.2, y.γ = none ∨ y.e = 4) ∧ x.2.map RowN.l = L.take x.1.k) (fun x => L.length - x.1.k) (⟨0, 0, none, 0⟩, []) (by simp) ?_ ?_
 ·(refine zB ?_; repeat (first | exact zC | exact zD | refine zE (by decide) ?_ | refine zF ?_ ?_ | refine zG ?_ ?_)) <;> (try simp (disch := omega) only [push_cast, go_sem, zA, simprocAttr])
 rintro ⟨⟨k, e, γ, c⟩, xs⟩ ⟨hk, hγ, hxe, hxs⟩ J hJ
 simp only at hk hγ hxe hxs hJ
 refine Sat.of (S := []) (by kernel_rfl) ?_
 rcases Nat.lt_or_ge k L.length with hlt | hge
 ·obtain ⟨row, hrow⟩ : ∃ row, L[k]? = some row := ⟨_, List.getElem?_eq_getElem hlt⟩
  have hrl := hr row (List.mem_of_getElem? hrow)
  have hγ' : (γ = none ∨ e = 132) = True := by simp only [hγ]
  have hxl : xs.length = k := by have := congrArg List.length hxs; rw [List.length_map, List.length_take, Nat.min_eq_left hk] at this; exact this
  simp (disch := omega) only [push_cast, go_sem, zA, simprocAttr, hlt]
  refine Sat.drawnE [(4, 5), (4, 9), (5, 9), (4, 12), (5, 12), (4, 13), (4, 14)] [] [] (fun _ _ _ => none) (by kernel_rfl) (by kernel_rfl) ?_
  simp (disch := omega) only [push_cast, go_sem, zA, simprocAttr, hrow, hlt, boolsV_eq, hγ']
  intro g21
  refine ⟨by omega, fun γ5 c5 _ => ?_⟩
  intro g30
  cases hfl : (V.own 4 γ5 c5 (row.map V.bool)).flatC <;> simp (disch := omega) only [push_cast, go_sem, zA, simprocAttr, hγ', hfl]
  all_goals
   refine ⟨by omega, fun γ6 c6 _ => ?_⟩
   refine hJ (⟨k + 1, 132, γ6, c6⟩, xs ++ [⟨4, γ5, c5, row⟩]) _ _ ⟨by dsimp only; omega, .inr rfl, ?_, ?_⟩ (by dsimp only; omega) ?_
   ·intro y hy
    rcases List.mem_append.1 hy with hy | hy
    ·exact hxe y hy
    ·obtain rfl := List.mem_singleton.1 hy; exact .inr rfl
   ·dsimp only
    rw [List.map_append, hxs, take_get hrow]
    rfl
   ·(refine zB ?_; repeat (first | exact zC | exact zD | refine zE (by decide) ?_ | refine zF ?_ ?_ | refine zG ?_ ?_)) <;> (try simp (disch := omega) only [push_cast, go_sem, zA, simprocAttr])
    all_goals simp [RowN.V]
 ·have : k = L.length := by omega
  subst this
  simp (disch := omega) only [push_cast, go_sem, zA, simprocAttr]
  refine ⟨_, ?_, g3, e, γ, c, xs, rfl, rfl, hγ, hxe, by rw [hxs, List.take_length]⟩
  ((repeat (first | exact Sub.no | refine Sub.set ?_ ?_)) <;> (try simp (disch := omega) only [push_cast, go_sem, zA, simprocAttr]))
  rw [netO_eq]
@[push_cast] theorem modBool (l : List Bool) (k : Nat) (z : Bool) : (l.map V.bool).modify k (fun x => x.setC 0 (V.bool z)) = (l.set k z).map V.bool := by
 apply List.ext_getElem?
 intro i
 rw [List.getElem?_modify, List.getElem?_map, List.getElem?_map, List.getElem?_set]
 by_cases h : k = i
 ·subst h
  cases hl : l[k]? with
  | none => have := List.getElem?_eq_none_iff.1 hl; simp; omega
  | some a => have := (List.getElem?_eq_some_iff.1 hl).1; simp [this, V.setC]
 ·simp [h]
@[push_cast] theorem modRow (xs : List RowN) (a : Nat) (e : TypeId) (γ : Option Nat) (c : Nat) (l : List Bool) :
  (xs.map RowN.V).modify a (fun x => x.setC 0 (V.own e γ c (l.map V.bool))) = (xs.set a ⟨e, γ, c, l⟩).map RowN.V := by
 apply List.ext_getElem?
 intro i
 rw [List.getElem?_modify, List.getElem?_map, List.getElem?_map, List.getElem?_set]
 by_cases h : a = i
 ·subst h
  cases hl : xs[a]? with
  | none => have := List.getElem?_eq_none_iff.1 hl; simp; omega
  | some y => have := (List.getElem?_eq_some_iff.1 hl).1; simp [this, V.setC, RowN.V]
 ·simp [h]
theorem netL_wi {R : Nat → Nat → Bool} {n a b : Nat} (ha : a < n) (hb : b < n) : (netL R n).modify a (fun l => l.set b true) = netL (wiR R a b) n := by
 apply List.ext_getElem?
 intro i
 rw [List.getElem?_modify]
 by_cases hi : i < n
 ·rw [netL_get hi, netL_get hi]
  by_cases h : a = i
  ·subst h
   simp only [if_true, Option.map_eq_map, Option.map_some, Option.some.injEq]
   apply List.ext_getElem?
   intro j
   rw [List.getElem?_set, List.getElem?_map, List.getElem?_map, List.length_map, List.length_range]
   by_cases hj : j < n
   ·rw [List.getElem?_range hj]
    by_cases h2 : b = j
    ·subst h2; simp [hj, wiR]
    ·have h3 : (j == b) = false := by simp; omega
     simp [h2, wiR, h3]
   ·have : (List.range n)[j]? = none := by simp; omega
    rw [this]
    by_cases h2 : b = j
    ·subst h2; simp [hj]
    ·simp [h2]
  ·have h' : (i == a) = false := by simp; omega
   simp [h, wiR, h']
 ·have e1 : (netL R n)[i]? = none := by rw [List.getElem?_eq_none_iff, netL_len]; omega
  have e2 : (netL (wiR R a b) n)[i]? = none := by rw [List.getElem?_eq_none_iff, netL_len]; omega
  rw [e1, e2]; split <;> rfl
theorem nwith_fn (R : Nat → Nat → Bool) (n a b : Nat) (hn : n ≤ 62) (ha : a < n) (hb : b < n) : Fp Tryz.prog 107 [netE (netL R n), .int .i64 a, .int .i64 b] (netE (netL (wiR R a b) n)) := by
 have hNl := netL_len R n
 have hcp := ncopy_fn (netL R n) (by rw [hNl]; exact hn) (fun l hl => by
  simp only [netL, List.mem_map] at hl
  obtain ⟨i, _, rfl⟩ := hl
  simp; exact hn)
 rw [netE_eq] at hcp
 refine Fc.start (S := [2, 3]) Tryz.func107 Tryz.ntmps107 Tryz.results107 rfl (by decide) rfl (by kernel_rfl) ?_
 simp (disch := omega) only [push_cast, go_sem, zA, simprocAttr, netE_eq]
 refine callR.new hcp rfl rfl ?_
 rintro r ob ⟨g, e, γ, c, xs, rfl, rfl, h1, h2, h3⟩
 simp (disch := omega) only [push_cast, go_sem, zA, simprocAttr, netO_eq]
 have hxl : xs.length = n := by have := congrArg List.length h3; rw [List.length_map, hNl] at this; exact this
 refine Sat.someP (o := 7) (q := [(0, 0)]) (e := e) (γ := γ) (cap := c) (es := xs.map RowN.V) rfl ?_ ?_
 ·intro h0
  have := congrArg List.length h0
  rw [List.length_map, hxl] at this; simp at this; omega
 rintro g1 rfl
 obtain rfl : e = 132 := h1.resolve_left nofun
 obtain ⟨⟨e1, γ1, c1, l1⟩, hrow⟩ : ∃ row, xs[a]? = some row := ⟨_, List.getElem?_eq_getElem (by omega)⟩
 have hl1 : l1 = (List.range n).map (R a) := by
  have := netL_get (R := R) ha
  rw [← h3, List.getElem?_map, hrow] at this
  simpa using this
 have hll : l1.length = n := by rw [hl1]; simp
 refine Sat.someP (o := 7) (q := [(0, 0), (a, 0)]) (e := e1) (γ := γ1) (cap := c1) (es := l1.map V.bool) ?_ ?_ ?_
 ·simp [Mem.getP, Mem.set, V.getP, V.cellAt, hrow, RowN.V, V.cells]
 ·intro h0
  have := congrArg List.length h0
  rw [List.length_map, hll] at this; simp at this; omega
 rintro g2 rfl
 obtain rfl : e1 = 4 := (h2 _ (List.mem_of_getElem? hrow)).resolve_left nofun
 obtain ⟨z, hz⟩ : ∃ z, l1[b]? = some z := ⟨_, List.getElem?_eq_getElem (by omega)⟩
 refine Sat.of (S := [3]) (by kernel_rfl) ?_
 simp (disch := omega) only [push_cast, go_sem, zA, simprocAttr, hrow, hxl, ha, RowN.V_eq, hll, hb, hz]
 have hfin : (xs.set a ⟨4, some g2, c1, l1.set b true⟩).map RowN.l = netL (wiR R a b) n := by
  rw [← netL_wi ha hb, ← h3]
  apply List.ext_getElem?
  intro i
  rw [List.getElem?_modify, List.getElem?_map, List.getElem?_map, List.getElem?_set]
  by_cases h : a = i
  ·subst h
   obtain ⟨k1, k2⟩ := List.getElem?_eq_some_iff.1 hrow
   simp [k1, k2]
  ·simp [h]
 refine Sat.fixP (o := 7) (g := g) (e := 140) (cap := 1) (es := [.agg [.own 132 (some g1) c ((xs.set a ⟨4, some g2, c1, l1.set b true⟩).map RowN.V)]]) (T := upd noT 7 (netE (netL (wiR R a b) n))) rfl ?_ ?_
 ·refine Fx.ptr Fx.nil rfl rfl (by kernel_rfl) ?_
  simp only [V.cells, List.drop_zero, List.map_cons, List.map_nil, V.fz, fzs_map, fz_rowsN, hfin]
 refine Sat.of (S := []) (by kernel_rfl) ?_
 simp (disch := omega) only [push_cast, go_sem, zA, simprocAttr, netE_eq]
end
section
open Go.RowKit
def goneL (L : Nat → Bool) (n : Nat) : List Bool := (List.range n).map fun b => !L b
theorem goneL_len (L : Nat → Bool) (n : Nat) : (goneL L n).length = n := by simp [goneL]
theorem goneL_get {L : Nat → Bool} {n a : Nat} (ha : a < n) : (goneL L n)[a]? = some (!L a) := by
 rw [goneL, List.getElem?_map, List.getElem?_range ha]; rfl
theorem goneL_zero (n : Nat) : goneL (fun x => decide (x < n)) n = List.replicate n false := by
 rw [goneL, List.eq_replicate_iff]
 refine ⟨by simp, fun b hb => ?_⟩
 simp only [List.mem_map, List.mem_range] at hb
 obtain ⟨i, hi, rfl⟩ := hb
 simp [hi]
theorem goneL_set {L : Nat → Bool} {n z : Nat} (hz : z < n) : (goneL L n).set z true = goneL (fun x => L x && !(x == z)) n := by
 apply List.ext_getElem?
 intro i
 rw [List.getElem?_set, goneL_len]
 by_cases hi : i < n
 ·rw [goneL_get hi, goneL_get hi]
  by_cases h : z = i
  ·subst h; simp [hi]
  ·have h2 : (i == z) = false := by simp; omega
   simp [h, h2]
 ·have e1 : (goneL L n)[i]? = none := by rw [List.getElem?_eq_none_iff, goneL_len]; omega
  have e2 : (goneL (fun x => L x && !(x == z)) n)[i]? = none := by rw [List.getElem?_eq_none_iff, goneL_len]; omega
  rw [e1, e2]
  by_cases h : z = i
  ·subst h; simp [hi]
  ·simp [h]
def frB (R : Nat → Nat → Bool) (L : Nat → Bool) (b a : Nat) : Bool := L b && (List.range a).all fun x => !L x || !R x b
theorem frB_succ (R : Nat → Nat → Bool) (L : Nat → Bool) (b a : Nat) : frB R L b (a + 1) = (frB R L b a && (!L a || !R a b)) := by
 simp [frB, List.range_succ, Bool.and_assoc]
theorem frB_no {R : Nat → Nat → Bool} {L : Nat → Bool} {n b : Nat} : ∀ {a : Nat}, frB R L b a = false → a ≤ n → freeE R n L b = false := by
 intro a h hle
 cases hf : freeE R n L b
 ·rfl
 ·rw [free_iff] at hf
  have : frB R L b a = true := by
   simp only [frB, Bool.and_eq_true, List.all_eq_true, List.mem_range, Bool.or_eq_true, Bool.not_eq_true']
   refine ⟨hf.1, fun x hx => ?_⟩
   cases hl : L x
   ·exact .inl rfl
   ·exact .inr (hf.2 x (by omega) hl)
  rw [this] at h; cases h
def optZ : Option Nat → Int
 | some z => z
 | none => -1
theorem holds_fn (R : Nat → Nat → Bool) (n : Nat) (hn : n ≤ 62) : Fp Tryz.prog 63 [netE (netL R n)] (.bool (lineE R n).isSome) := by
 have hNl := netL_len R n
 refine Fc.start (S := []) Tryz.func63 Tryz.ntmps63 Tryz.results63 rfl (by decide) rfl (by kernel_rfl) ?_
 simp (disch := omega) only [push_cast, go_sem, zA, simprocAttr, netE_eq, hNl]
 refine ⟨by omega, fun gr => ?_⟩
 refine Sat.loop (σ := Nat × (Nat → Bool)) (fun x => upd (upd (upd noT 0 (.eptr [.sl ((netL R n).map boolsV)])) 3 (.msl 3 [] (some gr) n n)) 4 (.int .i64 x.1)) (fun x => noM.set 3 (.own 4 (some gr) n ((goneL x.2 n).map V.bool)))
  (fun x => cntE n x.2 = x.1 ∧ x.1 ≤ n ∧ (lineE R n).isSome = (elimE R n x.1 x.2).isSome) (fun x => x.1) (n, fun x => decide (x < n)) ⟨cnt_all, Nat.le_refl _, rfl⟩ ?_ ?_
 ·(refine zB ?_; repeat (first | exact zC | exact zD | refine zE (by decide) ?_ | refine zF ?_ ?_ | refine zG ?_ ?_)) <;> (try simp (disch := omega) only [push_cast, go_sem, zA, simprocAttr])
  all_goals rw [goneL_zero]; simp
 rintro ⟨k, L⟩ ⟨hc, hk, hline⟩ J hJ
 simp only at hc hk hline hJ
 refine Sat.of (S := []) (by kernel_rfl) ?_
 cases k with
 | zero =>
  simp (disch := omega) only [push_cast, go_sem, zA, simprocAttr]
  rw [hline, elimE]; rfl
 | succ k =>
  rw [elimE] at hline
  have hg := goneL_len L n
  have hk0 : (0 : Int) < (k : Int) + 1 := by omega
  simp (disch := omega) only [push_cast, go_sem, zA, simprocAttr, hk0]
  refine Sat.loop (σ := Nat × Option Nat) (fun x => upd (upd (upd (upd (upd noT 0 (.eptr [.sl ((netL R n).map boolsV)])) 3 (.msl 3 [] (some gr) n n)) 4 (.int .i64 (k + 1 : Nat))) 5 (.int .i64 (optZ x.2))) 6 (.int .i64 x.1)) (fun x => noM.set 3 (.own 4 (some gr) n ((goneL L n).map V.bool)))
   (fun x => x.1 ≤ n ∧ (x.2 = none → ∀ j, j < x.1 → freeE R n L j = false) ∧ ∀ z, x.2 = some z → z < n ∧ pickE R n L = some z) (fun x => n - x.1) (0, none) ⟨by omega, fun _ j hj => absurd hj (Nat.not_lt_zero j), fun z hz => by cases hz⟩ ?_ ?_
  ·(refine zB ?_; repeat (first | exact zC | exact zD | refine zE (by decide) ?_ | refine zF ?_ ?_ | refine zG ?_ ?_)) <;> (try simp (disch := omega) only [push_cast, go_sem, zA, simprocAttr])
   all_goals rfl
  rintro ⟨b, o⟩ ⟨hb, hno, hso⟩ J2 hJ2
  simp only at hb hno hso hJ2
  refine Sat.of (S := []) (by kernel_rfl) ?_
  cases o with
  | some z =>
   obtain ⟨hz, hpk⟩ := hso z rfl
   rw [hpk] at hline
   have hz0 : ¬ ((z : Int) < 0) := by omega
   have hset := goneL_set (L := L) hz
   have hcr := cnt_rem (L := L) (free_iff.1 (pick_some hpk).2).1 hz
   have hgz := goneL_get (L := L) hz
   have e1 : optZ (some z) = (z : Int) := rfl
   by_cases hbn : b < n
   all_goals
    simp (disch := omega) only [push_cast, go_sem, zA, simprocAttr, e1, hz0, hbn, hNl, hg, hz, hgz]
    refine hJ (k, fun x => L x && !(x == z)) _ _ ⟨by dsimp only; omega, by dsimp only; omega, ?_⟩ (by dsimp only; omega) ?_
    ·dsimp only
     rw [hline]
     show (Option.map (z :: ·) (elimE R n k fun x => L x && !(x == z))).isSome = _
     rw [Option.isSome_map]
    ·dsimp only
     rw [← hset]
     (refine zB ?_; repeat (first | exact zC | exact zD | refine zE (by decide) ?_ | refine zF ?_ ?_ | refine zG ?_ ?_)) <;> (try simp (disch := omega) only [push_cast, go_sem, zA, simprocAttr])
  | none =>
   have hno' := hno rfl
   have e1 : optZ none = -1 := rfl
   rcases Nat.lt_or_ge b n with hbn | hbn
   ·have hgb := goneL_get (L := L) hbn
    simp (disch := omega) only [push_cast, go_sem, zA, simprocAttr, e1, hbn, hNl, hg, hgb]
    refine Sat.loop (σ := Nat × Bool) (fun x => upd (upd (upd (upd (upd (upd (upd noT 0 (.eptr [.sl ((netL R n).map boolsV)])) 3 (.msl 3 [] (some gr) n n)) 4 (.int .i64 (k + 1 : Nat))) 5 (.int .i64 (-1))) 6 (.int .i64 b)) 7 (.bool x.2)) 8 (.int .i64 x.1)) (fun x => noM.set 3 (.own 4 (some gr) n ((goneL L n).map V.bool)))
     (fun x => x.1 ≤ n ∧ x.2 = frB R L b x.1) (fun x => n - x.1) (0, L b) ⟨by dsimp only; omega, by simp [frB]⟩ ?_ ?_
    ·(refine zB ?_; repeat (first | exact zC | exact zD | refine zE (by decide) ?_ | refine zF ?_ ?_ | refine zG ?_ ?_)) <;> (try simp (disch := omega) only [push_cast, go_sem, zA, simprocAttr])
     all_goals first | rfl | simp
    rintro ⟨a, fr⟩ ⟨ha, hfr⟩ J3 hJ3
    simp only at ha hfr hJ3
    refine Sat.of (S := []) (by kernel_rfl) ?_
    cases fr with
    | false =>
     have hff := frB_no (n := n) hfr.symm ha
     by_cases han : a < n
     all_goals
      simp (disch := omega) only [push_cast, go_sem, zA, simprocAttr, han, hNl]
      refine hJ2 (b + 1, none) _ _ ⟨by dsimp only; omega, fun _ j hj => ?_, fun z hz => by cases hz⟩ (by dsimp only; omega) ?_
      ·rcases Nat.lt_or_ge j b with h | h
       ·exact hno' j h
       ·have : j = b := by dsimp only at hj; omega
        rw [this]; exact hff
      ·(refine zB ?_; repeat (first | exact zC | exact zD | refine zE (by decide) ?_ | refine zF ?_ ?_ | refine zG ?_ ?_)) <;> (try simp (disch := omega) only [push_cast, go_sem, zA, simprocAttr])
       all_goals rfl
    | true =>
     rcases Nat.lt_or_ge a n with han | han
     ·have hga := goneL_get (L := L) han
      have hna := netL_get (R := R) han
      have hnb : (List.range n)[b]? = some b := List.getElem?_range hbn
      cases hL : L a
      ·rw [hL] at hga
       simp (disch := omega) only [push_cast, go_sem, zA, simprocAttr, han, hNl, hg, hga]
       refine hJ3 (a + 1, true) _ _ ⟨by dsimp only; omega, by dsimp only; rw [frB_succ, ← hfr, hL]; rfl⟩ (by dsimp only; omega) ?_
       (refine zB ?_; repeat (first | exact zC | exact zD | refine zE (by decide) ?_ | refine zF ?_ ?_ | refine zG ?_ ?_)) <;> (try simp (disch := omega) only [push_cast, go_sem, zA, simprocAttr])
      ·rw [hL] at hga
       simp (disch := omega) only [push_cast, go_sem, zA, simprocAttr, han, hNl, hg, hga, hna, boolsV_eq, hnb, hbn, List.length_range]
       refine hJ3 (a + 1, !R a b) _ _ ⟨by dsimp only; omega, by dsimp only; rw [frB_succ, ← hfr, hL]; simp⟩ (by dsimp only; omega) ?_
       (refine zB ?_; repeat (first | exact zC | exact zD | refine zE (by decide) ?_ | refine zF ?_ ?_ | refine zG ?_ ?_)) <;> (try simp (disch := omega) only [push_cast, go_sem, zA, simprocAttr])
     ·have : a = n := by omega
      subst this
      have hfe : freeE R a L b = true := hfr.symm
      simp (disch := omega) only [push_cast, go_sem, zA, simprocAttr, hNl]
      refine hJ2 (b + 1, some b) _ _ ⟨by dsimp only; omega, nofun, fun z hz => ?_⟩ (by dsimp only; omega) ?_
      ·cases hz
       exact ⟨hbn, find_some hbn hfe hno'⟩
      ·(refine zB ?_; repeat (first | exact zC | exact zD | refine zE (by decide) ?_ | refine zF ?_ ?_ | refine zG ?_ ?_)) <;> (try simp (disch := omega) only [push_cast, go_sem, zA, simprocAttr])
       all_goals rfl
   ·have : b = n := by omega
    subst this
    have hpk : pickE R b L = none := find_none hno'
    rw [hpk] at hline
    simp (disch := omega) only [push_cast, go_sem, zA, simprocAttr, e1, hNl]
    rw [hline]; rfl
end
section
open Go.RowKit
section
variable (p : Prog) (x : Exe) (g : Nat) (c2 c3 c4 c5 : V) (a b : Nat)
theorem oloose_fn (hn : (events p).length ≤ 42) (ha : a < (events p).length) (hb : b < (events p).length) : Fo Tryz.prog 140 [.int .i64 a, .int .i64 b] g 6 (ordV p g c2 c3 c4 c5) (.bool (looseS p a b)) := by
 have h1 := odo_fn p g c2 c3 c4 c5 a ha
 have h2 := odo_fn p g c2 c3 c4 c5 b hb
 have h3 := oown_fn p g c2 c3 c4 c5 a b ha hb
 have h4 := oinside_fn p g c2 c3 c4 c5 a b hn ha hb
 have h5 := l12Source_fn p b hn hb
 have w1 := owall_fn (dsA p a)
 have w2 := owall_fn (dsA p b)
 rw [ordV_eq] at h1 h2 h3 h4
 rw [progV_eq] at h5
 rw [Do.V_eq] at w1 w2
 refine Fc.start (S := []) Tryz.func140 Tryz.ntmps140 Tryz.results140 rfl (by decide) rfl (by kernel_rfl) ?_
 simp (disch := omega) only [push_cast, go_sem, zA, simprocAttr, ordV_eq]
 refine callR.look h3 rfl rfl rfl ?_
 cases ho : ownB (events p) a b
 ·simp (disch := omega) only [push_cast, go_sem, zA, simprocAttr]
  refine ⟨_, Sub.rfl, ?_, rfl⟩
  simp [looseS, ho]
 simp (disch := omega) only [push_cast, go_sem, zA, simprocAttr]
 refine callR.look h1 rfl rfl rfl ?_
 simp (disch := omega) only [push_cast, go_sem, zA, simprocAttr, Do.V_eq]
 intro g7
 refine callR.look h2 rfl rfl rfl ?_
 simp (disch := omega) only [push_cast, go_sem, zA, simprocAttr, Do.V_eq]
 intro g8
 refine callR.pure w1 rfl rfl ?_
 have hl : looseS p a b = (wallB (dsA p a) || wallB (dsA p b) || (dsA p a).k == 5 || (dsA p b).k == 6 || insS p a b || ((dsA p b).k == 3 && srcOf (events p) (scene p).ds b b == (a : Int))) := by rw [looseS, ho, Bool.true_and]
 rw [hl]
 cases hw1 : wallB (dsA p a)
 rotate_left
 ·simp (disch := omega) only [push_cast, go_sem, zA, simprocAttr]
  refine ⟨_, ?_, rfl⟩
  ((repeat (first | exact Sub.no | refine Sub.set ?_ ?_)) <;> (try simp (disch := omega) only [push_cast, go_sem, zA, simprocAttr]))
 simp (disch := omega) only [push_cast, go_sem, zA, simprocAttr]
 refine callR.pure w2 rfl rfl ?_
 cases hw2 : wallB (dsA p b)
 rotate_left
 ·simp (disch := omega) only [push_cast, go_sem, zA, simprocAttr]
  refine ⟨_, ?_, rfl⟩
  ((repeat (first | exact Sub.no | refine Sub.set ?_ ?_)) <;> (try simp (disch := omega) only [push_cast, go_sem, zA, simprocAttr]))
 cases h5a : ((dsA p a).k == 5)
 rotate_left
 ·simp (disch := omega) only [push_cast, go_sem, zA, simprocAttr, h5a]
  refine ⟨_, ?_, rfl⟩
  ((repeat (first | exact Sub.no | refine Sub.set ?_ ?_)) <;> (try simp (disch := omega) only [push_cast, go_sem, zA, simprocAttr]))
 cases h6 : ((dsA p b).k == 6)
 rotate_left
 ·simp (disch := omega) only [push_cast, go_sem, zA, simprocAttr, h5a, h6]
  refine ⟨_, ?_, rfl⟩
  ((repeat (first | exact Sub.no | refine Sub.set ?_ ?_)) <;> (try simp (disch := omega) only [push_cast, go_sem, zA, simprocAttr]))
 simp (disch := omega) only [push_cast, go_sem, zA, simprocAttr, h5a, h6]
 refine callR.look h4 rfl rfl rfl ?_
 cases hin : insS p a b
 rotate_left
 ·simp (disch := omega) only [push_cast, go_sem, zA, simprocAttr]
  refine ⟨_, ?_, rfl⟩
  ((repeat (first | exact Sub.no | refine Sub.set ?_ ?_)) <;> (try simp (disch := omega) only [push_cast, go_sem, zA, simprocAttr]))
 simp (disch := omega) only [push_cast, go_sem, zA, simprocAttr]
 refine Sat.drawnE [] [] (List.range 18) (pureT [(150, .int .i64 (srcOf (events p) (scene p).ds b b))]) (by kernel_rfl) (by kernel_rfl) ?_
 cases h3 : ((dsA p b).k == 3)
 ·simp (disch := omega) only [push_cast, go_sem, zA, simprocAttr, h3]
  refine ⟨_, ?_, rfl⟩
  ((repeat (first | exact Sub.no | refine Sub.set ?_ ?_)) <;> (try simp (disch := omega) only [push_cast, go_sem, zA, simprocAttr]))
 ·simp (disch := omega) only [push_cast, go_sem, zA, simprocAttr, h3]
  refine runD_pure rfl h5 rfl rfl ?_ ?_
  ·rfl
  simp (disch := omega) only [push_cast, go_sem, zA, simprocAttr]
  refine ⟨_, ?_, rfl⟩
  ((repeat (first | exact Sub.no | refine Sub.set ?_ ?_)) <;> (try simp (disch := omega) only [push_cast, go_sem, zA, simprocAttr]))
theorem ostays_fn (hn : (events p).length ≤ 42) (kind : Int) (ha : a < (events p).length) (hb : b < (events p).length) : Fo Tryz.prog 106 [.int .i64 kind, .int .i64 a, .int .i64 b] g 6 (ordV p g (rdsV p) (wrtV p) c4 c5) (.bool (staysS p kind a b)) := by
 obtain ⟨ea, hea⟩ : ∃ e, (events p)[a]? = some e := ⟨_, List.getElem?_eq_getElem ha⟩
 obtain ⟨eb, heb⟩ : ∃ e, (events p)[b]? = some e := ⟨_, List.getElem?_eq_getElem hb⟩
 have hsl : (scene p).ds.length = (events p).length := by simp [scene]
 have hda : (scene p).ds[a]? = some (dsA p a) := by rw [dsA, scene_get hea]; rfl
 have hdb : (scene p).ds[b]? = some (dsA p b) := by rw [dsA, scene_get heb]; rfl
 have h1 := oown_fn p g (rdsV p) (wrtV p) c4 c5 a b ha hb
 have h2 := oloose_fn p g (rdsV p) (wrtV p) c4 c5 a b hn ha hb
 have h3 := osame_fn p g c4 c5 a b ha hb
 rw [ordV_eq, rdsV_eq, wrtV_eq] at h1 h2 h3
 unfold staysS
 refine Fc.start (S := []) Tryz.func106 Tryz.ntmps106 Tryz.results106 rfl (by decide) rfl (by kernel_rfl) ?_
 cases k1 : (kind == 1)
 rotate_left
 ·simp (disch := omega) only [push_cast, go_sem, zA, simprocAttr, ordV_eq, rdsV_eq, wrtV_eq, k1]
  refine callR.look h1 rfl rfl rfl ?_
  simp (disch := omega) only [push_cast, go_sem, zA, simprocAttr]
  first | exact ⟨_, Sub.rfl, rfl, rfl⟩ | exact ⟨_, Sub.rfl, rfl⟩
 cases k2 : (kind == 2)
 rotate_left
 ·simp (disch := omega) only [push_cast, go_sem, zA, simprocAttr, ordV_eq, rdsV_eq, wrtV_eq, k1, k2]
  refine callR.look h1 rfl rfl rfl ?_
  cases ho : ownB (events p) a b
  ·simp (disch := omega) only [push_cast, go_sem, zA, simprocAttr]
   first | exact ⟨_, Sub.rfl, rfl, rfl⟩ | exact ⟨_, Sub.rfl, rfl⟩
  cases hw : (dsA p a).writes <;> cases hr : (dsA p b).reads
  all_goals
   simp (disch := omega) only [push_cast, go_sem, zA, simprocAttr, hda, hdb, hsl, ha, hb, hw, hr]
   first | exact ⟨_, Sub.rfl, rfl, rfl⟩ | exact ⟨_, Sub.rfl, rfl⟩
 cases k3 : (kind == 3)
 rotate_left
 ·simp (disch := omega) only [push_cast, go_sem, zA, simprocAttr, ordV_eq, rdsV_eq, wrtV_eq, k1, k2, k3]
  refine callR.look h2 rfl rfl rfl ?_
  simp (disch := omega) only [push_cast, go_sem, zA, simprocAttr]
  first | exact ⟨_, Sub.rfl, rfl, rfl⟩ | exact ⟨_, Sub.rfl, rfl⟩
 simp (disch := omega) only [push_cast, go_sem, zA, simprocAttr, ordV_eq, rdsV_eq, wrtV_eq, k1, k2, k3]
 refine callR.look h1 rfl rfl rfl ?_
 cases ho : ownB (events p) a b
 ·simp (disch := omega) only [push_cast, go_sem, zA, simprocAttr]
  first | exact ⟨_, Sub.rfl, rfl, rfl⟩ | exact ⟨_, Sub.rfl, rfl⟩
 simp (disch := omega) only [push_cast, go_sem, zA, simprocAttr]
 refine callR.look h3 rfl rfl rfl ?_
 simp (disch := omega) only [push_cast, go_sem, zA, simprocAttr]
 first | exact ⟨_, Sub.rfl, rfl, rfl⟩ | exact ⟨_, Sub.rfl, rfl⟩
end
end
section
open Go.RowKit
section
variable (p : Prog) (x : Exe) (g : Nat) (a b : Nat)
theorem otold_fn (hx : x.fr.length = (events p).length) (hc : ∀ (i : Nat), i < (events p).length → 0 ≤ (dsA p i).p) (kind : Int) (ha : a < (events p).length) (hb : b < (events p).length) :
  Fo Tryz.prog 105 [.int .i64 kind, .int .i64 a, .int .i64 b] g 6 (ordV p g (rdsV p) (wrtV p) (.sl (x.fr.map (V.int .i64))) (.sl (((List.range (events p).length).map (rankS p x)).map (V.int .i64)))) (.bool (toldS p x kind a b)) := by
 obtain ⟨ea, hea⟩ : ∃ e, (events p)[a]? = some e := ⟨_, List.getElem?_eq_getElem ha⟩
 obtain ⟨eb, heb⟩ : ∃ e, (events p)[b]? = some e := ⟨_, List.getElem?_eq_getElem hb⟩
 have h1 := oread_fn p x g (.sl (((List.range (events p).length).map (rankS p x)).map (V.int .i64))) a b hx ha hb
 have h2 := oover_fn p x g (.sl (x.fr.map (V.int .i64))) a b hc ha hb
 rw [ordV_eq, rdsV_eq, wrtV_eq] at h1 h2
 obtain ⟨ap, hap⟩ : ∃ v, (ea.t != eb.t) = v := ⟨_, rfl⟩
 have e3 : apartS p a b = ap := by rw [apartS, th, th, hea, heb]; exact hap
 unfold toldS
 rw [e3]
 generalize ((List.range (events p).length).map (rankS p x)).map (V.int .i64) = rk at h1 h2 ⊢
 refine Fc.start (S := []) Tryz.func105 Tryz.ntmps105 Tryz.results105 rfl (by decide) rfl (by kernel_rfl) ?_
 simp (disch := omega) only [push_cast, go_sem, zA, simprocAttr, ordV_eq, rdsV_eq, wrtV_eq]
 refine Sat.drawnE [] [] (List.range 18) (fun _ _ _ => none) (by kernel_rfl) (by kernel_rfl) ?_
 simp (disch := omega) only [push_cast, go_sem, zA, simprocAttr, hea, heb, ha, hb, Evt.V_eq, hap]
 cases hrd : readS p x a b <;> cases hov : overS p x a b <;> rw [hrd] at h1 <;> rw [hov] at h2
 all_goals
  cases k1 : (kind == 2)
  ·cases k2 : (kind == 3)
   ·simp (disch := omega) only [push_cast, go_sem, zA, simprocAttr, k1, k2]
    refine callR.look h1 rfl rfl rfl ?_
    simp (disch := omega) only [push_cast, go_sem, zA, simprocAttr]
    try (refine callR.look h2 rfl rfl rfl ?_; simp (disch := omega) only [push_cast, go_sem, zA, simprocAttr])
    first | exact ⟨_, Sub.rfl, rfl, rfl⟩ | exact ⟨_, Sub.rfl, rfl⟩
   ·cases ap
    ·simp (disch := omega) only [push_cast, go_sem, zA, simprocAttr, k1, k2]
     first | exact ⟨_, Sub.rfl, rfl, rfl⟩ | exact ⟨_, Sub.rfl, rfl⟩
    ·simp (disch := omega) only [push_cast, go_sem, zA, simprocAttr, k1, k2]
     refine callR.look h1 rfl rfl rfl ?_
     simp (disch := omega) only [push_cast, go_sem, zA, simprocAttr]
     try (refine callR.look h2 rfl rfl rfl ?_; simp (disch := omega) only [push_cast, go_sem, zA, simprocAttr])
     first | exact ⟨_, Sub.rfl, rfl, rfl⟩ | exact ⟨_, Sub.rfl, rfl⟩
  ·cases ap
   ·simp (disch := omega) only [push_cast, go_sem, zA, simprocAttr, k1]
    refine callR.look h2 rfl rfl rfl ?_
    simp (disch := omega) only [push_cast, go_sem, zA, simprocAttr]
    first | exact ⟨_, Sub.rfl, rfl, rfl⟩ | exact ⟨_, Sub.rfl, rfl⟩
   ·simp (disch := omega) only [push_cast, go_sem, zA, simprocAttr, k1]
    refine callR.look h1 rfl rfl rfl ?_
    simp (disch := omega) only [push_cast, go_sem, zA, simprocAttr]
    try (refine callR.look h2 rfl rfl rfl ?_; simp (disch := omega) only [push_cast, go_sem, zA, simprocAttr])
    first | exact ⟨_, Sub.rfl, rfl, rfl⟩ | exact ⟨_, Sub.rfl, rfl⟩
end
theorem rank_fn (zs : List Int) (z : Int) (hl : zs.length < 2 ^ 40) : Fp Tryz.prog 103 [.sl (zs.map (V.int .i64)), .int .i64 z] (.int .i64 (Lib.idxOf zs z)) := by
 refine Fc.start (S := [6]) Tryz.func103 Tryz.ntmps103 Tryz.results103 rfl (by decide) rfl (by kernel_rfl) ?_
 simp (disch := omega) only [push_cast, go_sem, zA, simprocAttr]
 refine Sat.loop (σ := Nat) (fun k => upd (upd (upd noT 0 (.sl (zs.map (V.int .i64)))) 1 (.int .i64 z)) 5 (.int .i64 k)) (fun _ => noM)
  (fun k => k ≤ zs.length ∧ Lib.idxOf zs z = Lib.idxFrom (zs.drop k) z k) (fun k => zs.length - k) 0 ⟨by omega, rfl⟩ ?_ ?_
 ·(refine zB ?_; repeat (first | exact zC | exact zD | refine zE (by decide) ?_ | refine zF ?_ ?_ | refine zG ?_ ?_)) <;> (try simp (disch := omega) only [push_cast, go_sem, zA, simprocAttr])
 rintro k ⟨hk, hc⟩ J hJ
 refine Sat.of (S := []) (by kernel_rfl) ?_
 rcases Nat.lt_or_ge k zs.length with hlt | hge
 ·obtain ⟨y, hy⟩ : ∃ z, zs[k]? = some z := ⟨_, List.getElem?_eq_getElem hlt⟩
  rw [drop_get hy, Lib.idxFrom] at hc
  cases hyz : (y == z)
  ·have hyz' : ¬ y = z := by simpa using hyz
   rw [if_neg hyz'] at hc
   simp (disch := omega) only [push_cast, go_sem, zA, simprocAttr, hy, hlt, hyz]
   refine hJ (k + 1) _ _ ⟨by omega, hc⟩ (by omega) ?_
   (refine zB ?_; repeat (first | exact zC | exact zD | refine zE (by decide) ?_ | refine zF ?_ ?_ | refine zG ?_ ?_)) <;> (try simp (disch := omega) only [push_cast, go_sem, zA, simprocAttr])
  ·have hyz' : y = z := by simpa using hyz
   rw [if_pos hyz'] at hc
   simp (disch := omega) only [push_cast, go_sem, zA, simprocAttr, hy, hlt, hyz]
   exact hc.symm
 ·have : k = zs.length := by omega
  subst this
  rw [List.drop_length, Lib.idxFrom] at hc
  simp (disch := omega) only [push_cast, go_sem, zA, simprocAttr]
  refine Sat.of (S := []) (by kernel_rfl) ?_
  simp (disch := omega) only [push_cast, go_sem, zA, simprocAttr]
  exact hc.symm
end
section
open Go.RowKit
structure Exe.few (x : Exe) : Prop where
 fr : x.fr.length ≤ 43
 od : x.od.length = 3
 row : ∀ r ∈ x.od, r.length ≤ 43
theorem modInts (l : List Int) (k : Nat) (z : Int) : (l.map (V.int .i64)).modify k (fun x => x.setC 0 (V.int .i64 z)) = (l.set k z).map (V.int .i64) := by
 apply List.ext_getElem?
 intro i
 rw [List.getElem?_modify, List.getElem?_map, List.getElem?_map, List.getElem?_set]
 by_cases h : k = i
 ·subst h
  cases hl : l[k]? with
  | none => have := List.getElem?_eq_none_iff.1 hl; simp; omega
  | some a => have := (List.getElem?_eq_some_iff.1 hl).1; simp [this, V.setC]
 ·simp [h]
end
section
open Go.RowKit
@[push_cast] theorem fzs_bool {α : Type} (f : α → Bool) (l : List α) : (l.map fun d => V.bool (f d)).map V.fz = l.map fun d => V.bool (f d) := by rw [List.map_map]; exact List.map_congr_left fun d _ => rfl
@[push_cast] theorem flatL_bool {α : Type} (f : α → Bool) (l : List α) : flatL (l.map fun d => V.bool (f d)) = true := by simp [flatL, V.cells, V.flatC]
theorem rds_take (p : Prog) (f : Do → Bool) {k : Nat} {d : Do} (h : (scene p).ds[k]? = some d) : ((scene p).ds.take (k + 1)).map (fun d => V.bool (f d)) = ((scene p).ds.take k).map (fun d => V.bool (f d)) ++ [.bool (f d)] := by
 rw [take_get h, List.map_append]; rfl
theorem olook_fn (p : Prog) (hp : p.length < 2 ^ 40) (hok : progOk p = true) : Fc Tryz.prog 59 [progV p] noM (fun r m => ∃ ob, (∃ g, r = .ptr 100 [] 0 0 g 6 ∧ ob = ordV p g (rdsV p) (wrtV p) (.own 0 none 0 []) (.own 0 none 0 [])) ∧ m = noM.set 100 ob) := by
 have hel := events_le hok
 have hsl : (scene p).ds.length = (events p).length := by simp [scene]
 have hev := specExecEvents_fn p hp
 rw [hok, if_pos rfl] at hev
 refine Fc.rekeyP (R' := fun r m => ∃ g, r = .ptr 2 [] 0 0 g 6 ∧ m = noM.set 2 (ordV p g (rdsV p) (wrtV p) (.own 0 none 0 []) (.own 0 none 0 []))) ?_ ?_
 rotate_left
 ·rintro r m ⟨g, rfl, rfl⟩
  exact ⟨2, g, 6, _, rfl, rfl, _, ⟨g, rfl, rfl⟩, era_set rfl⟩
 rw [progV_eq] at hev
 refine Fc.start (S := [7]) Tryz.func59 Tryz.ntmps59 Tryz.results59 rfl (by decide) rfl (by kernel_rfl) ?_
 simp (disch := omega) only [push_cast, go_sem, zA, simprocAttr, progV_eq]
 intro g1
 refine Sat.drawnE [] [] [0, 1, 2] (pureT [(75, .sl ((events p).map Evt.V))]) (by kernel_rfl) (by kernel_rfl) ?_
 simp (disch := omega) only [push_cast, go_sem, zA, simprocAttr]
 refine runD_pure rfl hev rfl rfl ?_ ?_
 ·rfl
 simp (disch := omega) only [push_cast, go_sem, zA, simprocAttr]
 intro g3
 refine Sat.loop (σ := Nat × Rw × Rw) (fun x => upd (upd noT 3 (.ptr 3 [] 0 0 g3 6)) 4 (.int .i64 x.1)) (fun x => noM.set 3 (.own 134 (some g3) 1 [.agg [.sl (p.map thrV), .sl ((events p).map Evt.V), .own x.2.1.e x.2.1.γ x.2.1.c (((scene p).ds.take x.1).map fun d => .bool d.reads), .own x.2.2.e x.2.2.γ x.2.2.c (((scene p).ds.take x.1).map fun d => .bool d.writes), .own 0 none 0 [], .own 0 none 0 []]]))
  (fun x => x.1 ≤ (events p).length ∧ (x.2.1.γ = none ∨ x.2.1.e = 4) ∧ (x.2.2.γ = none ∨ x.2.2.e = 4)) (fun x => (events p).length - x.1) (0, ⟨0, none, 0⟩, ⟨0, none, 0⟩) ⟨by omega, .inl rfl, .inl rfl⟩ ?_ ?_
 ·(refine zB ?_; repeat (first | exact zC | exact zD | refine zE (by decide) ?_ | refine zF ?_ ?_ | refine zG ?_ ?_)) <;> (try simp (disch := omega) only [push_cast, go_sem, zA, simprocAttr])
  all_goals simp
 rintro ⟨k, ⟨e1, γ1, c1⟩, ⟨e2, γ2, c2⟩⟩ ⟨hk, hγ1, hγ2⟩ J hJ
 simp only at hk hγ1 hγ2 hJ
 have hγ1' : (γ1 = none ∨ e1 = 4) = True := by simp only [hγ1]
 have hγ2' : (γ2 = none ∨ e2 = 4) = True := by simp only [hγ2]
 refine Sat.of (S := []) (by kernel_rfl) ?_
 rcases Nat.lt_or_ge k (events p).length with hlt | hge
 ·obtain ⟨ek, hek⟩ : ∃ e, (events p)[k]? = some e := ⟨_, List.getElem?_eq_getElem hlt⟩
  have hdk : (scene p).ds[k]? = some (dsA p k) := by rw [dsA, scene_get hek]; rfl
  have htl : ((scene p).ds.take k).length = k := by rw [List.length_take]; omega
  have h1 := odo_fn p g3 (.own e1 γ1 c1 (((scene p).ds.take k).map fun d => .bool d.reads)) (.own e2 γ2 c2 (((scene p).ds.take k).map fun d => .bool d.writes)) (.own 0 none 0 []) (.own 0 none 0 []) k hlt
  rw [ordV_eq, Do.V_eq] at h1
  have hr := l1Reads_fn (dsA p k)
  have hw := l1Writes_fn (dsA p k)
  rw [Do.V_eq] at hr hw
  simp (disch := omega) only [push_cast, go_sem, zA, simprocAttr, hlt]
  refine Sat.drawnE [(4, 9)] [] [4, 7, 8] (lookT (.own 134 (some g3) 1 [.agg [.sl (p.map thrV), .sl ((events p).map Evt.V), .own e1 γ1 c1 (((scene p).ds.take k).map fun d => .bool d.reads), .own e2 γ2 c2 (((scene p).ds.take k).map fun d => .bool d.writes), .own 0 none 0 [], .own 0 none 0 []]]) [(72, .bool (dsA p k).reads)] [(102, (dsA p k).V)]) (by kernel_rfl) (by kernel_rfl) ?_
  simp (disch := omega) only [push_cast, go_sem, zA, simprocAttr]
  refine runD_look h1 rfl rfl rfl rfl rfl ?_ ?_
  ·rfl
  simp (disch := omega) only [push_cast, go_sem, zA, simprocAttr, Do.V_eq]
  refine runD_pure rfl hr rfl rfl ?_ ?_
  ·rfl
  simp (disch := omega) only [push_cast, go_sem, zA, simprocAttr, hγ1', htl]
  intro g28
  refine ⟨by omega, fun γ3 c3 _ => ?_⟩
  have h2 := odo_fn p g3 (.own 4 γ3 c3 (((scene p).ds.take (k + 1)).map fun d => .bool d.reads)) (.own e2 γ2 c2 (((scene p).ds.take k).map fun d => .bool d.writes)) (.own 0 none 0 []) (.own 0 none 0 []) k hlt
  rw [rds_take p Do.reads hdk, ordV_eq, Do.V_eq] at h2
  refine Sat.drawnE [(4, 9)] [] [4, 7, 8] (lookT (.own 134 (some g3) 1 [.agg [.sl (p.map thrV), .sl ((events p).map Evt.V), .own 4 γ3 c3 ((((scene p).ds.take k).map fun d => .bool d.reads) ++ [.bool (dsA p k).reads]), .own e2 γ2 c2 (((scene p).ds.take k).map fun d => .bool d.writes), .own 0 none 0 [], .own 0 none 0 []]]) [(73, .bool (dsA p k).writes)] [(102, (dsA p k).V)]) (by kernel_rfl) (by kernel_rfl) ?_
  simp (disch := omega) only [push_cast, go_sem, zA, simprocAttr]
  refine runD_look h2 rfl rfl rfl rfl rfl ?_ ?_
  ·rfl
  simp (disch := omega) only [push_cast, go_sem, zA, simprocAttr, Do.V_eq]
  refine runD_pure rfl hw rfl rfl ?_ ?_
  ·rfl
  simp (disch := omega) only [push_cast, go_sem, zA, simprocAttr, hγ2', htl]
  intro g41
  refine ⟨by omega, fun γ4 c4 _ => ?_⟩
  refine hJ (k + 1, ⟨4, γ3, c3⟩, ⟨4, γ4, c4⟩) _ _ ⟨by dsimp only; omega, .inr rfl, .inr rfl⟩ (by dsimp only; omega) ?_
  dsimp only
  rw [rds_take p Do.reads hdk, rds_take p Do.writes hdk]
  (refine zB ?_; repeat (first | exact zC | exact zD | refine zE (by decide) ?_ | refine zF ?_ ?_ | refine zG ?_ ?_)) <;> (try simp (disch := omega) only [push_cast, go_sem, zA, simprocAttr])
 ·have : k = (events p).length := by omega
  subst this
  simp (disch := omega) only [push_cast, go_sem, zA, simprocAttr]
  refine Sat.freezeC 3 [] 0 2 (n0 := .own 134 (some g3) 1 [.agg [.sl (p.map thrV), .sl ((events p).map Evt.V), .own e1 γ1 c1 (((scene p).ds.take (events p).length).map fun d => .bool d.reads), .own e2 γ2 c2 (((scene p).ds.take (events p).length).map fun d => .bool d.writes), .own 0 none 0 [], .own 0 none 0 []]]) (d := .own e1 γ1 c1 (((scene p).ds.take (events p).length).map fun d => .bool d.reads)) rfl rfl rfl ?_
  have f1 : (V.own e1 γ1 c1 (((scene p).ds.take (events p).length).map fun d => .bool d.reads)).fz = rdsV p := by rw [← hsl, List.take_length]; simp only [V.fz, fzs_map, fzs_bool, rdsV]
  have f2 : (V.own e2 γ2 c2 (((scene p).ds.take (events p).length).map fun d => .bool d.writes)).fz = wrtV p := by rw [← hsl, List.take_length]; simp only [V.fz, fzs_map, fzs_bool, wrtV]
  rw [f1]
  refine Sat.freezeC 3 [] 0 3 (n0 := .own 134 (some g3) 1 [.agg [.sl (p.map thrV), .sl ((events p).map Evt.V), rdsV p, .own e2 γ2 c2 (((scene p).ds.take (events p).length).map fun d => .bool d.writes), .own 0 none 0 [], .own 0 none 0 []]]) (d := .own e2 γ2 c2 (((scene p).ds.take (events p).length).map fun d => .bool d.writes)) rfl rfl rfl ?_
  rw [f2]
  refine Sat.of (S := []) (by kernel_rfl) ?_
  simp (disch := omega) only [push_cast, go_sem, zA, simprocAttr, rdsV_eq, wrtV_eq]
  refine ⟨_, ?_, g3, rfl, rfl⟩
  rw [ordV_eq]
  ((repeat (first | exact Sub.no | refine Sub.set ?_ ?_)) <;> (try simp (disch := omega) only [push_cast, go_sem, zA, simprocAttr]))
def rnk (p : Prog) (x : Exe) (k : Nat) : List Int := (List.range (events p).length).map fun i => if i < k then rankS p x i else 0
theorem rnk_zero (p : Prog) (x : Exe) : rnk p x 0 = List.replicate (events p).length 0 := by
 rw [rnk, List.eq_replicate_iff]
 exact ⟨by simp, fun b hb => by simp at hb; exact hb.2.symm⟩
theorem rnk_all (p : Prog) (x : Exe) : rnk p x (events p).length = (List.range (events p).length).map (rankS p x) := by
 rw [rnk]
 exact List.map_congr_left fun i hi => if_pos (List.mem_range.1 hi)
theorem rnk_succ (p : Prog) (x : Exe) (k : Nat) : rnk p x (k + 1) = (rnk p x k).set k (rankS p x k) := by
 apply List.ext_getElem?
 intro i
 rw [rnk, rnk, List.getElem?_set, List.getElem?_map, List.getElem?_map, List.length_map, List.length_range]
 by_cases hi : i < (events p).length
 ·rw [List.getElem?_range hi]
  by_cases hk : k = i
  ·subst hk; simp [hi]
  ·have e : i < k + 1 ↔ i < k := by omega
   simp [hk, e]
 ·have : (List.range (events p).length)[i]? = none := by simp; omega
  rw [this]
  by_cases hk : k = i
  ·subst hk; simp [hi]
  ·simp [hk]
theorem rnk_same (p : Prog) (x : Exe) {k : Nat} (h : rankS p x k = 0) : rnk p x (k + 1) = rnk p x k := by
 rw [rnk, rnk]
 refine List.map_congr_left fun i hi => ?_
 by_cases hk : i = k
 ·subst hk; simp [h]
 ·have e : i < k + 1 ↔ i < k := by omega
  simp [e]
end
section
open Go.RowKit
section
variable {P : Program} {M : Mem} {k : V → Mem → Prop}
theorem callR.mod {f : FuncId} {bs : List V} {g a n : Nat} {o : V} {Q : V → V → Prop} {d : Option Nat} (h : Fc P f (.ptr 0 [] 0 0 g n :: bs) (noM.set 0 o) fun r m => ∃ o', Q r o' ∧ m = noM.set 0 o') (hM : M a = some o) (hk : (bs.all fun v => v.key.isNone) = true) (h9 : Nat.ble (bs.length + 1) 90 = true)
  (hK : ∀ r o', Q r o' → runV (some (True, det (resN d r) (M.set a o'))) k .mk) : callR P f (.ptr a [] 0 0 g n :: bs) d M k .mk := by
 have hk' : ((bs.map V.key).all fun x => x.isNone) = true := by rw [List.all_map]; exact hk
 refine callR.intro (F := noM.set 0 o) (R := fun r m => ∃ o', Q r o' ∧ m = noM.set 0 o') (by rw [look_args hk]; exact h) (look_nodup hk) (Nat.le_of_ble_eq_true h9) (Sub.set Sub.no (look_foot hM)) ?_
 rintro r0 Mf ⟨o', hq, rfl⟩
 have : mergeM M ((V.ptr a [] 0 0 g n :: bs).map V.key) d (noM.set 0 o') = M.set a o' := by
  rw [merge_eq, List.map_cons]
  have e1 : (noM.set 0 o') 100 = none := rfl
  have e2 : (noM.set 0 o') 0 = some o' := rfl
  rw [e1, mgD_none', key_ptr, mg_some, e2, mg_all_none hk', MemU_some]
 rw [this]
 exact ((runV_det.1 (hK r0 o' hq)).2)
end
end
section
open Go.RowKit
def rowP (f : Nat → Bool) (n b : Nat) : List Bool := (List.range n).map fun j => decide (j < b) && f j
theorem rowP_len (f : Nat → Bool) (n b : Nat) : (rowP f n b).length = n := by simp [rowP]
theorem rowP_zero (f : Nat → Bool) (n : Nat) : rowP f n 0 = List.replicate n false := by
 rw [rowP, List.eq_replicate_iff]
 refine ⟨by simp, fun b hb => ?_⟩
 simp only [List.mem_map] at hb
 obtain ⟨i, _, rfl⟩ := hb
 simp
theorem rowP_all (f : Nat → Bool) (n : Nat) : rowP f n n = (List.range n).map f :=
 List.map_congr_left fun i hi => by simp [List.mem_range.1 hi]
theorem rowP_set (f : Nat → Bool) (n b : Nat) : (rowP f n b).set b (f b) = rowP f n (b + 1) := by
 apply List.ext_getElem?
 intro i
 rw [List.getElem?_set, rowP_len, rowP, rowP, List.getElem?_map, List.getElem?_map]
 by_cases hi : i < n
 ·rw [List.getElem?_range hi]
  by_cases h : b = i
  ·subst h; simp [hi]
  ·have e1 : (i < b + 1) = (i < b) := by simp; omega
   simp [h, e1]
 ·have : (List.range n)[i]? = none := by simp; omega
  rw [this]
  by_cases h : b = i
  ·subst h; simp [hi]
  ·simp [h]
theorem netL_take (R : Nat → Nat → Bool) {n a : Nat} (ha : a < n) : (netL R n).take (a + 1) = (netL R n).take a ++ [(List.range n).map (R a)] := take_get (netL_get ha)
theorem onet_fn (p : Prog) (g : Nat) (c4 c5 : V) (hn : (events p).length ≤ 42) (kind : Int) :
  Fo Tryz.prog 62 [.int .i64 kind] g 6 (ordV p g (rdsV p) (wrtV p) c4 c5) (netE (netL (staysS p kind) (events p).length)) := by
 have hst := fun a b ha hb => ostays_fn p g c4 c5 a b hn kind ha hb
 rw [ordV_eq, rdsV_eq, wrtV_eq] at hst ⊢
 obtain ⟨n, hnn⟩ : ∃ n, (events p).length = n := ⟨_, rfl⟩
 rw [hnn] at hn hst ⊢
 have hNl := netL_len (staysS p kind) n
 refine Fc.start (S := [11]) Tryz.func62 Tryz.ntmps62 Tryz.results62 rfl (by decide) rfl (by kernel_rfl) ?_
 simp (disch := omega) only [push_cast, go_sem, zA, simprocAttr]
 intro g5
 refine Sat.loop (σ := EvS) (fun x => upd (upd (upd (upd noT 0 (.ptr 0 [] 0 0 g 6)) 1 (.int .i64 kind)) 5 (.ptr 5 [] 0 0 g5 1)) 6 (.int .i64 x.k))
  (fun x => (noM.set 0 (.own 134 (some g) 1 [.agg [.sl (p.map thrV), .sl ((events p).map Evt.V), .sl ((scene p).ds.map fun d => .bool d.reads), .sl ((scene p).ds.map fun d => .bool d.writes), c4, c5]])).set 5 (.own 140 (some g5) 1 [.agg [.own x.e x.γ x.c (((netL (staysS p kind) n).take x.k).map boolsV)]]))
  (fun x => x.k ≤ n ∧ (x.γ = none ∨ x.e = 132)) (fun x => n - x.k) ⟨0, 0, none, 0⟩ (by simp) ?_ ?_
 ·(refine zB ?_; repeat (first | exact zC | exact zD | refine zE (by decide) ?_ | refine zF ?_ ?_ | refine zG ?_ ?_)) <;> (try simp (disch := omega) only [push_cast, go_sem, zA, simprocAttr])
 rintro ⟨a, e, γ, c⟩ ⟨ha, hγ⟩ J hJ
 simp only at ha hγ hJ
 refine Sat.of (S := [11]) (by kernel_rfl) ?_
 rcases Nat.lt_or_ge a n with hlt | hge
 ·simp (disch := omega) only [push_cast, go_sem, zA, simprocAttr, hlt, hnn]
  refine ⟨by omega, fun gr => ?_⟩
  refine Sat.loop (σ := Nat) (fun b => upd (upd (upd (upd (upd (upd noT 0 (.ptr 0 [] 0 0 g 6)) 1 (.int .i64 kind)) 5 (.ptr 5 [] 0 0 g5 1)) 6 (.int .i64 a)) 7 (.msl 7 [] (some gr) n n)) 8 (.int .i64 b))
   (fun b => ((noM.set 0 (.own 134 (some g) 1 [.agg [.sl (p.map thrV), .sl ((events p).map Evt.V), .sl ((scene p).ds.map fun d => .bool d.reads), .sl ((scene p).ds.map fun d => .bool d.writes), c4, c5]])).set 5 (.own 140 (some g5) 1 [.agg [.own e γ c (((netL (staysS p kind) n).take a).map boolsV)]])).set 7 (.own 4 (some gr) n ((rowP (staysS p kind a) n b).map V.bool)))
   (fun b => b ≤ n) (fun b => n - b) 0 (by omega) ?_ ?_
  ·(refine zB ?_; repeat (first | exact zC | exact zD | refine zE (by decide) ?_ | refine zF ?_ ?_ | refine zG ?_ ?_)) <;> (try simp (disch := omega) only [push_cast, go_sem, zA, simprocAttr])
   all_goals rw [rowP_zero]; simp
  rintro b hb J2 hJ2
  have hpl := rowP_len (staysS p kind a) n b
  rcases Nat.lt_or_ge b n with hlt2 | hge2
  ·refine Sat.of (S := [11]) (by kernel_rfl) ?_
   simp (disch := omega) only [push_cast, go_sem, zA, simprocAttr, hlt2, hnn]
   refine callR.look (hst a b hlt hlt2) rfl rfl rfl ?_
   obtain ⟨z, hz⟩ : ∃ z, (rowP (staysS p kind a) n b)[b]? = some z := ⟨_, List.getElem?_eq_getElem (by omega)⟩
   simp (disch := omega) only [push_cast, go_sem, zA, simprocAttr, hlt2, hpl, hz]
   refine hJ2 (b + 1) _ _ (by omega) (by omega) ?_
   rw [← rowP_set]
   (refine zB ?_; repeat (first | exact zC | exact zD | refine zE (by decide) ?_ | refine zF ?_ ?_ | refine zG ?_ ?_)) <;> (try simp (disch := omega) only [push_cast, go_sem, zA, simprocAttr])
  ·have : b = n := by omega
   subst this
   have hγ' : (γ = none ∨ e = 132) = True := by simp only [hγ]
   have htl : ((netL (staysS p kind) b).take a).length = a := by rw [List.length_take, hNl]; omega
   rw [rowP_all]
   refine Sat.freezeT (upd (upd (upd (upd (upd (upd noT 0 (.ptr 0 [] 0 0 g 6)) 1 (.int .i64 kind)) 5 (.ptr 5 [] 0 0 g5 1)) 6 (.int .i64 a)) 8 (.int .i64 b)) 7 (boolsV ((List.range b).map (staysS p kind a))))
    ((noM.set 0 (.own 134 (some g) 1 [.agg [.sl (p.map thrV), .sl ((events p).map Evt.V), .sl ((scene p).ds.map fun d => .bool d.reads), .sl ((scene p).ds.map fun d => .bool d.writes), c4, c5]])).set 5 (.own 140 (some g5) 1 [.agg [.own e γ c (((netL (staysS p kind) b).take a).map boolsV)]]))
    7 (e := 4) (γ := some gr) (cap := b) (es := ((List.range b).map (staysS p kind a)).map V.bool) rfl ?_ ?_
   ·(refine zB ?_; repeat (first | exact zC | exact zD | refine zE (by decide) ?_ | refine zF ?_ ?_ | refine zG ?_ ?_)) <;> (try simp (disch := omega) only [push_cast, go_sem, zA, simprocAttr])
    simp [boolsV]
   refine Sat.of (S := [11]) (by kernel_rfl) ?_
   simp (disch := omega) only [push_cast, go_sem, zA, simprocAttr, hnn, hγ', htl, boolsV_eq]
   intro g49
   refine ⟨by omega, fun γ6 c6 _ => ?_⟩
   refine hJ ⟨a + 1, 132, γ6, c6⟩ _ _ ⟨by dsimp only; omega, .inr rfl⟩ (by dsimp only; omega) ?_
   dsimp only
   rw [netL_take _ hlt]
   (refine zB ?_; repeat (first | exact zC | exact zD | refine zE (by decide) ?_ | refine zF ?_ ?_ | refine zG ?_ ?_)) <;> (try simp (disch := omega) only [push_cast, go_sem, zA, simprocAttr])
   all_goals simp [boolsV]
 ·have : a = n := by omega
  subst this
  simp (disch := omega) only [push_cast, go_sem, zA, simprocAttr, hnn]
  refine Sat.fixP (o := 5) (g := g5) (e := 140) (cap := 1) (es := [.agg [.own e γ c (((netL (staysS p kind) a).take a).map boolsV)]]) (T := upd noT 5 (netE (netL (staysS p kind) a))) rfl ?_ ?_
  ·refine Fx.ptr Fx.nil rfl rfl (by kernel_rfl) ?_
   have htk : (netL (staysS p kind) a).take a = netL (staysS p kind) a := List.take_of_length_le (by omega)
   simp only [V.cells, List.drop_zero, List.map_cons, List.map_nil, V.fz, fzs_map, fzs_bls, htk]
  refine Sat.of (S := []) (by kernel_rfl) ?_
  simp (disch := omega) only [push_cast, go_sem, zA, simprocAttr, netE_eq]
  refine ⟨_, ?_, rfl⟩
  ((repeat (first | exact Sub.no | refine Sub.set ?_ ?_)) <;> (try simp (disch := omega) only [push_cast, go_sem, zA, simprocAttr]))
def upR (R T : Nat → Nat → Bool) (a b : Nat) : Nat → Nat → Bool := fun x y => R x y || (T x y && (decide (x < a) || (x == a && decide (y < b))))
def bothR (R T : Nat → Nat → Bool) : Nat → Nat → Bool := fun x y => R x y || T x y
theorem upR_zero (R T : Nat → Nat → Bool) (n : Nat) : netL (upR R T 0 0) n = netL R n := netL_congr fun a b _ _ => by simp [upR]
theorem upR_next (R T : Nat → Nat → Bool) (n a : Nat) : netL (upR R T a n) n = netL (upR R T (a + 1) 0) n := netL_congr fun x y _ hy => by
 simp only [upR]
 by_cases h : x < a
 ·have : x < a + 1 := by omega
  simp [h, this]
 ·by_cases h2 : x = a
  ·subst h2; simp [hy]
  ·have h3 : ¬ x < a + 1 := by omega
   simp [h, h2, h3]
theorem upR_all (R T : Nat → Nat → Bool) (n : Nat) : netL (upR R T n 0) n = netL (bothR R T) n := netL_congr fun x y hx _ => by simp [upR, bothR, hx]
theorem upR_no {R T : Nat → Nat → Bool} {n a b : Nat} (h : T a b = false) : netL (upR R T a (b + 1)) n = netL (upR R T a b) n := netL_congr fun x y _ _ => by
 simp only [upR]
 by_cases h2 : x = a
 ·subst h2
  by_cases h3 : y = b
  ·subst h3; simp [h]
  ·have : (y < b + 1) = (y < b) := by simp; omega
   simp [this]
 ·have h9 : (x == a) = false := by simpa using h2
  simp [h9]
theorem upR_yes {R T : Nat → Nat → Bool} {n a b : Nat} (h : T a b = true) : netL (upR R T a (b + 1)) n = netL (wiR (upR R T a b) a b) n := netL_congr fun x y _ _ => by
 simp only [upR, wiR]
 by_cases h2 : x = a
 ·subst h2
  by_cases h3 : y = b
  ·subst h3; simp [h]
  ·have h4 : (y < b + 1) = (y < b) := by simp; omega
   simp [h4, h3]
 ·have h9 : (x == a) = false := by simpa using h2
  simp [h9]
theorem owhole_fn (p : Prog) (x : Exe) (g : Nat) (R : Nat → Nat → Bool) (hn : (events p).length ≤ 42) (hfr : x.fr.length = (events p).length) (hc : ∀ (i : Nat), i < (events p).length → 0 ≤ (dsA p i).p) (kind : Int) :
  Fo Tryz.prog 61 [netE (netL R (events p).length), .int .i64 kind] g 6 (ordV p g (rdsV p) (wrtV p) (.sl (x.fr.map (V.int .i64))) (.sl (((List.range (events p).length).map (rankS p x)).map (V.int .i64)))) (netE (netL (bothR R (toldS p x kind)) (events p).length)) := by
 have hto := fun a b ha hb => otold_fn p x g a b hfr hc kind ha hb
 rw [ordV_eq, rdsV_eq, wrtV_eq] at hto ⊢
 obtain ⟨n, hnn⟩ : ∃ n, (events p).length = n := ⟨_, rfl⟩
 generalize hrk : V.sl (((List.range (events p).length).map (rankS p x)).map (V.int .i64)) = rk at hto ⊢
 rw [hnn] at hn hto ⊢
 have hNl := netL_len R n
 have hcp := ncopy_fn (netL R n) (by rw [hNl]; omega) (fun l hl => by
  simp only [netL, List.mem_map] at hl
  obtain ⟨i, _, rfl⟩ := hl
  simp; omega)
 rw [netE_eq] at hcp
 refine Fc.start (S := [10]) Tryz.func61 Tryz.ntmps61 Tryz.results61 rfl (by decide) rfl (by kernel_rfl) ?_
 simp (disch := omega) only [push_cast, go_sem, zA, simprocAttr, netE_eq]
 refine callR.new hcp rfl rfl ?_
 rintro r ob ⟨g7, e, γ, c, xs, rfl, rfl, h1, h2, h3⟩
 simp (disch := omega) only [push_cast, go_sem, zA, simprocAttr, netO_eq]
 refine Sat.loop (σ := Nat × List RowN) (fun y => upd (upd (upd (upd noT 0 (.ptr 0 [] 0 0 g 6)) 2 (.int .i64 kind)) 7 (.ptr 7 [] 0 0 g7 1)) 8 (.int .i64 y.1))
  (fun y => (noM.set 0 (.own 134 (some g) 1 [.agg [.sl (p.map thrV), .sl ((events p).map Evt.V), .sl ((scene p).ds.map fun d => .bool d.reads), .sl ((scene p).ds.map fun d => .bool d.writes), .sl (x.fr.map (V.int .i64)), rk]])).set 7 (.own 140 (some g7) 1 [.agg [.own e γ c (y.2.map RowN.V)]]))
  (fun y => y.1 ≤ n ∧ (∀ z ∈ y.2, z.γ = none ∨ z.e = 4) ∧ y.2.map RowN.l = netL (upR R (toldS p x kind) y.1 0) n) (fun y => n - y.1) (0, xs) ⟨by dsimp only; omega, h2, by dsimp only; rw [h3, upR_zero]⟩ ?_ ?_
 ·(refine zB ?_; repeat (first | exact zC | exact zD | refine zE (by decide) ?_ | refine zF ?_ ?_ | refine zG ?_ ?_)) <;> (try simp (disch := omega) only [push_cast, go_sem, zA, simprocAttr])
 rintro ⟨a, ys⟩ ⟨ha, hye, hys⟩ J hJ
 simp only at ha hye hys hJ
 refine Sat.of (S := [10]) (by kernel_rfl) ?_
 rcases Nat.lt_or_ge a n with hlt | hge
 ·simp (disch := omega) only [push_cast, go_sem, zA, simprocAttr, hlt, hnn]
  refine Sat.loop (σ := Nat × List RowN) (fun y => upd (upd (upd (upd (upd noT 0 (.ptr 0 [] 0 0 g 6)) 2 (.int .i64 kind)) 7 (.ptr 7 [] 0 0 g7 1)) 8 (.int .i64 a)) 9 (.int .i64 y.1))
   (fun y => (noM.set 0 (.own 134 (some g) 1 [.agg [.sl (p.map thrV), .sl ((events p).map Evt.V), .sl ((scene p).ds.map fun d => .bool d.reads), .sl ((scene p).ds.map fun d => .bool d.writes), .sl (x.fr.map (V.int .i64)), rk]])).set 7 (.own 140 (some g7) 1 [.agg [.own e γ c (y.2.map RowN.V)]]))
   (fun y => y.1 ≤ n ∧ (∀ z ∈ y.2, z.γ = none ∨ z.e = 4) ∧ y.2.map RowN.l = netL (upR R (toldS p x kind) a y.1) n) (fun y => n - y.1) (0, ys) ⟨by dsimp only; omega, hye, hys⟩ ?_ ?_
  ·(refine zB ?_; repeat (first | exact zC | exact zD | refine zE (by decide) ?_ | refine zF ?_ ?_ | refine zG ?_ ?_)) <;> (try simp (disch := omega) only [push_cast, go_sem, zA, simprocAttr])
  rintro ⟨b, zs⟩ ⟨hb, hze, hzs⟩ J2 hJ2
  simp only at hb hze hzs hJ2
  rcases Nat.lt_or_ge b n with hlt2 | hge2
  ·have hzl : zs.length = n := by have := congrArg List.length hzs; rw [List.length_map, netL_len] at this; exact this
   refine Sat.someP (o := 7) (q := [(0, 0)]) (e := e) (γ := γ) (cap := c) (es := zs.map RowN.V) rfl ?_ ?_
   ·intro h0
    have := congrArg List.length h0
    rw [List.length_map, hzl] at this; simp at this; omega
   intro g1 hg1
   subst hg1
   obtain rfl : e = 132 := h1.resolve_left nofun
   obtain ⟨⟨e1, γ1, c1, l1⟩, hrow⟩ : ∃ row, zs[a]? = some row := ⟨_, List.getElem?_eq_getElem (by omega)⟩
   have hl1 : l1 = (List.range n).map (upR R (toldS p x kind) a b a) := by
    have := netL_get (R := upR R (toldS p x kind) a b) hlt
    rw [← hzs, List.getElem?_map, hrow] at this
    simpa using this
   have hll : l1.length = n := by rw [hl1]; simp
   refine Sat.someP (o := 7) (q := [(0, 0), (a, 0)]) (e := e1) (γ := γ1) (cap := c1) (es := l1.map V.bool) ?_ ?_ ?_
   ·simp [Mem.getP, Mem.set, V.getP, V.cellAt, hrow, RowN.V, V.cells]
   ·intro h0
    have := congrArg List.length h0
    rw [List.length_map, hll] at this; simp at this; omega
   rintro g2 rfl
   obtain rfl : e1 = 4 := (hze _ (List.mem_of_getElem? hrow)).resolve_left nofun
   obtain ⟨z, hz⟩ : ∃ z, l1[b]? = some z := ⟨_, List.getElem?_eq_getElem (by omega)⟩
   refine Sat.of (S := [10]) (by kernel_rfl) ?_
   simp (disch := omega) only [push_cast, go_sem, zA, simprocAttr, hlt2, hnn]
   refine callR.look (hto a b hlt hlt2) rfl rfl rfl ?_
   cases hT : toldS p x kind a b
   ·simp (disch := omega) only [push_cast, go_sem, zA, simprocAttr]
    refine hJ2 (b + 1, zs) _ _ ⟨by dsimp only; omega, hze, by dsimp only; rw [hzs, upR_no hT]⟩ (by dsimp only; omega) ?_
    (refine zB ?_; repeat (first | exact zC | exact zD | refine zE (by decide) ?_ | refine zF ?_ ?_ | refine zG ?_ ?_)) <;> (try simp (disch := omega) only [push_cast, go_sem, zA, simprocAttr])
   ·simp (disch := omega) only [push_cast, go_sem, zA, simprocAttr, hrow, hzl, hlt, RowN.V_eq, hll, hlt2, hz]
    refine hJ2 (b + 1, zs.set a ⟨4, some g2, c1, l1.set b true⟩) _ _ ⟨by dsimp only; omega, ?_, ?_⟩ (by dsimp only; omega) ?_
    ·intro y hy
     rcases List.mem_or_eq_of_mem_set hy with hy | hy
     ·exact hze y hy
     ·rw [hy]; exact .inr rfl
    ·dsimp only
     rw [upR_yes hT, ← netL_wi hlt hlt2, ← hzs]
     apply List.ext_getElem?
     intro i
     rw [List.getElem?_modify, List.getElem?_map, List.getElem?_map, List.getElem?_set]
     by_cases h : a = i
     ·subst h
      obtain ⟨k1, k2⟩ := List.getElem?_eq_some_iff.1 hrow
      simp [k1, k2]
     ·simp [h]
    ·(refine zB ?_; repeat (first | exact zC | exact zD | refine zE (by decide) ?_ | refine zF ?_ ?_ | refine zG ?_ ?_)) <;> (try simp (disch := omega) only [push_cast, go_sem, zA, simprocAttr])
  ·have : b = n := by omega
   subst this
   refine Sat.of (S := [10]) (by kernel_rfl) ?_
   simp (disch := omega) only [push_cast, go_sem, zA, simprocAttr, hnn]
   refine hJ (a + 1, zs) _ _ ⟨by dsimp only; omega, hze, by dsimp only; rw [hzs, upR_next]⟩ (by dsimp only; omega) ?_
   (refine zB ?_; repeat (first | exact zC | exact zD | refine zE (by decide) ?_ | refine zF ?_ ?_ | refine zG ?_ ?_)) <;> (try simp (disch := omega) only [push_cast, go_sem, zA, simprocAttr])
 ·have : a = n := by omega
  subst this
  simp (disch := omega) only [push_cast, go_sem, zA, simprocAttr, hnn]
  refine Sat.fixP (o := 7) (g := g7) (e := 140) (cap := 1) (es := [.agg [.own e γ c (ys.map RowN.V)]]) (T := upd noT 7 (netE (netL (bothR R (toldS p x kind)) a))) rfl ?_ ?_
  ·refine Fx.ptr Fx.nil rfl rfl (by kernel_rfl) ?_
   simp only [V.cells, List.drop_zero, List.map_cons, List.map_nil, V.fz, fzs_map, fz_rowsN, hys, upR_all]
  refine Sat.of (S := []) (by kernel_rfl) ?_
  simp (disch := omega) only [push_cast, go_sem, zA, simprocAttr, netE_eq]
  refine ⟨_, ?_, rfl⟩
  ((repeat (first | exact Sub.no | refine Sub.set ?_ ?_)) <;> (try simp (disch := omega) only [push_cast, go_sem, zA, simprocAttr]))
end
end Go.Proofs.YtfbgabkcjjahiaaGreatDoor
