/-
 Contracts and plain laws.
-/
import Derived.Test.YtkdolbffabmemaaGreatDoorKa
import Derived.Test.YtkdolbffabmemaaGreatDoorKb
set_option linter.unusedSimpArgs false
set_option linter.unusedVariables false
set_option linter.unusedSectionVars false
namespace Go.Proofs.YtkdolbffabmemaaGreatDoor
section
open Go.RowKit
section
variable {P : Program} {M : Mem} {k : V → Mem → Prop} {c : Bool}
theorem runD_row {spec : Table} {fn : FuncId} {args : List V} {d n : Nat} {e : TypeId} {es : List V} (h : spec fn args noM = some fun r m => ∃ γ cap, r = .msl 100 [] γ n cap ∧ m = noM.set 100 (.own e γ cap es))
  (hc : Fc P fn args noM fun r m => ∃ γ cap, r = .msl 100 [] γ n cap ∧ m = noM.set 100 (.own e γ cap es)) (hk : (args.all fun v => v.key.isNone) = true) (h9 : Nat.ble args.length 90 = true) (hchk : c = true)
  (hK : ∀ γ cap, runV (some (True, det (.msl d [] γ n cap) (M.set d (.own e γ cap es)))) k .mk) : runD (callV (specT P spec) fn args (some d) M) false M c k .mk := by
 have hk' : ((args.map V.key).all fun x => x.isNone) = true := by rw [List.all_map]; exact hk
 have hf : footM M (args.map V.key) = noM := by
  funext i
  simp only [footM, noM]
  cases hi : (args.map V.key)[i]? with
  | none => rfl
  | some x =>
   have := List.all_eq_true.1 hk' x (List.mem_of_getElem? hi)
   cases x with
   | none => rfl
   | some _ => cases this
 refine runD_call (F := noM) (R := fun r m => ∃ γ cap, r = .msl 100 [] γ n cap ∧ m = noM.set 100 (.own e γ cap es)) (by rw [renArgs_none hk, hf]; exact h) (by rw [renArgs_none hk]; exact hc) Sub.no (by rw [keys_none hk']; exact List.nodup_nil) (Nat.le_of_ble_eq_true h9) ⟨_, _, none, 0, rfl, rfl⟩ nofun hchk ?_
 rintro r0 r Mf ⟨γ, cap, rfl, rfl⟩ h5
 have e1 : (noM.set 100 (.own e γ cap es)) 100 = some (.own e γ cap es) := rfl
 rw [merge_eq, mg_all_none hk', e1, mgD_some, h5 d rfl]
 exact (runV_det.1 (hK γ cap)).2
end
theorem fz_Exe (x : Exe) : x.V.fz = x.V := by simp only [Exe.V, V.fz, fzs_map, List.map_cons, List.map_nil]
@[push_cast] theorem fzs_Exe (l : List Exe) : (l.map Exe.V).map V.fz = l.map Exe.V := by rw [List.map_map]; exact List.map_congr_left fun d _ => fz_Exe d
@[push_cast] theorem flatL_Exe (l : List Exe) : flatL (l.map Exe.V) = true := by simp [flatL, V.cells, V.flatC, Exe.V]
@[push_cast] theorem okY_Exe (l : List Exe) : okY Tryz.prog 61 (l.map Exe.V) = True := by
 simp only [okY, List.mem_map, eq_iff_iff, iff_true]
 rintro y ⟨d, _, rfl⟩
 exact ⟨by rw [szT_61]; rfl, by simp [Exe.V, V.cells, V.one]⟩
def oneOf (s : Sc) (f : List Int) (o : List (List Int)) : List Exe := if okX s ⟨f, o⟩ then [⟨f, o⟩] else []
def allOf (s : Sc) : List Exe := (fromsOf s.ds).flatMap fun f => (ordersOf s.ds).flatMap fun o => oneOf s f o
theorem flatMap_le {α β : Type} {f : α → List β} {n : Nat} (hf : ∀ a, (f a).length ≤ n) : ∀ l : List α, (l.flatMap f).length ≤ l.length * n
 | [] => by simp
 | a :: l => by have := flatMap_le hf l; have := hf a; simp only [List.flatMap_cons, List.length_append, List.length_cons, Nat.succ_mul]; omega
theorem oneOf_le (s : Sc) (f : List Int) (o : List (List Int)) : (oneOf s f o).length ≤ 1 := by unfold oneOf; split <;> simp
theorem ordersK_in {ds : List Do} : ∀ {k : Nat} {r : List (List Int)} {row : List Int}, r ∈ ordersK ds k → row ∈ r → row.length ≤ ds.length
 | 0, r, row, h, h2 => by simp [ordersK] at h; subst h; cases h2
 | k + 1, r, row, h, h2 => by
  simp only [ordersK, List.mem_flatMap, List.mem_map] at h
  obtain ⟨h0, h1, c, hc, rfl⟩ := h
  simp only [List.mem_append, List.mem_singleton] at h2
  rcases h2 with h2 | rfl
  ·exact ordersK_in h1 h2
  ·unfold permsOf at hc
   rw [perms_row rfl hc]
   exact wrs_le _ _ _
theorem all_fn (s : Sc) (hs : s.ds.length < 2 ^ 20) (he : s.es.length = s.ds.length) (hc : copyOk s.ds) (hw : ∀ k : Nat, k < 3 → (writersOf s.ds k).length ≤ 6) (hB : ∀ k, k ≤ s.ds.length → (fromsK s.ds k).length < 2 ^ 30) (hB2 : ∀ k, k ≤ 3 → (ordersK s.ds k).length < 2 ^ 30)
  (hB3 : (fromsOf s.ds).length * (ordersOf s.ds).length < 2 ^ 30) : Fp Tryz.prog 35 [s.V] (.sl ((allOf s).map Exe.V)) := by
 refine Fc.fzRow (R' := fun r m => ∃ s1 γ cap e es, r = .msl s1 [] γ es.length cap ∧ m s1 = some (.own e γ cap es) ∧ es.map V.fz = (allOf s).map Exe.V) ?_ (fun r m h => h)
 refine Fc.start (S := [19]) Tryz.func35 Tryz.ntmps35 Tryz.results35 rfl (by decide) rfl (by kernel_rfl) ?_
 simp (disch := omega) only [push_cast, go_sem, zA, simprocAttr, Sc.V_eq]
 intro g1
 refine callR.pure (orders_fn s hs hw hB2) rfl rfl ?_
 simp (disch := omega) only [push_cast, go_sem, zA, simprocAttr]
 refine callR.pure (froms_fn s hs hB) rfl rfl ?_
 simp (disch := omega) only [push_cast, go_sem, zA, simprocAttr]
 have hf1 : (fromsOf s.ds).length < 2 ^ 30 := hB _ (Nat.le_refl _)
 have ho1 : (ordersOf s.ds).length < 2 ^ 30 := hB2 _ (Nat.le_refl _)
 refine Sat.loop (σ := EvS × List Exe) (fun x => upd (upd (upd (upd (upd (upd noT 1 (.ptr 1 [] 0 0 g1 3)) 3 (.sl ((ordersOf s.ds).map rowsV))) 15 (.sl ((fromsOf s.ds).map intsV))) 16 (.int .i64 (fromsOf s.ds).length)) 17 (.int .i64 x.1.k)) 4 (.msl 4 [] x.1.γ x.2.length x.1.c)) (fun x => (noM.set 1 (.own 55 (some g1) 1 [.agg [.sl (s.p.map thrV), .sl (s.es.map Evt.V), .sl (s.ds.map Do.V)]])).set 4 (.own x.1.e x.1.γ x.1.c (x.2.map Exe.V)))
  (fun x => x.1.k ≤ (fromsOf s.ds).length ∧ (x.1.γ = none ∨ x.1.e = 61) ∧ x.2 = ((fromsOf s.ds).take x.1.k).flatMap fun f => (ordersOf s.ds).flatMap fun o => oneOf s f o) (fun x => (fromsOf s.ds).length - x.1.k) (⟨0, 0, none, 0⟩, []) (by simp) ?_ ?_
 ·(refine zB ?_; repeat (first | exact zC | exact zD | refine zE (by decide) ?_ | refine zF ?_ ?_ | refine zG ?_ ?_)) <;> (try simp (disch := omega) only [push_cast, go_sem, zA, simprocAttr])
  all_goals rfl
 rintro ⟨⟨i, e, γ, c⟩, ys⟩ ⟨hi, hγ, hys⟩ J hJ
 simp only at hi hγ hys hJ
 refine Sat.of (S := []) (by kernel_rfl) ?_
 rcases Nat.lt_or_ge i (fromsOf s.ds).length with hlt | hge
 ·obtain ⟨f, hf⟩ : ∃ f, (fromsOf s.ds)[i]? = some f := ⟨_, List.getElem?_eq_getElem hlt⟩
  have hfl := fromsK_row (List.mem_of_getElem? hf)
  simp (disch := omega) only [push_cast, go_sem, zA, simprocAttr, hf, hlt, intsV_eq]
  refine Sat.loop (σ := EvS × List Exe) (fun x => upd (upd (upd (upd (upd (upd (upd (upd (upd (upd noT 1 (.ptr 1 [] 0 0 g1 3)) 3 (.sl ((ordersOf s.ds).map rowsV))) 15 (.sl ((fromsOf s.ds).map intsV))) 16 (.int .i64 (fromsOf s.ds).length)) 17 (.int .i64 i)) 6 (.sl (f.map (V.int .i64)))) 21 (.sl ((ordersOf s.ds).map rowsV))) 22 (.int .i64 (ordersOf s.ds).length)) 23 (.int .i64 x.1.k)) 4 (.msl 4 [] x.1.γ x.2.length x.1.c)) (fun x => (noM.set 1 (.own 55 (some g1) 1 [.agg [.sl (s.p.map thrV), .sl (s.es.map Evt.V), .sl (s.ds.map Do.V)]])).set 4 (.own x.1.e x.1.γ x.1.c (x.2.map Exe.V)))
   (fun x => x.1.k ≤ (ordersOf s.ds).length ∧ (x.1.γ = none ∨ x.1.e = 61) ∧ x.2 = (((fromsOf s.ds).take i).flatMap fun f => (ordersOf s.ds).flatMap fun o => oneOf s f o) ++ ((ordersOf s.ds).take x.1.k).flatMap fun o => oneOf s f o) (fun x => (ordersOf s.ds).length - x.1.k) (⟨0, e, γ, c⟩, ys) (by simp [hγ, hys]) ?_ ?_
  ·(refine zB ?_; repeat (first | exact zC | exact zD | refine zE (by decide) ?_ | refine zF ?_ ?_ | refine zG ?_ ?_)) <;> (try simp (disch := omega) only [push_cast, go_sem, zA, simprocAttr])
  rintro ⟨⟨j, e2, γ2, c2⟩, zs⟩ ⟨hj, hγ2, hzs⟩ J2 hJ2
  simp only at hj hγ2 hzs hJ2
  refine Sat.of (S := [15]) (by kernel_rfl) ?_
  rcases Nat.lt_or_ge j (ordersOf s.ds).length with hlt2 | hge2
  ·obtain ⟨o, ho⟩ : ∃ o, (ordersOf s.ds)[j]? = some o := ⟨_, List.getElem?_eq_getElem hlt2⟩
   have hol : o.length = 3 := ordersK_row (List.mem_of_getElem? ho)
   have hoi : ∀ row ∈ o, row.length ≤ s.ds.length := fun row h => ordersK_in (List.mem_of_getElem? ho) h
   simp (disch := omega) only [push_cast, go_sem, zA, simprocAttr, ho, hlt2, rowsV_eq]
   refine callR.row (clone_fn f (by omega)) rfl rfl ?_
   intro γ3 c3
   simp (disch := omega) only [push_cast, go_sem, zA, simprocAttr]
   intro g3
   refine Sat.loop (σ := EvS × List RowI) (fun x => upd (upd (upd (upd (upd (upd (upd (upd (upd (upd (upd (upd (upd (upd noT 1 (.ptr 1 [] 0 0 g1 3)) 3 (.sl ((ordersOf s.ds).map rowsV))) 15 (.sl ((fromsOf s.ds).map intsV))) 16 (.int .i64 (fromsOf s.ds).length)) 17 (.int .i64 i)) 6 (.sl (f.map (V.int .i64)))) 21 (.sl ((ordersOf s.ds).map rowsV))) 22 (.int .i64 (ordersOf s.ds).length)) 23 (.int .i64 j)) 4 (.msl 4 [] γ2 zs.length c2)) 9 (.ptr 9 [] 0 0 g3 2)) 30 (.sl (o.map intsV))) 31 (.int .i64 o.length)) 32 (.int .i64 x.1.k)) (fun x => ((noM.set 1 (.own 55 (some g1) 1 [.agg [.sl (s.p.map thrV), .sl (s.es.map Evt.V), .sl (s.ds.map Do.V)]])).set 4 (.own e2 γ2 c2 (zs.map Exe.V))).set 9 (.own 61 (some g3) 1 [.agg [.own 3 γ3 c3 (f.map (V.int .i64)), .own x.1.e x.1.γ x.1.c (x.2.map RowI.V)]]))
    (fun x => x.1.k ≤ o.length ∧ (x.1.γ = none ∨ x.1.e = 32) ∧ x.2.map RowI.l = o.take x.1.k) (fun x => o.length - x.1.k) (⟨0, 0, none, 0⟩, []) (by simp) ?_ ?_
   ·(refine zB ?_; repeat (first | exact zC | exact zD | refine zE (by decide) ?_ | refine zF ?_ ?_ | refine zG ?_ ?_)) <;> (try simp (disch := omega) only [push_cast, go_sem, zA, simprocAttr])
    all_goals rfl
   rintro ⟨⟨m, e4, γ4, c4⟩, ws⟩ ⟨hm, hγ4, hws⟩ J3 hJ3
   simp only at hm hγ4 hws hJ3
   refine Sat.of (S := []) (by kernel_rfl) ?_
   rcases Nat.lt_or_ge m o.length with hlt3 | hge3
   ·obtain ⟨row, hr⟩ : ∃ row, o[m]? = some row := ⟨_, List.getElem?_eq_getElem hlt3⟩
    have hrl := hoi row (List.mem_of_getElem? hr)
    have hwl : ws.length = m := by have := congrArg List.length hws; rw [List.length_map, List.length_take, Nat.min_eq_left hm] at this; exact this
    have hγ4' : (γ4 = none ∨ e4 = 32) = True := by simp only [hγ4]
    simp (disch := omega) only [push_cast, go_sem, zA, simprocAttr, hr, hlt3, intsV_eq]
    refine Sat.drawnE [(1, 3), (1, 4)] [] [] (fun f' _ _ => if f' = 51 then some fun r m => ∃ γ cap, r = .msl 100 [] γ row.length cap ∧ m = noM.set 100 (.own 3 γ cap (row.map (V.int .i64))) else none) (by kernel_rfl) (by kernel_rfl) ?_
    simp (disch := omega) only [push_cast, go_sem, zA, simprocAttr]
    refine runD_row rfl (clone_fn row (by omega)) rfl rfl ?_ ?_
    ·rfl
    intro γ5 c5
    cases hfl : (V.own 3 γ5 c5 (row.map (V.int .i64))).flatC <;> simp (disch := omega) only [push_cast, go_sem, zA, simprocAttr, hγ4', hfl]
    all_goals
     intro g5
     refine ⟨by omega, fun γ6 c6 _ => ?_⟩
     refine hJ3 (⟨m + 1, 32, γ6, c6⟩, ws ++ [⟨γ5, c5, row⟩]) _ _ ⟨by dsimp only; omega, .inr rfl, ?_⟩ (by dsimp only; omega) ?_
     ·dsimp only
      rw [List.map_append, hws, take_get hr]
      rfl
     ·(refine zB ?_; repeat (first | exact zC | exact zD | refine zE (by decide) ?_ | refine zF ?_ ?_ | refine zG ?_ ?_)) <;> (try simp (disch := omega) only [push_cast, go_sem, zA, simprocAttr])
      all_goals simp [RowI.V]
   ·have : m = o.length := by omega
    subst this
    rw [List.take_length] at hws
    simp (disch := omega) only [push_cast, go_sem, zA, simprocAttr]
    refine Sat.freezeC 9 [] 0 0 (n0 := .own 61 (some g3) 1 [.agg [.own 3 γ3 c3 (f.map (V.int .i64)), .own e4 γ4 c4 (ws.map RowI.V)]]) (d := .own 3 γ3 c3 (f.map (V.int .i64))) rfl rfl rfl ?_
    have e1 : (V.own 3 γ3 c3 (f.map (V.int .i64))).fz = .sl (f.map (V.int .i64)) := by simp only [V.fz, fzs_map, fzs_int]
    have e2' : (V.own e4 γ4 c4 (ws.map RowI.V)).fz = .sl (o.map intsV) := by simp only [V.fz, fzs_map, fz_rowsI, hws]
    rw [e1]
    refine Sat.freezeC 9 [] 0 1 (n0 := .own 61 (some g3) 1 [.agg [.sl (f.map (V.int .i64)), .own e4 γ4 c4 (ws.map RowI.V)]]) (d := .own e4 γ4 c4 (ws.map RowI.V)) rfl rfl rfl ?_
    rw [e2']
    refine Sat.of (S := []) (by kernel_rfl) ?_
    simp (disch := omega) only [push_cast, go_sem, zA, simprocAttr]
    refine callR.pure (ok_fn s ⟨f, o⟩ hs he ⟨by dsimp only; omega, by dsimp only; omega, fun row h => by have := hoi row h; omega⟩ hc) rfl rfl ?_
    cases hok : okX s ⟨f, o⟩
    ·simp (disch := omega) only [push_cast, go_sem, zA, simprocAttr]
     refine hJ2 (⟨j + 1, e2, γ2, c2⟩, zs) _ _ ⟨by dsimp only; omega, hγ2, ?_⟩ (by dsimp only; omega) ?_
     ·dsimp only
      rw [hzs, take_get ho, List.flatMap_append]
      simp [oneOf, hok]
     ·(refine zB ?_; repeat (first | exact zC | exact zD | refine zE (by decide) ?_ | refine zF ?_ ?_ | refine zG ?_ ?_)) <;> (try simp (disch := omega) only [push_cast, go_sem, zA, simprocAttr])
    ·have hγ2' : (γ2 = none ∨ e2 = 61) = True := by simp only [hγ2]
     have hzb : zs.length ≤ i * (ordersOf s.ds).length + j := by
      rw [hzs, List.length_append]
      have k1 := flatMap_le (f := fun f => (ordersOf s.ds).flatMap fun o => oneOf s f o) (n := (ordersOf s.ds).length) (fun f => by have := flatMap_le (oneOf_le s f) (ordersOf s.ds); rw [Nat.mul_one] at this; exact this) ((fromsOf s.ds).take i)
      have k2 := flatMap_le (oneOf_le s f) ((ordersOf s.ds).take j)
      rw [List.length_take, Nat.min_eq_left hi] at k1
      rw [List.length_take, Nat.min_eq_left hj, Nat.mul_one] at k2
      exact Nat.add_le_add k1 k2
     have hm1 : (i + 1) * (ordersOf s.ds).length ≤ (fromsOf s.ds).length * (ordersOf s.ds).length := Nat.mul_le_mul_right _ (by omega)
     rw [Nat.succ_mul] at hm1
     have hzc : zs.length + 1 < 2 ^ 30 + 1 := by generalize i * (ordersOf s.ds).length = A at *; generalize (fromsOf s.ds).length * (ordersOf s.ds).length = B at *; omega
     simp (disch := omega) only [push_cast, go_sem, zA, simprocAttr, hγ2', Exe.V_eq]
     intro g5
     refine ⟨by omega, fun γ5 c5 _ => ?_⟩
     refine hJ2 (⟨j + 1, 61, γ5, c5⟩, zs ++ [⟨f, o⟩]) _ _ ⟨by dsimp only; omega, .inr rfl, ?_⟩ (by dsimp only; omega) ?_
     ·dsimp only
      rw [hzs, take_get ho, List.flatMap_append, List.append_assoc]
      simp [oneOf, hok]
     ·(refine zB ?_; repeat (first | exact zC | exact zD | refine zE (by decide) ?_ | refine zF ?_ ?_ | refine zG ?_ ?_)) <;> (try simp (disch := omega) only [push_cast, go_sem, zA, simprocAttr])
      all_goals simp [Exe.V]
  ·have : j = (ordersOf s.ds).length := by omega
   subst this
   simp (disch := omega) only [push_cast, go_sem, zA, simprocAttr]
   refine hJ (⟨i + 1, e2, γ2, c2⟩, zs) _ _ ⟨by dsimp only; omega, hγ2, ?_⟩ (by dsimp only; omega) ?_
   ·dsimp only
    rw [hzs, List.take_length, take_get hf, List.flatMap_append]
    simp
   ·(refine zB ?_; repeat (first | exact zC | exact zD | refine zE (by decide) ?_ | refine zF ?_ ?_ | refine zG ?_ ?_)) <;> (try simp (disch := omega) only [push_cast, go_sem, zA, simprocAttr])
 ·have : i = (fromsOf s.ds).length := by omega
  subst this
  rw [List.take_length] at hys
  simp (disch := omega) only [push_cast, go_sem, zA, simprocAttr]
  refine Sat.of (S := []) (by kernel_rfl) ?_
  simp (disch := omega) only [push_cast, go_sem, zA, simprocAttr]
  refine ⟨_, fun _ _ h => h, 2, γ, c, e, ys.map Exe.V, by rw [List.length_map], by simp [Mem.set], ?_⟩
  rw [fzs_Exe, hys]; rfl
end
section
open Go.RowKit
def usN (ds : List Do) : Nat := (ds.filter Do.uses).length
def wrN (ds : List Do) (pl : Int) : Nat := (ds.filter fun d => d.writes && d.p == pl).length
def rdN (ds : List Do) : Nat := (ds.filter Do.reads).length
theorem usN_app (a b : List Do) : usN (a ++ b) = usN a + usN b := by simp [usN]
theorem usN_evsOf {p : Prog} {t k : Nat} {l : List Do} {d : Do} (hl : p[t]? = some l) (hd : l[k]? = some d) : usN ((evsOf t k d).map (stepAt p)) = usN [d] := by
 have e : ∀ b, stepAt p ⟨t, k, b⟩ = d := fun b => by simp [stepAt, hl, hd]
 unfold evsOf
 split
 ·rename_i h
  have h9 : d.k = 9 := by simpa using h
  have : d.uses = false := by simp [Do.uses, Do.reads, Do.writes, h9]
  simp [e, usN, this]
 ·simp [e]
theorem usN_evThr {p : Prog} {t : Nat} {l : List Do} (hl : p[t]? = some l) : ∀ k, k ≤ l.length → usN ((evThr t l k).map (stepAt p)) = usN (l.take k)
 | 0, _ => by simp [evThr]
 | k + 1, h => by
  have hd : l[k]? = some l[k] := List.getElem?_eq_getElem (by omega)
  rw [evThr, hd, List.map_append, usN_app, usN_evThr hl k (by omega), take_get hd, usN_app]
  dsimp only
  rw [usN_evsOf hl hd]
theorem usesP_app (a b : Prog) : usesP (a ++ b) = usesP a + usesP b := by
 induction a with
 | nil => simp [usesP]
 | cons x a ih => simp only [List.cons_append, usesP, List.map_cons, List.sum_cons] at ih ⊢; omega
theorem usN_evPro {p : Prog} : ∀ i, i ≤ p.length → usN ((evPro p i).map (stepAt p)) = usesP (p.take i)
 | 0, _ => by simp [evPro, usN, usesP]
 | i + 1, h => by
  have hl : p[i]? = some p[i] := List.getElem?_eq_getElem (by omega)
  rw [evPro, hl, List.map_append, usN_app, usN_evPro i (by omega), take_get hl, usesP_app]
  dsimp only
  rw [usN_evThr hl _ (Nat.le_refl _), List.take_length]
  simp [usesP, usesOf, usN]
theorem scene_uses {p : Prog} (h : progOk p = true) : usN (scene p).ds ≤ 6 := by
 simp only [progOk, Bool.and_eq_true, decide_eq_true_eq] at h
 have := usN_evPro (p := p) p.length (Nat.le_refl _)
 rw [List.take_length] at this
 simp only [scene, events]
 omega
theorem wrs_len {ds : List Do} {pl : Int} : ∀ k, k ≤ ds.length → (wrs ds pl k).length = wrN (ds.take k) pl
 | 0, _ => by simp [wrs, wrN]
 | k + 1, h => by
  have hd : ds[k]? = some ds[k] := List.getElem?_eq_getElem (by omega)
  rw [wrs, hd, List.length_append, wrs_len k (by omega), take_get hd]
  simp only [wrN, List.filter_append, List.length_append, List.filter_cons, List.filter_nil]
  split <;> simp
theorem count_le (ds : List Do) : wrN ds 0 + wrN ds 1 + wrN ds 2 + rdN ds ≤ usN ds := by
 induction ds with
 | nil => simp [wrN, rdN, usN]
 | cons d ds ih =>
  have e : ∀ (f : Do → Bool), ((d :: ds).filter f).length = (if f d then 1 else 0) + (ds.filter f).length := fun f => by rw [List.filter_cons]; split <;> simp [Nat.add_comm]
  simp only [wrN, rdN, usN, e] at ih ⊢
  have key : (if d.writes && d.p == 0 then 1 else 0) + (if d.writes && d.p == 1 then 1 else 0) + (if d.writes && d.p == 2 then 1 else 0) + (if d.reads then 1 else 0) ≤ (if d.uses then 1 else 0) := by
   cases hw : d.writes
   ·cases hr : d.reads <;> simp [Do.uses, hw, hr]
   ·have hr : d.reads = false := by
     revert hw
     simp only [Do.reads, Do.writes, Bool.or_eq_true, beq_iff_eq, Bool.or_eq_false_iff, beq_eq_false_iff_ne]
     omega
    by_cases h0 : d.p = 0
    ·simp [Do.uses, hw, hr, h0]
    ·by_cases h1 : d.p = 1
     ·simp [Do.uses, hw, hr, h1]
     ·by_cases h2 : d.p = 2
      ·simp [Do.uses, hw, hr, h2]
      ·simp [Do.uses, hw, hr, h0, h1, h2]
  omega
structure Few (ds : List Do) : Prop where
 n : wrN ds 0 + wrN ds 1 + wrN ds 2 + rdN ds ≤ 6
theorem writers_len (ds : List Do) (pl : Int) : (writersOf ds pl).length = wrN ds pl := by
 have := wrs_len (ds := ds) (pl := pl) ds.length (Nat.le_refl _)
 rwa [List.take_length] at this
theorem Few.wr {ds : List Do} (h : Few ds) : ∀ k : Nat, k < 3 → (writersOf ds k).length ≤ 6 := by
 intro k hk
 rw [writers_len]
 have := h.n
 obtain rfl | rfl | rfl : k = 0 ∨ k = 1 ∨ k = 2 := by omega
 all_goals simp only [Int.cast_ofNat_Int, Int.natCast_zero, Int.natCast_one] at *; omega
theorem wrN_any {ds : List Do} (h : usN ds ≤ 6) (pl : Int) : wrN ds pl ≤ 6 := by
 have : wrN ds pl ≤ usN ds := by
  simp only [wrN, usN]
  rw [← List.countP_eq_length_filter, ← List.countP_eq_length_filter]
  refine List.countP_mono_left fun d _ hd => ?_
  simp only [Bool.and_eq_true] at hd
  simp [Do.uses, hd.1]
 omega
theorem fromsK_len {ds : List Do} (h : usN ds ≤ 6) : ∀ k, k ≤ ds.length → (fromsK ds k).length ≤ 7 ^ rdN (ds.take k)
 | 0, _ => by simp [fromsK, rdN]
 | k + 1, hk => by
  have hd : ds[k]? = some ds[k] := List.getElem?_eq_getElem (by omega)
  have ih := fromsK_len h k (by omega)
  rw [fromsK, hd, take_get hd]
  dsimp only
  rw [flatMap_len (n := (choicesOf ds ds[k]).length) (by simp)]
  have hr : rdN (ds.take k ++ [ds[k]]) = rdN (ds.take k) + (if ds[k].reads then 1 else 0) := by
   simp only [rdN, List.filter_append, List.length_append, List.filter_cons, List.filter_nil]
   split <;> simp
  rw [hr]
  unfold choicesOf
  split
  ·rw [Nat.pow_succ]
   refine Nat.mul_le_mul ih ?_
   rw [List.length_cons, writers_len]
   have := wrN_any h ds[k].p
   omega
  ·simpa using ih
theorem rdN_le {ds : List Do} (h : usN ds ≤ 6) (k : Nat) : rdN (ds.take k) ≤ 6 := by
 have h1 : rdN (ds.take k) ≤ usN ds := by
  simp only [rdN, usN]
  rw [← List.countP_eq_length_filter, ← List.countP_eq_length_filter]
  refine Nat.le_trans (List.countP_mono_left (q := Do.uses) fun d _ hd => ?_) (List.Sublist.countP_le (List.take_sublist k ds))
  simp [Do.uses, hd]
 omega
theorem froms_le {ds : List Do} (h : usN ds ≤ 6) : ∀ k, k ≤ ds.length → (fromsK ds k).length ≤ 117649 := fun k hk =>
 Nat.le_trans (fromsK_len h k hk) (Nat.le_trans (Nat.pow_le_pow_right (by decide) (rdN_le h k)) (by decide))
theorem fac3f : ∀ a b c : _root_.Fin 7, a.1 + b.1 + c.1 ≤ 6 → 1 * fac a.1 ≤ 720 ∧ 1 * fac a.1 * fac b.1 ≤ 720 ∧ 1 * fac a.1 * fac b.1 * fac c.1 ≤ 720 := by decide
theorem fac3 (a : Nat) (ha : a < 7) (b : Nat) (hb : b < 7) (c : Nat) (hc : c < 7) (h : a + b + c ≤ 6) : 1 * fac a ≤ 720 ∧ 1 * fac a * fac b ≤ 720 ∧ 1 * fac a * fac b * fac c ≤ 720 := fac3f ⟨a, ha⟩ ⟨b, hb⟩ ⟨c, hc⟩ h
theorem orders_le {ds : List Do} (h : usN ds ≤ 6) : ∀ k, k ≤ 3 → (ordersK ds k).length ≤ 720 := by
 have hc := count_le ds
 have step : ∀ k : Nat, (ordersK ds (k + 1)).length = (ordersK ds k).length * fac (wrN ds k) := fun k => by
  rw [ordersK, flatMap_len (n := (permsOf (writersOf ds k)).length) (by simp)]
  unfold permsOf
  rw [perms_len rfl, writers_len]
 have h0 : (ordersK ds 0).length = 1 := rfl
 have h1 := step 0
 have h2 := step 1
 have h3 := step 2
 rw [h0] at h1
 simp only [Nat.zero_add, Nat.reduceAdd, Int.cast_ofNat_Int, Int.natCast_zero, Int.natCast_one] at h1 h2 h3
 rw [h1] at h2
 rw [h2] at h3
 obtain ⟨k1, k2, k3⟩ := fac3 (wrN ds 0) (by omega) (wrN ds 1) (by omega) (wrN ds 2) (by omega) (by omega)
 intro k hk
 obtain rfl | rfl | rfl | rfl : k = 0 ∨ k = 1 ∨ k = 2 ∨ k = 3 := by omega
 ·rw [h0]; omega
 ·rw [h1]; exact k1
 ·rw [h2]; exact k2
 ·rw [h3]; exact k3
def execAll (p : Prog) : List Exe := if progOk p then allOf (scene p) else []
end
section
open Go.RowKit
def evIn (p : Prog) (e : Evt) : Prop := ∃ (i : Nat) (l : List Do) (j : Nat) (d : Do), p[i]? = some l ∧ l[j]? = some d ∧ e.t = i ∧ e.s = j
theorem evIn_of {p : Prog} {e : Evt} (h : e ∈ events p) : evIn p e := by
 obtain ⟨i, l, j, d, h1, h2, h3, h4, _⟩ := mem_events h
 exact ⟨i, l, j, d, h1, h2, h3, h4⟩
theorem l12Do_fn (p : Prog) (e : Evt) (he : evIn p e) : Fp Tryz.prog 130 [progV p, e.V] (stepAt p e).V := by
 obtain ⟨i, l, j, d, hl, hd, h1, h2⟩ := he
 have hst : stepAt p e = d := by simp [stepAt, h1, h2, hl, hd]
 have hil := (List.getElem?_eq_some_iff.1 hl).1
 have hjl := (List.getElem?_eq_some_iff.1 hd).1
 rw [hst]
 refine Fc.start (S := []) Tryz.func130 Tryz.ntmps130 Tryz.results130 rfl (by decide) rfl (by kernel_rfl) ?_
 simp (disch := omega) only [push_cast, go_sem, zA, simprocAttr, progV_eq, Evt.V_eq]
 intro g1 g2 g3
 refine Sat.drawnE [] [] [1, 3, 5, 7, 9] (fun _ _ _ => none) (by kernel_rfl) (by kernel_rfl) ?_
 simp (disch := omega) only [push_cast, go_sem, zA, simprocAttr, h1, h2, hl, hd, hil, hjl, thrV_eq, Do.V_eq]
theorem scene_get {p : Prog} {k : Nat} {e : Evt} (h : (events p)[k]? = some e) : (scene p).ds[k]? = some (stepAt p e) := by simp [scene, h]
theorem l12Writes_fn (p : Prog) (pl : Int) (hn : (events p).length ≤ 42) : Fp Tryz.prog 132 [progV p, .sl ((events p).map Evt.V), .int .i64 pl] (intsV (writersOf (scene p).ds pl)) := by
 have hsl : (scene p).ds.length = (events p).length := by simp [scene]
 refine (Fc.fzRow (R' := fun r m => ∃ s1 γ cap e es, r = .msl s1 [] γ es.length cap ∧ m s1 = some (.own e γ cap es) ∧ es.map V.fz = (writersOf (scene p).ds pl).map (V.int .i64)) ?_ (fun r m h => h))
 refine Fc.start (S := [8]) Tryz.func132 Tryz.ntmps132 Tryz.results132 rfl (by decide) rfl (by kernel_rfl) ?_
 simp (disch := omega) only [push_cast, go_sem, zA, simprocAttr, progV_eq]
 intro g1 g2
 refine Sat.loop (σ := EvS) (fun x => upd (upd (upd (upd (upd noT 3 (.ptr 3 [] 0 0 g1 1)) 1 (.sl ((events p).map Evt.V))) 2 (.int .i64 pl)) 7 (.msl 7 [] x.γ (wrs (scene p).ds pl x.k).length x.c)) 8 (.int .i64 x.k))
  (fun x => (noM.set 3 (.own 25 (some g1) 1 [.agg [.sl (p.map thrV)]])).set 7 (.own x.e x.γ x.c ((wrs (scene p).ds pl x.k).map (V.int .i64))))
  (fun x => x.k ≤ (events p).length ∧ (x.γ = none ∨ x.e = 3)) (fun x => (events p).length - x.k) ⟨0, 3, some g2, 0⟩ (by simp) ?_ ?_
 ·(refine zB ?_; repeat (first | exact zC | exact zD | refine zE (by decide) ?_ | refine zF ?_ ?_ | refine zG ?_ ?_)) <;> (try simp (disch := omega) only [push_cast, go_sem, zA, simprocAttr])
  all_goals rfl
 rintro ⟨k, e, γ, c⟩ ⟨hk, hγ⟩ J hJ
 refine Sat.of (S := []) (by kernel_rfl) ?_
 simp only at hk hγ hJ
 have hb := wrs_le (scene p).ds pl k
 rcases Nat.lt_or_ge k (events p).length with hlt | hge
 ·obtain ⟨ev, he⟩ : ∃ d, (events p)[k]? = some d := ⟨_, List.getElem?_eq_getElem hlt⟩
  obtain ⟨d, hst⟩ : ∃ d, stepAt p ev = d := ⟨_, rfl⟩
  have hd := scene_get he
  have hdo := l12Do_fn p ev (evIn_of (List.mem_of_getElem? he))
  rw [hst] at hd hdo
  have hγ' : (γ = none ∨ e = 3) = True := by simp only [hγ]
  have hn1 : k + 1 ≤ (events p).length := by omega
  have hm : (events p).length - (k + 1) < (events p).length - k := by omega
  have same : (d.writes && d.p == pl) = false → wrs (scene p).ds pl (k + 1) = wrs (scene p).ds pl k := fun h => by simp only [wrs, hd, h]; simp
  simp (disch := omega) only [push_cast, go_sem, zA, simprocAttr, he, hlt, Evt.V_eq]
  refine Sat.drawnE [(0, 6), (4, 6), (5, 6)] [] [0, 4, 5] (pureT [(130, d.V)]) (by kernel_rfl) (by kernel_rfl) ?_
  simp (disch := omega) only [push_cast, go_sem, zA, simprocAttr, he, hlt, Evt.V_eq]
  refine runD_pure rfl hdo rfl rfl ?_ ?_
  ·rfl
  simp (disch := omega) only [push_cast, go_sem, zA, simprocAttr, Do.V_eq]
  intro g3
  refine callR.pure (l1Writes_fn d) rfl rfl ?_
  cases hw : d.writes
  ·simp (disch := omega) only [push_cast, go_sem, zA, simprocAttr]
   refine hJ ⟨k + 1, e, γ, c⟩ _ _ ⟨hn1, hγ⟩ hm ?_
   (refine zB ?_; repeat (first | exact zC | exact zD | refine zE (by decide) ?_ | refine zF ?_ ?_ | refine zG ?_ ?_)) <;> (try simp (disch := omega) only [push_cast, go_sem, zA, simprocAttr])
   all_goals rw [same (by rw [hw]; rfl)]
  ·cases hp : (d.p == pl)
   ·simp (disch := omega) only [push_cast, go_sem, zA, simprocAttr, hp]
    refine hJ ⟨k + 1, e, γ, c⟩ _ _ ⟨hn1, hγ⟩ hm ?_
    (refine zB ?_; repeat (first | exact zC | exact zD | refine zE (by decide) ?_ | refine zF ?_ ?_ | refine zG ?_ ?_)) <;> (try simp (disch := omega) only [push_cast, go_sem, zA, simprocAttr])
    all_goals rw [same (by rw [hw, hp]; rfl)]
   ·simp (disch := omega) only [push_cast, go_sem, zA, simprocAttr, hp, hγ']
    intro g4
    refine ⟨by omega, fun γ2 c2 _ => ?_⟩
    refine hJ ⟨k + 1, 3, γ2, c2⟩ _ _ ⟨hn1, .inr rfl⟩ hm ?_
    (refine zB ?_; repeat (first | exact zC | exact zD | refine zE (by decide) ?_ | refine zF ?_ ?_ | refine zG ?_ ?_)) <;> (try simp (disch := omega) only [push_cast, go_sem, zA, simprocAttr])
    all_goals simp [wrs, hd, hw, hp]
 ·have : k = (events p).length := by omega
  subst this
  simp (disch := omega) only [push_cast, go_sem, zA, simprocAttr]
  refine Sat.of (S := []) (by kernel_rfl) ?_
  simp (disch := omega) only [push_cast, go_sem, zA, simprocAttr]
  refine ⟨_, fun _ _ h => h, 6, γ, c, e, (wrs (scene p).ds pl (events p).length).map (V.int .i64), by rw [List.length_map], by simp [Mem.set], ?_⟩
  rw [fzs_int, ← hsl]; rfl
def srcOf (es : List Evt) (ds : List Do) (i : Nat) : Nat → Int
 | 0 => -1
 | k + 1 => if (es[k]?.getD default).t == (es[i]?.getD default).t && (ds[k]?.getD default).reads then (k : Int) else srcOf es ds i k
theorem l12Source_fn (p : Prog) (i : Nat) (hn : (events p).length ≤ 42) (hi : i < (events p).length) : Fp Tryz.prog 149 [progV p, .sl ((events p).map Evt.V), .int .i64 i] (.int .i64 (srcOf (events p) (scene p).ds i i)) := by
 obtain ⟨ei, hei⟩ : ∃ e, (events p)[i]? = some e := ⟨_, List.getElem?_eq_getElem hi⟩
 refine Fc.start (S := [6]) Tryz.func149 Tryz.ntmps149 Tryz.results149 rfl (by decide) rfl (by kernel_rfl) ?_
 simp (disch := omega) only [push_cast, go_sem, zA, simprocAttr, progV_eq]
 intro g1
 refine Sat.loop (σ := Nat) (fun k => upd (upd (upd (upd noT 3 (.ptr 3 [] 0 0 g1 1)) 1 (.sl ((events p).map Evt.V))) 2 (.int .i64 i)) 7 (.int .i64 ((k : Int) - 1))) (fun _ => noM.set 3 (.own 25 (some g1) 1 [.agg [.sl (p.map thrV)]]))
  (fun k => k ≤ i ∧ srcOf (events p) (scene p).ds i i = srcOf (events p) (scene p).ds i k) (fun k => k) i (by simp) ?_ ?_
 ·(refine zB ?_; repeat (first | exact zC | exact zD | refine zE (by decide) ?_ | refine zF ?_ ?_ | refine zG ?_ ?_)) <;> (try simp (disch := omega) only [push_cast, go_sem, zA, simprocAttr])
  all_goals rfl
 rintro k ⟨hk, hs⟩ J hJ
 refine Sat.of (S := []) (by kernel_rfl) ?_
 cases k with
 | zero =>
  simp (disch := omega) only [push_cast, go_sem, zA, simprocAttr]
  refine Sat.of (S := []) (by kernel_rfl) ?_
  simp (disch := omega) only [push_cast, go_sem, zA, simprocAttr]
  rw [hs]; rfl
 | succ k =>
  obtain ⟨ek, hek⟩ : ∃ e, (events p)[k]? = some e := ⟨_, List.getElem?_eq_getElem (by omega)⟩
  have hdo := l12Do_fn p ek (evIn_of (List.mem_of_getElem? hek))
  have hk1 : (((k + 1 : Nat) : Int) - 1) = (k : Int) := by omega
  have hkl : k < (events p).length := by omega
  have hg := scene_get hek
  have hs' : srcOf (events p) (scene p).ds i (k + 1) = if ek.t == ei.t && (stepAt p ek).reads then (k : Int) else srcOf (events p) (scene p).ds i k := by
   rw [srcOf, hek, hei, hg]; rfl
  rw [hk1]
  simp (disch := omega) only [push_cast, go_sem, zA, simprocAttr, hek, hkl, hei, hi, Evt.V_eq]
  cases ht : (ek.t == ei.t)
  ·refine Sat.drawnE [] [] [4, 9, 12, 16, 17, 18] (pureT [(130, (stepAt p ek).V), (44, .bool (stepAt p ek).reads)]) (by kernel_rfl) (by kernel_rfl) ?_
   simp (disch := omega) only [push_cast, go_sem, zA, simprocAttr, hek, hkl, hei, hi, Evt.V_eq, ht]
   refine hJ k _ _ ⟨by omega, by rw [hs, hs', ht]; rfl⟩ (by omega) ?_
   (refine zB ?_; repeat (first | exact zC | exact zD | refine zE (by decide) ?_ | refine zF ?_ ?_ | refine zG ?_ ?_)) <;> (try simp (disch := omega) only [push_cast, go_sem, zA, simprocAttr])
  ·refine Sat.drawnE [] [] [4, 9, 12, 16, 17, 18] (pureT [(130, (stepAt p ek).V), (44, .bool (stepAt p ek).reads)]) (by kernel_rfl) (by kernel_rfl) ?_
   simp (disch := omega) only [push_cast, go_sem, zA, simprocAttr, hek, hkl, hei, hi, Evt.V_eq, ht]
   refine runD_pure rfl hdo rfl rfl ?_ ?_
   ·rfl
   simp (disch := omega) only [push_cast, go_sem, zA, simprocAttr]
   refine runD_pure rfl (l1Reads_fn (stepAt p ek)) rfl rfl ?_ ?_
   ·rfl
   cases hr : (stepAt p ek).reads
   ·simp (disch := omega) only [push_cast, go_sem, zA, simprocAttr]
    refine hJ k _ _ ⟨by omega, by rw [hs, hs', hr, Bool.and_false]; rfl⟩ (by omega) ?_
    (refine zB ?_; repeat (first | exact zC | exact zD | refine zE (by decide) ?_ | refine zF ?_ ?_ | refine zG ?_ ?_)) <;> (try simp (disch := omega) only [push_cast, go_sem, zA, simprocAttr])
   ·simp (disch := omega) only [push_cast, go_sem, zA, simprocAttr]
    rw [hs, hs', ht, hr]; rfl
end
section
open Go.RowKit
theorem specExecEvents_fn (p : Prog) (hp : p.length < 2 ^ 40) : Fp Tryz.prog 88 [progV p] (.sl ((if progOk p then events p else []).map Evt.V)) := by
 refine (Fc.fzRow (R' := fun r m => ∃ s1 γ cap e es, r = .msl s1 [] γ es.length cap ∧ m s1 = some (.own e γ cap es) ∧ es.map V.fz = (if progOk p then events p else []).map Evt.V) ?_ (fun r m h => h))
 cases hok : progOk p
 ·refine Fc.start (S := []) Tryz.func88 Tryz.ntmps88 Tryz.results88 rfl (by decide) rfl (by kernel_rfl) ?_
  simp (disch := omega) only [push_cast, go_sem, zA, simprocAttr, progV_eq]
  intro g1 g2
  refine callR.pure (specProgOk_fn p hp) rfl rfl ?_
  simp (disch := omega) only [push_cast, go_sem, zA, simprocAttr, hok]
  exact ⟨_, fun _ _ h => h, 2, some g2, 0, 93, [], rfl, by simp [Mem.set], rfl⟩
 have hok' := hok
 simp only [progOk, Bool.and_eq_true, decide_eq_true_eq, List.all_eq_true] at hok'
 obtain ⟨⟨⟨hp3, hth⟩, _⟩, _⟩ := hok'
 have h7 : ∀ l ∈ p, l.length ≤ 7 := fun l h => threadOk_le (hth l h)
 refine Fc.start (S := [13]) Tryz.func88 Tryz.ntmps88 Tryz.results88 rfl (by decide) rfl (by kernel_rfl) ?_
 simp (disch := omega) only [push_cast, go_sem, zA, simprocAttr, progV_eq]
 intro g g2
 refine callR.pure (specProgOk_fn p hp) rfl rfl ?_
 simp (disch := omega) only [push_cast, go_sem, zA, simprocAttr, hok]
 refine Sat.loop (σ := EvS) (fun x => upd (upd (upd noT 1 (.ptr 1 [] 0 0 g 1)) 4 (.int .i64 x.k)) 3 (.msl 3 [] x.γ (evPro p x.k).length x.c))
  (fun x => (noM.set 1 (.own 25 (some g) 1 [.agg [.sl (p.map thrV)]])).set 3 (.own x.e x.γ x.c ((evPro p x.k).map Evt.V)))
  (fun x => x.k ≤ p.length ∧ (x.γ = none ∨ x.e = 93)) (fun x => p.length - x.k) ⟨0, 93, some g2, 0⟩ (by simp) ?_ ?_
 ·(refine zB ?_; repeat (first | exact zC | exact zD | refine zE (by decide) ?_ | refine zF ?_ ?_ | refine zG ?_ ?_)) <;> (try simp (disch := omega) only [push_cast, go_sem, zA, simprocAttr])
  all_goals rfl
 rintro ⟨i, e, γ, c⟩ ⟨hi, hγ⟩ J hJ
 refine Sat.of (S := [1001]) (by kernel_rfl) ?_
 simp only at hi hγ hJ
 have hb := evPro_le p h7 i
 rcases Nat.lt_or_ge i p.length with hlt | hge
 ·obtain ⟨l, he⟩ : ∃ l, p[i]? = some l := ⟨_, List.getElem?_eq_getElem hlt⟩
  have hl7 := h7 l (List.mem_of_getElem? he)
  simp (disch := omega) only [push_cast, go_sem, zA, simprocAttr, he, hlt, thrV_eq]
  have T2 : ∀ k, k ≤ l.length → (evPro p i ++ evThr i l k).length ≤ 60 := by
   intro k hk
   have := evThr_le i l k
   rw [List.length_append]; omega
  refine Sat.cut (σ := Rw) [] (fun x => upd (upd (upd noT 1 (.ptr 1 [] 0 0 g 1)) 4 (.int .i64 i)) 3 (.msl 3 [] x.γ (evPro p (i + 1)).length x.c))
   (fun x => (noM.set 1 (.own 25 (some g) 1 [.agg [.sl (p.map thrV)]])).set 3 (.own x.e x.γ x.c ((evPro p (i + 1)).map Evt.V))) (fun x => x.γ = none ∨ x.e = 93) (by kernel_rfl) ?_ ?_
  ·simp (disch := omega) only [push_cast, go_sem, zA, simprocAttr, he, hlt, thrV_eq]
   refine Sat.loop (σ := EvS) (fun x => upd (upd (upd (upd noT 1 (.ptr 1 [] 0 0 g 1)) 4 (.int .i64 i)) 5 (.int .i64 x.k)) 3 (.msl 3 [] x.γ (evPro p i ++ evThr i l x.k).length x.c))
    (fun x => (noM.set 1 (.own 25 (some g) 1 [.agg [.sl (p.map thrV)]])).set 3 (.own x.e x.γ x.c ((evPro p i ++ evThr i l x.k).map Evt.V)))
    (fun x => x.k ≤ l.length ∧ (x.γ = none ∨ x.e = 93)) (fun x => l.length - x.k) ⟨0, e, γ, c⟩ (by simp [hγ]) ?_ ?_
   ·(refine zB ?_; repeat (first | exact zC | exact zD | refine zE (by decide) ?_ | refine zF ?_ ?_ | refine zG ?_ ?_)) <;> (try simp (disch := omega) only [push_cast, go_sem, zA, simprocAttr])
    all_goals simp [evThr]
   rintro ⟨k, e2, γ2, c2⟩ ⟨hk, hγ2⟩ J2 hJ2
   refine Sat.of (S := []) (by kernel_rfl) ?_
   simp only at hk hγ2 hJ2
   have hb2 := T2 k hk
   rcases Nat.lt_or_ge k l.length with hkl | hkg
   ·obtain ⟨d, hd⟩ : ∃ d, l[k]? = some d := ⟨_, List.getElem?_eq_getElem hkl⟩
    have hγ2' : (γ2 = none ∨ e2 = 93) = True := by simp only [hγ2]
    simp (disch := omega) only [push_cast, go_sem, zA, simprocAttr, he, hlt, thrV_eq, hd, hkl, Do.V_eq, hγ2']
    rw [List.length_append] at hb2
    have hn : k + 1 ≤ l.length := by omega
    have hm : l.length - (k + 1) < l.length - k := by omega
    intro g3
    refine ⟨by omega, fun γ3 c3 _ => ⟨fun h9 g5 => ⟨by omega, fun γ4 c4 _ => ?_⟩, fun h9 => ?_⟩⟩
    ·refine hJ2 ⟨k + 1, 93, γ4, c4⟩ _ _ ⟨hn, .inr rfl⟩ hm ?_
     (refine zB ?_; repeat (first | exact zC | exact zD | refine zE (by decide) ?_ | refine zF ?_ ?_ | refine zG ?_ ?_)) <;> (try simp (disch := omega) only [push_cast, go_sem, zA, simprocAttr])
     all_goals simp [evThr, hd, evsOf, h9, Evt.V, Nat.add_assoc]
    ·refine hJ2 ⟨k + 1, 93, γ3, c3⟩ _ _ ⟨hn, .inr rfl⟩ hm ?_
     (refine zB ?_; repeat (first | exact zC | exact zD | refine zE (by decide) ?_ | refine zF ?_ ?_ | refine zG ?_ ?_)) <;> (try simp (disch := omega) only [push_cast, go_sem, zA, simprocAttr])
     all_goals simp [evThr, hd, evsOf, h9, Evt.V, Nat.add_assoc]
   ·have : k = l.length := by omega
    subst this
    simp (disch := omega) only [push_cast, go_sem, zA, simprocAttr, he, hlt, thrV_eq]
    refine ⟨⟨e2, γ2, c2⟩, hγ2, ?_⟩
    (refine zB ?_; repeat (first | exact zC | exact zD | refine zE (by decide) ?_ | refine zF ?_ ?_ | refine zG ?_ ?_)) <;> (try simp (disch := omega) only [push_cast, go_sem, zA, simprocAttr])
    all_goals simp [evPro, he, Nat.add_assoc]
  rintro ⟨e2, γ2, c2⟩ hγ2
  refine Sat.of (S := []) (by kernel_rfl) ?_
  simp only at hγ2
  simp (disch := omega) only [push_cast, go_sem, zA, simprocAttr]
  refine hJ ⟨i + 1, e2, γ2, c2⟩ _ _ ⟨by simp only; omega, hγ2⟩ (by simp only; omega) ?_
  (refine zB ?_; repeat (first | exact zC | exact zD | refine zE (by decide) ?_ | refine zF ?_ ?_ | refine zG ?_ ?_)) <;> (try simp (disch := omega) only [push_cast, go_sem, zA, simprocAttr])
 ·have : i = p.length := by omega
  subst this
  simp (disch := omega) only [push_cast, go_sem, zA, simprocAttr]
  refine Sat.of (S := []) (by kernel_rfl) ?_
  simp (disch := omega) only [push_cast, go_sem, zA, simprocAttr]
  refine ⟨_, fun _ _ h => h, 2, γ, c, e, (events p).map Evt.V, by rw [List.length_map]; rfl, by simp [Mem.set, events], ?_⟩
  rw [fzs_Evt]
end
section
open Go.RowKit
def valS (es : List Evt) (ds : List Do) (fr : List Int) : Nat → Int → Int
 | 0, i => if i < 0 then 0 else -1
 | m + 1, i => if i < 0 then 0 else match ds[i.toNat]? with
  | none => 0
  | some d => if d.reads then valS es ds fr m (fr[i.toNat]?.getD 0) else if d.k == 3 then valS es ds fr m (srcOf es ds i.toNat i.toNat) else d.v
theorem srcOf_lt {es : List Evt} {ds : List Do} {i : Nat} : ∀ k, srcOf es ds i k < (k : Int) ∧ -1 ≤ srcOf es ds i k
 | 0 => by simp [srcOf]
 | k + 1 => by
  rw [srcOf]
  split
  ·omega
  ·have := srcOf_lt (es := es) (ds := ds) (i := i) k; omega
theorem l12Val_fn (p : Prog) (x : Exe) (hn : (events p).length ≤ 42) (hfl : x.fr.length = (events p).length) (hfr : ∀ f ∈ x.fr, f < (events p).length) : ∀ (m : Nat) (i : Int), m < 2 ^ 20 → i < (events p).length →
  Fp Tryz.prog 131 [progV p, .sl ((events p).map Evt.V), x.V, .int .i64 i, .int .i64 m] (.int .i64 (valS (events p) (scene p).ds x.fr m i)) := by
 intro m
 induction m with
 | zero =>
  intro i _ hi
  by_cases h0 : i < 0
  ·refine Fc.start (S := []) Tryz.func131 Tryz.ntmps131 Tryz.results131 rfl (by decide) rfl (by kernel_rfl) ?_
   simp (disch := omega) only [push_cast, go_sem, zA, simprocAttr, progV_eq, Exe.V_eq, h0]
   simp [valS, h0]
  ·refine Fc.start (S := []) Tryz.func131 Tryz.ntmps131 Tryz.results131 rfl (by decide) rfl (by kernel_rfl) ?_
   simp (disch := omega) only [push_cast, go_sem, zA, simprocAttr, progV_eq, Exe.V_eq, h0]
   simp [valS, h0]
 | succ m ih =>
  intro i hm hi
  by_cases h0 : i < 0
  ·refine Fc.start (S := []) Tryz.func131 Tryz.ntmps131 Tryz.results131 rfl (by decide) rfl (by kernel_rfl) ?_
   simp (disch := omega) only [push_cast, go_sem, zA, simprocAttr, progV_eq, Exe.V_eq, h0]
   simp [valS, h0]
  obtain ⟨a, rfl⟩ := Int.eq_ofNat_of_zero_le (Int.not_lt.1 h0)
  have ha : a < (events p).length := by omega
  obtain ⟨ev, he⟩ : ∃ d, (events p)[a]? = some d := ⟨_, List.getElem?_eq_getElem ha⟩
  obtain ⟨f, hf⟩ : ∃ f, x.fr[a]? = some f := ⟨_, List.getElem?_eq_getElem (by omega)⟩
  have hfa : a < x.fr.length := by omega
  have hfn := hfr f (List.mem_of_getElem? hf)
  obtain ⟨d, hst⟩ : ∃ d, stepAt p ev = d := ⟨_, rfl⟩
  have hd := scene_get he
  have hdo := l12Do_fn p ev (evIn_of (List.mem_of_getElem? he))
  rw [hst] at hd hdo
  have hv : valS (events p) (scene p).ds x.fr (m + 1) a = if d.reads then valS (events p) (scene p).ds x.fr m f else if d.k == 3 then valS (events p) (scene p).ds x.fr m (srcOf (events p) (scene p).ds a a) else d.v := by
   rw [valS, if_neg h0]
   simp only [Int.toNat_natCast, hd, hf, Option.getD_some]
  rw [hv]
  have hm1 : ¬ ((m + 1 : Nat) : Int) < 1 := by omega
  have hm2 : ((m + 1 : Nat) : Int) - 1 = m := by omega
  generalize hM : ((m + 1 : Nat) : Int) = M1 at hm1 hm2
  generalize hR : (if d.reads then valS (events p) (scene p).ds x.fr m f else if d.k == 3 then valS (events p) (scene p).ds x.fr m (srcOf (events p) (scene p).ds a a) else d.v) = R
  have hM2 : M1 = (m : Int) + 1 := by omega
  refine Fc.start (S := []) Tryz.func131 Tryz.ntmps131 Tryz.results131 rfl (by decide) rfl (by kernel_rfl) ?_
  simp (disch := omega) only [push_cast, go_sem, zA, simprocAttr, progV_eq, Exe.V_eq, h0, hm1]
  intro g1 g2
  refine Sat.drawnE [(0, 6), (4, 6), (5, 6)] [] [0, 4, 5] (pureT [(130, d.V)]) (by kernel_rfl) (by kernel_rfl) ?_
  simp (disch := omega) only [push_cast, go_sem, zA, simprocAttr, he, ha, Evt.V_eq]
  refine runD_pure rfl hdo rfl rfl ?_ ?_
  ·rfl
  simp (disch := omega) only [push_cast, go_sem, zA, simprocAttr, Do.V_eq]
  intro g3
  refine callR.pure (l1Reads_fn d) rfl rfl ?_
  cases hr : d.reads
  ·rw [hr] at hR
   simp only [Bool.false_eq_true, if_false] at hR
   cases h3 : (d.k == 3)
   ·rw [h3] at hR
    simp only [Bool.false_eq_true, if_false] at hR
    simp (disch := omega) only [push_cast, go_sem, zA, simprocAttr, h3]
    exact hR
   ·rw [h3] at hR
    simp only [if_true] at hR
    have hs := srcOf_lt (es := events p) (ds := (scene p).ds) (i := a) a
    simp (disch := omega) only [push_cast, go_sem, zA, simprocAttr, h3]
    refine Sat.drawnE [] [] [0, 2, 3, 6, 9] (pureT [(149, .int .i64 (srcOf (events p) (scene p).ds a a)), (131, .int .i64 R)]) (by kernel_rfl) (by kernel_rfl) ?_
    simp (disch := omega) only [push_cast, go_sem, zA, simprocAttr]
    refine runD_pure rfl (l12Source_fn p a hn ha) rfl rfl ?_ ?_
    ·rfl
    simp (disch := omega) only [push_cast, go_sem, zA, simprocAttr, hm2]
    refine runD_pure rfl (by rw [← hR]; exact ih _ (by omega) (by omega)) rfl rfl ?_ ?_
    ·rfl
    simp (disch := omega) only [push_cast, go_sem, zA, simprocAttr]
  ·rw [hr] at hR
   simp only [if_true] at hR
   simp (disch := omega) only [push_cast, go_sem, zA, simprocAttr]
   refine Sat.drawnE [] [] [0, 2, 4, 7, 10] (pureT [(131, .int .i64 R)]) (by kernel_rfl) (by kernel_rfl) ?_
   simp (disch := omega) only [push_cast, go_sem, zA, simprocAttr, hf, hfa, hm2]
   refine runD_pure rfl (by rw [← hR]; exact ih _ (by omega) (by omega)) rfl rfl ?_ ?_
   ·rfl
   simp (disch := omega) only [push_cast, go_sem, zA, simprocAttr]
end
section
open Go.RowKit
def endS (p : Prog) (fr : List Int) (i : Nat) : Bool := !decide (valS (events p) (scene p).ds fr (2 * (events p).length + 2) i < 0)
def endsS (p : Prog) (x : Exe) : Bool := (List.range (events p).length).all (endS p x.fr)
theorem range_get {n k : Nat} (h : k < n) : (List.range n)[k]? = some k := by simp [h]
theorem l12Ends_fn (p : Prog) (x : Exe) (hn : (events p).length ≤ 42) (hfl : x.fr.length = (events p).length) (hfr : ∀ f ∈ x.fr, f < (events p).length) :
  Fp Tryz.prog 91 [progV p, .sl ((events p).map Evt.V), x.V] (.bool (endsS p x)) := by
 refine Fc.start (S := [6]) Tryz.func91 Tryz.ntmps91 Tryz.results91 rfl (by decide) rfl (by kernel_rfl) ?_
 simp (disch := omega) only [push_cast, go_sem, zA, simprocAttr, progV_eq, Exe.V_eq]
 intro g1 g2
 refine Sat.loop (σ := Nat) (fun k => upd (upd (upd (upd noT 3 (.ptr 3 [] 0 0 g1 1)) 5 (.ptr 5 [] 0 0 g2 2)) 1 (.sl ((events p).map Evt.V))) 7 (.int .i64 k))
  (fun _ => (noM.set 3 (.own 25 (some g1) 1 [.agg [.sl (p.map thrV)]])).set 5 (.own 61 (some g2) 1 [.agg [.sl (x.fr.map (V.int .i64)), .sl (x.od.map intsV)]]))
  (fun k => k ≤ (events p).length ∧ ((List.range (events p).length).take k).all (endS p x.fr) = true) (fun k => (events p).length - k) 0 (by simp) ?_ ?_
 ·(refine zB ?_; repeat (first | exact zC | exact zD | refine zE (by decide) ?_ | refine zF ?_ ?_ | refine zG ?_ ?_)) <;> (try simp (disch := omega) only [push_cast, go_sem, zA, simprocAttr])
 rintro k ⟨hk, hall⟩ J hJ
 refine Sat.of (S := []) (by kernel_rfl) ?_
 rcases Nat.lt_or_ge k (events p).length with hlt | hge
 ·have hv := l12Val_fn p x hn hfl hfr (2 * (events p).length + 2) k (by omega) (by omega)
  rw [show ((2 * (events p).length + 2 : Nat) : Int) = 2 * ((events p).length : Int) + 2 by omega] at hv
  simp (disch := omega) only [push_cast, go_sem, zA, simprocAttr, hlt]
  refine callR.pure hv rfl rfl ?_
  by_cases h0 : valS (events p) (scene p).ds x.fr (2 * (events p).length + 2) k < 0
  ·simp (disch := omega) only [push_cast, go_sem, zA, simprocAttr, h0]
   rw [endsS, allp_no (range_get hlt) (by simp [endS, h0])]
  ·simp (disch := omega) only [push_cast, go_sem, zA, simprocAttr, h0]
   refine hJ (k + 1) _ _ ⟨by omega, allp_take (range_get hlt) hall (by simp [endS, h0])⟩ (by omega) ?_
   (refine zB ?_; repeat (first | exact zC | exact zD | refine zE (by decide) ?_ | refine zF ?_ ?_ | refine zG ?_ ?_)) <;> (try simp (disch := omega) only [push_cast, go_sem, zA, simprocAttr])
 ·have : k = (events p).length := by omega
  subst this
  rw [List.take_of_length_le (by simp)] at hall
  simp (disch := omega) only [push_cast, go_sem, zA, simprocAttr]
  refine Sat.of (S := []) (by kernel_rfl) ?_
  simp (disch := omega) only [push_cast, go_sem, zA, simprocAttr]
  rw [endsS, hall]
def placeS (ds : List Do) (od : List (List Int)) (k : Nat) : Bool := (writersOf ds k).length == (od[k]?.getD []).length && (writersOf ds k).all (od[k]?.getD []).contains
def fromS (od : List (List Int)) (q : Do × Int) : Bool := if q.1.reads then q.2 == -1 || (od[q.1.p.toNat]?.getD []).contains q.2 else q.2 == -2
def formS (p : Prog) (x : Exe) : Bool := decide (x.fr.length = (events p).length) && decide (x.od.length = 3) && (List.range 3).all (placeS (scene p).ds x.od) && ((scene p).ds.zip x.fr).all (fromS x.od)
end
section
open Go.RowKit
section
variable {P : Program} {M Mf : Mem} {k : V → Mem → Prop} {c : Bool}
theorem mg_skip : ∀ {xs ks : List (Option Nat)} {i : Nat}, (xs.all fun x => x.isNone) = true → mg i (xs ++ ks) M Mf = mg (i + xs.length) ks M Mf
 | [], ks, i, h => rfl
 | none :: xs, ks, i, h => by
  simp only [List.all_cons, Bool.and_eq_true] at h
  rw [List.cons_append, mg, mg_skip h.2, List.length_cons, Nat.add_right_comm]; rfl
 | some x :: xs, ks, i, h => by simp at h
theorem renArgs_app : ∀ {xs ys : List V} {i : Nat}, (xs.all fun v => v.key.isNone) = true → renArgs i (xs ++ ys) = xs ++ renArgs (i + xs.length) ys
 | [], ys, i, h => rfl
 | x :: xs, ys, i, h => by
  simp only [List.all_cons, Bool.and_eq_true] at h
  have e : x.ren i = x := by cases x <;> first | rfl | (simp [V.key] at h)
  rw [List.cons_append, renArgs, renArgs_app h.2, List.length_cons, e]
  rw [show i + 1 + xs.length = i + (xs.length + 1) by omega]; rfl
theorem foot_at {xs ks : List (Option Nat)} {j : Nat} : footM M (xs ++ ks) (xs.length + j) = ((ks[j]?).bind id).bind M := by
 rw [footM_at, List.getElem?_append_right (by omega), Nat.add_sub_cancel_left]
theorem runD_two {spec : Table} {fn : FuncId} (xs : List V) {a b d l1 c1 l2 c2 : Nat} {γ1 γ2 : Option Nat} {o1 o2 : V} {R : Post} (h : spec fn (xs ++ [.msl xs.length [] γ1 l1 c1, .msl (xs.length + 1) [] γ2 l2 c2]) (footM M ((xs ++ [V.msl a [] γ1 l1 c1, V.msl b [] γ2 l2 c2]).map V.key)) = some R)
  (hc : Fc P fn (xs ++ [.msl xs.length [] γ1 l1 c1, .msl (xs.length + 1) [] γ2 l2 c2]) ((noM.set xs.length o1).set (xs.length + 1) o2) R) (ha : M a = some o1) (hb : M b = some o2) (hab : a ≠ b) (hk : (xs.all fun v => v.key.isNone) = true) (h9 : Nat.ble (xs.length + 2) 90 = true)
  (hR : ∀ r m, R r m → ∃ γ l c ob, r = .msl 100 [] γ l c ∧ m = noM.set 100 ob) (hne : ∃ r m, R r m) (hchk : c = true) (hK : ∀ γ l c ob, R (.msl 100 [] γ l c) (noM.set 100 ob) → runV (some (True, det (.msl d [] γ l c) (((M.era b).era a).set d ob))) k .mk) :
  runD (callV (specT P spec) fn (xs ++ [.msl a [] γ1 l1 c1, .msl b [] γ2 l2 c2]) (some d) M) false M c k .mk := by
 have h90 := Nat.le_of_ble_eq_true h9
 have hk' : ((xs.map V.key).all fun x => x.isNone) = true := by rw [List.all_map]; exact hk
 have hren : renArgs 0 (xs ++ [.msl a [] γ1 l1 c1, .msl b [] γ2 l2 c2]) = xs ++ [.msl xs.length [] γ1 l1 c1, .msl (xs.length + 1) [] γ2 l2 c2] := by
  rw [renArgs_app hk, Nat.zero_add]; rfl
 have hks : (xs ++ [V.msl a [] γ1 l1 c1, V.msl b [] γ2 l2 c2]).map V.key = xs.map V.key ++ [some a, some b] := by rw [List.map_append]; rfl
 have hlen : (xs.map V.key).length = xs.length := List.length_map ..
 refine runD_call (F := (noM.set xs.length o1).set (xs.length + 1) o2) (R := R) (by rw [hren]; exact h) (by rw [hren]; exact hc) ?_ ?_ (by simp; omega) hne nofun hchk ?_
 ·rw [hks]
  refine Sub.set (Sub.set Sub.no ?_) ?_
  ·have := foot_at (M := M) (xs := xs.map V.key) (ks := [some a, some b]) (j := 0)
   rw [hlen, Nat.add_zero] at this
   rw [this]; exact ha
  ·have := foot_at (M := M) (xs := xs.map V.key) (ks := [some a, some b]) (j := 1)
   rw [hlen] at this
   rw [this]; exact hb
 ·rw [hks, List.filterMap_append, keys_none hk', List.nil_append]
  simp [List.filterMap_cons, hab]
 ·rintro r0 r Mf hr h5
  obtain ⟨γ, l, c, ob, rfl, rfl⟩ := hR r0 Mf hr
  have e1 : (noM.set 100 ob) 100 = some ob := rfl
  have e2 : ∀ i, i < 100 → (noM.set 100 ob) i = none := fun i hi => by simp [Mem.set, noM]; omega
  rw [hks, merge_eq, e1, mgD_some, mg_skip hk', Nat.zero_add, hlen, mg_some, mg_some, e2 _ (by omega), e2 _ (by omega), MemU_none, MemU_none, mg_nil, h5 d rfl]
  exact (runV_det.1 (hK γ l c ob hr)).2
theorem Fc.nils {f : FuncId} {xs : List V} {e1 e2 : TypeId} {R : Post} (h : Fc P f (xs ++ [.msl xs.length [] none 0 0, .msl (xs.length + 1) [] none 0 0]) ((noM.set xs.length (.own e1 none 0 [])).set (xs.length + 1) (.own e2 none 0 [])) R) : Fc P f (xs ++ [.nilsl, .nilsl]) noM R := by
 refine ⟨fun imm w vals hG hI hi hs hv => ?_, h.go⟩
 have hI2 : Inv (szT P) imm w ((noM.set xs.length (.own e1 none 0 [])).set (xs.length + 1) (.own e2 none 0 [])) := (hI.nilrow _ _).nilrow _ _
 refine (h.fn imm w vals hG hI2 hi (by simpa using hs) ?_).mono ?_
 ·intro j c u hc hu
  rcases Nat.lt_or_ge j xs.length with hj | hj
  ·rw [List.getElem?_append_left hj] at hc
   exact hv j c u (by rw [List.getElem?_append_left hj]; exact hc) hu
  ·have hjx : xs.length ≤ j := hj
   rw [List.getElem?_append_right hjx] at hc
   have hv' := fun c' hc' => hv j c' u (by rw [List.getElem?_append_right hjx]; exact hc') hu
   generalize j - xs.length = n at *
   match n with
   | 0 => cases hc; have := hv' .nilsl rfl; cases this; exact .msl _ _ none _ _
   | 1 => cases hc; have := hv' .nilsl rfl; cases this; exact .msl _ _ none _ _
   | n + 2 => cases hc
 ·rintro e w' ⟨v, r, m, imm', h1, h2, h3, h4⟩
  refine ⟨v, r, m, imm', h1, h2, h3, h4.inv, h4.lt, h4.size, h4.os, h4.tape, h4.output, fun g hg _ => h4.block g hg ?_, fun g hg => (h4.owns g hg).imp_left ?_⟩
  ·exact fun ho => not_owns_no (owns_nilrow (owns_nilrow ho))
  ·exact fun ho => owns_nilrow (owns_nilrow ho)
end
def rowsP (L : List (List Int)) : Post := fun r m => ∃ γ c e, ∃ ws : List RowI, r = .msl 100 [] γ ws.length c ∧ m = noM.set 100 (.own e γ c (ws.map RowI.V)) ∧ ws.map RowI.l = L ∧ (γ = none ∨ e = 32)
theorem rowsP_one {L : List (List Int)} : ∀ r m, rowsP L r m → ∃ γ l c ob, r = .msl 100 [] γ l c ∧ m = noM.set 100 ob := by
 rintro r m ⟨γ, c, e, ws, rfl, rfl, _⟩
 exact ⟨γ, _, c, _, rfl, rfl⟩
theorem rowsP_ne (L : List (List Int)) : ∃ r m, rowsP L r m := ⟨_, _, none, 0, 0, L.map fun l => ⟨none, 0, l⟩, rfl, rfl, by rw [List.map_map]; exact List.map_id'' (fun _ => rfl) L, .inl rfl⟩
theorem runD_rows {M : Mem} {k : V → Mem → Prop} {cc : Bool} {spec : Table} {fn : FuncId} (xs : List V) {a b d l1 c1 l2 c2 : Nat} {γ1 γ2 : Option Nat} {o1 o2 : V} {L : List (List Int)} (h : spec fn (xs ++ [.msl xs.length [] γ1 l1 c1, .msl (xs.length + 1) [] γ2 l2 c2]) (footM M ((xs ++ [V.msl a [] γ1 l1 c1, V.msl b [] γ2 l2 c2]).map V.key)) = some (rowsP L))
  (hc : Fc Tryz.prog fn (xs ++ [.msl xs.length [] γ1 l1 c1, .msl (xs.length + 1) [] γ2 l2 c2]) ((noM.set xs.length o1).set (xs.length + 1) o2) (rowsP L)) (ha : M a = some o1) (hb : M b = some o2) (hab : a ≠ b) (hk : (xs.all fun v => v.key.isNone) = true) (h9 : Nat.ble (xs.length + 2) 90 = true)
  (hchk : cc = true) (hK : ∀ γ c e, ∀ ws : List RowI, ws.map RowI.l = L → (γ = none ∨ e = 32) → runV (some (True, det (.msl d [] γ ws.length c) (((M.era b).era a).set d (.own e γ c (ws.map RowI.V))))) k .mk) :
  runD (callV (specT Tryz.prog spec) fn (xs ++ [.msl a [] γ1 l1 c1, .msl b [] γ2 l2 c2]) (some d) M) false M cc k .mk := by
 refine runD_two xs h hc ha hb hab hk h9 rowsP_one (rowsP_ne L) hchk ?_
 rintro γ l c ob ⟨γ', c', e, ws, h1, h2, h3, h4⟩
 cases h1
 have := congrFun h2 100
 simp only [Mem.set, if_true, Option.some.injEq] at this
 subst this
 exact hK γ c e ws h3 h4
theorem flatMap_take {α β : Type} (f : α → List β) (l : List α) (k : Nat) : ((l.take k).flatMap f).length ≤ (l.flatMap f).length := by
 conv => rhs; rw [← List.take_append_drop k l, List.flatMap_append, List.length_append]
 exact Nat.le_add_right _ _
def compl (ds : List Do) : Nat → List Int → List (List Int)
 | 0, fr => [fr]
 | j + 1, fr => match ds[fr.length]? with
  | some d => (choicesOf ds d).flatMap fun c => compl ds j (fr ++ [c])
  | none => [fr]
theorem rowsP_of {f : FuncId} {args : List V} {F : Mem} {L : List (List Int)} (h : Fc Tryz.prog f args F fun r m => ∃ s γ c e, ∃ ws : List RowI, r = .msl s [] γ ws.length c ∧ m = noM.set s (.own e γ c (ws.map RowI.V)) ∧ ws.map RowI.l = L ∧ (γ = none ∨ e = 32)) : Fc Tryz.prog f args F (rowsP L) :=
 h.rekey (by
  rintro r m ⟨s, γ, c, e, ws, rfl, rfl, h1, h2⟩
  exact .inr ⟨s, γ, ws.length, c, _, rfl, by simp [Mem.set], γ, c, e, ws, rfl, era_set rfl, h1, h2⟩)
theorem l12Froms_fn (p : Prog) (hn : (events p).length ≤ 42) : ∀ (j : Nat) (fr : RowI) (γ : Option Nat) (c : Nat) (e : TypeId) (ys : List RowI), fr.l.length + j = (events p).length → ys.length + (compl (scene p).ds j fr.l).length < 2 ^ 30 → (γ = none ∨ e = 32) →
  Fc Tryz.prog 89 [progV p, .sl ((events p).map Evt.V), .msl 2 [] fr.γ fr.l.length fr.c, .msl 3 [] γ ys.length c] ((noM.set 2 fr.V).set 3 (.own e γ c (ys.map RowI.V))) (rowsP (ys.map RowI.l ++ compl (scene p).ds j fr.l)) := by
 intro j
 induction j with
 | zero =>
  rintro ⟨γ0, c0, l⟩ γ c e ys hlen hb hγ
  simp only [Nat.add_zero] at hlen
  rw [RowI.V_eq]
  simp only [compl, List.length_singleton] at hb ⊢
  have hγ' : (γ = none ∨ e = 32) = True := by simp only [hγ]
  have hge : (l.length : Int) ≥ (events p).length := by omega
  have hge2 : (((events p).length : Int) ≤ l.length) := by omega
  refine rowsP_of ?_
  refine Fc.start (S := []) Tryz.func89 Tryz.ntmps89 Tryz.results89 rfl (by decide) rfl (by kernel_rfl) ?_
  simp (disch := omega) only [push_cast, go_sem, zA, simprocAttr, progV_eq, hge, hge2, hγ']
  intro g g1
  refine ⟨by omega, fun γ1 c1 _ => ?_⟩
  intro g2
  cases hfl : (V.own 3 γ1 c1 (l.map (V.int .i64))).flatC <;> simp (disch := omega) only [push_cast, go_sem, zA, simprocAttr, hγ', hfl]
  all_goals
   refine ⟨by omega, fun γ3 c3 _ => ?_⟩
   refine ⟨_, ?_, 8, γ3, c3, 32, ys ++ [⟨γ1, c1, l⟩], by simp, rfl, by simp, .inr rfl⟩
   ((repeat (first | exact Sub.no | refine Sub.set ?_ ?_)) <;> (try simp (disch := omega) only [push_cast, go_sem, zA, simprocAttr]))
   all_goals simp [RowI.V]
 | succ j ih =>
  rintro ⟨γ0, c0, l⟩ γ c e ys hlen hb hγ
  simp only at hlen
  rw [RowI.V_eq]
  simp only at hb ⊢
  have hlt : l.length < (events p).length := by omega
  obtain ⟨ev, he⟩ : ∃ d, (events p)[l.length]? = some d := ⟨_, List.getElem?_eq_getElem hlt⟩
  obtain ⟨d, hst⟩ : ∃ d, stepAt p ev = d := ⟨_, rfl⟩
  have hd := scene_get he
  have hdo := l12Do_fn p ev (evIn_of (List.mem_of_getElem? he))
  rw [hst] at hd hdo
  have hcp : compl (scene p).ds (j + 1) l = (choicesOf (scene p).ds d).flatMap fun c => compl (scene p).ds j (l ++ [c]) := by rw [compl, hd]
  rw [hcp] at hb ⊢
  have hγ' : (γ = none ∨ e = 32) = True := by simp only [hγ]
  have hge : ¬ ((l.length : Int) ≥ (events p).length) := by omega
  have hge2 : ¬ (((events p).length : Int) ≤ l.length) := by omega
  refine rowsP_of ?_
  refine Fc.start (S := [2005]) Tryz.func89 Tryz.ntmps89 Tryz.results89 rfl (by decide) rfl (by kernel_rfl) ?_
  simp (disch := omega) only [push_cast, go_sem, zA, simprocAttr, progV_eq, hge, hge2]
  intro g1
  refine Sat.drawnE [(0, 6), (4, 6), (5, 6)] [] [0, 4, 5] (pureT [(130, d.V)]) (by kernel_rfl) (by kernel_rfl) ?_
  simp (disch := omega) only [push_cast, go_sem, zA, simprocAttr, he, hlt, Evt.V_eq]
  refine runD_pure rfl hdo rfl rfl ?_ ?_
  ·rfl
  simp (disch := omega) only [push_cast, go_sem, zA, simprocAttr, Do.V_eq]
  intro g3
  refine Sat.of (S := [13]) (by kernel_rfl) ?_
  simp (disch := omega) only [push_cast, go_sem, zA, simprocAttr]
  refine callR.pure (l1Reads_fn d) rfl rfl ?_
  cases hr : d.reads
  ·have hch : choicesOf (scene p).ds d = [-2] := by simp [choicesOf, hr]
   rw [hch] at hb ⊢
   simp only [List.flatMap_cons, List.flatMap_nil, List.append_nil] at hb ⊢
   simp (disch := omega) only [push_cast, go_sem, zA, simprocAttr]
   refine Sat.drawnE [(0, 2), (0, 4), (0, 5), (2, 5), (4, 5), (0, 6)] [] [] (fun f' _ _ => if f' = 89 then some (rowsP (ys.map RowI.l ++ compl (scene p).ds j (l ++ [-2]))) else none) (by kernel_rfl) (by kernel_rfl) ?_
   simp (disch := omega) only [push_cast, go_sem, zA, simprocAttr]
   intro g4
   refine ⟨by omega, fun γ1 c1 _ => ?_⟩
   intro g5
   refine ⟨by omega, fun γ2 c2 _ => ?_⟩
   have hih := ih ⟨γ2, c2, l ++ [-2]⟩ γ c e ys (by simp; omega) hb hγ
   simp only [RowI.V, List.length_append, List.map_append, List.map_cons, List.map_nil, List.length_cons, List.length_nil, Nat.zero_add] at hih
   refine runD_rows [_, _] rfl hih rfl rfl (by decide) rfl rfl rfl ?_
   intro γ3 c3 e3 ws hws hγ3
   simp (disch := omega) only [push_cast, go_sem, zA, simprocAttr]
   refine ⟨_, ?_, 8, γ3, c3, e3, ws, rfl, rfl, hws, hγ3⟩
   ((repeat (first | exact Sub.no | refine Sub.set ?_ ?_)) <;> (try simp (disch := omega) only [push_cast, go_sem, zA, simprocAttr]))
  ·have hch : choicesOf (scene p).ds d = -1 :: writersOf (scene p).ds d.p := by simp [choicesOf, hr]
   rw [hch] at hb ⊢
   simp only [List.flatMap_cons, List.length_append] at hb ⊢
   obtain ⟨vs, hvs⟩ : ∃ vs, writersOf (scene p).ds d.p = vs := ⟨_, rfl⟩
   have hvl : vs.length ≤ 42 := by
    have h1 : (scene p).ds.length = (events p).length := by simp [scene]
    have := wrs_le (scene p).ds d.p (scene p).ds.length
    rw [← hvs]; unfold writersOf; omega
   have hwr := l12Writes_fn p d.p hn
   rw [hvs] at hb hwr ⊢
   simp (disch := omega) only [push_cast, go_sem, zA, simprocAttr]
   refine Sat.drawnE [(0, 2), (0, 4), (0, 5), (2, 5), (4, 5), (0, 6)] [] [] (fun f' _ _ => if f' = 89 then some (rowsP (ys.map RowI.l ++ compl (scene p).ds j (l ++ [-1]))) else none) (by kernel_rfl) (by kernel_rfl) ?_
   simp (disch := omega) only [push_cast, go_sem, zA, simprocAttr]
   intro g4
   refine ⟨by omega, fun γ1 c1 _ => ?_⟩
   intro g5
   refine ⟨by omega, fun γ2 c2 _ => ?_⟩
   have hih := ih ⟨γ2, c2, l ++ [-1]⟩ γ c e ys (by simp; omega) (by dsimp only; omega) hγ
   simp only [RowI.V, List.length_append, List.map_append, List.map_cons, List.map_nil, List.length_cons, List.length_nil, Nat.zero_add] at hih
   refine runD_rows [_, _] rfl hih rfl rfl (by decide) rfl rfl rfl ?_
   intro γ3 c3 e3 ws hws hγ3
   simp (disch := omega) only [push_cast, go_sem, zA, simprocAttr]
   refine callR.pure hwr rfl rfl ?_
   simp (disch := omega) only [push_cast, go_sem, zA, simprocAttr, intsV_eq]
   refine Sat.loop (σ := EvS × List RowI) (fun x => upd (upd (upd (upd (upd (upd noT 4 (.ptr 4 [] 0 0 g1 1)) 1 (.sl ((events p).map Evt.V))) 2 (.msl 2 [] γ0 l.length c0)) 11 (.sl (vs.map (V.int .i64)))) 12 (.int .i64 x.1.k)) 3 (.msl 3 [] x.1.γ x.2.length x.1.c))
    (fun x => ((noM.set 4 (.own 25 (some g1) 1 [.agg [.sl (p.map thrV)]])).set 2 (.own 3 γ0 c0 (l.map (V.int .i64)))).set 3 (.own x.1.e x.1.γ x.1.c (x.2.map RowI.V)))
    (fun x => x.1.k ≤ vs.length ∧ (x.1.γ = none ∨ x.1.e = 32) ∧ x.2.map RowI.l = (ys.map RowI.l ++ compl (scene p).ds j (l ++ [-1])) ++ (vs.take x.1.k).flatMap fun c => compl (scene p).ds j (l ++ [c])) (fun x => vs.length - x.1.k) (⟨0, e3, γ3, c3⟩, ws) (by simp [hγ3, hws]) ?_ ?_
   ·(refine zB ?_; repeat (first | exact zC | exact zD | refine zE (by decide) ?_ | refine zF ?_ ?_ | refine zG ?_ ?_)) <;> (try simp (disch := omega) only [push_cast, go_sem, zA, simprocAttr])
   rintro ⟨⟨k, e4, γ4, c4⟩, zs⟩ ⟨hk, hγ4, hzs⟩ J hJ
   simp only at hk hγ4 hzs hJ
   refine Sat.of (S := []) (by kernel_rfl) ?_
   rcases Nat.lt_or_ge k vs.length with hlt2 | hge2
   ·obtain ⟨z, hz⟩ : ∃ z, vs[k]? = some z := ⟨_, List.getElem?_eq_getElem hlt2⟩
    have hzl : zs.length = ys.length + (compl (scene p).ds j (l ++ [-1])).length + ((vs.take k).flatMap fun c => compl (scene p).ds j (l ++ [c])).length := by
     have := congrArg List.length hzs
     simpa only [List.length_map, List.length_append] using this
    have hft := flatMap_take (fun c => compl (scene p).ds j (l ++ [c])) vs (k + 1)
    rw [take_get hz, List.flatMap_append, List.length_append] at hft
    simp only [List.flatMap_cons, List.flatMap_nil, List.append_nil] at hft
    simp (disch := omega) only [push_cast, go_sem, zA, simprocAttr, hlt2]
    refine Sat.drawnE [(0, 2), (0, 4), (0, 8), (2, 8), (4, 8), (0, 9), (2, 9), (4, 9), (0, 10)] [] [] (fun f' _ _ => if f' = 89 then some (rowsP (zs.map RowI.l ++ compl (scene p).ds j (l ++ [z]))) else none) (by kernel_rfl) (by kernel_rfl) ?_
    simp (disch := omega) only [push_cast, go_sem, zA, simprocAttr, hz, hlt2]
    intro g6
    refine ⟨by omega, fun γ5 c5 _ => ?_⟩
    intro g7
    refine ⟨by omega, fun γ6 c6 _ => ?_⟩
    have hih := ih ⟨γ6, c6, l ++ [z]⟩ γ4 c4 e4 zs (by simp; omega) (by dsimp only; omega) hγ4
    simp only [RowI.V, List.length_append, List.map_append, List.map_cons, List.map_nil, List.length_cons, List.length_nil, Nat.zero_add] at hih
    refine runD_rows [_, _] rfl hih rfl rfl (by decide) rfl rfl rfl ?_
    intro γ7 c7 e7 us hus hγ7
    simp (disch := omega) only [push_cast, go_sem, zA, simprocAttr]
    refine hJ (⟨k + 1, e7, γ7, c7⟩, us) _ _ ⟨by dsimp only; omega, hγ7, ?_⟩ (by dsimp only; omega) ?_
    ·dsimp only
     rw [hus, hzs, take_get hz, List.flatMap_append]
     simp
    ·(refine zB ?_; repeat (first | exact zC | exact zD | refine zE (by decide) ?_ | refine zF ?_ ?_ | refine zG ?_ ?_)) <;> (try simp (disch := omega) only [push_cast, go_sem, zA, simprocAttr])
   ·have : k = vs.length := by omega
    subst this
    rw [List.take_length] at hzs
    simp (disch := omega) only [push_cast, go_sem, zA, simprocAttr]
    refine Sat.of (S := []) (by kernel_rfl) ?_
    simp (disch := omega) only [push_cast, go_sem, zA, simprocAttr]
    refine ⟨_, ?_, 8, γ4, c4, e4, zs, rfl, rfl, by rw [hzs, List.append_assoc], hγ4⟩
    ((repeat (first | exact Sub.no | refine Sub.set ?_ ?_)) <;> (try simp (disch := omega) only [push_cast, go_sem, zA, simprocAttr]))
end
section
open Go.RowKit
section
variable {P : Program} {M : Mem} {k : V → Mem → Prop}
theorem set_self {a : Nat} {o : V} (h : M a = some o) : M.set a o = M := by
 funext i; simp only [Mem.set]; split
 ·rename_i e; rw [e, h]
 ·rfl
theorem Sat.someG {N : Nat} {cd : Code} {t : Nat → V} {K : Kont} {o : Nat} {e : TypeId} {γ : Option Nat} {cap : Nat} {es : List V} (ho : M o = some (.own e γ cap es)) (hne : es ≠ []) (h : ∀ g, γ = some g → Sat P N cd t M K) : Sat P N cd t M K := by
 intro imm0 w0 M0 imm a w hr
 cases γ with
 | some g => exact h g rfl _ _ _ _ _ _ hr
 | none =>
  have := hr.step.inv.nd o [] (.own e none cap es) (by simp [Mem.getP, ho, V.getP])
  exact absurd this.1 hne
theorem callR.peek {f : FuncId} {bs : List V} {a l c : Nat} {γ : Option Nat} {o v : V} {d : Nat} (h : Fc P f (.msl 0 [] γ l c :: bs) (noM.set 0 o) fun r m => r = v ∧ m = noM.set 0 o) (hM : M a = some o) (hk : (bs.all fun v => v.key.isNone) = true) (h9 : Nat.ble (bs.length + 1) 90 = true)
  (hK : runV (some (True, det (resN (some d) v) M)) k .mk) : callR P f (.msl a [] γ l c :: bs) (some d) M k .mk := by
 have hk' : ((bs.map V.key).all fun x => x.isNone) = true := by rw [List.all_map]; exact hk
 refine callR.intro (F := noM.set 0 o) (R := fun r m => r = v ∧ m = noM.set 0 o) (by rw [renArgs_cons, renArgs_none hk]; exact h) ?_ (Nat.le_of_ble_eq_true h9) ?_ ?_
 ·rw [List.map_cons, List.filterMap_cons]
  show (a :: (bs.map V.key).filterMap id).Nodup
  rw [keys_none hk']; simp
 ·exact Sub.set Sub.no (by simp [footM, V.key, hM])
 ·rintro r0 Mf ⟨rfl, rfl⟩
  have : mergeM M ((V.msl a [] γ l c :: bs).map V.key) (some d) (noM.set 0 o) = M := by
   rw [merge_eq, List.map_cons]
   have e1 : (noM.set 0 o) 100 = none := rfl
   have e2 : (noM.set 0 o) 0 = some o := rfl
   rw [e1, mgD_none', key_msl, mg_some, e2, mg_all_none hk', MemU_some, set_self hM]
  rw [this]
  exact (runV_det.1 hK).2
end
theorem l12HasO_fn (zs : List Int) (x : Int) (γ : Option Nat) (c : Nat) (hl : zs.length < 2 ^ 40) : Fc Tryz.prog 102 [.msl 0 [] γ zs.length c, .int .i64 x] (noM.set 0 (.own 3 γ c (zs.map (V.int .i64)))) fun r m => r = .bool (zs.contains x) ∧ m = noM.set 0 (.own 3 γ c (zs.map (V.int .i64))) := by
 refine Fc.start (S := [6]) Tryz.func102 Tryz.ntmps102 Tryz.results102 rfl (by decide) rfl (by kernel_rfl) ?_
 simp (disch := omega) only [push_cast, go_sem, zA, simprocAttr]
 refine Sat.loop (σ := Nat) (fun k => upd (upd (upd noT 0 (.msl 0 [] γ zs.length c)) 1 (.int .i64 x)) 5 (.int .i64 k)) (fun _ => noM.set 0 (.own 3 γ c (zs.map (V.int .i64))))
  (fun k => k ≤ zs.length ∧ zs.contains x = (zs.drop k).contains x) (fun k => zs.length - k) 0 (by simp) ?_ ?_
 ·(refine zB ?_; repeat (first | exact zC | exact zD | refine zE (by decide) ?_ | refine zF ?_ ?_ | refine zG ?_ ?_)) <;> (try simp (disch := omega) only [push_cast, go_sem, zA, simprocAttr])
 rintro k ⟨hk, hc⟩ J hJ
 rcases Nat.lt_or_ge k zs.length with hlt | hge
 ·refine Sat.someG (o := 0) (e := 3) (γ := γ) (cap := c) (es := zs.map (V.int .i64)) rfl (fun h => by have := congrArg List.length h; simp at this; subst this; simp at hlt) ?_
  rintro g rfl
  refine Sat.of (S := []) (by kernel_rfl) ?_
  obtain ⟨z, hz⟩ : ∃ z, zs[k]? = some z := ⟨_, List.getElem?_eq_getElem hlt⟩
  rw [drop_get hz, List.contains_cons] at hc
  cases hx : (z == x)
  ·simp (disch := omega) only [push_cast, go_sem, zA, simprocAttr, hz, hlt, hx]
   refine hJ (k + 1) _ _ ⟨by omega, ?_⟩ (by omega) ?_
   ·rw [hc]
    have : (x == z) = false := beq_eq_false_iff_ne.2 fun h => beq_eq_false_iff_ne.1 hx h.symm
    rw [this, Bool.false_or]
   ·(refine zB ?_; repeat (first | exact zC | exact zD | refine zE (by decide) ?_ | refine zF ?_ ?_ | refine zG ?_ ?_)) <;> (try simp (disch := omega) only [push_cast, go_sem, zA, simprocAttr])
  ·simp (disch := omega) only [push_cast, go_sem, zA, simprocAttr, hz, hlt, hx]
   have : (x == z) = true := beq_iff_eq.2 (beq_iff_eq.1 hx).symm
   refine ⟨_, ?_, by rw [hc, this, Bool.true_or], rfl⟩
   ((repeat (first | exact Sub.no | refine Sub.set ?_ ?_)) <;> (try simp (disch := omega) only [push_cast, go_sem, zA, simprocAttr]))
 ·have : k = zs.length := by omega
  subst this
  refine Sat.of (S := [6]) (by kernel_rfl) ?_
  simp (disch := omega) only [push_cast, go_sem, zA, simprocAttr]
  refine Sat.of (S := []) (by kernel_rfl) ?_
  simp (disch := omega) only [push_cast, go_sem, zA, simprocAttr]
  refine ⟨_, ?_, by rw [hc, List.drop_length]; rfl, rfl⟩
  ((repeat (first | exact Sub.no | refine Sub.set ?_ ?_)) <;> (try simp (disch := omega) only [push_cast, go_sem, zA, simprocAttr]))
def rowsR (l : List Int) : Nat → List Int → List (List Int)
 | 0, h => [h]
 | j + 1, h => l.flatMap fun z => if h.contains z then [] else rowsR l j (h ++ [z])
theorem l12Rows_fn (l : List Int) (hl : l.length < 2 ^ 20) : ∀ (j : Nat) (hd : RowI) (γ : Option Nat) (c : Nat) (e : TypeId) (ys : List RowI), hd.l.length + j = l.length → ys.length + (rowsR l j hd.l).length < 2 ^ 30 → (γ = none ∨ e = 32) →
  Fc Tryz.prog 133 [intsV l, .msl 1 [] hd.γ hd.l.length hd.c, .msl 2 [] γ ys.length c] ((noM.set 1 hd.V).set 2 (.own e γ c (ys.map RowI.V))) (rowsP (ys.map RowI.l ++ rowsR l j hd.l)) := by
 intro j
 induction j with
 | zero =>
  rintro ⟨γ0, c0, h⟩ γ c e ys hlen hb hγ
  simp only [Nat.add_zero] at hlen
  rw [RowI.V_eq]
  simp only [rowsR, List.length_singleton] at hb ⊢
  have hγ' : (γ = none ∨ e = 32) = True := by simp only [hγ]
  have heq : ((h.length : Int) == l.length) = true := by rw [hlen]; simp
  refine rowsP_of ?_
  refine Fc.start (S := []) Tryz.func133 Tryz.ntmps133 Tryz.results133 rfl (by decide) rfl (by kernel_rfl) ?_
  simp (disch := omega) only [push_cast, go_sem, zA, simprocAttr, intsV_eq, heq, hγ']
  intro g1
  refine ⟨by omega, fun γ1 c1 _ => ?_⟩
  intro g2
  cases hfl : (V.own 3 γ1 c1 (h.map (V.int .i64))).flatC <;> simp (disch := omega) only [push_cast, go_sem, zA, simprocAttr, hγ', hfl]
  all_goals
   refine ⟨by omega, fun γ3 c3 _ => ?_⟩
   refine ⟨_, ?_, 6, γ3, c3, 32, ys ++ [⟨γ1, c1, h⟩], by simp, rfl, by simp, .inr rfl⟩
   ((repeat (first | exact Sub.no | refine Sub.set ?_ ?_)) <;> (try simp (disch := omega) only [push_cast, go_sem, zA, simprocAttr]))
   all_goals simp [RowI.V]
 | succ j ih =>
  rintro ⟨γ0, c0, h⟩ γ c e ys hlen hb hγ
  simp only at hlen
  rw [RowI.V_eq]
  simp only [rowsR] at hb ⊢
  have hne : ((h.length : Int) == l.length) = false := beq_eq_false_iff_ne.2 (by omega)
  obtain ⟨f, hf⟩ : ∃ f : Int → List (List Int), (fun z => if h.contains z then [] else rowsR l j (h ++ [z])) = f := ⟨_, rfl⟩
  have hfz : ∀ z, f z = if h.contains z then [] else rowsR l j (h ++ [z]) := fun z => by rw [← hf]
  rw [hf] at hb ⊢
  refine rowsP_of ?_
  refine Fc.start (S := [8]) Tryz.func133 Tryz.ntmps133 Tryz.results133 rfl (by decide) rfl (by kernel_rfl) ?_
  simp (disch := omega) only [push_cast, go_sem, zA, simprocAttr, intsV_eq, hne]
  refine Sat.loop (σ := EvS × List RowI) (fun x => upd (upd (upd (upd noT 0 (.sl (l.map (V.int .i64)))) 1 (.msl 1 [] γ0 h.length c0)) 7 (.int .i64 x.1.k)) 2 (.msl 2 [] x.1.γ x.2.length x.1.c))
   (fun x => (noM.set 1 (.own 3 γ0 c0 (h.map (V.int .i64)))).set 2 (.own x.1.e x.1.γ x.1.c (x.2.map RowI.V)))
   (fun x => x.1.k ≤ l.length ∧ (x.1.γ = none ∨ x.1.e = 32) ∧ x.2.map RowI.l = ys.map RowI.l ++ (l.take x.1.k).flatMap f) (fun x => l.length - x.1.k) (⟨0, e, γ, c⟩, ys) (by simp [hγ]) ?_ ?_
  ·(refine zB ?_; repeat (first | exact zC | exact zD | refine zE (by decide) ?_ | refine zF ?_ ?_ | refine zG ?_ ?_)) <;> (try simp (disch := omega) only [push_cast, go_sem, zA, simprocAttr])
  rintro ⟨⟨k, e4, γ4, c4⟩, zs⟩ ⟨hk, hγ4, hzs⟩ J hJ
  simp only at hk hγ4 hzs hJ
  refine Sat.of (S := []) (by kernel_rfl) ?_
  rcases Nat.lt_or_ge k l.length with hlt2 | hge2
  ·obtain ⟨z, hz⟩ : ∃ z, l[k]? = some z := ⟨_, List.getElem?_eq_getElem hlt2⟩
   have hzl : zs.length = ys.length + ((l.take k).flatMap f).length := by
    have := congrArg List.length hzs
    simpa only [List.length_map, List.length_append] using this
   have hft := flatMap_take f l (k + 1)
   rw [take_get hz, List.flatMap_append, List.length_append] at hft
   simp only [List.flatMap_cons, List.flatMap_nil, List.append_nil] at hft
   simp (disch := omega) only [push_cast, go_sem, zA, simprocAttr, hz, hlt2]
   refine callR.peek (l12HasO_fn h z γ0 c0 (by omega)) rfl rfl rfl ?_
   cases hc : h.contains z
   ·have hf1 : f z = rowsR l j (h ++ [z]) := by rw [hfz, hc]; rfl
    rw [hf1] at hft
    simp (disch := omega) only [push_cast, go_sem, zA, simprocAttr]
    refine Sat.drawnE [(1, 7), (3, 7), (1, 8), (3, 8)] [] [] (fun f' _ _ => if f' = 133 then some (rowsP (zs.map RowI.l ++ rowsR l j (h ++ [z]))) else none) (by kernel_rfl) (by kernel_rfl) ?_
    simp (disch := omega) only [push_cast, go_sem, zA, simprocAttr, hz, hlt2]
    intro g6
    refine ⟨by omega, fun γ5 c5 _ => ?_⟩
    intro g7
    refine ⟨by omega, fun γ6 c6 _ => ?_⟩
    have hih := ih ⟨γ6, c6, h ++ [z]⟩ γ4 c4 e4 zs (by simp; omega) (by dsimp only; omega) hγ4
    simp only [RowI.V, List.length_append, List.map_append, List.map_cons, List.map_nil, List.length_cons, List.length_nil, Nat.zero_add] at hih
    refine runD_rows [_] rfl hih rfl rfl (by decide) rfl rfl rfl ?_
    intro γ7 c7 e7 us hus hγ7
    simp (disch := omega) only [push_cast, go_sem, zA, simprocAttr]
    refine hJ (⟨k + 1, e7, γ7, c7⟩, us) _ _ ⟨by dsimp only; omega, hγ7, ?_⟩ (by dsimp only; omega) ?_
    ·dsimp only
     rw [hus, hzs, take_get hz, List.flatMap_append, ← hf1]
     simp
    ·(refine zB ?_; repeat (first | exact zC | exact zD | refine zE (by decide) ?_ | refine zF ?_ ?_ | refine zG ?_ ?_)) <;> (try simp (disch := omega) only [push_cast, go_sem, zA, simprocAttr])
   ·have hf1 : f z = [] := by rw [hfz, hc]; rfl
    simp (disch := omega) only [push_cast, go_sem, zA, simprocAttr]
    refine hJ (⟨k + 1, e4, γ4, c4⟩, zs) _ _ ⟨by dsimp only; omega, hγ4, ?_⟩ (by dsimp only; omega) ?_
    ·dsimp only
     rw [hzs, take_get hz, List.flatMap_append]
     simp [hf1]
    ·(refine zB ?_; repeat (first | exact zC | exact zD | refine zE (by decide) ?_ | refine zF ?_ ?_ | refine zG ?_ ?_)) <;> (try simp (disch := omega) only [push_cast, go_sem, zA, simprocAttr])
  ·have : k = l.length := by omega
   subst this
   rw [List.take_length] at hzs
   simp (disch := omega) only [push_cast, go_sem, zA, simprocAttr]
   refine Sat.of (S := []) (by kernel_rfl) ?_
   simp (disch := omega) only [push_cast, go_sem, zA, simprocAttr]
   refine ⟨_, ?_, 6, γ4, c4, e4, zs, rfl, rfl, hzs, hγ4⟩
   ((repeat (first | exact Sub.no | refine Sub.set ?_ ?_)) <;> (try simp (disch := omega) only [push_cast, go_sem, zA, simprocAttr]))
end
section
open Go.RowKit
@[push_cast] theorem okY_rows (l : List (List Int)) : okY Tryz.prog 32 (l.map intsV) = True := by
 simp only [okY, List.mem_map, eq_iff_iff, iff_true]
 rintro y ⟨d, _, rfl⟩
 exact ⟨by rw [szT_32]; rfl, by simp [intsV, V.cells, V.one]⟩
theorem rowsP_fp {f : FuncId} {args : List V} {L : List (List Int)} (h : Fc Tryz.prog f args noM (rowsP L)) : Fp Tryz.prog f args (.sl (L.map intsV)) :=
 h.fzRow (by
  rintro r m ⟨γ, c, e, ws, rfl, rfl, h1, _⟩
  exact ⟨100, γ, c, e, ws.map RowI.V, by rw [List.length_map], by simp [Mem.set], by rw [fz_rowsI, h1]⟩)
theorem l12Rows0_fn (l : List Int) (hl : l.length < 2 ^ 20) (hb : (rowsR l l.length []).length < 2 ^ 30) : Fp Tryz.prog 133 [intsV l, .nilsl, .nilsl] (.sl ((rowsR l l.length []).map intsV)) := by
 have h := l12Rows_fn l hl l.length ⟨none, 0, []⟩ none 0 32 [] (by simp) (by simpa using hb) (.inl rfl)
 exact rowsP_fp (Fc.nils (xs := [intsV l]) (e1 := 3) (e2 := 32) h)
def ordersSK (ds : List Do) : Nat → List (List (List Int))
 | 0 => [[]]
 | k + 1 => (ordersSK ds k).flatMap fun h => (rowsR (writersOf ds k) (writersOf ds k).length []).map fun r => h ++ [r]
theorem ordersSK_row {ds : List Do} : ∀ {k : Nat} {r : List (List Int)}, r ∈ ordersSK ds k → r.length = k
 | 0, r, h => by simp [ordersSK] at h; subst h; simp
 | k + 1, r, h => by
  simp only [ordersSK, List.mem_flatMap, List.mem_map] at h
  obtain ⟨h0, h1, c, _, rfl⟩ := h
  have := ordersSK_row h1
  simp; omega
theorem l12Orders_fn (p : Prog) (hn : (events p).length ≤ 42) (hR : ∀ k : Nat, k < 3 → (rowsR (writersOf (scene p).ds k) (writersOf (scene p).ds k).length []).length < 2 ^ 20) (hB : ∀ k, k ≤ 3 → (ordersSK (scene p).ds k).length < 2 ^ 30) :
  Fp Tryz.prog 90 [progV p, .sl ((events p).map Evt.V)] (.sl ((ordersSK (scene p).ds 3).map rowsV)) := by
 refine Fc.fzRow (R' := fun r m => ∃ s1 γ cap e es, r = .msl s1 [] γ es.length cap ∧ m s1 = some (.own e γ cap es) ∧ es.map V.fz = (ordersSK (scene p).ds 3).map rowsV) ?_ (fun r m h => h)
 refine Fc.start (S := [15]) Tryz.func90 Tryz.ntmps90 Tryz.results90 rfl (by decide) rfl (by kernel_rfl) ?_
 simp (disch := omega) only [push_cast, go_sem, zA, simprocAttr, progV_eq]
 intro g1 g2 g3
 refine Sat.loop (σ := EvS × List V) (fun x => upd (upd (upd (upd noT 2 (.ptr 2 [] 0 0 g1 1)) 1 (.sl ((events p).map Evt.V))) 6 (.int .i64 x.1.k)) 5 (.msl 5 [] x.1.γ x.2.length x.1.c))
  (fun x => (noM.set 2 (.own 25 (some g1) 1 [.agg [.sl (p.map thrV)]])).set 5 (.own x.1.e x.1.γ x.1.c x.2))
  (fun x => x.1.k ≤ 3 ∧ x.2.map V.fz = (ordersSK (scene p).ds x.1.k).map rowsV) (fun x => 3 - x.1.k) (⟨0, 59, some g3, 1⟩, [.own 32 (some g2) 0 []]) (by simp; rfl) ?_ ?_
 ·(refine zB ?_; repeat (first | exact zC | exact zD | refine zE (by decide) ?_ | refine zF ?_ ?_ | refine zG ?_ ?_)) <;> (try simp (disch := omega) only [push_cast, go_sem, zA, simprocAttr])
  all_goals rfl
 rintro ⟨⟨k, e0, γ9, c9⟩, vs⟩ ⟨hk, hvs⟩ J hJ
 simp only at hk hvs hJ
 rcases Nat.lt_or_ge k 3 with hlt | hge
 ·refine Sat.freezeT (upd (upd (upd (upd noT 2 (.ptr 2 [] 0 0 g1 1)) 1 (.sl ((events p).map Evt.V))) 6 (.int .i64 k)) 5 (.sl ((ordersSK (scene p).ds k).map rowsV))) (noM.set 2 (.own 25 (some g1) 1 [.agg [.sl (p.map thrV)]])) 5 (e := e0) (γ := γ9) (cap := c9) (es := vs) rfl ?_ ?_
  ·(refine zB ?_; repeat (first | exact zC | exact zD | refine zE (by decide) ?_ | refine zF ?_ ?_ | refine zG ?_ ?_)) <;> (try simp (disch := omega) only [push_cast, go_sem, zA, simprocAttr])
   rw [hvs]
  refine Sat.of (S := []) (by kernel_rfl) ?_
  have hrb := hR k hlt
  have hwl : (writersOf (scene p).ds k).length ≤ 42 := by
   have h1 : (scene p).ds.length = (events p).length := by simp [scene]
   have := wrs_le (scene p).ds k (scene p).ds.length
   unfold writersOf; omega
  have hrows := l12Rows0_fn (writersOf (scene p).ds k) (by omega) (by omega)
  obtain ⟨rs, hrs⟩ : ∃ rs, rowsR (writersOf (scene p).ds k) (writersOf (scene p).ds k).length [] = rs := ⟨_, rfl⟩
  rw [hrs] at hrows hrb
  have hk3 : (k : Int) < 3 := by omega
  have hfk : ordersSK (scene p).ds (k + 1) = (ordersSK (scene p).ds k).flatMap (fun h => rs.map fun r => h ++ [r]) := by rw [ordersSK, hrs]
  have hbK := hB k hk
  have hbk : (ordersSK (scene p).ds k).length * rs.length < 2 ^ 30 := by
   have := hB (k + 1) (by omega)
   rw [hfk, flatMap_len (n := rs.length) (by simp)] at this
   exact this
  simp (disch := omega) only [push_cast, go_sem, zA, simprocAttr, hk3]
  refine callR.pure (l12Writes_fn p k hn) rfl rfl ?_
  simp (disch := omega) only [push_cast, go_sem, zA, simprocAttr]
  refine callR.pure hrows rfl rfl ?_
  simp (disch := omega) only [push_cast, go_sem, zA, simprocAttr]
  intro g4
  refine Sat.loop (σ := EvS × List RowR) (fun x => upd (upd (upd (upd (upd (upd (upd noT 2 (.ptr 2 [] 0 0 g1 1)) 1 (.sl ((events p).map Evt.V))) 6 (.int .i64 k)) 5 (.sl ((ordersSK (scene p).ds k).map rowsV))) 7 (.sl (rs.map intsV))) 8 (.msl 8 [] x.1.γ x.2.length x.1.c)) 9 (.int .i64 x.1.k)) (fun x => (noM.set 2 (.own 25 (some g1) 1 [.agg [.sl (p.map thrV)]])).set 8 (.own x.1.e x.1.γ x.1.c (x.2.map RowR.V)))
   (fun x => x.1.k ≤ (ordersSK (scene p).ds k).length ∧ (x.1.γ = none ∨ x.1.e = 59) ∧ x.2.map RowR.l = ((ordersSK (scene p).ds k).take x.1.k).flatMap (fun h => rs.map fun r => h ++ [r])) (fun x => (ordersSK (scene p).ds k).length - x.1.k) (⟨0, 59, some g4, 0⟩, []) (by simp) ?_ ?_
  ·(refine zB ?_; repeat (first | exact zC | exact zD | refine zE (by decide) ?_ | refine zF ?_ ?_ | refine zG ?_ ?_)) <;> (try simp (disch := omega) only [push_cast, go_sem, zA, simprocAttr])
   all_goals rfl
  rintro ⟨⟨i, e, γ, c⟩, ys⟩ ⟨hi, hγ, hys⟩ J2 hJ2
  refine Sat.of (S := []) (by kernel_rfl) ?_
  simp only at hi hγ hys hJ2
  rcases Nat.lt_or_ge i (ordersSK (scene p).ds k).length with hlt2 | hge2
  ·obtain ⟨h, hh⟩ : ∃ h, (ordersSK (scene p).ds k)[i]? = some h := ⟨_, List.getElem?_eq_getElem hlt2⟩
   have hhl := ordersSK_row (List.mem_of_getElem? hh)
   simp (disch := omega) only [push_cast, go_sem, zA, simprocAttr, hlt2]
   refine Sat.loop (σ := EvS × List RowR) (fun x => upd (upd (upd (upd (upd (upd (upd (upd noT 2 (.ptr 2 [] 0 0 g1 1)) 1 (.sl ((events p).map Evt.V))) 6 (.int .i64 k)) 5 (.sl ((ordersSK (scene p).ds k).map rowsV))) 7 (.sl (rs.map intsV))) 8 (.msl 8 [] x.1.γ x.2.length x.1.c)) 9 (.int .i64 i)) 10 (.int .i64 x.1.k)) (fun x => (noM.set 2 (.own 25 (some g1) 1 [.agg [.sl (p.map thrV)]])).set 8 (.own x.1.e x.1.γ x.1.c (x.2.map RowR.V)))
    (fun x => x.1.k ≤ rs.length ∧ (x.1.γ = none ∨ x.1.e = 59) ∧ x.2.map RowR.l = ((ordersSK (scene p).ds k).take i).flatMap (fun h => rs.map fun r => h ++ [r]) ++ (rs.take x.1.k).map fun r => h ++ [r]) (fun x => rs.length - x.1.k) (⟨0, e, γ, c⟩, ys) (by simp [hγ, hys]) ?_ ?_
   ·(refine zB ?_; repeat (first | exact zC | exact zD | refine zE (by decide) ?_ | refine zF ?_ ?_ | refine zG ?_ ?_)) <;> (try simp (disch := omega) only [push_cast, go_sem, zA, simprocAttr])
   rintro ⟨⟨j, e2, γ2, c2⟩, zs⟩ ⟨hj, hγ2, hzs⟩ J3 hJ3
   refine Sat.of (S := []) (by kernel_rfl) ?_
   simp only at hj hγ2 hzs hJ3
   rcases Nat.lt_or_ge j rs.length with hlt3 | hge3
   ·obtain ⟨z, hz⟩ : ∃ z, rs[j]? = some z := ⟨_, List.getElem?_eq_getElem hlt3⟩
    have hγ2' : (γ2 = none ∨ e2 = 59) = True := by simp only [hγ2]
    have hzl : zs.length = i * rs.length + j := by
     have := congrArg List.length hzs
     rw [List.length_map, List.length_append, flatMap_len (n := rs.length) (by simp), List.length_take, List.length_map, List.length_take, Nat.min_eq_left hi, Nat.min_eq_left hj] at this
     exact this
    have hm1 : (i + 1) * rs.length ≤ (ordersSK (scene p).ds k).length * rs.length := Nat.mul_le_mul_right _ (by omega)
    rw [Nat.succ_mul] at hm1
    have hzb : zs.length + 1 < 2 ^ 30 := by generalize i * rs.length = A at *; generalize (ordersSK (scene p).ds k).length * rs.length = B at *; omega
    simp (disch := omega) only [push_cast, go_sem, zA, simprocAttr, hlt3]
    refine Sat.drawnE [(1, 5), (1, 10), (5, 10), (6, 10), (1, 11), (5, 11), (6, 11)] [] [] (fun _ _ _ => none) (by kernel_rfl) (by kernel_rfl) ?_
    simp (disch := omega) only [push_cast, go_sem, zA, simprocAttr, hh, hlt2, hz, hlt3, hγ2', rowsV_eq, intsV_eq]
    intro g5
    refine ⟨by omega, fun γ4 c4 _ => ?_⟩
    intro g6
    refine ⟨by omega, fun γ5 c5 _ => ?_⟩
    intro g7
    refine ⟨by omega, fun γ6 c6 _ => ?_⟩
    refine hJ3 (⟨j + 1, 59, γ6, c6⟩, zs ++ [⟨γ5, c5, h ++ [z]⟩]) _ _ ⟨by dsimp only; omega, .inr rfl, ?_⟩ (by dsimp only; omega) ?_
    ·dsimp only
     rw [List.map_append, hzs, take_get hz, List.map_append, List.append_assoc]
     rfl
    ·(refine zB ?_; repeat (first | exact zC | exact zD | refine zE (by decide) ?_ | refine zF ?_ ?_ | refine zG ?_ ?_)) <;> (try simp (disch := omega) only [push_cast, go_sem, zA, simprocAttr])
     all_goals simp [RowR.V, rowsV, intsV]
   ·have : j = rs.length := by omega
    subst this
    simp (disch := omega) only [push_cast, go_sem, zA, simprocAttr]
    refine hJ2 (⟨i + 1, e2, γ2, c2⟩, zs) _ _ ⟨by dsimp only; omega, hγ2, ?_⟩ (by dsimp only; omega) ?_
    ·dsimp only
     rw [hzs, List.take_length, take_get hh, List.flatMap_append]
     simp
    ·(refine zB ?_; repeat (first | exact zC | exact zD | refine zE (by decide) ?_ | refine zF ?_ ?_ | refine zG ?_ ?_)) <;> (try simp (disch := omega) only [push_cast, go_sem, zA, simprocAttr])
  ·have : i = (ordersSK (scene p).ds k).length := by omega
   subst this
   rw [List.take_length, ← hfk] at hys
   simp (disch := omega) only [push_cast, go_sem, zA, simprocAttr]
   refine hJ (⟨k + 1, e, γ, c⟩, ys.map RowR.V) _ _ ⟨by dsimp only; omega, ?_⟩ (by dsimp only; omega) ?_
   ·dsimp only
    rw [fz_rowsR, hys]
   ·(refine zB ?_; repeat (first | exact zC | exact zD | refine zE (by decide) ?_ | refine zF ?_ ?_ | refine zG ?_ ?_)) <;> (try simp (disch := omega) only [push_cast, go_sem, zA, simprocAttr])
    all_goals simp
 ·have : k = 3 := by omega
  subst this
  refine Sat.of (S := [15]) (by kernel_rfl) ?_
  simp (disch := omega) only [push_cast, go_sem, zA, simprocAttr]
  refine Sat.of (S := []) (by kernel_rfl) ?_
  simp (disch := omega) only [push_cast, go_sem, zA, simprocAttr]
  refine ⟨_, fun _ _ h => h, 4, γ9, c9, e0, vs, rfl, by simp [Mem.set], hvs⟩
end
section
open Go.RowKit
def oneS (p : Prog) (f : List Int) (o : List (List Int)) : List Exe := if endsS p ⟨f, o⟩ then [⟨f, o⟩] else []
def allS (p : Prog) : List Exe := (compl (scene p).ds (events p).length []).flatMap fun f => (ordersSK (scene p).ds 3).flatMap fun o => oneS p f o
theorem oneS_le (p : Prog) (f : List Int) (o : List (List Int)) : (oneS p f o).length ≤ 1 := by unfold oneS; split <;> simp
theorem choices_lt {ds : List Do} {d : Do} {c : Int} (h : c ∈ choicesOf ds d) : c < ds.length := by
 unfold choicesOf at h
 split at h
 ·simp only [List.mem_cons] at h
  rcases h with rfl | h
  ·omega
  ·obtain ⟨b, _, h1, rfl, _⟩ := mem_wrs h
   omega
 ·simp at h; omega
theorem compl_row {ds : List Do} : ∀ {j : Nat} {fr f : List Int}, fr.length + j = ds.length → (∀ x ∈ fr, x < ds.length) → f ∈ compl ds j fr → f.length = ds.length ∧ ∀ x ∈ f, x < ds.length
 | 0, fr, f, hl, hx, h => by simp [compl] at h; subst h; exact ⟨by omega, hx⟩
 | j + 1, fr, f, hl, hx, h => by
  have hd : ds[fr.length]? = some ds[fr.length] := List.getElem?_eq_getElem (by omega)
  rw [compl, hd] at h
  simp only [List.mem_flatMap] at h
  obtain ⟨c, hc, h⟩ := h
  refine compl_row (by simp; omega) ?_ h
  intro x hx'
  simp only [List.mem_append, List.mem_singleton] at hx'
  rcases hx' with h | rfl
  ·exact hx x h
  ·exact choices_lt hc
theorem l12Froms0_fn (p : Prog) (hn : (events p).length ≤ 42) (hb : (compl (scene p).ds (events p).length []).length < 2 ^ 30) : Fp Tryz.prog 89 [progV p, .sl ((events p).map Evt.V), .nilsl, .nilsl] (.sl ((compl (scene p).ds (events p).length []).map intsV)) := by
 have h := l12Froms_fn p hn (events p).length ⟨none, 0, []⟩ none 0 32 [] (by simp) (by simpa using hb) (.inl rfl)
 exact rowsP_fp (Fc.nils (xs := [progV p, .sl ((events p).map Evt.V)]) (e1 := 3) (e2 := 32) h)
end
end Go.Proofs.YtkdolbffabmemaaGreatDoor
