/-
 Contracts and plain laws.
-/
import Derived.Test.YtkdolbffabmemaaGreatDoorLa
import Derived.Test.YtkdolbffabmemaaGreatDoorLb
set_option linter.unusedSimpArgs false
set_option linter.unusedVariables false
set_option linter.unusedSectionVars false
namespace Go.Proofs.YtkdolbffabmemaaGreatDoor
section
open Go.RowKit
section
variable {P : Program} {M : Mem} {k : V → Mem → Prop} {c : Bool}
theorem runD_row {spec : Table} {fn : FuncId} {args : List V} {d n : Nat} {e : TypeId} {es : List V} (h : spec fn args noM = some fun r m => ∃ γ cap, r = .msl 100 [] γ n cap ∧ m = noM.set 100 (.own e γ cap es))
  (hc : Fc P fn args noM fun r m => ∃ γ cap, r = .msl 100 [] γ n cap ∧ m = noM.set 100 (.own e γ cap es)) (hk : (args.all fun v => v.key.isNone) = true) (h9 : Nat.ble args.length 90 = true) (hchk : c = true)
  (hK : ∀ γ cap, runV (some (True, det (.msl d [] γ n cap) (M.set d (.own e γ cap es)))) k .mk) : runD (callV (specT P spec) fn args (some d) M) false M c k .mk := by
 have hk' : ((args.map V.key).all fun x => x.isNone) = true := by rw [List.all_map]; exact hk
 have hf : footM M (args.map V.key) = noM := by
  funext i
  simp only [footM, noM]
  cases hi : (args.map V.key)[i]? with
  | none => rfl
  | some x =>
   have := List.all_eq_true.1 hk' x (List.mem_of_getElem? hi)
   cases x with
   | none => rfl
   | some _ => cases this
 refine runD_call (F := noM) (R := fun r m => ∃ γ cap, r = .msl 100 [] γ n cap ∧ m = noM.set 100 (.own e γ cap es)) (by rw [renArgs_none hk, hf]; exact h) (by rw [renArgs_none hk]; exact hc) Sub.no (by rw [keys_none hk']; exact List.nodup_nil) (Nat.le_of_ble_eq_true h9) ⟨_, _, none, 0, rfl, rfl⟩ nofun hchk ?_
 rintro r0 r Mf ⟨γ, cap, rfl, rfl⟩ h5
 have e1 : (noM.set 100 (.own e γ cap es)) 100 = some (.own e γ cap es) := rfl
 rw [merge_eq, mg_all_none hk', e1, mgD_some, h5 d rfl]
 exact (runV_det.1 (hK γ cap)).2
end
theorem fz_Exe (x : Exe) : x.V.fz = x.V := by simp only [Exe.V, V.fz, fzs_map, List.map_cons, List.map_nil]
@[push_cast] theorem fzs_Exe (l : List Exe) : (l.map Exe.V).map V.fz = l.map Exe.V := by rw [List.map_map]; exact List.map_congr_left fun d _ => fz_Exe d
@[push_cast] theorem flatL_Exe (l : List Exe) : flatL (l.map Exe.V) = true := by simp [flatL, V.cells, V.flatC, Exe.V]
@[push_cast] theorem okY_Exe (l : List Exe) : okY Tryz.prog 61 (l.map Exe.V) = True := by
 simp only [okY, List.mem_map, eq_iff_iff, iff_true]
 rintro y ⟨d, _, rfl⟩
 exact ⟨by rw [szT_61]; rfl, by simp [Exe.V, V.cells, V.one]⟩
def oneOf (s : Sc) (f : List Int) (o : List (List Int)) : List Exe := if okX s ⟨f, o⟩ then [⟨f, o⟩] else []
def allOf (s : Sc) : List Exe := (fromsOf s.ds).flatMap fun f => (ordersOf s.ds).flatMap fun o => oneOf s f o
theorem flatMap_le {α β : Type} {f : α → List β} {n : Nat} (hf : ∀ a, (f a).length ≤ n) : ∀ l : List α, (l.flatMap f).length ≤ l.length * n
 | [] => by simp
 | a :: l => by have := flatMap_le hf l; have := hf a; simp only [List.flatMap_cons, List.length_append, List.length_cons, Nat.succ_mul]; omega
theorem oneOf_le (s : Sc) (f : List Int) (o : List (List Int)) : (oneOf s f o).length ≤ 1 := by unfold oneOf; split <;> simp
theorem ordersK_in {ds : List Do} : ∀ {k : Nat} {r : List (List Int)} {row : List Int}, r ∈ ordersK ds k → row ∈ r → row.length ≤ ds.length
 | 0, r, row, h, h2 => by simp [ordersK] at h; subst h; cases h2
 | k + 1, r, row, h, h2 => by
  simp only [ordersK, List.mem_flatMap, List.mem_map] at h
  obtain ⟨h0, h1, c, hc, rfl⟩ := h
  simp only [List.mem_append, List.mem_singleton] at h2
  rcases h2 with h2 | rfl
  ·exact ordersK_in h1 h2
  ·unfold permsOf at hc
   rw [perms_row rfl hc]
   exact wrs_le _ _ _
theorem all_fn (s : Sc) (hs : s.ds.length < 2 ^ 20) (he : s.es.length = s.ds.length) (hc : copyOk s.ds) (hw : ∀ k : Nat, k < 3 → (writersOf s.ds k).length ≤ 6) (hB : ∀ k, k ≤ s.ds.length → (fromsK s.ds k).length < 2 ^ 30) (hB2 : ∀ k, k ≤ 3 → (ordersK s.ds k).length < 2 ^ 30)
  (hB3 : (fromsOf s.ds).length * (ordersOf s.ds).length < 2 ^ 30) : Fp Tryz.prog 35 [s.V] (.sl ((allOf s).map Exe.V)) := by
 refine Fc.fzRow (R' := fun r m => ∃ s1 γ cap e es, r = .msl s1 [] γ es.length cap ∧ m s1 = some (.own e γ cap es) ∧ es.map V.fz = (allOf s).map Exe.V) ?_ (fun r m h => h)
 refine Fc.start (S := [19]) Tryz.func35 Tryz.ntmps35 Tryz.results35 rfl (by decide) rfl (by kernel_rfl) ?_
 simp (disch := omega) only [push_cast, go_sem, zA, simprocAttr, Sc.V_eq]
 intro g1
 refine callR.pure (orders_fn s hs hw hB2) rfl rfl ?_
 simp (disch := omega) only [push_cast, go_sem, zA, simprocAttr]
 refine callR.pure (froms_fn s hs hB) rfl rfl ?_
 simp (disch := omega) only [push_cast, go_sem, zA, simprocAttr]
 have hf1 : (fromsOf s.ds).length < 2 ^ 30 := hB _ (Nat.le_refl _)
 have ho1 : (ordersOf s.ds).length < 2 ^ 30 := hB2 _ (Nat.le_refl _)
 refine Sat.loop (σ := EvS × List Exe) (fun x => upd (upd (upd (upd (upd (upd noT 1 (.ptr 1 [] 0 0 g1 3)) 3 (.sl ((ordersOf s.ds).map rowsV))) 15 (.sl ((fromsOf s.ds).map intsV))) 16 (.int .i64 (fromsOf s.ds).length)) 17 (.int .i64 x.1.k)) 4 (.msl 4 [] x.1.γ x.2.length x.1.c)) (fun x => (noM.set 1 (.own 55 (some g1) 1 [.agg [.sl (s.p.map thrV), .sl (s.es.map Evt.V), .sl (s.ds.map Do.V)]])).set 4 (.own x.1.e x.1.γ x.1.c (x.2.map Exe.V)))
  (fun x => x.1.k ≤ (fromsOf s.ds).length ∧ (x.1.γ = none ∨ x.1.e = 61) ∧ x.2 = ((fromsOf s.ds).take x.1.k).flatMap fun f => (ordersOf s.ds).flatMap fun o => oneOf s f o) (fun x => (fromsOf s.ds).length - x.1.k) (⟨0, 0, none, 0⟩, []) (by simp) ?_ ?_
 ·(refine zB ?_; repeat (first | exact zC | exact zD | refine zE (by decide) ?_ | refine zF ?_ ?_ | refine zG ?_ ?_)) <;> (try simp (disch := omega) only [push_cast, go_sem, zA, simprocAttr])
  all_goals rfl
 rintro ⟨⟨i, e, γ, c⟩, ys⟩ ⟨hi, hγ, hys⟩ J hJ
 simp only at hi hγ hys hJ
 refine Sat.of (S := []) (by kernel_rfl) ?_
 rcases Nat.lt_or_ge i (fromsOf s.ds).length with hlt | hge
 ·obtain ⟨f, hf⟩ : ∃ f, (fromsOf s.ds)[i]? = some f := ⟨_, List.getElem?_eq_getElem hlt⟩
  have hfl := fromsK_row (List.mem_of_getElem? hf)
  simp (disch := omega) only [push_cast, go_sem, zA, simprocAttr, hf, hlt, intsV_eq]
  refine Sat.loop (σ := EvS × List Exe) (fun x => upd (upd (upd (upd (upd (upd (upd (upd (upd (upd noT 1 (.ptr 1 [] 0 0 g1 3)) 3 (.sl ((ordersOf s.ds).map rowsV))) 15 (.sl ((fromsOf s.ds).map intsV))) 16 (.int .i64 (fromsOf s.ds).length)) 17 (.int .i64 i)) 6 (.sl (f.map (V.int .i64)))) 21 (.sl ((ordersOf s.ds).map rowsV))) 22 (.int .i64 (ordersOf s.ds).length)) 23 (.int .i64 x.1.k)) 4 (.msl 4 [] x.1.γ x.2.length x.1.c)) (fun x => (noM.set 1 (.own 55 (some g1) 1 [.agg [.sl (s.p.map thrV), .sl (s.es.map Evt.V), .sl (s.ds.map Do.V)]])).set 4 (.own x.1.e x.1.γ x.1.c (x.2.map Exe.V)))
   (fun x => x.1.k ≤ (ordersOf s.ds).length ∧ (x.1.γ = none ∨ x.1.e = 61) ∧ x.2 = (((fromsOf s.ds).take i).flatMap fun f => (ordersOf s.ds).flatMap fun o => oneOf s f o) ++ ((ordersOf s.ds).take x.1.k).flatMap fun o => oneOf s f o) (fun x => (ordersOf s.ds).length - x.1.k) (⟨0, e, γ, c⟩, ys) (by simp [hγ, hys]) ?_ ?_
  ·(refine zB ?_; repeat (first | exact zC | exact zD | refine zE (by decide) ?_ | refine zF ?_ ?_ | refine zG ?_ ?_)) <;> (try simp (disch := omega) only [push_cast, go_sem, zA, simprocAttr])
  rintro ⟨⟨j, e2, γ2, c2⟩, zs⟩ ⟨hj, hγ2, hzs⟩ J2 hJ2
  simp only at hj hγ2 hzs hJ2
  refine Sat.of (S := [15]) (by kernel_rfl) ?_
  rcases Nat.lt_or_ge j (ordersOf s.ds).length with hlt2 | hge2
  ·obtain ⟨o, ho⟩ : ∃ o, (ordersOf s.ds)[j]? = some o := ⟨_, List.getElem?_eq_getElem hlt2⟩
   have hol : o.length = 3 := ordersK_row (List.mem_of_getElem? ho)
   have hoi : ∀ row ∈ o, row.length ≤ s.ds.length := fun row h => ordersK_in (List.mem_of_getElem? ho) h
   simp (disch := omega) only [push_cast, go_sem, zA, simprocAttr, ho, hlt2, rowsV_eq]
   refine callR.row (clone_fn f (by omega)) rfl rfl ?_
   intro γ3 c3
   simp (disch := omega) only [push_cast, go_sem, zA, simprocAttr]
   intro g3
   refine Sat.loop (σ := EvS × List RowI) (fun x => upd (upd (upd (upd (upd (upd (upd (upd (upd (upd (upd (upd (upd (upd noT 1 (.ptr 1 [] 0 0 g1 3)) 3 (.sl ((ordersOf s.ds).map rowsV))) 15 (.sl ((fromsOf s.ds).map intsV))) 16 (.int .i64 (fromsOf s.ds).length)) 17 (.int .i64 i)) 6 (.sl (f.map (V.int .i64)))) 21 (.sl ((ordersOf s.ds).map rowsV))) 22 (.int .i64 (ordersOf s.ds).length)) 23 (.int .i64 j)) 4 (.msl 4 [] γ2 zs.length c2)) 9 (.ptr 9 [] 0 0 g3 2)) 30 (.sl (o.map intsV))) 31 (.int .i64 o.length)) 32 (.int .i64 x.1.k)) (fun x => ((noM.set 1 (.own 55 (some g1) 1 [.agg [.sl (s.p.map thrV), .sl (s.es.map Evt.V), .sl (s.ds.map Do.V)]])).set 4 (.own e2 γ2 c2 (zs.map Exe.V))).set 9 (.own 61 (some g3) 1 [.agg [.own 3 γ3 c3 (f.map (V.int .i64)), .own x.1.e x.1.γ x.1.c (x.2.map RowI.V)]]))
    (fun x => x.1.k ≤ o.length ∧ (x.1.γ = none ∨ x.1.e = 32) ∧ x.2.map RowI.l = o.take x.1.k) (fun x => o.length - x.1.k) (⟨0, 0, none, 0⟩, []) (by simp) ?_ ?_
   ·(refine zB ?_; repeat (first | exact zC | exact zD | refine zE (by decide) ?_ | refine zF ?_ ?_ | refine zG ?_ ?_)) <;> (try simp (disch := omega) only [push_cast, go_sem, zA, simprocAttr])
    all_goals rfl
   rintro ⟨⟨m, e4, γ4, c4⟩, ws⟩ ⟨hm, hγ4, hws⟩ J3 hJ3
   simp only at hm hγ4 hws hJ3
   refine Sat.of (S := []) (by kernel_rfl) ?_
   rcases Nat.lt_or_ge m o.length with hlt3 | hge3
   ·obtain ⟨row, hr⟩ : ∃ row, o[m]? = some row := ⟨_, List.getElem?_eq_getElem hlt3⟩
    have hrl := hoi row (List.mem_of_getElem? hr)
    have hwl : ws.length = m := by have := congrArg List.length hws; rw [List.length_map, List.length_take, Nat.min_eq_left hm] at this; exact this
    have hγ4' : (γ4 = none ∨ e4 = 32) = True := by simp only [hγ4]
    simp (disch := omega) only [push_cast, go_sem, zA, simprocAttr, hr, hlt3, intsV_eq]
    refine Sat.drawnE [(1, 3), (1, 4)] [] [] (fun f' _ _ => if f' = 51 then some fun r m => ∃ γ cap, r = .msl 100 [] γ row.length cap ∧ m = noM.set 100 (.own 3 γ cap (row.map (V.int .i64))) else none) (by kernel_rfl) (by kernel_rfl) ?_
    simp (disch := omega) only [push_cast, go_sem, zA, simprocAttr]
    refine runD_row rfl (clone_fn row (by omega)) rfl rfl ?_ ?_
    ·rfl
    intro γ5 c5
    cases hfl : (V.own 3 γ5 c5 (row.map (V.int .i64))).flatC <;> simp (disch := omega) only [push_cast, go_sem, zA, simprocAttr, hγ4', hfl]
    all_goals
     intro g5
     refine ⟨by omega, fun γ6 c6 _ => ?_⟩
     refine hJ3 (⟨m + 1, 32, γ6, c6⟩, ws ++ [⟨γ5, c5, row⟩]) _ _ ⟨by dsimp only; omega, .inr rfl, ?_⟩ (by dsimp only; omega) ?_
     ·dsimp only
      rw [List.map_append, hws, take_get hr]
      rfl
     ·(refine zB ?_; repeat (first | exact zC | exact zD | refine zE (by decide) ?_ | refine zF ?_ ?_ | refine zG ?_ ?_)) <;> (try simp (disch := omega) only [push_cast, go_sem, zA, simprocAttr])
      all_goals simp [RowI.V]
   ·have : m = o.length := by omega
    subst this
    rw [List.take_length] at hws
    simp (disch := omega) only [push_cast, go_sem, zA, simprocAttr]
    refine Sat.freezeC 9 [] 0 0 (n0 := .own 61 (some g3) 1 [.agg [.own 3 γ3 c3 (f.map (V.int .i64)), .own e4 γ4 c4 (ws.map RowI.V)]]) (d := .own 3 γ3 c3 (f.map (V.int .i64))) rfl rfl rfl ?_
    have e1 : (V.own 3 γ3 c3 (f.map (V.int .i64))).fz = .sl (f.map (V.int .i64)) := by simp only [V.fz, fzs_map, fzs_int]
    have e2' : (V.own e4 γ4 c4 (ws.map RowI.V)).fz = .sl (o.map intsV) := by simp only [V.fz, fzs_map, fz_rowsI, hws]
    rw [e1]
    refine Sat.freezeC 9 [] 0 1 (n0 := .own 61 (some g3) 1 [.agg [.sl (f.map (V.int .i64)), .own e4 γ4 c4 (ws.map RowI.V)]]) (d := .own e4 γ4 c4 (ws.map RowI.V)) rfl rfl rfl ?_
    rw [e2']
    refine Sat.of (S := []) (by kernel_rfl) ?_
    simp (disch := omega) only [push_cast, go_sem, zA, simprocAttr]
    refine callR.pure (ok_fn s ⟨f, o⟩ hs he ⟨by dsimp only; omega, by dsimp only; omega, fun row h => by have := hoi row h; omega⟩ hc) rfl rfl ?_
    cases hok : okX s ⟨f, o⟩
    ·simp (disch := omega) only [push_cast, go_sem, zA, simprocAttr]
     refine hJ2 (⟨j + 1, e2, γ2, c2⟩, zs) _ _ ⟨by dsimp only; omega, hγ2, ?_⟩ (by dsimp only; omega) ?_
     ·dsimp only
      rw [hzs, take_get ho, List.flatMap_append]
      simp [oneOf, hok]
     ·(refine zB ?_; repeat (first | exact zC | exact zD | refine zE (by decide) ?_ | refine zF ?_ ?_ | refine zG ?_ ?_)) <;> (try simp (disch := omega) only [push_cast, go_sem, zA, simprocAttr])
    ·have hγ2' : (γ2 = none ∨ e2 = 61) = True := by simp only [hγ2]
     have hzb : zs.length ≤ i * (ordersOf s.ds).length + j := by
      rw [hzs, List.length_append]
      have k1 := flatMap_le (f := fun f => (ordersOf s.ds).flatMap fun o => oneOf s f o) (n := (ordersOf s.ds).length) (fun f => by have := flatMap_le (oneOf_le s f) (ordersOf s.ds); rw [Nat.mul_one] at this; exact this) ((fromsOf s.ds).take i)
      have k2 := flatMap_le (oneOf_le s f) ((ordersOf s.ds).take j)
      rw [List.length_take, Nat.min_eq_left hi] at k1
      rw [List.length_take, Nat.min_eq_left hj, Nat.mul_one] at k2
      exact Nat.add_le_add k1 k2
     have hm1 : (i + 1) * (ordersOf s.ds).length ≤ (fromsOf s.ds).length * (ordersOf s.ds).length := Nat.mul_le_mul_right _ (by omega)
     rw [Nat.succ_mul] at hm1
     have hzc : zs.length + 1 < 2 ^ 30 + 1 := by generalize i * (ordersOf s.ds).length = A at *; generalize (fromsOf s.ds).length * (ordersOf s.ds).length = B at *; omega
     simp (disch := omega) only [push_cast, go_sem, zA, simprocAttr, hγ2', Exe.V_eq]
     intro g5
     refine ⟨by omega, fun γ5 c5 _ => ?_⟩
     refine hJ2 (⟨j + 1, 61, γ5, c5⟩, zs ++ [⟨f, o⟩]) _ _ ⟨by dsimp only; omega, .inr rfl, ?_⟩ (by dsimp only; omega) ?_
     ·dsimp only
      rw [hzs, take_get ho, List.flatMap_append, List.append_assoc]
      simp [oneOf, hok]
     ·(refine zB ?_; repeat (first | exact zC | exact zD | refine zE (by decide) ?_ | refine zF ?_ ?_ | refine zG ?_ ?_)) <;> (try simp (disch := omega) only [push_cast, go_sem, zA, simprocAttr])
      all_goals simp [Exe.V]
  ·have : j = (ordersOf s.ds).length := by omega
   subst this
   simp (disch := omega) only [push_cast, go_sem, zA, simprocAttr]
   refine hJ (⟨i + 1, e2, γ2, c2⟩, zs) _ _ ⟨by dsimp only; omega, hγ2, ?_⟩ (by dsimp only; omega) ?_
   ·dsimp only
    rw [hzs, List.take_length, take_get hf, List.flatMap_append]
    simp
   ·(refine zB ?_; repeat (first | exact zC | exact zD | refine zE (by decide) ?_ | refine zF ?_ ?_ | refine zG ?_ ?_)) <;> (try simp (disch := omega) only [push_cast, go_sem, zA, simprocAttr])
 ·have : i = (fromsOf s.ds).length := by omega
  subst this
  rw [List.take_length] at hys
  simp (disch := omega) only [push_cast, go_sem, zA, simprocAttr]
  refine Sat.of (S := []) (by kernel_rfl) ?_
  simp (disch := omega) only [push_cast, go_sem, zA, simprocAttr]
  refine ⟨_, fun _ _ h => h, 2, γ, c, e, ys.map Exe.V, by rw [List.length_map], by simp [Mem.set], ?_⟩
  rw [fzs_Exe, hys]; rfl
end
section
open Go.RowKit
def usN (ds : List Do) : Nat := (ds.filter Do.uses).length
def wrN (ds : List Do) (pl : Int) : Nat := (ds.filter fun d => d.writes && d.p == pl).length
def rdN (ds : List Do) : Nat := (ds.filter Do.reads).length
theorem usN_app (a b : List Do) : usN (a ++ b) = usN a + usN b := by simp [usN]
theorem usN_evsOf {p : Prog} {t k : Nat} {l : List Do} {d : Do} (hl : p[t]? = some l) (hd : l[k]? = some d) : usN ((evsOf t k d).map (stepAt p)) = usN [d] := by
 have e : ∀ b, stepAt p ⟨t, k, b⟩ = d := fun b => by simp [stepAt, hl, hd]
 unfold evsOf
 split
 ·rename_i h
  have h9 : d.k = 9 := by simpa using h
  have : d.uses = false := by simp [Do.uses, Do.reads, Do.writes, h9]
  simp [e, usN, this]
 ·simp [e]
theorem usN_evThr {p : Prog} {t : Nat} {l : List Do} (hl : p[t]? = some l) : ∀ k, k ≤ l.length → usN ((evThr t l k).map (stepAt p)) = usN (l.take k)
 | 0, _ => by simp [evThr]
 | k + 1, h => by
  have hd : l[k]? = some l[k] := List.getElem?_eq_getElem (by omega)
  rw [evThr, hd, List.map_append, usN_app, usN_evThr hl k (by omega), take_get hd, usN_app]
  dsimp only
  rw [usN_evsOf hl hd]
theorem usesP_app (a b : Prog) : usesP (a ++ b) = usesP a + usesP b := by
 induction a with
 | nil => simp [usesP]
 | cons x a ih => simp only [List.cons_append, usesP, List.map_cons, List.sum_cons] at ih ⊢; omega
theorem usN_evPro {p : Prog} : ∀ i, i ≤ p.length → usN ((evPro p i).map (stepAt p)) = usesP (p.take i)
 | 0, _ => by simp [evPro, usN, usesP]
 | i + 1, h => by
  have hl : p[i]? = some p[i] := List.getElem?_eq_getElem (by omega)
  rw [evPro, hl, List.map_append, usN_app, usN_evPro i (by omega), take_get hl, usesP_app]
  dsimp only
  rw [usN_evThr hl _ (Nat.le_refl _), List.take_length]
  simp [usesP, usesOf, usN]
theorem scene_uses {p : Prog} (h : progOk p = true) : usN (scene p).ds ≤ 6 := by
 simp only [progOk, Bool.and_eq_true, decide_eq_true_eq] at h
 have := usN_evPro (p := p) p.length (Nat.le_refl _)
 rw [List.take_length] at this
 simp only [scene, events]
 omega
theorem wrs_len {ds : List Do} {pl : Int} : ∀ k, k ≤ ds.length → (wrs ds pl k).length = wrN (ds.take k) pl
 | 0, _ => by simp [wrs, wrN]
 | k + 1, h => by
  have hd : ds[k]? = some ds[k] := List.getElem?_eq_getElem (by omega)
  rw [wrs, hd, List.length_append, wrs_len k (by omega), take_get hd]
  simp only [wrN, List.filter_append, List.length_append, List.filter_cons, List.filter_nil]
  split <;> simp
theorem count_le (ds : List Do) : wrN ds 0 + wrN ds 1 + wrN ds 2 + rdN ds ≤ usN ds := by
 induction ds with
 | nil => simp [wrN, rdN, usN]
 | cons d ds ih =>
  have e : ∀ (f : Do → Bool), ((d :: ds).filter f).length = (if f d then 1 else 0) + (ds.filter f).length := fun f => by rw [List.filter_cons]; split <;> simp [Nat.add_comm]
  simp only [wrN, rdN, usN, e] at ih ⊢
  have key : (if d.writes && d.p == 0 then 1 else 0) + (if d.writes && d.p == 1 then 1 else 0) + (if d.writes && d.p == 2 then 1 else 0) + (if d.reads then 1 else 0) ≤ (if d.uses then 1 else 0) := by
   cases hw : d.writes
   ·cases hr : d.reads <;> simp [Do.uses, hw, hr]
   ·have hr : d.reads = false := by
     revert hw
     simp only [Do.reads, Do.writes, Bool.or_eq_true, beq_iff_eq, Bool.or_eq_false_iff, beq_eq_false_iff_ne]
     omega
    by_cases h0 : d.p = 0
    ·simp [Do.uses, hw, hr, h0]
    ·by_cases h1 : d.p = 1
     ·simp [Do.uses, hw, hr, h1]
     ·by_cases h2 : d.p = 2
      ·simp [Do.uses, hw, hr, h2]
      ·simp [Do.uses, hw, hr, h0, h1, h2]
  omega
structure Few (ds : List Do) : Prop where
 n : wrN ds 0 + wrN ds 1 + wrN ds 2 + rdN ds ≤ 6
theorem writers_len (ds : List Do) (pl : Int) : (writersOf ds pl).length = wrN ds pl := by
 have := wrs_len (ds := ds) (pl := pl) ds.length (Nat.le_refl _)
 rwa [List.take_length] at this
theorem Few.wr {ds : List Do} (h : Few ds) : ∀ k : Nat, k < 3 → (writersOf ds k).length ≤ 6 := by
 intro k hk
 rw [writers_len]
 have := h.n
 obtain rfl | rfl | rfl : k = 0 ∨ k = 1 ∨ k = 2 := by omega
 all_goals simp only [Int.cast_ofNat_Int, Int.natCast_zero, Int.natCast_one] at *; omega
theorem wrN_any {ds : List Do} (h : usN ds ≤ 6) (pl : Int) : wrN ds pl ≤ 6 := by
 have : wrN ds pl ≤ usN ds := by
  simp only [wrN, usN]
  rw [← List.countP_eq_length_filter, ← List.countP_eq_length_filter]
  refine List.countP_mono_left fun d _ hd => ?_
  simp only [Bool.and_eq_true] at hd
  simp [Do.uses, hd.1]
 omega
theorem fromsK_len {ds : List Do} (h : usN ds ≤ 6) : ∀ k, k ≤ ds.length → (fromsK ds k).length ≤ 7 ^ rdN (ds.take k)
 | 0, _ => by simp [fromsK, rdN]
 | k + 1, hk => by
  have hd : ds[k]? = some ds[k] := List.getElem?_eq_getElem (by omega)
  have ih := fromsK_len h k (by omega)
  rw [fromsK, hd, take_get hd]
  dsimp only
  rw [flatMap_len (n := (choicesOf ds ds[k]).length) (by simp)]
  have hr : rdN (ds.take k ++ [ds[k]]) = rdN (ds.take k) + (if ds[k].reads then 1 else 0) := by
   simp only [rdN, List.filter_append, List.length_append, List.filter_cons, List.filter_nil]
   split <;> simp
  rw [hr]
  unfold choicesOf
  split
  ·rw [Nat.pow_succ]
   refine Nat.mul_le_mul ih ?_
   rw [List.length_cons, writers_len]
   have := wrN_any h ds[k].p
   omega
  ·simpa using ih
theorem rdN_le {ds : List Do} (h : usN ds ≤ 6) (k : Nat) : rdN (ds.take k) ≤ 6 := by
 have h1 : rdN (ds.take k) ≤ usN ds := by
  simp only [rdN, usN]
  rw [← List.countP_eq_length_filter, ← List.countP_eq_length_filter]
  refine Nat.le_trans (List.countP_mono_left (q := Do.uses) fun d _ hd => ?_) (List.Sublist.countP_le (List.take_sublist k ds))
  simp [Do.uses, hd]
 omega
theorem froms_le {ds : List Do} (h : usN ds ≤ 6) : ∀ k, k ≤ ds.length → (fromsK ds k).length ≤ 117649 := fun k hk =>
 Nat.le_trans (fromsK_len h k hk) (Nat.le_trans (Nat.pow_le_pow_right (by decide) (rdN_le h k)) (by decide))
theorem fac3f : ∀ a b c : _root_.Fin 7, a.1 + b.1 + c.1 ≤ 6 → 1 * fac a.1 ≤ 720 ∧ 1 * fac a.1 * fac b.1 ≤ 720 ∧ 1 * fac a.1 * fac b.1 * fac c.1 ≤ 720 := by decide
theorem fac3 (a : Nat) (ha : a < 7) (b : Nat) (hb : b < 7) (c : Nat) (hc : c < 7) (h : a + b + c ≤ 6) : 1 * fac a ≤ 720 ∧ 1 * fac a * fac b ≤ 720 ∧ 1 * fac a * fac b * fac c ≤ 720 := fac3f ⟨a, ha⟩ ⟨b, hb⟩ ⟨c, hc⟩ h
theorem orders_le {ds : List Do} (h : usN ds ≤ 6) : ∀ k, k ≤ 3 → (ordersK ds k).length ≤ 720 := by
 have hc := count_le ds
 have step : ∀ k : Nat, (ordersK ds (k + 1)).length = (ordersK ds k).length * fac (wrN ds k) := fun k => by
  rw [ordersK, flatMap_len (n := (permsOf (writersOf ds k)).length) (by simp)]
  unfold permsOf
  rw [perms_len rfl, writers_len]
 have h0 : (ordersK ds 0).length = 1 := rfl
 have h1 := step 0
 have h2 := step 1
 have h3 := step 2
 rw [h0] at h1
 simp only [Nat.zero_add, Nat.reduceAdd, Int.cast_ofNat_Int, Int.natCast_zero, Int.natCast_one] at h1 h2 h3
 rw [h1] at h2
 rw [h2] at h3
 obtain ⟨k1, k2, k3⟩ := fac3 (wrN ds 0) (by omega) (wrN ds 1) (by omega) (wrN ds 2) (by omega) (by omega)
 intro k hk
 obtain rfl | rfl | rfl | rfl : k = 0 ∨ k = 1 ∨ k = 2 ∨ k = 3 := by omega
 ·rw [h0]; omega
 ·rw [h1]; exact k1
 ·rw [h2]; exact k2
 ·rw [h3]; exact k3
def execAll (p : Prog) : List Exe := if progOk p then allOf (scene p) else []
end
section
open Go.RowKit
theorem scene_get {p : Prog} {k : Nat} {e : Evt} (h : (events p)[k]? = some e) : (scene p).ds[k]? = some (stepAt p e) := by simp [scene, h]
def srcOf (es : List Evt) (ds : List Do) (i : Nat) : Nat → Int
 | 0 => -1
 | k + 1 => if (es[k]?.getD default).t == (es[i]?.getD default).t && (ds[k]?.getD default).reads then (k : Int) else srcOf es ds i k
end
section
open Go.RowKit
end
section
open Go.RowKit
def valS (es : List Evt) (ds : List Do) (fr : List Int) : Nat → Int → Int
 | 0, i => if i < 0 then 0 else -1
 | m + 1, i => if i < 0 then 0 else match ds[i.toNat]? with
  | none => 0
  | some d => if d.reads then valS es ds fr m (fr[i.toNat]?.getD 0) else if d.k == 3 then valS es ds fr m (srcOf es ds i.toNat i.toNat) else d.v
end
section
open Go.RowKit
def endS (p : Prog) (fr : List Int) (i : Nat) : Bool := !decide (valS (events p) (scene p).ds fr (2 * (events p).length + 2) i < 0)
def endsS (p : Prog) (x : Exe) : Bool := (List.range (events p).length).all (endS p x.fr)
def placeS (ds : List Do) (od : List (List Int)) (k : Nat) : Bool := (writersOf ds k).length == (od[k]?.getD []).length && (writersOf ds k).all (od[k]?.getD []).contains
def fromS (od : List (List Int)) (q : Do × Int) : Bool := if q.1.reads then q.2 == -1 || (od[q.1.p.toNat]?.getD []).contains q.2 else q.2 == -2
def formS (p : Prog) (x : Exe) : Bool := decide (x.fr.length = (events p).length) && decide (x.od.length = 3) && (List.range 3).all (placeS (scene p).ds x.od) && ((scene p).ds.zip x.fr).all (fromS x.od)
end
section
open Go.RowKit
section
variable {P : Program} {M Mf : Mem} {k : V → Mem → Prop} {c : Bool}
theorem mg_skip : ∀ {xs ks : List (Option Nat)} {i : Nat}, (xs.all fun x => x.isNone) = true → mg i (xs ++ ks) M Mf = mg (i + xs.length) ks M Mf
 | [], ks, i, h => rfl
 | none :: xs, ks, i, h => by
  simp only [List.all_cons, Bool.and_eq_true] at h
  rw [List.cons_append, mg, mg_skip h.2, List.length_cons, Nat.add_right_comm]; rfl
 | some x :: xs, ks, i, h => by simp at h
theorem renArgs_app : ∀ {xs ys : List V} {i : Nat}, (xs.all fun v => v.key.isNone) = true → renArgs i (xs ++ ys) = xs ++ renArgs (i + xs.length) ys
 | [], ys, i, h => rfl
 | x :: xs, ys, i, h => by
  simp only [List.all_cons, Bool.and_eq_true] at h
  have e : x.ren i = x := by cases x <;> first | rfl | (simp [V.key] at h)
  rw [List.cons_append, renArgs, renArgs_app h.2, List.length_cons, e]
  rw [show i + 1 + xs.length = i + (xs.length + 1) by omega]; rfl
theorem foot_at {xs ks : List (Option Nat)} {j : Nat} : footM M (xs ++ ks) (xs.length + j) = ((ks[j]?).bind id).bind M := by
 rw [footM_at, List.getElem?_append_right (by omega), Nat.add_sub_cancel_left]
end
def compl (ds : List Do) : Nat → List Int → List (List Int)
 | 0, fr => [fr]
 | j + 1, fr => match ds[fr.length]? with
  | some d => (choicesOf ds d).flatMap fun c => compl ds j (fr ++ [c])
  | none => [fr]
end
section
open Go.RowKit
section
variable {P : Program} {M : Mem} {k : V → Mem → Prop}
theorem set_self {a : Nat} {o : V} (h : M a = some o) : M.set a o = M := by
 funext i; simp only [Mem.set]; split
 ·rename_i e; rw [e, h]
 ·rfl
theorem Sat.someG {N : Nat} {cd : Code} {t : Nat → V} {K : Kont} {o : Nat} {e : TypeId} {γ : Option Nat} {cap : Nat} {es : List V} (ho : M o = some (.own e γ cap es)) (hne : es ≠ []) (h : ∀ g, γ = some g → Sat P N cd t M K) : Sat P N cd t M K := by
 intro imm0 w0 M0 imm a w hr
 cases γ with
 | some g => exact h g rfl _ _ _ _ _ _ hr
 | none =>
  have := hr.step.inv.nd o [] (.own e none cap es) (by simp [Mem.getP, ho, V.getP])
  exact absurd this.1 hne
theorem callR.peek {f : FuncId} {bs : List V} {a l c : Nat} {γ : Option Nat} {o v : V} {d : Nat} (h : Fc P f (.msl 0 [] γ l c :: bs) (noM.set 0 o) fun r m => r = v ∧ m = noM.set 0 o) (hM : M a = some o) (hk : (bs.all fun v => v.key.isNone) = true) (h9 : Nat.ble (bs.length + 1) 90 = true)
  (hK : runV (some (True, det (resN (some d) v) M)) k .mk) : callR P f (.msl a [] γ l c :: bs) (some d) M k .mk := by
 have hk' : ((bs.map V.key).all fun x => x.isNone) = true := by rw [List.all_map]; exact hk
 refine callR.intro (F := noM.set 0 o) (R := fun r m => r = v ∧ m = noM.set 0 o) (by rw [renArgs_cons, renArgs_none hk]; exact h) ?_ (Nat.le_of_ble_eq_true h9) ?_ ?_
 ·rw [List.map_cons, List.filterMap_cons]
  show (a :: (bs.map V.key).filterMap id).Nodup
  rw [keys_none hk']; simp
 ·exact Sub.set Sub.no (by simp [footM, V.key, hM])
 ·rintro r0 Mf ⟨rfl, rfl⟩
  have : mergeM M ((V.msl a [] γ l c :: bs).map V.key) (some d) (noM.set 0 o) = M := by
   rw [merge_eq, List.map_cons]
   have e1 : (noM.set 0 o) 100 = none := rfl
   have e2 : (noM.set 0 o) 0 = some o := rfl
   rw [e1, mgD_none', key_msl, mg_some, e2, mg_all_none hk', MemU_some, set_self hM]
  rw [this]
  exact (runV_det.1 hK).2
end
theorem l12HasO_fn (zs : List Int) (x : Int) (γ : Option Nat) (c : Nat) (hl : zs.length < 2 ^ 40) : Fc Tryz.prog 102 [.msl 0 [] γ zs.length c, .int .i64 x] (noM.set 0 (.own 3 γ c (zs.map (V.int .i64)))) fun r m => r = .bool (zs.contains x) ∧ m = noM.set 0 (.own 3 γ c (zs.map (V.int .i64))) := by
 refine Fc.start (S := [6]) Tryz.func102 Tryz.ntmps102 Tryz.results102 rfl (by decide) rfl (by kernel_rfl) ?_
 simp (disch := omega) only [push_cast, go_sem, zA, simprocAttr]
 refine Sat.loop (σ := Nat) (fun k => upd (upd (upd noT 0 (.msl 0 [] γ zs.length c)) 1 (.int .i64 x)) 5 (.int .i64 k)) (fun _ => noM.set 0 (.own 3 γ c (zs.map (V.int .i64))))
  (fun k => k ≤ zs.length ∧ zs.contains x = (zs.drop k).contains x) (fun k => zs.length - k) 0 (by simp) ?_ ?_
 ·(refine zB ?_; repeat (first | exact zC | exact zD | refine zE (by decide) ?_ | refine zF ?_ ?_ | refine zG ?_ ?_)) <;> (try simp (disch := omega) only [push_cast, go_sem, zA, simprocAttr])
 rintro k ⟨hk, hc⟩ J hJ
 rcases Nat.lt_or_ge k zs.length with hlt | hge
 ·refine Sat.someG (o := 0) (e := 3) (γ := γ) (cap := c) (es := zs.map (V.int .i64)) rfl (fun h => by have := congrArg List.length h; simp at this; subst this; simp at hlt) ?_
  rintro g rfl
  refine Sat.of (S := []) (by kernel_rfl) ?_
  obtain ⟨z, hz⟩ : ∃ z, zs[k]? = some z := ⟨_, List.getElem?_eq_getElem hlt⟩
  rw [drop_get hz, List.contains_cons] at hc
  cases hx : (z == x)
  ·simp (disch := omega) only [push_cast, go_sem, zA, simprocAttr, hz, hlt, hx]
   refine hJ (k + 1) _ _ ⟨by omega, ?_⟩ (by omega) ?_
   ·rw [hc]
    have : (x == z) = false := beq_eq_false_iff_ne.2 fun h => beq_eq_false_iff_ne.1 hx h.symm
    rw [this, Bool.false_or]
   ·(refine zB ?_; repeat (first | exact zC | exact zD | refine zE (by decide) ?_ | refine zF ?_ ?_ | refine zG ?_ ?_)) <;> (try simp (disch := omega) only [push_cast, go_sem, zA, simprocAttr])
  ·simp (disch := omega) only [push_cast, go_sem, zA, simprocAttr, hz, hlt, hx]
   have : (x == z) = true := beq_iff_eq.2 (beq_iff_eq.1 hx).symm
   refine ⟨_, ?_, by rw [hc, this, Bool.true_or], rfl⟩
   ((repeat (first | exact Sub.no | refine Sub.set ?_ ?_)) <;> (try simp (disch := omega) only [push_cast, go_sem, zA, simprocAttr]))
 ·have : k = zs.length := by omega
  subst this
  refine Sat.of (S := [6]) (by kernel_rfl) ?_
  simp (disch := omega) only [push_cast, go_sem, zA, simprocAttr]
  refine Sat.of (S := []) (by kernel_rfl) ?_
  simp (disch := omega) only [push_cast, go_sem, zA, simprocAttr]
  refine ⟨_, ?_, by rw [hc, List.drop_length]; rfl, rfl⟩
  ((repeat (first | exact Sub.no | refine Sub.set ?_ ?_)) <;> (try simp (disch := omega) only [push_cast, go_sem, zA, simprocAttr]))
def rowsR (l : List Int) : Nat → List Int → List (List Int)
 | 0, h => [h]
 | j + 1, h => l.flatMap fun z => if h.contains z then [] else rowsR l j (h ++ [z])
end
section
open Go.RowKit
@[push_cast] theorem okY_rows (l : List (List Int)) : okY Tryz.prog 32 (l.map intsV) = True := by
 simp only [okY, List.mem_map, eq_iff_iff, iff_true]
 rintro y ⟨d, _, rfl⟩
 exact ⟨by rw [szT_32]; rfl, by simp [intsV, V.cells, V.one]⟩
def ordersSK (ds : List Do) : Nat → List (List (List Int))
 | 0 => [[]]
 | k + 1 => (ordersSK ds k).flatMap fun h => (rowsR (writersOf ds k) (writersOf ds k).length []).map fun r => h ++ [r]
theorem ordersSK_row {ds : List Do} : ∀ {k : Nat} {r : List (List Int)}, r ∈ ordersSK ds k → r.length = k
 | 0, r, h => by simp [ordersSK] at h; subst h; simp
 | k + 1, r, h => by
  simp only [ordersSK, List.mem_flatMap, List.mem_map] at h
  obtain ⟨h0, h1, c, _, rfl⟩ := h
  have := ordersSK_row h1
  simp; omega
end
section
open Go.RowKit
def oneS (p : Prog) (f : List Int) (o : List (List Int)) : List Exe := if endsS p ⟨f, o⟩ then [⟨f, o⟩] else []
def allS (p : Prog) : List Exe := (compl (scene p).ds (events p).length []).flatMap fun f => (ordersSK (scene p).ds 3).flatMap fun o => oneS p f o
theorem oneS_le (p : Prog) (f : List Int) (o : List (List Int)) : (oneS p f o).length ≤ 1 := by unfold oneS; split <;> simp
theorem choices_lt {ds : List Do} {d : Do} {c : Int} (h : c ∈ choicesOf ds d) : c < ds.length := by
 unfold choicesOf at h
 split at h
 ·simp only [List.mem_cons] at h
  rcases h with rfl | h
  ·omega
  ·obtain ⟨b, _, h1, rfl, _⟩ := mem_wrs h
   omega
 ·simp at h; omega
theorem compl_row {ds : List Do} : ∀ {j : Nat} {fr f : List Int}, fr.length + j = ds.length → (∀ x ∈ fr, x < ds.length) → f ∈ compl ds j fr → f.length = ds.length ∧ ∀ x ∈ f, x < ds.length
 | 0, fr, f, hl, hx, h => by simp [compl] at h; subst h; exact ⟨by omega, hx⟩
 | j + 1, fr, f, hl, hx, h => by
  have hd : ds[fr.length]? = some ds[fr.length] := List.getElem?_eq_getElem (by omega)
  rw [compl, hd] at h
  simp only [List.mem_flatMap] at h
  obtain ⟨c, hc, h⟩ := h
  refine compl_row (by simp; omega) ?_ h
  intro x hx'
  simp only [List.mem_append, List.mem_singleton] at hx'
  rcases hx' with h | rfl
  ·exact hx x h
  ·exact choices_lt hc
end
end Go.Proofs.YtkdolbffabmemaaGreatDoor
