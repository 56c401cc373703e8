/-
 Contracts and plain laws.
-/
import Derived.Test.YtfbgabkcjjahiaaGreatDoorPb
import Derived.Test.YtfbgabkcjjahiaaGreatDoorPc
import Derived.Lib.SlKeysI
set_option linter.unusedSimpArgs false
set_option linter.unusedVariables false
set_option linter.unusedSectionVars false
namespace Go.Proofs.YtfbgabkcjjahiaaGreatDoor
section
open Go.RowKit
def endS (p : Prog) (fr : List Int) (i : Nat) : Bool := !decide (valS (events p) (scene p).ds fr (2 * (events p).length + 2) i < 0)
def endsS (p : Prog) (x : Exe) : Bool := (List.range (events p).length).all (endS p x.fr)
theorem range_get {n k : Nat} (h : k < n) : (List.range n)[k]? = some k := by simp [h]
theorem l12Ends_fn (p : Prog) (x : Exe) (hn : (events p).length ≤ 42) (hfl : x.fr.length = (events p).length) (hfr : ∀ f ∈ x.fr, f < (events p).length) :
  Fp Tryz.prog 78 [progV p, .sl ((events p).map Evt.V), x.V] (.bool (endsS p x)) := by
 refine Fc.start (S := [6]) Tryz.func78 Tryz.ntmps78 Tryz.results78 rfl (by decide) rfl (by kernel_rfl) ?_
 simp (disch := omega) only [push_cast, go_sem, zA, simprocAttr, progV_eq, Exe.V_eq]
 intro g1 g2
 refine Sat.loop (σ := Nat) (fun k => upd (upd (upd (upd noT 3 (.ptr 3 [] 0 0 g1 1)) 5 (.ptr 5 [] 0 0 g2 2)) 1 (.sl ((events p).map Evt.V))) 7 (.int .i64 k))
  (fun _ => (noM.set 3 (.own 25 (some g1) 1 [.agg [.sl (p.map thrV)]])).set 5 (.own 33 (some g2) 1 [.agg [.sl (x.fr.map (V.int .i64)), .sl (x.od.map intsV)]]))
  (fun k => k ≤ (events p).length ∧ ((List.range (events p).length).take k).all (endS p x.fr) = true) (fun k => (events p).length - k) 0 (by simp) ?_ ?_
 ·(refine zB ?_; repeat (first | exact zC | exact zD | refine zE (by decide) ?_ | refine zF ?_ ?_ | refine zG ?_ ?_)) <;> (try simp (disch := omega) only [push_cast, go_sem, zA, simprocAttr])
 rintro k ⟨hk, hall⟩ J hJ
 refine Sat.of (S := []) (by kernel_rfl) ?_
 rcases Nat.lt_or_ge k (events p).length with hlt | hge
 ·have hv := l12Val_fn p x hn hfl hfr (2 * (events p).length + 2) k (by omega) (by omega)
  rw [show ((2 * (events p).length + 2 : Nat) : Int) = 2 * ((events p).length : Int) + 2 by omega] at hv
  simp (disch := omega) only [push_cast, go_sem, zA, simprocAttr, hlt]
  refine callR.pure hv rfl rfl ?_
  by_cases h0 : valS (events p) (scene p).ds x.fr (2 * (events p).length + 2) k < 0
  ·simp (disch := omega) only [push_cast, go_sem, zA, simprocAttr, h0]
   rw [endsS, allp_no (range_get hlt) (by simp [endS, h0])]
  ·simp (disch := omega) only [push_cast, go_sem, zA, simprocAttr, h0]
   refine hJ (k + 1) _ _ ⟨by omega, allp_take (range_get hlt) hall (by simp [endS, h0])⟩ (by omega) ?_
   (refine zB ?_; repeat (first | exact zC | exact zD | refine zE (by decide) ?_ | refine zF ?_ ?_ | refine zG ?_ ?_)) <;> (try simp (disch := omega) only [push_cast, go_sem, zA, simprocAttr])
 ·have : k = (events p).length := by omega
  subst this
  rw [List.take_of_length_le (by simp)] at hall
  simp (disch := omega) only [push_cast, go_sem, zA, simprocAttr]
  refine Sat.of (S := []) (by kernel_rfl) ?_
  simp (disch := omega) only [push_cast, go_sem, zA, simprocAttr]
  rw [endsS, hall]
def placeS (ds : List Do) (od : List (List Int)) (k : Nat) : Bool := (writersOf ds k).length == (od[k]?.getD []).length && (writersOf ds k).all (od[k]?.getD []).contains
def fromS (od : List (List Int)) (q : Do × Int) : Bool := if q.1.reads then q.2 == -1 || (od[q.1.p.toNat]?.getD []).contains q.2 else q.2 == -2
def formS (p : Prog) (x : Exe) : Bool := decide (x.fr.length = (events p).length) && decide (x.od.length = 3) && (List.range 3).all (placeS (scene p).ds x.od) && ((scene p).ds.zip x.fr).all (fromS x.od)
end
section
open Go.RowKit
section
variable {P : Program} {M Mf : Mem} {k : V → Mem → Prop} {c : Bool}
theorem mg_skip : ∀ {xs ks : List (Option Nat)} {i : Nat}, (xs.all fun x => x.isNone) = true → mg i (xs ++ ks) M Mf = mg (i + xs.length) ks M Mf
 | [], ks, i, h => rfl
 | none :: xs, ks, i, h => by
  simp only [List.all_cons, Bool.and_eq_true] at h
  rw [List.cons_append, mg, mg_skip h.2, List.length_cons, Nat.add_right_comm]; rfl
 | some x :: xs, ks, i, h => by simp at h
theorem renArgs_app : ∀ {xs ys : List V} {i : Nat}, (xs.all fun v => v.key.isNone) = true → renArgs i (xs ++ ys) = xs ++ renArgs (i + xs.length) ys
 | [], ys, i, h => rfl
 | x :: xs, ys, i, h => by
  simp only [List.all_cons, Bool.and_eq_true] at h
  have e : x.ren i = x := by cases x <;> first | rfl | (simp [V.key] at h)
  rw [List.cons_append, renArgs, renArgs_app h.2, List.length_cons, e]
  rw [show i + 1 + xs.length = i + (xs.length + 1) by omega]; rfl
theorem foot_at {xs ks : List (Option Nat)} {j : Nat} : footM M (xs ++ ks) (xs.length + j) = ((ks[j]?).bind id).bind M := by
 rw [footM_at, List.getElem?_append_right (by omega), Nat.add_sub_cancel_left]
theorem runD_two {spec : Table} {fn : FuncId} (xs : List V) {a b d l1 c1 l2 c2 : Nat} {γ1 γ2 : Option Nat} {o1 o2 : V} {R : Post} (h : spec fn (xs ++ [.msl xs.length [] γ1 l1 c1, .msl (xs.length + 1) [] γ2 l2 c2]) (footM M ((xs ++ [V.msl a [] γ1 l1 c1, V.msl b [] γ2 l2 c2]).map V.key)) = some R)
  (hc : Fc P fn (xs ++ [.msl xs.length [] γ1 l1 c1, .msl (xs.length + 1) [] γ2 l2 c2]) ((noM.set xs.length o1).set (xs.length + 1) o2) R) (ha : M a = some o1) (hb : M b = some o2) (hab : a ≠ b) (hk : (xs.all fun v => v.key.isNone) = true) (h9 : Nat.ble (xs.length + 2) 90 = true)
  (hR : ∀ r m, R r m → ∃ γ l c ob, r = .msl 100 [] γ l c ∧ m = noM.set 100 ob) (hne : ∃ r m, R r m) (hchk : c = true) (hK : ∀ γ l c ob, R (.msl 100 [] γ l c) (noM.set 100 ob) → runV (some (True, det (.msl d [] γ l c) (((M.era b).era a).set d ob))) k .mk) :
  runD (callV (specT P spec) fn (xs ++ [.msl a [] γ1 l1 c1, .msl b [] γ2 l2 c2]) (some d) M) false M c k .mk := by
 have h90 := Nat.le_of_ble_eq_true h9
 have hk' : ((xs.map V.key).all fun x => x.isNone) = true := by rw [List.all_map]; exact hk
 have hren : renArgs 0 (xs ++ [.msl a [] γ1 l1 c1, .msl b [] γ2 l2 c2]) = xs ++ [.msl xs.length [] γ1 l1 c1, .msl (xs.length + 1) [] γ2 l2 c2] := by
  rw [renArgs_app hk, Nat.zero_add]; rfl
 have hks : (xs ++ [V.msl a [] γ1 l1 c1, V.msl b [] γ2 l2 c2]).map V.key = xs.map V.key ++ [some a, some b] := by rw [List.map_append]; rfl
 have hlen : (xs.map V.key).length = xs.length := List.length_map ..
 refine runD_call (F := (noM.set xs.length o1).set (xs.length + 1) o2) (R := R) (by rw [hren]; exact h) (by rw [hren]; exact hc) ?_ ?_ (by simp; omega) hne nofun hchk ?_
 ·rw [hks]
  refine Sub.set (Sub.set Sub.no ?_) ?_
  ·have := foot_at (M := M) (xs := xs.map V.key) (ks := [some a, some b]) (j := 0)
   rw [hlen, Nat.add_zero] at this
   rw [this]; exact ha
  ·have := foot_at (M := M) (xs := xs.map V.key) (ks := [some a, some b]) (j := 1)
   rw [hlen] at this
   rw [this]; exact hb
 ·rw [hks, List.filterMap_append, keys_none hk', List.nil_append]
  simp [List.filterMap_cons, hab]
 ·rintro r0 r Mf hr h5
  obtain ⟨γ, l, c, ob, rfl, rfl⟩ := hR r0 Mf hr
  have e1 : (noM.set 100 ob) 100 = some ob := rfl
  have e2 : ∀ i, i < 100 → (noM.set 100 ob) i = none := fun i hi => by simp [Mem.set, noM]; omega
  rw [hks, merge_eq, e1, mgD_some, mg_skip hk', Nat.zero_add, hlen, mg_some, mg_some, e2 _ (by omega), e2 _ (by omega), MemU_none, MemU_none, mg_nil, h5 d rfl]
  exact (runV_det.1 (hK γ l c ob hr)).2
theorem Fc.nils {f : FuncId} {xs : List V} {e1 e2 : TypeId} {R : Post} (h : Fc P f (xs ++ [.msl xs.length [] none 0 0, .msl (xs.length + 1) [] none 0 0]) ((noM.set xs.length (.own e1 none 0 [])).set (xs.length + 1) (.own e2 none 0 [])) R) : Fc P f (xs ++ [.nilsl, .nilsl]) noM R := by
 refine ⟨fun imm w vals hG hI hi hs hv => ?_, h.go⟩
 have hI2 : Inv (szT P) imm w ((noM.set xs.length (.own e1 none 0 [])).set (xs.length + 1) (.own e2 none 0 [])) := (hI.nilrow _ _).nilrow _ _
 refine (h.fn imm w vals hG hI2 hi (by simpa using hs) ?_).mono ?_
 ·intro j c u hc hu
  rcases Nat.lt_or_ge j xs.length with hj | hj
  ·rw [List.getElem?_append_left hj] at hc
   exact hv j c u (by rw [List.getElem?_append_left hj]; exact hc) hu
  ·have hjx : xs.length ≤ j := hj
   rw [List.getElem?_append_right hjx] at hc
   have hv' := fun c' hc' => hv j c' u (by rw [List.getElem?_append_right hjx]; exact hc') hu
   generalize j - xs.length = n at *
   match n with
   | 0 => cases hc; have := hv' .nilsl rfl; cases this; exact .msl _ _ none _ _
   | 1 => cases hc; have := hv' .nilsl rfl; cases this; exact .msl _ _ none _ _
   | n + 2 => cases hc
 ·rintro e w' ⟨v, r, m, imm', h1, h2, h3, h4⟩
  refine ⟨v, r, m, imm', h1, h2, h3, h4.inv, h4.lt, h4.size, h4.os, h4.tape, h4.output, fun g hg _ => h4.block g hg ?_, fun g hg => (h4.owns g hg).imp_left ?_⟩
  ·exact fun ho => not_owns_no (owns_nilrow (owns_nilrow ho))
  ·exact fun ho => owns_nilrow (owns_nilrow ho)
end
def rowsP (L : List (List Int)) : Post := fun r m => ∃ γ c e, ∃ ws : List RowI, r = .msl 100 [] γ ws.length c ∧ m = noM.set 100 (.own e γ c (ws.map RowI.V)) ∧ ws.map RowI.l = L ∧ (γ = none ∨ e = 26)
theorem rowsP_one {L : List (List Int)} : ∀ r m, rowsP L r m → ∃ γ l c ob, r = .msl 100 [] γ l c ∧ m = noM.set 100 ob := by
 rintro r m ⟨γ, c, e, ws, rfl, rfl, _⟩
 exact ⟨γ, _, c, _, rfl, rfl⟩
theorem rowsP_ne (L : List (List Int)) : ∃ r m, rowsP L r m := ⟨_, _, none, 0, 0, L.map fun l => ⟨none, 0, l⟩, rfl, rfl, by rw [List.map_map]; exact List.map_id'' (fun _ => rfl) L, .inl rfl⟩
theorem runD_rows {M : Mem} {k : V → Mem → Prop} {cc : Bool} {spec : Table} {fn : FuncId} (xs : List V) {a b d l1 c1 l2 c2 : Nat} {γ1 γ2 : Option Nat} {o1 o2 : V} {L : List (List Int)} (h : spec fn (xs ++ [.msl xs.length [] γ1 l1 c1, .msl (xs.length + 1) [] γ2 l2 c2]) (footM M ((xs ++ [V.msl a [] γ1 l1 c1, V.msl b [] γ2 l2 c2]).map V.key)) = some (rowsP L))
  (hc : Fc Tryz.prog fn (xs ++ [.msl xs.length [] γ1 l1 c1, .msl (xs.length + 1) [] γ2 l2 c2]) ((noM.set xs.length o1).set (xs.length + 1) o2) (rowsP L)) (ha : M a = some o1) (hb : M b = some o2) (hab : a ≠ b) (hk : (xs.all fun v => v.key.isNone) = true) (h9 : Nat.ble (xs.length + 2) 90 = true)
  (hchk : cc = true) (hK : ∀ γ c e, ∀ ws : List RowI, ws.map RowI.l = L → (γ = none ∨ e = 26) → runV (some (True, det (.msl d [] γ ws.length c) (((M.era b).era a).set d (.own e γ c (ws.map RowI.V))))) k .mk) :
  runD (callV (specT Tryz.prog spec) fn (xs ++ [.msl a [] γ1 l1 c1, .msl b [] γ2 l2 c2]) (some d) M) false M cc k .mk := by
 refine runD_two xs h hc ha hb hab hk h9 rowsP_one (rowsP_ne L) hchk ?_
 rintro γ l c ob ⟨γ', c', e, ws, h1, h2, h3, h4⟩
 cases h1
 have := congrFun h2 100
 simp only [Mem.set, if_true, Option.some.injEq] at this
 subst this
 exact hK γ c e ws h3 h4
theorem flatMap_take {α β : Type} (f : α → List β) (l : List α) (k : Nat) : ((l.take k).flatMap f).length ≤ (l.flatMap f).length := by
 conv => rhs; rw [← List.take_append_drop k l, List.flatMap_append, List.length_append]
 exact Nat.le_add_right _ _
def compl (ds : List Do) : Nat → List Int → List (List Int)
 | 0, fr => [fr]
 | j + 1, fr => match ds[fr.length]? with
  | some d => (choicesOf ds d).flatMap fun c => compl ds j (fr ++ [c])
  | none => [fr]
theorem rowsP_of {f : FuncId} {args : List V} {F : Mem} {L : List (List Int)} (h : Fc Tryz.prog f args F fun r m => ∃ s γ c e, ∃ ws : List RowI, r = .msl s [] γ ws.length c ∧ m = noM.set s (.own e γ c (ws.map RowI.V)) ∧ ws.map RowI.l = L ∧ (γ = none ∨ e = 26)) : Fc Tryz.prog f args F (rowsP L) :=
 h.rekey (by
  rintro r m ⟨s, γ, c, e, ws, rfl, rfl, h1, h2⟩
  exact .inr ⟨s, γ, ws.length, c, _, rfl, by simp [Mem.set], γ, c, e, ws, rfl, era_set rfl, h1, h2⟩)
theorem l12Froms_fn (p : Prog) (hn : (events p).length ≤ 42) : ∀ (j : Nat) (fr : RowI) (γ : Option Nat) (c : Nat) (e : TypeId) (ys : List RowI), fr.l.length + j = (events p).length → ys.length + (compl (scene p).ds j fr.l).length < 2 ^ 30 → (γ = none ∨ e = 26) →
  Fc Tryz.prog 76 [progV p, .sl ((events p).map Evt.V), .msl 2 [] fr.γ fr.l.length fr.c, .msl 3 [] γ ys.length c] ((noM.set 2 fr.V).set 3 (.own e γ c (ys.map RowI.V))) (rowsP (ys.map RowI.l ++ compl (scene p).ds j fr.l)) := by
 intro j
 induction j with
 | zero =>
  rintro ⟨γ0, c0, l⟩ γ c e ys hlen hb hγ
  simp only [Nat.add_zero] at hlen
  rw [RowI.V_eq]
  simp only [compl, List.length_singleton] at hb ⊢
  have hγ' : (γ = none ∨ e = 26) = True := by simp only [hγ]
  have hge : (l.length : Int) ≥ (events p).length := by omega
  have hge2 : (((events p).length : Int) ≤ l.length) := by omega
  refine rowsP_of ?_
  refine Fc.start (S := []) Tryz.func76 Tryz.ntmps76 Tryz.results76 rfl (by decide) rfl (by kernel_rfl) ?_
  simp (disch := omega) only [push_cast, go_sem, zA, simprocAttr, progV_eq, hge, hge2, hγ']
  intro g g1
  refine ⟨by omega, fun γ1 c1 _ => ?_⟩
  intro g2
  cases hfl : (V.own 3 γ1 c1 (l.map (V.int .i64))).flatC <;> simp (disch := omega) only [push_cast, go_sem, zA, simprocAttr, hγ', hfl]
  all_goals
   refine ⟨by omega, fun γ3 c3 _ => ?_⟩
   refine ⟨_, ?_, 8, γ3, c3, 26, ys ++ [⟨γ1, c1, l⟩], by simp, rfl, by simp, .inr rfl⟩
   ((repeat (first | exact Sub.no | refine Sub.set ?_ ?_)) <;> (try simp (disch := omega) only [push_cast, go_sem, zA, simprocAttr]))
   all_goals simp [RowI.V]
 | succ j ih =>
  rintro ⟨γ0, c0, l⟩ γ c e ys hlen hb hγ
  simp only at hlen
  rw [RowI.V_eq]
  simp only at hb ⊢
  have hlt : l.length < (events p).length := by omega
  obtain ⟨ev, he⟩ : ∃ d, (events p)[l.length]? = some d := ⟨_, List.getElem?_eq_getElem hlt⟩
  obtain ⟨d, hst⟩ : ∃ d, stepAt p ev = d := ⟨_, rfl⟩
  have hd := scene_get he
  have hdo := l12Do_fn p ev (evIn_of (List.mem_of_getElem? he))
  rw [hst] at hd hdo
  have hcp : compl (scene p).ds (j + 1) l = (choicesOf (scene p).ds d).flatMap fun c => compl (scene p).ds j (l ++ [c]) := by rw [compl, hd]
  rw [hcp] at hb ⊢
  have hγ' : (γ = none ∨ e = 26) = True := by simp only [hγ]
  have hge : ¬ ((l.length : Int) ≥ (events p).length) := by omega
  have hge2 : ¬ (((events p).length : Int) ≤ l.length) := by omega
  refine rowsP_of ?_
  refine Fc.start (S := [2005]) Tryz.func76 Tryz.ntmps76 Tryz.results76 rfl (by decide) rfl (by kernel_rfl) ?_
  simp (disch := omega) only [push_cast, go_sem, zA, simprocAttr, progV_eq, hge, hge2]
  intro g1
  refine Sat.drawnE [(0, 6), (4, 6), (5, 6)] [] [0, 4, 5] (pureT [(118, d.V)]) (by kernel_rfl) (by kernel_rfl) ?_
  simp (disch := omega) only [push_cast, go_sem, zA, simprocAttr, he, hlt, Evt.V_eq]
  refine runD_pure rfl hdo rfl rfl ?_ ?_
  ·rfl
  simp (disch := omega) only [push_cast, go_sem, zA, simprocAttr, Do.V_eq]
  intro g3
  refine Sat.of (S := [13]) (by kernel_rfl) ?_
  simp (disch := omega) only [push_cast, go_sem, zA, simprocAttr]
  refine callR.pure (l1Reads_fn d) rfl rfl ?_
  cases hr : d.reads
  ·have hch : choicesOf (scene p).ds d = [-2] := by simp [choicesOf, hr]
   rw [hch] at hb ⊢
   simp only [List.flatMap_cons, List.flatMap_nil, List.append_nil] at hb ⊢
   simp (disch := omega) only [push_cast, go_sem, zA, simprocAttr]
   refine Sat.drawnE [(0, 2), (0, 4), (0, 5), (2, 5), (4, 5), (0, 6)] [] [] (fun f' _ _ => if f' = 76 then some (rowsP (ys.map RowI.l ++ compl (scene p).ds j (l ++ [-2]))) else none) (by kernel_rfl) (by kernel_rfl) ?_
   simp (disch := omega) only [push_cast, go_sem, zA, simprocAttr]
   intro g4
   refine ⟨by omega, fun γ1 c1 _ => ?_⟩
   intro g5
   refine ⟨by omega, fun γ2 c2 _ => ?_⟩
   have hih := ih ⟨γ2, c2, l ++ [-2]⟩ γ c e ys (by simp; omega) hb hγ
   simp only [RowI.V, List.length_append, List.map_append, List.map_cons, List.map_nil, List.length_cons, List.length_nil, Nat.zero_add] at hih
   refine runD_rows [_, _] rfl hih rfl rfl (by decide) rfl rfl rfl ?_
   intro γ3 c3 e3 ws hws hγ3
   simp (disch := omega) only [push_cast, go_sem, zA, simprocAttr]
   refine ⟨_, ?_, 8, γ3, c3, e3, ws, rfl, rfl, hws, hγ3⟩
   ((repeat (first | exact Sub.no | refine Sub.set ?_ ?_)) <;> (try simp (disch := omega) only [push_cast, go_sem, zA, simprocAttr]))
  ·have hch : choicesOf (scene p).ds d = -1 :: writersOf (scene p).ds d.p := by simp [choicesOf, hr]
   rw [hch] at hb ⊢
   simp only [List.flatMap_cons, List.length_append] at hb ⊢
   obtain ⟨vs, hvs⟩ : ∃ vs, writersOf (scene p).ds d.p = vs := ⟨_, rfl⟩
   have hvl : vs.length ≤ 42 := by
    have h1 : (scene p).ds.length = (events p).length := by simp [scene]
    have := wrs_le (scene p).ds d.p (scene p).ds.length
    rw [← hvs]; unfold writersOf; omega
   have hwr := l12Writes_fn p d.p hn
   rw [hvs] at hb hwr ⊢
   simp (disch := omega) only [push_cast, go_sem, zA, simprocAttr]
   refine Sat.drawnE [(0, 2), (0, 4), (0, 5), (2, 5), (4, 5), (0, 6)] [] [] (fun f' _ _ => if f' = 76 then some (rowsP (ys.map RowI.l ++ compl (scene p).ds j (l ++ [-1]))) else none) (by kernel_rfl) (by kernel_rfl) ?_
   simp (disch := omega) only [push_cast, go_sem, zA, simprocAttr]
   intro g4
   refine ⟨by omega, fun γ1 c1 _ => ?_⟩
   intro g5
   refine ⟨by omega, fun γ2 c2 _ => ?_⟩
   have hih := ih ⟨γ2, c2, l ++ [-1]⟩ γ c e ys (by simp; omega) (by dsimp only; omega) hγ
   simp only [RowI.V, List.length_append, List.map_append, List.map_cons, List.map_nil, List.length_cons, List.length_nil, Nat.zero_add] at hih
   refine runD_rows [_, _] rfl hih rfl rfl (by decide) rfl rfl rfl ?_
   intro γ3 c3 e3 ws hws hγ3
   simp (disch := omega) only [push_cast, go_sem, zA, simprocAttr]
   refine callR.pure hwr rfl rfl ?_
   simp (disch := omega) only [push_cast, go_sem, zA, simprocAttr, intsV_eq]
   refine Sat.loop (σ := EvS × List RowI) (fun x => upd (upd (upd (upd (upd (upd noT 4 (.ptr 4 [] 0 0 g1 1)) 1 (.sl ((events p).map Evt.V))) 2 (.msl 2 [] γ0 l.length c0)) 11 (.sl (vs.map (V.int .i64)))) 12 (.int .i64 x.1.k)) 3 (.msl 3 [] x.1.γ x.2.length x.1.c))
    (fun x => ((noM.set 4 (.own 25 (some g1) 1 [.agg [.sl (p.map thrV)]])).set 2 (.own 3 γ0 c0 (l.map (V.int .i64)))).set 3 (.own x.1.e x.1.γ x.1.c (x.2.map RowI.V)))
    (fun x => x.1.k ≤ vs.length ∧ (x.1.γ = none ∨ x.1.e = 26) ∧ x.2.map RowI.l = (ys.map RowI.l ++ compl (scene p).ds j (l ++ [-1])) ++ (vs.take x.1.k).flatMap fun c => compl (scene p).ds j (l ++ [c])) (fun x => vs.length - x.1.k) (⟨0, e3, γ3, c3⟩, ws) (by simp [hγ3, hws]) ?_ ?_
   ·(refine zB ?_; repeat (first | exact zC | exact zD | refine zE (by decide) ?_ | refine zF ?_ ?_ | refine zG ?_ ?_)) <;> (try simp (disch := omega) only [push_cast, go_sem, zA, simprocAttr])
   rintro ⟨⟨k, e4, γ4, c4⟩, zs⟩ ⟨hk, hγ4, hzs⟩ J hJ
   simp only at hk hγ4 hzs hJ
   refine Sat.of (S := []) (by kernel_rfl) ?_
   rcases Nat.lt_or_ge k vs.length with hlt2 | hge2
   ·obtain ⟨z, hz⟩ : ∃ z, vs[k]? = some z := ⟨_, List.getElem?_eq_getElem hlt2⟩
    have hzl : zs.length = ys.length + (compl (scene p).ds j (l ++ [-1])).length + ((vs.take k).flatMap fun c => compl (scene p).ds j (l ++ [c])).length := by
     have := congrArg List.length hzs
     simpa only [List.length_map, List.length_append] using this
    have hft := flatMap_take (fun c => compl (scene p).ds j (l ++ [c])) vs (k + 1)
    rw [take_get hz, List.flatMap_append, List.length_append] at hft
    simp only [List.flatMap_cons, List.flatMap_nil, List.append_nil] at hft
    simp (disch := omega) only [push_cast, go_sem, zA, simprocAttr, hlt2]
    refine Sat.drawnE [(0, 2), (0, 4), (0, 8), (2, 8), (4, 8), (0, 9), (2, 9), (4, 9), (0, 10)] [] [] (fun f' _ _ => if f' = 76 then some (rowsP (zs.map RowI.l ++ compl (scene p).ds j (l ++ [z]))) else none) (by kernel_rfl) (by kernel_rfl) ?_
    simp (disch := omega) only [push_cast, go_sem, zA, simprocAttr, hz, hlt2]
    intro g6
    refine ⟨by omega, fun γ5 c5 _ => ?_⟩
    intro g7
    refine ⟨by omega, fun γ6 c6 _ => ?_⟩
    have hih := ih ⟨γ6, c6, l ++ [z]⟩ γ4 c4 e4 zs (by simp; omega) (by dsimp only; omega) hγ4
    simp only [RowI.V, List.length_append, List.map_append, List.map_cons, List.map_nil, List.length_cons, List.length_nil, Nat.zero_add] at hih
    refine runD_rows [_, _] rfl hih rfl rfl (by decide) rfl rfl rfl ?_
    intro γ7 c7 e7 us hus hγ7
    simp (disch := omega) only [push_cast, go_sem, zA, simprocAttr]
    refine hJ (⟨k + 1, e7, γ7, c7⟩, us) _ _ ⟨by dsimp only; omega, hγ7, ?_⟩ (by dsimp only; omega) ?_
    ·dsimp only
     rw [hus, hzs, take_get hz, List.flatMap_append]
     simp
    ·(refine zB ?_; repeat (first | exact zC | exact zD | refine zE (by decide) ?_ | refine zF ?_ ?_ | refine zG ?_ ?_)) <;> (try simp (disch := omega) only [push_cast, go_sem, zA, simprocAttr])
   ·have : k = vs.length := by omega
    subst this
    rw [List.take_length] at hzs
    simp (disch := omega) only [push_cast, go_sem, zA, simprocAttr]
    refine Sat.of (S := []) (by kernel_rfl) ?_
    simp (disch := omega) only [push_cast, go_sem, zA, simprocAttr]
    refine ⟨_, ?_, 8, γ4, c4, e4, zs, rfl, rfl, by rw [hzs, List.append_assoc], hγ4⟩
    ((repeat (first | exact Sub.no | refine Sub.set ?_ ?_)) <;> (try simp (disch := omega) only [push_cast, go_sem, zA, simprocAttr]))
end
section
open Go.RowKit
section
variable {P : Program} {M : Mem} {k : V → Mem → Prop}
theorem set_self {a : Nat} {o : V} (h : M a = some o) : M.set a o = M := by
 funext i; simp only [Mem.set]; split
 ·rename_i e; rw [e, h]
 ·rfl
theorem Sat.someG {N : Nat} {cd : Code} {t : Nat → V} {K : Kont} {o : Nat} {e : TypeId} {γ : Option Nat} {cap : Nat} {es : List V} (ho : M o = some (.own e γ cap es)) (hne : es ≠ []) (h : ∀ g, γ = some g → Sat P N cd t M K) : Sat P N cd t M K := by
 intro imm0 w0 M0 imm a w hr
 cases γ with
 | some g => exact h g rfl _ _ _ _ _ _ hr
 | none =>
  have := hr.step.inv.nd o [] (.own e none cap es) (by simp [Mem.getP, ho, V.getP])
  exact absurd this.1 hne
theorem callR.peek {f : FuncId} {bs : List V} {a l c : Nat} {γ : Option Nat} {o v : V} {d : Nat} (h : Fc P f (.msl 0 [] γ l c :: bs) (noM.set 0 o) fun r m => r = v ∧ m = noM.set 0 o) (hM : M a = some o) (hk : (bs.all fun v => v.key.isNone) = true) (h9 : Nat.ble (bs.length + 1) 90 = true)
  (hK : runV (some (True, det (resN (some d) v) M)) k .mk) : callR P f (.msl a [] γ l c :: bs) (some d) M k .mk := by
 have hk' : ((bs.map V.key).all fun x => x.isNone) = true := by rw [List.all_map]; exact hk
 refine callR.intro (F := noM.set 0 o) (R := fun r m => r = v ∧ m = noM.set 0 o) (by rw [renArgs_cons, renArgs_none hk]; exact h) ?_ (Nat.le_of_ble_eq_true h9) ?_ ?_
 ·rw [List.map_cons, List.filterMap_cons]
  show (a :: (bs.map V.key).filterMap id).Nodup
  rw [keys_none hk']; simp
 ·exact Sub.set Sub.no (by simp [footM, V.key, hM])
 ·rintro r0 Mf ⟨rfl, rfl⟩
  have : mergeM M ((V.msl a [] γ l c :: bs).map V.key) (some d) (noM.set 0 o) = M := by
   rw [merge_eq, List.map_cons]
   have e1 : (noM.set 0 o) 100 = none := rfl
   have e2 : (noM.set 0 o) 0 = some o := rfl
   rw [e1, mgD_none', key_msl, mg_some, e2, mg_all_none hk', MemU_some, set_self hM]
  rw [this]
  exact (runV_det.1 hK).2
end
theorem l12HasO_fn (zs : List Int) (x : Int) (γ : Option Nat) (c : Nat) (hl : zs.length < 2 ^ 40) : Fc Tryz.prog 136 [.msl 0 [] γ zs.length c, .int .i64 x] (noM.set 0 (.own 3 γ c (zs.map (V.int .i64)))) fun r m => r = .bool (zs.contains x) ∧ m = noM.set 0 (.own 3 γ c (zs.map (V.int .i64))) := by
 refine Fc.start (S := [6]) Tryz.func136 Tryz.ntmps136 Tryz.results136 rfl (by decide) rfl (by kernel_rfl) ?_
 simp (disch := omega) only [push_cast, go_sem, zA, simprocAttr]
 refine Sat.loop (σ := Nat) (fun k => upd (upd (upd noT 0 (.msl 0 [] γ zs.length c)) 1 (.int .i64 x)) 5 (.int .i64 k)) (fun _ => noM.set 0 (.own 3 γ c (zs.map (V.int .i64))))
  (fun k => k ≤ zs.length ∧ zs.contains x = (zs.drop k).contains x) (fun k => zs.length - k) 0 (by simp) ?_ ?_
 ·(refine zB ?_; repeat (first | exact zC | exact zD | refine zE (by decide) ?_ | refine zF ?_ ?_ | refine zG ?_ ?_)) <;> (try simp (disch := omega) only [push_cast, go_sem, zA, simprocAttr])
 rintro k ⟨hk, hc⟩ J hJ
 rcases Nat.lt_or_ge k zs.length with hlt | hge
 ·refine Sat.someG (o := 0) (e := 3) (γ := γ) (cap := c) (es := zs.map (V.int .i64)) rfl (fun h => by have := congrArg List.length h; simp at this; subst this; simp at hlt) ?_
  rintro g rfl
  refine Sat.of (S := []) (by kernel_rfl) ?_
  obtain ⟨z, hz⟩ : ∃ z, zs[k]? = some z := ⟨_, List.getElem?_eq_getElem hlt⟩
  rw [drop_get hz, List.contains_cons] at hc
  cases hx : (z == x)
  ·simp (disch := omega) only [push_cast, go_sem, zA, simprocAttr, hz, hlt, hx]
   refine hJ (k + 1) _ _ ⟨by omega, ?_⟩ (by omega) ?_
   ·rw [hc]
    have : (x == z) = false := beq_eq_false_iff_ne.2 fun h => beq_eq_false_iff_ne.1 hx h.symm
    rw [this, Bool.false_or]
   ·(refine zB ?_; repeat (first | exact zC | exact zD | refine zE (by decide) ?_ | refine zF ?_ ?_ | refine zG ?_ ?_)) <;> (try simp (disch := omega) only [push_cast, go_sem, zA, simprocAttr])
  ·simp (disch := omega) only [push_cast, go_sem, zA, simprocAttr, hz, hlt, hx]
   have : (x == z) = true := beq_iff_eq.2 (beq_iff_eq.1 hx).symm
   refine ⟨_, ?_, by rw [hc, this, Bool.true_or], rfl⟩
   ((repeat (first | exact Sub.no | refine Sub.set ?_ ?_)) <;> (try simp (disch := omega) only [push_cast, go_sem, zA, simprocAttr]))
 ·have : k = zs.length := by omega
  subst this
  refine Sat.of (S := [6]) (by kernel_rfl) ?_
  simp (disch := omega) only [push_cast, go_sem, zA, simprocAttr]
  refine Sat.of (S := []) (by kernel_rfl) ?_
  simp (disch := omega) only [push_cast, go_sem, zA, simprocAttr]
  refine ⟨_, ?_, by rw [hc, List.drop_length]; rfl, rfl⟩
  ((repeat (first | exact Sub.no | refine Sub.set ?_ ?_)) <;> (try simp (disch := omega) only [push_cast, go_sem, zA, simprocAttr]))
def rowsR (l : List Int) : Nat → List Int → List (List Int)
 | 0, h => [h]
 | j + 1, h => l.flatMap fun z => if h.contains z then [] else rowsR l j (h ++ [z])
theorem l12Rows_fn (l : List Int) (hl : l.length < 2 ^ 20) : ∀ (j : Nat) (hd : RowI) (γ : Option Nat) (c : Nat) (e : TypeId) (ys : List RowI), hd.l.length + j = l.length → ys.length + (rowsR l j hd.l).length < 2 ^ 30 → (γ = none ∨ e = 26) →
  Fc Tryz.prog 120 [intsV l, .msl 1 [] hd.γ hd.l.length hd.c, .msl 2 [] γ ys.length c] ((noM.set 1 hd.V).set 2 (.own e γ c (ys.map RowI.V))) (rowsP (ys.map RowI.l ++ rowsR l j hd.l)) := by
 intro j
 induction j with
 | zero =>
  rintro ⟨γ0, c0, h⟩ γ c e ys hlen hb hγ
  simp only [Nat.add_zero] at hlen
  rw [RowI.V_eq]
  simp only [rowsR, List.length_singleton] at hb ⊢
  have hγ' : (γ = none ∨ e = 26) = True := by simp only [hγ]
  have heq : ((h.length : Int) == l.length) = true := by rw [hlen]; simp
  refine rowsP_of ?_
  refine Fc.start (S := []) Tryz.func120 Tryz.ntmps120 Tryz.results120 rfl (by decide) rfl (by kernel_rfl) ?_
  simp (disch := omega) only [push_cast, go_sem, zA, simprocAttr, intsV_eq, heq, hγ']
  intro g1
  refine ⟨by omega, fun γ1 c1 _ => ?_⟩
  intro g2
  cases hfl : (V.own 3 γ1 c1 (h.map (V.int .i64))).flatC <;> simp (disch := omega) only [push_cast, go_sem, zA, simprocAttr, hγ', hfl]
  all_goals
   refine ⟨by omega, fun γ3 c3 _ => ?_⟩
   refine ⟨_, ?_, 6, γ3, c3, 26, ys ++ [⟨γ1, c1, h⟩], by simp, rfl, by simp, .inr rfl⟩
   ((repeat (first | exact Sub.no | refine Sub.set ?_ ?_)) <;> (try simp (disch := omega) only [push_cast, go_sem, zA, simprocAttr]))
   all_goals simp [RowI.V]
 | succ j ih =>
  rintro ⟨γ0, c0, h⟩ γ c e ys hlen hb hγ
  simp only at hlen
  rw [RowI.V_eq]
  simp only [rowsR] at hb ⊢
  have hne : ((h.length : Int) == l.length) = false := beq_eq_false_iff_ne.2 (by omega)
  obtain ⟨f, hf⟩ : ∃ f : Int → List (List Int), (fun z => if h.contains z then [] else rowsR l j (h ++ [z])) = f := ⟨_, rfl⟩
  have hfz : ∀ z, f z = if h.contains z then [] else rowsR l j (h ++ [z]) := fun z => by rw [← hf]
  rw [hf] at hb ⊢
  refine rowsP_of ?_
  refine Fc.start (S := [8]) Tryz.func120 Tryz.ntmps120 Tryz.results120 rfl (by decide) rfl (by kernel_rfl) ?_
  simp (disch := omega) only [push_cast, go_sem, zA, simprocAttr, intsV_eq, hne]
  refine Sat.loop (σ := EvS × List RowI) (fun x => upd (upd (upd (upd noT 0 (.sl (l.map (V.int .i64)))) 1 (.msl 1 [] γ0 h.length c0)) 7 (.int .i64 x.1.k)) 2 (.msl 2 [] x.1.γ x.2.length x.1.c))
   (fun x => (noM.set 1 (.own 3 γ0 c0 (h.map (V.int .i64)))).set 2 (.own x.1.e x.1.γ x.1.c (x.2.map RowI.V)))
   (fun x => x.1.k ≤ l.length ∧ (x.1.γ = none ∨ x.1.e = 26) ∧ x.2.map RowI.l = ys.map RowI.l ++ (l.take x.1.k).flatMap f) (fun x => l.length - x.1.k) (⟨0, e, γ, c⟩, ys) (by simp [hγ]) ?_ ?_
  ·(refine zB ?_; repeat (first | exact zC | exact zD | refine zE (by decide) ?_ | refine zF ?_ ?_ | refine zG ?_ ?_)) <;> (try simp (disch := omega) only [push_cast, go_sem, zA, simprocAttr])
  rintro ⟨⟨k, e4, γ4, c4⟩, zs⟩ ⟨hk, hγ4, hzs⟩ J hJ
  simp only at hk hγ4 hzs hJ
  refine Sat.of (S := []) (by kernel_rfl) ?_
  rcases Nat.lt_or_ge k l.length with hlt2 | hge2
  ·obtain ⟨z, hz⟩ : ∃ z, l[k]? = some z := ⟨_, List.getElem?_eq_getElem hlt2⟩
   have hzl : zs.length = ys.length + ((l.take k).flatMap f).length := by
    have := congrArg List.length hzs
    simpa only [List.length_map, List.length_append] using this
   have hft := flatMap_take f l (k + 1)
   rw [take_get hz, List.flatMap_append, List.length_append] at hft
   simp only [List.flatMap_cons, List.flatMap_nil, List.append_nil] at hft
   simp (disch := omega) only [push_cast, go_sem, zA, simprocAttr, hz, hlt2]
   refine callR.peek (l12HasO_fn h z γ0 c0 (by omega)) rfl rfl rfl ?_
   cases hc : h.contains z
   ·have hf1 : f z = rowsR l j (h ++ [z]) := by rw [hfz, hc]; rfl
    rw [hf1] at hft
    simp (disch := omega) only [push_cast, go_sem, zA, simprocAttr]
    refine Sat.drawnE [(1, 7), (3, 7), (1, 8), (3, 8)] [] [] (fun f' _ _ => if f' = 120 then some (rowsP (zs.map RowI.l ++ rowsR l j (h ++ [z]))) else none) (by kernel_rfl) (by kernel_rfl) ?_
    simp (disch := omega) only [push_cast, go_sem, zA, simprocAttr, hz, hlt2]
    intro g6
    refine ⟨by omega, fun γ5 c5 _ => ?_⟩
    intro g7
    refine ⟨by omega, fun γ6 c6 _ => ?_⟩
    have hih := ih ⟨γ6, c6, h ++ [z]⟩ γ4 c4 e4 zs (by simp; omega) (by dsimp only; omega) hγ4
    simp only [RowI.V, List.length_append, List.map_append, List.map_cons, List.map_nil, List.length_cons, List.length_nil, Nat.zero_add] at hih
    refine runD_rows [_] rfl hih rfl rfl (by decide) rfl rfl rfl ?_
    intro γ7 c7 e7 us hus hγ7
    simp (disch := omega) only [push_cast, go_sem, zA, simprocAttr]
    refine hJ (⟨k + 1, e7, γ7, c7⟩, us) _ _ ⟨by dsimp only; omega, hγ7, ?_⟩ (by dsimp only; omega) ?_
    ·dsimp only
     rw [hus, hzs, take_get hz, List.flatMap_append, ← hf1]
     simp
    ·(refine zB ?_; repeat (first | exact zC | exact zD | refine zE (by decide) ?_ | refine zF ?_ ?_ | refine zG ?_ ?_)) <;> (try simp (disch := omega) only [push_cast, go_sem, zA, simprocAttr])
   ·have hf1 : f z = [] := by rw [hfz, hc]; rfl
    simp (disch := omega) only [push_cast, go_sem, zA, simprocAttr]
    refine hJ (⟨k + 1, e4, γ4, c4⟩, zs) _ _ ⟨by dsimp only; omega, hγ4, ?_⟩ (by dsimp only; omega) ?_
    ·dsimp only
     rw [hzs, take_get hz, List.flatMap_append]
     simp [hf1]
    ·(refine zB ?_; repeat (first | exact zC | exact zD | refine zE (by decide) ?_ | refine zF ?_ ?_ | refine zG ?_ ?_)) <;> (try simp (disch := omega) only [push_cast, go_sem, zA, simprocAttr])
  ·have : k = l.length := by omega
   subst this
   rw [List.take_length] at hzs
   simp (disch := omega) only [push_cast, go_sem, zA, simprocAttr]
   refine Sat.of (S := []) (by kernel_rfl) ?_
   simp (disch := omega) only [push_cast, go_sem, zA, simprocAttr]
   refine ⟨_, ?_, 6, γ4, c4, e4, zs, rfl, rfl, hzs, hγ4⟩
   ((repeat (first | exact Sub.no | refine Sub.set ?_ ?_)) <;> (try simp (disch := omega) only [push_cast, go_sem, zA, simprocAttr]))
end
section
open Go.RowKit
@[push_cast] theorem okY_rows (l : List (List Int)) : okY Tryz.prog 26 (l.map intsV) = True := by
 simp only [okY, List.mem_map, eq_iff_iff, iff_true]
 rintro y ⟨d, _, rfl⟩
 exact ⟨by rw [szT_26]; rfl, by simp [intsV, V.cells, V.one]⟩
theorem rowsP_fp {f : FuncId} {args : List V} {L : List (List Int)} (h : Fc Tryz.prog f args noM (rowsP L)) : Fp Tryz.prog f args (.sl (L.map intsV)) :=
 h.fzRow (by
  rintro r m ⟨γ, c, e, ws, rfl, rfl, h1, _⟩
  exact ⟨100, γ, c, e, ws.map RowI.V, by rw [List.length_map], by simp [Mem.set], by rw [fz_rowsI, h1]⟩)
theorem l12Rows0_fn (l : List Int) (hl : l.length < 2 ^ 20) (hb : (rowsR l l.length []).length < 2 ^ 30) : Fp Tryz.prog 120 [intsV l, .nilsl, .nilsl] (.sl ((rowsR l l.length []).map intsV)) := by
 have h := l12Rows_fn l hl l.length ⟨none, 0, []⟩ none 0 26 [] (by simp) (by simpa using hb) (.inl rfl)
 exact rowsP_fp (Fc.nils (xs := [intsV l]) (e1 := 3) (e2 := 26) h)
def ordersSK (ds : List Do) : Nat → List (List (List Int))
 | 0 => [[]]
 | k + 1 => (ordersSK ds k).flatMap fun h => (rowsR (writersOf ds k) (writersOf ds k).length []).map fun r => h ++ [r]
theorem ordersSK_row {ds : List Do} : ∀ {k : Nat} {r : List (List Int)}, r ∈ ordersSK ds k → r.length = k
 | 0, r, h => by simp [ordersSK] at h; subst h; simp
 | k + 1, r, h => by
  simp only [ordersSK, List.mem_flatMap, List.mem_map] at h
  obtain ⟨h0, h1, c, _, rfl⟩ := h
  have := ordersSK_row h1
  simp; omega
theorem l12Orders_fn (p : Prog) (hn : (events p).length ≤ 42) (hR : ∀ k : Nat, k < 3 → (rowsR (writersOf (scene p).ds k) (writersOf (scene p).ds k).length []).length < 2 ^ 20) (hB : ∀ k, k ≤ 3 → (ordersSK (scene p).ds k).length < 2 ^ 30) :
  Fp Tryz.prog 77 [progV p, .sl ((events p).map Evt.V)] (.sl ((ordersSK (scene p).ds 3).map rowsV)) := by
 refine Fc.fzRow (R' := fun r m => ∃ s1 γ cap e es, r = .msl s1 [] γ es.length cap ∧ m s1 = some (.own e γ cap es) ∧ es.map V.fz = (ordersSK (scene p).ds 3).map rowsV) ?_ (fun r m h => h)
 refine Fc.start (S := [15]) Tryz.func77 Tryz.ntmps77 Tryz.results77 rfl (by decide) rfl (by kernel_rfl) ?_
 simp (disch := omega) only [push_cast, go_sem, zA, simprocAttr, progV_eq]
 intro g1 g2 g3
 refine Sat.loop (σ := EvS × List V) (fun x => upd (upd (upd (upd noT 2 (.ptr 2 [] 0 0 g1 1)) 1 (.sl ((events p).map Evt.V))) 6 (.int .i64 x.1.k)) 5 (.msl 5 [] x.1.γ x.2.length x.1.c))
  (fun x => (noM.set 2 (.own 25 (some g1) 1 [.agg [.sl (p.map thrV)]])).set 5 (.own x.1.e x.1.γ x.1.c x.2))
  (fun x => x.1.k ≤ 3 ∧ x.2.map V.fz = (ordersSK (scene p).ds x.1.k).map rowsV) (fun x => 3 - x.1.k) (⟨0, 31, some g3, 1⟩, [.own 26 (some g2) 0 []]) (by simp; rfl) ?_ ?_
 ·(refine zB ?_; repeat (first | exact zC | exact zD | refine zE (by decide) ?_ | refine zF ?_ ?_ | refine zG ?_ ?_)) <;> (try simp (disch := omega) only [push_cast, go_sem, zA, simprocAttr])
  all_goals rfl
 rintro ⟨⟨k, e0, γ9, c9⟩, vs⟩ ⟨hk, hvs⟩ J hJ
 simp only at hk hvs hJ
 rcases Nat.lt_or_ge k 3 with hlt | hge
 ·refine Sat.freezeT (upd (upd (upd (upd noT 2 (.ptr 2 [] 0 0 g1 1)) 1 (.sl ((events p).map Evt.V))) 6 (.int .i64 k)) 5 (.sl ((ordersSK (scene p).ds k).map rowsV))) (noM.set 2 (.own 25 (some g1) 1 [.agg [.sl (p.map thrV)]])) 5 (e := e0) (γ := γ9) (cap := c9) (es := vs) rfl ?_ ?_
  ·(refine zB ?_; repeat (first | exact zC | exact zD | refine zE (by decide) ?_ | refine zF ?_ ?_ | refine zG ?_ ?_)) <;> (try simp (disch := omega) only [push_cast, go_sem, zA, simprocAttr])
   rw [hvs]
  refine Sat.of (S := []) (by kernel_rfl) ?_
  have hrb := hR k hlt
  have hwl : (writersOf (scene p).ds k).length ≤ 42 := by
   have h1 : (scene p).ds.length = (events p).length := by simp [scene]
   have := wrs_le (scene p).ds k (scene p).ds.length
   unfold writersOf; omega
  have hrows := l12Rows0_fn (writersOf (scene p).ds k) (by omega) (by omega)
  obtain ⟨rs, hrs⟩ : ∃ rs, rowsR (writersOf (scene p).ds k) (writersOf (scene p).ds k).length [] = rs := ⟨_, rfl⟩
  rw [hrs] at hrows hrb
  have hk3 : (k : Int) < 3 := by omega
  have hfk : ordersSK (scene p).ds (k + 1) = (ordersSK (scene p).ds k).flatMap (fun h => rs.map fun r => h ++ [r]) := by rw [ordersSK, hrs]
  have hbK := hB k hk
  have hbk : (ordersSK (scene p).ds k).length * rs.length < 2 ^ 30 := by
   have := hB (k + 1) (by omega)
   rw [hfk, flatMap_len (n := rs.length) (by simp)] at this
   exact this
  simp (disch := omega) only [push_cast, go_sem, zA, simprocAttr, hk3]
  refine callR.pure (l12Writes_fn p k hn) rfl rfl ?_
  simp (disch := omega) only [push_cast, go_sem, zA, simprocAttr]
  refine callR.pure hrows rfl rfl ?_
  simp (disch := omega) only [push_cast, go_sem, zA, simprocAttr]
  intro g4
  refine Sat.loop (σ := EvS × List RowR) (fun x => upd (upd (upd (upd (upd (upd (upd noT 2 (.ptr 2 [] 0 0 g1 1)) 1 (.sl ((events p).map Evt.V))) 6 (.int .i64 k)) 5 (.sl ((ordersSK (scene p).ds k).map rowsV))) 7 (.sl (rs.map intsV))) 8 (.msl 8 [] x.1.γ x.2.length x.1.c)) 9 (.int .i64 x.1.k)) (fun x => (noM.set 2 (.own 25 (some g1) 1 [.agg [.sl (p.map thrV)]])).set 8 (.own x.1.e x.1.γ x.1.c (x.2.map RowR.V)))
   (fun x => x.1.k ≤ (ordersSK (scene p).ds k).length ∧ (x.1.γ = none ∨ x.1.e = 31) ∧ x.2.map RowR.l = ((ordersSK (scene p).ds k).take x.1.k).flatMap (fun h => rs.map fun r => h ++ [r])) (fun x => (ordersSK (scene p).ds k).length - x.1.k) (⟨0, 31, some g4, 0⟩, []) (by simp) ?_ ?_
  ·(refine zB ?_; repeat (first | exact zC | exact zD | refine zE (by decide) ?_ | refine zF ?_ ?_ | refine zG ?_ ?_)) <;> (try simp (disch := omega) only [push_cast, go_sem, zA, simprocAttr])
   all_goals rfl
  rintro ⟨⟨i, e, γ, c⟩, ys⟩ ⟨hi, hγ, hys⟩ J2 hJ2
  refine Sat.of (S := []) (by kernel_rfl) ?_
  simp only at hi hγ hys hJ2
  rcases Nat.lt_or_ge i (ordersSK (scene p).ds k).length with hlt2 | hge2
  ·obtain ⟨h, hh⟩ : ∃ h, (ordersSK (scene p).ds k)[i]? = some h := ⟨_, List.getElem?_eq_getElem hlt2⟩
   have hhl := ordersSK_row (List.mem_of_getElem? hh)
   simp (disch := omega) only [push_cast, go_sem, zA, simprocAttr, hlt2]
   refine Sat.loop (σ := EvS × List RowR) (fun x => upd (upd (upd (upd (upd (upd (upd (upd noT 2 (.ptr 2 [] 0 0 g1 1)) 1 (.sl ((events p).map Evt.V))) 6 (.int .i64 k)) 5 (.sl ((ordersSK (scene p).ds k).map rowsV))) 7 (.sl (rs.map intsV))) 8 (.msl 8 [] x.1.γ x.2.length x.1.c)) 9 (.int .i64 i)) 10 (.int .i64 x.1.k)) (fun x => (noM.set 2 (.own 25 (some g1) 1 [.agg [.sl (p.map thrV)]])).set 8 (.own x.1.e x.1.γ x.1.c (x.2.map RowR.V)))
    (fun x => x.1.k ≤ rs.length ∧ (x.1.γ = none ∨ x.1.e = 31) ∧ x.2.map RowR.l = ((ordersSK (scene p).ds k).take i).flatMap (fun h => rs.map fun r => h ++ [r]) ++ (rs.take x.1.k).map fun r => h ++ [r]) (fun x => rs.length - x.1.k) (⟨0, e, γ, c⟩, ys) (by simp [hγ, hys]) ?_ ?_
   ·(refine zB ?_; repeat (first | exact zC | exact zD | refine zE (by decide) ?_ | refine zF ?_ ?_ | refine zG ?_ ?_)) <;> (try simp (disch := omega) only [push_cast, go_sem, zA, simprocAttr])
   rintro ⟨⟨j, e2, γ2, c2⟩, zs⟩ ⟨hj, hγ2, hzs⟩ J3 hJ3
   refine Sat.of (S := []) (by kernel_rfl) ?_
   simp only at hj hγ2 hzs hJ3
   rcases Nat.lt_or_ge j rs.length with hlt3 | hge3
   ·obtain ⟨z, hz⟩ : ∃ z, rs[j]? = some z := ⟨_, List.getElem?_eq_getElem hlt3⟩
    have hγ2' : (γ2 = none ∨ e2 = 31) = True := by simp only [hγ2]
    have hzl : zs.length = i * rs.length + j := by
     have := congrArg List.length hzs
     rw [List.length_map, List.length_append, flatMap_len (n := rs.length) (by simp), List.length_take, List.length_map, List.length_take, Nat.min_eq_left hi, Nat.min_eq_left hj] at this
     exact this
    have hm1 : (i + 1) * rs.length ≤ (ordersSK (scene p).ds k).length * rs.length := Nat.mul_le_mul_right _ (by omega)
    rw [Nat.succ_mul] at hm1
    have hzb : zs.length + 1 < 2 ^ 30 := by generalize i * rs.length = A at *; generalize (ordersSK (scene p).ds k).length * rs.length = B at *; omega
    simp (disch := omega) only [push_cast, go_sem, zA, simprocAttr, hlt3]
    refine Sat.drawnE [(1, 5), (1, 10), (5, 10), (6, 10), (1, 11), (5, 11), (6, 11)] [] [] (fun _ _ _ => none) (by kernel_rfl) (by kernel_rfl) ?_
    simp (disch := omega) only [push_cast, go_sem, zA, simprocAttr, hh, hlt2, hz, hlt3, hγ2', rowsV_eq, intsV_eq]
    intro g5
    refine ⟨by omega, fun γ4 c4 _ => ?_⟩
    intro g6
    refine ⟨by omega, fun γ5 c5 _ => ?_⟩
    intro g7
    refine ⟨by omega, fun γ6 c6 _ => ?_⟩
    refine hJ3 (⟨j + 1, 31, γ6, c6⟩, zs ++ [⟨γ5, c5, h ++ [z]⟩]) _ _ ⟨by dsimp only; omega, .inr rfl, ?_⟩ (by dsimp only; omega) ?_
    ·dsimp only
     rw [List.map_append, hzs, take_get hz, List.map_append, List.append_assoc]
     rfl
    ·(refine zB ?_; repeat (first | exact zC | exact zD | refine zE (by decide) ?_ | refine zF ?_ ?_ | refine zG ?_ ?_)) <;> (try simp (disch := omega) only [push_cast, go_sem, zA, simprocAttr])
     all_goals simp [RowR.V, rowsV, intsV]
   ·have : j = rs.length := by omega
    subst this
    simp (disch := omega) only [push_cast, go_sem, zA, simprocAttr]
    refine hJ2 (⟨i + 1, e2, γ2, c2⟩, zs) _ _ ⟨by dsimp only; omega, hγ2, ?_⟩ (by dsimp only; omega) ?_
    ·dsimp only
     rw [hzs, List.take_length, take_get hh, List.flatMap_append]
     simp
    ·(refine zB ?_; repeat (first | exact zC | exact zD | refine zE (by decide) ?_ | refine zF ?_ ?_ | refine zG ?_ ?_)) <;> (try simp (disch := omega) only [push_cast, go_sem, zA, simprocAttr])
  ·have : i = (ordersSK (scene p).ds k).length := by omega
   subst this
   rw [List.take_length, ← hfk] at hys
   simp (disch := omega) only [push_cast, go_sem, zA, simprocAttr]
   refine hJ (⟨k + 1, e, γ, c⟩, ys.map RowR.V) _ _ ⟨by dsimp only; omega, ?_⟩ (by dsimp only; omega) ?_
   ·dsimp only
    rw [fz_rowsR, hys]
   ·(refine zB ?_; repeat (first | exact zC | exact zD | refine zE (by decide) ?_ | refine zF ?_ ?_ | refine zG ?_ ?_)) <;> (try simp (disch := omega) only [push_cast, go_sem, zA, simprocAttr])
    all_goals simp
 ·have : k = 3 := by omega
  subst this
  refine Sat.of (S := [15]) (by kernel_rfl) ?_
  simp (disch := omega) only [push_cast, go_sem, zA, simprocAttr]
  refine Sat.of (S := []) (by kernel_rfl) ?_
  simp (disch := omega) only [push_cast, go_sem, zA, simprocAttr]
  refine ⟨_, fun _ _ h => h, 4, γ9, c9, e0, vs, rfl, by simp [Mem.set], hvs⟩
end
section
open Go.RowKit
def oneS (p : Prog) (f : List Int) (o : List (List Int)) : List Exe := if endsS p ⟨f, o⟩ then [⟨f, o⟩] else []
def allS (p : Prog) : List Exe := (compl (scene p).ds (events p).length []).flatMap fun f => (ordersSK (scene p).ds 3).flatMap fun o => oneS p f o
theorem oneS_le (p : Prog) (f : List Int) (o : List (List Int)) : (oneS p f o).length ≤ 1 := by unfold oneS; split <;> simp
theorem choices_lt {ds : List Do} {d : Do} {c : Int} (h : c ∈ choicesOf ds d) : c < ds.length := by
 unfold choicesOf at h
 split at h
 ·simp only [List.mem_cons] at h
  rcases h with rfl | h
  ·omega
  ·obtain ⟨b, _, h1, rfl, _⟩ := mem_wrs h
   omega
 ·simp at h; omega
theorem compl_row {ds : List Do} : ∀ {j : Nat} {fr f : List Int}, fr.length + j = ds.length → (∀ x ∈ fr, x < ds.length) → f ∈ compl ds j fr → f.length = ds.length ∧ ∀ x ∈ f, x < ds.length
 | 0, fr, f, hl, hx, h => by simp [compl] at h; subst h; exact ⟨by omega, hx⟩
 | j + 1, fr, f, hl, hx, h => by
  have hd : ds[fr.length]? = some ds[fr.length] := List.getElem?_eq_getElem (by omega)
  rw [compl, hd] at h
  simp only [List.mem_flatMap] at h
  obtain ⟨c, hc, h⟩ := h
  refine compl_row (by simp; omega) ?_ h
  intro x hx'
  simp only [List.mem_append, List.mem_singleton] at hx'
  rcases hx' with h | rfl
  ·exact hx x h
  ·exact choices_lt hc
theorem l12Froms0_fn (p : Prog) (hn : (events p).length ≤ 42) (hb : (compl (scene p).ds (events p).length []).length < 2 ^ 30) : Fp Tryz.prog 76 [progV p, .sl ((events p).map Evt.V), .nilsl, .nilsl] (.sl ((compl (scene p).ds (events p).length []).map intsV)) := by
 have h := l12Froms_fn p hn (events p).length ⟨none, 0, []⟩ none 0 26 [] (by simp) (by simpa using hb) (.inl rfl)
 exact rowsP_fp (Fc.nils (xs := [progV p, .sl ((events p).map Evt.V)]) (e1 := 3) (e2 := 26) h)
end
section
open Go.RowKit
theorem rdN_cons (d : Do) (l : List Do) : rdN (d :: l) = (if d.reads then 1 else 0) + rdN l := by
 simp only [rdN, List.filter_cons]; split <;> simp [Nat.add_comm]
theorem compl_len {ds : List Do} (h : usN ds ≤ 6) : ∀ (j : Nat) (fr : List Int), fr.length + j = ds.length → (compl ds j fr).length ≤ 7 ^ rdN (ds.drop fr.length)
 | 0, fr, hl => by simp only [compl, List.length_singleton]; exact Nat.pos_of_ne_zero (by simp)
 | j + 1, fr, hl => by
  have hd : ds[fr.length]? = some ds[fr.length] := List.getElem?_eq_getElem (by omega)
  rw [compl, hd, drop_get hd, rdN_cons]
  dsimp only
  have key := flatMap_le (f := fun c => compl ds j (fr ++ [c])) (n := 7 ^ rdN (ds.drop (fr.length + 1))) (fun c => by have := compl_len h j (fr ++ [c]) (by simp; omega); simpa using this) (choicesOf ds ds[fr.length])
  refine Nat.le_trans key ?_
  rw [Nat.pow_add]
  refine Nat.mul_le_mul_right _ ?_
  unfold choicesOf
  split
  ·rw [List.length_cons, writers_len]
   have := wrN_any h ds[fr.length].p
   omega
  ·simp
theorem rdN_drop {ds : List Do} (h : usN ds ≤ 6) (k : Nat) : rdN (ds.drop k) ≤ 6 := by
 have h1 : rdN (ds.drop k) ≤ usN ds := by
  simp only [rdN, usN]
  rw [← List.countP_eq_length_filter, ← List.countP_eq_length_filter]
  refine Nat.le_trans (List.countP_mono_left (q := Do.uses) fun d _ hd => ?_) (List.Sublist.countP_le (List.drop_sublist k ds))
  simp [Do.uses, hd]
 omega
theorem compl_le {ds : List Do} (h : usN ds ≤ 6) : (compl ds ds.length []).length ≤ 117649 :=
 Nat.le_trans (compl_len h ds.length [] (by simp)) (Nat.le_trans (Nat.pow_le_pow_right (by decide) (rdN_drop h _)) (by decide))
theorem nodup_le {a : List Int} : ∀ {b : List Int}, a.Nodup → (∀ x ∈ a, x ∈ b) → a.length ≤ b.length := by
 induction a with
 | nil => intro b _ _; simp
 | cons x a ih =>
  intro b hn hs
  rw [List.nodup_cons] at hn
  have hx := hs x (by simp)
  have := ih (b := b.erase x) hn.2 (fun y hy => (List.mem_erase_of_ne (fun (e : y = x) => hn.1 (by rw [← e]; exact hy))).2 (hs y (by simp [hy])))
  rw [List.length_erase_of_mem hx] at this
  have := List.length_pos_of_mem hx
  simp; omega
theorem perm_of {a : List Int} : ∀ {b : List Int}, a.Nodup → (∀ x ∈ a, x ∈ b) → b.length ≤ a.length → a.Perm b := by
 induction a with
 | nil => intro b _ _ h; have : b = [] := List.eq_nil_of_length_eq_zero (by simpa using h); rw [this]
 | cons x a ih =>
  intro b hn hs hl
  rw [List.nodup_cons] at hn
  have hx := hs x (by simp)
  have := ih (b := b.erase x) hn.2 (fun y hy => (List.mem_erase_of_ne (fun (e : y = x) => hn.1 (by rw [← e]; exact hy))).2 (hs y (by simp [hy]))) (by rw [List.length_erase_of_mem hx]; simp at hl; omega)
  exact (this.cons x).trans (List.perm_cons_erase hx).symm
theorem wrs_pw {ds : List Do} {pl : Int} : ∀ k, (wrs ds pl k).Pairwise (· < ·) ∧ ∀ x ∈ wrs ds pl k, x < (k : Int)
 | 0 => by simp [wrs]
 | k + 1 => by
  obtain ⟨h1, h2⟩ := wrs_pw (ds := ds) (pl := pl) k
  rw [wrs]
  constructor
  ·rw [List.pairwise_append]
   refine ⟨h1, ?_, fun x hx y hy => ?_⟩
   ·split
    ·split <;> simp
    ·simp
   ·have := h2 x hx
    split at hy
    ·split at hy
     ·simp at hy; omega
     ·cases hy
    ·cases hy
  ·intro x hx
   simp only [List.mem_append] at hx
   rcases hx with hx | hx
   ·have := h2 x hx; omega
   ·split at hx
    ·split at hx
     ·simp at hx; omega
     ·cases hx
    ·cases hx
theorem writers_nodup (ds : List Do) (pl : Int) : (writersOf ds pl).Nodup := (wrs_pw ds.length).1.imp (fun h => by omega)
theorem filter_in {l h : List Int} (hl : l.Nodup) (hh : h.Nodup) (hs : ∀ x ∈ h, x ∈ l) : (l.filter fun z => !h.contains z).length + h.length = l.length := by
 have h1 : (l.filter fun z => h.contains z).length = h.length := by
  refine Nat.le_antisymm (nodup_le (hl.filter _) fun x hx => ?_) (nodup_le hh fun x hx => ?_)
  ·simpa using (List.mem_filter.1 hx).2
  ·exact List.mem_filter.2 ⟨hs x hx, by simpa using hx⟩
 have h2 := List.length_eq_countP_add_countP (fun z => h.contains z) (l := l)
 rw [List.countP_eq_length_filter, List.countP_eq_length_filter, h1] at h2
 have h3 : (l.filter fun a => decide ¬(h.contains a = true)) = l.filter fun z => !h.contains z := List.filter_congr fun x _ => by cases h.contains x <;> rfl
 rw [h3] at h2
 omega
theorem flatMap_if {l h : List Int} {g : Int → List (List Int)} {n : Nat} (hg : ∀ z ∈ l, h.contains z = false → (g z).length = n) : (l.flatMap fun z => if h.contains z then [] else g z).length = (l.filter fun z => !h.contains z).length * n := by
 induction l with
 | nil => simp
 | cons x l ih =>
  have ih := ih fun z hz => hg z (by simp [hz])
  rw [List.flatMap_cons, List.length_append, ih, List.filter_cons]
  cases hc : h.contains x
  ·simp only [Bool.false_eq_true, if_false, Bool.not_false, if_true, List.length_cons, Nat.succ_mul]
   rw [hg x (by simp) hc]; omega
  ·simp
theorem rowsR_len {l : List Int} (hl : l.Nodup) : ∀ (j : Nat) (h : List Int), h.Nodup → (∀ x ∈ h, x ∈ l) → h.length + j = l.length → (rowsR l j h).length = fac j
 | 0, h, _, _, _ => rfl
 | j + 1, h, hh, hs, hj => by
  rw [rowsR, flatMap_if (n := fac j) fun z hz hc => ?_]
  ·have := filter_in hl hh hs
   rw [show (l.filter fun z => !h.contains z).length = j + 1 by omega]; rfl
  ·refine rowsR_len hl j (h ++ [z]) ?_ ?_ (by simp; omega)
   ·rw [List.nodup_append]
    refine ⟨hh, by simp, fun a ha b hb => ?_⟩
    simp at hb; subst hb
    intro e; subst e
    rw [List.contains_iff_mem.2 ha] at hc
    cases hc
   ·intro x hx
    simp only [List.mem_append, List.mem_singleton] at hx
    rcases hx with hx | rfl
    ·exact hs x hx
    ·exact hz
theorem rowsR_row {l : List Int} : ∀ {j : Nat} {h r : List Int}, r ∈ rowsR l j h → r.length = h.length + j
 | 0, h, r, hr => by simp [rowsR] at hr; subst hr; simp
 | j + 1, h, r, hr => by
  rw [rowsR] at hr
  simp only [List.mem_flatMap] at hr
  obtain ⟨z, _, hz⟩ := hr
  split at hz
  ·cases hz
  ·have := rowsR_row hz; simp at this; omega
theorem rowsW_len (ds : List Do) (k : Int) : (rowsR (writersOf ds k) (writersOf ds k).length []).length = fac (wrN ds k) := by
 rw [rowsR_len (writers_nodup ds k) _ [] List.nodup_nil (by simp) (by simp), writers_len]
theorem ordersS_le {ds : List Do} (h : usN ds ≤ 6) : ∀ k, k ≤ 3 → (ordersSK ds k).length ≤ 720 := by
 have hc := count_le ds
 have step : ∀ k : Nat, (ordersSK ds (k + 1)).length = (ordersSK ds k).length * fac (wrN ds k) := fun k => by
  rw [ordersSK, flatMap_len (n := (rowsR (writersOf ds k) (writersOf ds k).length []).length) (by simp), rowsW_len]
 have h0 : (ordersSK ds 0).length = 1 := rfl
 have h1 := step 0
 have h2 := step 1
 have h3 := step 2
 rw [h0] at h1
 simp only [Nat.zero_add, Nat.reduceAdd, Int.cast_ofNat_Int, Int.natCast_zero, Int.natCast_one] at h1 h2 h3
 rw [h1] at h2
 rw [h2] at h3
 obtain ⟨k1, k2, k3⟩ := fac3 (wrN ds 0) (by omega) (wrN ds 1) (by omega) (wrN ds 2) (by omega) (by omega)
 intro k hk
 obtain rfl | rfl | rfl | rfl : k = 0 ∨ k = 1 ∨ k = 2 ∨ k = 3 := by omega
 ·rw [h0]; omega
 ·rw [h1]; exact k1
 ·rw [h2]; exact k2
 ·rw [h3]; exact k3
theorem ordersS_in {ds : List Do} : ∀ {k : Nat} {r : List (List Int)} {row : List Int}, r ∈ ordersSK ds k → row ∈ r → row.length ≤ ds.length
 | 0, r, row, h, h2 => by simp [ordersSK] at h; subst h; cases h2
 | k + 1, r, row, h, h2 => by
  simp only [ordersSK, List.mem_flatMap, List.mem_map] at h
  obtain ⟨h0, h1, c, hc, rfl⟩ := h
  simp only [List.mem_append, List.mem_singleton] at h2
  rcases h2 with h2 | rfl
  ·exact ordersS_in h1 h2
  ·rw [rowsR_row hc]
   have := wrs_le ds k ds.length
   rw [List.length_nil, Nat.zero_add]; exact this
def specAll (p : Prog) : List Exe := if progOk p then allS p else []
end
section
open Go.RowKit
theorem thrGo_formed : ∀ {l : List Do} {r i : Bool}, thrGo l r i = true → ∀ d ∈ l, d.formed = true
 | [], _, _, _, d, hd => by cases hd
 | d0 :: l, r, i, h, d, hd => by
  rw [thrGo] at h
  split at h
  ·cases h
  ·rename_i hw
   simp only [Bool.or_eq_true, Bool.not_eq_true', not_or, Bool.not_eq_false] at hw
   rcases List.mem_cons.1 hd with rfl | hd
   ·exact hw.1
   ·exact thrGo_formed h d hd
theorem scene_formed {p : Prog} (h : progOk p = true) : ∀ d ∈ (scene p).ds, d.formed = true := by
 intro d hd
 simp only [scene, List.mem_map] at hd
 obtain ⟨e, he, rfl⟩ := hd
 obtain ⟨i, l, k, d, hl, hd, _, _, hst, _⟩ := mem_events he
 rw [hst]
 have hth : threadOk l = true := by
  simp only [progOk, Bool.and_eq_true, List.all_eq_true] at h
  exact h.1.1.2 l (List.mem_of_getElem? hl)
 simp only [threadOk, Bool.and_eq_true] at hth
 exact thrGo_formed hth.1 d (List.mem_of_getElem? hd)
theorem formed_place {d : Do} (h : d.formed = true) (hu : d.uses = true) : 0 ≤ d.p ∧ d.p ≤ 2 := by
 simp only [Do.formed, hu, if_true, Bool.and_eq_true, inB, decide_eq_true_eq] at h
 exact h.1.2
theorem formed_val {d : Do} (h : d.formed = true) : 0 ≤ d.v := by
 simp only [Do.formed, Bool.and_eq_true] at h
 have := h.2
 split at this
 ·simp only [inB, Bool.and_eq_true, decide_eq_true_eq] at this; omega
 ·simp at this; omega
theorem writers_pw (ds : List Do) (pl : Int) : (writersOf ds pl).Pairwise (· < ·) := (wrs_pw ds.length).1
theorem sorted_eq {ws row : List Int} (hw : ws.Pairwise (· < ·)) (hn : ws.Nodup) : (sorted row == ws) = (ws.length == row.length && ws.all row.contains) := by
 have hle : ws.mergeSort leI = ws := List.mergeSort_of_pairwise (hw.imp fun h => by simp only [decide_eq_true_eq]; omega)
 rw [Bool.eq_iff_iff]
 simp only [beq_iff_eq, Bool.and_eq_true, List.all_eq_true, List.contains_iff_mem]
 constructor
 ·intro h
  have hp : (sorted row).Perm row := List.mergeSort_perm row _
  rw [h] at hp
  exact ⟨hp.length_eq, fun x hx => hp.mem_iff.1 hx⟩
 ·rintro ⟨h1, h2⟩
  have hp : ws.Perm row := perm_of hn h2 (by omega)
  have := Go.mergeSort_of_perm_i hp
  rw [hle] at this
  exact this.symm
theorem place_mem {ds : List Do} {od : List (List Int)} {k : Nat} (h : placeS ds od k = true) (x : Int) : x ∈ od[k]?.getD [] ↔ x ∈ writersOf ds k := by
 simp only [placeS, Bool.and_eq_true, beq_iff_eq, List.all_eq_true, List.contains_iff_mem] at h
 exact (perm_of (writers_nodup ds k) h.2 (by omega)).mem_iff.symm
theorem fits_form {p : Prog} (hok : progOk p = true) (x : Exe) : fits (scene p) x = formS p x := by
 have hes : (scene p).es = events p := rfl
 have hsl : (scene p).ds.length = (events p).length := by simp [scene]
 unfold fits formS
 rw [hes]
 by_cases h1 : x.fr.length = (events p).length
 rotate_left
 ·simp [h1]
 by_cases h2 : x.od.length = 3
 rotate_left
 ·simp [h2]
 simp only [h1, h2, decide_true, Bool.true_and]
 have h3 : x.od.zipIdx.all (odOk (scene p).ds) = (List.range 3).all (placeS (scene p).ds x.od) := by
  rw [Bool.eq_iff_iff]
  simp only [List.all_eq_true]
  constructor
  ·intro h k hk
   have hk3 : k < x.od.length := by rw [h2]; simpa using hk
   have hz : x.od.zipIdx[k]? = some (x.od[k], k) := by simp [hk3]
   have := h _ (List.mem_of_getElem? hz)
   simp only [odOk] at this
   rw [sorted_eq (writers_pw _ _) (writers_nodup _ _)] at this
   simpa only [placeS, List.getElem?_eq_getElem hk3, Option.getD_some] using this
  ·rintro h ⟨row, k⟩ hq
   obtain ⟨i, hi⟩ := List.getElem?_of_mem hq
   simp only [List.getElem?_zipIdx, Option.map_eq_some_iff, Prod.mk.injEq, Nat.zero_add] at hi
   obtain ⟨row', hr, rfl, rfl⟩ := hi
   have hi3 : i < 3 := by rw [← h2]; exact (List.getElem?_eq_some_iff.1 hr).1
   have := h i (by simpa using hi3)
   simp only [odOk]
   rw [sorted_eq (writers_pw _ _) (writers_nodup _ _)]
   simpa only [placeS, hr, Option.getD_some] using this
 rw [h3, Bool.and_comm]
 cases hP : (List.range 3).all (placeS (scene p).ds x.od)
 ·simp
 simp only [Bool.true_and]
 rw [Bool.eq_iff_iff]
 simp only [List.all_eq_true] at hP ⊢
 have key : ∀ q ∈ (scene p).ds.zip x.fr, frOk (scene p).ds q = fromS x.od q := by
  rintro ⟨d, f⟩ hq
  have hd := (List.of_mem_zip hq).1
  simp only [frOk, fromS]
  cases hr : d.reads
  ·simp
  ·obtain ⟨hp0, hp2⟩ := formed_place (scene_formed hok d hd) (by simp [Do.uses, hr])
   obtain ⟨a, ha⟩ := Int.eq_ofNat_of_zero_le hp0
   have := place_mem (hP a (by simp; omega)) f
   simp only [if_true, ha, Int.toNat_natCast]
   congr 1
   rw [Bool.eq_iff_iff, List.contains_iff_mem, List.contains_iff_mem]
   exact this.symm
 exact ⟨fun h q hq => by rw [← key q hq]; exact h q hq, fun h q hq => by rw [key q hq]; exact h q hq⟩
def specOk (p : Prog) (x : Exe) : Bool := progOk p && (formS p x && endsS p x)
end
section
open Go.RowKit
theorem nodup_leN {a : List Nat} : ∀ {b : List Nat}, a.Nodup → (∀ x ∈ a, x ∈ b) → a.length ≤ b.length := by
 induction a with
 | nil => intro b _ _; simp
 | cons x a ih =>
  intro b hn hs
  rw [List.nodup_cons] at hn
  have hx := hs x (by simp)
  have := ih (b := b.erase x) hn.2 (fun y hy => (List.mem_erase_of_ne (fun (e : y = x) => hn.1 (by rw [← e]; exact hy))).2 (hs y (by simp [hy])))
  rw [List.length_erase_of_mem hx] at this
  have := List.length_pos_of_mem hx
  simp; omega
def nx (ds : List Do) (fr : List Int) (a : Nat) : Option (Option Int × Nat) := match ds[a]? with
 | none => none
 | some d => if d.valued then some (some d.v, 0) else if d.k == 3 then some (none, lastRd ds a) else match fr[a]? with
  | none => none
  | some f => if f == -1 then some (some 0, 0) else some (none, f.toNat)
theorem valI_nx {ds : List Do} {fr : List Int} {m a : Nat} : valI ds fr (m + 1) a = match nx ds fr a with | none => none | some (some v, _) => some v | some (none, b) => valI ds fr m b := by
 rw [valI, nx]
 cases ds[a]? with
 | none => rfl
 | some d =>
  dsimp only
  split
  ·rfl
  ·split
   ·rfl
   ·cases fr[a]? with
    | none => rfl
    | some f => dsimp only; split <;> rfl
theorem nx_lt {ds : List Do} {fr : List Int} {a : Nat} {r : Option Int × Nat} (h : nx ds fr a = some r) : a < ds.length := by
 unfold nx at h
 cases hd : ds[a]? with
 | none => rw [hd] at h; cases h
 | some d => exact (List.getElem?_eq_some_iff.1 hd).1
theorem valI_mono {ds : List Do} {fr : List Int} : ∀ {m a : Nat} {v : Int}, valI ds fr m a = some v → valI ds fr (m + 1) a = some v
 | 0, a, v, h => by rw [valI] at h; cases h
 | m + 1, a, v, h => by
  rw [valI_nx] at h ⊢
  cases hn : nx ds fr a with
  | none => rw [hn] at h; cases h
  | some r =>
   obtain ⟨o, b⟩ := r
   rw [hn] at h
   cases o with
   | some w => exact h
   | none => exact valI_mono h
theorem valI_up {ds : List Do} {fr : List Int} {m a : Nat} {v : Int} (h : valI ds fr m a = some v) : ∀ j, valI ds fr (m + j) a = some v
 | 0 => h
 | j + 1 => valI_mono (valI_up h j)
theorem chain {ds : List Do} {fr : List Int} : ∀ (k a : Nat), valI ds fr (k + 1) a ≠ none → valI ds fr k a = none → ∃ l : List Nat, l.length = k + 1 ∧ l.Nodup ∧ ∀ b ∈ l, b < ds.length ∧ valI ds fr (k + 1) b ≠ none := by
 intro k
 induction k with
 | zero =>
  intro a h1 _
  refine ⟨[a], rfl, by simp, fun b hb => ?_⟩
  simp at hb; subst hb
  refine ⟨?_, h1⟩
  rw [valI_nx] at h1
  cases hn : nx ds fr b with
  | none => rw [hn] at h1; exact absurd rfl h1
  | some r => exact nx_lt hn
 | succ k ih =>
  intro a h1 h2
  cases hn : nx ds fr a with
  | none => rw [valI_nx, hn] at h1; exact absurd rfl h1
  | some r =>
   obtain ⟨o, b⟩ := r
   cases o with
   | some w => rw [valI_nx, hn] at h2; cases h2
   | none =>
    have e1 : valI ds fr (k + 1) b ≠ none := by rw [valI_nx, hn] at h1; exact h1
    have e2 : valI ds fr k b = none := by rw [valI_nx, hn] at h2; exact h2
    obtain ⟨l, h3, h4, h5⟩ := ih b e1 e2
    refine ⟨a :: l, by rw [List.length_cons, h3], List.nodup_cons.2 ⟨fun ha => (h5 a ha).2 h2, h4⟩, fun c hc => ?_⟩
    rcases List.mem_cons.1 hc with rfl | hc
    ·exact ⟨nx_lt hn, h1⟩
    ·refine ⟨(h5 c hc).1, ?_⟩
     cases hv : valI ds fr (k + 1) c with
     | none => exact absurd hv (h5 c hc).2
     | some v => rw [valI_mono hv]; simp
theorem valI_enough {ds : List Do} {fr : List Int} {a : Nat} {v : Int} : ∀ {m : Nat}, valI ds fr m a = some v → valI ds fr ds.length a = some v := by
 intro m
 induction m with
 | zero => intro h; rw [valI] at h; cases h
 | succ m ih =>
  intro h
  cases hm : valI ds fr m a with
  | some w =>
   have := valI_mono hm
   rw [h] at this
   cases this
   exact ih hm
  | none =>
   obtain ⟨l, h1, h2, h3⟩ := chain m a (by rw [h]; simp) hm
   have := nodup_leN (b := List.range ds.length) h2 (fun b hb => List.mem_range.2 (h3 b hb).1)
   rw [List.length_range, h1] at this
   have hv := valI_up h (ds.length - (m + 1))
   rwa [show m + 1 + (ds.length - (m + 1)) = ds.length by omega] at hv
theorem srcOf_eq {es : List Evt} {ds : List Do} {a r : Nat} (ht : (es[r]?.getD default).t = (es[a]?.getD default).t) (hr : (ds[r]?.getD default).reads = true) : ∀ k, r < k → (∀ j, r < j → j < k → (ds[j]?.getD default).reads = false) → srcOf es ds a k = r
 | 0, h, _ => absurd h (by omega)
 | k + 1, h, hno => by
  rw [srcOf]
  rcases Nat.lt_or_ge r k with hk | hk
  ·rw [hno k hk (by omega), Bool.and_false]
   exact srcOf_eq ht hr k hk fun j h1 h2 => hno j h1 (by omega)
  ·have : r = k := by omega
   subst this
   rw [ht, hr]; simp
theorem evThr_t {t : Nat} {l : List Do} {e : Evt} : ∀ {k : Nat}, e ∈ evThr t l k → e.t = t := fun h => by
 obtain ⟨_, _, _, _, h1, _⟩ := mem_evThr h
 exact h1
theorem evPro_t {p : Prog} {e : Evt} {i : Nat} (h : e ∈ evPro p i) : e.t < (i : Int) := by
 obtain ⟨j, l, h1, _, h2⟩ := mem_evPro h
 have := evThr_t h2
 omega
theorem events_pw (p : Prog) : ∀ i, (evPro p i).Pairwise fun a b => a.t ≤ b.t
 | 0 => by simp [evPro]
 | i + 1 => by
  rw [evPro, List.pairwise_append]
  refine ⟨events_pw p i, ?_, fun a ha b hb => ?_⟩
  ·split
   ·exact List.pairwise_of_forall_mem_list fun a ha b hb => by rw [evThr_t ha, evThr_t hb]; exact Int.le_refl _
   ·exact List.Pairwise.nil
  ·have := evPro_t ha
   split at hb
   ·rw [evThr_t hb]; omega
   ·cases hb
theorem scene_copyT {p : Prog} (h : progOk p = true) {a : Nat} {e : Evt} (he : (events p)[a]? = some e) (h3 : (stepAt p e).k = 3) : ∃ (r : Nat) (e' : Evt), r < a ∧ (events p)[r]? = some e' ∧ e'.t = e.t ∧ (stepAt p e').reads = true := by
 have hth : ∀ l ∈ p, threadOk l = true := by
  simp only [progOk, Bool.and_eq_true, List.all_eq_true] at h
  exact h.1.1.2
 obtain ⟨i, l, j, d, hl, hd, h1, h2, hst, hpos⟩ := events_get he
 rw [hst] at h3
 have hok := hth l (List.mem_of_getElem? hl)
 simp only [threadOk, Bool.and_eq_true] at hok
 rcases thrGo_copy hok.1 hd h3 with hf | ⟨j', d', k1, k2, k3⟩
 ·cases hf
 ·refine ⟨(evPro p i).length + (evThr i l j').length, ⟨i, j', false⟩, ?_, events_at hl k2, by rw [h1], by simp [stepAt, hl, k2, k3]⟩
  have := evThr_mono (t := i) k2 k1; omega
theorem src_last {p : Prog} (h : progOk p = true) {a : Nat} {e : Evt} (he : (events p)[a]? = some e) (h3 : (stepAt p e).k = 3) : srcOf (events p) (scene p).ds a a = lastRd (scene p).ds a := by
 obtain ⟨r, e', h1, h2, h4, h5⟩ := scene_copyT h he h3
 obtain ⟨k1, ⟨d, k2, k3⟩, k4⟩ := lastRd_spec (ds := (scene p).ds) (a := a) ⟨r, stepAt p e', h1, scene_get h2, h5⟩
 obtain ⟨q, hq⟩ : ∃ q, lastRd (scene p).ds a = q := ⟨_, rfl⟩
 rw [hq] at k1 k2 k4 ⊢
 have hqr : r ≤ q := by
  rcases Nat.lt_or_ge q r with hh | hh
  ·have := k4 r _ hh h1 (scene_get h2)
   rw [h5] at this; cases this
  ·exact hh
 have hal := (List.getElem?_eq_some_iff.1 he).1
 obtain ⟨eq, heq⟩ : ∃ e, (events p)[q]? = some e := ⟨_, List.getElem?_eq_getElem (by omega)⟩
 have hpw := List.pairwise_iff_getElem.1 (events_pw p p.length)
 have t1 : e'.t ≤ eq.t := by
  rcases Nat.lt_or_ge r q with hh | hh
  ·have := hpw r q (by have := (List.getElem?_eq_some_iff.1 h2).1; exact this) (by have := (List.getElem?_eq_some_iff.1 heq).1; exact this) hh
   rw [← (List.getElem?_eq_some_iff.1 h2).2, ← (List.getElem?_eq_some_iff.1 heq).2]; exact this
  ·have : r = q := by omega
   subst this; rw [h2] at heq; cases heq; exact Int.le_refl _
 have t2 : eq.t ≤ e.t := by
  have := hpw q a (by have := (List.getElem?_eq_some_iff.1 heq).1; exact this) hal k1
  rw [← (List.getElem?_eq_some_iff.1 heq).2, ← (List.getElem?_eq_some_iff.1 he).2]; exact this
 refine srcOf_eq (by rw [heq, he]; simp only [Option.getD_some]; omega) (by rw [k2]; exact k3) a k1 fun j j1 j2 => ?_
 obtain ⟨dj, hdj⟩ : ∃ d, (scene p).ds[j]? = some d := ⟨_, List.getElem?_eq_getElem (by simp [scene]; omega)⟩
 rw [hdj]
 exact k4 j dj j1 j2 hdj
end
section
open Go.RowKit
theorem thr_open : ∀ {l : List Do} {r : Bool}, thrGo l r true = true → ∃ (t : Nat) (dt : Do), l[t]? = some dt ∧ dt.k = 8 ∧ ∀ (j : Nat) dj, j < t → l[j]? = some dj → dj.k ≠ 7 ∧ dj.k ≠ 8
 | [], _, h => by simp [thrGo] at h
 | d0 :: l, r, h => by
  rw [thrGo] at h
  split at h
  ·cases h
  ·rename_i hw
   have h7 : d0.k ≠ 7 := fun e => hw (by simp [Do.wrong, e])
   by_cases h8 : d0.k = 8
   ·exact ⟨0, d0, rfl, h8, fun j dj hj => absurd hj (by omega)⟩
   ·have e : (d0.k == 7 || (true && !(d0.k == 8))) = true := by simp [h8]
    rw [e] at h
    obtain ⟨t, dt, h1, h2, h3⟩ := thr_open h
    refine ⟨t + 1, dt, by simpa using h1, h2, fun j dj hj hd => ?_⟩
    cases j with
    | zero => simp at hd; subst hd; exact ⟨h7, h8⟩
    | succ j => exact h3 j dj (by omega) (by simpa using hd)
theorem thr_in : ∀ {l : List Do} {r i : Bool} {f : Nat} {d : Do}, thrGo l r i = true → l[f]? = some d → d.k = 7 → ∃ (t : Nat) (dt : Do), f < t ∧ l[t]? = some dt ∧ dt.k = 8 ∧ ∀ (j : Nat) dj, f < j → j < t → l[j]? = some dj → dj.k ≠ 7 ∧ dj.k ≠ 8
 | [], _, _, _, _, _, h, _ => by simp at h
 | d0 :: l, r, i, f, d, h, hd, h7 => by
  rw [thrGo] at h
  split at h
  ·cases h
  ·rename_i hw
   cases f with
   | zero =>
    simp at hd; subst hd
    have e : (d0.k == 7 || (i && !(d0.k == 8))) = true := by simp [h7]
    rw [e] at h
    obtain ⟨t, dt, h1, h2, h3⟩ := thr_open h
    refine ⟨t + 1, dt, by omega, by simpa using h1, h2, fun j dj hj hj2 hd => ?_⟩
    cases j with
    | zero => omega
    | succ j => exact h3 j dj (by omega) (by simpa using hd)
   | succ f =>
    obtain ⟨t, dt, h0, h1, h2, h3⟩ := thr_in h (by simpa using hd) h7
    refine ⟨t + 1, dt, by omega, by simpa using h1, h2, fun j dj hj hj2 hd => ?_⟩
    cases j with
    | zero => omega
    | succ j => exact h3 j dj (by omega) (by omega) (by simpa using hd)
theorem thr_out : ∀ {l : List Do} {r i : Bool} {b : Nat} {d : Do}, thrGo l r i = true → l[b]? = some d → d.k = 8 →
  (i = true ∧ ∀ (j : Nat) dj, j < b → l[j]? = some dj → dj.k ≠ 7 ∧ dj.k ≠ 8) ∨ ∃ (f : Nat) (df : Do), f < b ∧ l[f]? = some df ∧ df.k = 7 ∧ ∀ (j : Nat) dj, f < j → j < b → l[j]? = some dj → dj.k ≠ 7 ∧ dj.k ≠ 8
 | [], _, _, _, _, _, h, _ => by simp at h
 | d0 :: l, r, i, b, d, h, hd, h8 => by
  rw [thrGo] at h
  split at h
  ·cases h
  ·rename_i hw
   cases b with
   | zero =>
    simp at hd; subst hd
    left
    refine ⟨?_, fun j dj hj => absurd hj (by omega)⟩
    cases i
    ·exact absurd (by simp [Do.wrong, h8]) hw
    ·rfl
   | succ b =>
    rcases thr_out h (by simpa using hd) h8 with ⟨h1, h2⟩ | ⟨f, df, h0, h1, h2, h3⟩
    ·by_cases h7 : d0.k = 7
     ·right
      refine ⟨0, d0, by omega, rfl, h7, fun j dj hj hj2 hd => ?_⟩
      cases j with
      | zero => omega
      | succ j => exact h2 j dj (by omega) (by simpa using hd)
     ·left
      have : i = true ∧ d0.k ≠ 8 := by simpa [h7] using h1
      refine ⟨this.1, fun j dj hj hd => ?_⟩
      cases j with
      | zero => simp at hd; subst hd; exact ⟨h7, this.2⟩
      | succ j => exact h2 j dj (by omega) (by simpa using hd)
    ·right
     refine ⟨f + 1, df, by omega, by simpa using h1, h2, fun j dj hj hj2 hd => ?_⟩
     cases j with
     | zero => omega
     | succ j => exact h3 j dj (by omega) (by omega) (by simpa using hd)
def Evt.lt (e f : Evt) : Prop := e.t < f.t ∨ (e.t = f.t ∧ (e.s < f.s ∨ (e.s = f.s ∧ f.l = true)))
theorem evThr_lt (t : Nat) (l : List Do) : ∀ k, (evThr t l k).Pairwise Evt.lt
 | 0 => by simp [evThr]
 | k + 1 => by
  rw [evThr, List.pairwise_append]
  refine ⟨evThr_lt t l k, ?_, fun a ha b hb => ?_⟩
  ·split
   ·unfold evsOf
    split
    ·simp [Evt.lt]
    ·simp
   ·exact List.Pairwise.nil
  ·obtain ⟨j, d, h1, _, h2, h3, _⟩ := mem_evThr ha
   split at hb
   ·unfold evsOf at hb
    split at hb
    ·simp at hb
     rcases hb with rfl | rfl <;> exact .inr ⟨h2, .inl (by simp only [h3]; omega)⟩
    ·simp at hb
     subst hb
     exact .inr ⟨h2, .inl (by simp only [h3]; omega)⟩
   ·cases hb
theorem evPro_lt (p : Prog) : ∀ i, (evPro p i).Pairwise Evt.lt
 | 0 => by simp [evPro]
 | i + 1 => by
  rw [evPro, List.pairwise_append]
  refine ⟨evPro_lt p i, ?_, fun a ha b hb => ?_⟩
  ·split
   ·exact evThr_lt _ _ _
   ·exact List.Pairwise.nil
  ·have := evPro_t ha
   split at hb
   ·rw [Evt.lt, evThr_t hb]; exact .inl this
   ·cases hb
theorem events_lt {p : Prog} {a b : Nat} {ea eb : Evt} (ha : (events p)[a]? = some ea) (hb : (events p)[b]? = some eb) (h : a < b) : ea.lt eb := by
 obtain ⟨ha1, ha2⟩ := List.getElem?_eq_some_iff.1 ha
 obtain ⟨hb1, hb2⟩ := List.getElem?_eq_some_iff.1 hb
 have := List.pairwise_iff_getElem.1 (evPro_lt p p.length) a b ha1 hb1 h
 rw [← ha2, ← hb2]; exact this
structure At (p : Prog) (a : Nat) (e : Evt) (i : Nat) (l : List Do) (j : Nat) (d : Do) : Prop where
 ev : (events p)[a]? = some e
 pl : p[i]? = some l
 ld : l[j]? = some d
 t : e.t = i
 s : e.s = j
 st : stepAt p e = d
 late : e.l = true → d.k = 9
theorem At.of {p : Prog} {a : Nat} {e : Evt} (h : (events p)[a]? = some e) : ∃ i l j d, At p a e i l j d := by
 obtain ⟨i, l, k, d, h1, h2, h3, h4, h5, h6⟩ := mem_events (List.mem_of_getElem? h)
 exact ⟨i, l, k, d, h, h1, h2, h3, h4, h5, h6⟩
theorem At.kd {p : Prog} {a i j : Nat} {e : Evt} {l : List Do} {d : Do} (h : At p a e i l j d) : kd (scene p).ds a = d.k := by
 rw [Go.Proofs.YtfbgabkcjjahiaaGreatDoor.kd, scene_get h.ev, h.st]; rfl
theorem At.th {p : Prog} {a i j : Nat} {e : Evt} {l : List Do} {d : Do} (h : At p a e i l j d) : th (events p) a = i := by
 rw [Go.Proofs.YtfbgabkcjjahiaaGreatDoor.th, h.ev, ← h.t]; rfl
theorem At.between {p : Prog} {a b c i ja jc : Nat} {ea ec : Evt} {l : List Do} {da dc : Do} (ha : At p a ea i l ja da) (hc : At p c ec i l jc dc) (h9 : da.k ≠ 9) (h9c : dc.k ≠ 9) (h1 : a < b) (h2 : b < c) : ∃ eb jb db, At p b eb i l jb db ∧ ja < jb ∧ jb < jc := by
 have hcl := (List.getElem?_eq_some_iff.1 hc.ev).1
 obtain ⟨eb, heb⟩ : ∃ e, (events p)[b]? = some e := ⟨_, List.getElem?_eq_getElem (by omega)⟩
 obtain ⟨i', l', jb, db, hb⟩ := At.of heb
 have k1 := events_lt ha.ev hb.ev h1
 have k2 := events_lt hb.ev hc.ev h2
 simp only [Evt.lt, ha.t, hb.t, hc.t, ha.s, hb.s, hc.s] at k1 k2
 have hii : i' = i := by omega
 subst hii
 have hll : l' = l := Option.some.inj (hb.pl.symm.trans ha.pl)
 subst hll
 refine ⟨eb, jb, db, hb, ?_, ?_⟩
 ·rcases k1 with k1 | ⟨_, k1 | ⟨k1, k3⟩⟩
  ·omega
  ·omega
  ·have : ja = jb := by omega
   subst this
   have : da = db := Option.some.inj (ha.ld.symm.trans hb.ld)
   subst this
   exact absurd (hb.late k3) h9
 ·rcases k2 with k2 | ⟨_, k2 | ⟨k2, k3⟩⟩
  ·omega
  ·omega
  ·exact absurd (hc.late k3) h9c
theorem At.ord {p : Prog} {a c i ja jc : Nat} {ea ec : Evt} {l : List Do} {da dc : Do} (ha : At p a ea i l ja da) (hc : At p c ec i l jc dc) (h : ja < jc) : a < c := by
 rcases Nat.lt_or_ge a c with h1 | h1
 ·exact h1
 ·rcases Nat.lt_or_ge c a with h2 | h2
  ·have := events_lt hc.ev ha.ev h2
   simp only [Evt.lt, ha.t, hc.t, ha.s, hc.s] at this
   omega
  ·have : a = c := by omega
   subst this
   have e : ea = ec := Option.some.inj (ha.ev.symm.trans hc.ev)
   have h1 := ha.s
   have h2 := hc.s
   rw [e] at h1
   omega
theorem At.mk' {p : Prog} {l : List Do} {d : Do} {i j : Nat} (hl : p[i]? = some l) (hd : l[j]? = some d) : At p ((evPro p i).length + (evThr i l j).length) ⟨i, j, false⟩ i l j d :=
 ⟨events_at hl hd, hl, hd, rfl, rfl, by simp [stepAt, hl, hd], nofun⟩
structure Quiet (p : Prog) (f t : Nat) : Prop where
 lt : f < t
 tl : t < (events p).length
 same : th (events p) f = th (events p) t
 no : ∀ j, f < j → j < t → kd (scene p).ds j ≠ 7 ∧ kd (scene p).ds j ≠ 8 ∧ th (events p) j = th (events p) f
theorem ok_thr {p : Prog} (h : progOk p = true) {i : Nat} {l : List Do} (hl : p[i]? = some l) : thrGo l false false = true := by
 simp only [progOk, Bool.and_eq_true, List.all_eq_true] at h
 have := h.1.1.2 l (List.mem_of_getElem? hl)
 simp only [threadOk, Bool.and_eq_true] at this
 exact this.1
theorem in_out {p : Prog} (h : progOk p = true) {f : Nat} (hf : f < (events p).length) (h7 : kd (scene p).ds f = 7) : ∃ t, Quiet p f t ∧ kd (scene p).ds t = 8 := by
 obtain ⟨i, l, j, d, ha⟩ := At.of (List.getElem?_eq_getElem hf)
 rw [ha.kd] at h7
 obtain ⟨t, dt, k1, k2, k3, k4⟩ := thr_in (ok_thr h ha.pl) ha.ld h7
 have hc := At.mk' ha.pl k2
 have hlt := ha.ord hc k1
 refine ⟨_, ⟨hlt, (List.getElem?_eq_some_iff.1 hc.ev).1, by rw [ha.th, hc.th], fun x hx1 hx2 => ?_⟩, by rw [hc.kd]; exact k3⟩
 obtain ⟨eb, jb, db, hb, m1, m2⟩ := ha.between hc (by omega) (by omega) hx1 hx2
 have := k4 jb db m1 m2 hb.ld
 exact ⟨by rw [hb.kd]; exact this.1, by rw [hb.kd]; exact this.2, by rw [hb.th, ha.th]⟩
theorem out_in {p : Prog} (h : progOk p = true) {b : Nat} (hb : b < (events p).length) (h8 : kd (scene p).ds b = 8) : ∃ f, Quiet p f b ∧ kd (scene p).ds f = 7 := by
 obtain ⟨i, l, j, d, hc⟩ := At.of (List.getElem?_eq_getElem hb)
 rw [hc.kd] at h8
 rcases thr_out (ok_thr h hc.pl) hc.ld h8 with ⟨hf, _⟩ | ⟨f, df, k1, k2, k3, k4⟩
 ·cases hf
 have ha := At.mk' hc.pl k2
 have hlt := ha.ord hc k1
 refine ⟨_, ⟨hlt, hb, by rw [ha.th, hc.th], fun x hx1 hx2 => ?_⟩, by rw [ha.kd]; exact k3⟩
 obtain ⟨eb, jb, db, hx, m1, m2⟩ := ha.between hc (by omega) (by omega) hx1 hx2
 have := k4 jb db m1 m2 hx.ld
 exact ⟨by rw [hx.kd]; exact this.1, by rw [hx.kd]; exact this.2, by rw [hx.th, ha.th]⟩
end
end Go.Proofs.YtfbgabkcjjahiaaGreatDoor
