/-
 Contracts and plain laws.
-/
import Derived.Test.YtfbgabkcjjahiaaGreatDoorPa
import Derived.Test.YtfbgabkcjjahiaaGreatDoorPb
import Derived.Test.YtfbgabkcjjahiaaGreatDoorPvx
set_option linter.unusedSimpArgs false
set_option linter.unusedVariables false
set_option linter.unusedSectionVars false
namespace Go.Proofs.YtfbgabkcjjahiaaGreatDoor
section
open Go.RowKit
section
variable {P : Program} {M : Mem} {k : V → Mem → Prop}
theorem Fc.fzRow {f : FuncId} {args X : List V} {R' : Post} (h : Fc P f args noM R') (hR : ∀ r m, R' r m → ∃ s γ cap e es, r = .msl s [] γ es.length cap ∧ m s = some (.own e γ cap es) ∧ es.map V.fz = X) : Fp P f args (.sl X) := by
 refine ⟨fun imm w vals hG hI hi hs hv => (h.fn imm w vals hG hI hi hs hv).mono ?_, h.go⟩
 rintro e' w' ⟨v, r, m, imm', rfl, hq, hr, hS⟩
 obtain ⟨s, γ, cap, e, es, rfl, hm, rfl⟩ := hR r m hq
 cases hr
 obtain ⟨h1, h2, h3⟩ := hS.inv.freeze (o := s) (e := e) (γ := γ) (cap := cap) (es := es) hm
 refine ⟨_, _, noM, _, rfl, ⟨rfl, rfl⟩, h2, ⟨inv_no, fun g hg => hg.elim (hS.lt g) (fun hb => (h3 g hb).1), hS.size, hS.os, hS.tape, hS.output, fun g hg hno => ⟨(hS.block g hg hno).1, ?_⟩, fun g hg => absurd hg not_owns_no⟩⟩
 constructor
 ·rintro (h | h)
  ·exact (hS.block g hg hno).2.1 h
  ·rcases hS.owns g (h3 g h).2 with h | h
   ·exact absurd h not_owns_no
   ·omega
 ·exact fun h => .inl ((hS.block g hg hno).2.2 h)
theorem callR.row {f : FuncId} {xs : List V} {d n : Nat} {e : TypeId} {es : List V} (h : Fc P f xs noM fun r m => ∃ γ cap, r = .msl 100 [] γ n cap ∧ m = noM.set 100 (.own e γ cap es)) (hk : (xs.all fun v => v.key.isNone) = true) (h9 : Nat.ble xs.length 90 = true)
  (hK : ∀ γ cap, runV (some (True, det (.msl d [] γ n cap) (M.set d (.own e γ cap es)))) k .mk) : callR P f xs (some d) M k .mk := by
 refine callR.new (Q := fun r ob => ∃ γ cap, r = .msl 100 [] γ n cap ∧ ob = .own e γ cap es) ⟨fun imm w vals hG hI hi hs hv => (h.fn imm w vals hG hI hi hs hv).mono ?_, h.go⟩ hk h9 ?_
 ·rintro e' w' ⟨v, r, m, imm', h1, ⟨γ, cap, h2, h3⟩, h4, h5⟩
  exact ⟨v, r, m, imm', h1, ⟨_, ⟨γ, cap, h2, rfl⟩, h3⟩, h4, h5⟩
 ·rintro r ob ⟨γ, cap, rfl, rfl⟩
  exact hK γ cap
theorem callR.take {f : FuncId} {bs : List V} {a d l cap l' cap' : Nat} {γ γ' : Option Nat} {o o' : V} (h : Fc P f (.msl 0 [] γ l cap :: bs) (noM.set 0 o) fun r m => r = .msl 100 [] γ' l' cap' ∧ m = noM.set 100 o') (hM : M a = some o) (hk : (bs.all fun v => v.key.isNone) = true) (h9 : Nat.ble (bs.length + 1) 90 = true)
  (hK : runV (some (True, det (.msl d [] γ' l' cap') ((M.era a).set d o'))) k .mk) : callR P f (.msl a [] γ l cap :: bs) (some d) M k .mk := by
 have hk' : ((bs.map V.key).all fun x => x.isNone) = true := by rw [List.all_map]; exact hk
 refine callR.intro (F := noM.set 0 o) (R := fun r m => r = .msl 100 [] γ' l' cap' ∧ m = noM.set 100 o') (by rw [renArgs_cons, renArgs_none hk]; exact h) ?_ (Nat.le_of_ble_eq_true h9) ?_ ?_
 ·rw [List.map_cons, List.filterMap_cons]
  show (a :: (bs.map V.key).filterMap id).Nodup
  rw [keys_none hk']; simp
 ·exact Sub.set Sub.no (by simp [footM, V.key, hM])
 ·rintro r0 Mf ⟨rfl, rfl⟩
  have : mergeM M ((V.msl a [] γ l cap :: bs).map V.key) (some d) (noM.set 100 o') = (M.era a).set d o' := by
   rw [merge_eq, List.map_cons]
   have e1 : (noM.set 100 o') 100 = some o' := rfl
   have e2 : (noM.set 100 o') 0 = none := rfl
   rw [e1, mgD_some, key_msl, mg_some, e2, mg_all_none hk', MemU_none]
  rw [this]
  exact (runV_det.1 hK).2
end
@[push_cast] theorem flatC_cons {e : TypeId} {γ : Option Nat} {c : Nat} {x : V} {xs : List V} : (V.own e γ c (x :: xs)).flatC = false := by cases γ <;> cases c <;> rfl
@[push_cast] theorem flatC_snoc {e : TypeId} {γ : Option Nat} {c : Nat} {x : V} {xs : List V} : (V.own e γ c (xs ++ [x])).flatC = false := by cases xs <;> exact flatC_cons
structure RowI where
 γ : Option Nat
 c : Nat
 l : List Int
def RowI.V (x : RowI) : V := .own 3 x.γ x.c (x.l.map (V.int .i64))
theorem RowI.V_eq (x : RowI) : x.V = .own 3 x.γ x.c (x.l.map (V.int .i64)) := rfl
theorem fz_rowI (x : RowI) : x.V.fz = intsV x.l := by simp only [RowI.V, V.fz, fzs_map, fzs_int, intsV]
theorem fz_rowsI (xs : List RowI) : (xs.map RowI.V).map V.fz = (xs.map RowI.l).map intsV := by
 rw [List.map_map, List.map_map]; exact List.map_congr_left fun d _ => fz_rowI d
def perms : Nat → List Int → List (List Int)
 | 0, _ => [[]]
 | n + 1, l => (List.range l.length).flatMap fun i => (perms n (l.eraseIdx i)).map (l.getD i 0 :: ·)
def permsK (n : Nat) (l : List Int) (k : Nat) : List (List Int) := (List.range k).flatMap fun i => (perms n (l.eraseIdx i)).map (l.getD i 0 :: ·)
theorem permsK_succ (n : Nat) (l : List Int) (k : Nat) : permsK n l (k + 1) = permsK n l k ++ (perms n (l.eraseIdx k)).map (l.getD k 0 :: ·) := by
 simp [permsK, List.range_succ]
def fac : Nat → Nat
 | 0 => 1
 | n + 1 => (n + 1) * fac n
theorem perms_len : ∀ {n : Nat} {l : List Int}, l.length = n → (perms n l).length = fac n
 | 0, l, h => rfl
 | n + 1, l, h => by
  have key : ∀ k, k ≤ l.length → (permsK n l k).length = k * fac n := by
   intro k hk
   induction k with
   | zero => simp [permsK]
   | succ k ih =>
    rw [permsK_succ, List.length_append, List.length_map, ih (by omega), perms_len (n := n) (by rw [List.length_eraseIdx_of_lt (by omega)]; omega), Nat.succ_mul]
  have := key l.length (Nat.le_refl _)
  rw [h] at this
  simpa [perms, permsK, h, fac] using this
theorem permsK_len {n : Nat} {l : List Int} (h : l.length = n + 1) {k : Nat} (hk : k ≤ l.length) : (permsK n l k).length = k * fac n := by
 induction k with
 | zero => simp [permsK]
 | succ k ih =>
  rw [permsK_succ, List.length_append, List.length_map, ih (by omega), perms_len (n := n) (by rw [List.length_eraseIdx_of_lt (by omega)]; omega), Nat.succ_mul]
theorem perms_row : ∀ {n : Nat} {l row : List Int}, l.length = n → row ∈ perms n l → row.length = n
 | 0, l, row, _, h => by simp [perms] at h; subst h; rfl
 | n + 1, l, row, hl, h => by
  simp only [perms, List.mem_flatMap, List.mem_range, List.mem_map] at h
  obtain ⟨i, hi, r, hr, rfl⟩ := h
  rw [List.length_cons, perms_row (n := n) (by rw [List.length_eraseIdx_of_lt hi]; omega) hr]
theorem fac_le : ∀ {n : Nat}, n ≤ 6 → fac n ≤ 720 := by decide
theorem perms_fn : ∀ (n : Nat) (l : List Int), l.length = n → n ≤ 6 → Fp Tryz.prog 124 [intsV l] (.sl ((perms n l).map intsV)) := by
 intro n
 induction n with
 | zero =>
  intro l hl _
  obtain rfl := List.eq_nil_of_length_eq_zero hl
  refine Fc.fzRow (R' := fun r m => ∃ s γ cap e es, r = .msl s [] γ es.length cap ∧ m s = some (.own e γ cap es) ∧ es.map V.fz = [intsV []]) ?_ (fun r m h => h)
  refine Fc.start (S := [3]) Tryz.func124 Tryz.ntmps124 Tryz.results124 rfl (by decide) rfl (by kernel_rfl) ?_
  simp (disch := omega) only [push_cast, go_sem, zA, simprocAttr, intsV_eq]
  intro g
  exact ⟨_, fun _ _ h => h, 2, some g, 1, 26, [.own 0 none 0 []], rfl, by simp [Mem.set], rfl⟩
 | succ n ih =>
  intro l hl hn
  have hf6 := fac_le (n := n) (by omega)
  have hf7 : (n + 1) * fac n ≤ 720 := fac_le (n := n + 1) hn
  refine Fc.fzRow (R' := fun r m => ∃ s γ cap e es, r = .msl s [] γ es.length cap ∧ m s = some (.own e γ cap es) ∧ es.map V.fz = (perms (n + 1) l).map intsV) ?_ (fun r m h => h)
  refine Fc.start (S := [3, 14]) Tryz.func124 Tryz.ntmps124 Tryz.results124 rfl (by decide) rfl (by kernel_rfl) ?_
  have hne : ¬ ((l.length : Int) = 0) := by omega
  have hne2 : ((l.length : Int) == 0) = false := by simpa using hne
  simp (disch := omega) only [push_cast, go_sem, zA, simprocAttr, intsV_eq, hne, hne2]
  refine Sat.of (S := [14]) (by kernel_rfl) ?_
  simp (disch := omega) only [push_cast, go_sem, zA, simprocAttr]
  refine Sat.loop (σ := EvS × List RowI) (fun x => upd (upd (upd (upd (upd noT 0 (.sl (l.map (V.int .i64)))) 13 (.sl (l.map (V.int .i64)))) 14 (.int .i64 l.length)) 15 (.int .i64 x.1.k)) 3 (.msl 3 [] x.1.γ x.2.length x.1.c))
   (fun x => noM.set 3 (.own x.1.e x.1.γ x.1.c (x.2.map RowI.V)))
   (fun x => x.1.k ≤ l.length ∧ (x.1.γ = none ∨ x.1.e = 26) ∧ x.2.map RowI.l = permsK n l x.1.k) (fun x => l.length - x.1.k) (⟨0, 0, none, 0⟩, []) (by simp [permsK]) ?_ ?_
  ·(refine zB ?_; repeat (first | exact zC | exact zD | refine zE (by decide) ?_ | refine zF ?_ ?_ | refine zG ?_ ?_)) <;> (try simp (disch := omega) only [push_cast, go_sem, zA, simprocAttr])
   all_goals rfl
  rintro ⟨⟨k, e, γ, c⟩, xs⟩ ⟨hk, hγ, hxs⟩ J hJ
  refine Sat.of (S := [8]) (by kernel_rfl) ?_
  simp only at hk hγ hxs hJ
  rcases Nat.lt_or_ge k l.length with hlt | hge
  ·obtain ⟨z, hz⟩ : ∃ z, l[k]? = some z := ⟨_, List.getElem?_eq_getElem hlt⟩
   simp (disch := omega) only [push_cast, go_sem, zA, simprocAttr, hz, hlt]
   refine callR.row (clone_fn l (by omega)) rfl rfl ?_
   intro γ1 c1
   simp (disch := omega) only [push_cast, go_sem, zA, simprocAttr]
   have hdel := delete_fn l γ1 k c1 (by omega) hlt
   rw [show (((k + 1 : Nat) : Int)) = (k : Int) + 1 from rfl] at hdel
   refine callR.take hdel rfl rfl rfl ?_
   have hle : (l.eraseIdx k).length = n := by rw [List.length_eraseIdx_of_lt hlt]; omega
   rw [show l.length - 1 = (l.eraseIdx k).length by omega]
   simp (disch := omega) only [push_cast, go_sem, zA, simprocAttr]
   refine Sat.freezeT (upd (upd (upd (upd (upd (upd (upd noT 0 (.sl (l.map (V.int .i64)))) 13 (.sl (l.map (V.int .i64)))) 14 (.int .i64 l.length)) 15 (.int .i64 k)) 3 (.msl 3 [] γ xs.length c)) 5 (.int .i64 z)) 6 (.sl ((l.eraseIdx k).map (V.int .i64)))) (noM.set 3 (.own e γ c (xs.map RowI.V))) 6 (e := 3) (γ := γ1) (cap := c1) (es := (l.eraseIdx k).map (V.int .i64)) rfl ?_ ?_
   ·(refine zB ?_; repeat (first | exact zC | exact zD | refine zE (by decide) ?_ | refine zF ?_ ?_ | refine zG ?_ ?_)) <;> (try simp (disch := omega) only [push_cast, go_sem, zA, simprocAttr])
    simp only [false_and, if_false]
   refine Sat.of (S := []) (by kernel_rfl) ?_
   simp (disch := omega) only [push_cast, go_sem, zA, simprocAttr]
   refine callR.pure (ih (l.eraseIdx k) hle (by omega)) rfl rfl ?_
   simp (disch := omega) only [push_cast, go_sem, zA, simprocAttr]
   refine Sat.loop (σ := EvS × List RowI) (fun x => upd (upd (upd (upd (upd (upd (upd (upd (upd noT 0 (.sl (l.map (V.int .i64)))) 13 (.sl (l.map (V.int .i64)))) 14 (.int .i64 l.length)) 15 (.int .i64 k)) 3 (.msl 3 [] x.1.γ x.2.length x.1.c)) 5 (.int .i64 z)) 27 (.sl ((perms n (l.eraseIdx k)).map intsV))) 28 (.int .i64 (perms n (l.eraseIdx k)).length)) 29 (.int .i64 x.1.k))
    (fun x => noM.set 3 (.own x.1.e x.1.γ x.1.c (x.2.map RowI.V)))
    (fun x => x.1.k ≤ (perms n (l.eraseIdx k)).length ∧ (x.1.γ = none ∨ x.1.e = 26) ∧ x.2.map RowI.l = permsK n l k ++ ((perms n (l.eraseIdx k)).take x.1.k).map (z :: ·)) (fun x => (perms n (l.eraseIdx k)).length - x.1.k) (⟨0, e, γ, c⟩, xs) (by simp [hγ, hxs]) ?_ ?_
   ·(refine zB ?_; repeat (first | exact zC | exact zD | refine zE (by decide) ?_ | refine zF ?_ ?_ | refine zG ?_ ?_)) <;> (try simp (disch := omega) only [push_cast, go_sem, zA, simprocAttr])
   rintro ⟨⟨m, e2, γ2, c2⟩, ys⟩ ⟨hm, hγ2, hys⟩ J2 hJ2
   refine Sat.of (S := []) (by kernel_rfl) ?_
   simp only at hm hγ2 hys hJ2
   rcases Nat.lt_or_ge m (perms n (l.eraseIdx k)).length with hlt2 | hge2
   ·obtain ⟨row, hr⟩ : ∃ row, (perms n (l.eraseIdx k))[m]? = some row := ⟨_, List.getElem?_eq_getElem hlt2⟩
    have hγ2' : (γ2 = none ∨ e2 = 26) = True := by simp only [hγ2]
    have hrow := perms_row hle (List.mem_of_getElem? hr)
    have hcm : (row.length + 1 = 1 + row.length) = True := by simp [Nat.add_comm]
    have hyl : ys.length = k * fac n + m := by
     have := congrArg List.length hys
     rw [List.length_map, List.length_append, permsK_len (by omega) (by omega), List.length_map, List.length_take] at this
     omega
    have hpl : (perms n (l.eraseIdx k)).length = fac n := perms_len hle
    have hmul : k * fac n ≤ n * fac n := Nat.mul_le_mul_right _ (by omega)
    have hmul2 : (n + 1) * fac n = n * fac n + fac n := Nat.succ_mul n (fac n)
    have hyb : ys.length + 1 ≤ 720 := by generalize k * fac n = A at *; generalize n * fac n = B at *; omega
    simp (disch := omega) only [push_cast, go_sem, zA, simprocAttr, hr, hlt2, intsV_eq, hγ2', hcm]
    intro g1
    refine ⟨by omega, fun γ3 c3 _ => ?_⟩
    intro g2
    refine ⟨by omega, fun γ4 c4 _ => ?_⟩
    refine hJ2 (⟨m + 1, 26, γ4, c4⟩, ys ++ [⟨γ3, c3, z :: row⟩]) _ _ ⟨by dsimp only; omega, .inr rfl, ?_⟩ (by dsimp only; omega) ?_
    ·dsimp only
     rw [List.map_append, hys, take_get hr, List.map_append, List.append_assoc]
     rfl
    ·(refine zB ?_; repeat (first | exact zC | exact zD | refine zE (by decide) ?_ | refine zF ?_ ?_ | refine zG ?_ ?_)) <;> (try simp (disch := omega) only [push_cast, go_sem, zA, simprocAttr])
     all_goals simp [RowI.V]
   ·have : m = (perms n (l.eraseIdx k)).length := by omega
    subst this
    simp (disch := omega) only [push_cast, go_sem, zA, simprocAttr]
    refine hJ (⟨k + 1, e2, γ2, c2⟩, ys) _ _ ⟨by dsimp only; omega, hγ2, ?_⟩ (by dsimp only; omega) ?_
    ·dsimp only
     rw [hys, List.take_length, permsK_succ]
     simp [List.getD, hz]
    ·(refine zB ?_; repeat (first | exact zC | exact zD | refine zE (by decide) ?_ | refine zF ?_ ?_ | refine zG ?_ ?_)) <;> (try simp (disch := omega) only [push_cast, go_sem, zA, simprocAttr])
  ·have : k = l.length := by omega
   subst this
   simp (disch := omega) only [push_cast, go_sem, zA, simprocAttr]
   refine Sat.of (S := []) (by kernel_rfl) ?_
   simp (disch := omega) only [push_cast, go_sem, zA, simprocAttr]
   refine ⟨_, fun _ _ h => h, 2, γ, c, e, xs.map RowI.V, by rw [List.length_map], by simp [Mem.set], ?_⟩
   rw [fz_rowsI, hxs]; rfl
end
section
open Go.RowKit
def choicesOf (ds : List Do) (d : Do) : List Int := if d.reads then -1 :: writersOf ds d.p else [-2]
def fromsK (ds : List Do) : Nat → List (List Int)
 | 0 => [[]]
 | k + 1 => match ds[k]? with
  | some d => (fromsK ds k).flatMap fun h => (choicesOf ds d).map fun c => h ++ [c]
  | none => fromsK ds k
def fromsOf (ds : List Do) : List (List Int) := fromsK ds ds.length
theorem fromsK_row {ds : List Do} : ∀ {k : Nat} {r : List Int}, r ∈ fromsK ds k → r.length ≤ k
 | 0, r, h => by simp [fromsK] at h; subst h; simp
 | k + 1, r, h => by
  unfold fromsK at h
  split at h
  ·simp only [List.mem_flatMap, List.mem_map] at h
   obtain ⟨h0, h1, c, _, rfl⟩ := h
   have := fromsK_row h1
   simp; omega
  ·have := fromsK_row h; omega
theorem flatMap_len {α β : Type} {f : α → List β} {n : Nat} (hf : ∀ a, (f a).length = n) : ∀ l : List α, (l.flatMap f).length = l.length * n
 | [] => by simp
 | a :: l => by simp only [List.flatMap_cons, List.length_append, hf, flatMap_len hf l, List.length_cons, Nat.succ_mul]; omega
theorem froms_fn (s : Sc) (hs : s.ds.length < 2 ^ 20) (hB : ∀ k, k ≤ s.ds.length → (fromsK s.ds k).length < 2 ^ 30) : Fp Tryz.prog 85 [s.V] (.sl ((fromsOf s.ds).map intsV)) := by
 refine Fc.fzRow (R' := fun r m => ∃ s1 γ cap e es, r = .msl s1 [] γ es.length cap ∧ m s1 = some (.own e γ cap es) ∧ es.map V.fz = (fromsOf s.ds).map intsV) ?_ (fun r m h => h)
 refine Fc.start (S := [20]) Tryz.func85 Tryz.ntmps85 Tryz.results85 rfl (by decide) rfl (by kernel_rfl) ?_
 simp (disch := omega) only [push_cast, go_sem, zA, simprocAttr, Sc.V_eq]
 intro g1 g2
 refine Sat.loop (σ := EvS × List V) (fun x => upd (upd (upd (upd (upd noT 1 (.ptr 1 [] 0 0 g1 3)) 3 (.msl 3 [] x.1.γ x.2.length x.1.c)) 14 (.sl (s.ds.map Do.V))) 15 (.int .i64 s.ds.length)) 16 (.int .i64 x.1.k))
  (fun x => (noM.set 1 (.own 74 (some g1) 1 [.agg [.sl (s.p.map thrV), .sl (s.es.map Evt.V), .sl (s.ds.map Do.V)]])).set 3 (.own x.1.e x.1.γ x.1.c x.2))
  (fun x => x.1.k ≤ s.ds.length ∧ x.2.map V.fz = (fromsK s.ds x.1.k).map intsV) (fun x => s.ds.length - x.1.k) (⟨0, 26, some g2, 1⟩, [.own 0 none 0 []]) (by simp; rfl) ?_ ?_
 ·(refine zB ?_; repeat (first | exact zC | exact zD | refine zE (by decide) ?_ | refine zF ?_ ?_ | refine zG ?_ ?_)) <;> (try simp (disch := omega) only [push_cast, go_sem, zA, simprocAttr])
  all_goals rfl
 rintro ⟨⟨k, e0, γ9, c9⟩, vs⟩ ⟨hk, hvs⟩ J hJ
 simp only at hk hvs hJ
 rcases Nat.lt_or_ge k s.ds.length with hlt | hge
 ·refine Sat.freezeT (upd (upd (upd (upd (upd noT 1 (.ptr 1 [] 0 0 g1 3)) 3 (.sl ((fromsK s.ds k).map intsV))) 14 (.sl (s.ds.map Do.V))) 15 (.int .i64 s.ds.length)) 16 (.int .i64 k)) (noM.set 1 (.own 74 (some g1) 1 [.agg [.sl (s.p.map thrV), .sl (s.es.map Evt.V), .sl (s.ds.map Do.V)]])) 3 (e := e0) (γ := γ9) (cap := c9) (es := vs) rfl ?_ ?_
  ·(refine zB ?_; repeat (first | exact zC | exact zD | refine zE (by decide) ?_ | refine zF ?_ ?_ | refine zG ?_ ?_)) <;> (try simp (disch := omega) only [push_cast, go_sem, zA, simprocAttr])
   rw [hvs]
  refine Sat.of (S := [2006]) (by kernel_rfl) ?_
  obtain ⟨d, hd⟩ : ∃ d, s.ds[k]? = some d := ⟨_, List.getElem?_eq_getElem hlt⟩
  simp (disch := omega) only [push_cast, go_sem, zA, simprocAttr, hd, hlt, Do.V_eq]
  intro g3 g4
  have hwl : (writersOf s.ds d.p).length ≤ s.ds.length := wrs_le _ _ _
  refine Sat.cut (σ := RowI) [] (fun x => upd (upd (upd (upd (upd (upd noT 1 (.ptr 1 [] 0 0 g1 3)) 3 (.sl ((fromsK s.ds k).map intsV))) 14 (.sl (s.ds.map Do.V))) 15 (.int .i64 s.ds.length)) 16 (.int .i64 k)) 6 (.msl 6 [] x.γ x.l.length x.c))
   (fun x => (noM.set 1 (.own 74 (some g1) 1 [.agg [.sl (s.p.map thrV), .sl (s.es.map Evt.V), .sl (s.ds.map Do.V)]])).set 6 x.V) (fun x => x.l = choicesOf s.ds d) (by kernel_rfl) ?_ ?_
  ·simp (disch := omega) only [push_cast, go_sem, zA, simprocAttr, Do.V_eq]
   refine callR.pure (reads_fn d) rfl rfl ?_
   cases hr : d.reads
   ·simp (disch := omega) only [push_cast, go_sem, zA, simprocAttr]
    refine ⟨⟨some g4, 1, [-2]⟩, by simp [choicesOf, hr], ?_⟩
    (refine zB ?_; repeat (first | exact zC | exact zD | refine zE (by decide) ?_ | refine zF ?_ ?_ | refine zG ?_ ?_)) <;> (try simp (disch := omega) only [push_cast, go_sem, zA, simprocAttr])
    all_goals rfl
   ·simp (disch := omega) only [push_cast, go_sem, zA, simprocAttr, Do.V_eq]
    intro g5
    refine callR.pure (writers_fn s d.p hs) rfl rfl ?_
    simp (disch := omega) only [push_cast, go_sem, zA, simprocAttr, intsV_eq]
    refine ⟨by omega, fun γ c _ => ⟨⟨γ, c, -1 :: writersOf s.ds d.p⟩, by simp [choicesOf, hr], ?_⟩⟩
    (refine zB ?_; repeat (first | exact zC | exact zD | refine zE (by decide) ?_ | refine zF ?_ ?_ | refine zG ?_ ?_)) <;> (try simp (disch := omega) only [push_cast, go_sem, zA, simprocAttr])
    all_goals simp [RowI.V, Nat.add_comm]
  rintro ⟨γ0, c0, cs⟩ hcs
  simp only at hcs
  have hcl : cs.length ≤ s.ds.length + 1 := by
   rw [hcs]; unfold choicesOf; split <;> simp <;> omega
  rw [RowI.V_eq]
  dsimp only
  refine Sat.freezeT (upd (upd (upd (upd (upd (upd noT 1 (.ptr 1 [] 0 0 g1 3)) 3 (.sl ((fromsK s.ds k).map intsV))) 14 (.sl (s.ds.map Do.V))) 15 (.int .i64 s.ds.length)) 16 (.int .i64 k)) 6 (.sl (cs.map (V.int .i64))))
   (noM.set 1 (.own 74 (some g1) 1 [.agg [.sl (s.p.map thrV), .sl (s.es.map Evt.V), .sl (s.ds.map Do.V)]])) 6 (e := 3) (γ := γ0) (cap := c0) (es := cs.map (V.int .i64)) rfl ?_ ?_
  ·(refine zB ?_; repeat (first | exact zC | exact zD | refine zE (by decide) ?_ | refine zF ?_ ?_ | refine zG ?_ ?_)) <;> (try simp (disch := omega) only [push_cast, go_sem, zA, simprocAttr])
  refine Sat.of (S := []) (by kernel_rfl) ?_
  simp (disch := omega) only [push_cast, go_sem, zA, simprocAttr]
  have hfk : fromsK s.ds (k + 1) = (fromsK s.ds k).flatMap (fun h => cs.map fun c => h ++ [c]) := by rw [fromsK, hd, hcs]
  have hbK := hB k hk
  have hbk : (fromsK s.ds k).length * cs.length < 2 ^ 30 := by
   have := hB (k + 1) (by omega)
   rw [hfk, flatMap_len (n := cs.length) (by simp)] at this
   exact this
  refine Sat.loop (σ := EvS × List RowI) (fun x => upd (upd (upd (upd (upd (upd (upd (upd (upd noT 1 (.ptr 1 [] 0 0 g1 3)) 14 (.sl (s.ds.map Do.V))) 15 (.int .i64 s.ds.length)) 16 (.int .i64 k)) 6 (.sl (cs.map (V.int .i64)))) 29 (.sl ((fromsK s.ds k).map intsV))) 30 (.int .i64 (fromsK s.ds k).length)) 31 (.int .i64 x.1.k)) 7 (.msl 7 [] x.1.γ x.2.length x.1.c)) (fun x => (noM.set 1 (.own 74 (some g1) 1 [.agg [.sl (s.p.map thrV), .sl (s.es.map Evt.V), .sl (s.ds.map Do.V)]])).set 7 (.own x.1.e x.1.γ x.1.c (x.2.map RowI.V)))
   (fun x => x.1.k ≤ (fromsK s.ds k).length ∧ (x.1.γ = none ∨ x.1.e = 26) ∧ x.2.map RowI.l = ((fromsK s.ds k).take x.1.k).flatMap (fun h => cs.map fun c => h ++ [c])) (fun x => (fromsK s.ds k).length - x.1.k) (⟨0, 0, none, 0⟩, []) (by simp) ?_ ?_
  ·(refine zB ?_; repeat (first | exact zC | exact zD | refine zE (by decide) ?_ | refine zF ?_ ?_ | refine zG ?_ ?_)) <;> (try simp (disch := omega) only [push_cast, go_sem, zA, simprocAttr])
   all_goals rfl
  rintro ⟨⟨i, e, γ, c⟩, ys⟩ ⟨hi, hγ, hys⟩ J2 hJ2
  refine Sat.of (S := []) (by kernel_rfl) ?_
  simp only at hi hγ hys hJ2
  rcases Nat.lt_or_ge i (fromsK s.ds k).length with hlt2 | hge2
  ·obtain ⟨h, hh⟩ : ∃ h, (fromsK s.ds k)[i]? = some h := ⟨_, List.getElem?_eq_getElem hlt2⟩
   have hhl := fromsK_row (List.mem_of_getElem? hh)
   simp (disch := omega) only [push_cast, go_sem, zA, simprocAttr, hh, hlt2, intsV_eq]
   refine Sat.loop (σ := EvS × List RowI) (fun x => upd (upd (upd (upd (upd (upd (upd (upd (upd (upd (upd (upd (upd noT 1 (.ptr 1 [] 0 0 g1 3)) 14 (.sl (s.ds.map Do.V))) 15 (.int .i64 s.ds.length)) 16 (.int .i64 k)) 6 (.sl (cs.map (V.int .i64)))) 29 (.sl ((fromsK s.ds k).map intsV))) 30 (.int .i64 (fromsK s.ds k).length)) 31 (.int .i64 i)) 7 (.msl 7 [] x.1.γ x.2.length x.1.c)) 9 (.sl (h.map (V.int .i64)))) 35 (.sl (cs.map (V.int .i64)))) 36 (.int .i64 cs.length)) 37 (.int .i64 x.1.k)) (fun x => (noM.set 1 (.own 74 (some g1) 1 [.agg [.sl (s.p.map thrV), .sl (s.es.map Evt.V), .sl (s.ds.map Do.V)]])).set 7 (.own x.1.e x.1.γ x.1.c (x.2.map RowI.V)))
    (fun x => x.1.k ≤ cs.length ∧ (x.1.γ = none ∨ x.1.e = 26) ∧ x.2.map RowI.l = ((fromsK s.ds k).take i).flatMap (fun h => cs.map fun c => h ++ [c]) ++ (cs.take x.1.k).map fun c => h ++ [c]) (fun x => cs.length - x.1.k) (⟨0, e, γ, c⟩, ys) (by simp [hγ, hys]) ?_ ?_
   ·(refine zB ?_; repeat (first | exact zC | exact zD | refine zE (by decide) ?_ | refine zF ?_ ?_ | refine zG ?_ ?_)) <;> (try simp (disch := omega) only [push_cast, go_sem, zA, simprocAttr])
   rintro ⟨⟨j, e2, γ2, c2⟩, zs⟩ ⟨hj, hγ2, hzs⟩ J3 hJ3
   refine Sat.of (S := []) (by kernel_rfl) ?_
   simp only at hj hγ2 hzs hJ3
   rcases Nat.lt_or_ge j cs.length with hlt3 | hge3
   ·obtain ⟨z, hz⟩ : ∃ z, cs[j]? = some z := ⟨_, List.getElem?_eq_getElem hlt3⟩
    have hγ2' : (γ2 = none ∨ e2 = 26) = True := by simp only [hγ2]
    have hzl : zs.length = i * cs.length + j := by
     have := congrArg List.length hzs
     rw [List.length_map, List.length_append, flatMap_len (n := cs.length) (by simp), List.length_take, List.length_map, List.length_take, Nat.min_eq_left hi, Nat.min_eq_left hj] at this
     exact this
    have hm1 : (i + 1) * cs.length ≤ (fromsK s.ds k).length * cs.length := Nat.mul_le_mul_right _ (by omega)
    rw [Nat.succ_mul] at hm1
    have hzb : zs.length + 1 < 2 ^ 30 := by generalize i * cs.length = A at *; generalize (fromsK s.ds k).length * cs.length = B at *; omega
    simp (disch := omega) only [push_cast, go_sem, zA, simprocAttr, hz, hlt3]
    refine callR.row (clone_fn h (by omega)) rfl rfl ?_
    intro γ3 c3
    simp (disch := omega) only [push_cast, go_sem, zA, simprocAttr, hγ2']
    intro g5
    refine ⟨by omega, fun γ4 c4 _ => ?_⟩
    intro g6
    refine ⟨by omega, fun γ5 c5 _ => ?_⟩
    refine hJ3 (⟨j + 1, 26, γ5, c5⟩, zs ++ [⟨γ4, c4, h ++ [z]⟩]) _ _ ⟨by dsimp only; omega, .inr rfl, ?_⟩ (by dsimp only; omega) ?_
    ·dsimp only
     rw [List.map_append, hzs, take_get hz, List.map_append, List.append_assoc]
     rfl
    ·(refine zB ?_; repeat (first | exact zC | exact zD | refine zE (by decide) ?_ | refine zF ?_ ?_ | refine zG ?_ ?_)) <;> (try simp (disch := omega) only [push_cast, go_sem, zA, simprocAttr])
     all_goals simp [RowI.V]
   ·have : j = cs.length := by omega
    subst this
    simp (disch := omega) only [push_cast, go_sem, zA, simprocAttr]
    refine hJ2 (⟨i + 1, e2, γ2, c2⟩, zs) _ _ ⟨by dsimp only; omega, hγ2, ?_⟩ (by dsimp only; omega) ?_
    ·dsimp only
     rw [hzs, List.take_length, take_get hh, List.flatMap_append]
     simp
    ·(refine zB ?_; repeat (first | exact zC | exact zD | refine zE (by decide) ?_ | refine zF ?_ ?_ | refine zG ?_ ?_)) <;> (try simp (disch := omega) only [push_cast, go_sem, zA, simprocAttr])
  ·have : i = (fromsK s.ds k).length := by omega
   subst this
   rw [List.take_length, ← hfk] at hys
   simp (disch := omega) only [push_cast, go_sem, zA, simprocAttr]
   refine hJ (⟨k + 1, e, γ, c⟩, ys.map RowI.V) _ _ ⟨by dsimp only; omega, ?_⟩ (by dsimp only; omega) ?_
   ·dsimp only
    rw [fz_rowsI, hys]
   ·(refine zB ?_; repeat (first | exact zC | exact zD | refine zE (by decide) ?_ | refine zF ?_ ?_ | refine zG ?_ ?_)) <;> (try simp (disch := omega) only [push_cast, go_sem, zA, simprocAttr])
    all_goals simp
 ·have : k = s.ds.length := by omega
  subst this
  refine Sat.of (S := [20]) (by kernel_rfl) ?_
  simp (disch := omega) only [push_cast, go_sem, zA, simprocAttr]
  refine Sat.of (S := []) (by kernel_rfl) ?_
  simp (disch := omega) only [push_cast, go_sem, zA, simprocAttr]
  refine ⟨_, fun _ _ h => h, 2, γ9, c9, e0, vs, rfl, by simp [Mem.set], hvs⟩
end
section
open Go.RowKit
theorem infoR : (Tryz.prog.info? 26).map (fun i => (i.zero, i.size, i.bytes)) = some (some (.slice none 0 0), 1, 24) := by kernel_rfl
theorem clone2_zero (a : Addr) (c : Nat) (w : World) :
  Calls Tryz.prog 126 #[.slice (some a) 0 c] w fun e w' => ∃ v', e = .returned v' ∧ w'.ownsRow w.heap.size 26 1 v' 0 [] ∧ Below w.heap.size w w' := by
 obtain ⟨i0, hi, hz0, hz1, hz2⟩ := info_parts infoR
 have q22 : ∀ (w : World) (a : Option Addr) (n c n' c' : Nat), (binOp .eql 31 (.slice a n c) (.slice none n' c')).run Tryz.prog w = .ok (.bool a.isNone) w := fun w a n c n' c' => Lib.run_eql_slice_nil w _ _ a n c n' c' Tryz.underlying31
 go_enter Tryz.func126, Tryz.ntmps126
 go_wp2_with (at_builtin; refine wpList_append_own _ rfl _ _ 31 rfl w.heap.size 26 i0 (.slice none 0 0) 1 24 Tryz.underlying31 hi hz0 hz1 hz2 rfl (by decide) _ _ _ rfl (World.ownsRow_made w #[] 0 (Nat.le_refl _) (Nat.zero_le _) rfl) a 0 c [] rfl rfl (by intro j u hj; simp at hj) (by intro u hu; cases hu) (by unfold maxLen; omega) (by omega) (by simp) ?_)
 intro v' w1 hown hgrow hnil
 go_wp2
 go_ret
 exact ⟨v', rfl, by simpa using hown, ((Below.refl _ w).alloc (Nat.le_refl _) _).grown hgrow (by simp) (by intro k hk; simp [Value.ownBlock] at hk; omega)⟩
section
variable {P : Program} {imm : Nat → Prop} {w : World}
theorem Rp.plain_inv {es : List V} {v : Value} (hp : ∀ x ∈ es, plainE x) (h : Rp imm w (.sl es) v) : ∃ A c, v = .slice A es.length c ∧
  (es ≠ [] → ∃ (g off : Nat) (us : List Value), A = some ⟨g, off, none⟩ ∧ us.length = es.length ∧ (∀ (j : Nat) (u : Value), us[j]? = some u → w.cell? ⟨g, off + j, none⟩ = some u) ∧ ∀ (i : Nat) (x : V), es[i]? = some x → ∃ u, us[i]? = some u ∧ Rp imm w x u) := by
 cases h with
 | sl0 A c => exact ⟨A, c, rfl, fun h => absurd rfl h⟩
 | sl _ g off cap n cur t fr f hi hg hk hl hc hv =>
  refine ⟨_, cap, rfl, fun hne => ⟨g, off, (List.range es.length).map fun j => f j 0, rfl, by simp, fun j u hu => ?_, fun i x hx => ?_⟩⟩
  ·rw [List.getElem?_map, Option.map_eq_some_iff] at hu
   obtain ⟨j', hj', rfl⟩ := hu
   obtain ⟨hjl, rfl⟩ : j < es.length ∧ j' = j := by
    have := List.getElem?_eq_some_iff.1 hj'
    obtain ⟨h1, h2⟩ := this
    simp at h1 h2
    exact ⟨h1, h2.symm⟩
   have hx : es[j']? = some es[j'] := List.getElem?_eq_getElem hjl
   have hpx := hp _ (List.mem_of_getElem? hx)
   have hn : n = 1 := by have := hl j' _ hx; rw [hpx.1] at this; simpa using this.symm
   subst hn
   have := hc j' _ 0 es[j'] hx (by rw [hpx.1]; rfl)
   unfold World.cell?
   simp only [hg]
   simpa using this
  ·have hpx := hp _ (List.mem_of_getElem? hx)
   have hlt := (List.getElem?_eq_some_iff.1 hx).1
   exact ⟨f i 0, by rw [List.getElem?_map, List.getElem?_range hlt]; rfl, hv i x 0 x hx (by rw [hpx.1]; rfl)⟩
end
theorem plain_intsV (rows : List (List Int)) : ∀ x ∈ rows.map intsV, plainE x := by
 intro x hx; obtain ⟨z, _, rfl⟩ := List.mem_map.1 hx; exact plain_sl _
theorem clone2_fn (rows : List (List Int)) (hl : rows.length < 2 ^ 40) : Fc Tryz.prog 126 [.sl (rows.map intsV)] noM fun r m => ∃ γ cap, r = .msl 100 [] γ rows.length cap ∧ m = noM.set 100 (.own 26 γ cap (rows.map intsV)) := by
 have h0 := Fc.of_row (P := Tryz.prog) (f := 126) (args := [.sl (rows.map intsV)]) (e := 26) (es := rows.map intsV) (plain_intsV rows) szT_26 (by kernel_rfl) fun imm w vals hi hs hv => ?_
 ·rw [List.length_map] at h0; exact h0
 obtain ⟨a, rfl, ha⟩ := vals1 (P := Tryz.prog) hs hv
 obtain ⟨A, c, rfl, h⟩ := ha.plain_inv (plain_intsV rows)
 rw [List.length_map] at *
 obtain ⟨i0, hi0, hz0, hz1, hz2⟩ := info_parts infoR
 cases A with
 | none =>
  have hz : rows.map intsV = [] := by
   by_cases hz : rows.map intsV = []
   ·exact hz
   ·obtain ⟨g, off, us, h1, _⟩ := h hz; cases h1
  rw [hz]
  have hz' : rows = [] := by simpa using hz
  subst hz'
  refine (Tryz.slices_Clone_nil_f126 0 c w).mono ?_
  rintro e w' ⟨rfl, rfl⟩
  exact ⟨_, [], rfl, ⟨rfl, .inl ⟨rfl, rfl⟩⟩, by simp, Below.refl _ _⟩
 | some a =>
  by_cases hz : rows.map intsV = []
  ·have hz' : rows = [] := by simpa using hz
   subst hz'
   refine (clone2_zero a c w).mono ?_
   rintro e w' ⟨v', rfl, h1, h2⟩
   exact ⟨_, [], rfl, h1, by simp, h2⟩
  ·obtain ⟨g, off, us, h1, hu1, hu2, hu3⟩ := h hz
   cases h1
   refine (Tryz.slices_Clone_f126 i0 (.slice none 0 0) 1 24 hi0 hz0 hz1 hz2 rfl (by decide) Tryz.sizeOf26 g off rows.length c us w (by simpa using hu1) (by unfold maxLen; omega) (by omega) hu2 ?_).mono ?_
   ·intro u hu
    obtain ⟨i, hi, rfl⟩ := List.mem_iff_getElem.1 hu
    have hil : i < (rows.map intsV).length := by rw [List.length_map]; omega
    obtain ⟨u', k1, k2⟩ := hu3 i _ (List.getElem?_eq_getElem hil)
    rw [List.getElem?_eq_getElem hi] at k1
    cases k1
    exact k2.one (plain_intsV rows _ (List.getElem_mem hil)).2.2
   ·rintro e w' ⟨v', rfl, k1, _, k2⟩
    exact ⟨_, _, rfl, k1, hu3, k2⟩
end
section
open Go.RowKit
def rowsV (l : List (List Int)) : V := .sl (l.map intsV)
theorem rowsV_eq (l : List (List Int)) : rowsV l = .sl (l.map intsV) := rfl
def permsOf (l : List Int) : List (List Int) := perms l.length l
def ordersK (ds : List Do) : Nat → List (List (List Int))
 | 0 => [[]]
 | k + 1 => (ordersK ds k).flatMap fun h => (permsOf (writersOf ds k)).map fun r => h ++ [r]
def ordersOf (ds : List Do) : List (List (List Int)) := ordersK ds 3
theorem ordersK_row {ds : List Do} : ∀ {k : Nat} {r : List (List Int)}, r ∈ ordersK ds k → r.length = k
 | 0, r, h => by simp [ordersK] at h; subst h; simp
 | k + 1, r, h => by
  simp only [ordersK, List.mem_flatMap, List.mem_map] at h
  obtain ⟨h0, h1, c, _, rfl⟩ := h
  have := ordersK_row h1
  simp; omega
structure RowR where
 γ : Option Nat
 c : Nat
 l : List (List Int)
def RowR.V (x : RowR) : V := .own 26 x.γ x.c (x.l.map intsV)
theorem RowR.V_eq (x : RowR) : x.V = .own 26 x.γ x.c (x.l.map intsV) := rfl
@[push_cast] theorem fz_intsV (l : List Int) : (intsV l).fz = intsV l := by simp only [intsV, V.fz]
@[push_cast] theorem fzs_rows (l : List (List Int)) : (l.map intsV).map V.fz = l.map intsV := by rw [List.map_map]; exact List.map_congr_left fun d _ => fz_intsV d
theorem fz_rowR (x : RowR) : x.V.fz = rowsV x.l := by simp only [RowR.V, V.fz, fzs_map, fzs_rows, rowsV]
theorem fz_rowsR (xs : List RowR) : (xs.map RowR.V).map V.fz = (xs.map RowR.l).map rowsV := by
 rw [List.map_map, List.map_map]; exact List.map_congr_left fun d _ => fz_rowR d
theorem orders_fn (s : Sc) (hs : s.ds.length < 2 ^ 20) (hw : ∀ k : Nat, k < 3 → (writersOf s.ds k).length ≤ 6) (hB : ∀ k, k ≤ 3 → (ordersK s.ds k).length < 2 ^ 30) : Fp Tryz.prog 84 [s.V] (.sl ((ordersOf s.ds).map rowsV)) := by
 refine Fc.fzRow (R' := fun r m => ∃ s1 γ cap e es, r = .msl s1 [] γ es.length cap ∧ m s1 = some (.own e γ cap es) ∧ es.map V.fz = (ordersOf s.ds).map rowsV) ?_ (fun r m h => h)
 refine Fc.start (S := [17]) Tryz.func84 Tryz.ntmps84 Tryz.results84 rfl (by decide) rfl (by kernel_rfl) ?_
 simp (disch := omega) only [push_cast, go_sem, zA, simprocAttr, Sc.V_eq]
 intro g1 g2
 refine Sat.loop (σ := EvS × List V) (fun x => upd (upd (upd noT 1 (.ptr 1 [] 0 0 g1 3)) 3 (.msl 3 [] x.1.γ x.2.length x.1.c)) 11 (.int .i64 x.1.k))
  (fun x => (noM.set 1 (.own 74 (some g1) 1 [.agg [.sl (s.p.map thrV), .sl (s.es.map Evt.V), .sl (s.ds.map Do.V)]])).set 3 (.own x.1.e x.1.γ x.1.c x.2))
  (fun x => x.1.k ≤ 3 ∧ x.2.map V.fz = (ordersK s.ds x.1.k).map rowsV) (fun x => 3 - x.1.k) (⟨0, 31, some g2, 1⟩, [.own 0 none 0 []]) (by simp; rfl) ?_ ?_
 ·(refine zB ?_; repeat (first | exact zC | exact zD | refine zE (by decide) ?_ | refine zF ?_ ?_ | refine zG ?_ ?_)) <;> (try simp (disch := omega) only [push_cast, go_sem, zA, simprocAttr])
  all_goals rfl
 rintro ⟨⟨k, e0, γ9, c9⟩, vs⟩ ⟨hk, hvs⟩ J hJ
 simp only at hk hvs hJ
 rcases Nat.lt_or_ge k 3 with hlt | hge
 ·refine Sat.freezeT (upd (upd (upd noT 1 (.ptr 1 [] 0 0 g1 3)) 3 (.sl ((ordersK s.ds k).map rowsV))) 11 (.int .i64 k)) (noM.set 1 (.own 74 (some g1) 1 [.agg [.sl (s.p.map thrV), .sl (s.es.map Evt.V), .sl (s.ds.map Do.V)]])) 3 (e := e0) (γ := γ9) (cap := c9) (es := vs) rfl ?_ ?_
  ·(refine zB ?_; repeat (first | exact zC | exact zD | refine zE (by decide) ?_ | refine zF ?_ ?_ | refine zG ?_ ?_)) <;> (try simp (disch := omega) only [push_cast, go_sem, zA, simprocAttr])
   rw [hvs]
  refine Sat.of (S := []) (by kernel_rfl) ?_
  obtain ⟨rs, hrs⟩ : ∃ rs, permsOf (writersOf s.ds k) = rs := ⟨_, rfl⟩
  have hwk := hw k hlt
  have hrl : rs.length ≤ 720 := by rw [← hrs]; unfold permsOf; rw [perms_len rfl]; exact fac_le hwk
  have hk3 : (k : Int) < 3 := by omega
  simp (disch := omega) only [push_cast, go_sem, zA, simprocAttr, hk3]
  have hfk : ordersK s.ds (k + 1) = (ordersK s.ds k).flatMap (fun h => rs.map fun r => h ++ [r]) := by rw [ordersK, hrs]
  have hbK := hB k hk
  have hbk : (ordersK s.ds k).length * rs.length < 2 ^ 30 := by
   have := hB (k + 1) (by omega)
   rw [hfk, flatMap_len (n := rs.length) (by simp)] at this
   exact this
  refine Sat.loop (σ := EvS × List RowR) (fun x => upd (upd (upd (upd (upd (upd (upd noT 1 (.ptr 1 [] 0 0 g1 3)) 11 (.int .i64 k)) 4 (.int .i64 k)) 14 (.sl ((ordersK s.ds k).map rowsV))) 15 (.int .i64 (ordersK s.ds k).length)) 16 (.int .i64 x.1.k)) 5 (.msl 5 [] x.1.γ x.2.length x.1.c)) (fun x => (noM.set 1 (.own 74 (some g1) 1 [.agg [.sl (s.p.map thrV), .sl (s.es.map Evt.V), .sl (s.ds.map Do.V)]])).set 5 (.own x.1.e x.1.γ x.1.c (x.2.map RowR.V)))
   (fun x => x.1.k ≤ (ordersK s.ds k).length ∧ (x.1.γ = none ∨ x.1.e = 31) ∧ x.2.map RowR.l = ((ordersK s.ds k).take x.1.k).flatMap (fun h => rs.map fun r => h ++ [r])) (fun x => (ordersK s.ds k).length - x.1.k) (⟨0, 0, none, 0⟩, []) (by simp) ?_ ?_
  ·(refine zB ?_; repeat (first | exact zC | exact zD | refine zE (by decide) ?_ | refine zF ?_ ?_ | refine zG ?_ ?_)) <;> (try simp (disch := omega) only [push_cast, go_sem, zA, simprocAttr])
   all_goals rfl
  rintro ⟨⟨i, e, γ, c⟩, ys⟩ ⟨hi, hγ, hys⟩ J2 hJ2
  refine Sat.of (S := []) (by kernel_rfl) ?_
  simp only at hi hγ hys hJ2
  rcases Nat.lt_or_ge i (ordersK s.ds k).length with hlt2 | hge2
  ·obtain ⟨h, hh⟩ : ∃ h, (ordersK s.ds k)[i]? = some h := ⟨_, List.getElem?_eq_getElem hlt2⟩
   have hhl := ordersK_row (List.mem_of_getElem? hh)
   simp (disch := omega) only [push_cast, go_sem, zA, simprocAttr, hh, hlt2, rowsV_eq]
   refine callR.pure (writers_fn s k hs) rfl rfl ?_
   simp (disch := omega) only [push_cast, go_sem, zA, simprocAttr]
   refine callR.pure (perms_fn _ (writersOf s.ds k) rfl hwk) rfl rfl ?_
   rw [show perms (writersOf s.ds k).length (writersOf s.ds k) = rs from hrs]
   simp (disch := omega) only [push_cast, go_sem, zA, simprocAttr]
   refine Sat.loop (σ := EvS × List RowR) (fun x => upd (upd (upd (upd (upd (upd (upd (upd (upd (upd (upd noT 1 (.ptr 1 [] 0 0 g1 3)) 11 (.int .i64 k)) 4 (.int .i64 k)) 14 (.sl ((ordersK s.ds k).map rowsV))) 15 (.int .i64 (ordersK s.ds k).length)) 16 (.int .i64 i)) 5 (.msl 5 [] x.1.γ x.2.length x.1.c)) 7 (.sl (h.map intsV))) 23 (.sl (rs.map intsV))) 24 (.int .i64 rs.length)) 25 (.int .i64 x.1.k)) (fun x => (noM.set 1 (.own 74 (some g1) 1 [.agg [.sl (s.p.map thrV), .sl (s.es.map Evt.V), .sl (s.ds.map Do.V)]])).set 5 (.own x.1.e x.1.γ x.1.c (x.2.map RowR.V)))
    (fun x => x.1.k ≤ rs.length ∧ (x.1.γ = none ∨ x.1.e = 31) ∧ x.2.map RowR.l = ((ordersK s.ds k).take i).flatMap (fun h => rs.map fun r => h ++ [r]) ++ (rs.take x.1.k).map fun r => h ++ [r]) (fun x => rs.length - x.1.k) (⟨0, e, γ, c⟩, ys) (by simp [hγ, hys]) ?_ ?_
   ·(refine zB ?_; repeat (first | exact zC | exact zD | refine zE (by decide) ?_ | refine zF ?_ ?_ | refine zG ?_ ?_)) <;> (try simp (disch := omega) only [push_cast, go_sem, zA, simprocAttr])
    all_goals rfl
   rintro ⟨⟨j, e2, γ2, c2⟩, zs⟩ ⟨hj, hγ2, hzs⟩ J3 hJ3
   refine Sat.of (S := []) (by kernel_rfl) ?_
   simp only at hj hγ2 hzs hJ3
   rcases Nat.lt_or_ge j rs.length with hlt3 | hge3
   ·obtain ⟨z, hz⟩ : ∃ z, rs[j]? = some z := ⟨_, List.getElem?_eq_getElem hlt3⟩
    have hγ2' : (γ2 = none ∨ e2 = 31) = True := by simp only [hγ2]
    have hzl : zs.length = i * rs.length + j := by
     have := congrArg List.length hzs
     rw [List.length_map, List.length_append, flatMap_len (n := rs.length) (by simp), List.length_take, List.length_map, List.length_take, Nat.min_eq_left hi, Nat.min_eq_left hj] at this
     exact this
    have hm1 : (i + 1) * rs.length ≤ (ordersK s.ds k).length * rs.length := Nat.mul_le_mul_right _ (by omega)
    rw [Nat.succ_mul] at hm1
    have hzb : zs.length + 1 < 2 ^ 30 := by generalize i * rs.length = A at *; generalize (ordersK s.ds k).length * rs.length = B at *; omega
    simp (disch := omega) only [push_cast, go_sem, zA, simprocAttr, hz, hlt3, intsV_eq]
    refine callR.row (clone2_fn h (by omega)) rfl rfl ?_
    intro γ3 c3
    simp (disch := omega) only [push_cast, go_sem, zA, simprocAttr, hγ2']
    intro g5
    refine ⟨by omega, fun γ4 c4 _ => ?_⟩
    intro g6
    refine ⟨by omega, fun γ5 c5 _ => ?_⟩
    refine hJ3 (⟨j + 1, 31, γ5, c5⟩, zs ++ [⟨γ4, c4, h ++ [z]⟩]) _ _ ⟨by dsimp only; omega, .inr rfl, ?_⟩ (by dsimp only; omega) ?_
    ·dsimp only
     rw [List.map_append, hzs, take_get hz, List.map_append, List.append_assoc]
     rfl
    ·(refine zB ?_; repeat (first | exact zC | exact zD | refine zE (by decide) ?_ | refine zF ?_ ?_ | refine zG ?_ ?_)) <;> (try simp (disch := omega) only [push_cast, go_sem, zA, simprocAttr])
     all_goals simp [RowR.V, rowsV, intsV]
   ·have : j = rs.length := by omega
    subst this
    simp (disch := omega) only [push_cast, go_sem, zA, simprocAttr]
    refine hJ2 (⟨i + 1, e2, γ2, c2⟩, zs) _ _ ⟨by dsimp only; omega, hγ2, ?_⟩ (by dsimp only; omega) ?_
    ·dsimp only
     rw [hzs, List.take_length, take_get hh, List.flatMap_append]
     simp
    ·(refine zB ?_; repeat (first | exact zC | exact zD | refine zE (by decide) ?_ | refine zF ?_ ?_ | refine zG ?_ ?_)) <;> (try simp (disch := omega) only [push_cast, go_sem, zA, simprocAttr])
  ·have : i = (ordersK s.ds k).length := by omega
   subst this
   rw [List.take_length, ← hfk] at hys
   simp (disch := omega) only [push_cast, go_sem, zA, simprocAttr]
   refine hJ (⟨k + 1, e, γ, c⟩, ys.map RowR.V) _ _ ⟨by dsimp only; omega, ?_⟩ (by dsimp only; omega) ?_
   ·dsimp only
    rw [fz_rowsR, hys]
   ·(refine zB ?_; repeat (first | exact zC | exact zD | refine zE (by decide) ?_ | refine zF ?_ ?_ | refine zG ?_ ?_)) <;> (try simp (disch := omega) only [push_cast, go_sem, zA, simprocAttr])
    all_goals simp
 ·have : k = 3 := by omega
  subst this
  refine Sat.of (S := [17]) (by kernel_rfl) ?_
  simp (disch := omega) only [push_cast, go_sem, zA, simprocAttr]
  refine Sat.of (S := []) (by kernel_rfl) ?_
  simp (disch := omega) only [push_cast, go_sem, zA, simprocAttr]
  refine ⟨_, fun _ _ h => h, 2, γ9, c9, e0, vs, rfl, by simp [Mem.set], hvs⟩
end
section
open Go.RowKit
section
variable {P : Program} {M : Mem} {k : V → Mem → Prop} {c : Bool}
theorem runD_row {spec : Table} {fn : FuncId} {args : List V} {d n : Nat} {e : TypeId} {es : List V} (h : spec fn args noM = some fun r m => ∃ γ cap, r = .msl 100 [] γ n cap ∧ m = noM.set 100 (.own e γ cap es))
  (hc : Fc P fn args noM fun r m => ∃ γ cap, r = .msl 100 [] γ n cap ∧ m = noM.set 100 (.own e γ cap es)) (hk : (args.all fun v => v.key.isNone) = true) (h9 : Nat.ble args.length 90 = true) (hchk : c = true)
  (hK : ∀ γ cap, runV (some (True, det (.msl d [] γ n cap) (M.set d (.own e γ cap es)))) k .mk) : runD (callV (specT P spec) fn args (some d) M) false M c k .mk := by
 have hk' : ((args.map V.key).all fun x => x.isNone) = true := by rw [List.all_map]; exact hk
 have hf : footM M (args.map V.key) = noM := by
  funext i
  simp only [footM, noM]
  cases hi : (args.map V.key)[i]? with
  | none => rfl
  | some x =>
   have := List.all_eq_true.1 hk' x (List.mem_of_getElem? hi)
   cases x with
   | none => rfl
   | some _ => cases this
 refine runD_call (F := noM) (R := fun r m => ∃ γ cap, r = .msl 100 [] γ n cap ∧ m = noM.set 100 (.own e γ cap es)) (by rw [renArgs_none hk, hf]; exact h) (by rw [renArgs_none hk]; exact hc) Sub.no (by rw [keys_none hk']; exact List.nodup_nil) (Nat.le_of_ble_eq_true h9) ⟨_, _, none, 0, rfl, rfl⟩ nofun hchk ?_
 rintro r0 r Mf ⟨γ, cap, rfl, rfl⟩ h5
 have e1 : (noM.set 100 (.own e γ cap es)) 100 = some (.own e γ cap es) := rfl
 rw [merge_eq, mg_all_none hk', e1, mgD_some, h5 d rfl]
 exact (runV_det.1 (hK γ cap)).2
end
theorem fz_Exe (x : Exe) : x.V.fz = x.V := by simp only [Exe.V, V.fz, fzs_map, List.map_cons, List.map_nil]
@[push_cast] theorem fzs_Exe (l : List Exe) : (l.map Exe.V).map V.fz = l.map Exe.V := by rw [List.map_map]; exact List.map_congr_left fun d _ => fz_Exe d
@[push_cast] theorem flatL_Exe (l : List Exe) : flatL (l.map Exe.V) = true := by simp [flatL, V.cells, V.flatC, Exe.V]
@[push_cast] theorem okY_Exe (l : List Exe) : okY Tryz.prog 33 (l.map Exe.V) = True := by
 simp only [okY, List.mem_map, eq_iff_iff, iff_true]
 rintro y ⟨d, _, rfl⟩
 exact ⟨by rw [szT_33]; rfl, by simp [Exe.V, V.cells, V.one]⟩
def oneOf (s : Sc) (f : List Int) (o : List (List Int)) : List Exe := if okX s ⟨f, o⟩ then [⟨f, o⟩] else []
def allOf (s : Sc) : List Exe := (fromsOf s.ds).flatMap fun f => (ordersOf s.ds).flatMap fun o => oneOf s f o
theorem flatMap_le {α β : Type} {f : α → List β} {n : Nat} (hf : ∀ a, (f a).length ≤ n) : ∀ l : List α, (l.flatMap f).length ≤ l.length * n
 | [] => by simp
 | a :: l => by have := flatMap_le hf l; have := hf a; simp only [List.flatMap_cons, List.length_append, List.length_cons, Nat.succ_mul]; omega
theorem oneOf_le (s : Sc) (f : List Int) (o : List (List Int)) : (oneOf s f o).length ≤ 1 := by unfold oneOf; split <;> simp
theorem ordersK_in {ds : List Do} : ∀ {k : Nat} {r : List (List Int)} {row : List Int}, r ∈ ordersK ds k → row ∈ r → row.length ≤ ds.length
 | 0, r, row, h, h2 => by simp [ordersK] at h; subst h; cases h2
 | k + 1, r, row, h, h2 => by
  simp only [ordersK, List.mem_flatMap, List.mem_map] at h
  obtain ⟨h0, h1, c, hc, rfl⟩ := h
  simp only [List.mem_append, List.mem_singleton] at h2
  rcases h2 with h2 | rfl
  ·exact ordersK_in h1 h2
  ·unfold permsOf at hc
   rw [perms_row rfl hc]
   exact wrs_le _ _ _
theorem all_fn (s : Sc) (hs : s.ds.length < 2 ^ 20) (he : s.es.length = s.ds.length) (hc : copyOk s.ds) (hw : ∀ k : Nat, k < 3 → (writersOf s.ds k).length ≤ 6) (hB : ∀ k, k ≤ s.ds.length → (fromsK s.ds k).length < 2 ^ 30) (hB2 : ∀ k, k ≤ 3 → (ordersK s.ds k).length < 2 ^ 30)
  (hB3 : (fromsOf s.ds).length * (ordersOf s.ds).length < 2 ^ 30) : Fp Tryz.prog 49 [s.V] (.sl ((allOf s).map Exe.V)) := by
 refine Fc.fzRow (R' := fun r m => ∃ s1 γ cap e es, r = .msl s1 [] γ es.length cap ∧ m s1 = some (.own e γ cap es) ∧ es.map V.fz = (allOf s).map Exe.V) ?_ (fun r m h => h)
 refine Fc.start (S := [19]) Tryz.func49 Tryz.ntmps49 Tryz.results49 rfl (by decide) rfl (by kernel_rfl) ?_
 simp (disch := omega) only [push_cast, go_sem, zA, simprocAttr, Sc.V_eq]
 intro g1
 refine callR.pure (orders_fn s hs hw hB2) rfl rfl ?_
 simp (disch := omega) only [push_cast, go_sem, zA, simprocAttr]
 refine callR.pure (froms_fn s hs hB) rfl rfl ?_
 simp (disch := omega) only [push_cast, go_sem, zA, simprocAttr]
 have hf1 : (fromsOf s.ds).length < 2 ^ 30 := hB _ (Nat.le_refl _)
 have ho1 : (ordersOf s.ds).length < 2 ^ 30 := hB2 _ (Nat.le_refl _)
 refine Sat.loop (σ := EvS × List Exe) (fun x => upd (upd (upd (upd (upd (upd noT 1 (.ptr 1 [] 0 0 g1 3)) 3 (.sl ((ordersOf s.ds).map rowsV))) 15 (.sl ((fromsOf s.ds).map intsV))) 16 (.int .i64 (fromsOf s.ds).length)) 17 (.int .i64 x.1.k)) 4 (.msl 4 [] x.1.γ x.2.length x.1.c)) (fun x => (noM.set 1 (.own 74 (some g1) 1 [.agg [.sl (s.p.map thrV), .sl (s.es.map Evt.V), .sl (s.ds.map Do.V)]])).set 4 (.own x.1.e x.1.γ x.1.c (x.2.map Exe.V)))
  (fun x => x.1.k ≤ (fromsOf s.ds).length ∧ (x.1.γ = none ∨ x.1.e = 33) ∧ x.2 = ((fromsOf s.ds).take x.1.k).flatMap fun f => (ordersOf s.ds).flatMap fun o => oneOf s f o) (fun x => (fromsOf s.ds).length - x.1.k) (⟨0, 0, none, 0⟩, []) (by simp) ?_ ?_
 ·(refine zB ?_; repeat (first | exact zC | exact zD | refine zE (by decide) ?_ | refine zF ?_ ?_ | refine zG ?_ ?_)) <;> (try simp (disch := omega) only [push_cast, go_sem, zA, simprocAttr])
  all_goals rfl
 rintro ⟨⟨i, e, γ, c⟩, ys⟩ ⟨hi, hγ, hys⟩ J hJ
 simp only at hi hγ hys hJ
 refine Sat.of (S := []) (by kernel_rfl) ?_
 rcases Nat.lt_or_ge i (fromsOf s.ds).length with hlt | hge
 ·obtain ⟨f, hf⟩ : ∃ f, (fromsOf s.ds)[i]? = some f := ⟨_, List.getElem?_eq_getElem hlt⟩
  have hfl := fromsK_row (List.mem_of_getElem? hf)
  simp (disch := omega) only [push_cast, go_sem, zA, simprocAttr, hf, hlt, intsV_eq]
  refine Sat.loop (σ := EvS × List Exe) (fun x => upd (upd (upd (upd (upd (upd (upd (upd (upd (upd noT 1 (.ptr 1 [] 0 0 g1 3)) 3 (.sl ((ordersOf s.ds).map rowsV))) 15 (.sl ((fromsOf s.ds).map intsV))) 16 (.int .i64 (fromsOf s.ds).length)) 17 (.int .i64 i)) 6 (.sl (f.map (V.int .i64)))) 21 (.sl ((ordersOf s.ds).map rowsV))) 22 (.int .i64 (ordersOf s.ds).length)) 23 (.int .i64 x.1.k)) 4 (.msl 4 [] x.1.γ x.2.length x.1.c)) (fun x => (noM.set 1 (.own 74 (some g1) 1 [.agg [.sl (s.p.map thrV), .sl (s.es.map Evt.V), .sl (s.ds.map Do.V)]])).set 4 (.own x.1.e x.1.γ x.1.c (x.2.map Exe.V)))
   (fun x => x.1.k ≤ (ordersOf s.ds).length ∧ (x.1.γ = none ∨ x.1.e = 33) ∧ x.2 = (((fromsOf s.ds).take i).flatMap fun f => (ordersOf s.ds).flatMap fun o => oneOf s f o) ++ ((ordersOf s.ds).take x.1.k).flatMap fun o => oneOf s f o) (fun x => (ordersOf s.ds).length - x.1.k) (⟨0, e, γ, c⟩, ys) (by simp [hγ, hys]) ?_ ?_
  ·(refine zB ?_; repeat (first | exact zC | exact zD | refine zE (by decide) ?_ | refine zF ?_ ?_ | refine zG ?_ ?_)) <;> (try simp (disch := omega) only [push_cast, go_sem, zA, simprocAttr])
  rintro ⟨⟨j, e2, γ2, c2⟩, zs⟩ ⟨hj, hγ2, hzs⟩ J2 hJ2
  simp only at hj hγ2 hzs hJ2
  refine Sat.of (S := [15]) (by kernel_rfl) ?_
  rcases Nat.lt_or_ge j (ordersOf s.ds).length with hlt2 | hge2
  ·obtain ⟨o, ho⟩ : ∃ o, (ordersOf s.ds)[j]? = some o := ⟨_, List.getElem?_eq_getElem hlt2⟩
   have hol : o.length = 3 := ordersK_row (List.mem_of_getElem? ho)
   have hoi : ∀ row ∈ o, row.length ≤ s.ds.length := fun row h => ordersK_in (List.mem_of_getElem? ho) h
   simp (disch := omega) only [push_cast, go_sem, zA, simprocAttr, ho, hlt2, rowsV_eq]
   refine callR.row (clone_fn f (by omega)) rfl rfl ?_
   intro γ3 c3
   simp (disch := omega) only [push_cast, go_sem, zA, simprocAttr]
   intro g3
   refine Sat.loop (σ := EvS × List RowI) (fun x => upd (upd (upd (upd (upd (upd (upd (upd (upd (upd (upd (upd (upd (upd noT 1 (.ptr 1 [] 0 0 g1 3)) 3 (.sl ((ordersOf s.ds).map rowsV))) 15 (.sl ((fromsOf s.ds).map intsV))) 16 (.int .i64 (fromsOf s.ds).length)) 17 (.int .i64 i)) 6 (.sl (f.map (V.int .i64)))) 21 (.sl ((ordersOf s.ds).map rowsV))) 22 (.int .i64 (ordersOf s.ds).length)) 23 (.int .i64 j)) 4 (.msl 4 [] γ2 zs.length c2)) 9 (.ptr 9 [] 0 0 g3 2)) 30 (.sl (o.map intsV))) 31 (.int .i64 o.length)) 32 (.int .i64 x.1.k)) (fun x => ((noM.set 1 (.own 74 (some g1) 1 [.agg [.sl (s.p.map thrV), .sl (s.es.map Evt.V), .sl (s.ds.map Do.V)]])).set 4 (.own e2 γ2 c2 (zs.map Exe.V))).set 9 (.own 33 (some g3) 1 [.agg [.own 3 γ3 c3 (f.map (V.int .i64)), .own x.1.e x.1.γ x.1.c (x.2.map RowI.V)]]))
    (fun x => x.1.k ≤ o.length ∧ (x.1.γ = none ∨ x.1.e = 26) ∧ x.2.map RowI.l = o.take x.1.k) (fun x => o.length - x.1.k) (⟨0, 0, none, 0⟩, []) (by simp) ?_ ?_
   ·(refine zB ?_; repeat (first | exact zC | exact zD | refine zE (by decide) ?_ | refine zF ?_ ?_ | refine zG ?_ ?_)) <;> (try simp (disch := omega) only [push_cast, go_sem, zA, simprocAttr])
    all_goals rfl
   rintro ⟨⟨m, e4, γ4, c4⟩, ws⟩ ⟨hm, hγ4, hws⟩ J3 hJ3
   simp only at hm hγ4 hws hJ3
   refine Sat.of (S := []) (by kernel_rfl) ?_
   rcases Nat.lt_or_ge m o.length with hlt3 | hge3
   ·obtain ⟨row, hr⟩ : ∃ row, o[m]? = some row := ⟨_, List.getElem?_eq_getElem hlt3⟩
    have hrl := hoi row (List.mem_of_getElem? hr)
    have hwl : ws.length = m := by have := congrArg List.length hws; rw [List.length_map, List.length_take, Nat.min_eq_left hm] at this; exact this
    have hγ4' : (γ4 = none ∨ e4 = 26) = True := by simp only [hγ4]
    simp (disch := omega) only [push_cast, go_sem, zA, simprocAttr, hr, hlt3, intsV_eq]
    refine Sat.drawnE [(1, 3), (1, 4)] [] [] (fun f' _ _ => if f' = 86 then some fun r m => ∃ γ cap, r = .msl 100 [] γ row.length cap ∧ m = noM.set 100 (.own 3 γ cap (row.map (V.int .i64))) else none) (by kernel_rfl) (by kernel_rfl) ?_
    simp (disch := omega) only [push_cast, go_sem, zA, simprocAttr]
    refine runD_row rfl (clone_fn row (by omega)) rfl rfl ?_ ?_
    ·rfl
    intro γ5 c5
    cases hfl : (V.own 3 γ5 c5 (row.map (V.int .i64))).flatC <;> simp (disch := omega) only [push_cast, go_sem, zA, simprocAttr, hγ4', hfl]
    all_goals
     intro g5
     refine ⟨by omega, fun γ6 c6 _ => ?_⟩
     refine hJ3 (⟨m + 1, 26, γ6, c6⟩, ws ++ [⟨γ5, c5, row⟩]) _ _ ⟨by dsimp only; omega, .inr rfl, ?_⟩ (by dsimp only; omega) ?_
     ·dsimp only
      rw [List.map_append, hws, take_get hr]
      rfl
     ·(refine zB ?_; repeat (first | exact zC | exact zD | refine zE (by decide) ?_ | refine zF ?_ ?_ | refine zG ?_ ?_)) <;> (try simp (disch := omega) only [push_cast, go_sem, zA, simprocAttr])
      all_goals simp [RowI.V]
   ·have : m = o.length := by omega
    subst this
    rw [List.take_length] at hws
    simp (disch := omega) only [push_cast, go_sem, zA, simprocAttr]
    refine Sat.freezeC 9 [] 0 0 (n0 := .own 33 (some g3) 1 [.agg [.own 3 γ3 c3 (f.map (V.int .i64)), .own e4 γ4 c4 (ws.map RowI.V)]]) (d := .own 3 γ3 c3 (f.map (V.int .i64))) rfl rfl rfl ?_
    have e1 : (V.own 3 γ3 c3 (f.map (V.int .i64))).fz = .sl (f.map (V.int .i64)) := by simp only [V.fz, fzs_map, fzs_int]
    have e2' : (V.own e4 γ4 c4 (ws.map RowI.V)).fz = .sl (o.map intsV) := by simp only [V.fz, fzs_map, fz_rowsI, hws]
    rw [e1]
    refine Sat.freezeC 9 [] 0 1 (n0 := .own 33 (some g3) 1 [.agg [.sl (f.map (V.int .i64)), .own e4 γ4 c4 (ws.map RowI.V)]]) (d := .own e4 γ4 c4 (ws.map RowI.V)) rfl rfl rfl ?_
    rw [e2']
    refine Sat.of (S := []) (by kernel_rfl) ?_
    simp (disch := omega) only [push_cast, go_sem, zA, simprocAttr]
    refine callR.pure (ok_fn s ⟨f, o⟩ hs he ⟨by dsimp only; omega, by dsimp only; omega, fun row h => by have := hoi row h; omega⟩ hc) rfl rfl ?_
    cases hok : okX s ⟨f, o⟩
    ·simp (disch := omega) only [push_cast, go_sem, zA, simprocAttr]
     refine hJ2 (⟨j + 1, e2, γ2, c2⟩, zs) _ _ ⟨by dsimp only; omega, hγ2, ?_⟩ (by dsimp only; omega) ?_
     ·dsimp only
      rw [hzs, take_get ho, List.flatMap_append]
      simp [oneOf, hok]
     ·(refine zB ?_; repeat (first | exact zC | exact zD | refine zE (by decide) ?_ | refine zF ?_ ?_ | refine zG ?_ ?_)) <;> (try simp (disch := omega) only [push_cast, go_sem, zA, simprocAttr])
    ·have hγ2' : (γ2 = none ∨ e2 = 33) = True := by simp only [hγ2]
     have hzb : zs.length ≤ i * (ordersOf s.ds).length + j := by
      rw [hzs, List.length_append]
      have k1 := flatMap_le (f := fun f => (ordersOf s.ds).flatMap fun o => oneOf s f o) (n := (ordersOf s.ds).length) (fun f => by have := flatMap_le (oneOf_le s f) (ordersOf s.ds); rw [Nat.mul_one] at this; exact this) ((fromsOf s.ds).take i)
      have k2 := flatMap_le (oneOf_le s f) ((ordersOf s.ds).take j)
      rw [List.length_take, Nat.min_eq_left hi] at k1
      rw [List.length_take, Nat.min_eq_left hj, Nat.mul_one] at k2
      exact Nat.add_le_add k1 k2
     have hm1 : (i + 1) * (ordersOf s.ds).length ≤ (fromsOf s.ds).length * (ordersOf s.ds).length := Nat.mul_le_mul_right _ (by omega)
     rw [Nat.succ_mul] at hm1
     have hzc : zs.length + 1 < 2 ^ 30 + 1 := by generalize i * (ordersOf s.ds).length = A at *; generalize (fromsOf s.ds).length * (ordersOf s.ds).length = B at *; omega
     simp (disch := omega) only [push_cast, go_sem, zA, simprocAttr, hγ2', Exe.V_eq]
     intro g5
     refine ⟨by omega, fun γ5 c5 _ => ?_⟩
     refine hJ2 (⟨j + 1, 33, γ5, c5⟩, zs ++ [⟨f, o⟩]) _ _ ⟨by dsimp only; omega, .inr rfl, ?_⟩ (by dsimp only; omega) ?_
     ·dsimp only
      rw [hzs, take_get ho, List.flatMap_append, List.append_assoc]
      simp [oneOf, hok]
     ·(refine zB ?_; repeat (first | exact zC | exact zD | refine zE (by decide) ?_ | refine zF ?_ ?_ | refine zG ?_ ?_)) <;> (try simp (disch := omega) only [push_cast, go_sem, zA, simprocAttr])
      all_goals simp [Exe.V]
  ·have : j = (ordersOf s.ds).length := by omega
   subst this
   simp (disch := omega) only [push_cast, go_sem, zA, simprocAttr]
   refine hJ (⟨i + 1, e2, γ2, c2⟩, zs) _ _ ⟨by dsimp only; omega, hγ2, ?_⟩ (by dsimp only; omega) ?_
   ·dsimp only
    rw [hzs, List.take_length, take_get hf, List.flatMap_append]
    simp
   ·(refine zB ?_; repeat (first | exact zC | exact zD | refine zE (by decide) ?_ | refine zF ?_ ?_ | refine zG ?_ ?_)) <;> (try simp (disch := omega) only [push_cast, go_sem, zA, simprocAttr])
 ·have : i = (fromsOf s.ds).length := by omega
  subst this
  rw [List.take_length] at hys
  simp (disch := omega) only [push_cast, go_sem, zA, simprocAttr]
  refine Sat.of (S := []) (by kernel_rfl) ?_
  simp (disch := omega) only [push_cast, go_sem, zA, simprocAttr]
  refine ⟨_, fun _ _ h => h, 2, γ, c, e, ys.map Exe.V, by rw [List.length_map], by simp [Mem.set], ?_⟩
  rw [fzs_Exe, hys]; rfl
end
section
open Go.RowKit
def usN (ds : List Do) : Nat := (ds.filter Do.uses).length
def wrN (ds : List Do) (pl : Int) : Nat := (ds.filter fun d => d.writes && d.p == pl).length
def rdN (ds : List Do) : Nat := (ds.filter Do.reads).length
theorem usN_app (a b : List Do) : usN (a ++ b) = usN a + usN b := by simp [usN]
theorem usN_evsOf {p : Prog} {t k : Nat} {l : List Do} {d : Do} (hl : p[t]? = some l) (hd : l[k]? = some d) : usN ((evsOf t k d).map (stepAt p)) = usN [d] := by
 have e : ∀ b, stepAt p ⟨t, k, b⟩ = d := fun b => by simp [stepAt, hl, hd]
 unfold evsOf
 split
 ·rename_i h
  have h9 : d.k = 9 := by simpa using h
  have : d.uses = false := by simp [Do.uses, Do.reads, Do.writes, h9]
  simp [e, usN, this]
 ·simp [e]
theorem usN_evThr {p : Prog} {t : Nat} {l : List Do} (hl : p[t]? = some l) : ∀ k, k ≤ l.length → usN ((evThr t l k).map (stepAt p)) = usN (l.take k)
 | 0, _ => by simp [evThr]
 | k + 1, h => by
  have hd : l[k]? = some l[k] := List.getElem?_eq_getElem (by omega)
  rw [evThr, hd, List.map_append, usN_app, usN_evThr hl k (by omega), take_get hd, usN_app]
  dsimp only
  rw [usN_evsOf hl hd]
theorem usesP_app (a b : Prog) : usesP (a ++ b) = usesP a + usesP b := by
 induction a with
 | nil => simp [usesP]
 | cons x a ih => simp only [List.cons_append, usesP, List.map_cons, List.sum_cons] at ih ⊢; omega
theorem usN_evPro {p : Prog} : ∀ i, i ≤ p.length → usN ((evPro p i).map (stepAt p)) = usesP (p.take i)
 | 0, _ => by simp [evPro, usN, usesP]
 | i + 1, h => by
  have hl : p[i]? = some p[i] := List.getElem?_eq_getElem (by omega)
  rw [evPro, hl, List.map_append, usN_app, usN_evPro i (by omega), take_get hl, usesP_app]
  dsimp only
  rw [usN_evThr hl _ (Nat.le_refl _), List.take_length]
  simp [usesP, usesOf, usN]
theorem scene_uses {p : Prog} (h : progOk p = true) : usN (scene p).ds ≤ 6 := by
 simp only [progOk, Bool.and_eq_true, decide_eq_true_eq] at h
 have := usN_evPro (p := p) p.length (Nat.le_refl _)
 rw [List.take_length] at this
 simp only [scene, events]
 omega
theorem wrs_len {ds : List Do} {pl : Int} : ∀ k, k ≤ ds.length → (wrs ds pl k).length = wrN (ds.take k) pl
 | 0, _ => by simp [wrs, wrN]
 | k + 1, h => by
  have hd : ds[k]? = some ds[k] := List.getElem?_eq_getElem (by omega)
  rw [wrs, hd, List.length_append, wrs_len k (by omega), take_get hd]
  simp only [wrN, List.filter_append, List.length_append, List.filter_cons, List.filter_nil]
  split <;> simp
theorem count_le (ds : List Do) : wrN ds 0 + wrN ds 1 + wrN ds 2 + rdN ds ≤ usN ds := by
 induction ds with
 | nil => simp [wrN, rdN, usN]
 | cons d ds ih =>
  have e : ∀ (f : Do → Bool), ((d :: ds).filter f).length = (if f d then 1 else 0) + (ds.filter f).length := fun f => by rw [List.filter_cons]; split <;> simp [Nat.add_comm]
  simp only [wrN, rdN, usN, e] at ih ⊢
  have key : (if d.writes && d.p == 0 then 1 else 0) + (if d.writes && d.p == 1 then 1 else 0) + (if d.writes && d.p == 2 then 1 else 0) + (if d.reads then 1 else 0) ≤ (if d.uses then 1 else 0) := by
   cases hw : d.writes
   ·cases hr : d.reads <;> simp [Do.uses, hw, hr]
   ·have hr : d.reads = false := by
     revert hw
     simp only [Do.reads, Do.writes, Bool.or_eq_true, beq_iff_eq, Bool.or_eq_false_iff, beq_eq_false_iff_ne]
     omega
    by_cases h0 : d.p = 0
    ·simp [Do.uses, hw, hr, h0]
    ·by_cases h1 : d.p = 1
     ·simp [Do.uses, hw, hr, h1]
     ·by_cases h2 : d.p = 2
      ·simp [Do.uses, hw, hr, h2]
      ·simp [Do.uses, hw, hr, h0, h1, h2]
  omega
structure Few (ds : List Do) : Prop where
 n : wrN ds 0 + wrN ds 1 + wrN ds 2 + rdN ds ≤ 6
theorem writers_len (ds : List Do) (pl : Int) : (writersOf ds pl).length = wrN ds pl := by
 have := wrs_len (ds := ds) (pl := pl) ds.length (Nat.le_refl _)
 rwa [List.take_length] at this
theorem Few.wr {ds : List Do} (h : Few ds) : ∀ k : Nat, k < 3 → (writersOf ds k).length ≤ 6 := by
 intro k hk
 rw [writers_len]
 have := h.n
 obtain rfl | rfl | rfl : k = 0 ∨ k = 1 ∨ k = 2 := by omega
 all_goals simp only [Int.cast_ofNat_Int, Int.natCast_zero, Int.natCast_one] at *; omega
theorem wrN_any {ds : List Do} (h : usN ds ≤ 6) (pl : Int) : wrN ds pl ≤ 6 := by
 have : wrN ds pl ≤ usN ds := by
  simp only [wrN, usN]
  rw [← List.countP_eq_length_filter, ← List.countP_eq_length_filter]
  refine List.countP_mono_left fun d _ hd => ?_
  simp only [Bool.and_eq_true] at hd
  simp [Do.uses, hd.1]
 omega
theorem fromsK_len {ds : List Do} (h : usN ds ≤ 6) : ∀ k, k ≤ ds.length → (fromsK ds k).length ≤ 7 ^ rdN (ds.take k)
 | 0, _ => by simp [fromsK, rdN]
 | k + 1, hk => by
  have hd : ds[k]? = some ds[k] := List.getElem?_eq_getElem (by omega)
  have ih := fromsK_len h k (by omega)
  rw [fromsK, hd, take_get hd]
  dsimp only
  rw [flatMap_len (n := (choicesOf ds ds[k]).length) (by simp)]
  have hr : rdN (ds.take k ++ [ds[k]]) = rdN (ds.take k) + (if ds[k].reads then 1 else 0) := by
   simp only [rdN, List.filter_append, List.length_append, List.filter_cons, List.filter_nil]
   split <;> simp
  rw [hr]
  unfold choicesOf
  split
  ·rw [Nat.pow_succ]
   refine Nat.mul_le_mul ih ?_
   rw [List.length_cons, writers_len]
   have := wrN_any h ds[k].p
   omega
  ·simpa using ih
theorem rdN_le {ds : List Do} (h : usN ds ≤ 6) (k : Nat) : rdN (ds.take k) ≤ 6 := by
 have h1 : rdN (ds.take k) ≤ usN ds := by
  simp only [rdN, usN]
  rw [← List.countP_eq_length_filter, ← List.countP_eq_length_filter]
  refine Nat.le_trans (List.countP_mono_left (q := Do.uses) fun d _ hd => ?_) (List.Sublist.countP_le (List.take_sublist k ds))
  simp [Do.uses, hd]
 omega
theorem froms_le {ds : List Do} (h : usN ds ≤ 6) : ∀ k, k ≤ ds.length → (fromsK ds k).length ≤ 117649 := fun k hk =>
 Nat.le_trans (fromsK_len h k hk) (Nat.le_trans (Nat.pow_le_pow_right (by decide) (rdN_le h k)) (by decide))
theorem fac3f : ∀ a b c : _root_.Fin 7, a.1 + b.1 + c.1 ≤ 6 → 1 * fac a.1 ≤ 720 ∧ 1 * fac a.1 * fac b.1 ≤ 720 ∧ 1 * fac a.1 * fac b.1 * fac c.1 ≤ 720 := by decide
theorem fac3 (a : Nat) (ha : a < 7) (b : Nat) (hb : b < 7) (c : Nat) (hc : c < 7) (h : a + b + c ≤ 6) : 1 * fac a ≤ 720 ∧ 1 * fac a * fac b ≤ 720 ∧ 1 * fac a * fac b * fac c ≤ 720 := fac3f ⟨a, ha⟩ ⟨b, hb⟩ ⟨c, hc⟩ h
theorem orders_le {ds : List Do} (h : usN ds ≤ 6) : ∀ k, k ≤ 3 → (ordersK ds k).length ≤ 720 := by
 have hc := count_le ds
 have step : ∀ k : Nat, (ordersK ds (k + 1)).length = (ordersK ds k).length * fac (wrN ds k) := fun k => by
  rw [ordersK, flatMap_len (n := (permsOf (writersOf ds k)).length) (by simp)]
  unfold permsOf
  rw [perms_len rfl, writers_len]
 have h0 : (ordersK ds 0).length = 1 := rfl
 have h1 := step 0
 have h2 := step 1
 have h3 := step 2
 rw [h0] at h1
 simp only [Nat.zero_add, Nat.reduceAdd, Int.cast_ofNat_Int, Int.natCast_zero, Int.natCast_one] at h1 h2 h3
 rw [h1] at h2
 rw [h2] at h3
 obtain ⟨k1, k2, k3⟩ := fac3 (wrN ds 0) (by omega) (wrN ds 1) (by omega) (wrN ds 2) (by omega) (by omega)
 intro k hk
 obtain rfl | rfl | rfl | rfl : k = 0 ∨ k = 1 ∨ k = 2 ∨ k = 3 := by omega
 ·rw [h0]; omega
 ·rw [h1]; exact k1
 ·rw [h2]; exact k2
 ·rw [h3]; exact k3
def execAll (p : Prog) : List Exe := if progOk p then allOf (scene p) else []
end
section
open Go.RowKit
def evIn (p : Prog) (e : Evt) : Prop := ∃ (i : Nat) (l : List Do) (j : Nat) (d : Do), p[i]? = some l ∧ l[j]? = some d ∧ e.t = i ∧ e.s = j
theorem evIn_of {p : Prog} {e : Evt} (h : e ∈ events p) : evIn p e := by
 obtain ⟨i, l, j, d, h1, h2, h3, h4, _⟩ := mem_events h
 exact ⟨i, l, j, d, h1, h2, h3, h4⟩
theorem l12Do_fn (p : Prog) (e : Evt) (he : evIn p e) : Fp Tryz.prog 118 [progV p, e.V] (stepAt p e).V := by
 obtain ⟨i, l, j, d, hl, hd, h1, h2⟩ := he
 have hst : stepAt p e = d := by simp [stepAt, h1, h2, hl, hd]
 have hil := (List.getElem?_eq_some_iff.1 hl).1
 have hjl := (List.getElem?_eq_some_iff.1 hd).1
 rw [hst]
 refine Fc.start (S := []) Tryz.func118 Tryz.ntmps118 Tryz.results118 rfl (by decide) rfl (by kernel_rfl) ?_
 simp (disch := omega) only [push_cast, go_sem, zA, simprocAttr, progV_eq, Evt.V_eq]
 intro g1 g2 g3
 refine Sat.drawnE [] [] [1, 3, 5, 7, 9] (fun _ _ _ => none) (by kernel_rfl) (by kernel_rfl) ?_
 simp (disch := omega) only [push_cast, go_sem, zA, simprocAttr, h1, h2, hl, hd, hil, hjl, thrV_eq, Do.V_eq]
theorem scene_get {p : Prog} {k : Nat} {e : Evt} (h : (events p)[k]? = some e) : (scene p).ds[k]? = some (stepAt p e) := by simp [scene, h]
theorem l12Writes_fn (p : Prog) (pl : Int) (hn : (events p).length ≤ 42) : Fp Tryz.prog 119 [progV p, .sl ((events p).map Evt.V), .int .i64 pl] (intsV (writersOf (scene p).ds pl)) := by
 have hsl : (scene p).ds.length = (events p).length := by simp [scene]
 refine (Fc.fzRow (R' := fun r m => ∃ s1 γ cap e es, r = .msl s1 [] γ es.length cap ∧ m s1 = some (.own e γ cap es) ∧ es.map V.fz = (writersOf (scene p).ds pl).map (V.int .i64)) ?_ (fun r m h => h))
 refine Fc.start (S := [8]) Tryz.func119 Tryz.ntmps119 Tryz.results119 rfl (by decide) rfl (by kernel_rfl) ?_
 simp (disch := omega) only [push_cast, go_sem, zA, simprocAttr, progV_eq]
 intro g1 g2
 refine Sat.loop (σ := EvS) (fun x => upd (upd (upd (upd (upd noT 3 (.ptr 3 [] 0 0 g1 1)) 1 (.sl ((events p).map Evt.V))) 2 (.int .i64 pl)) 7 (.msl 7 [] x.γ (wrs (scene p).ds pl x.k).length x.c)) 8 (.int .i64 x.k))
  (fun x => (noM.set 3 (.own 25 (some g1) 1 [.agg [.sl (p.map thrV)]])).set 7 (.own x.e x.γ x.c ((wrs (scene p).ds pl x.k).map (V.int .i64))))
  (fun x => x.k ≤ (events p).length ∧ (x.γ = none ∨ x.e = 3)) (fun x => (events p).length - x.k) ⟨0, 3, some g2, 0⟩ (by simp) ?_ ?_
 ·(refine zB ?_; repeat (first | exact zC | exact zD | refine zE (by decide) ?_ | refine zF ?_ ?_ | refine zG ?_ ?_)) <;> (try simp (disch := omega) only [push_cast, go_sem, zA, simprocAttr])
  all_goals rfl
 rintro ⟨k, e, γ, c⟩ ⟨hk, hγ⟩ J hJ
 refine Sat.of (S := []) (by kernel_rfl) ?_
 simp only at hk hγ hJ
 have hb := wrs_le (scene p).ds pl k
 rcases Nat.lt_or_ge k (events p).length with hlt | hge
 ·obtain ⟨ev, he⟩ : ∃ d, (events p)[k]? = some d := ⟨_, List.getElem?_eq_getElem hlt⟩
  obtain ⟨d, hst⟩ : ∃ d, stepAt p ev = d := ⟨_, rfl⟩
  have hd := scene_get he
  have hdo := l12Do_fn p ev (evIn_of (List.mem_of_getElem? he))
  rw [hst] at hd hdo
  have hγ' : (γ = none ∨ e = 3) = True := by simp only [hγ]
  have hn1 : k + 1 ≤ (events p).length := by omega
  have hm : (events p).length - (k + 1) < (events p).length - k := by omega
  have same : (d.writes && d.p == pl) = false → wrs (scene p).ds pl (k + 1) = wrs (scene p).ds pl k := fun h => by simp only [wrs, hd, h]; simp
  simp (disch := omega) only [push_cast, go_sem, zA, simprocAttr, he, hlt, Evt.V_eq]
  refine Sat.drawnE [(0, 6), (4, 6), (5, 6)] [] [0, 4, 5] (pureT [(118, d.V)]) (by kernel_rfl) (by kernel_rfl) ?_
  simp (disch := omega) only [push_cast, go_sem, zA, simprocAttr, he, hlt, Evt.V_eq]
  refine runD_pure rfl hdo rfl rfl ?_ ?_
  ·rfl
  simp (disch := omega) only [push_cast, go_sem, zA, simprocAttr, Do.V_eq]
  intro g3
  refine callR.pure (l1Writes_fn d) rfl rfl ?_
  cases hw : d.writes
  ·simp (disch := omega) only [push_cast, go_sem, zA, simprocAttr]
   refine hJ ⟨k + 1, e, γ, c⟩ _ _ ⟨hn1, hγ⟩ hm ?_
   (refine zB ?_; repeat (first | exact zC | exact zD | refine zE (by decide) ?_ | refine zF ?_ ?_ | refine zG ?_ ?_)) <;> (try simp (disch := omega) only [push_cast, go_sem, zA, simprocAttr])
   all_goals rw [same (by rw [hw]; rfl)]
  ·cases hp : (d.p == pl)
   ·simp (disch := omega) only [push_cast, go_sem, zA, simprocAttr, hp]
    refine hJ ⟨k + 1, e, γ, c⟩ _ _ ⟨hn1, hγ⟩ hm ?_
    (refine zB ?_; repeat (first | exact zC | exact zD | refine zE (by decide) ?_ | refine zF ?_ ?_ | refine zG ?_ ?_)) <;> (try simp (disch := omega) only [push_cast, go_sem, zA, simprocAttr])
    all_goals rw [same (by rw [hw, hp]; rfl)]
   ·simp (disch := omega) only [push_cast, go_sem, zA, simprocAttr, hp, hγ']
    intro g4
    refine ⟨by omega, fun γ2 c2 _ => ?_⟩
    refine hJ ⟨k + 1, 3, γ2, c2⟩ _ _ ⟨hn1, .inr rfl⟩ hm ?_
    (refine zB ?_; repeat (first | exact zC | exact zD | refine zE (by decide) ?_ | refine zF ?_ ?_ | refine zG ?_ ?_)) <;> (try simp (disch := omega) only [push_cast, go_sem, zA, simprocAttr])
    all_goals simp [wrs, hd, hw, hp]
 ·have : k = (events p).length := by omega
  subst this
  simp (disch := omega) only [push_cast, go_sem, zA, simprocAttr]
  refine Sat.of (S := []) (by kernel_rfl) ?_
  simp (disch := omega) only [push_cast, go_sem, zA, simprocAttr]
  refine ⟨_, fun _ _ h => h, 6, γ, c, e, (wrs (scene p).ds pl (events p).length).map (V.int .i64), by rw [List.length_map], by simp [Mem.set], ?_⟩
  rw [fzs_int, ← hsl]; rfl
def srcOf (es : List Evt) (ds : List Do) (i : Nat) : Nat → Int
 | 0 => -1
 | k + 1 => if (es[k]?.getD default).t == (es[i]?.getD default).t && (ds[k]?.getD default).reads then (k : Int) else srcOf es ds i k
theorem l12Source_fn (p : Prog) (i : Nat) (hn : (events p).length ≤ 42) (hi : i < (events p).length) : Fp Tryz.prog 150 [progV p, .sl ((events p).map Evt.V), .int .i64 i] (.int .i64 (srcOf (events p) (scene p).ds i i)) := by
 obtain ⟨ei, hei⟩ : ∃ e, (events p)[i]? = some e := ⟨_, List.getElem?_eq_getElem hi⟩
 refine Fc.start (S := [6]) Tryz.func150 Tryz.ntmps150 Tryz.results150 rfl (by decide) rfl (by kernel_rfl) ?_
 simp (disch := omega) only [push_cast, go_sem, zA, simprocAttr, progV_eq]
 intro g1
 refine Sat.loop (σ := Nat) (fun k => upd (upd (upd (upd noT 3 (.ptr 3 [] 0 0 g1 1)) 1 (.sl ((events p).map Evt.V))) 2 (.int .i64 i)) 7 (.int .i64 ((k : Int) - 1))) (fun _ => noM.set 3 (.own 25 (some g1) 1 [.agg [.sl (p.map thrV)]]))
  (fun k => k ≤ i ∧ srcOf (events p) (scene p).ds i i = srcOf (events p) (scene p).ds i k) (fun k => k) i (by simp) ?_ ?_
 ·(refine zB ?_; repeat (first | exact zC | exact zD | refine zE (by decide) ?_ | refine zF ?_ ?_ | refine zG ?_ ?_)) <;> (try simp (disch := omega) only [push_cast, go_sem, zA, simprocAttr])
  all_goals rfl
 rintro k ⟨hk, hs⟩ J hJ
 refine Sat.of (S := []) (by kernel_rfl) ?_
 cases k with
 | zero =>
  simp (disch := omega) only [push_cast, go_sem, zA, simprocAttr]
  refine Sat.of (S := []) (by kernel_rfl) ?_
  simp (disch := omega) only [push_cast, go_sem, zA, simprocAttr]
  rw [hs]; rfl
 | succ k =>
  obtain ⟨ek, hek⟩ : ∃ e, (events p)[k]? = some e := ⟨_, List.getElem?_eq_getElem (by omega)⟩
  have hdo := l12Do_fn p ek (evIn_of (List.mem_of_getElem? hek))
  have hk1 : (((k + 1 : Nat) : Int) - 1) = (k : Int) := by omega
  have hkl : k < (events p).length := by omega
  have hg := scene_get hek
  have hs' : srcOf (events p) (scene p).ds i (k + 1) = if ek.t == ei.t && (stepAt p ek).reads then (k : Int) else srcOf (events p) (scene p).ds i k := by
   rw [srcOf, hek, hei, hg]; rfl
  rw [hk1]
  simp (disch := omega) only [push_cast, go_sem, zA, simprocAttr, hek, hkl, hei, hi, Evt.V_eq]
  cases ht : (ek.t == ei.t)
  ·refine Sat.drawnE [] [] [4, 9, 12, 16, 17, 18] (pureT [(118, (stepAt p ek).V), (72, .bool (stepAt p ek).reads)]) (by kernel_rfl) (by kernel_rfl) ?_
   simp (disch := omega) only [push_cast, go_sem, zA, simprocAttr, hek, hkl, hei, hi, Evt.V_eq, ht]
   refine hJ k _ _ ⟨by omega, by rw [hs, hs', ht]; rfl⟩ (by omega) ?_
   (refine zB ?_; repeat (first | exact zC | exact zD | refine zE (by decide) ?_ | refine zF ?_ ?_ | refine zG ?_ ?_)) <;> (try simp (disch := omega) only [push_cast, go_sem, zA, simprocAttr])
  ·refine Sat.drawnE [] [] [4, 9, 12, 16, 17, 18] (pureT [(118, (stepAt p ek).V), (72, .bool (stepAt p ek).reads)]) (by kernel_rfl) (by kernel_rfl) ?_
   simp (disch := omega) only [push_cast, go_sem, zA, simprocAttr, hek, hkl, hei, hi, Evt.V_eq, ht]
   refine runD_pure rfl hdo rfl rfl ?_ ?_
   ·rfl
   simp (disch := omega) only [push_cast, go_sem, zA, simprocAttr]
   refine runD_pure rfl (l1Reads_fn (stepAt p ek)) rfl rfl ?_ ?_
   ·rfl
   cases hr : (stepAt p ek).reads
   ·simp (disch := omega) only [push_cast, go_sem, zA, simprocAttr]
    refine hJ k _ _ ⟨by omega, by rw [hs, hs', hr, Bool.and_false]; rfl⟩ (by omega) ?_
    (refine zB ?_; repeat (first | exact zC | exact zD | refine zE (by decide) ?_ | refine zF ?_ ?_ | refine zG ?_ ?_)) <;> (try simp (disch := omega) only [push_cast, go_sem, zA, simprocAttr])
   ·simp (disch := omega) only [push_cast, go_sem, zA, simprocAttr]
    rw [hs, hs', ht, hr]; rfl
end
section
open Go.RowKit
theorem specExecEvents_fn (p : Prog) (hp : p.length < 2 ^ 40) : Fp Tryz.prog 75 [progV p] (.sl ((if progOk p then events p else []).map Evt.V)) := by
 refine (Fc.fzRow (R' := fun r m => ∃ s1 γ cap e es, r = .msl s1 [] γ es.length cap ∧ m s1 = some (.own e γ cap es) ∧ es.map V.fz = (if progOk p then events p else []).map Evt.V) ?_ (fun r m h => h))
 cases hok : progOk p
 ·refine Fc.start (S := []) Tryz.func75 Tryz.ntmps75 Tryz.results75 rfl (by decide) rfl (by kernel_rfl) ?_
  simp (disch := omega) only [push_cast, go_sem, zA, simprocAttr, progV_eq]
  intro g1 g2
  refine callR.pure (specProgOk_fn p hp) rfl rfl ?_
  simp (disch := omega) only [push_cast, go_sem, zA, simprocAttr, hok]
  exact ⟨_, fun _ _ h => h, 2, some g2, 0, 87, [], rfl, by simp [Mem.set], rfl⟩
 have hok' := hok
 simp only [progOk, Bool.and_eq_true, decide_eq_true_eq, List.all_eq_true] at hok'
 obtain ⟨⟨⟨hp3, hth⟩, _⟩, _⟩ := hok'
 have h7 : ∀ l ∈ p, l.length ≤ 7 := fun l h => threadOk_le (hth l h)
 refine Fc.start (S := [13]) Tryz.func75 Tryz.ntmps75 Tryz.results75 rfl (by decide) rfl (by kernel_rfl) ?_
 simp (disch := omega) only [push_cast, go_sem, zA, simprocAttr, progV_eq]
 intro g g2
 refine callR.pure (specProgOk_fn p hp) rfl rfl ?_
 simp (disch := omega) only [push_cast, go_sem, zA, simprocAttr, hok]
 refine Sat.loop (σ := EvS) (fun x => upd (upd (upd noT 1 (.ptr 1 [] 0 0 g 1)) 4 (.int .i64 x.k)) 3 (.msl 3 [] x.γ (evPro p x.k).length x.c))
  (fun x => (noM.set 1 (.own 25 (some g) 1 [.agg [.sl (p.map thrV)]])).set 3 (.own x.e x.γ x.c ((evPro p x.k).map Evt.V)))
  (fun x => x.k ≤ p.length ∧ (x.γ = none ∨ x.e = 87)) (fun x => p.length - x.k) ⟨0, 87, some g2, 0⟩ (by simp) ?_ ?_
 ·(refine zB ?_; repeat (first | exact zC | exact zD | refine zE (by decide) ?_ | refine zF ?_ ?_ | refine zG ?_ ?_)) <;> (try simp (disch := omega) only [push_cast, go_sem, zA, simprocAttr])
  all_goals rfl
 rintro ⟨i, e, γ, c⟩ ⟨hi, hγ⟩ J hJ
 refine Sat.of (S := [1001]) (by kernel_rfl) ?_
 simp only at hi hγ hJ
 have hb := evPro_le p h7 i
 rcases Nat.lt_or_ge i p.length with hlt | hge
 ·obtain ⟨l, he⟩ : ∃ l, p[i]? = some l := ⟨_, List.getElem?_eq_getElem hlt⟩
  have hl7 := h7 l (List.mem_of_getElem? he)
  simp (disch := omega) only [push_cast, go_sem, zA, simprocAttr, he, hlt, thrV_eq]
  have T2 : ∀ k, k ≤ l.length → (evPro p i ++ evThr i l k).length ≤ 60 := by
   intro k hk
   have := evThr_le i l k
   rw [List.length_append]; omega
  refine Sat.cut (σ := Rw) [] (fun x => upd (upd (upd noT 1 (.ptr 1 [] 0 0 g 1)) 4 (.int .i64 i)) 3 (.msl 3 [] x.γ (evPro p (i + 1)).length x.c))
   (fun x => (noM.set 1 (.own 25 (some g) 1 [.agg [.sl (p.map thrV)]])).set 3 (.own x.e x.γ x.c ((evPro p (i + 1)).map Evt.V))) (fun x => x.γ = none ∨ x.e = 87) (by kernel_rfl) ?_ ?_
  ·simp (disch := omega) only [push_cast, go_sem, zA, simprocAttr, he, hlt, thrV_eq]
   refine Sat.loop (σ := EvS) (fun x => upd (upd (upd (upd noT 1 (.ptr 1 [] 0 0 g 1)) 4 (.int .i64 i)) 5 (.int .i64 x.k)) 3 (.msl 3 [] x.γ (evPro p i ++ evThr i l x.k).length x.c))
    (fun x => (noM.set 1 (.own 25 (some g) 1 [.agg [.sl (p.map thrV)]])).set 3 (.own x.e x.γ x.c ((evPro p i ++ evThr i l x.k).map Evt.V)))
    (fun x => x.k ≤ l.length ∧ (x.γ = none ∨ x.e = 87)) (fun x => l.length - x.k) ⟨0, e, γ, c⟩ (by simp [hγ]) ?_ ?_
   ·(refine zB ?_; repeat (first | exact zC | exact zD | refine zE (by decide) ?_ | refine zF ?_ ?_ | refine zG ?_ ?_)) <;> (try simp (disch := omega) only [push_cast, go_sem, zA, simprocAttr])
    all_goals simp [evThr]
   rintro ⟨k, e2, γ2, c2⟩ ⟨hk, hγ2⟩ J2 hJ2
   refine Sat.of (S := []) (by kernel_rfl) ?_
   simp only at hk hγ2 hJ2
   have hb2 := T2 k hk
   rcases Nat.lt_or_ge k l.length with hkl | hkg
   ·obtain ⟨d, hd⟩ : ∃ d, l[k]? = some d := ⟨_, List.getElem?_eq_getElem hkl⟩
    have hγ2' : (γ2 = none ∨ e2 = 87) = True := by simp only [hγ2]
    simp (disch := omega) only [push_cast, go_sem, zA, simprocAttr, he, hlt, thrV_eq, hd, hkl, Do.V_eq, hγ2']
    rw [List.length_append] at hb2
    have hn : k + 1 ≤ l.length := by omega
    have hm : l.length - (k + 1) < l.length - k := by omega
    intro g3
    refine ⟨by omega, fun γ3 c3 _ => ⟨fun h9 g5 => ⟨by omega, fun γ4 c4 _ => ?_⟩, fun h9 => ?_⟩⟩
    ·refine hJ2 ⟨k + 1, 87, γ4, c4⟩ _ _ ⟨hn, .inr rfl⟩ hm ?_
     (refine zB ?_; repeat (first | exact zC | exact zD | refine zE (by decide) ?_ | refine zF ?_ ?_ | refine zG ?_ ?_)) <;> (try simp (disch := omega) only [push_cast, go_sem, zA, simprocAttr])
     all_goals simp [evThr, hd, evsOf, h9, Evt.V, Nat.add_assoc]
    ·refine hJ2 ⟨k + 1, 87, γ3, c3⟩ _ _ ⟨hn, .inr rfl⟩ hm ?_
     (refine zB ?_; repeat (first | exact zC | exact zD | refine zE (by decide) ?_ | refine zF ?_ ?_ | refine zG ?_ ?_)) <;> (try simp (disch := omega) only [push_cast, go_sem, zA, simprocAttr])
     all_goals simp [evThr, hd, evsOf, h9, Evt.V, Nat.add_assoc]
   ·have : k = l.length := by omega
    subst this
    simp (disch := omega) only [push_cast, go_sem, zA, simprocAttr, he, hlt, thrV_eq]
    refine ⟨⟨e2, γ2, c2⟩, hγ2, ?_⟩
    (refine zB ?_; repeat (first | exact zC | exact zD | refine zE (by decide) ?_ | refine zF ?_ ?_ | refine zG ?_ ?_)) <;> (try simp (disch := omega) only [push_cast, go_sem, zA, simprocAttr])
    all_goals simp [evPro, he, Nat.add_assoc]
  rintro ⟨e2, γ2, c2⟩ hγ2
  refine Sat.of (S := []) (by kernel_rfl) ?_
  simp only at hγ2
  simp (disch := omega) only [push_cast, go_sem, zA, simprocAttr]
  refine hJ ⟨i + 1, e2, γ2, c2⟩ _ _ ⟨by simp only; omega, hγ2⟩ (by simp only; omega) ?_
  (refine zB ?_; repeat (first | exact zC | exact zD | refine zE (by decide) ?_ | refine zF ?_ ?_ | refine zG ?_ ?_)) <;> (try simp (disch := omega) only [push_cast, go_sem, zA, simprocAttr])
 ·have : i = p.length := by omega
  subst this
  simp (disch := omega) only [push_cast, go_sem, zA, simprocAttr]
  refine Sat.of (S := []) (by kernel_rfl) ?_
  simp (disch := omega) only [push_cast, go_sem, zA, simprocAttr]
  refine ⟨_, fun _ _ h => h, 2, γ, c, e, (events p).map Evt.V, by rw [List.length_map]; rfl, by simp [Mem.set, events], ?_⟩
  rw [fzs_Evt]
end
section
open Go.RowKit
def valS (es : List Evt) (ds : List Do) (fr : List Int) : Nat → Int → Int
 | 0, i => if i < 0 then 0 else -1
 | m + 1, i => if i < 0 then 0 else match ds[i.toNat]? with
  | none => 0
  | some d => if d.reads then valS es ds fr m (fr[i.toNat]?.getD 0) else if d.k == 3 then valS es ds fr m (srcOf es ds i.toNat i.toNat) else d.v
theorem srcOf_lt {es : List Evt} {ds : List Do} {i : Nat} : ∀ k, srcOf es ds i k < (k : Int) ∧ -1 ≤ srcOf es ds i k
 | 0 => by simp [srcOf]
 | k + 1 => by
  rw [srcOf]
  split
  ·omega
  ·have := srcOf_lt (es := es) (ds := ds) (i := i) k; omega
theorem l12Val_fn (p : Prog) (x : Exe) (hn : (events p).length ≤ 42) (hfl : x.fr.length = (events p).length) (hfr : ∀ f ∈ x.fr, f < (events p).length) : ∀ (m : Nat) (i : Int), m < 2 ^ 20 → i < (events p).length →
  Fp Tryz.prog 121 [progV p, .sl ((events p).map Evt.V), x.V, .int .i64 i, .int .i64 m] (.int .i64 (valS (events p) (scene p).ds x.fr m i)) := by
 intro m
 induction m with
 | zero =>
  intro i _ hi
  by_cases h0 : i < 0
  ·refine Fc.start (S := []) Tryz.func121 Tryz.ntmps121 Tryz.results121 rfl (by decide) rfl (by kernel_rfl) ?_
   simp (disch := omega) only [push_cast, go_sem, zA, simprocAttr, progV_eq, Exe.V_eq, h0]
   simp [valS, h0]
  ·refine Fc.start (S := []) Tryz.func121 Tryz.ntmps121 Tryz.results121 rfl (by decide) rfl (by kernel_rfl) ?_
   simp (disch := omega) only [push_cast, go_sem, zA, simprocAttr, progV_eq, Exe.V_eq, h0]
   simp [valS, h0]
 | succ m ih =>
  intro i hm hi
  by_cases h0 : i < 0
  ·refine Fc.start (S := []) Tryz.func121 Tryz.ntmps121 Tryz.results121 rfl (by decide) rfl (by kernel_rfl) ?_
   simp (disch := omega) only [push_cast, go_sem, zA, simprocAttr, progV_eq, Exe.V_eq, h0]
   simp [valS, h0]
  obtain ⟨a, rfl⟩ := Int.eq_ofNat_of_zero_le (Int.not_lt.1 h0)
  have ha : a < (events p).length := by omega
  obtain ⟨ev, he⟩ : ∃ d, (events p)[a]? = some d := ⟨_, List.getElem?_eq_getElem ha⟩
  obtain ⟨f, hf⟩ : ∃ f, x.fr[a]? = some f := ⟨_, List.getElem?_eq_getElem (by omega)⟩
  have hfa : a < x.fr.length := by omega
  have hfn := hfr f (List.mem_of_getElem? hf)
  obtain ⟨d, hst⟩ : ∃ d, stepAt p ev = d := ⟨_, rfl⟩
  have hd := scene_get he
  have hdo := l12Do_fn p ev (evIn_of (List.mem_of_getElem? he))
  rw [hst] at hd hdo
  have hv : valS (events p) (scene p).ds x.fr (m + 1) a = if d.reads then valS (events p) (scene p).ds x.fr m f else if d.k == 3 then valS (events p) (scene p).ds x.fr m (srcOf (events p) (scene p).ds a a) else d.v := by
   rw [valS, if_neg h0]
   simp only [Int.toNat_natCast, hd, hf, Option.getD_some]
  rw [hv]
  have hm1 : ¬ ((m + 1 : Nat) : Int) < 1 := by omega
  have hm2 : ((m + 1 : Nat) : Int) - 1 = m := by omega
  generalize hM : ((m + 1 : Nat) : Int) = M1 at hm1 hm2
  generalize hR : (if d.reads then valS (events p) (scene p).ds x.fr m f else if d.k == 3 then valS (events p) (scene p).ds x.fr m (srcOf (events p) (scene p).ds a a) else d.v) = R
  have hM2 : M1 = (m : Int) + 1 := by omega
  refine Fc.start (S := []) Tryz.func121 Tryz.ntmps121 Tryz.results121 rfl (by decide) rfl (by kernel_rfl) ?_
  simp (disch := omega) only [push_cast, go_sem, zA, simprocAttr, progV_eq, Exe.V_eq, h0, hm1]
  intro g1 g2
  refine Sat.drawnE [(0, 6), (4, 6), (5, 6)] [] [0, 4, 5] (pureT [(118, d.V)]) (by kernel_rfl) (by kernel_rfl) ?_
  simp (disch := omega) only [push_cast, go_sem, zA, simprocAttr, he, ha, Evt.V_eq]
  refine runD_pure rfl hdo rfl rfl ?_ ?_
  ·rfl
  simp (disch := omega) only [push_cast, go_sem, zA, simprocAttr, Do.V_eq]
  intro g3
  refine callR.pure (l1Reads_fn d) rfl rfl ?_
  cases hr : d.reads
  ·rw [hr] at hR
   simp only [Bool.false_eq_true, if_false] at hR
   cases h3 : (d.k == 3)
   ·rw [h3] at hR
    simp only [Bool.false_eq_true, if_false] at hR
    simp (disch := omega) only [push_cast, go_sem, zA, simprocAttr, h3]
    exact hR
   ·rw [h3] at hR
    simp only [if_true] at hR
    have hs := srcOf_lt (es := events p) (ds := (scene p).ds) (i := a) a
    simp (disch := omega) only [push_cast, go_sem, zA, simprocAttr, h3]
    refine Sat.drawnE [] [] [0, 2, 3, 6, 9] (pureT [(150, .int .i64 (srcOf (events p) (scene p).ds a a)), (121, .int .i64 R)]) (by kernel_rfl) (by kernel_rfl) ?_
    simp (disch := omega) only [push_cast, go_sem, zA, simprocAttr]
    refine runD_pure rfl (l12Source_fn p a hn ha) rfl rfl ?_ ?_
    ·rfl
    simp (disch := omega) only [push_cast, go_sem, zA, simprocAttr, hm2]
    refine runD_pure rfl (by rw [← hR]; exact ih _ (by omega) (by omega)) rfl rfl ?_ ?_
    ·rfl
    simp (disch := omega) only [push_cast, go_sem, zA, simprocAttr]
  ·rw [hr] at hR
   simp only [if_true] at hR
   simp (disch := omega) only [push_cast, go_sem, zA, simprocAttr]
   refine Sat.drawnE [] [] [0, 2, 4, 7, 10] (pureT [(121, .int .i64 R)]) (by kernel_rfl) (by kernel_rfl) ?_
   simp (disch := omega) only [push_cast, go_sem, zA, simprocAttr, hf, hfa, hm2]
   refine runD_pure rfl (by rw [← hR]; exact ih _ (by omega) (by omega)) rfl rfl ?_ ?_
   ·rfl
   simp (disch := omega) only [push_cast, go_sem, zA, simprocAttr]
end
end Go.Proofs.YtfbgabkcjjahiaaGreatDoor
