/-
 Contracts and plain laws.
-/
import Derived.Test.YtfbgabkcjjahiaaGreatDoorPa
import Derived.Test.YtfbgabkcjjahiaaGreatDoorPvx
set_option linter.unusedSimpArgs false
set_option linter.unusedVariables false
set_option linter.unusedSectionVars false
namespace Go.Proofs.YtfbgabkcjjahiaaGreatDoor
section
open Go.RowKit
theorem l71Do_rd (bs : List Int) (hb : Bytes bs) (g p : Nat) (hp : p < 2 ^ 29) (n : Int) (hn : n < 2 ^ 30) : Fr Tryz.prog 147 [.int .i64 n] g (rdO bs g p)
  (fun r o' => ∃ d : Do, r = d.V ∧ ∃ q, p ≤ q ∧ q ≤ p + 3 ∧ o' = rdO bs g q) := by
 refine Fc.start (S := [2002, 2004]) Tryz.func147 Tryz.ntmps147 Tryz.results147 rfl (by decide) rfl (by kernel_rfl) ?_
 simp (disch := omega) only [push_cast, go_sem, zA, simprocAttr]
 intro g1 g2
 refine callR.rd (pick_rd bs hb g p (by omega) 10 (by omega)) rfl rfl rfl ?_
 rintro r o' ⟨v, rfl, hv0, hv1, _, rfl⟩
 have hv : v < 10 := hv1 (by omega)
 obtain ⟨m, rfl⟩ := Int.eq_ofNat_of_zero_le hv0
 obtain ⟨z, hz⟩ := ints_get (l := [.int .i64 1, .int .i64 1, .int .i64 1, .int .i64 2, .int .i64 2, .int .i64 2, .int .i64 3, .int .i64 4, .int .i64 5, .int .i64 6]) (n := m) rfl (by simp; omega)
 simp (disch := omega) only [push_cast, go_sem, zA, simprocAttr, hz]
 refine ⟨by omega, fun g3 => ?_⟩
 refine Sat.cut (σ := Do × Nat) [] (fun x => upd (upd (upd (upd noT 0 (.ptr 0 [] 0 0 g 2)) 1 (.int .i64 n)) 4 (.ptr 4 [] 0 0 g1 3)) 5 (.ptr 5 [] 0 0 g3 3))
  (fun x => ((noM.set 0 (rdO bs g x.2)).set 4 (.own 62 (some g1) 1 [.agg [.int .i64 0, .int .i64 0, .int .i64 0]])).set 5 (.own 62 (some g3) 1 [.agg [.int .i64 x.1.k, .int .i64 x.1.p, .int .i64 x.1.v]]))
  (fun x => p ≤ x.2 ∧ x.2 ≤ p + 2) (by kernel_rfl) ?_ ?_
 ·simp (disch := omega) only [push_cast, go_sem, zA, simprocAttr]
  refine callR.pure (l1Reads_fn ⟨z, 0, 0⟩) rfl rfl ?_
  cases hr : (Do.reads ⟨z, 0, 0⟩)
  ·simp (disch := omega) only [push_cast, go_sem, zA, simprocAttr]
   refine callR.pure (l1Writes_fn ⟨z, 0, 0⟩) rfl rfl ?_
   cases hw : (Do.writes ⟨z, 0, 0⟩)
   ·simp (disch := omega) only [push_cast, go_sem, zA, simprocAttr]
    refine ⟨(⟨z, 0, 0⟩, p + 1), by simp, ?_⟩
    (refine zB ?_; repeat (first | exact zC | exact zD | refine zE (by decide) ?_ | refine zF ?_ ?_ | refine zG ?_ ?_)) <;> (try simp (disch := omega) only [push_cast, go_sem, zA, simprocAttr])
   ·simp (disch := omega) only [push_cast, go_sem, zA, simprocAttr]
    refine callR.rd (pick_rd bs hb g (p + 1) (by omega) n hn) rfl rfl rfl ?_
    rintro r o' ⟨v, rfl, hv0, hv1, _, rfl⟩
    simp (disch := omega) only [push_cast, go_sem, zA, simprocAttr]
    refine ⟨(⟨z, v, 0⟩, p + 2), by simp, ?_⟩
    (refine zB ?_; repeat (first | exact zC | exact zD | refine zE (by decide) ?_ | refine zF ?_ ?_ | refine zG ?_ ?_)) <;> (try simp (disch := omega) only [push_cast, go_sem, zA, simprocAttr])
  ·simp (disch := omega) only [push_cast, go_sem, zA, simprocAttr]
   refine callR.rd (pick_rd bs hb g (p + 1) (by omega) n hn) rfl rfl rfl ?_
   rintro r o' ⟨v, rfl, hv0, hv1, _, rfl⟩
   simp (disch := omega) only [push_cast, go_sem, zA, simprocAttr]
   refine ⟨(⟨z, v, 0⟩, p + 2), by simp, ?_⟩
   (refine zB ?_; repeat (first | exact zC | exact zD | refine zE (by decide) ?_ | refine zF ?_ ?_ | refine zG ?_ ?_)) <;> (try simp (disch := omega) only [push_cast, go_sem, zA, simprocAttr])
 rintro ⟨d, q⟩ ⟨hq1, hq2⟩
 refine Sat.of (S := []) (by kernel_rfl) ?_
 simp only at hq1 hq2
 have fin : ∀ {M : Mem} (d' : Do) (q' : Nat), p ≤ q' → q' ≤ p + 3 → M 0 = some (rdO bs g q') →
   ∃ m, Sub m M ∧ ∃ o', (∃ e : Do, d'.V = e.V ∧ ∃ q, p ≤ q ∧ q ≤ p + 3 ∧ o' = rdO bs g q) ∧ m = noM.set 0 o' :=
  fun d' q' h1 h2 h3 => ⟨_, Sub.set Sub.no h3, _, ⟨d', rfl, q', h1, h2, rfl⟩, rfl⟩
 cases h1 : (d.k == 1) <;> cases h6 : (d.k == 6)
 ·simp (disch := omega) only [push_cast, go_sem, zA, simprocAttr, h1, h6]
  refine fin d q hq1 (by omega) ?_
  simp (disch := omega) only [push_cast, go_sem, zA, simprocAttr]
 all_goals
  simp (disch := omega) only [push_cast, go_sem, zA, simprocAttr, h1, h6]
  refine callR.rd (pick_rd bs hb g q (by omega) 3 (by omega)) rfl rfl rfl ?_
  rintro r o' ⟨v, rfl, hv0, hv1, _, rfl⟩
  have hv : v < 3 := hv1 (by omega)
  simp (disch := omega) only [push_cast, go_sem, zA, simprocAttr]
  refine fin ⟨d.k, d.p, 1 + v⟩ (q + 1) (by omega) (by omega) ?_
  simp (disch := omega) only [push_cast, go_sem, zA, simprocAttr]
theorem l71Do_pl (bs : List Int) (hb : Bytes bs) (g p : Nat) (hp : p < 2 ^ 29) (n : Int) (hn : n < 2 ^ 30) : Fr Tryz.prog 147 [.int .i64 n] g (rdO bs g p) (fun r o' => (∃ d : Do, r = d.V) ∧ ∃ q, p ≤ q ∧ q ≤ p + 3 ∧ o' = rdO bs g q) :=
 (l71Do_rd bs hb g p hp n hn).mono (by rintro r o' ⟨d, h1, h2⟩; exact ⟨⟨d, h1⟩, h2⟩)
theorem l71Steps_fn (p : Prog) (hp : p.length < 2 ^ 10) (hl : ∀ l ∈ p, l.length < 2 ^ 10) : Fp Tryz.prog 149 [progV p] (.int .i64 (stepsP p)) := by
 have hb : ∀ i, stepsP (p.take i) ≤ 2 ^ 10 * i := by
  intro i
  induction i with
  | zero => simp [stepsP]
  | succ i ih =>
   cases he : p[i]? with
   | none => rw [List.take_add_one, he]; simp [stepsP] at ih ⊢; omega
   | some l =>
    have := hl l (List.mem_of_getElem? he)
    have h2 := (take_all he).2.1
    omega
 refine Fc.start (S := []) Tryz.func149 Tryz.ntmps149 Tryz.results149 rfl (by decide) rfl (by kernel_rfl) ?_
 simp (disch := omega) only [push_cast, go_sem, zA, simprocAttr, progV_eq]
 intro g
 refine Sat.loop (σ := Nat) (fun i => upd (upd (upd noT 1 (.ptr 1 [] 0 0 g 1)) 4 (.int .i64 i)) 3 (.int .i64 (stepsP (p.take i)))) (fun _ => noM.set 1 (boxP p g))
  (fun i => i ≤ p.length) (fun i => p.length - i) 0 (by simp) ?_ ?_
 ·(refine zB ?_; repeat (first | exact zC | exact zD | refine zE (by decide) ?_ | refine zF ?_ ?_ | refine zG ?_ ?_)) <;> (try simp (disch := omega) only [push_cast, go_sem, zA, simprocAttr])
  all_goals simp [stepsP, boxP]
 rintro i hi J hJ
 refine Sat.of (S := []) (by kernel_rfl) ?_
 have hbi := hb i
 rcases Nat.lt_or_ge i p.length with hlt | hge
 ·obtain ⟨l, he⟩ : ∃ l, p[i]? = some l := ⟨_, List.getElem?_eq_getElem hlt⟩
  have hln := hl l (List.mem_of_getElem? he)
  obtain ⟨t1, t2, t3⟩ := take_all he
  simp (disch := omega) only [push_cast, go_sem, zA, simprocAttr, he, hlt, boxP_eq, thrV_eq]
  refine hJ (i + 1) _ _ (by omega) (by omega) ?_
  (refine zB ?_; repeat (first | exact zC | exact zD | refine zE (by decide) ?_ | refine zF ?_ ?_ | refine zG ?_ ?_)) <;> (try simp (disch := omega) only [push_cast, go_sem, zA, simprocAttr])
  ·rfl
  ·simp [t2]
 ·have : i = p.length := by omega
  subst this
  simp (disch := omega) only [push_cast, go_sem, zA, simprocAttr, boxP_eq]
structure ThS where
 l : List Do
 q : Nat
 n : Nat
 γ : Option Nat
 c : Nat
theorem l71Thread_rd (bs : List Int) (hb : Bytes bs) (g p : Nat) (hp : p < 2 ^ 28) (most : Int) (hm : 0 ≤ most) (hm2 : most < 1000) (n : Int) (hn : n < 2 ^ 30) : FrR Tryz.prog 148 [.int .i64 most, .int .i64 n] g (rdO bs g p)
  (fun es o' => ∃ l : List Do, es = l.map Do.V ∧ l.length ≤ most ∧ ∃ q, p ≤ q ∧ q ≤ p + 3001 ∧ o' = rdO bs g q) 62 := by
 refine FrR.of 6 (by decide) ?_
 refine Fc.start (S := []) Tryz.func148 Tryz.ntmps148 Tryz.results148 rfl (by decide) rfl (by kernel_rfl) ?_
 simp (disch := omega) only [push_cast, go_sem, zA, simprocAttr]
 intro g1
 refine callR.rd (pick_rd bs hb g p (by omega) (most + 1) (by omega)) rfl rfl rfl ?_
 rintro r o' ⟨v, rfl, hv0, hv1, _, rfl⟩
 have hv := hv1 (by omega)
 obtain ⟨m, rfl⟩ := Int.eq_ofNat_of_zero_le hv0
 simp (disch := omega) only [push_cast, go_sem, zA, simprocAttr]
 refine Sat.loop (σ := ThS) (fun x => upd (upd (upd (upd noT 0 (.ptr 0 [] 0 0 g 2)) 2 (.int .i64 n)) 7 (.msl 7 [] x.γ x.l.length x.c)) 8 (.int .i64 x.n))
  (fun x => (noM.set 0 (rdO bs g x.q)).set 7 (.own 62 x.γ x.c (x.l.map Do.V)))
  (fun x => (x.l.length + x.n : Int) ≤ most ∧ p ≤ x.q ∧ x.q ≤ p + 1 + 3 * x.l.length) (fun x => x.n) ⟨[], p + 1, m, some g1, 0⟩ (by simp; omega) ?_ ?_
 ·(refine zB ?_; repeat (first | exact zC | exact zD | refine zE (by decide) ?_ | refine zF ?_ ?_ | refine zG ?_ ?_)) <;> (try simp (disch := omega) only [push_cast, go_sem, zA, simprocAttr])
  all_goals rfl
 rintro ⟨l, q, k, γ, c⟩ ⟨h1, h2, h3⟩ J hJ
 refine Sat.of (S := []) (by kernel_rfl) ?_
 simp only at h1 h2 h3 hJ
 cases k with
 | zero =>
  simp (disch := omega) only [push_cast, go_sem, zA, simprocAttr]
  refine ⟨_, ?_, rdO bs g q, γ, c, l.map Do.V, ⟨l, rfl, by omega, q, h2, by omega, rfl⟩, by rw [List.length_map], rfl⟩
  ((repeat (first | exact Sub.no | refine Sub.set ?_ ?_)) <;> (try simp (disch := omega) only [push_cast, go_sem, zA, simprocAttr]))
 | succ k =>
  have hk : (0 : Int) < (k : Int) + 1 := by omega
  simp (disch := omega) only [push_cast, go_sem, zA, simprocAttr, hk]
  refine callR.rd (l71Do_rd bs hb g q (by omega) n hn) rfl rfl rfl ?_
  rintro r o' ⟨d, rfl, q', hq1, hq2, rfl⟩
  simp (disch := omega) only [push_cast, go_sem, zA, simprocAttr, Do.V_eq]
  intro g2
  refine ⟨by omega, fun γ' c' _ => hJ ⟨l ++ [d], q', k, γ', c'⟩ _ _ ?_ (by simp only; omega) ?_⟩
  ·simp; omega
  ·(refine zB ?_; repeat (first | exact zC | exact zD | refine zE (by decide) ?_ | refine zF ?_ ?_ | refine zG ?_ ?_)) <;> (try simp (disch := omega) only [push_cast, go_sem, zA, simprocAttr])
   all_goals first | rfl | omega | simp [Do.V]
def thrQ (args : List V) (es : List V) : Prop := ∃ (l : List Do) (most : Int), args[1]? = some (.int .i64 most) ∧ es = l.map Do.V ∧ l.length ≤ most
theorem l71Thread_pl (bs : List Int) (hb : Bytes bs) (g p : Nat) (hp : p < 2 ^ 28) (most : Int) (hm : 0 ≤ most) (hm2 : most < 1000) (n : Int) (hn : n < 2 ^ 30) : FrR Tryz.prog 148 [.int .i64 most, .int .i64 n] g (rdO bs g p)
  (fun es o' => thrQ (.ptr 0 [] 0 0 g 2 :: [.int .i64 most, .int .i64 n]) es ∧ ∃ q, p ≤ q ∧ q ≤ p + 3001 ∧ o' = rdO bs g q) 62 :=
 (l71Thread_rd bs hb g p hp most hm hm2 n hn).mono (by rintro r o' ⟨l, h1, h2, h3⟩; exact ⟨⟨l, most, rfl, h1, h2⟩, h3⟩)
theorem l71Reader_rd (bs : List Int) (hb : Bytes bs) (g p : Nat) (hp : p < 2 ^ 28) (n : Int) (hn : n < 2 ^ 30) : FrR Tryz.prog 145 [.int .i64 n] g (rdO bs g p)
  (fun es o' => ∃ l : List Do, es = l.map Do.V ∧ l.length = 4 ∧ ∃ q, p ≤ q ∧ q ≤ p + 6 ∧ o' = rdO bs g q) 62 := by
 refine FrR.of 4 (by decide) ?_
 refine Fc.start (S := []) Tryz.func145 Tryz.ntmps145 Tryz.results145 rfl (by decide) rfl (by kernel_rfl) ?_
 simp (disch := omega) only [push_cast, go_sem, zA, simprocAttr]
 refine callR.rd (pick_rd bs hb g p (by omega) n hn) rfl rfl rfl ?_
 rintro r o' ⟨v, rfl, _, _, _, rfl⟩
 simp (disch := omega) only [push_cast, go_sem, zA, simprocAttr]
 refine callR.rd (pick_rd bs hb g (p + 1) (by omega) n hn) rfl rfl rfl ?_
 rintro r o' ⟨v2, rfl, _, _, _, rfl⟩
 simp (disch := omega) only [push_cast, go_sem, zA, simprocAttr]
 intro g1
 refine callR.rd (pick_rd bs hb g (p + 2) (by omega) 3 (by omega)) rfl rfl rfl ?_
 rintro r o' ⟨v3, rfl, _, _, _, rfl⟩
 simp (disch := omega) only [push_cast, go_sem, zA, simprocAttr]
 have fin : ∀ {M : Mem} (d : Do) (q : Nat), p ≤ q → q ≤ p + 6 → M 0 = some (rdO bs g q) → M 4 = some (.own 62 (some g1) 4 [.agg [.int .i64 7, .int .i64 0, .int .i64 0], .agg [.int .i64 2, .int .i64 v, .int .i64 0], .agg [.int .i64 d.k, .int .i64 d.p, .int .i64 d.v], .agg [.int .i64 8, .int .i64 0, .int .i64 0]]) →
   ∃ m, Sub m M ∧ ∃ o' γ cap es, (∃ l : List Do, es = l.map Do.V ∧ l.length = 4 ∧ ∃ q, p ≤ q ∧ q ≤ p + 6 ∧ o' = rdO bs g q) ∧ V.msl 4 [] (some g1) 4 4 = .msl 4 [] γ es.length cap ∧ m = (noM.set 0 o').set 4 (.own 62 γ cap es) :=
  fun d q h1 h2 h3 h4 => ⟨_, Sub.set (Sub.set Sub.no h3) h4, _, some g1, 4, _, ⟨[⟨7, 0, 0⟩, ⟨2, v, 0⟩, d, ⟨8, 0, 0⟩], rfl, rfl, q, h1, h2, rfl⟩, rfl, rfl⟩
 refine ⟨fun hv => ?_, fun hv => ?_⟩
 ·refine callR.rd (l71Do_rd bs hb g (p + 3) (by omega) n hn) rfl rfl rfl ?_
  rintro r o' ⟨d, rfl, q, hq1, hq2, rfl⟩
  simp (disch := omega) only [push_cast, go_sem, zA, simprocAttr, Do.V_eq]
  refine fin d q (by omega) (by omega) ?_ ?_ <;> simp (disch := omega) only [push_cast, go_sem, zA, simprocAttr]
 ·refine fin ⟨2, v2, 0⟩ (p + 3) (by omega) (by omega) ?_ ?_ <;> simp (disch := omega) only [push_cast, go_sem, zA, simprocAttr]
theorem l71Waiter_rd (bs : List Int) (hb : Bytes bs) (g p : Nat) (hp : p < 2 ^ 28) (n : Int) (hn : n < 2 ^ 30) : FrR Tryz.prog 146 [.int .i64 n] g (rdO bs g p)
  (fun es o' => ∃ l : List Do, es = l.map Do.V ∧ l.length = 3 ∧ ∃ q, p ≤ q ∧ q ≤ p + 5 ∧ o' = rdO bs g q) 62 := by
 refine FrR.of 4 (by decide) ?_
 refine Fc.start (S := []) Tryz.func146 Tryz.ntmps146 Tryz.results146 rfl (by decide) rfl (by kernel_rfl) ?_
 simp (disch := omega) only [push_cast, go_sem, zA, simprocAttr]
 refine Sat.drawnE [(2, 8), (4, 8), (8, 10), (8, 15), (12, 15), (8, 17), (12, 17)] [] [] (rdTab bs g [(70, 1, pickQ)] []) (by kernel_rfl) (by kernel_rfl) ?_
 simp (disch := omega) only [push_cast, go_sem, zA, simprocAttr]
 refine runD_pl (pick_pl bs hb g p (by omega) n hn) rfl rfl rfl rfl pickQ_ne ?_ ?_
 ·rfl
 rintro r q hq1 hq2 ⟨n', v, hn', rfl, hv⟩
 simp (disch := omega) only [push_cast, go_sem, zA, simprocAttr]
 refine runD_pl (pick_pl bs hb g q (by omega) 2 (by omega)) rfl rfl rfl rfl pickQ_ne ?_ ?_
 ·rfl
 rintro r q2 hq3 hq4 ⟨n2, v2, hn2, rfl, hv2⟩
 cases hn2
 have hv21 := hv2.2.1 (by omega)
 have hv20 := hv2.1
 simp (disch := omega) only [push_cast, go_sem, zA, simprocAttr]
 intro g1
 refine runD_pl (pick_pl bs hb g q2 (by omega) 2 (by omega)) rfl rfl rfl rfl pickQ_ne ?_ ?_
 ·simp (disch := omega) only [push_cast, go_sem, zA, simprocAttr]
 rintro r q3 hq5 hq6 ⟨n3, v3, hn3, rfl, hv3⟩
 cases hn3
 have hv31 := hv3.2.1 (by omega)
 obtain ⟨m, rfl⟩ := Int.eq_ofNat_of_zero_le hv3.1
 obtain ⟨z, hz⟩ := ints_get (l := [.int .i64 1, .int .i64 6]) (n := m) rfl (by simp; omega)
 simp (disch := omega) only [push_cast, go_sem, zA, simprocAttr, hz]
 refine ⟨by omega, ?_⟩
 refine runD_pl (pick_pl bs hb g q3 (by omega) n hn) rfl rfl rfl rfl pickQ_ne ?_ ?_
 ·simp (disch := omega) only [push_cast, go_sem, zA, simprocAttr]
 rintro r q4 hq7 hq8 ⟨n4, v4, hn4, rfl, hv4⟩
 simp (disch := omega) only [push_cast, go_sem, zA, simprocAttr]
 refine runD_pl (pick_pl bs hb g q4 (by omega) 2 (by omega)) rfl rfl rfl rfl pickQ_ne ?_ ?_
 ·simp (disch := omega) only [push_cast, go_sem, zA, simprocAttr]
 rintro r q5 hq9 hq10 ⟨n5, v5, hn5, rfl, hv5⟩
 cases hn5
 have hv51 := hv5.2.1 (by omega)
 have hv50 := hv5.1
 simp (disch := omega) only [push_cast, go_sem, zA, simprocAttr]
 intro g2
 refine ⟨_, ?_, rdO bs g q5, some g2, 3, [⟨1, v, 1 + v2⟩, ⟨9, 0, 0⟩, ⟨z, v4, 1 + v5⟩].map Do.V, ⟨_, rfl, rfl, q5, by omega, by omega, rfl⟩, rfl, rfl⟩
 ((repeat (first | exact Sub.no | refine Sub.set ?_ ?_)) <;> (try simp (disch := omega) only [push_cast, go_sem, zA, simprocAttr]))
 rfl
end
section
open Go.RowKit
structure RowO where
 γ : Option Nat
 c : Nat
 l : List Do
def RowO.V (x : RowO) : V := .own 62 x.γ x.c (x.l.map Do.V)
theorem RowO.V_eq (x : RowO) : x.V = .own 62 x.γ x.c (x.l.map Do.V) := rfl
structure BoxO where
 e : TypeId
 γ : Option Nat
 c : Nat
 xs : List RowO
def BoxO.V (x : BoxO) (g : Nat) : V := .own 25 (some g) 1 [.agg [.own x.e x.γ x.c (x.xs.map RowO.V)]]
theorem BoxO.V_eq (x : BoxO) (g : Nat) : x.V g = .own 25 (some g) 1 [.agg [.own x.e x.γ x.c (x.xs.map RowO.V)]] := rfl
def BoxO.p (x : BoxO) : Prog := x.xs.map RowO.l
theorem fz_row (x : RowO) : x.V.fz = thrV x.l := by
 simp only [RowO.V, V.fz, fzs_map, List.map_map, thrV, V.sl.injEq]
 exact List.map_congr_left fun d _ => fz_Do d
theorem fz_box (x : BoxO) : (V.own x.e x.γ x.c (x.xs.map RowO.V)).fz = .sl (x.p.map thrV) := by
 simp only [V.fz, fzs_map, List.map_map, BoxO.p, V.sl.injEq]
 exact List.map_congr_left fun d _ => fz_row d
structure Drawn (p : Prog) : Prop where
 ok : progOk p = true
 two : 2 ≤ p.length
 few : stepsP p ≤ 8
@[irreducible] def wide (n : Nat) : Nat := 65536 * n
theorem wide_succ (n : Nat) : wide (n + 1) = wide n + 65536 := by simp only [wide, Nat.mul_succ]
theorem wide_zero : wide 0 = 0 := by simp only [wide, Nat.mul_zero]
theorem wide_le {n : Nat} (h : n ≤ 12) : wide n ≤ 786432 := by simp only [wide]; exact Nat.mul_le_mul_left 65536 h
@[irreducible] def wide3 (n : Nat) : Nat := 3002 * n
theorem wide3_succ (n : Nat) : wide3 (n + 1) = wide3 n + 3002 := by simp only [wide3, Nat.mul_succ]
theorem wide3_zero : wide3 0 = 0 := by simp only [wide3, Nat.mul_zero]
theorem wide3_le {n : Nat} (h : n ≤ 3) : wide3 n ≤ 9006 := by simp only [wide3]; exact Nat.mul_le_mul_left 3002 h
theorem l71Prog_rd (bs : List Int) (hb : Bytes bs) (g p : Nat) (hp : p < 2 ^ 27) : Fr Tryz.prog 113 [] g (rdO bs g p)
  (fun r o' => ∃ x : Prog, r = progV x ∧ Drawn x ∧ ∃ q, p ≤ q ∧ q ≤ p + 2 ^ 20 ∧ o' = rdO bs g q) := by
 refine Fc.start (S := [17]) Tryz.func113 Tryz.ntmps113 Tryz.results113 rfl (by decide) rfl (by kernel_rfl) ?_
 simp (disch := omega) only [push_cast, go_sem, zA, simprocAttr]
 intro g2
 refine Sat.loop (σ := Nat × Nat) (fun x => upd (upd (upd noT 0 (.ptr 0 [] 0 0 g 2)) 2 (.ptr 2 [] 0 0 g2 1)) 3 (.int .i64 x.1))
  (fun x => (noM.set 0 (rdO bs g x.2)).set 2 (.own 25 (some g2) 1 [.agg [.own 0 none 0 []]]))
  (fun x => x.1 ≤ 12 ∧ p ≤ x.2 ∧ x.2 ≤ p + wide x.1) (fun x => 12 - x.1) (0, p) (by simp [wide_zero]) ?_ ?_
 ·(refine zB ?_; repeat (first | exact zC | exact zD | refine zE (by decide) ?_ | refine zF ?_ ?_ | refine zG ?_ ?_)) <;> (try simp (disch := omega) only [push_cast, go_sem, zA, simprocAttr])
 rintro ⟨i, q⟩ ⟨h1, h2, h3⟩ J hJ
 refine Sat.of (S := [2006]) (by kernel_rfl) ?_
 simp only at h1 h2 h3 hJ
 have hw := wide_le h1
 by_cases hi : (i : Int) < 12
 ·simp (disch := omega) only [push_cast, go_sem, zA, simprocAttr, hi]
  intro g4
  refine callR.rd (pick_rd bs hb g q (by omega) 2 (by omega)) rfl rfl rfl ?_
  rintro r o' ⟨v, rfl, hv0, hv1, _, rfl⟩
  have hv := hv1 (by omega)
  simp (disch := omega) only [push_cast, go_sem, zA, simprocAttr]
  refine Sat.cut (σ := BoxO × Nat) [] (fun x => upd (upd (upd (upd noT 0 (.ptr 0 [] 0 0 g 2)) 2 (.ptr 2 [] 0 0 g2 1)) 3 (.int .i64 i)) 4 (.ptr 4 [] 0 0 g4 1))
   (fun x => ((noM.set 0 (rdO bs g x.2)).set 2 (.own 25 (some g2) 1 [.agg [.own 0 none 0 []]])).set 4 (x.1.V g4))
   (fun x => 2 ≤ x.1.p.length ∧ x.1.p.length ≤ 3 ∧ (∀ l ∈ x.1.p, l.length < 2 ^ 10) ∧ p ≤ x.2 ∧ x.2 ≤ q + 2 ^ 15) (by kernel_rfl) ?_ ?_
  ·simp (disch := omega) only [push_cast, go_sem, zA, simprocAttr]
   refine callR.rd (pick_rd bs hb g (q + 1) (by omega) 4 (by omega)) rfl rfl rfl ?_
   rintro r o' ⟨v2, rfl, hv20, hv21, _, rfl⟩
   simp (disch := omega) only [push_cast, go_sem, zA, simprocAttr]
   refine ⟨fun hz => ?_, fun hz => ?_⟩
   ·refine callR.rdRow (l71Reader_rd bs hb g (q + 2) (by omega) 2 (by omega)) rfl rfl rfl ?_
    rintro es o' γ1 c1 ⟨l1, rfl, hl1, q1, hq1, hq2, rfl⟩
    simp (disch := omega) only [push_cast, go_sem, zA, simprocAttr]
    refine callR.rdRow (l71Waiter_rd bs hb g q1 (by omega) 2 (by omega)) rfl rfl rfl ?_
    rintro es o' γ2 c2 ⟨l2, rfl, hl2, q2, hq3, hq4, rfl⟩
    simp (disch := omega) only [push_cast, go_sem, zA, simprocAttr]
    intro g5
    refine callR.rd (pick_rd bs hb g q2 (by omega) 3 (by omega)) rfl rfl rfl ?_
    rintro r o' ⟨v3, rfl, hv30, hv31, _, rfl⟩
    simp (disch := omega) only [push_cast, go_sem, zA, simprocAttr]
    refine ⟨fun hz3 => ?_, fun hz3 => ?_⟩
    ·refine Sat.drawnE [(1, 7), (3, 7), (5, 7), (1, 8), (3, 8), (5, 8)] [(1, 9)] [1, 3, 5] (rdTab bs g [(147, 3, fun _ r => ∃ d : Do, r = d.V)] []) (by kernel_rfl) (by kernel_rfl) ?_
     simp (disch := omega) only [push_cast, go_sem, zA, simprocAttr]
     refine runD_pl (l71Do_pl bs hb g (q2 + 1) (by omega) 2 (by omega)) rfl rfl rfl rfl ⟨_, ⟨0, 0, 0⟩, rfl⟩ ?_ ?_
     ·simp (disch := omega) only [push_cast, go_sem, zA, simprocAttr]
     rintro r q3 hq5 hq6 ⟨d, rfl⟩
     simp (disch := omega) only [push_cast, go_sem, zA, simprocAttr, Do.V_eq]
     intro g6
     refine ⟨by omega, fun γ c _ => ⟨(⟨60, some g5, 2, [⟨γ, c, l1 ++ [d]⟩, ⟨γ2, c2, l2⟩]⟩, q3), ?_, ?_⟩⟩
     ·simp [BoxO.p]; omega
     ·(refine zB ?_; repeat (first | exact zC | exact zD | refine zE (by decide) ?_ | refine zF ?_ ?_ | refine zG ?_ ?_)) <;> (try simp (disch := omega) only [push_cast, go_sem, zA, simprocAttr])
      simp [BoxO.V, RowO.V, Do.V]
    ·refine ⟨(⟨60, some g5, 2, [⟨γ1, c1, l1⟩, ⟨γ2, c2, l2⟩]⟩, q2 + 1), ?_, ?_⟩
     ·simp [BoxO.p]; omega
     ·(refine zB ?_; repeat (first | exact zC | exact zD | refine zE (by decide) ?_ | refine zF ?_ ?_ | refine zG ?_ ?_)) <;> (try simp (disch := omega) only [push_cast, go_sem, zA, simprocAttr])
      simp [BoxO.V, RowO.V, Do.V]
   ·refine callR.rd (pick_rd bs hb g (q + 2) (by omega) 2 (by omega)) rfl rfl rfl ?_
    rintro r o' ⟨v3, rfl, hv30, hv31, _, rfl⟩
    have hv3 := hv31 (by omega)
    obtain ⟨m, rfl⟩ := Int.eq_ofNat_of_zero_le hv30
    simp (disch := omega) only [push_cast, go_sem, zA, simprocAttr]
    refine Sat.loop (σ := BoxO × Nat × Nat) (fun x => upd (upd (upd (upd (upd (upd (upd noT 0 (.ptr 0 [] 0 0 g 2)) 2 (.ptr 2 [] 0 0 g2 1)) 3 (.int .i64 i)) 4 (.ptr 4 [] 0 0 g4 1)) 5 (.int .i64 (1 + v))) 6 (.int .i64 (2 + m))) 7 (.int .i64 x.2.2))
     (fun x => ((noM.set 0 (rdO bs g x.2.1)).set 2 (.own 25 (some g2) 1 [.agg [.own 0 none 0 []]])).set 4 (x.1.V g4))
     (fun x => x.1.p.length = x.2.2 ∧ x.2.2 ≤ 2 + m ∧ (∀ l ∈ x.1.p, l.length < 2 ^ 10) ∧ p ≤ x.2.1 ∧ x.2.1 ≤ q + 3 + wide3 x.2.2 ∧ (x.1.γ = none ∨ x.1.e = 60)) (fun x => 2 + m - x.2.2) (⟨0, none, 0, []⟩, q + 2 + 1, 0) (by simp [BoxO.p, wide3_zero]; omega) ?_ ?_
    ·(refine zB ?_; repeat (first | exact zC | exact zD | refine zE (by decide) ?_ | refine zF ?_ ?_ | refine zG ?_ ?_)) <;> (try simp (disch := omega) only [push_cast, go_sem, zA, simprocAttr])
     rfl
    rintro ⟨x, q1, k⟩ ⟨k1, k2, k3, k4, k5, k6⟩ J2 hJ2
    refine Sat.of (S := []) (by kernel_rfl) ?_
    simp only at k1 k2 k3 k4 k5 k6 hJ2
    have hw3 := wide3_le (n := k) (by omega)
    by_cases hk : (k : Int) < 2 + m
    ·obtain ⟨s6, hs6, hb6, hb7⟩ : ∃ s : Int, (6 : Int).tdiv (2 + (m : Int)) = s ∧ 0 ≤ s ∧ s ≤ 3 := by
      obtain rfl | rfl : m = 0 ∨ m = 1 := by omega
      ·exact ⟨3, by decide, by decide, by decide⟩
      ·exact ⟨2, by decide, by decide, by decide⟩
     have hne : ¬ (2 + (m : Int) = 0) := by omega
     simp (disch := omega) only [push_cast, go_sem, zA, simprocAttr, hk]
     refine Sat.drawnE [(1, 6), (1, 9), (1, 10)] [] [1] (rdTab bs g [(70, 1, pickQ)] [(148, 3001, 62, thrQ)]) (by kernel_rfl) (by kernel_rfl) ?_
     simp (disch := omega) only [push_cast, go_sem, zA, simprocAttr, hs6, hne, BoxO.V_eq]
     refine runD_pl (pick_pl bs hb g q1 (by omega) 2 (by omega)) rfl rfl rfl rfl pickQ_ne ?_ ?_
     ·simp (disch := omega) only [push_cast, go_sem, zA, simprocAttr]
     rintro r q3 hq1 hq2 ⟨n4, v4, hn4, rfl, hv4⟩
     cases hn4
     have hv41 := hv4.2.1 (by omega)
     have hv40 := hv4.1
     simp (disch := omega) only [push_cast, go_sem, zA, simprocAttr]
     refine runD_rw (l71Thread_pl bs hb g q3 (by omega) (s6 + v4) (by omega) (by omega) (1 + v) (by omega)) rfl rfl rfl rfl rfl ⟨_, [], _, rfl, rfl, by simp; omega⟩ ?_ ?_
     ·simp (disch := omega) only [push_cast, go_sem, zA, simprocAttr]
     rintro es q4 γ c hq3 hq4 ⟨l, most, hmo, rfl, hl⟩
     cases hmo
     have k6' : (x.γ = none ∨ x.e = 60) = True := by simp only [k6]
     cases hfl : (V.own 62 γ c (l.map Do.V)).flatC <;> simp (disch := omega) only [push_cast, go_sem, zA, simprocAttr, k6', hfl]
     all_goals
      intro g6
      refine ⟨?_, fun γ2 c2 _ => ?_⟩
      ·have : x.xs.length = k := by simpa [BoxO.p] using k1
       omega
      have e1 : k + 1 ≤ 2 + m := by omega
      have e2 : p ≤ q4 := by omega
      have e3 : q4 ≤ q + 3 + wide3 (k + 1) := by have := wide3_succ k; omega
      have e4 : 2 + m - (k + 1) < 2 + m - k := by omega
      have e5 : (BoxO.p ⟨60, γ2, c2, x.xs ++ [⟨γ, c, l⟩]⟩).length = k + 1 := by simpa [BoxO.p] using k1
      refine hJ2 (⟨60, γ2, c2, x.xs ++ [⟨γ, c, l⟩]⟩, q4, k + 1) _ _ ?_ (by dsimp only; exact e4) ?_
      ·dsimp only
       refine ⟨e5, e1, ?_, e2, e3, .inr rfl⟩
       intro l' hl'
       simp only [BoxO.p, List.map_append, List.map_cons, List.map_nil, List.mem_append, List.mem_singleton] at hl'
       rcases hl' with h | rfl
       ·exact k3 l' h
       ·omega
      ·(refine zB ?_; repeat (first | exact zC | exact zD | refine zE (by decide) ?_ | refine zF ?_ ?_ | refine zG ?_ ?_)) <;> (try simp (disch := omega) only [push_cast, go_sem, zA, simprocAttr])
       all_goals simp [BoxO.V, RowO.V]
    ·simp (disch := omega) only [push_cast, go_sem, zA, simprocAttr, hk]
     refine ⟨(x, q1), ?_, ?_⟩
     ·exact ⟨by simp only; omega, by simp only; omega, k3, k4, by simp only; omega⟩
     ·(refine zB ?_; repeat (first | exact zC | exact zD | refine zE (by decide) ?_ | refine zF ?_ ?_ | refine zG ?_ ?_)) <;> (try simp (disch := omega) only [push_cast, go_sem, zA, simprocAttr])
  rintro ⟨x, q1⟩ ⟨k1, k2, k3, k4, k5⟩
  simp only at k1 k2 k3 k4 k5
  refine Sat.freezeC 4 [] 0 0 (n0 := x.V g4) (d := .own x.e x.γ x.c (x.xs.map RowO.V)) rfl rfl rfl ?_
  rw [fz_box]
  refine Sat.of (S := []) (by kernel_rfl) ?_
  simp (disch := omega) only [push_cast, go_sem, zA, simprocAttr, BoxO.V_eq]
  refine callR.pure (specProgOk_fn x.p (by omega)) rfl rfl ?_
  have next : ∀ t' M', Less (upd (upd (upd noT 0 (.ptr 0 [] 0 0 g 2)) 2 (.ptr 2 [] 0 0 g2 1)) 3 (.int .i64 (i + 1 : Nat))) t' ((noM.set 0 (rdO bs g q1)).set 2 (.own 25 (some g2) 1 [.agg [.own 0 none 0 []]])) M' → J t' M' := by
   intro t' M' hl
   have e1 : i + 1 ≤ 12 := by omega
   have e2 : q1 ≤ p + wide (i + 1) := by have := wide_succ i; omega
   have e3 : 12 - (i + 1) < 12 - i := by omega
   exact hJ (i + 1, q1) _ _ (by dsimp only; exact ⟨e1, k4, e2⟩) (by dsimp only; exact e3) hl
  cases hok : progOk x.p
  ·simp (disch := omega) only [push_cast, go_sem, zA, simprocAttr]
   refine next _ _ ?_
   (refine zB ?_; repeat (first | exact zC | exact zD | refine zE (by decide) ?_ | refine zF ?_ ?_ | refine zG ?_ ?_)) <;> (try simp (disch := omega) only [push_cast, go_sem, zA, simprocAttr])
  ·simp (disch := omega) only [push_cast, go_sem, zA, simprocAttr]
   refine callR.pure (l71Steps_fn x.p (by omega) k3) rfl rfl ?_
   simp (disch := omega) only [push_cast, go_sem, zA, simprocAttr]
   refine ⟨fun h8 => ?_, fun h8 => ?_⟩
   ·have h8' : stepsP x.p ≤ 8 := by omega
    refine ⟨_, ?_, _, ⟨x.p, rfl, ⟨hok, k1, h8'⟩, q1, k4, by omega, rfl⟩, rfl⟩
    ((repeat (first | exact Sub.no | refine Sub.set ?_ ?_)) <;> (try simp (disch := omega) only [push_cast, go_sem, zA, simprocAttr]))
   ·refine next _ _ ?_
    (refine zB ?_; repeat (first | exact zC | exact zD | refine zE (by decide) ?_ | refine zF ?_ ?_ | refine zG ?_ ?_)) <;> (try simp (disch := omega) only [push_cast, go_sem, zA, simprocAttr])
 ·have : i = 12 := by omega
  subst this
  simp (disch := omega) only [push_cast, go_sem, zA, simprocAttr]
  refine Sat.cut (σ := Nat × Nat × Nat) [] (fun _ => upd noT 2 (.ptr 2 [] 0 0 g2 1))
   (fun x => (noM.set 0 (rdO bs g q)).set 2 (BoxO.V ⟨60, some x.1, 2, [⟨some x.2.1, 1, [⟨1, 0, 1⟩]⟩, ⟨some x.2.2, 1, [⟨2, 0, 0⟩]⟩]⟩ g2)) (fun _ => True) (by kernel_rfl) ?_ ?_
  ·simp (disch := omega) only [push_cast, go_sem, zA, simprocAttr]
   intro a b c
   refine ⟨(c, a, b), ?_⟩
   (refine zB ?_; repeat (first | exact zC | exact zD | refine zE (by decide) ?_ | refine zF ?_ ?_ | refine zG ?_ ?_)) <;> (try simp (disch := omega) only [push_cast, go_sem, zA, simprocAttr])
   rfl
  rintro ⟨a, b, c⟩ _
  refine Sat.freezeC 2 [] 0 0 (n0 := BoxO.V ⟨60, some a, 2, [⟨some b, 1, [⟨1, 0, 1⟩]⟩, ⟨some c, 1, [⟨2, 0, 0⟩]⟩]⟩ g2) (d := .own 60 (some a) 2 ([⟨some b, 1, [⟨1, 0, 1⟩]⟩, ⟨some c, 1, [⟨2, 0, 0⟩]⟩].map RowO.V)) rfl rfl rfl ?_
  rw [fz_box ⟨60, some a, 2, [⟨some b, 1, [⟨1, 0, 1⟩]⟩, ⟨some c, 1, [⟨2, 0, 0⟩]⟩]⟩]
  refine Sat.of (S := []) (by kernel_rfl) ?_
  simp (disch := omega) only [push_cast, go_sem, zA, simprocAttr, BoxO.V_eq]
  refine ⟨_, ?_, _, ⟨[[⟨1, 0, 1⟩], [⟨2, 0, 0⟩]], rfl, ⟨by decide, by decide, by decide⟩, q, h2, by omega, rfl⟩, rfl⟩
  ((repeat (first | exact Sub.no | refine Sub.set ?_ ?_)) <;> (try simp (disch := omega) only [push_cast, go_sem, zA, simprocAttr]))
end
section
open Go.RowKit
def Code8 (bs : List Int) : Prop := ∀ b ∈ bs, 0 ≤ b ∧ b < 256
def codeV (bs : List Int) : V := .sl (bs.map (V.int .u8))
theorem codeV_eq (bs : List Int) : codeV bs = .sl (bs.map (V.int .u8)) := rfl
theorem Code8.take {bs : List Int} (h : Code8 bs) : Bytes (bs.take 2000) := ⟨by simp; omega, fun b hb => h b (List.mem_of_mem_take hb)⟩
theorem cells_code (bs : List Int) {s : Nat} (hs : s = 1) : (∀ x ∈ bs.map (V.int .u8), x.cells.length = s) = True := by
 simp only [List.mem_map, eq_iff_iff, iff_true]
 rintro x ⟨b, _, rfl⟩
 rw [hs]; rfl
theorem l6Open_fn (bs : List Int) (hl : bs.length < 2 ^ 40) : Fc Tryz.prog 40 [codeV bs] noM (fun r m => ∃ ob, (∃ g, r = .ptr 100 [] 0 0 g 2 ∧ ob = rdO (bs.take 2000) g 0) ∧ m = noM.set 100 ob) := by
 refine Fc.rekeyP (R' := fun r m => ∃ g, r = .ptr 2 [] 0 0 g 2 ∧ m = noM.set 2 (rdO (bs.take 2000) g 0)) ?_ ?_
 ·refine Fc.start (S := []) Tryz.func40 Tryz.ntmps40 Tryz.results40 rfl (by decide) rfl (by kernel_rfl) ?_
  by_cases h : (2000 : Int) < bs.length
  ·simp (disch := omega) only [push_cast, go_sem, zA, simprocAttr, codeV_eq, h, cells_code bs rfl]
   refine ⟨by omega, fun g => ⟨_, ?_, g, rfl, rfl⟩⟩
   ((repeat (first | exact Sub.no | refine Sub.set ?_ ?_)) <;> (try simp (disch := omega) only [push_cast, go_sem, zA, simprocAttr]))
   simp [rdO, List.map_take]
  ·simp (disch := omega) only [push_cast, go_sem, zA, simprocAttr, codeV_eq, h]
   refine fun g => ⟨_, ?_, g, rfl, rfl⟩
   ((repeat (first | exact Sub.no | refine Sub.set ?_ ?_)) <;> (try simp (disch := omega) only [push_cast, go_sem, zA, simprocAttr]))
   rw [List.take_of_length_le (by omega)]; rfl
 ·rintro r m ⟨g, rfl, rfl⟩
  refine ⟨2, g, 2, _, rfl, rfl, _, ⟨g, rfl, rfl⟩, era_set rfl⟩
end
section
open Go.RowKit
structure Sn where
 rd : List Int
 ls : List Int
deriving DecidableEq
def Sn.V (s : Sn) : V := .agg [.sl (s.rd.map (V.int .i64)), .sl (s.ls.map (V.int .i64))]
theorem Sn.V_eq (s : Sn) : s.V = .agg [.sl (s.rd.map (V.int .i64)), .sl (s.ls.map (V.int .i64))] := rfl
structure Sn.small (s : Sn) : Prop where
 rd : s.rd.length < 2 ^ 40
 ls : s.ls.length < 2 ^ 40
def cmpI (a b : Int) : Int := if a < b then -1 else if b < a then 1 else 0
def cmpL : List Int → List Int → Int
 | [], [] => 0
 | [], _ :: _ => -1
 | _ :: _, [] => 1
 | a :: l, b :: m => if a < b then -1 else if b < a then 1 else cmpL l m
def orI (a b : Int) : Int := if a = 0 then b else a
def cmpS (s t : Sn) : Int := orI (cmpL s.rd t.rd) (cmpL s.ls t.ls)
theorem cmpL_zero : ∀ {l m : List Int}, cmpL l m = 0 ↔ l = m
 | [], [] => by simp [cmpL]
 | [], _ :: _ => by simp [cmpL]
 | _ :: _, [] => by simp [cmpL]
 | a :: l, b :: m => by
  rw [cmpL]
  by_cases h1 : a < b
  ·rw [if_pos h1]; simp; intro h; omega
  ·rw [if_neg h1]
   by_cases h2 : b < a
   ·rw [if_pos h2]; simp; intro h; omega
   ·rw [if_neg h2, cmpL_zero]; simp
    intro _; omega
theorem cmpS_zero {s t : Sn} : cmpS s t = 0 ↔ s = t := by
 obtain ⟨a, b⟩ := s
 obtain ⟨c, d⟩ := t
 simp only [cmpS, orI, Sn.mk.injEq]
 by_cases h : cmpL a c = 0
 ·rw [if_pos h, cmpL_zero, cmpL_zero.1 h]; simp
 ·rw [if_neg h]
  exact ⟨fun h2 => absurd h2 h, fun h2 => absurd (cmpL_zero.2 h2.1) h⟩
theorem cmpL_step {l m : List Int} {i : Nat} {a b : Int} (ha : l[i]? = some a) (hb : m[i]? = some b) : cmpL (l.drop i) (m.drop i) = if cmpI a b = 0 then cmpL (l.drop (i + 1)) (m.drop (i + 1)) else cmpI a b := by
 rw [drop_get ha, drop_get hb, cmpL, cmpI]
 by_cases h1 : a < b
 ·simp [h1]
 ·by_cases h2 : b < a <;> simp [h1, h2]
theorem l2Comp_fn (l m : List Int) (hl : l.length < 2 ^ 40) (hm : m.length < 2 ^ 40) : Fp Tryz.prog 80 [.sl (l.map (V.int .i64)), .sl (m.map (V.int .i64))] (.int .i64 (cmpL l m)) := by
 refine Fc.start (S := []) Tryz.func80 Tryz.ntmps80 Tryz.results80 rfl (by decide) rfl (by kernel_rfl) ?_
 simp (disch := omega) only [push_cast, go_sem, zA, simprocAttr]
 refine Sat.loop (σ := Nat) (fun i => upd (upd (upd noT 0 (.sl (l.map (V.int .i64)))) 1 (.sl (m.map (V.int .i64)))) 5 (.int .i64 i)) (fun _ => noM)
  (fun i => i ≤ l.length ∧ i ≤ m.length ∧ cmpL (l.drop i) (m.drop i) = cmpL l m) (fun i => l.length - i) 0 ⟨by omega, by omega, rfl⟩ ?_ ?_
 ·(refine zB ?_; repeat (first | exact zC | exact zD | refine zE (by decide) ?_ | refine zF ?_ ?_ | refine zG ?_ ?_)) <;> (try simp (disch := omega) only [push_cast, go_sem, zA, simprocAttr])
 rintro i ⟨hi, hi2, he⟩ J hJ
 refine Sat.of (S := []) (by kernel_rfl) ?_
 by_cases hlt : i < l.length
 ·obtain ⟨a, ha⟩ : ∃ a, l[i]? = some a := ⟨_, List.getElem?_eq_getElem hlt⟩
  by_cases hlt2 : i < m.length
  ·obtain ⟨b, hb⟩ : ∃ b, m[i]? = some b := ⟨_, List.getElem?_eq_getElem hlt2⟩
   have hs := cmpL_step ha hb
   rw [cmpI] at hs
   simp (disch := omega) only [push_cast, go_sem, zA, simprocAttr, hlt, hlt2]
   refine Sat.drawnE [] [] (List.range 9) (fun _ _ _ => none) (by kernel_rfl) (by kernel_rfl) ?_
   by_cases h1 : a < b
   ·simp (disch := omega) only [push_cast, go_sem, zA, simprocAttr, hlt, hlt2, ha, hb, h1]
    rw [← he, hs]; simp [h1]
   ·simp (disch := omega) only [push_cast, go_sem, zA, simprocAttr, hlt, hlt2, ha, hb, h1]
    refine Sat.drawnE [] [] (List.range 9) (fun _ _ _ => none) (by kernel_rfl) (by kernel_rfl) ?_
    by_cases h2 : b < a
    ·simp (disch := omega) only [push_cast, go_sem, zA, simprocAttr, hlt, hlt2, ha, hb, h2]
     rw [← he, hs]; simp [h1, h2]
    ·simp (disch := omega) only [push_cast, go_sem, zA, simprocAttr, hlt, hlt2, ha, hb, h2]
     refine hJ (i + 1) _ _ ⟨by omega, by omega, by rw [← he, hs]; simp [h1, h2]⟩ (by omega) ?_
     (refine zB ?_; repeat (first | exact zC | exact zD | refine zE (by decide) ?_ | refine zF ?_ ?_ | refine zG ?_ ?_)) <;> (try simp (disch := omega) only [push_cast, go_sem, zA, simprocAttr])
  ·have : i = m.length := by omega
   subst this
   simp (disch := omega) only [push_cast, go_sem, zA, simprocAttr, hlt, hlt2]
   rw [List.drop_of_length_le (Nat.le_refl m.length)] at he
   have h3 : ¬ l.length < m.length := by omega
   rw [drop_get ha] at he
   simp (disch := omega) only [push_cast, go_sem, zA, simprocAttr, h3, hlt]
   rw [← he]; rfl
 ·have : i = l.length := by omega
  subst this
  rw [List.drop_of_length_le (Nat.le_refl l.length)] at he
  simp (disch := omega) only [push_cast, go_sem, zA, simprocAttr, hlt]
  by_cases h1 : l.length < m.length
  ·simp (disch := omega) only [push_cast, go_sem, zA, simprocAttr, h1]
   obtain ⟨b, hb⟩ : ∃ b, m[l.length]? = some b := ⟨_, List.getElem?_eq_getElem h1⟩
   rw [← he, drop_get hb]; rfl
  ·have : l.length = m.length := by omega
   have h2 : ¬ m.length < l.length := by omega
   simp (disch := omega) only [push_cast, go_sem, zA, simprocAttr, h1, h2]
   rw [← he, List.drop_of_length_le (by omega)]; rfl
theorem l2Seen_fn (s t : Sn) (hs : s.small) (ht : t.small) : Fp Tryz.prog 45 [s.V, t.V] (.int .i64 (cmpS s t)) := by
 have h1 := l2Comp_fn s.rd t.rd hs.rd ht.rd
 have h2 := l2Comp_fn s.ls t.ls hs.ls ht.ls
 obtain ⟨c, hc⟩ : ∃ c, cmpL s.rd t.rd = c := ⟨_, rfl⟩
 rw [cmpS, hc]
 rw [hc] at h1
 refine Fc.start (S := []) Tryz.func45 Tryz.ntmps45 Tryz.results45 rfl (by decide) rfl (by kernel_rfl) ?_
 simp (disch := omega) only [push_cast, go_sem, zA, simprocAttr, Sn.V_eq]
 intro g2 g3
 refine callR.pure h1 rfl rfl ?_
 by_cases h0 : c = 0
 ·subst h0
  simp (disch := omega) only [push_cast, go_sem, zA, simprocAttr]
  refine callR.pure h2 rfl rfl ?_
  simp (disch := omega) only [push_cast, go_sem, zA, simprocAttr]
  rfl
 ·have h3 : (c != 0) = true := by simpa using h0
  simp (disch := omega) only [push_cast, go_sem, zA, simprocAttr, h3]
  rw [orI, if_neg h0]
end
section
open Go.RowKit
section
variable {P : Program} {imm : Nat → Prop} {w w' : World}
theorem Fc.frozen {f : FuncId} {args : List V} {e : TypeId} {n : Nat} {es : List V} (h : Fc P f args noM fun r m => ∃ γ cap, r = .msl 100 [] γ n cap ∧ m = noM.set 100 (.own e γ cap es)) (hn : n = es.length) : Fp P f args (.sl (es.map V.fz)) := by
 subst hn
 refine ⟨fun imm w vals hG hI hi hs hv => (h.fn imm w vals hG hI hi hs hv).mono ?_, h.go⟩
 rintro e' w' ⟨v, r, m, imm', rfl, ⟨γ, cap, rfl, rfl⟩, hr, hS⟩
 cases hr
 obtain ⟨h1, h2, h3⟩ := hS.inv.freeze (o := 100) (e := e) (γ := γ) (cap := cap) (es := es) (by simp [Mem.set])
 refine ⟨_, _, noM, _, rfl, ⟨rfl, rfl⟩, h2, ⟨inv_no, fun g hg => hg.elim (hS.lt g) (fun hb => (h3 g hb).1), hS.size, hS.os, hS.tape, hS.output, fun g hg hno => ⟨(hS.block g hg hno).1, ?_⟩, fun g hg => absurd hg not_owns_no⟩⟩
 constructor
 ·rintro (h | h)
  ·exact (hS.block g hg hno).2.1 h
  ·rcases hS.owns g (h3 g h).2 with h | h
   ·exact absurd h not_owns_no
   ·omega
 ·exact fun h => .inl ((hS.block g hg hno).2.2 h)
end
def pureT (l : List (FuncId × V)) : Table := fun f _ _ => (l.lookup f).map fun v r m => r = v ∧ m = noM
theorem allp_take {α : Type} {p : α → Bool} {l : List α} {k : Nat} {a : α} (h : l[k]? = some a) (hk : (l.take k).all p = true) (ha : p a = true) : (l.take (k + 1)).all p = true := by
 rw [take_get h, List.all_append, hk]; simp [ha]
theorem sorted_fp (zs : List Int) (hl : zs.length < 2 ^ 40) : Fp Tryz.prog 154 [valuesV zs] (intsV (sorted zs)) := by
 have := (sorted_fn zs hl).frozen (by simp [sorted])
 rwa [fzs_int] at this
structure Exe where
 fr : List Int
 od : List (List Int)
def Exe.V (x : Exe) : V := .agg [.sl (x.fr.map (V.int .i64)), .sl (x.od.map intsV)]
theorem Exe.V_eq (x : Exe) : x.V = .agg [.sl (x.fr.map (V.int .i64)), .sl (x.od.map intsV)] := rfl
structure Exe.small (x : Exe) : Prop where
 fr : x.fr.length < 2 ^ 40
 od : x.od.length < 2 ^ 40
 row : ∀ r ∈ x.od, r.length < 2 ^ 40
def frOk (ds : List Do) (q : Do × Int) : Bool := if q.1.reads then q.2 == -1 || (writersOf ds q.1.p).contains q.2 else q.2 == -2
def odOk (ds : List Do) (q : List Int × Nat) : Bool := sorted q.1 == writersOf ds q.2
def fits (s : Sc) (x : Exe) : Bool := decide (x.fr.length = s.es.length) && decide (x.od.length = 3) && (s.ds.zip x.fr).all (frOk s.ds) && x.od.zipIdx.all (odOk s.ds)
theorem allp_no {α : Type} {p : α → Bool} {l : List α} {k : Nat} {a : α} (h : l[k]? = some a) (ha : p a = false) : l.all p = false := by
 rw [List.all_eq_false]; exact ⟨a, List.mem_of_getElem? h, by rw [ha]; simp⟩
theorem fits_fn (s : Sc) (x : Exe) (hs : s.ds.length < 2 ^ 20) (he : s.es.length = s.ds.length) (hx : x.small) : Fp Tryz.prog 127 [s.V, x.V] (.bool (fits s x)) := by
  obtain ⟨h1, h2, h3⟩ := hx
  refine Fc.start (S := [13, 19]) Tryz.func127 Tryz.ntmps127 Tryz.results127 rfl (by decide) rfl (by kernel_rfl) ?_
  cases hl : ((x.fr.length : Int) != s.es.length)
  rotate_left
  · simp (disch := omega) only [push_cast, go_sem, zA, simprocAttr, Sc.V_eq, Exe.V_eq, hl]
    have : ¬ x.fr.length = s.es.length := fun h => by rw [h] at hl; simp at hl
    simp [fits, this]
  cases ho : ((x.od.length : Int) != 3)
  rotate_left
  · simp (disch := omega) only [push_cast, go_sem, zA, simprocAttr, Sc.V_eq, Exe.V_eq, hl, ho]
    have : ¬ x.od.length = 3 := fun h => by rw [h] at ho; simp at ho
    simp [fits, this]
  have hl' : x.fr.length = s.ds.length := by have : (x.fr.length : Int) = s.es.length := by simpa using hl
                                             omega
  have ho' : x.od.length = 3 := by have : (x.od.length : Int) = 3 := by simpa using ho
                                   omega
  have hfit : fits s x = ((s.ds.zip x.fr).all (frOk s.ds) && x.od.zipIdx.all (odOk s.ds)) := by simp [fits, hl', he, ho']
  simp (disch := omega) only [push_cast, go_sem, zA, simprocAttr, Sc.V_eq, Exe.V_eq, hl, ho]
  intro g1 g2
  refine Sat.loop (σ := Nat) (fun k => upd (upd (upd (upd (upd noT 2 (.ptr 2 [] 0 0 g1 3)) 3 (.ptr 3 [] 0 0 g2 2)) 24 (.sl (x.fr.map (V.int .i64)))) 25 (.int .i64 x.fr.length)) 26 (.int .i64 k))
    (fun _ => (noM.set 2 (.own 74 (some g1) 1 [.agg [.sl (s.p.map thrV), .sl (s.es.map Evt.V), .sl (s.ds.map Do.V)]])).set 3 (.own 33 (some g2) 1 [.agg [.sl (x.fr.map (V.int .i64)), .sl (x.od.map intsV)]]))
    (fun k => k ≤ x.fr.length ∧ ((s.ds.zip x.fr).take k).all (frOk s.ds) = true) (fun k => x.fr.length - k) 0 (by simp) ?_ ?_
  · (refine zB ?_; repeat (first | exact zC | exact zD | refine zE (by decide) ?_ | refine zF ?_ ?_ | refine zG ?_ ?_)) <;> (try simp (disch := omega) only [push_cast, go_sem, zA, simprocAttr])
  rintro k ⟨hk, hall⟩ J hJ
  refine Sat.of (S := [19]) (by kernel_rfl) ?_
  rcases Nat.lt_or_ge k x.fr.length with hlt | hge
  · obtain ⟨d, hd⟩ : ∃ d, s.ds[k]? = some d := ⟨_, List.getElem?_eq_getElem (by omega)⟩
    obtain ⟨f, hf⟩ : ∃ f, x.fr[k]? = some f := ⟨_, List.getElem?_eq_getElem hlt⟩
    have hz : (s.ds.zip x.fr)[k]? = some (d, f) := by simp [List.getElem?_zip_eq_some, hd, hf]
    have hkd : k < s.ds.length := by omega
    have bad : frOk s.ds (d, f) = false → fits s x = false := fun h => by rw [hfit, allp_no hz h]; rfl
    simp (disch := omega) only [push_cast, go_sem, zA, simprocAttr, hd, hf, hlt, hkd, Do.V_eq]
    intro g3
    refine callR.pure (reads_fn d) rfl rfl ?_
    have next : frOk s.ds (d, f) = true → ((s.ds.zip x.fr).take (k + 1)).all (frOk s.ds) = true := allp_take hz hall
    have hn : k + 1 ≤ x.fr.length := by omega
    have hm : x.fr.length - (k + 1) < x.fr.length - k := by omega
    cases hr : d.reads
    · cases hf2 : (f != -2)
      · simp (disch := omega) only [push_cast, go_sem, zA, simprocAttr, hf2]
        refine hJ (k + 1) _ _ ⟨hn, next (by simp only [bne, Bool.not_eq_false'] at hf2; simp [frOk, hr, hf2])⟩ hm ?_
        (refine zB ?_; repeat (first | exact zC | exact zD | refine zE (by decide) ?_ | refine zF ?_ ?_ | refine zG ?_ ?_)) <;> (try simp (disch := omega) only [push_cast, go_sem, zA, simprocAttr])
      · simp (disch := omega) only [push_cast, go_sem, zA, simprocAttr, hf2]
        rw [bad (by simp only [bne, Bool.not_eq_true'] at hf2; simp [frOk, hr, hf2])]
    · cases hf1 : (f != -1)
      · simp (disch := omega) only [push_cast, go_sem, zA, simprocAttr, hf1]
        refine hJ (k + 1) _ _ ⟨hn, next (by simp only [bne, Bool.not_eq_false'] at hf1; simp [frOk, hr, hf1])⟩ hm ?_
        (refine zB ?_; repeat (first | exact zC | exact zD | refine zE (by decide) ?_ | refine zF ?_ ?_ | refine zG ?_ ?_)) <;> (try simp (disch := omega) only [push_cast, go_sem, zA, simprocAttr])
      · simp (disch := omega) only [push_cast, go_sem, zA, simprocAttr, hf1]
        refine callR.pure (writers_fn s d.p hs) rfl rfl ?_
        simp (disch := omega) only [push_cast, go_sem, zA, simprocAttr]
        refine callR.pure (contains_fn _ f (by have := wrs_le s.ds d.p s.ds.length; unfold writersOf; omega)) rfl rfl ?_
        cases hc : (writersOf s.ds d.p).contains f
        · simp (disch := omega) only [push_cast, go_sem, zA, simprocAttr]
          rw [bad (by simp only [bne, Bool.not_eq_true'] at hf1; simp only [frOk, hr, hf1, hc, if_true]; rfl)]
        · simp (disch := omega) only [push_cast, go_sem, zA, simprocAttr]
          refine hJ (k + 1) _ _ ⟨hn, next (by simp only [frOk, hr, hc, if_true, Bool.or_true])⟩ hm ?_
          (refine zB ?_; repeat (first | exact zC | exact zD | refine zE (by decide) ?_ | refine zF ?_ ?_ | refine zG ?_ ?_)) <;> (try simp (disch := omega) only [push_cast, go_sem, zA, simprocAttr])
  · have : k = x.fr.length := by omega
    subst this
    have hall1 : (s.ds.zip x.fr).all (frOk s.ds) = true := by rwa [List.take_of_length_le (by simp; omega)] at hall
    simp (disch := omega) only [push_cast, go_sem, zA, simprocAttr]
    refine Sat.of (S := [19]) (by kernel_rfl) ?_
    simp (disch := omega) only [push_cast, go_sem, zA, simprocAttr]
    refine Sat.loop (σ := Nat) (fun k => upd (upd (upd (upd (upd noT 2 (.ptr 2 [] 0 0 g1 3)) 3 (.ptr 3 [] 0 0 g2 2)) 56 (.sl (x.od.map intsV))) 57 (.int .i64 x.od.length)) 58 (.int .i64 k))
      (fun _ => (noM.set 2 (.own 74 (some g1) 1 [.agg [.sl (s.p.map thrV), .sl (s.es.map Evt.V), .sl (s.ds.map Do.V)]])).set 3 (.own 33 (some g2) 1 [.agg [.sl (x.fr.map (V.int .i64)), .sl (x.od.map intsV)]]))
      (fun k => k ≤ x.od.length ∧ (x.od.zipIdx.take k).all (odOk s.ds) = true) (fun k => x.od.length - k) 0 (by simp) ?_ ?_
    · (refine zB ?_; repeat (first | exact zC | exact zD | refine zE (by decide) ?_ | refine zF ?_ ?_ | refine zG ?_ ?_)) <;> (try simp (disch := omega) only [push_cast, go_sem, zA, simprocAttr])
    clear hJ
    rintro k ⟨hk, hall⟩ J hJ
    refine Sat.of (S := []) (by kernel_rfl) ?_
    rcases Nat.lt_or_ge k x.od.length with hlt | hge
    · obtain ⟨row, hd⟩ : ∃ d, x.od[k]? = some d := ⟨_, List.getElem?_eq_getElem hlt⟩
      have hz : x.od.zipIdx[k]? = some (row, k) := by simp [hd]
      have hrow := h3 row (List.mem_of_getElem? hd)
      have hn : k + 1 ≤ x.od.length := by omega
      have hm : x.od.length - (k + 1) < x.od.length - k := by omega
      simp (disch := omega) only [push_cast, go_sem, zA, simprocAttr, hd, hlt, intsV_eq]
      refine Sat.drawnE [] [] [1, 2, 3, 5, 6] (pureT [(155, valuesV row), (154, intsV (sorted row)), (125, intsV (writersOf s.ds k)), (153, .bool (sorted row == writersOf s.ds k))]) (by kernel_rfl) (by kernel_rfl) ?_
      simp (disch := omega) only [push_cast, go_sem, zA, simprocAttr]
      refine runD_pure rfl (values_fn row) rfl rfl ?_ ?_
      · rfl
      simp (disch := omega) only [push_cast, go_sem, zA, simprocAttr]
      refine runD_pure rfl (sorted_fp row hrow) rfl rfl ?_ ?_
      · rfl
      simp (disch := omega) only [push_cast, go_sem, zA, simprocAttr]
      refine runD_pure rfl (writers_fn s k hs) rfl rfl ?_ ?_
      · rfl
      simp (disch := omega) only [push_cast, go_sem, zA, simprocAttr]
      refine runD_pure rfl (equal_fn _ _ (by simp only [sorted, List.length_mergeSort]; exact hrow) (by have := wrs_le s.ds k s.ds.length; unfold writersOf; omega)) rfl rfl ?_ ?_
      · rfl
      cases hc : (sorted row == writersOf s.ds k)
      · simp (disch := omega) only [push_cast, go_sem, zA, simprocAttr]
        rw [hfit, allp_no hz (show odOk s.ds (row, k) = false from hc), Bool.and_false]
      · simp (disch := omega) only [push_cast, go_sem, zA, simprocAttr]
        refine hJ (k + 1) _ _ ⟨hn, allp_take hz hall (show odOk s.ds (row, k) = true from hc)⟩ hm ?_
        (refine zB ?_; repeat (first | exact zC | exact zD | refine zE (by decide) ?_ | refine zF ?_ ?_ | refine zG ?_ ?_)) <;> (try simp (disch := omega) only [push_cast, go_sem, zA, simprocAttr])
    · have : k = x.od.length := by omega
      subst this
      have hall2 : x.od.zipIdx.all (odOk s.ds) = true := by rwa [List.take_of_length_le (by simp)] at hall
      simp (disch := omega) only [push_cast, go_sem, zA, simprocAttr]
      refine Sat.of (S := []) (by kernel_rfl) ?_
      simp (disch := omega) only [push_cast, go_sem, zA, simprocAttr]
      rw [hfit, hall1, hall2]; rfl
end
section
open Go.RowKit
def lastRd (ds : List Do) : Nat → Nat
 | 0 => 0
 | a + 1 => match ds[a]? with | some d => if d.reads then a else lastRd ds a | none => lastRd ds a
theorem lastRd_spec {ds : List Do} : ∀ {a : Nat}, (∃ r d, r < a ∧ ds[r]? = some d ∧ d.reads = true) → lastRd ds a < a ∧ (∃ d, ds[lastRd ds a]? = some d ∧ d.reads = true) ∧ ∀ j d, lastRd ds a < j → j < a → ds[j]? = some d → d.reads = false
 | 0, ⟨r, d, h, _⟩ => absurd h (by omega)
 | a + 1, ⟨r, d, h1, h2, h3⟩ => by
  unfold lastRd
  cases ha : ds[a]? with
  | none =>
   have hra : r < a := by
    rcases Nat.lt_or_ge r a with h | h
    ·exact h
    ·have : r = a := by omega
     subst this; rw [ha] at h2; cases h2
   obtain ⟨k1, k2, k3⟩ := lastRd_spec ⟨r, d, hra, h2, h3⟩
   refine ⟨by dsimp only; omega, k2, fun j d' h4 h5 h6 => ?_⟩
   rcases Nat.lt_or_ge j a with h | h
   ·exact k3 j d' h4 h h6
   ·have : j = a := by omega
    subst this; rw [ha] at h6; cases h6
  | some d1 =>
   dsimp only
   cases hr : d1.reads
   ·have hra : r < a := by
     rcases Nat.lt_or_ge r a with h | h
     ·exact h
     ·have : r = a := by omega
      subst this; rw [ha] at h2; cases h2; rw [hr] at h3; cases h3
    obtain ⟨k1, k2, k3⟩ := lastRd_spec ⟨r, d, hra, h2, h3⟩
    simp only [Bool.false_eq_true, if_false]
    refine ⟨by omega, k2, fun j d' h4 h5 h6 => ?_⟩
    rcases Nat.lt_or_ge j a with h | h
    ·exact k3 j d' h4 h h6
    ·have : j = a := by omega
     subst this; rw [ha] at h6; cases h6; exact hr
   ·simp only [if_true]
    exact ⟨by omega, ⟨d1, ha, hr⟩, fun j d' h4 h5 => by omega⟩
def valI (ds : List Do) (fr : List Int) : Nat → Nat → Option Int
 | 0, _ => none
 | m + 1, a => match ds[a]? with
  | none => none
  | some d => if d.valued then some d.v else if d.k == 3 then valI ds fr m (lastRd ds a) else match fr[a]? with
   | none => none
   | some f => if f == -1 then some 0 else valI ds fr m f.toNat
def valR : Option Int → V
 | some v => .tuple [.int .i64 v, .bool true]
 | none => .tuple [.int .i64 0, .bool false]
def copyOk (ds : List Do) : Prop := ∀ (a : Nat) (d : Do), ds[a]? = some d → d.k = 3 → ∃ (r : Nat) (d' : Do), r < a ∧ ds[r]? = some d' ∧ d'.reads = true
def fromOk (ds : List Do) (fr : List Int) : Prop := ds.length ≤ fr.length ∧ ∀ (a : Nat) d (f : Int), ds[a]? = some d → fr[a]? = some f → d.reads = true → f = -1 ∨ ∃ (b : Nat) (d' : Do), f = b ∧ ds[b]? = some d' ∧ d'.writes = true
theorem value_fn (s : Sc) (x : Exe) (a : Nat) (hs : s.ds.length < 2 ^ 20) (he : s.es.length = s.ds.length) (hx : x.fr.length < 2 ^ 40) (hc : copyOk s.ds) (hf : fromOk s.ds x.fr) (ha : ∃ d, s.ds[a]? = some d ∧ d.uses = true) :
  Fp Tryz.prog 89 [s.V, x.V, .int .i64 a] (valR (valI s.ds x.fr s.ds.length a)) := by
 refine Fc.start (S := [12]) Tryz.func89 Tryz.ntmps89 Tryz.results89 rfl (by decide) rfl (by kernel_rfl) ?_
 simp (disch := omega) only [push_cast, go_sem, zA, simprocAttr, Sc.V_eq, Exe.V_eq]
 intro g1 g2
 refine Sat.loop (σ := Nat × Nat) (fun k => upd (upd (upd (upd (upd noT 3 (.ptr 3 [] 0 0 g1 3)) 4 (.ptr 4 [] 0 0 g2 2)) 11 (.int .i64 s.es.length)) 12 (.int .i64 k.1)) 2 (.int .i64 k.2))
  (fun _ => (noM.set 3 (.own 74 (some g1) 1 [.agg [.sl (s.p.map thrV), .sl (s.es.map Evt.V), .sl (s.ds.map Do.V)]])).set 4 (.own 33 (some g2) 1 [.agg [.sl (x.fr.map (V.int .i64)), .sl (x.od.map intsV)]]))
  (fun k => k.1 ≤ s.ds.length ∧ (∃ d, s.ds[k.2]? = some d ∧ d.uses = true) ∧ valI s.ds x.fr (s.ds.length - k.1) k.2 = valI s.ds x.fr s.ds.length a) (fun k => s.ds.length - k.1) (0, a) ⟨by simp, ha, rfl⟩ ?_ ?_
 ·(refine zB ?_; repeat (first | exact zC | exact zD | refine zE (by decide) ?_ | refine zF ?_ ?_ | refine zG ?_ ?_)) <;> (try simp (disch := omega) only [push_cast, go_sem, zA, simprocAttr])
 rintro ⟨k, b⟩ ⟨hk, ⟨d, hd, hu⟩, hv⟩ J hJ
 refine Sat.of (S := []) (by kernel_rfl) ?_
 simp only at hk hd hv hJ
 have hb := (List.getElem?_eq_some_iff.1 hd).1
 have hbf : b < x.fr.length := by have := hf.1; omega
 obtain ⟨f, hfb⟩ : ∃ f, x.fr[b]? = some f := ⟨_, List.getElem?_eq_getElem hbf⟩
 rcases Nat.lt_or_ge k s.ds.length with hlt | hge
 ·have hke : k < s.es.length := by omega
  obtain ⟨m, hm⟩ : ∃ m, s.ds.length - k = m + 1 := ⟨s.ds.length - k - 1, by omega⟩
  have hm2 : s.ds.length - (k + 1) = m := by omega
  rw [hm, valI, hd] at hv
  dsimp only at hv
  simp (disch := omega) only [push_cast, go_sem, zA, simprocAttr, hd, hke, hb, Do.V_eq]
  intro g3
  refine callR.pure (valued_fn d) rfl rfl ?_
  cases hvd : d.valued
  rotate_left
  ·simp (disch := omega) only [push_cast, go_sem, zA, simprocAttr, Do.V_eq]
   rw [← hv, hvd]; rfl
  rw [hvd] at hv
  simp only [Bool.false_eq_true, if_false] at hv
  cases h3 : (d.k == 3)
  rotate_left
  ·rw [h3] at hv
   simp only [if_true] at hv
   have h3' : d.k = 3 := by simpa using h3
   obtain ⟨r1, r2, r3⟩ := lastRd_spec (hc b d hd h3')
   simp (disch := omega) only [push_cast, go_sem, zA, simprocAttr, h3, Do.V_eq]
   refine callR.pure (lastRead_fn s b _ hs (by omega) r1 r2 r3) rfl rfl ?_
   simp (disch := omega) only [push_cast, go_sem, zA, simprocAttr]
   refine hJ (k + 1, lastRd s.ds b) _ _ ⟨by dsimp only; omega, ?_, by dsimp only; rw [hm2]; exact hv⟩ (by dsimp only; omega) ?_
   ·obtain ⟨d', h1, h2⟩ := r2
    exact ⟨d', h1, by simp [Do.uses, h2]⟩
   (refine zB ?_; repeat (first | exact zC | exact zD | refine zE (by decide) ?_ | refine zF ?_ ?_ | refine zG ?_ ?_)) <;> (try simp (disch := omega) only [push_cast, go_sem, zA, simprocAttr])
  ·rw [h3] at hv
   simp only [Bool.false_eq_true, if_false, hfb] at hv
   have hrd : d.reads = true := by
    revert hu hvd h3
    simp only [Do.uses, Do.reads, Do.writes, Do.valued]
    cases d.k == 1 <;> cases d.k == 2 <;> cases d.k == 3 <;> cases d.k == 5 <;> cases d.k == 6 <;> decide
   cases hf1 : (f == -1)
   ·rw [hf1] at hv
    simp only [Bool.false_eq_true, if_false] at hv
    rcases hf.2 b d f hd hfb hrd with h | ⟨c, d', rfl, h1, h2⟩
    ·rw [h] at hf1; simp at hf1
    simp (disch := omega) only [push_cast, go_sem, zA, simprocAttr, h3, hf1, hbf, hfb, Do.V_eq]
    refine hJ (k + 1, c) _ _ ⟨by dsimp only; omega, ⟨d', h1, by simp [Do.uses, h2]⟩, by dsimp only; rw [hm2, ← hv]; simp⟩ (by dsimp only; omega) ?_
    (refine zB ?_; repeat (first | exact zC | exact zD | refine zE (by decide) ?_ | refine zF ?_ ?_ | refine zG ?_ ?_)) <;> (try simp (disch := omega) only [push_cast, go_sem, zA, simprocAttr])
   ·rw [hf1] at hv
    simp (disch := omega) only [push_cast, go_sem, zA, simprocAttr, h3, hf1, hbf, hfb, Do.V_eq]
    rw [← hv]; rfl
 ·have : k = s.ds.length := by omega
  subst this
  have hke : ¬ s.ds.length < s.es.length := by omega
  simp (disch := omega) only [push_cast, go_sem, zA, simprocAttr, hke]
  refine Sat.of (S := []) (by kernel_rfl) ?_
  simp (disch := omega) only [push_cast, go_sem, zA, simprocAttr]
  rw [← hv, Nat.sub_self]; rfl
theorem mem_wrs {ds : List Do} {pl f : Int} : ∀ {k : Nat}, f ∈ wrs ds pl k → ∃ (b : Nat) (d : Do), b < k ∧ f = b ∧ ds[b]? = some d ∧ d.writes = true ∧ d.p = pl
 | 0, h => by simp [wrs] at h
 | k + 1, h => by
  simp only [wrs, List.mem_append] at h
  rcases h with h | h
  ·obtain ⟨b, d, h1, h2⟩ := mem_wrs h
   exact ⟨b, d, by omega, h2⟩
  ·split at h
   ·rename_i d hd
    split at h
    ·rename_i hw
     simp at h
     simp only [Bool.and_eq_true, beq_iff_eq] at hw
     exact ⟨k, d, by omega, h, hd, hw.1, hw.2⟩
    ·cases h
   ·cases h
theorem fromOk_of {s : Sc} {x : Exe} (he : s.es.length = s.ds.length) (h : fits s x = true) : fromOk s.ds x.fr := by
 simp only [fits, Bool.and_eq_true, decide_eq_true_eq, List.all_eq_true] at h
 obtain ⟨⟨⟨h1, _⟩, h2⟩, _⟩ := h
 refine ⟨by omega, fun a d f hd hf hr => ?_⟩
 have := h2 (d, f) (List.mem_of_getElem? (i := a) (by simp [List.getElem?_zip_eq_some, hd, hf]))
 simp only [frOk, hr, if_true, Bool.or_eq_true, beq_iff_eq, List.contains_iff_mem] at this
 rcases this with h | h
 ·exact .inl h
 ·obtain ⟨b, d', _, h3, h4, h5, _⟩ := mem_wrs h
  exact .inr ⟨b, d', h3, h4, h5⟩
def endOk (ds : List Do) (fr : List Int) (q : Do × Nat) : Bool := !q.1.uses || (valI ds fr ds.length q.2).isSome
def okX (s : Sc) (x : Exe) : Bool := fits s x && s.ds.zipIdx.all (endOk s.ds x.fr)
theorem ok_fn (s : Sc) (x : Exe) (hs : s.ds.length < 2 ^ 20) (he : s.es.length = s.ds.length) (hx : x.small) (hc : copyOk s.ds) : Fp Tryz.prog 87 [s.V, x.V] (.bool (okX s x)) := by
 refine Fc.start (S := [11]) Tryz.func87 Tryz.ntmps87 Tryz.results87 rfl (by decide) rfl (by kernel_rfl) ?_
 simp (disch := omega) only [push_cast, go_sem, zA, simprocAttr, Sc.V_eq, Exe.V_eq]
 intro g1 g2
 refine callR.pure (fits_fn s x hs he hx) rfl rfl ?_
 cases hfit : fits s x
 ·simp (disch := omega) only [push_cast, go_sem, zA, simprocAttr]
  simp [okX, hfit]
 have hf := fromOk_of he hfit
 simp (disch := omega) only [push_cast, go_sem, zA, simprocAttr]
 refine Sat.loop (σ := Nat) (fun k => upd (upd (upd (upd (upd noT 2 (.ptr 2 [] 0 0 g1 3)) 3 (.ptr 3 [] 0 0 g2 2)) 14 (.sl (s.ds.map Do.V))) 15 (.int .i64 s.ds.length)) 16 (.int .i64 k))
  (fun _ => (noM.set 2 (.own 74 (some g1) 1 [.agg [.sl (s.p.map thrV), .sl (s.es.map Evt.V), .sl (s.ds.map Do.V)]])).set 3 (.own 33 (some g2) 1 [.agg [.sl (x.fr.map (V.int .i64)), .sl (x.od.map intsV)]]))
  (fun k => k ≤ s.ds.length ∧ (s.ds.zipIdx.take k).all (endOk s.ds x.fr) = true) (fun k => s.ds.length - k) 0 (by simp) ?_ ?_
 ·(refine zB ?_; repeat (first | exact zC | exact zD | refine zE (by decide) ?_ | refine zF ?_ ?_ | refine zG ?_ ?_)) <;> (try simp (disch := omega) only [push_cast, go_sem, zA, simprocAttr])
 rintro k ⟨hk, hall⟩ J hJ
 refine Sat.of (S := []) (by kernel_rfl) ?_
 rcases Nat.lt_or_ge k s.ds.length with hlt | hge
 ·obtain ⟨d, hd⟩ : ∃ d, s.ds[k]? = some d := ⟨_, List.getElem?_eq_getElem hlt⟩
  have hz : s.ds.zipIdx[k]? = some (d, k) := by simp [hd]
  have hn : k + 1 ≤ s.ds.length := by omega
  have hm : s.ds.length - (k + 1) < s.ds.length - k := by omega
  simp (disch := omega) only [push_cast, go_sem, zA, simprocAttr, hd, hlt, Do.V_eq]
  intro g3
  refine callR.pure (uses_fn d) rfl rfl ?_
  cases hu : d.uses
  ·simp (disch := omega) only [push_cast, go_sem, zA, simprocAttr]
   refine hJ (k + 1) _ _ ⟨hn, allp_take hz hall (by simp [endOk, hu])⟩ hm ?_
   (refine zB ?_; repeat (first | exact zC | exact zD | refine zE (by decide) ?_ | refine zF ?_ ?_ | refine zG ?_ ?_)) <;> (try simp (disch := omega) only [push_cast, go_sem, zA, simprocAttr])
  ·simp (disch := omega) only [push_cast, go_sem, zA, simprocAttr]
   refine callR.pure (value_fn s x k hs he hx.fr hc hf ⟨d, hd, hu⟩) rfl rfl ?_
   cases hv : valI s.ds x.fr s.ds.length k with
   | none =>
    simp (disch := omega) only [push_cast, go_sem, zA, simprocAttr, valR]
    rw [okX, allp_no hz (show endOk s.ds x.fr (d, k) = false by simp [endOk, hu, hv]), Bool.and_false]
   | some v =>
    simp (disch := omega) only [push_cast, go_sem, zA, simprocAttr, valR]
    refine hJ (k + 1) _ _ ⟨hn, allp_take hz hall (by simp [endOk, hv])⟩ hm ?_
    (refine zB ?_; repeat (first | exact zC | exact zD | refine zE (by decide) ?_ | refine zF ?_ ?_ | refine zG ?_ ?_)) <;> (try simp (disch := omega) only [push_cast, go_sem, zA, simprocAttr])
 ·have : k = s.ds.length := by omega
  subst this
  have hall2 : s.ds.zipIdx.all (endOk s.ds x.fr) = true := by rwa [List.take_of_length_le (by simp)] at hall
  simp (disch := omega) only [push_cast, go_sem, zA, simprocAttr]
  refine Sat.of (S := []) (by kernel_rfl) ?_
  simp (disch := omega) only [push_cast, go_sem, zA, simprocAttr]
  rw [okX, hfit, hall2]; rfl
theorem thrGo_copy : ∀ {l : List Do} {r i : Bool} {j : Nat} {d : Do}, thrGo l r i = true → l[j]? = some d → d.k = 3 → r = true ∨ ∃ (j' : Nat) (d' : Do), j' < j ∧ l[j']? = some d' ∧ d'.reads = true
 | [], _, _, _, _, _, h, _ => by simp at h
 | d0 :: l, r, i, j, d, h, hd, h3 => by
  rw [thrGo] at h
  split at h
  ·cases h
  ·rename_i hw
   cases j with
   | zero =>
    simp at hd; subst hd
    left
    cases r
    ·simp [Do.wrong, h3] at hw
    ·rfl
   | succ j =>
    simp at hd
    rcases thrGo_copy h hd h3 with h1 | ⟨j', d', h1, h2, h3⟩
    ·rw [Bool.or_eq_true] at h1
     rcases h1 with h1 | h1
     ·exact .inl h1
     ·exact .inr ⟨0, d0, by omega, rfl, h1⟩
    ·exact .inr ⟨j' + 1, d', by omega, by simpa using h2, h3⟩
theorem evThr_get {t : Nat} {l : List Do} {e : Evt} : ∀ {k a : Nat}, (evThr t l k)[a]? = some e → ∃ j d, j < k ∧ l[j]? = some d ∧ e.t = t ∧ e.s = j ∧ (evThr t l j).length ≤ a
 | 0, a, h => by simp [evThr] at h
 | k + 1, a, h => by
  rw [evThr, List.getElem?_append] at h
  split at h
  ·obtain ⟨j, d, h1, h2⟩ := evThr_get h
   exact ⟨j, d, by omega, h2⟩
  ·rename_i hle
   cases hd : l[k]? with
   | none => rw [hd] at h; simp at h
   | some d =>
    rw [hd] at h
    dsimp only at h
    have hm := List.mem_of_getElem? h
    have : e.t = t ∧ e.s = k := by
     unfold evsOf at hm
     split at hm
     ·simp at hm; rcases hm with rfl | rfl <;> exact ⟨rfl, rfl⟩
     ·simp at hm; subst hm; exact ⟨rfl, rfl⟩
    exact ⟨k, d, by omega, hd, this.1, this.2, by omega⟩
theorem evPro_get {p : Prog} {e : Evt} : ∀ {i a : Nat}, (evPro p i)[a]? = some e → ∃ j l, j < i ∧ p[j]? = some l ∧ (evPro p j).length ≤ a ∧ (evThr j l l.length)[a - (evPro p j).length]? = some e
 | 0, a, h => by simp [evPro] at h
 | i + 1, a, h => by
  rw [evPro, List.getElem?_append] at h
  split at h
  ·obtain ⟨j, l, h1, h2⟩ := evPro_get h
   exact ⟨j, l, by omega, h2⟩
  ·rename_i hle
   cases hd : p[i]? with
   | none => rw [hd] at h; simp at h
   | some l =>
    rw [hd] at h
    exact ⟨i, l, by omega, hd, by omega, h⟩
theorem evThr_at {t : Nat} {l : List Do} {d : Do} : ∀ {k j : Nat}, j < k → l[j]? = some d → (evThr t l k)[(evThr t l j).length]? = some ⟨t, j, false⟩
 | 0, j, h, _ => absurd h (by omega)
 | k + 1, j, h, hd => by
  rw [evThr]
  rcases Nat.lt_or_ge j k with hj | hj
  ·have := evThr_at (t := t) hj hd
   rw [List.getElem?_append_left (List.getElem?_eq_some_iff.1 this).1]; exact this
  ·have : j = k := by omega
   subst this
   rw [List.getElem?_append_right (Nat.le_refl _), hd, Nat.sub_self]
   dsimp only [evsOf]
   split <;> rfl
theorem evPro_at {p : Prog} {l : List Do} {b : Nat} {e : Evt} : ∀ {i j : Nat}, j < i → p[j]? = some l → (evThr j l l.length)[b]? = some e → (evPro p i)[(evPro p j).length + b]? = some e
 | 0, j, h, _, _ => absurd h (by omega)
 | i + 1, j, h, hl, hb => by
  rw [evPro]
  rcases Nat.lt_or_ge j i with hj | hj
  ·have := evPro_at hj hl hb
   rw [List.getElem?_append_left (List.getElem?_eq_some_iff.1 this).1]; exact this
  ·have : j = i := by omega
   subst this
   rw [List.getElem?_append_right (by omega), hl, Nat.add_sub_cancel_left]
   exact hb
theorem events_get {p : Prog} {e : Evt} {a : Nat} (h : (events p)[a]? = some e) : ∃ i l j d, p[i]? = some l ∧ l[j]? = some d ∧ e.t = (i : Nat) ∧ e.s = (j : Nat) ∧ stepAt p e = d ∧ (evPro p i).length + (evThr i l j).length ≤ a := by
 obtain ⟨i, l, _, hl, h1, h2⟩ := evPro_get h
 obtain ⟨j, d, _, hd, h3, h4, h5⟩ := evThr_get h2
 exact ⟨i, l, j, d, hl, hd, h3, h4, by simp [stepAt, h3, h4, hl, hd], by omega⟩
theorem events_at {p : Prog} {l : List Do} {d : Do} {i j : Nat} (hl : p[i]? = some l) (hd : l[j]? = some d) : (events p)[(evPro p i).length + (evThr i l j).length]? = some ⟨i, j, false⟩ :=
 evPro_at (List.getElem?_eq_some_iff.1 hl).1 hl (evThr_at (List.getElem?_eq_some_iff.1 hd).1 hd)
theorem evThr_mono {t : Nat} {l : List Do} {d : Do} {j : Nat} (hd : l[j]? = some d) : ∀ {k : Nat}, j < k → (evThr t l j).length < (evThr t l k).length
 | 0, h => absurd h (by omega)
 | k + 1, h => by
  have : (evThr t l (j + 1)).length = (evThr t l j).length + (evsOf t j d).length := by rw [evThr, hd, List.length_append]
  have h1 : 0 < (evsOf t j d).length := by unfold evsOf; split <;> simp
  rcases Nat.lt_or_ge j k with hj | hj
  ·have h2 := evThr_mono (t := t) hd hj
   have : (evThr t l k).length ≤ (evThr t l (k + 1)).length := by rw [evThr, List.length_append]; exact Nat.le_add_right _ _
   omega
  ·have : j = k := by omega
   subst this
   omega
theorem scene_len (p : Prog) : (scene p).es.length = (scene p).ds.length := by simp [scene]
theorem scene_copy {p : Prog} (h : progOk p = true) : copyOk (scene p).ds := by
 intro a d hd h3
 have hth : ∀ l ∈ p, threadOk l = true := by
  simp only [progOk, Bool.and_eq_true, List.all_eq_true] at h
  exact h.1.1.2
 simp only [scene, List.getElem?_map, Option.map_eq_some_iff] at hd
 obtain ⟨e, he, rfl⟩ := hd
 obtain ⟨i, l, j, d, hl, hd, h1, h2, hst, hpos⟩ := events_get he
 rw [hst] at h3
 have hok := hth l (List.mem_of_getElem? hl)
 simp only [threadOk, Bool.and_eq_true] at hok
 rcases thrGo_copy hok.1 hd h3 with hf | ⟨j', d', k1, k2, k3⟩
 ·cases hf
 ·refine ⟨(evPro p i).length + (evThr i l j').length, d', ?_, ?_, k3⟩
  ·have := evThr_mono (t := i) k2 k1; omega
  ·simp only [scene, List.getElem?_map, events_at hl k2, Option.map_some]
   simp [stepAt, hl, k2]
def execOk (p : Prog) (x : Exe) : Bool := progOk p && okX (scene p) x
end
section
open Go.RowKit
def ownB (es : List Evt) (a b : Nat) : Bool := decide (a < b) && (es[a]?.getD default).t == (es[b]?.getD default).t
theorem own_fn (s : Sc) (a b : Nat) (ha : a < s.es.length) (hb : b < s.es.length) : Fp Tryz.prog 93 [s.V, .int .i64 a, .int .i64 b] (.bool (ownB s.es a b)) := by
 obtain ⟨ea, hea⟩ : ∃ e, s.es[a]? = some e := ⟨_, List.getElem?_eq_getElem ha⟩
 obtain ⟨eb, heb⟩ : ∃ e, s.es[b]? = some e := ⟨_, List.getElem?_eq_getElem hb⟩
 refine Fc.start (S := []) Tryz.func93 Tryz.ntmps93 Tryz.results93 rfl (by decide) rfl (by kernel_rfl) ?_
 simp (disch := omega) only [push_cast, go_sem, zA, simprocAttr, Sc.V_eq]
 intro g
 refine Sat.drawnE [] [] (List.range 19) (fun _ _ _ => none) (by kernel_rfl) (by kernel_rfl) ?_
 by_cases h : a < b <;> simp (disch := omega) only [push_cast, go_sem, zA, simprocAttr, h, hea, heb, ha, hb, Evt.V_eq] <;> simp [ownB, h, hea, heb]
def overB (ds : List Do) (x : Exe) (a b : Nat) : Bool :=
 !(a == b) && (ds[a]?.getD default).uses && (ds[b]?.getD default).writes && (ds[a]?.getD default).p == (ds[b]?.getD default).p &&
  decide (Lib.idxOf (x.od[(ds[b]?.getD default).p.toNat]?.getD []) (if (ds[a]?.getD default).reads then x.fr[a]?.getD 0 else a) < Lib.idxOf (x.od[(ds[b]?.getD default).p.toNat]?.getD []) b)
structure Fit (ds : List Do) (x : Exe) : Prop where
 fr : x.fr.length = ds.length
 od : x.od.length = 3
 row : ∀ r ∈ x.od, r.length < 2 ^ 40
 p : ∀ d ∈ ds, d.uses = true → 0 ≤ d.p ∧ d.p < 3
theorem over_fn (s : Sc) (x : Exe) (a b : Nat) (ha : a < s.ds.length) (hb : b < s.ds.length) (hx : Fit s.ds x) : Fp Tryz.prog 94 [s.V, x.V, .int .i64 a, .int .i64 b] (.bool (overB s.ds x a b)) := by
 obtain ⟨hfr, hod, hrow, hp⟩ := hx
 obtain ⟨da, hda⟩ : ∃ e, s.ds[a]? = some e := ⟨_, List.getElem?_eq_getElem ha⟩
 obtain ⟨db, hdb⟩ : ∃ e, s.ds[b]? = some e := ⟨_, List.getElem?_eq_getElem hb⟩
 have e1 : s.ds[a]?.getD default = da := by rw [hda]; rfl
 have e2 : s.ds[b]?.getD default = db := by rw [hdb]; rfl
 unfold overB
 rw [e1, e2]
 refine Fc.start (S := [2]) Tryz.func94 Tryz.ntmps94 Tryz.results94 rfl (by decide) rfl (by kernel_rfl) ?_
 simp (disch := omega) only [push_cast, go_sem, zA, simprocAttr, Sc.V_eq, Exe.V_eq]
 intro g4 g5
 refine Sat.drawnE [(1, 10), (4, 10), (6, 10), (9, 10), (1, 11), (4, 11), (6, 11), (9, 11), (10, 11), (6, 12), (9, 12)] [] [1, 4, 6, 9] (fun _ _ _ => none) (by kernel_rfl) (by kernel_rfl) ?_
 simp (disch := omega) only [push_cast, go_sem, zA, simprocAttr, hda, hdb, ha, hb, Do.V_eq]
 intro g9 g10
 refine Sat.of (S := []) (by kernel_rfl) ?_
 by_cases hab : a = b
 ·subst hab
  simp (disch := omega) only [push_cast, go_sem, zA, simprocAttr]
 have hab' : ((a : Int) == b) = false := by simp; omega
 have hab2 : (a == b) = false := by simp; omega
 simp (disch := omega) only [push_cast, go_sem, zA, simprocAttr, hab', Do.V_eq]
 refine callR.pure (uses_fn da) rfl rfl ?_
 cases hu : da.uses
 ·simp (disch := omega) only [push_cast, go_sem, zA, simprocAttr, hu]
 simp (disch := omega) only [push_cast, go_sem, zA, simprocAttr, hu]
 refine callR.pure (writes_fn db) rfl rfl ?_
 cases hw : db.writes
 ·simp (disch := omega) only [push_cast, go_sem, zA, simprocAttr, hw]
 cases hpp : (da.p == db.p)
 ·have hpn : (da.p != db.p) = true := by simp [bne, hpp]
  simp (disch := omega) only [push_cast, go_sem, zA, simprocAttr, hw, hpn]
 have hpn : (da.p != db.p) = false := by simp [bne, hpp]
 have hub : db.uses = true := by simp [Do.uses, hw]
 obtain ⟨p0, p1⟩ := hp db (List.mem_of_getElem? hdb) hub
 obtain ⟨pl, hpl⟩ := Int.eq_ofNat_of_zero_le p0
 obtain ⟨row, hrw⟩ : ∃ row, x.od[pl]? = some row := ⟨_, List.getElem?_eq_getElem (by omega)⟩
 have hrl := hrow row (List.mem_of_getElem? hrw)
 have hpl3 : (pl : Int) < 3 := by omega
 have hpq : (da.p != (pl : Int)) = false := by rw [← hpl]; exact hpn
 obtain ⟨z, hz⟩ : ∃ z, x.fr[a]? = some z := ⟨_, List.getElem?_eq_getElem (by omega)⟩
 have haf : a < x.fr.length := by omega
 simp (disch := omega) only [push_cast, go_sem, zA, simprocAttr, hw, hpq, hpl, hrw, hod, hpl3, intsV_eq]
 refine callR.pure (reads_fn da) rfl rfl ?_
 have hi1 := index_fn row b hrl
 cases hr : da.reads
 ·have hi2 := index_fn row a hrl
  rw [intsV_eq] at hi1 hi2
  simp (disch := omega) only [push_cast, go_sem, zA, simprocAttr, hr]
  refine callR.pure hi2 rfl rfl ?_
  simp (disch := omega) only [push_cast, go_sem, zA, simprocAttr]
  refine callR.pure hi1 rfl rfl ?_
  simp (disch := omega) only [push_cast, go_sem, zA, simprocAttr]
  simp [hab2, hpl, hrw]
 ·have hi2 := index_fn row z hrl
  rw [intsV_eq] at hi1 hi2
  simp (disch := omega) only [push_cast, go_sem, zA, simprocAttr, hr, hz, haf]
  refine callR.pure hi2 rfl rfl ?_
  simp (disch := omega) only [push_cast, go_sem, zA, simprocAttr]
  refine callR.pure hi1 rfl rfl ?_
  simp (disch := omega) only [push_cast, go_sem, zA, simprocAttr, hz]
  simp [hab2, hpl, hrw]
def looseB (da db : Do) (a b lr : Nat) (f t : Int) (ok : Bool) : Bool :=
 (da.k == 4 || da.k == 9 || db.k == 4 || db.k == 9) || (da.k == 5 || db.k == 6) || (db.k == 3 && lr == a) || ((da.k == 7 || db.k == 8) && ok && decide (f ≤ a) && decide ((b : Int) ≤ t) && (da.k == 7 || (b : Int) == t))
theorem loose_fn (s : Sc) (a b : Nat) (ha : a < s.ds.length) (hb : b < s.ds.length) (lr : Nat) (f t : Int) (ok : Bool) (da db : Do) (hda : s.ds[a]? = some da) (hdb : s.ds[b]? = some db)
  (hlr : db.k = 3 → Fp Tryz.prog 129 [s.V, .int .i64 b] (.int .i64 lr)) (hin : Fp Tryz.prog 135 [s.V, .int .i64 a] (.tuple [.int .i64 f, .int .i64 t, .bool ok])) :
  Fp Tryz.prog 133 [s.V, .int .i64 a, .int .i64 b] (.bool (looseB da db a b lr f t ok)) := by
 unfold looseB
 rw [Sc.V_eq] at hlr hin
 refine Fc.start (S := [1000]) Tryz.func133 Tryz.ntmps133 Tryz.results133 rfl (by decide) rfl (by kernel_rfl) ?_
 simp (disch := omega) only [push_cast, go_sem, zA, simprocAttr, Sc.V_eq]
 intro g3
 refine Sat.drawnE [(1, 10), (4, 10), (6, 10), (9, 10), (1, 11), (4, 11), (6, 11), (9, 11), (10, 11), (6, 12), (9, 12)] [] [1, 4, 6, 9] (fun _ _ _ => none) (by kernel_rfl) (by kernel_rfl) ?_
 simp (disch := omega) only [push_cast, go_sem, zA, simprocAttr, hda, hdb, ha, hb, Do.V_eq]
 intro g7 g8
 refine Sat.cutP (upd (upd (upd (upd (upd noT 1 (.int .i64 a)) 2 (.int .i64 b)) 3 (.ptr 3 [] 0 0 g3 3)) 7 (.ptr 7 [] 0 0 g7 3)) 8 (.ptr 8 [] 0 0 g8 3))
  (((noM.set 3 (.own 74 (some g3) 1 [.agg [.sl (s.p.map thrV), .sl (s.es.map Evt.V), .sl (s.ds.map Do.V)]])).set 7 (.own 62 (some g7) 1 [.agg [.int .i64 da.k, .int .i64 da.p, .int .i64 da.v]])).set 8 (.own 62 (some g8) 1 [.agg [.int .i64 db.k, .int .i64 db.p, .int .i64 db.v]]))
  (((da.k == 4 || da.k == 9 || db.k == 4 || db.k == 9) || (da.k == 5 || db.k == 6) || (db.k == 3 && lr == a)) = false) ?_ ?_
 ·refine Sat.of (S := []) (by kernel_rfl) ?_
  cases h1 : (da.k == 4)
  rotate_left
  ·simp (disch := omega) only [push_cast, go_sem, zA, simprocAttr, h1]
  cases h2 : (da.k == 9)
  rotate_left
  ·simp (disch := omega) only [push_cast, go_sem, zA, simprocAttr, h1, h2]
  cases h3 : (db.k == 4)
  rotate_left
  ·simp (disch := omega) only [push_cast, go_sem, zA, simprocAttr, h1, h2, h3]
  cases h4 : (db.k == 9)
  rotate_left
  ·simp (disch := omega) only [push_cast, go_sem, zA, simprocAttr, h1, h2, h3, h4]
  cases h5 : (da.k == 5)
  rotate_left
  ·simp (disch := omega) only [push_cast, go_sem, zA, simprocAttr, h1, h2, h3, h4, h5]
  cases h6 : (db.k == 6)
  rotate_left
  ·simp (disch := omega) only [push_cast, go_sem, zA, simprocAttr, h1, h2, h3, h4, h5, h6]
  cases h7 : (db.k == 3)
  ·simp (disch := omega) only [push_cast, go_sem, zA, simprocAttr, h1, h2, h3, h4, h5, h6, h7]
   (refine zB ?_; repeat (first | exact zC | exact zD | refine zE (by decide) ?_ | refine zF ?_ ?_ | refine zG ?_ ?_)) <;> (try simp (disch := omega) only [push_cast, go_sem, zA, simprocAttr])
  ·simp (disch := omega) only [push_cast, go_sem, zA, simprocAttr, h1, h2, h3, h4, h5, h6, h7]
   refine callR.pure (hlr (by simpa using h7)) rfl rfl ?_
   cases h8 : (lr == a)
   ·have h8' : ((lr : Int) == a) = false := by simp at h8 ⊢; omega
    simp (disch := omega) only [push_cast, go_sem, zA, simprocAttr, h8']
    (refine zB ?_; repeat (first | exact zC | exact zD | refine zE (by decide) ?_ | refine zF ?_ ?_ | refine zG ?_ ?_)) <;> (try simp (disch := omega) only [push_cast, go_sem, zA, simprocAttr])
   ·have h8' : ((lr : Int) == a) = true := by simp at h8 ⊢; omega
    simp (disch := omega) only [push_cast, go_sem, zA, simprocAttr, h8']
 intro he
 rw [he, Bool.false_or]
 refine Sat.of (S := []) (by kernel_rfl) ?_
 ·cases h1 : (da.k == 7) <;> cases h2 : (db.k == 8)
  ·have n1 : (da.k != 7) = true := by simp [bne, h1]
   have n2 : (db.k != 8) = true := by simp [bne, h2]
   simp (disch := omega) only [push_cast, go_sem, zA, simprocAttr, n1, n2]
  ·have n1 : (da.k != 7) = true := by simp [bne, h1]
   have n2 : (db.k != 8) = false := by simp [bne, h2]
   simp (disch := omega) only [push_cast, go_sem, zA, simprocAttr, n1, n2]
   refine callR.pure hin rfl rfl ?_
   cases ok
   ·simp (disch := omega) only [push_cast, go_sem, zA, simprocAttr]
   by_cases h3 : f ≤ a
   ·by_cases h4 : (b : Int) ≤ t
    ·simp (disch := omega) only [push_cast, go_sem, zA, simprocAttr, h1, h3, h4]
    ·simp (disch := omega) only [push_cast, go_sem, zA, simprocAttr, h1, h3, h4]
   ·simp (disch := omega) only [push_cast, go_sem, zA, simprocAttr, h3]
  all_goals
   have n1 : (da.k != 7) = false := by simp [bne, h1]
   simp (disch := omega) only [push_cast, go_sem, zA, simprocAttr, n1]
   refine callR.pure hin rfl rfl ?_
   cases ok
   ·simp (disch := omega) only [push_cast, go_sem, zA, simprocAttr]
   by_cases h3 : f ≤ a
   ·by_cases h4 : (b : Int) ≤ t
    ·simp (disch := omega) only [push_cast, go_sem, zA, simprocAttr, h1, h3, h4]
    ·simp (disch := omega) only [push_cast, go_sem, zA, simprocAttr, h1, h3, h4]
   ·simp (disch := omega) only [push_cast, go_sem, zA, simprocAttr, h3]
end
section
open Go.RowKit
def kd (ds : List Do) (k : Nat) : Int := (ds[k]?.getD default).k
def th (es : List Evt) (k : Nat) : Int := (es[k]?.getD default).t
def bkI (es : List Evt) (ds : List Do) (a : Nat) : Nat → Option Nat
 | 0 => if kd ds 0 == 7 then some 0 else none
 | k + 1 => if kd ds (k + 1) == 7 then some (k + 1) else if !(k + 1 == a) && kd ds (k + 1) == 8 then none else if th es k != th es a then none else bkI es ds a k
structure IsOut (ds : List Do) (f t : Nat) : Prop where
 le : f ≤ t
 lt : t < ds.length
 out : kd ds t = 8
 no : ∀ j, f ≤ j → j < t → kd ds j ≠ 8
def insR (a : Nat) (t : Nat) : Option Nat → V
 | none => .tuple [.int .i64 0, .int .i64 0, .bool false]
 | some f => .tuple [.int .i64 f, .int .i64 t, .bool (decide (a ≤ t))]
theorem inside_fn (s : Sc) (a t : Nat) (ha : a < s.ds.length) (hl : s.ds.length < 2 ^ 20) (hes : s.es.length = s.ds.length) (ho : ∀ f, bkI s.es s.ds a a = some f → IsOut s.ds f t) :
  Fp Tryz.prog 135 [s.V, .int .i64 a] (insR a t (bkI s.es s.ds a a)) := by
 obtain ⟨ea, hea⟩ : ∃ e, s.es[a]? = some e := ⟨_, List.getElem?_eq_getElem (by omega)⟩
 have hae : a < s.es.length := by omega
 obtain ⟨R, hR⟩ : ∃ R, bkI s.es s.ds a a = R := ⟨_, rfl⟩
 rw [hR]
 have hta : th s.es a = ea.t := by rw [th, hea]; rfl
 refine Fc.start (S := [9]) Tryz.func135 Tryz.ntmps135 Tryz.results135 rfl (by decide) rfl (by kernel_rfl) ?_
 simp (disch := omega) only [push_cast, go_sem, zA, simprocAttr, Sc.V_eq]
 intro g2
 simp (disch := omega) only [push_cast, go_sem, zA, simprocAttr, hea, hae, Evt.V_eq]
 refine Sat.loop (σ := Nat) (fun k => upd (upd (upd (upd noT 1 (.int .i64 a)) 2 (.ptr 2 [] 0 0 g2 3)) 4 (.int .i64 k)) 7 (.int .i64 ea.t)) (fun _ => noM.set 2 (.own 74 (some g2) 1 [.agg [.sl (s.p.map thrV), .sl (s.es.map Evt.V), .sl (s.ds.map Do.V)]]))
  (fun k => k ≤ a ∧ bkI s.es s.ds a k = R) (fun k => k) a ⟨Nat.le_refl _, hR⟩ ?_ ?_
 ·(refine zB ?_; repeat (first | exact zC | exact zD | refine zE (by decide) ?_ | refine zF ?_ ?_ | refine zG ?_ ?_)) <;> (try simp (disch := omega) only [push_cast, go_sem, zA, simprocAttr])
 rintro k ⟨hk, hb⟩ J hJ
 refine Sat.of (S := []) (by kernel_rfl) ?_
 obtain ⟨d, hd⟩ : ∃ d, s.ds[k]? = some d := ⟨_, List.getElem?_eq_getElem (by omega)⟩
 have hlt : k < s.ds.length := by omega
 have hkd : kd s.ds k = d.k := by rw [kd, hd]; rfl
 cases h7 : (d.k == 7)
 rotate_left
 ·have n7 : (d.k != 7) = false := by simp [bne, h7]
  have hRk : R = some k := by
   rw [← hb]
   cases k with
   | zero => rw [bkI, hkd, h7]; rfl
   | succ k => rw [bkI, hkd, h7]; rfl
  obtain ⟨o1, o2, o3, o4⟩ := ho k (hR.trans hRk)
  subst hRk
  simp (disch := omega) only [push_cast, go_sem, zA, simprocAttr, hd, hlt, Do.V_eq, n7]
  refine Sat.of (S := []) (by kernel_rfl) ?_
  simp (disch := omega) only [push_cast, go_sem, zA, simprocAttr]
  refine Sat.loop (σ := Nat) (fun j => upd (upd (upd (upd noT 1 (.int .i64 a)) 2 (.ptr 2 [] 0 0 g2 3)) 4 (.int .i64 k)) 5 (.int .i64 j)) (fun _ => noM.set 2 (.own 74 (some g2) 1 [.agg [.sl (s.p.map thrV), .sl (s.es.map Evt.V), .sl (s.ds.map Do.V)]]))
   (fun j => k ≤ j ∧ j ≤ t) (fun j => t - j) k ⟨Nat.le_refl _, o1⟩ ?_ ?_
  ·(refine zB ?_; repeat (first | exact zC | exact zD | refine zE (by decide) ?_ | refine zF ?_ ?_ | refine zG ?_ ?_)) <;> (try simp (disch := omega) only [push_cast, go_sem, zA, simprocAttr])
  rintro j ⟨hj1, hj2⟩ J2 hJ2
  refine Sat.of (S := []) (by kernel_rfl) ?_
  obtain ⟨dj, hdj⟩ : ∃ d, s.ds[j]? = some d := ⟨_, List.getElem?_eq_getElem (by omega)⟩
  have hltj : j < s.ds.length := by omega
  have hkj : kd s.ds j = dj.k := by rw [kd, hdj]; rfl
  by_cases hjt : j = t
  ·subst hjt
   have n8 : (dj.k != 8) = false := by rw [← hkj, o3]; rfl
   simp (disch := omega) only [push_cast, go_sem, zA, simprocAttr, hdj, hltj, Do.V_eq, n8, insR]
   simp
  ·have n8 : (dj.k != 8) = true := by have := o4 j hj1 (by omega); rw [hkj] at this; simpa [bne] using this
   simp (disch := omega) only [push_cast, go_sem, zA, simprocAttr, hdj, hltj, Do.V_eq, n8]
   refine hJ2 (j + 1) _ _ ⟨by omega, by omega⟩ (by omega) ?_
   (refine zB ?_; repeat (first | exact zC | exact zD | refine zE (by decide) ?_ | refine zF ?_ ?_ | refine zG ?_ ?_)) <;> (try simp (disch := omega) only [push_cast, go_sem, zA, simprocAttr])
 have n7 : (d.k != 7) = true := by simp [bne, h7]
 cases h8 : (!(k == a) && d.k == 8)
 rotate_left
 ·have hRk : R = none := by
   rw [← hb]
   cases k with
   | zero => rw [bkI, hkd, h7]; rfl
   | succ k => rw [bkI, hkd, h7, h8]; rfl
  rw [Bool.and_eq_true] at h8
  have na : ((k : Int) != a) = true := by have := h8.1; simp at this ⊢; omega
  have h88 := h8.2
  subst hRk
  simp (disch := omega) only [push_cast, go_sem, zA, simprocAttr, hd, hlt, Do.V_eq, n7, na, h88, insR]
 ·have hbr : ∀ (K : Prop), (((k : Int) != a) = false → K) → (((k : Int) != a) = true → (d.k == 8) = false → K) → K := fun K k1 k2 => by
   cases hna : ((k : Int) != a)
   ·exact k1 hna
   ·refine k2 hna ?_
    have : (!(k == a)) = true := by simp at hna ⊢; omega
    rw [this, Bool.true_and] at h8; exact h8
  rcases Nat.eq_zero_or_pos k with hk0 | hk0
  ·have hRk : R = none := by subst hk0; rw [← hb, bkI, hkd, h7]; rfl
   subst hRk
   subst hk0
   refine hbr _ (fun na => ?_) (fun na n8 => ?_)
   all_goals
    first | simp (disch := omega) only [push_cast, go_sem, zA, simprocAttr, hd, hlt, Do.V_eq, n7, na, insR] | simp (disch := omega) only [push_cast, go_sem, zA, simprocAttr, hd, hlt, Do.V_eq, n7, na, n8, insR]
    exact ⟨by omega, fun _ => by omega⟩
  obtain ⟨k1, hk1⟩ : ∃ k1, k = k1 + 1 := ⟨k - 1, by omega⟩
  obtain ⟨ek, hek⟩ : ∃ e, s.es[k1]? = some e := ⟨_, List.getElem?_eq_getElem (by omega)⟩
  have hke : k1 < s.es.length := by omega
  have hthk : th s.es k1 = ek.t := by rw [th, hek]; rfl
  have hkm : (k : Int) - 1 = (k1 : Int) := by omega
  have hge0 : ¬ ((k1 : Int) < 0) := by omega
  have hb' : (if (ek.t != ea.t) = true then none else bkI s.es s.ds a k1) = R := by
   rw [hk1] at hb hkd h8
   rw [bkI, hkd, h7, h8, hthk, hta] at hb
   simpa using hb
  cases hth : (ek.t != ea.t)
  ·rw [hth] at hb'
   simp only [Bool.false_eq_true, if_false] at hb'
   refine hbr _ (fun na => ?_) (fun na n8 => ?_)
   ·simp (disch := omega) only [push_cast, go_sem, zA, simprocAttr, hd, hlt, Do.V_eq, Evt.V_eq, n7, na, hkm, hek, hke, hth, hge0]
    refine hJ k1 _ _ ⟨by omega, hb'⟩ (by omega) ?_
    (refine zB ?_; repeat (first | exact zC | exact zD | refine zE (by decide) ?_ | refine zF ?_ ?_ | refine zG ?_ ?_)) <;> (try simp (disch := omega) only [push_cast, go_sem, zA, simprocAttr])
   ·simp (disch := omega) only [push_cast, go_sem, zA, simprocAttr, hd, hlt, Do.V_eq, Evt.V_eq, n7, na, n8, hkm, hek, hke, hth, hge0]
    refine hJ k1 _ _ ⟨by omega, hb'⟩ (by omega) ?_
    (refine zB ?_; repeat (first | exact zC | exact zD | refine zE (by decide) ?_ | refine zF ?_ ?_ | refine zG ?_ ?_)) <;> (try simp (disch := omega) only [push_cast, go_sem, zA, simprocAttr])
  ·rw [hth] at hb'
   simp only [if_true] at hb'
   subst hb'
   refine hbr _ (fun na => ?_) (fun na n8 => ?_)
   ·simp (disch := omega) only [push_cast, go_sem, zA, simprocAttr, hd, hlt, Do.V_eq, Evt.V_eq, n7, na, hkm, hek, hke, hth, hge0, insR]
   ·simp (disch := omega) only [push_cast, go_sem, zA, simprocAttr, hd, hlt, Do.V_eq, Evt.V_eq, n7, na, n8, hkm, hek, hke, hth, hge0, insR]
def hasB (own read over apart wa rb lo : Bool) (kind : Int) : Bool :=
 if kind == 1 then own || read || over else if kind == 2 then (own && !(wa && rb)) || (read && apart) || over else (own && lo) || ((read || over) && apart)
theorem has_fn (s : Sc) (x : Exe) (kind : Int) (a b : Nat) (ha : a < s.ds.length) (hb : b < s.ds.length) (hes : s.es.length = s.ds.length) (hx : Fit s.ds x) (lo : Bool)
  (hlo : Fp Tryz.prog 133 [s.V, .int .i64 a, .int .i64 b] (.bool lo)) : Fp Tryz.prog 96 [s.V, x.V, .int .i64 kind, .int .i64 a, .int .i64 b]
   (.bool (hasB (ownB s.es a b) (x.fr[b]?.getD 0 == a) (overB s.ds x a b) (th s.es a != th s.es b) (s.ds[a]?.getD default).writes (s.ds[b]?.getD default).reads lo kind)) := by
 obtain ⟨da, hda⟩ : ∃ e, s.ds[a]? = some e := ⟨_, List.getElem?_eq_getElem ha⟩
 obtain ⟨db, hdb⟩ : ∃ e, s.ds[b]? = some e := ⟨_, List.getElem?_eq_getElem hb⟩
 obtain ⟨ea, hea⟩ : ∃ e, s.es[a]? = some e := ⟨_, List.getElem?_eq_getElem (by omega)⟩
 obtain ⟨eb, heb⟩ : ∃ e, s.es[b]? = some e := ⟨_, List.getElem?_eq_getElem (by omega)⟩
 obtain ⟨z, hz⟩ : ∃ z, x.fr[b]? = some z := ⟨_, List.getElem?_eq_getElem (by rw [hx.fr]; exact hb)⟩
 have hbf : b < x.fr.length := by rw [hx.fr]; exact hb
 have hae : a < s.es.length := by omega
 have hbe : b < s.es.length := by omega
 have hown := own_fn s a b (by omega) (by omega)
 have hover := over_fn s x a b ha hb hx
 obtain ⟨ow, how⟩ : ∃ v, ownB s.es a b = v := ⟨_, rfl⟩
 obtain ⟨ov, hov⟩ : ∃ v, overB s.ds x a b = v := ⟨_, rfl⟩
 obtain ⟨ap, hap⟩ : ∃ v, (ea.t != eb.t) = v := ⟨_, rfl⟩
 obtain ⟨rd, hrd⟩ : ∃ v, (z == (a : Int)) = v := ⟨_, rfl⟩
 have e1 : s.ds[a]?.getD default = da := by rw [hda]; rfl
 have e2 : s.ds[b]?.getD default = db := by rw [hdb]; rfl
 have e3 : th s.es a = ea.t := by rw [th, hea]; rfl
 have e4 : th s.es b = eb.t := by rw [th, heb]; rfl
 have e5 : x.fr[b]?.getD 0 = z := by rw [hz]; rfl
 rw [e1, e2, e3, e4, e5, how, hov, hap, hrd]
 rw [how] at hown
 rw [hov] at hover
 rw [Sc.V_eq] at hown hover hlo
 rw [Exe.V_eq] at hover
 refine Fc.start (S := [3]) Tryz.func96 Tryz.ntmps96 Tryz.results96 rfl (by decide) rfl (by kernel_rfl) ?_
 simp (disch := omega) only [push_cast, go_sem, zA, simprocAttr, Sc.V_eq, Exe.V_eq]
 intro g5 g6
 refine Sat.drawnE [] [] (List.range 19) (pureT [(93, .bool ow), (94, .bool ov)]) (by kernel_rfl) (by kernel_rfl) ?_
 simp (disch := omega) only [push_cast, go_sem, zA, simprocAttr]
 refine runD_pure rfl hown rfl rfl ?_ ?_
 ·rfl
 simp (disch := omega) only [push_cast, go_sem, zA, simprocAttr, hz, hbf, hrd]
 refine runD_pure rfl hover rfl rfl ?_ ?_
 ·rfl
 simp (disch := omega) only [push_cast, go_sem, zA, simprocAttr]
 refine Sat.drawnE [] [] (List.range 14) (fun _ _ _ => none) (by kernel_rfl) (by kernel_rfl) ?_
 simp (disch := omega) only [push_cast, go_sem, zA, simprocAttr, hea, heb, hae, hbe, Evt.V_eq, hap]
 refine Sat.of (S := []) (by kernel_rfl) ?_
 have hlo' : ow = ow := rfl
 cases hk1 : (kind == 1)
 rotate_left
 ·cases ow <;> cases rd <;> cases ov <;> simp (disch := omega) only [push_cast, go_sem, zA, simprocAttr, hk1, hasB]
 cases hk2 : (kind == 2)
 rotate_left
 ·cases ow
  ·cases rd <;> cases ap <;> cases ov <;> simp (disch := omega) only [push_cast, go_sem, zA, simprocAttr, hk1, hk2, hasB]
  ·simp (disch := omega) only [push_cast, go_sem, zA, simprocAttr, hk1, hk2, hda, ha, Do.V_eq]
   refine callR.pure (writes_fn da) rfl rfl ?_
   cases hw : da.writes
   ·cases rd <;> cases ap <;> cases ov <;> simp (disch := omega) only [push_cast, go_sem, zA, simprocAttr, hk1, hk2, hw, hasB]
   ·simp (disch := omega) only [push_cast, go_sem, zA, simprocAttr, hk1, hk2, hw, hdb, hb, Do.V_eq]
    refine callR.pure (reads_fn db) rfl rfl ?_
    cases hr : db.reads <;> cases rd <;> cases ap <;> cases ov <;> simp (disch := omega) only [push_cast, go_sem, zA, simprocAttr, hk1, hk2, hw, hr, hasB]
 cases ow
 ·cases rd <;> cases ap <;> cases ov <;> simp (disch := omega) only [push_cast, go_sem, zA, simprocAttr, hk1, hk2, hasB]
 ·simp (disch := omega) only [push_cast, go_sem, zA, simprocAttr, hk1, hk2]
  refine callR.pure hlo rfl rfl ?_
  cases lo <;> cases rd <;> cases ap <;> cases ov <;> simp (disch := omega) only [push_cast, go_sem, zA, simprocAttr, hk1, hk2, hasB]
end
end Go.Proofs.YtfbgabkcjjahiaaGreatDoor
