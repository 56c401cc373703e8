/-
 Contracts and plain laws.
-/
import Derived.Test.YtkdolbffabmemaaGreatDoorLa
import Derived.Test.YtkdolbffabmemaaGreatDoorLb
import Derived.Test.YtkdolbffabmemaaGreatDoorLd
import Derived.Test.YtkdolbffabmemaaGreatDoorLvx
import Derived.Test.YtkdolbffabmemaaGreatDoorLvy
set_option linter.unusedSimpArgs false
set_option linter.unusedVariables false
set_option linter.unusedSectionVars false
namespace Go.Proofs.YtkdolbffabmemaaGreatDoor
section
open Go.RowKit
def graphL (R : Nat → Nat → Bool) (n : Nat) : List Nat := (List.range n).map fun a => msk (R a) n
theorem graphL_len (R : Nat → Nat → Bool) (n : Nat) : (graphL R n).length = n := by simp [graphL]
theorem graphL_lt {R : Nat → Nat → Bool} {n : Nat} (hn : n ≤ 62) : ∀ m ∈ graphL R n, m < 2 ^ 64 := by
 intro m hm
 simp only [graphL, List.mem_map] at hm
 obtain ⟨a, _, rfl⟩ := hm
 exact Nat.lt_of_lt_of_le (msk_lt _ n) (Nat.pow_le_pow_right (by decide) (by omega))
theorem graphL_rel {R : Nat → Nat → Bool} {n a b : Nat} (ha : a < n) (hb : b < n) : relG (graphL R n) a b = R a b := by
 rw [relG, graphL, List.getElem?_map, List.getElem?_range ha]
 simp [msk_bit, hb]
def grL (R : Nat → Nat → Bool) (n a b : Nat) : List Nat := (List.range n).map fun i => if i < a then msk (R i) n else if i = a then msk (R i) b else 0
theorem grL_len (R : Nat → Nat → Bool) (n a b : Nat) : (grL R n a b).length = n := by simp [grL]
theorem grL_zero (R : Nat → Nat → Bool) (n : Nat) : grL R n 0 0 = List.replicate n 0 := by
 rw [grL, List.eq_replicate_iff]
 refine ⟨by simp, fun b hb => ?_⟩
 simp only [List.mem_map] at hb
 obtain ⟨i, _, rfl⟩ := hb
 simp [msk]
theorem grL_next (R : Nat → Nat → Bool) (n a : Nat) : grL R n a n = grL R n (a + 1) 0 := by
 rw [grL, grL]
 refine List.map_congr_left fun i _ => ?_
 by_cases h : i < a
 ·have : i < a + 1 := by omega
  simp [h, this]
 ·by_cases h2 : i = a
  ·subst h2; simp
  ·have h3 : ¬ i < a + 1 := by omega
   simp [h, h2, h3, msk]
theorem grL_all (R : Nat → Nat → Bool) (n : Nat) : grL R n n 0 = graphL R n := by
 rw [grL, graphL]
 exact List.map_congr_left fun i hi => if_pos (List.mem_range.1 hi)
theorem grL_get (R : Nat → Nat → Bool) {n a : Nat} (b : Nat) (ha : a < n) : (grL R n a b)[a]? = some (msk (R a) b) := by
 rw [grL, List.getElem?_map, List.getElem?_range ha]; simp
theorem grL_set (R : Nat → Nat → Bool) {n a : Nat} (b : Nat) : grL R n a (b + 1) = (grL R n a b).set a (msk (R a) (b + 1)) := by
 apply List.ext_getElem?
 intro i
 rw [List.getElem?_set, grL_len, grL, grL, List.getElem?_map, List.getElem?_map]
 by_cases hi : i < n
 ·rw [List.getElem?_range hi]
  by_cases h : a = i
  ·subst h; simp [hi]
  ·have h' : ¬ i = a := fun e => h e.symm
   simp [h, h']
 ·have : (List.range n)[i]? = none := by simp; omega
  rw [this]
  by_cases h : a = i
  ·subst h; simp [hi]
  ·simp [h]
theorem modBits (l : List Nat) (k z : Nat) : (l.map bitE).modify k (fun x => x.setC 0 (V.int .u64 (z : Int))) = (l.set k z).map bitE := by
 apply List.ext_getElem?
 intro i
 rw [List.getElem?_modify, List.getElem?_map, List.getElem?_map, List.getElem?_set]
 by_cases h : k = i
 ·subst h
  cases hl : l[k]? with
  | none => have := List.getElem?_eq_none_iff.1 hl; simp; omega
  | some a => have := (List.getElem?_eq_some_iff.1 hl).1; simp [this, V.setC, bitE]
 ·simp [h]
@[push_cast] theorem fzs_bits (l : List Nat) : (l.map bitE).map V.fz = l.map bitE := by rw [List.map_map]; exact List.map_congr_left fun d _ => rfl
theorem graphOf_fn (s : Sc) (hn : s.es.length ≤ 62) (fc : FuncId) (cap : List V) (R : Nat → Nat → Bool) (hk : (cap.all fun v => v.key.isNone) = true) (hcl : cap.length ≤ 10)
  (h : ∀ a b, a < s.es.length → b < s.es.length → Fp Tryz.prog fc (.int .i64 a :: .int .i64 b :: cap) (.bool (R a b))) : Fp Tryz.prog 67 [s.V, .fn (.func fc) [] cap] (bitsV (graphL R s.es.length)) := by
 rw [bitsV_eq]
 refine Fc.fzRow (R' := fun r m => ∃ gr, r = .msl 4 [] (some gr) s.es.length s.es.length ∧ m = noM.set 4 (.own 138 (some gr) s.es.length ((graphL R s.es.length).map bitE))) ?_ ?_
 rotate_left
 ·rintro r m ⟨gr, rfl, rfl⟩
  refine ⟨4, some gr, s.es.length, 138, (graphL R s.es.length).map bitE, by rw [List.length_map, graphL_len], by simp [Mem.set], fzs_bits _⟩
 refine Fc.start (S := []) Tryz.func67 Tryz.ntmps67 Tryz.results67 rfl (by decide) rfl (by kernel_rfl) ?_
 simp (disch := omega) only [push_cast, go_sem, zA, simprocAttr, Sc.V_eq]
 intro g2
 refine ⟨by omega, fun gr => ?_⟩
 obtain ⟨n, hnn⟩ : ∃ n, s.es.length = n := ⟨_, rfl⟩
 rw [hnn] at hn h ⊢
 refine Sat.loop (σ := Nat) (fun a => upd (upd (upd (upd noT 1 (.fn (.func fc) [] cap)) 5 (.msl 5 [] (some gr) n n)) 13 (.int .i64 n)) 14 (.int .i64 a)) (fun a => noM.set 5 (.own 138 (some gr) n ((grL R n a 0).map bitE)))
  (fun a => a ≤ n) (fun a => n - a) 0 (by omega) ?_ ?_
 ·(refine zB ?_; repeat (first | exact zC | exact zD | refine zE (by decide) ?_ | refine zF ?_ ?_ | refine zG ?_ ?_)) <;> (try simp (disch := omega) only [push_cast, go_sem, zA, simprocAttr])
  all_goals simp [grL_zero, bitE]
 rintro a ha J hJ
 refine Sat.of (S := []) (by kernel_rfl) ?_
 rcases Nat.lt_or_ge a n with hlt | hge
 ·simp (disch := omega) only [push_cast, go_sem, zA, simprocAttr, hlt]
  refine Sat.loop (σ := Nat) (fun b => upd (upd (upd (upd (upd (upd (upd noT 1 (.fn (.func fc) [] cap)) 5 (.msl 5 [] (some gr) n n)) 13 (.int .i64 n)) 14 (.int .i64 a)) 6 (.int .i64 a)) 18 (.int .i64 n)) 19 (.int .i64 b)) (fun b => noM.set 5 (.own 138 (some gr) n ((grL R n a b).map bitE)))
   (fun b => b ≤ n) (fun b => n - b) 0 (by omega) ?_ ?_
  ·(refine zB ?_; repeat (first | exact zC | exact zD | refine zE (by decide) ?_ | refine zF ?_ ?_ | refine zG ?_ ?_)) <;> (try simp (disch := omega) only [push_cast, go_sem, zA, simprocAttr])
  rintro b hb J2 hJ2
  refine Sat.of (S := []) (by kernel_rfl) ?_
  rcases Nat.lt_or_ge b n with hlt2 | hge2
  ·have hrel := h a b hlt hlt2
   have hget := grL_get R b hlt
   have hgl := grL_len R n a b
   have hm64 : msk (R a) b < 2 ^ 64 := Nat.lt_of_lt_of_le (msk_lt _ b) (Nat.pow_le_pow_right (by decide) (by omega))
   have hp64 : p2 b < 2 ^ 64 := p2_lt (by omega)
   simp (disch := omega) only [push_cast, go_sem, zA, simprocAttr, hlt2]
   refine callR.pure hrel (by rw [List.all_cons, List.all_cons, hk]; rfl) (by simp only [List.length_cons, Nat.ble_eq]; omega) ?_
   cases hr : R a b
   ·simp (disch := omega) only [push_cast, go_sem, zA, simprocAttr]
    refine hJ2 (b + 1) _ _ (by omega) (by omega) ?_
    have : grL R n a (b + 1) = grL R n a b := by
     rw [grL, grL]
     refine List.map_congr_left fun i _ => ?_
     by_cases h2 : i = a
     ·subst h2; simp [msk, hr]
     ·simp [h2]
    rw [this]
    (refine zB ?_; repeat (first | exact zC | exact zD | refine zE (by decide) ?_ | refine zF ?_ ?_ | refine zG ?_ ?_)) <;> (try simp (disch := omega) only [push_cast, go_sem, zA, simprocAttr])
   ·simp (disch := omega) only [push_cast, go_sem, zA, simprocAttr]
    refine Sat.drawnE [] [] [3] (fun _ _ _ => none) (by kernel_rfl) (by kernel_rfl) ?_
    simp (disch := omega) only [push_cast, go_sem, zA, simprocAttr, hget, hgl, hlt, bitE_eq, bin_shl64 (show b < 64 by omega), bin_or64 hm64 hp64]
    refine hJ2 (b + 1) _ _ (by omega) (by omega) ?_
    have : msk (R a) b ||| p2 b = msk (R a) (b + 1) := by rw [msk, hr, if_pos rfl, p2]
    rw [this, grL_set]
    (refine zB ?_; repeat (first | exact zC | exact zD | refine zE (by decide) ?_ | refine zF ?_ ?_ | refine zG ?_ ?_)) <;> (try simp (disch := omega) only [push_cast, go_sem, zA, simprocAttr])
    rw [modBits]
  ·have : b = n := by omega
   subst this
   simp (disch := omega) only [push_cast, go_sem, zA, simprocAttr]
   refine hJ (a + 1) _ _ (by omega) (by omega) ?_
   rw [grL_next]
   (refine zB ?_; repeat (first | exact zC | exact zD | refine zE (by decide) ?_ | refine zF ?_ ?_ | refine zG ?_ ?_)) <;> (try simp (disch := omega) only [push_cast, go_sem, zA, simprocAttr])
 ·have : a = n := by omega
  subst this
  simp (disch := omega) only [push_cast, go_sem, zA, simprocAttr]
  rw [grL_all]
  refine ⟨_, ?_, gr, rfl, rfl⟩
  ((repeat (first | exact Sub.no | refine Sub.set ?_ ?_)) <;> (try simp (disch := omega) only [push_cast, go_sem, zA, simprocAttr]))
end
section
open Go.RowKit
theorem l71Do_rd (bs : List Int) (hb : Bytes bs) (g p : Nat) (hp : p < 2 ^ 29) (n : Int) (hn : n < 2 ^ 30) : Fr Tryz.prog 107 [.int .i64 n] g (rdO bs g p)
  (fun r o' => ∃ d : Do, r = d.V ∧ ∃ q, p ≤ q ∧ q ≤ p + 3 ∧ o' = rdO bs g q) := by
 refine Fc.start (S := [2002, 2004]) Tryz.func107 Tryz.ntmps107 Tryz.results107 rfl (by decide) rfl (by kernel_rfl) ?_
 simp (disch := omega) only [push_cast, go_sem, zA, simprocAttr]
 intro g1 g2
 refine callR.rd (pick_rd bs hb g p (by omega) 10 (by omega)) rfl rfl rfl ?_
 rintro r o' ⟨v, rfl, hv0, hv1, _, rfl⟩
 have hv : v < 10 := hv1 (by omega)
 obtain ⟨m, rfl⟩ := Int.eq_ofNat_of_zero_le hv0
 obtain ⟨z, hz⟩ := ints_get (l := [.int .i64 1, .int .i64 1, .int .i64 1, .int .i64 2, .int .i64 2, .int .i64 2, .int .i64 3, .int .i64 4, .int .i64 5, .int .i64 6]) (n := m) rfl (by simp; omega)
 simp (disch := omega) only [push_cast, go_sem, zA, simprocAttr, hz]
 refine ⟨by omega, fun g3 => ?_⟩
 refine Sat.cut (σ := Do × Nat) [] (fun x => upd (upd (upd (upd noT 0 (.ptr 0 [] 0 0 g 2)) 1 (.int .i64 n)) 4 (.ptr 4 [] 0 0 g1 3)) 5 (.ptr 5 [] 0 0 g3 3))
  (fun x => ((noM.set 0 (rdO bs g x.2)).set 4 (.own 40 (some g1) 1 [.agg [.int .i64 0, .int .i64 0, .int .i64 0]])).set 5 (.own 40 (some g3) 1 [.agg [.int .i64 x.1.k, .int .i64 x.1.p, .int .i64 x.1.v]]))
  (fun x => p ≤ x.2 ∧ x.2 ≤ p + 2) (by kernel_rfl) ?_ ?_
 ·simp (disch := omega) only [push_cast, go_sem, zA, simprocAttr]
  refine callR.pure (l1Reads_fn ⟨z, 0, 0⟩) rfl rfl ?_
  cases hr : (Do.reads ⟨z, 0, 0⟩)
  ·simp (disch := omega) only [push_cast, go_sem, zA, simprocAttr]
   refine callR.pure (l1Writes_fn ⟨z, 0, 0⟩) rfl rfl ?_
   cases hw : (Do.writes ⟨z, 0, 0⟩)
   ·simp (disch := omega) only [push_cast, go_sem, zA, simprocAttr]
    refine ⟨(⟨z, 0, 0⟩, p + 1), by simp, ?_⟩
    (refine zB ?_; repeat (first | exact zC | exact zD | refine zE (by decide) ?_ | refine zF ?_ ?_ | refine zG ?_ ?_)) <;> (try simp (disch := omega) only [push_cast, go_sem, zA, simprocAttr])
   ·simp (disch := omega) only [push_cast, go_sem, zA, simprocAttr]
    refine callR.rd (pick_rd bs hb g (p + 1) (by omega) n hn) rfl rfl rfl ?_
    rintro r o' ⟨v, rfl, hv0, hv1, _, rfl⟩
    simp (disch := omega) only [push_cast, go_sem, zA, simprocAttr]
    refine ⟨(⟨z, v, 0⟩, p + 2), by simp, ?_⟩
    (refine zB ?_; repeat (first | exact zC | exact zD | refine zE (by decide) ?_ | refine zF ?_ ?_ | refine zG ?_ ?_)) <;> (try simp (disch := omega) only [push_cast, go_sem, zA, simprocAttr])
  ·simp (disch := omega) only [push_cast, go_sem, zA, simprocAttr]
   refine callR.rd (pick_rd bs hb g (p + 1) (by omega) n hn) rfl rfl rfl ?_
   rintro r o' ⟨v, rfl, hv0, hv1, _, rfl⟩
   simp (disch := omega) only [push_cast, go_sem, zA, simprocAttr]
   refine ⟨(⟨z, v, 0⟩, p + 2), by simp, ?_⟩
   (refine zB ?_; repeat (first | exact zC | exact zD | refine zE (by decide) ?_ | refine zF ?_ ?_ | refine zG ?_ ?_)) <;> (try simp (disch := omega) only [push_cast, go_sem, zA, simprocAttr])
 rintro ⟨d, q⟩ ⟨hq1, hq2⟩
 refine Sat.of (S := []) (by kernel_rfl) ?_
 simp only at hq1 hq2
 have fin : ∀ {M : Mem} (d' : Do) (q' : Nat), p ≤ q' → q' ≤ p + 3 → M 0 = some (rdO bs g q') →
   ∃ m, Sub m M ∧ ∃ o', (∃ e : Do, d'.V = e.V ∧ ∃ q, p ≤ q ∧ q ≤ p + 3 ∧ o' = rdO bs g q) ∧ m = noM.set 0 o' :=
  fun d' q' h1 h2 h3 => ⟨_, Sub.set Sub.no h3, _, ⟨d', rfl, q', h1, h2, rfl⟩, rfl⟩
 cases h1 : (d.k == 1) <;> cases h6 : (d.k == 6)
 ·simp (disch := omega) only [push_cast, go_sem, zA, simprocAttr, h1, h6]
  refine fin d q hq1 (by omega) ?_
  simp (disch := omega) only [push_cast, go_sem, zA, simprocAttr]
 all_goals
  simp (disch := omega) only [push_cast, go_sem, zA, simprocAttr, h1, h6]
  refine callR.rd (pick_rd bs hb g q (by omega) 3 (by omega)) rfl rfl rfl ?_
  rintro r o' ⟨v, rfl, hv0, hv1, _, rfl⟩
  have hv : v < 3 := hv1 (by omega)
  simp (disch := omega) only [push_cast, go_sem, zA, simprocAttr]
  refine fin ⟨d.k, d.p, 1 + v⟩ (q + 1) (by omega) (by omega) ?_
  simp (disch := omega) only [push_cast, go_sem, zA, simprocAttr]
theorem l71Do_pl (bs : List Int) (hb : Bytes bs) (g p : Nat) (hp : p < 2 ^ 29) (n : Int) (hn : n < 2 ^ 30) : Fr Tryz.prog 107 [.int .i64 n] g (rdO bs g p) (fun r o' => (∃ d : Do, r = d.V) ∧ ∃ q, p ≤ q ∧ q ≤ p + 3 ∧ o' = rdO bs g q) :=
 (l71Do_rd bs hb g p hp n hn).mono (by rintro r o' ⟨d, h1, h2⟩; exact ⟨⟨d, h1⟩, h2⟩)
theorem l71Steps_fn (p : Prog) (hp : p.length < 2 ^ 10) (hl : ∀ l ∈ p, l.length < 2 ^ 10) : Fp Tryz.prog 109 [progV p] (.int .i64 (stepsP p)) := by
 have hb : ∀ i, stepsP (p.take i) ≤ 2 ^ 10 * i := by
  intro i
  induction i with
  | zero => simp [stepsP]
  | succ i ih =>
   cases he : p[i]? with
   | none => rw [List.take_add_one, he]; simp [stepsP] at ih ⊢; omega
   | some l =>
    have := hl l (List.mem_of_getElem? he)
    have h2 := (take_all he).2.1
    omega
 refine Fc.start (S := []) Tryz.func109 Tryz.ntmps109 Tryz.results109 rfl (by decide) rfl (by kernel_rfl) ?_
 simp (disch := omega) only [push_cast, go_sem, zA, simprocAttr, progV_eq]
 intro g
 refine Sat.loop (σ := Nat) (fun i => upd (upd (upd noT 1 (.ptr 1 [] 0 0 g 1)) 4 (.int .i64 i)) 3 (.int .i64 (stepsP (p.take i)))) (fun _ => noM.set 1 (boxP p g))
  (fun i => i ≤ p.length) (fun i => p.length - i) 0 (by simp) ?_ ?_
 ·(refine zB ?_; repeat (first | exact zC | exact zD | refine zE (by decide) ?_ | refine zF ?_ ?_ | refine zG ?_ ?_)) <;> (try simp (disch := omega) only [push_cast, go_sem, zA, simprocAttr])
  all_goals simp [stepsP, boxP]
 rintro i hi J hJ
 refine Sat.of (S := []) (by kernel_rfl) ?_
 have hbi := hb i
 rcases Nat.lt_or_ge i p.length with hlt | hge
 ·obtain ⟨l, he⟩ : ∃ l, p[i]? = some l := ⟨_, List.getElem?_eq_getElem hlt⟩
  have hln := hl l (List.mem_of_getElem? he)
  obtain ⟨t1, t2, t3⟩ := take_all he
  simp (disch := omega) only [push_cast, go_sem, zA, simprocAttr, he, hlt, boxP_eq, thrV_eq]
  refine hJ (i + 1) _ _ (by omega) (by omega) ?_
  (refine zB ?_; repeat (first | exact zC | exact zD | refine zE (by decide) ?_ | refine zF ?_ ?_ | refine zG ?_ ?_)) <;> (try simp (disch := omega) only [push_cast, go_sem, zA, simprocAttr])
  ·rfl
  ·simp [t2]
 ·have : i = p.length := by omega
  subst this
  simp (disch := omega) only [push_cast, go_sem, zA, simprocAttr, boxP_eq]
structure ThS where
 l : List Do
 q : Nat
 n : Nat
 γ : Option Nat
 c : Nat
theorem l71Thread_rd (bs : List Int) (hb : Bytes bs) (g p : Nat) (hp : p < 2 ^ 28) (most : Int) (hm : 0 ≤ most) (hm2 : most < 1000) (n : Int) (hn : n < 2 ^ 30) : FrR Tryz.prog 108 [.int .i64 most, .int .i64 n] g (rdO bs g p)
  (fun es o' => ∃ l : List Do, es = l.map Do.V ∧ l.length ≤ most ∧ ∃ q, p ≤ q ∧ q ≤ p + 3001 ∧ o' = rdO bs g q) 40 := by
 refine FrR.of 6 (by decide) ?_
 refine Fc.start (S := []) Tryz.func108 Tryz.ntmps108 Tryz.results108 rfl (by decide) rfl (by kernel_rfl) ?_
 simp (disch := omega) only [push_cast, go_sem, zA, simprocAttr]
 intro g1
 refine callR.rd (pick_rd bs hb g p (by omega) (most + 1) (by omega)) rfl rfl rfl ?_
 rintro r o' ⟨v, rfl, hv0, hv1, _, rfl⟩
 have hv := hv1 (by omega)
 obtain ⟨m, rfl⟩ := Int.eq_ofNat_of_zero_le hv0
 simp (disch := omega) only [push_cast, go_sem, zA, simprocAttr]
 refine Sat.loop (σ := ThS) (fun x => upd (upd (upd (upd noT 0 (.ptr 0 [] 0 0 g 2)) 2 (.int .i64 n)) 7 (.msl 7 [] x.γ x.l.length x.c)) 8 (.int .i64 x.n))
  (fun x => (noM.set 0 (rdO bs g x.q)).set 7 (.own 40 x.γ x.c (x.l.map Do.V)))
  (fun x => (x.l.length + x.n : Int) ≤ most ∧ p ≤ x.q ∧ x.q ≤ p + 1 + 3 * x.l.length) (fun x => x.n) ⟨[], p + 1, m, some g1, 0⟩ (by simp; omega) ?_ ?_
 ·(refine zB ?_; repeat (first | exact zC | exact zD | refine zE (by decide) ?_ | refine zF ?_ ?_ | refine zG ?_ ?_)) <;> (try simp (disch := omega) only [push_cast, go_sem, zA, simprocAttr])
  all_goals rfl
 rintro ⟨l, q, k, γ, c⟩ ⟨h1, h2, h3⟩ J hJ
 refine Sat.of (S := []) (by kernel_rfl) ?_
 simp only at h1 h2 h3 hJ
 cases k with
 | zero =>
  simp (disch := omega) only [push_cast, go_sem, zA, simprocAttr]
  refine ⟨_, ?_, rdO bs g q, γ, c, l.map Do.V, ⟨l, rfl, by omega, q, h2, by omega, rfl⟩, by rw [List.length_map], rfl⟩
  ((repeat (first | exact Sub.no | refine Sub.set ?_ ?_)) <;> (try simp (disch := omega) only [push_cast, go_sem, zA, simprocAttr]))
 | succ k =>
  have hk : (0 : Int) < (k : Int) + 1 := by omega
  simp (disch := omega) only [push_cast, go_sem, zA, simprocAttr, hk]
  refine callR.rd (l71Do_rd bs hb g q (by omega) n hn) rfl rfl rfl ?_
  rintro r o' ⟨d, rfl, q', hq1, hq2, rfl⟩
  simp (disch := omega) only [push_cast, go_sem, zA, simprocAttr, Do.V_eq]
  intro g2
  refine ⟨by omega, fun γ' c' _ => hJ ⟨l ++ [d], q', k, γ', c'⟩ _ _ ?_ (by simp only; omega) ?_⟩
  ·simp; omega
  ·(refine zB ?_; repeat (first | exact zC | exact zD | refine zE (by decide) ?_ | refine zF ?_ ?_ | refine zG ?_ ?_)) <;> (try simp (disch := omega) only [push_cast, go_sem, zA, simprocAttr])
   all_goals first | rfl | omega | simp [Do.V]
def thrQ (args : List V) (es : List V) : Prop := ∃ (l : List Do) (most : Int), args[1]? = some (.int .i64 most) ∧ es = l.map Do.V ∧ l.length ≤ most
theorem l71Thread_pl (bs : List Int) (hb : Bytes bs) (g p : Nat) (hp : p < 2 ^ 28) (most : Int) (hm : 0 ≤ most) (hm2 : most < 1000) (n : Int) (hn : n < 2 ^ 30) : FrR Tryz.prog 108 [.int .i64 most, .int .i64 n] g (rdO bs g p)
  (fun es o' => thrQ (.ptr 0 [] 0 0 g 2 :: [.int .i64 most, .int .i64 n]) es ∧ ∃ q, p ≤ q ∧ q ≤ p + 3001 ∧ o' = rdO bs g q) 40 :=
 (l71Thread_rd bs hb g p hp most hm hm2 n hn).mono (by rintro r o' ⟨l, h1, h2, h3⟩; exact ⟨⟨l, most, rfl, h1, h2⟩, h3⟩)
theorem l71Reader_rd (bs : List Int) (hb : Bytes bs) (g p : Nat) (hp : p < 2 ^ 28) (n : Int) (hn : n < 2 ^ 30) : FrR Tryz.prog 105 [.int .i64 n] g (rdO bs g p)
  (fun es o' => ∃ l : List Do, es = l.map Do.V ∧ l.length = 4 ∧ ∃ q, p ≤ q ∧ q ≤ p + 6 ∧ o' = rdO bs g q) 40 := by
 refine FrR.of 4 (by decide) ?_
 refine Fc.start (S := []) Tryz.func105 Tryz.ntmps105 Tryz.results105 rfl (by decide) rfl (by kernel_rfl) ?_
 simp (disch := omega) only [push_cast, go_sem, zA, simprocAttr]
 refine callR.rd (pick_rd bs hb g p (by omega) n hn) rfl rfl rfl ?_
 rintro r o' ⟨v, rfl, _, _, _, rfl⟩
 simp (disch := omega) only [push_cast, go_sem, zA, simprocAttr]
 refine callR.rd (pick_rd bs hb g (p + 1) (by omega) n hn) rfl rfl rfl ?_
 rintro r o' ⟨v2, rfl, _, _, _, rfl⟩
 simp (disch := omega) only [push_cast, go_sem, zA, simprocAttr]
 intro g1
 refine callR.rd (pick_rd bs hb g (p + 2) (by omega) 3 (by omega)) rfl rfl rfl ?_
 rintro r o' ⟨v3, rfl, _, _, _, rfl⟩
 simp (disch := omega) only [push_cast, go_sem, zA, simprocAttr]
 have fin : ∀ {M : Mem} (d : Do) (q : Nat), p ≤ q → q ≤ p + 6 → M 0 = some (rdO bs g q) → M 4 = some (.own 40 (some g1) 4 [.agg [.int .i64 7, .int .i64 0, .int .i64 0], .agg [.int .i64 2, .int .i64 v, .int .i64 0], .agg [.int .i64 d.k, .int .i64 d.p, .int .i64 d.v], .agg [.int .i64 8, .int .i64 0, .int .i64 0]]) →
   ∃ m, Sub m M ∧ ∃ o' γ cap es, (∃ l : List Do, es = l.map Do.V ∧ l.length = 4 ∧ ∃ q, p ≤ q ∧ q ≤ p + 6 ∧ o' = rdO bs g q) ∧ V.msl 4 [] (some g1) 4 4 = .msl 4 [] γ es.length cap ∧ m = (noM.set 0 o').set 4 (.own 40 γ cap es) :=
  fun d q h1 h2 h3 h4 => ⟨_, Sub.set (Sub.set Sub.no h3) h4, _, some g1, 4, _, ⟨[⟨7, 0, 0⟩, ⟨2, v, 0⟩, d, ⟨8, 0, 0⟩], rfl, rfl, q, h1, h2, rfl⟩, rfl, rfl⟩
 refine ⟨fun hv => ?_, fun hv => ?_⟩
 ·refine callR.rd (l71Do_rd bs hb g (p + 3) (by omega) n hn) rfl rfl rfl ?_
  rintro r o' ⟨d, rfl, q, hq1, hq2, rfl⟩
  simp (disch := omega) only [push_cast, go_sem, zA, simprocAttr, Do.V_eq]
  refine fin d q (by omega) (by omega) ?_ ?_ <;> simp (disch := omega) only [push_cast, go_sem, zA, simprocAttr]
 ·refine fin ⟨2, v2, 0⟩ (p + 3) (by omega) (by omega) ?_ ?_ <;> simp (disch := omega) only [push_cast, go_sem, zA, simprocAttr]
theorem l71Waiter_rd (bs : List Int) (hb : Bytes bs) (g p : Nat) (hp : p < 2 ^ 28) (n : Int) (hn : n < 2 ^ 30) : FrR Tryz.prog 106 [.int .i64 n] g (rdO bs g p)
  (fun es o' => ∃ l : List Do, es = l.map Do.V ∧ l.length = 3 ∧ ∃ q, p ≤ q ∧ q ≤ p + 5 ∧ o' = rdO bs g q) 40 := by
 refine FrR.of 4 (by decide) ?_
 refine Fc.start (S := []) Tryz.func106 Tryz.ntmps106 Tryz.results106 rfl (by decide) rfl (by kernel_rfl) ?_
 simp (disch := omega) only [push_cast, go_sem, zA, simprocAttr]
 refine Sat.drawnE [(2, 8), (4, 8), (8, 10), (8, 15), (12, 15), (8, 17), (12, 17)] [] [] (rdTab bs g [(58, 1, pickQ)] []) (by kernel_rfl) (by kernel_rfl) ?_
 simp (disch := omega) only [push_cast, go_sem, zA, simprocAttr]
 refine runD_pl (pick_pl bs hb g p (by omega) n hn) rfl rfl rfl rfl pickQ_ne ?_ ?_
 ·rfl
 rintro r q hq1 hq2 ⟨n', v, hn', rfl, hv⟩
 simp (disch := omega) only [push_cast, go_sem, zA, simprocAttr]
 refine runD_pl (pick_pl bs hb g q (by omega) 2 (by omega)) rfl rfl rfl rfl pickQ_ne ?_ ?_
 ·rfl
 rintro r q2 hq3 hq4 ⟨n2, v2, hn2, rfl, hv2⟩
 cases hn2
 have hv21 := hv2.2.1 (by omega)
 have hv20 := hv2.1
 simp (disch := omega) only [push_cast, go_sem, zA, simprocAttr]
 intro g1
 refine runD_pl (pick_pl bs hb g q2 (by omega) 2 (by omega)) rfl rfl rfl rfl pickQ_ne ?_ ?_
 ·simp (disch := omega) only [push_cast, go_sem, zA, simprocAttr]
 rintro r q3 hq5 hq6 ⟨n3, v3, hn3, rfl, hv3⟩
 cases hn3
 have hv31 := hv3.2.1 (by omega)
 obtain ⟨m, rfl⟩ := Int.eq_ofNat_of_zero_le hv3.1
 obtain ⟨z, hz⟩ := ints_get (l := [.int .i64 1, .int .i64 6]) (n := m) rfl (by simp; omega)
 simp (disch := omega) only [push_cast, go_sem, zA, simprocAttr, hz]
 refine ⟨by omega, ?_⟩
 refine runD_pl (pick_pl bs hb g q3 (by omega) n hn) rfl rfl rfl rfl pickQ_ne ?_ ?_
 ·simp (disch := omega) only [push_cast, go_sem, zA, simprocAttr]
 rintro r q4 hq7 hq8 ⟨n4, v4, hn4, rfl, hv4⟩
 simp (disch := omega) only [push_cast, go_sem, zA, simprocAttr]
 refine runD_pl (pick_pl bs hb g q4 (by omega) 2 (by omega)) rfl rfl rfl rfl pickQ_ne ?_ ?_
 ·simp (disch := omega) only [push_cast, go_sem, zA, simprocAttr]
 rintro r q5 hq9 hq10 ⟨n5, v5, hn5, rfl, hv5⟩
 cases hn5
 have hv51 := hv5.2.1 (by omega)
 have hv50 := hv5.1
 simp (disch := omega) only [push_cast, go_sem, zA, simprocAttr]
 intro g2
 refine ⟨_, ?_, rdO bs g q5, some g2, 3, [⟨1, v, 1 + v2⟩, ⟨9, 0, 0⟩, ⟨z, v4, 1 + v5⟩].map Do.V, ⟨_, rfl, rfl, q5, by omega, by omega, rfl⟩, rfl, rfl⟩
 ((repeat (first | exact Sub.no | refine Sub.set ?_ ?_)) <;> (try simp (disch := omega) only [push_cast, go_sem, zA, simprocAttr]))
 rfl
end
section
open Go.RowKit
structure RowO where
 γ : Option Nat
 c : Nat
 l : List Do
def RowO.V (x : RowO) : V := .own 40 x.γ x.c (x.l.map Do.V)
theorem RowO.V_eq (x : RowO) : x.V = .own 40 x.γ x.c (x.l.map Do.V) := rfl
structure BoxO where
 e : TypeId
 γ : Option Nat
 c : Nat
 xs : List RowO
def BoxO.V (x : BoxO) (g : Nat) : V := .own 25 (some g) 1 [.agg [.own x.e x.γ x.c (x.xs.map RowO.V)]]
theorem BoxO.V_eq (x : BoxO) (g : Nat) : x.V g = .own 25 (some g) 1 [.agg [.own x.e x.γ x.c (x.xs.map RowO.V)]] := rfl
def BoxO.p (x : BoxO) : Prog := x.xs.map RowO.l
theorem fz_row (x : RowO) : x.V.fz = thrV x.l := by
 simp only [RowO.V, V.fz, fzs_map, List.map_map, thrV, V.sl.injEq]
 exact List.map_congr_left fun d _ => fz_Do d
theorem fz_box (x : BoxO) : (V.own x.e x.γ x.c (x.xs.map RowO.V)).fz = .sl (x.p.map thrV) := by
 simp only [V.fz, fzs_map, List.map_map, BoxO.p, V.sl.injEq]
 exact List.map_congr_left fun d _ => fz_row d
structure Drawn (p : Prog) : Prop where
 ok : progOk p = true
 two : 2 ≤ p.length
 few : stepsP p ≤ 8
@[irreducible] def wide (n : Nat) : Nat := 65536 * n
theorem wide_succ (n : Nat) : wide (n + 1) = wide n + 65536 := by simp only [wide, Nat.mul_succ]
theorem wide_zero : wide 0 = 0 := by simp only [wide, Nat.mul_zero]
theorem wide_le {n : Nat} (h : n ≤ 12) : wide n ≤ 786432 := by simp only [wide]; exact Nat.mul_le_mul_left 65536 h
@[irreducible] def wide3 (n : Nat) : Nat := 3002 * n
theorem wide3_succ (n : Nat) : wide3 (n + 1) = wide3 n + 3002 := by simp only [wide3, Nat.mul_succ]
theorem wide3_zero : wide3 0 = 0 := by simp only [wide3, Nat.mul_zero]
theorem wide3_le {n : Nat} (h : n ≤ 3) : wide3 n ≤ 9006 := by simp only [wide3]; exact Nat.mul_le_mul_left 3002 h
theorem l71Prog_rd (bs : List Int) (hb : Bytes bs) (g p : Nat) (hp : p < 2 ^ 27) : Fr Tryz.prog 57 [] g (rdO bs g p)
  (fun r o' => ∃ x : Prog, r = progV x ∧ Drawn x ∧ ∃ q, p ≤ q ∧ q ≤ p + 2 ^ 20 ∧ o' = rdO bs g q) := by
 refine Fc.start (S := [17]) Tryz.func57 Tryz.ntmps57 Tryz.results57 rfl (by decide) rfl (by kernel_rfl) ?_
 simp (disch := omega) only [push_cast, go_sem, zA, simprocAttr]
 intro g2
 refine Sat.loop (σ := Nat × Nat) (fun x => upd (upd (upd noT 0 (.ptr 0 [] 0 0 g 2)) 2 (.ptr 2 [] 0 0 g2 1)) 3 (.int .i64 x.1))
  (fun x => (noM.set 0 (rdO bs g x.2)).set 2 (.own 25 (some g2) 1 [.agg [.own 0 none 0 []]]))
  (fun x => x.1 ≤ 12 ∧ p ≤ x.2 ∧ x.2 ≤ p + wide x.1) (fun x => 12 - x.1) (0, p) (by simp [wide_zero]) ?_ ?_
 ·(refine zB ?_; repeat (first | exact zC | exact zD | refine zE (by decide) ?_ | refine zF ?_ ?_ | refine zG ?_ ?_)) <;> (try simp (disch := omega) only [push_cast, go_sem, zA, simprocAttr])
 rintro ⟨i, q⟩ ⟨h1, h2, h3⟩ J hJ
 refine Sat.of (S := [2006]) (by kernel_rfl) ?_
 simp only at h1 h2 h3 hJ
 have hw := wide_le h1
 by_cases hi : (i : Int) < 12
 ·simp (disch := omega) only [push_cast, go_sem, zA, simprocAttr, hi]
  intro g4
  refine callR.rd (pick_rd bs hb g q (by omega) 2 (by omega)) rfl rfl rfl ?_
  rintro r o' ⟨v, rfl, hv0, hv1, _, rfl⟩
  have hv := hv1 (by omega)
  simp (disch := omega) only [push_cast, go_sem, zA, simprocAttr]
  refine Sat.cut (σ := BoxO × Nat) [] (fun x => upd (upd (upd (upd noT 0 (.ptr 0 [] 0 0 g 2)) 2 (.ptr 2 [] 0 0 g2 1)) 3 (.int .i64 i)) 4 (.ptr 4 [] 0 0 g4 1))
   (fun x => ((noM.set 0 (rdO bs g x.2)).set 2 (.own 25 (some g2) 1 [.agg [.own 0 none 0 []]])).set 4 (x.1.V g4))
   (fun x => 2 ≤ x.1.p.length ∧ x.1.p.length ≤ 3 ∧ (∀ l ∈ x.1.p, l.length < 2 ^ 10) ∧ p ≤ x.2 ∧ x.2 ≤ q + 2 ^ 15) (by kernel_rfl) ?_ ?_
  ·simp (disch := omega) only [push_cast, go_sem, zA, simprocAttr]
   refine callR.rd (pick_rd bs hb g (q + 1) (by omega) 4 (by omega)) rfl rfl rfl ?_
   rintro r o' ⟨v2, rfl, hv20, hv21, _, rfl⟩
   simp (disch := omega) only [push_cast, go_sem, zA, simprocAttr]
   refine ⟨fun hz => ?_, fun hz => ?_⟩
   ·refine callR.rdRow (l71Reader_rd bs hb g (q + 2) (by omega) 2 (by omega)) rfl rfl rfl ?_
    rintro es o' γ1 c1 ⟨l1, rfl, hl1, q1, hq1, hq2, rfl⟩
    simp (disch := omega) only [push_cast, go_sem, zA, simprocAttr]
    refine callR.rdRow (l71Waiter_rd bs hb g q1 (by omega) 2 (by omega)) rfl rfl rfl ?_
    rintro es o' γ2 c2 ⟨l2, rfl, hl2, q2, hq3, hq4, rfl⟩
    simp (disch := omega) only [push_cast, go_sem, zA, simprocAttr]
    intro g5
    refine callR.rd (pick_rd bs hb g q2 (by omega) 3 (by omega)) rfl rfl rfl ?_
    rintro r o' ⟨v3, rfl, hv30, hv31, _, rfl⟩
    simp (disch := omega) only [push_cast, go_sem, zA, simprocAttr]
    refine ⟨fun hz3 => ?_, fun hz3 => ?_⟩
    ·refine Sat.drawnE [(1, 7), (3, 7), (5, 7), (1, 8), (3, 8), (5, 8)] [(1, 9)] [1, 3, 5] (rdTab bs g [(107, 3, fun _ r => ∃ d : Do, r = d.V)] []) (by kernel_rfl) (by kernel_rfl) ?_
     simp (disch := omega) only [push_cast, go_sem, zA, simprocAttr]
     refine runD_pl (l71Do_pl bs hb g (q2 + 1) (by omega) 2 (by omega)) rfl rfl rfl rfl ⟨_, ⟨0, 0, 0⟩, rfl⟩ ?_ ?_
     ·simp (disch := omega) only [push_cast, go_sem, zA, simprocAttr]
     rintro r q3 hq5 hq6 ⟨d, rfl⟩
     simp (disch := omega) only [push_cast, go_sem, zA, simprocAttr, Do.V_eq]
     intro g6
     refine ⟨by omega, fun γ c _ => ⟨(⟨38, some g5, 2, [⟨γ, c, l1 ++ [d]⟩, ⟨γ2, c2, l2⟩]⟩, q3), ?_, ?_⟩⟩
     ·simp [BoxO.p]; omega
     ·(refine zB ?_; repeat (first | exact zC | exact zD | refine zE (by decide) ?_ | refine zF ?_ ?_ | refine zG ?_ ?_)) <;> (try simp (disch := omega) only [push_cast, go_sem, zA, simprocAttr])
      simp [BoxO.V, RowO.V, Do.V]
    ·refine ⟨(⟨38, some g5, 2, [⟨γ1, c1, l1⟩, ⟨γ2, c2, l2⟩]⟩, q2 + 1), ?_, ?_⟩
     ·simp [BoxO.p]; omega
     ·(refine zB ?_; repeat (first | exact zC | exact zD | refine zE (by decide) ?_ | refine zF ?_ ?_ | refine zG ?_ ?_)) <;> (try simp (disch := omega) only [push_cast, go_sem, zA, simprocAttr])
      simp [BoxO.V, RowO.V, Do.V]
   ·refine callR.rd (pick_rd bs hb g (q + 2) (by omega) 2 (by omega)) rfl rfl rfl ?_
    rintro r o' ⟨v3, rfl, hv30, hv31, _, rfl⟩
    have hv3 := hv31 (by omega)
    obtain ⟨m, rfl⟩ := Int.eq_ofNat_of_zero_le hv30
    simp (disch := omega) only [push_cast, go_sem, zA, simprocAttr]
    refine Sat.loop (σ := BoxO × Nat × Nat) (fun x => upd (upd (upd (upd (upd (upd (upd noT 0 (.ptr 0 [] 0 0 g 2)) 2 (.ptr 2 [] 0 0 g2 1)) 3 (.int .i64 i)) 4 (.ptr 4 [] 0 0 g4 1)) 5 (.int .i64 (1 + v))) 6 (.int .i64 (2 + m))) 7 (.int .i64 x.2.2))
     (fun x => ((noM.set 0 (rdO bs g x.2.1)).set 2 (.own 25 (some g2) 1 [.agg [.own 0 none 0 []]])).set 4 (x.1.V g4))
     (fun x => x.1.p.length = x.2.2 ∧ x.2.2 ≤ 2 + m ∧ (∀ l ∈ x.1.p, l.length < 2 ^ 10) ∧ p ≤ x.2.1 ∧ x.2.1 ≤ q + 3 + wide3 x.2.2 ∧ (x.1.γ = none ∨ x.1.e = 38)) (fun x => 2 + m - x.2.2) (⟨0, none, 0, []⟩, q + 2 + 1, 0) (by simp [BoxO.p, wide3_zero]; omega) ?_ ?_
    ·(refine zB ?_; repeat (first | exact zC | exact zD | refine zE (by decide) ?_ | refine zF ?_ ?_ | refine zG ?_ ?_)) <;> (try simp (disch := omega) only [push_cast, go_sem, zA, simprocAttr])
     rfl
    rintro ⟨x, q1, k⟩ ⟨k1, k2, k3, k4, k5, k6⟩ J2 hJ2
    refine Sat.of (S := []) (by kernel_rfl) ?_
    simp only at k1 k2 k3 k4 k5 k6 hJ2
    have hw3 := wide3_le (n := k) (by omega)
    by_cases hk : (k : Int) < 2 + m
    ·obtain ⟨s6, hs6, hb6, hb7⟩ : ∃ s : Int, (6 : Int).tdiv (2 + (m : Int)) = s ∧ 0 ≤ s ∧ s ≤ 3 := by
      obtain rfl | rfl : m = 0 ∨ m = 1 := by omega
      ·exact ⟨3, by decide, by decide, by decide⟩
      ·exact ⟨2, by decide, by decide, by decide⟩
     have hne : ¬ (2 + (m : Int) = 0) := by omega
     simp (disch := omega) only [push_cast, go_sem, zA, simprocAttr, hk]
     refine Sat.drawnE [(1, 6), (1, 9), (1, 10)] [] [1] (rdTab bs g [(58, 1, pickQ)] [(108, 3001, 40, thrQ)]) (by kernel_rfl) (by kernel_rfl) ?_
     simp (disch := omega) only [push_cast, go_sem, zA, simprocAttr, hs6, hne, BoxO.V_eq]
     refine runD_pl (pick_pl bs hb g q1 (by omega) 2 (by omega)) rfl rfl rfl rfl pickQ_ne ?_ ?_
     ·simp (disch := omega) only [push_cast, go_sem, zA, simprocAttr]
     rintro r q3 hq1 hq2 ⟨n4, v4, hn4, rfl, hv4⟩
     cases hn4
     have hv41 := hv4.2.1 (by omega)
     have hv40 := hv4.1
     simp (disch := omega) only [push_cast, go_sem, zA, simprocAttr]
     refine runD_rw (l71Thread_pl bs hb g q3 (by omega) (s6 + v4) (by omega) (by omega) (1 + v) (by omega)) rfl rfl rfl rfl rfl ⟨_, [], _, rfl, rfl, by simp; omega⟩ ?_ ?_
     ·simp (disch := omega) only [push_cast, go_sem, zA, simprocAttr]
     rintro es q4 γ c hq3 hq4 ⟨l, most, hmo, rfl, hl⟩
     cases hmo
     have k6' : (x.γ = none ∨ x.e = 38) = True := by simp only [k6]
     cases hfl : (V.own 40 γ c (l.map Do.V)).flatC <;> simp (disch := omega) only [push_cast, go_sem, zA, simprocAttr, k6', hfl]
     all_goals
      intro g6
      refine ⟨?_, fun γ2 c2 _ => ?_⟩
      ·have : x.xs.length = k := by simpa [BoxO.p] using k1
       omega
      have e1 : k + 1 ≤ 2 + m := by omega
      have e2 : p ≤ q4 := by omega
      have e3 : q4 ≤ q + 3 + wide3 (k + 1) := by have := wide3_succ k; omega
      have e4 : 2 + m - (k + 1) < 2 + m - k := by omega
      have e5 : (BoxO.p ⟨38, γ2, c2, x.xs ++ [⟨γ, c, l⟩]⟩).length = k + 1 := by simpa [BoxO.p] using k1
      refine hJ2 (⟨38, γ2, c2, x.xs ++ [⟨γ, c, l⟩]⟩, q4, k + 1) _ _ ?_ (by dsimp only; exact e4) ?_
      ·dsimp only
       refine ⟨e5, e1, ?_, e2, e3, .inr rfl⟩
       intro l' hl'
       simp only [BoxO.p, List.map_append, List.map_cons, List.map_nil, List.mem_append, List.mem_singleton] at hl'
       rcases hl' with h | rfl
       ·exact k3 l' h
       ·omega
      ·(refine zB ?_; repeat (first | exact zC | exact zD | refine zE (by decide) ?_ | refine zF ?_ ?_ | refine zG ?_ ?_)) <;> (try simp (disch := omega) only [push_cast, go_sem, zA, simprocAttr])
       all_goals simp [BoxO.V, RowO.V]
    ·simp (disch := omega) only [push_cast, go_sem, zA, simprocAttr, hk]
     refine ⟨(x, q1), ?_, ?_⟩
     ·exact ⟨by simp only; omega, by simp only; omega, k3, k4, by simp only; omega⟩
     ·(refine zB ?_; repeat (first | exact zC | exact zD | refine zE (by decide) ?_ | refine zF ?_ ?_ | refine zG ?_ ?_)) <;> (try simp (disch := omega) only [push_cast, go_sem, zA, simprocAttr])
  rintro ⟨x, q1⟩ ⟨k1, k2, k3, k4, k5⟩
  simp only at k1 k2 k3 k4 k5
  refine Sat.freezeC 4 [] 0 0 (n0 := x.V g4) (d := .own x.e x.γ x.c (x.xs.map RowO.V)) rfl rfl rfl ?_
  rw [fz_box]
  refine Sat.of (S := []) (by kernel_rfl) ?_
  simp (disch := omega) only [push_cast, go_sem, zA, simprocAttr, BoxO.V_eq]
  refine callR.pure (specProgOk_fn x.p (by omega)) rfl rfl ?_
  have next : ∀ t' M', Less (upd (upd (upd noT 0 (.ptr 0 [] 0 0 g 2)) 2 (.ptr 2 [] 0 0 g2 1)) 3 (.int .i64 (i + 1 : Nat))) t' ((noM.set 0 (rdO bs g q1)).set 2 (.own 25 (some g2) 1 [.agg [.own 0 none 0 []]])) M' → J t' M' := by
   intro t' M' hl
   have e1 : i + 1 ≤ 12 := by omega
   have e2 : q1 ≤ p + wide (i + 1) := by have := wide_succ i; omega
   have e3 : 12 - (i + 1) < 12 - i := by omega
   exact hJ (i + 1, q1) _ _ (by dsimp only; exact ⟨e1, k4, e2⟩) (by dsimp only; exact e3) hl
  cases hok : progOk x.p
  ·simp (disch := omega) only [push_cast, go_sem, zA, simprocAttr]
   refine next _ _ ?_
   (refine zB ?_; repeat (first | exact zC | exact zD | refine zE (by decide) ?_ | refine zF ?_ ?_ | refine zG ?_ ?_)) <;> (try simp (disch := omega) only [push_cast, go_sem, zA, simprocAttr])
  ·simp (disch := omega) only [push_cast, go_sem, zA, simprocAttr]
   refine callR.pure (l71Steps_fn x.p (by omega) k3) rfl rfl ?_
   simp (disch := omega) only [push_cast, go_sem, zA, simprocAttr]
   refine ⟨fun h8 => ?_, fun h8 => ?_⟩
   ·have h8' : stepsP x.p ≤ 8 := by omega
    refine ⟨_, ?_, _, ⟨x.p, rfl, ⟨hok, k1, h8'⟩, q1, k4, by omega, rfl⟩, rfl⟩
    ((repeat (first | exact Sub.no | refine Sub.set ?_ ?_)) <;> (try simp (disch := omega) only [push_cast, go_sem, zA, simprocAttr]))
   ·refine next _ _ ?_
    (refine zB ?_; repeat (first | exact zC | exact zD | refine zE (by decide) ?_ | refine zF ?_ ?_ | refine zG ?_ ?_)) <;> (try simp (disch := omega) only [push_cast, go_sem, zA, simprocAttr])
 ·have : i = 12 := by omega
  subst this
  simp (disch := omega) only [push_cast, go_sem, zA, simprocAttr]
  refine Sat.cut (σ := Nat × Nat × Nat) [] (fun _ => upd noT 2 (.ptr 2 [] 0 0 g2 1))
   (fun x => (noM.set 0 (rdO bs g q)).set 2 (BoxO.V ⟨38, some x.1, 2, [⟨some x.2.1, 1, [⟨1, 0, 1⟩]⟩, ⟨some x.2.2, 1, [⟨2, 0, 0⟩]⟩]⟩ g2)) (fun _ => True) (by kernel_rfl) ?_ ?_
  ·simp (disch := omega) only [push_cast, go_sem, zA, simprocAttr]
   intro a b c
   refine ⟨(c, a, b), ?_⟩
   (refine zB ?_; repeat (first | exact zC | exact zD | refine zE (by decide) ?_ | refine zF ?_ ?_ | refine zG ?_ ?_)) <;> (try simp (disch := omega) only [push_cast, go_sem, zA, simprocAttr])
   rfl
  rintro ⟨a, b, c⟩ _
  refine Sat.freezeC 2 [] 0 0 (n0 := BoxO.V ⟨38, some a, 2, [⟨some b, 1, [⟨1, 0, 1⟩]⟩, ⟨some c, 1, [⟨2, 0, 0⟩]⟩]⟩ g2) (d := .own 38 (some a) 2 ([⟨some b, 1, [⟨1, 0, 1⟩]⟩, ⟨some c, 1, [⟨2, 0, 0⟩]⟩].map RowO.V)) rfl rfl rfl ?_
  rw [fz_box ⟨38, some a, 2, [⟨some b, 1, [⟨1, 0, 1⟩]⟩, ⟨some c, 1, [⟨2, 0, 0⟩]⟩]⟩]
  refine Sat.of (S := []) (by kernel_rfl) ?_
  simp (disch := omega) only [push_cast, go_sem, zA, simprocAttr, BoxO.V_eq]
  refine ⟨_, ?_, _, ⟨[[⟨1, 0, 1⟩], [⟨2, 0, 0⟩]], rfl, ⟨by decide, by decide, by decide⟩, q, h2, by omega, rfl⟩, rfl⟩
  ((repeat (first | exact Sub.no | refine Sub.set ?_ ?_)) <;> (try simp (disch := omega) only [push_cast, go_sem, zA, simprocAttr]))
end
section
open Go.RowKit
theorem set_thr (x : Prog) (k : Nat) (l : List Do) : (x.map thrV).modify k (fun v => v.setC 0 (thrV l)) = (List.map thrV (x.set k l)) := by
 apply List.ext_getElem?
 intro i
 rw [List.getElem?_modify, List.getElem?_map]
 simp only [List.getElem?_map, List.getElem?_set]
 by_cases h : k = i
 ·subst h
  by_cases h2 : k < x.length
  ·simp [h2, thrV, V.setC]
  ·simp [h2]
 ·simp [h]
theorem fz_thrs (e : TypeId) (γ : Option Nat) (c : Nat) (x : Prog) : (V.own e γ c (x.map thrV)).fz = .sl (x.map thrV) := by
 simp only [V.fz, fzs_map, List.map_map, V.sl.injEq]
 exact List.map_congr_left fun d _ => rfl
theorem l71Bad_rd (bs : List Int) (hb : Bytes bs) (g p : Nat) (hp : p < 2 ^ 29) (x : Prog) (hx1 : 1 ≤ x.length) (hx2 : x.length < 2 ^ 10) (hx3 : ∀ l ∈ x, l.length < 2 ^ 10) : Fr Tryz.prog 59 [progV x] g (rdO bs g p)
  (fun r o' => ∃ y : Prog, r = progV y ∧ y.length = x.length ∧ (∀ l ∈ y, l.length < 2 ^ 11) ∧ ∃ q, p ≤ q ∧ q ≤ p + 20 ∧ o' = rdO bs g q) := by
 refine Fc.start (S := [2003]) Tryz.func59 Tryz.ntmps59 Tryz.results59 rfl (by decide) rfl (by kernel_rfl) ?_
 simp (disch := omega) only [push_cast, go_sem, zA, simprocAttr, progV_eq]
 intro g3 g4
 refine callR.rd (pick_rd bs hb g p (by omega) x.length (by omega)) rfl rfl rfl ?_
 rintro r o' ⟨v, rfl, hv0, hv1, _, rfl⟩
 have hv := hv1 (by omega)
 obtain ⟨k, rfl⟩ := Int.eq_ofNat_of_zero_le hv0
 have hk : k < x.length := by omega
 obtain ⟨l, hl⟩ : ∃ l, x[k]? = some l := ⟨_, List.getElem?_eq_getElem hk⟩
 have hll := hx3 l (List.mem_of_getElem? hl)
 simp (disch := omega) only [push_cast, go_sem, zA, simprocAttr, hl, hk, thrV_eq]
 refine fun g5 => ⟨by omega, fun γ c _ => ?_⟩
 refine Sat.cut (σ := RowO × Nat) [] (fun y => upd (upd (upd (upd (upd noT 0 (.ptr 0 [] 0 0 g 2)) 3 (.ptr 3 [] 0 0 g3 1)) 4 (.ptr 4 [] 0 0 g4 1)) 5 (.int .i64 k)) 6 (.msl 6 [] y.1.γ y.1.l.length y.1.c))
  (fun y => (((noM.set 0 (rdO bs g y.2)).set 3 (boxP x g3)).set 4 (.own 25 (some g4) 1 [.agg [.own 0 none 0 []]])).set 6 y.1.V)
  (fun y => y.1.l.length ≤ 1050 ∧ p ≤ y.2 ∧ y.2 ≤ p + 20) (by kernel_rfl) ?_ ?_
 ·simp (disch := omega) only [push_cast, go_sem, zA, simprocAttr]
  refine callR.rd (pick_rd bs hb g (p + 1) (by omega) 8 (by omega)) rfl rfl rfl ?_
  rintro r o' ⟨v2, rfl, hv20, hv21, _, rfl⟩
  have hv2 := hv21 (by omega)
  obtain ⟨m, rfl⟩ := Int.eq_ofNat_of_zero_le hv20
  have hm : m = 0 ∨ m = 1 ∨ m = 2 ∨ m = 3 ∨ m = 4 ∨ m = 5 ∨ m = 6 ∨ m = 7 := by omega
  rcases hm with rfl | rfl | rfl | rfl | rfl | rfl | rfl | rfl
  ·simp (disch := omega) only [push_cast, go_sem, zA, simprocAttr]
   refine callR.rd (pick_rd bs hb g (p + 2) (by omega) 12 (by omega)) rfl rfl rfl ?_
   rintro r o' ⟨v3, rfl, hv30, hv31, _, rfl⟩
   have hv3 := hv31 (by omega)
   simp (disch := omega) only [push_cast, go_sem, zA, simprocAttr]
   intro g6
   refine ⟨by omega, fun γ' c' _ => ⟨(⟨γ', c', l ++ [⟨v3 - 1, 0, 0⟩]⟩, p + 3), ⟨by simp; omega, by simp only; omega, by simp only; omega⟩, ?_⟩⟩
   (refine zB ?_; repeat (first | exact zC | exact zD | refine zE (by decide) ?_ | refine zF ?_ ?_ | refine zG ?_ ?_)) <;> (try simp (disch := omega) only [push_cast, go_sem, zA, simprocAttr])
   all_goals first | rfl | omega | simp [RowO.V, Do.V, Nat.add_comm]
  ·simp (disch := omega) only [push_cast, go_sem, zA, simprocAttr]
   intro g6
   refine ⟨by omega, fun γ' c' _ => ⟨(⟨γ', c', ⟨3, 0, 0⟩ :: l⟩, p + 2), ⟨by simp; omega, by simp only; omega, by simp only; omega⟩, ?_⟩⟩
   (refine zB ?_; repeat (first | exact zC | exact zD | refine zE (by decide) ?_ | refine zF ?_ ?_ | refine zG ?_ ?_)) <;> (try simp (disch := omega) only [push_cast, go_sem, zA, simprocAttr])
   all_goals first | rfl | omega | simp [RowO.V, Do.V, Nat.add_comm]
  ·simp (disch := omega) only [push_cast, go_sem, zA, simprocAttr]
   intro g6
   refine ⟨by omega, fun γ' c' _ => ⟨(⟨γ', c', l ++ [⟨7, 0, 0⟩]⟩, p + 2), ⟨by simp; omega, by simp only; omega, by simp only; omega⟩, ?_⟩⟩
   (refine zB ?_; repeat (first | exact zC | exact zD | refine zE (by decide) ?_ | refine zF ?_ ?_ | refine zG ?_ ?_)) <;> (try simp (disch := omega) only [push_cast, go_sem, zA, simprocAttr])
   all_goals first | rfl | omega | simp [RowO.V, Do.V, Nat.add_comm]
  ·simp (disch := omega) only [push_cast, go_sem, zA, simprocAttr]
   intro g6
   refine ⟨by omega, fun γ' c' _ => ⟨(⟨γ', c', ⟨8, 0, 0⟩ :: l⟩, p + 2), ⟨by simp; omega, by simp only; omega, by simp only; omega⟩, ?_⟩⟩
   (refine zB ?_; repeat (first | exact zC | exact zD | refine zE (by decide) ?_ | refine zF ?_ ?_ | refine zG ?_ ?_)) <;> (try simp (disch := omega) only [push_cast, go_sem, zA, simprocAttr])
   all_goals first | rfl | omega | simp [RowO.V, Do.V, Nat.add_comm]
  ·simp (disch := omega) only [push_cast, go_sem, zA, simprocAttr]
   intro g6
   refine callR.rd (pick_rd bs hb g (p + 2) (by omega) 2 (by omega)) rfl rfl rfl ?_
   rintro r o' ⟨v3, rfl, hv30, hv31, _, rfl⟩
   have hv3 := hv31 (by omega)
   obtain ⟨m, rfl⟩ := Int.eq_ofNat_of_zero_le hv30
   obtain ⟨z, hz⟩ := ints_get (l := [.int .i64 (-1), .int .i64 3]) (n := m) rfl (by simp; omega)
   simp (disch := omega) only [push_cast, go_sem, zA, simprocAttr, hz]
   refine ⟨by omega, fun g7 => ?_⟩
   refine ⟨by omega, fun γ' c' _ => ⟨(⟨γ', c', l ++ [⟨1, z, 1⟩]⟩, p + 3), ⟨by simp; omega, by simp only; omega, by simp only; omega⟩, ?_⟩⟩
   (refine zB ?_; repeat (first | exact zC | exact zD | refine zE (by decide) ?_ | refine zF ?_ ?_ | refine zG ?_ ?_)) <;> (try simp (disch := omega) only [push_cast, go_sem, zA, simprocAttr])
   all_goals first | rfl | omega | simp [RowO.V, Do.V, Nat.add_comm]
  ·simp (disch := omega) only [push_cast, go_sem, zA, simprocAttr]
   intro g6
   refine callR.rd (pick_rd bs hb g (p + 2) (by omega) 2 (by omega)) rfl rfl rfl ?_
   rintro r o' ⟨v3, rfl, hv30, hv31, _, rfl⟩
   have hv3 := hv31 (by omega)
   obtain ⟨m, rfl⟩ := Int.eq_ofNat_of_zero_le hv30
   obtain ⟨z, hz⟩ := ints_get (l := [.int .i64 0, .int .i64 4]) (n := m) rfl (by simp; omega)
   simp (disch := omega) only [push_cast, go_sem, zA, simprocAttr, hz]
   refine ⟨by omega, fun g7 => ?_⟩
   refine ⟨by omega, fun γ' c' _ => ⟨(⟨γ', c', l ++ [⟨1, 0, z⟩]⟩, p + 3), ⟨by simp; omega, by simp only; omega, by simp only; omega⟩, ?_⟩⟩
   (refine zB ?_; repeat (first | exact zC | exact zD | refine zE (by decide) ?_ | refine zF ?_ ?_ | refine zG ?_ ?_)) <;> (try simp (disch := omega) only [push_cast, go_sem, zA, simprocAttr])
   all_goals first | rfl | omega | simp [RowO.V, Do.V, Nat.add_comm]
  ·simp (disch := omega) only [push_cast, go_sem, zA, simprocAttr]
   refine Sat.loop (σ := RowO × Nat × Nat) (fun y => upd (upd (upd (upd (upd (upd noT 0 (.ptr 0 [] 0 0 g 2)) 3 (.ptr 3 [] 0 0 g3 1)) 4 (.ptr 4 [] 0 0 g4 1)) 5 (.int .i64 k)) 6 (.msl 6 [] y.1.γ y.1.l.length y.1.c)) 7 (.int .i64 y.2.2))
    (fun y => (((noM.set 0 (rdO bs g y.2.1)).set 3 (boxP x g3)).set 4 (.own 25 (some g4) 1 [.agg [.own 0 none 0 []]])).set 6 y.1.V)
    (fun y => y.1.l.length = l.length + y.2.2 ∧ y.2.2 ≤ 7 ∧ y.2.1 = p + 2 + y.2.2) (fun y => 7 - y.2.2) (⟨γ, c, l⟩, p + 2, 0) (by simp) ?_ ?_
   ·(refine zB ?_; repeat (first | exact zC | exact zD | refine zE (by decide) ?_ | refine zF ?_ ?_ | refine zG ?_ ?_)) <;> (try simp (disch := omega) only [push_cast, go_sem, zA, simprocAttr])
    all_goals first | rfl | omega | simp [RowO.V, Do.V, Nat.add_comm]
   rintro ⟨y, q, i⟩ ⟨h1, h2, h3⟩ J hJ
   refine Sat.of (S := []) (by kernel_rfl) ?_
   simp only at h1 h2 h3 hJ
   by_cases hi : (i : Int) < 7
   ·simp (disch := omega) only [push_cast, go_sem, zA, simprocAttr, hi, RowO.V_eq]
    intro g6
    refine callR.rd (pick_rd bs hb g q (by omega) 2 (by omega)) rfl rfl rfl ?_
    rintro r o' ⟨v3, rfl, hv30, hv31, _, rfl⟩
    have hv3 := hv31 (by omega)
    obtain ⟨m, rfl⟩ := Int.eq_ofNat_of_zero_le hv30
    obtain ⟨z, hz⟩ := ints_get (l := [.int .i64 4, .int .i64 2]) (n := m) rfl (by simp; omega)
    simp (disch := omega) only [push_cast, go_sem, zA, simprocAttr, hz]
    refine ⟨by omega, fun g7 => ⟨by omega, fun γ' c' _ => ?_⟩⟩
    refine hJ (⟨γ', c', y.l ++ [⟨z, 0, 0⟩]⟩, q + 1, i + 1) _ _ ⟨by simp; omega, by simp only; omega, by simp only; omega⟩ (by simp only; omega) ?_
    (refine zB ?_; repeat (first | exact zC | exact zD | refine zE (by decide) ?_ | refine zF ?_ ?_ | refine zG ?_ ?_)) <;> (try simp (disch := omega) only [push_cast, go_sem, zA, simprocAttr])
    all_goals first | rfl | omega | simp [RowO.V, Do.V, Nat.add_comm]
   ·simp (disch := omega) only [push_cast, go_sem, zA, simprocAttr, hi]
    refine ⟨(y, q), ⟨by simp only; omega, by simp only; omega, by simp only; omega⟩, ?_⟩
    (refine zB ?_; repeat (first | exact zC | exact zD | refine zE (by decide) ?_ | refine zF ?_ ?_ | refine zG ?_ ?_)) <;> (try simp (disch := omega) only [push_cast, go_sem, zA, simprocAttr])
  ·simp (disch := omega) only [push_cast, go_sem, zA, simprocAttr]
   intro g6
   refine ⟨by omega, fun γ' c' _ => ⟨(⟨γ', c', l ++ [⟨4, 0, 1⟩]⟩, p + 2), ⟨by simp; omega, by simp only; omega, by simp only; omega⟩, ?_⟩⟩
   (refine zB ?_; repeat (first | exact zC | exact zD | refine zE (by decide) ?_ | refine zF ?_ ?_ | refine zG ?_ ?_)) <;> (try simp (disch := omega) only [push_cast, go_sem, zA, simprocAttr])
   all_goals first | rfl | omega | simp [RowO.V, Do.V, Nat.add_comm]
 rintro ⟨y, q⟩ ⟨h1, h2, h3⟩
 simp only at h1 h2 h3
 refine Sat.freezeT (upd (upd (upd (upd (upd noT 0 (.ptr 0 [] 0 0 g 2)) 3 (.ptr 3 [] 0 0 g3 1)) 4 (.ptr 4 [] 0 0 g4 1)) 5 (.int .i64 k)) 6 (.sl (y.l.map Do.V))) (((noM.set 0 (rdO bs g q)).set 3 (boxP x g3)).set 4 (.own 25 (some g4) 1 [.agg [.own 0 none 0 []]]))
  6 (e := 40) (γ := y.γ) (cap := y.c) (es := y.l.map Do.V) rfl ?_ ?_
 ·(refine zB ?_; repeat (first | exact zC | exact zD | refine zE (by decide) ?_ | refine zF ?_ ?_ | refine zG ?_ ?_)) <;> (try simp (disch := omega) only [push_cast, go_sem, zA, simprocAttr])
 refine Sat.of (S := [24]) (by kernel_rfl) ?_
 simp (disch := omega) only [push_cast, go_sem, zA, simprocAttr, boxP_eq]
 refine fun g6 => ⟨by omega, fun γ' c' hγ => ?_⟩
 cases γ' with
 | none =>
  have := hγ rfl
  simp at this
  subst this
  simp at hk
 | some g7 =>
 intro g8
 simp (disch := omega) only [push_cast, go_sem, zA, simprocAttr, hl, hk, thrV_eq]
 refine Sat.less (t' := upd (upd noT 4 (.ptr 4 [] 0 0 g4 1)) 8 (.ptr 8 [] 0 0 g8 1))
  (M' := ((noM.set 0 (rdO bs g q)).set 4 (.own 25 (some g4) 1 [.agg [.own 0 none 0 []]])).set 8 (.own 25 (some g8) 1 [.agg [.own 38 (some g7) c' ((x.set k y.l).map thrV)]])) ?_ ?_
 rotate_left
 ·(refine zB ?_; repeat (first | exact zC | exact zD | refine zE (by decide) ?_ | refine zF ?_ ?_ | refine zG ?_ ?_)) <;> (try simp (disch := omega) only [push_cast, go_sem, zA, simprocAttr])
  have := set_thr x k y.l
  simp only [thrV_eq] at this
  rw [this]
 refine Sat.freezeC 8 [] 0 0 (n0 := .own 25 (some g8) 1 [.agg [.own 38 (some g7) c' ((x.set k y.l).map thrV)]]) (d := .own 38 (some g7) c' ((x.set k y.l).map thrV)) rfl rfl rfl ?_
 rw [fz_thrs]
 refine Sat.of (S := []) (by kernel_rfl) ?_
 simp (disch := omega) only [push_cast, go_sem, zA, simprocAttr]
 refine ⟨_, ?_, _, ⟨x.set k y.l, rfl, by simp, ?_, q, h2, h3, rfl⟩, rfl⟩
 ·((repeat (first | exact Sub.no | refine Sub.set ?_ ?_)) <;> (try simp (disch := omega) only [push_cast, go_sem, zA, simprocAttr]))
 ·intro l' hl'
  rcases List.mem_or_eq_of_mem_set hl' with h | rfl
  ·have := hx3 l' h; omega
  ·omega
end
section
open Go.RowKit
theorem l71Any_rd (bs : List Int) (hb : Bytes bs) (g p : Nat) (hp : p < 2 ^ 27) : Fr Tryz.prog 30 [] g (rdO bs g p)
  (fun r o' => ∃ x : Prog, r = progV x ∧ x.length ≤ 3 ∧ (∀ l ∈ x, l.length < 2 ^ 11) ∧ ∃ q, p ≤ q ∧ q ≤ p + 2 ^ 21 ∧ o' = rdO bs g q) := by
 refine Fc.start (S := []) Tryz.func30 Tryz.ntmps30 Tryz.results30 rfl (by decide) rfl (by kernel_rfl) ?_
 simp (disch := omega) only [push_cast, go_sem, zA, simprocAttr]
 intro g2
 refine callR.rd (l71Prog_rd bs hb g p hp) rfl rfl rfl ?_
 rintro r o' ⟨x, rfl, ⟨hx1, hx2, hx3⟩, q, hq1, hq2, rfl⟩
 have hx1' := hx1
 simp only [progOk, Bool.and_eq_true, decide_eq_true_eq, List.all_eq_true] at hx1'
 have hx4 : ∀ l ∈ x, l.length ≤ 7 := fun l h => threadOk_le (hx1'.1.1.2 l h)
 have hx5 := hx1'.1.1.1
 simp (disch := omega) only [push_cast, go_sem, zA, simprocAttr, progV_eq]
 intro g3
 refine callR.rd (pick_rd bs hb g q (by omega) 16 (by omega)) rfl rfl rfl ?_
 rintro r o' ⟨v, rfl, hv0, hv1, _, rfl⟩
 simp (disch := omega) only [push_cast, go_sem, zA, simprocAttr]
 refine ⟨fun _ => ?_, fun _ => ?_⟩
 ·refine callR.rd (l71Bad_rd bs hb g (q + 1) (by omega) x (by omega) (by omega) (fun l h => by have := hx4 l h; omega)) rfl rfl rfl ?_
  rintro r o' ⟨y, rfl, hy1, hy2, q2, hq3, hq4, rfl⟩
  simp (disch := omega) only [push_cast, go_sem, zA, simprocAttr, progV_eq]
  refine ⟨_, ?_, _, ⟨y, rfl, by omega, hy2, q2, by omega, by omega, rfl⟩, rfl⟩
  ((repeat (first | exact Sub.no | refine Sub.set ?_ ?_)) <;> (try simp (disch := omega) only [push_cast, go_sem, zA, simprocAttr]))
 ·refine ⟨_, ?_, _, ⟨x, rfl, hx5, fun l h => by have := hx4 l h; omega, q + 1, by omega, by omega, rfl⟩, rfl⟩
  ((repeat (first | exact Sub.no | refine Sub.set ?_ ?_)) <;> (try simp (disch := omega) only [push_cast, go_sem, zA, simprocAttr]))
end
section
open Go.RowKit
section
variable {P : Program} {N : Nat} {imm imm' imm0 : Nat → Prop} {w w' w0 : World} {M M0 M' Mm : Mem} {t T : Nat → V} {a : Act} {C : Kont} {ops : Array Oper} {Q : Exit → Act → World → Prop}
def SameBut (ds : List (Option Nat)) (a a' : Act) : Prop := a'.defers.length ≥ a.defers.length ∧ ∀ i, some i ∉ ds → a'.tmps.getD i undef = a.tmps.getD i undef
theorem SameBut.put (ds : List (Option Nat)) (a : Act) (d : Option Nat) (v : Value) (hd : d ∈ ds) : SameBut ds a (a.put d v) := by
 refine ⟨by rw [put_defers]; exact Nat.le_refl _, fun i hi => ?_⟩
 cases d with
 | none => rfl
 | some d =>
  have : ¬ d = i := fun e => hi (e ▸ hd)
  simp only [Act.put, Array.getD_eq_getD_getElem?]
  rw [Array.getElem?_setIfInBounds_ne this]
def Pk (P : Program) (M : Mem) (T t : Nat → V) : Prop := ∀ i, T i = .undef ∨ T i = t i ∨
 ∃ o r j g k e cap es x, t i = .ptr o [] r j g k ∧ M o = some (.own e (some g) cap es) ∧ es[r]? = some x ∧ k = szT P e ∧ T i = .eptr ((x.cells.drop j).map V.fz)
theorem Pk.nil : Pk P M noT t := fun _ => .inl rfl
theorem Pk.upd {d : Nat} {v : V} (h : Pk P M T t) (hv : t d = v) : Pk P M (upd T d v) t := fun i => by
 by_cases hi : i = d
 ·subst hi; exact .inr (.inl (by simp [Go.Proofs.YtkdolbffabmemaaGreatDoor.upd, hv]))
 ·have := h i; simpa [Go.Proofs.YtkdolbffabmemaaGreatDoor.upd, hi] using this
theorem Pk.ptr {d : Nat} {o r j g k : Nat} {e : TypeId} {cap : Nat} {es cs : List V} {x : V} (h : Pk P M T t) (hv : t d = .ptr o [] r j g k) (ho : M o = some (.own e (some g) cap es)) (hx : es[r]? = some x) (hk : k = szT P e) (hcs : (x.cells.drop j).map V.fz = cs) :
  Pk P M (Go.Proofs.YtkdolbffabmemaaGreatDoor.upd T d (.eptr cs)) t := fun i => by
 subst hcs
 by_cases hi : i = d
 ·subst hi; exact .inr (.inr ⟨o, r, j, g, k, e, cap, es, x, hv, ho, hx, hk, by simp [Go.Proofs.YtkdolbffabmemaaGreatDoor.upd]⟩)
 ·have := h i; simpa [Go.Proofs.YtkdolbffabmemaaGreatDoor.upd, hi] using this
def Keep (ds : List (Option Nat)) (T t : Nat → V) : Prop := ∀ i, T i = .undef ∨ (T i = t i ∧ some i ∉ ds)
theorem Keep.nil {ds : List (Option Nat)} : Keep ds noT t := fun _ => .inl rfl
theorem Keep.upd {ds : List (Option Nat)} {d : Nat} {v : V} (h : Keep ds T t) (hv : t d = v) (hd : ds.contains (some d) = false) : Keep ds (upd T d v) t := fun i => by
 by_cases hi : i = d
 ·subst hi; exact .inr ⟨by simp [Go.Proofs.YtkdolbffabmemaaGreatDoor.upd, hv], by simpa using hd⟩
 ·have := h i; simpa [Go.Proofs.YtkdolbffabmemaaGreatDoor.upd, hi] using this
end
end
section
open Go.RowKit
structure RowE where
 γ : Option Nat
 c : Nat
 f : List Int
 e : TypeId
 γ' : Option Nat
 c' : Nat
 ws : List RowI
def RowE.V (x : RowE) : V := .agg [.own 3 x.γ x.c (x.f.map (V.int .i64)), .own x.e x.γ' x.c' (x.ws.map RowI.V)]
theorem RowE.V_eq (x : RowE) : x.V = .agg [.own 3 x.γ x.c (x.f.map (V.int .i64)), .own x.e x.γ' x.c' (x.ws.map RowI.V)] := rfl
def RowE.x (x : RowE) : Exe := ⟨x.f, x.ws.map RowI.l⟩
theorem specAll_small {p : Prog} {y : Exe} (h : y ∈ specAll p) : y.fr.length ≤ 42 ∧ y.od.length = 3 ∧ ∀ r ∈ y.od, r.length ≤ 42 := by
 unfold specAll at h
 cases hok : progOk p
 ·rw [hok] at h; cases h
 rw [hok, if_pos rfl] at h
 have hel := events_le hok
 have hsl : (scene p).ds.length = (events p).length := by simp [scene]
 simp only [allS, List.mem_flatMap] at h
 obtain ⟨f, hf, o, ho, h⟩ := h
 unfold oneS at h
 split at h
 ·simp at h; subst h
  have h1 := (compl_row (by simp; omega) (by simp) hf).1
  have h2 := ordersSK_row ho
  exact ⟨by dsimp only; omega, h2, fun r hr => by have := ordersS_in ho hr; omega⟩
 ·cases h
theorem specAll_le (p : Prog) : (specAll p).length < 2 ^ 30 := by
 unfold specAll
 cases hok : progOk p
 ·simp
 have hus := scene_uses hok
 have hsl : (scene p).ds.length = (events p).length := by simp [scene]
 have hc := compl_le hus
 rw [hsl] at hc
 rw [if_pos rfl]
 have k1 := flatMap_le (f := fun f => (ordersSK (scene p).ds 3).flatMap fun o => oneS p f o) (n := (ordersSK (scene p).ds 3).length) (fun f => by have := flatMap_le (oneS_le p f) (ordersSK (scene p).ds 3); rw [Nat.mul_one] at this; exact this) (compl (scene p).ds (events p).length [])
 exact Nat.lt_of_le_of_lt k1 (Nat.lt_of_le_of_lt (Nat.mul_le_mul hc (ordersS_le hus 3 (Nat.le_refl _))) (by decide))
end
section
open Go.RowKit
section
variable {P : Program} {N : Nat} {imm imm' imm0 : Nat → Prop} {w w' w0 : World} {M M0 M' Mm : Mem} {t T : Nat → V} {a : Act} {C : Kont} {ops : Array Oper} {Q : Exit → Act → World → Prop} {K : (Nat → V) → Mem → Prop}
def SatW (P : Program) (N : Nat) (ops : Array Oper) (l : List Oper) (t : Nat → V) (M : Mem) (K : (Nat → V) → Mem → Prop) : Prop :=
 ∀ (imm0 : Nat → Prop) (w0 : World) (M0 : Mem) (imm : Nat → Prop) (a : Act) (w : World), Rel P N imm0 w0 M0 imm t M a w →
  wpList P ops (fun e a' w' => e = .normal ∧ ∃ t' M' imm', Rel P N imm0 w0 M0 imm' t' M' a' w' ∧ K t' M') l a w
theorem dstOk_mem {l : List Oper} (hd : dstOk N ⟨l⟩ = true) : ∀ o ∈ l, (∀ i, o.dst = some i → i < N) ∧ ∀ j b, o.guard = some (j, b) → ∃ d, ((⟨l⟩ : Array Oper)[j]?).bind (·.dst) = some d := by
 intro o ho
 have := Array.all_eq_true'.1 hd o (by simpa using ho)
 rw [Bool.and_eq_true] at this
 refine ⟨fun i hi => ?_, fun j b hj => ?_⟩
 ·have h1 := this.1; rw [hi] at h1; simpa using h1
 ·have h1 := this.2; rw [hj] at h1; exact Option.isSome_iff_exists.1 h1
theorem SatW.of {l l' : List Oper} (hd : dstOk N ⟨l⟩ = true) (hl : ∀ o ∈ l', o ∈ l) (h : wpL P (l.map (·.dst)) l' t M K) : SatW P N ⟨l⟩ l' t M K := by
 intro imm0 w0 M0 imm a w hr
 exact wpL_sound (ops := ⟨l⟩) l' t M imm a w (fun o ho => dstOk_mem hd o (hl o ho)) h hr (fun imm' t' M' a' w' hr' hk => ⟨rfl, t', M', imm', hr', hk⟩)
theorem SatW.less {l : List Oper} (h : SatW P N ops l T Mm K) (hl : Less T t Mm M) : SatW P N ops l t M K := fun imm0 w0 M0 imm a w hr => h _ _ _ _ _ _ (hr.less hl)
theorem Fc.imp {f : FuncId} {xs : List V} {F : Mem} {R R' : Post} (h : Fc P f xs F R) (hR : ∀ r m, R r m → R' r m) : Fc P f xs F R' :=
 ⟨fun imm w vals hG hI hi hs hv => (h.fn imm w vals hG hI hi hs hv).mono (by rintro e w' ⟨v, r, m, imm', h1, h2, h3, h4⟩; exact ⟨v, r, m, imm', h1, hR _ _ h2, h3, h4⟩), h.go⟩
end
end
end Go.Proofs.YtkdolbffabmemaaGreatDoor
