/-
 Contracts and plain laws.
-/
import Derived.Test.YtkdolbffabmemaaGreatDoorEa
import Derived.Test.YtkdolbffabmemaaGreatDoorEc
import Derived.Test.YtkdolbffabmemaaGreatDoorEd
import Derived.Test.YtkdolbffabmemaaGreatDoorEf
import Derived.Test.YtkdolbffabmemaaGreatDoorEh
import Derived.Test.YtkdolbffabmemaaGreatDoorEi
import Derived.Test.YtkdolbffabmemaaGreatDoorEj
import Derived.Test.YtkdolbffabmemaaGreatDoorEvz
import Derived.Test.YtkdolbffabmemaaGreatDoorRows
import Derived.ProofKit
import Derived.OpenShut
import Derived.ChangeSlices
import Derived.JoinedOf
import Derived.JoinedAt
import Derived.Deep.DeepHandedRow
import Derived.Lib.LaidTab
import Derived.Test.YtkdolbffabmemaaGreatDoorCards
import Derived.Test.YtkdolbffabmemaaGreatDoorTie
set_option linter.unusedSimpArgs false
set_option linter.unusedVariables false
set_option linter.unusedSectionVars false
namespace Go.Proofs.YtkdolbffabmemaaGreatDoor
section
open Go.RowKit
theorem places {p : Prog} (h : progOk p = true) : ∀ d ∈ (scene p).ds, d.uses = true → 0 ≤ d.p ∧ d.p < 3 := fun d hd hu => by
 have := formed_place (scene_formed h d hd) hu; omega
def KLe (x y : Fra) : Prop := (wallB x.d = true → wallB y.d = true) ∧ (x.d.k = 5 → y.d.k = 5) ∧ (x.d.k = 6 → y.d.k = 6)
theorem PEk.of {p q : Prog} {f : Nat → Nat} (h : ∀ i x, (evF 0 p)[i]? = some x → ∃ y, (evF 0 q)[f i]? = some y ∧ KLe x y) : PEk p q f := by
 have key : ∀ i, i < (events p).length → ∃ x y, dsA p i = x.d ∧ dsA q (f i) = y.d ∧ KLe x y := by
  intro i hi
  obtain ⟨x, hx⟩ := F_at hi
  obtain ⟨y, hy, hl⟩ := h i x hx
  exact ⟨x, y, (F_get hx).2.2.2.2.1, (F_get hy).2.2.2.2.1, hl⟩
 exact ⟨fun i hi => by obtain ⟨x, y, h1, h2, h3⟩ := key i hi; rw [h1, h2]; exact h3.1, fun i hi => by obtain ⟨x, y, h1, h2, h3⟩ := key i hi; rw [h1, h2]; exact h3.2.1, fun i hi => by obtain ⟨x, y, h1, h2, h3⟩ := key i hi; rw [h1, h2]; exact h3.2.2⟩
theorem PEk'.of {p q : Prog} {f : Nat → Nat} (h : ∀ i x, (evF 0 p)[i]? = some x → ∃ y, (evF 0 q)[f i]? = some y ∧ KLe y x) : PEk' p q f := by
 have key : ∀ i, i < (events p).length → ∃ x y, dsA p i = x.d ∧ dsA q (f i) = y.d ∧ KLe y x := by
  intro i hi
  obtain ⟨x, hx⟩ := F_at hi
  obtain ⟨y, hy, hl⟩ := h i x hx
  exact ⟨x, y, (F_get hx).2.2.2.2.1, (F_get hy).2.2.2.2.1, hl⟩
 exact ⟨fun i hi => by obtain ⟨x, y, h1, h2, h3⟩ := key i hi; rw [h1, h2]; exact h3.1, fun i hi => by obtain ⟨x, y, h1, h2, h3⟩ := key i hi; rw [h1, h2]; exact h3.2.1, fun i hi => by obtain ⟨x, y, h1, h2, h3⟩ := key i hi; rw [h1, h2]; exact h3.2.2⟩
theorem KLe.refl (x : Fra) : KLe x x := ⟨id, id, id⟩
structure Swp (d d' : Do) : Prop where
 s : Sim d d'
 k : (d.k = 2 ∧ d'.k = 5) ∨ (d.k = 1 ∧ d'.k = 6)
theorem Swp.of {d : Do} {to : Int} (h : (d.k = 2 ∧ to = 5) ∨ (d.k = 1 ∧ to = 6)) : Swp d ⟨to, d.p, d.v⟩ := by
 rcases h with ⟨h1, rfl⟩ | ⟨h1, rfl⟩
 ·exact ⟨⟨by simp [Do.reads, h1], by simp [Do.writes, h1], rfl, rfl, by simp [h1]⟩, .inl ⟨h1, rfl⟩⟩
 ·exact ⟨⟨by simp [Do.reads, h1], by simp [Do.writes, h1], rfl, rfl, by simp [h1]⟩, .inr ⟨h1, rfl⟩⟩
theorem Swp.formed {d d' : Do} (h : Swp d d') : d'.formed = d.formed := by
 have h1 := h.s.uses
 have h2 := h.s.valued
 have e1 : inB d'.k 1 9 = true := by rcases h.k with ⟨_, h⟩ | ⟨_, h⟩ <;> rw [h] <;> rfl
 have e2 : inB d.k 1 9 = true := by rcases h.k with ⟨h, _⟩ | ⟨h, _⟩ <;> rw [h] <;> rfl
 rw [Do.formed, Do.formed, h1, h2, h.s.p, h.s.v, e1, e2]
theorem Swp.wrong {d d' : Do} (h : Swp d d') (r i : Bool) : d'.wrong r i = d.wrong r i := by
 rw [Do.wrong, Do.wrong]
 rcases h.k with ⟨h1, h2⟩ | ⟨h1, h2⟩ <;> simp [h1, h2]
theorem Swp.thr {d d' : Do} (h : Swp d d') {l2 : List Do} : ∀ {l1 : List Do} {r i : Bool}, thrGo (l1 ++ d' :: l2) r i = thrGo (l1 ++ d :: l2) r i
 | [], r, i => by
  rw [List.nil_append, List.nil_append, thrGo, thrGo, h.formed, h.wrong, h.s.r]
  have e1 : (d'.k == 7) = (d.k == 7) := by rcases h.k with ⟨h1, h2⟩ | ⟨h1, h2⟩ <;> simp [h1, h2]
  have e2 : (d'.k == 8) = (d.k == 8) := by rcases h.k with ⟨h1, h2⟩ | ⟨h1, h2⟩ <;> simp [h1, h2]
  rw [e1, e2]
 | a :: l1, r, i => by
  rw [List.cons_append, List.cons_append, thrGo, thrGo, Swp.thr h]
theorem Swp.ok {d d' : Do} (h : Swp d d') {p1 p2 : Prog} {l1 l2 : List Do} : progOk (p1 ++ (l1 ++ d' :: l2) :: p2) = progOk (p1 ++ (l1 ++ d :: l2) :: p2) := by
 have e1 : threadOk (l1 ++ d' :: l2) = threadOk (l1 ++ d :: l2) := by rw [threadOk, threadOk, h.thr]; simp
 have e2 : usesOf (l1 ++ d' :: l2) = usesOf (l1 ++ d :: l2) := by
  simp only [usesOf, List.filter_append, List.filter_cons, h.s.uses]
  split <;> simp
 have e3 : (l1 ++ d' :: l2).length = (l1 ++ d :: l2).length := by simp
 simp only [progOk, List.all_append, List.all_cons, stepsP, usesP, List.map_append, List.map_cons, e1, e2, e3, List.length_append, List.length_cons]
end
section
open Go.RowKit
theorem l71Kind_pl (bs : List Int) (hb : Bytes bs) (g p : Nat) (hp : p < 2 ^ 29) : Fr Tryz.prog 31 [] g (rdO bs g p)
  (fun r o' => (∃ v : Int, r = .int .i64 v) ∧ ∃ q, p ≤ q ∧ q ≤ p + 2 ∧ o' = rdO bs g q) := by
 refine Fc.start (S := []) Tryz.func31 Tryz.ntmps31 Tryz.results31 rfl (by decide) rfl (by kernel_rfl) ?_
 simp (disch := omega) only [push_cast, go_sem, zA, simprocAttr]
 refine callR.rd (pick_rd bs hb g p (by omega) 24 (by omega)) rfl rfl rfl ?_
 rintro r o' ⟨v, rfl, hv0, hv1, _, rfl⟩
 simp (disch := omega) only [push_cast, go_sem, zA, simprocAttr]
 refine ⟨fun hv g1 => ?_, fun hv => ?_⟩
 ·refine callR.rd (pick_rd bs hb g (p + 1) (by omega) 3 (by omega)) rfl rfl rfl ?_
  rintro r o' ⟨u, rfl, hu0, hu1, _, rfl⟩
  have hu : u < 3 := hu1 (by omega)
  obtain ⟨n, rfl⟩ := Int.eq_ofNat_of_zero_le hu0
  obtain ⟨z, hz⟩ := ints_get (l := [.int .i64 0, .int .i64 4, .int .i64 (-1)]) (n := n) rfl (by simp; omega)
  simp (disch := omega) only [push_cast, go_sem, zA, simprocAttr, hz]
  refine ⟨by omega, _, Sub.set Sub.no rfl, _, ⟨⟨_, rfl⟩, p + 1 + 1, by omega, by omega, rfl⟩, rfl⟩
 ·refine callR.rd (pick_rd bs hb g (p + 1) (by omega) 3 (by omega)) rfl rfl rfl ?_
  rintro r o' ⟨u, rfl, hu0, hu1, _, rfl⟩
  simp (disch := omega) only [push_cast, go_sem, zA, simprocAttr]
  exact ⟨_, Sub.rfl, _, ⟨⟨_, rfl⟩, p + 1 + 1, by omega, by omega, rfl⟩, rfl⟩
end
section
open Go.RowKit
theorem specOrderAll_fn (p : Prog) (kind : Int) (hp : p.length < 2 ^ 40) : Fp Tryz.prog 14 [progV p, .int .i64 kind] (.sl ((ordAll p kind).map Sn.V)) := by
 have h1 := specAllF_fn p hp
 have h2 := l13All_fn p kind hp
 rw [progV_eq] at h1 h2
 refine Fc.start (S := []) Tryz.func14 Tryz.ntmps14 Tryz.results14 rfl (by decide) rfl (by kernel_rfl) ?_
 simp (disch := omega) only [push_cast, go_sem, zA, simprocAttr, progV_eq]
 intro g2
 refine Sat.drawnE [] [] (List.range 6) (pureT [(40, .sl ((specAll p).map Exe.V)), (39, .sl ((ordAll p kind).map Sn.V))]) (by kernel_rfl) (by kernel_rfl) ?_
 simp (disch := omega) only [push_cast, go_sem, zA, simprocAttr]
 refine runD_pure rfl h1 rfl rfl ?_ ?_
 ·rfl
 simp (disch := omega) only [push_cast, go_sem, zA, simprocAttr]
 refine runD_pure rfl h2 rfl rfl ?_ ?_
 ·rfl
 simp (disch := omega) only [push_cast, go_sem, zA, simprocAttr]
theorem ord_small {p : Prog} {kind : Int} : ∀ t ∈ ordAll p kind, t.small := by
 rw [ordAll]
 split
 ·exact acc_small (p := p) (kind := kind) (l := specAll p) fun x hx => all_ok (p := p) (x := x) (by rw [all_eq]; exact hx)
 ·exact fun t ht => by cases ht
theorem ord_len (p : Prog) (kind : Int) : (ordAll p kind).length < 2 ^ 30 := by
 rw [ordAll]
 split
 ·have := acc_len p kind (specAll p)
  have := specAll_le p
  rw [accS] at *; omega
 ·simp
end
section
open Go.RowKit
end
section
open Go.RowKit
end
section
open Go.RowKit
end
section
open Go.RowKit
theorem list_eq_drop {α : Type} [BEq α] [LawfulBEq α] {a b : List α} {k : Nat} (hl : a.length = b.length) (h : ∀ (j : Nat) (x y : α), j < k → a[j]? = some x → b[j]? = some y → (x == y) = true) (hk : a.length ≤ k) : a = b := by
 apply List.ext_getElem hl
 intro j h1 h2
 exact beq_iff_eq.1 (h j _ _ (by omega) (List.getElem?_eq_getElem h1) (List.getElem?_eq_getElem h2))
theorem list_ne_at {α : Type} {a b : List α} {k : Nat} {x y : α} (hx : a[k]? = some x) (hy : b[k]? = some y) (h : x ≠ y) : a ≠ b := fun e => by
 rw [e, hy] at hx; cases hx; exact h rfl
theorem lpInts_fn (a b : List Int) (ha : a.length < 2 ^ 40) (hb : b.length < 2 ^ 40) : Fp Tryz.prog 78 [intsV a, intsV b] (.bool (decide (a = b))) := by
  refine Fc.start (S := [8]) Tryz.func78 Tryz.ntmps78 Tryz.results78 rfl (by decide) rfl (by kernel_rfl) ?_
  cases hl : ((a.length : Int) != b.length)
  rotate_left
  · simp (disch := omega) only [push_cast, go_sem, zA, simprocAttr, intsV_eq, hl]
    have : ¬ a = b := fun h => by rw [h] at hl; simp at hl
    simp [this]
  have hl' : a.length = b.length := by have : (a.length : Int) = b.length := by simpa using hl
                                       omega
  simp (disch := omega) only [push_cast, go_sem, zA, simprocAttr, intsV_eq, hl]
  refine Sat.loop (σ := Nat) (fun k => upd (upd (upd noT 0 (.sl (a.map (V.int .i64)))) 1 (.sl (b.map (V.int .i64)))) 5 (.int .i64 k)) (fun _ => noM)
    (fun k => k ≤ a.length ∧ ∀ (j : Nat) (x y : Int), j < k → a[j]? = some x → b[j]? = some y → (x == y) = true) (fun k => a.length - k) 0 (by simp) ?_ ?_
  · (refine zB ?_; repeat (first | exact zC | exact zD | refine zE (by decide) ?_ | refine zF ?_ ?_ | refine zG ?_ ?_)) <;> (try simp (disch := omega) only [push_cast, go_sem, zA, simprocAttr])
  rintro k ⟨hk, hall⟩ J hJ
  refine Sat.of (S := []) (by kernel_rfl) ?_
  rcases Nat.lt_or_ge k a.length with hlt | hge
  · obtain ⟨x, hx⟩ : ∃ x, a[k]? = some x := ⟨_, List.getElem?_eq_getElem hlt⟩
    have hltb : k < b.length := by omega
    obtain ⟨y, hy⟩ : ∃ y, b[k]? = some y := ⟨_, List.getElem?_eq_getElem hltb⟩
    cases hne : (x != y)
    · simp (disch := omega) only [push_cast, go_sem, zA, simprocAttr, hlt]
      refine Sat.drawnE [] [] [3, 7] (fun _ _ _ => none) (by kernel_rfl) (by kernel_rfl) ?_
      simp (disch := omega) only [push_cast, go_sem, zA, simprocAttr, hx, hy, hlt, hltb, hne]
      refine hJ (k + 1) _ _ ⟨by omega, fun j x' y' hj h1 h2 => ?_⟩ (by omega) ?_
      · rcases Nat.lt_or_ge j k with h | h
        · exact hall j x' y' h h1 h2
        · have : j = k := by omega
          subst this; rw [hx] at h1; rw [hy] at h2; cases h1; cases h2
          simpa only [bne, Bool.not_eq_false'] using hne
      · (refine zB ?_; repeat (first | exact zC | exact zD | refine zE (by decide) ?_ | refine zF ?_ ?_ | refine zG ?_ ?_)) <;> (try simp (disch := omega) only [push_cast, go_sem, zA, simprocAttr])
    · simp (disch := omega) only [push_cast, go_sem, zA, simprocAttr, hlt]
      refine Sat.drawnE [] [] [3, 7] (fun _ _ _ => none) (by kernel_rfl) (by kernel_rfl) ?_
      simp (disch := omega) only [push_cast, go_sem, zA, simprocAttr, hx, hy, hlt, hltb, hne]
      have : ¬ a = b := list_ne_at hx hy (by simpa using hne)
      simp [this]
  · have hkl : k = a.length := by omega
    subst hkl
    simp (disch := omega) only [push_cast, go_sem, zA, simprocAttr]
    refine Sat.of (S := []) (by kernel_rfl) ?_
    simp (disch := omega) only [push_cast, go_sem, zA, simprocAttr]
    have : a = b := list_eq_drop hl' hall (Nat.le_refl _)
    simp [this]
instance : DecidableEq Exe := fun x y => decidable_of_iff (x.fr = y.fr ∧ x.od = y.od) (by cases x; cases y; simp)
end
section
open Go.RowKit
end
section
open Go.RowKit
theorem lpSame_fn (s t : Sn) (hs : s.small) (ht : t.small) : Fp Tryz.prog 38 [s.V, t.V] (.bool (decide (s = t))) := by
 have h1 := lpInts_fn s.rd t.rd hs.rd ht.rd
 have h2 := lpInts_fn s.ls t.ls hs.ls ht.ls
 have hst : decide (s = t) = (decide (s.rd = t.rd) && decide (s.ls = t.ls)) := by
  obtain ⟨a, b⟩ := s
  obtain ⟨c, d⟩ := t
  rw [Bool.eq_iff_iff]; simp
 rw [hst]
 rw [intsV_eq, intsV_eq] at h1 h2
 refine Fc.start (S := []) Tryz.func38 Tryz.ntmps38 Tryz.results38 rfl (by decide) rfl (by kernel_rfl) ?_
 simp (disch := omega) only [push_cast, go_sem, zA, simprocAttr, Sn.V_eq]
 intro g2 g3
 refine callR.pure h1 rfl rfl ?_
 cases decide (s.rd = t.rd)
 ·simp (disch := omega) only [push_cast, go_sem, zA, simprocAttr]
 ·simp (disch := omega) only [push_cast, go_sem, zA, simprocAttr]
  refine callR.pure h2 rfl rfl ?_
  simp (disch := omega) only [push_cast, go_sem, zA, simprocAttr]
end
section
open Go.RowKit
theorem lpList_fn (a b : List Sn) (ha : ∀ s ∈ a, s.small) (hb : ∀ s ∈ b, s.small) (hal : a.length < 2 ^ 40) (hbl : b.length < 2 ^ 40) : Fp Tryz.prog 13 [.sl (a.map Sn.V), .sl (b.map Sn.V)] (.bool (decide (a = b))) := by
  refine Fc.start (S := [8]) Tryz.func13 Tryz.ntmps13 Tryz.results13 rfl (by decide) rfl (by kernel_rfl) ?_
  cases hl : ((a.length : Int) != b.length)
  rotate_left
  · simp (disch := omega) only [push_cast, go_sem, zA, simprocAttr, hl]
    have : ¬ a = b := fun h => by rw [h] at hl; simp at hl
    simp [this]
  have hl' : a.length = b.length := by have : (a.length : Int) = b.length := by simpa using hl
                                       omega
  simp (disch := omega) only [push_cast, go_sem, zA, simprocAttr, hl]
  refine Sat.loop (σ := Nat) (fun k => upd (upd (upd noT 0 (.sl (a.map Sn.V))) 1 (.sl (b.map Sn.V))) 5 (.int .i64 k)) (fun _ => noM)
    (fun k => k ≤ a.length ∧ ∀ (j : Nat) (x y : Sn), j < k → a[j]? = some x → b[j]? = some y → (x == y) = true) (fun k => a.length - k) 0 (by simp) ?_ ?_
  · (refine zB ?_; repeat (first | exact zC | exact zD | refine zE (by decide) ?_ | refine zF ?_ ?_ | refine zG ?_ ?_)) <;> (try simp (disch := omega) only [push_cast, go_sem, zA, simprocAttr])
  rintro k ⟨hk, hall⟩ J hJ
  refine Sat.of (S := []) (by kernel_rfl) ?_
  rcases Nat.lt_or_ge k a.length with hlt | hge
  · obtain ⟨x, hx⟩ : ∃ x, a[k]? = some x := ⟨_, List.getElem?_eq_getElem hlt⟩
    have hltb : k < b.length := by omega
    obtain ⟨y, hy⟩ : ∃ y, b[k]? = some y := ⟨_, List.getElem?_eq_getElem hltb⟩
    have hs := lpSame_fn x y (ha x (List.mem_of_getElem? hx)) (hb y (List.mem_of_getElem? hy))
    rw [Sn.V_eq, Sn.V_eq] at hs
    cases he : decide (x = y)
    · rw [he] at hs
      simp (disch := omega) only [push_cast, go_sem, zA, simprocAttr, hlt]
      refine Sat.drawnE [] [] (List.range 10) (pureT [(38, .bool false)]) (by kernel_rfl) (by kernel_rfl) ?_
      simp (disch := omega) only [push_cast, go_sem, zA, simprocAttr, hx, hy, hlt, hltb, Sn.V_eq]
      refine runD_pure rfl hs rfl rfl ?_ ?_
      · rfl
      simp (disch := omega) only [push_cast, go_sem, zA, simprocAttr]
      have : ¬ a = b := list_ne_at hx hy (of_decide_eq_false he)
      simp [this]
    · rw [he] at hs
      simp (disch := omega) only [push_cast, go_sem, zA, simprocAttr, hlt]
      refine Sat.drawnE [] [] (List.range 10) (pureT [(38, .bool true)]) (by kernel_rfl) (by kernel_rfl) ?_
      simp (disch := omega) only [push_cast, go_sem, zA, simprocAttr, hx, hy, hlt, hltb, Sn.V_eq]
      refine runD_pure rfl hs rfl rfl ?_ ?_
      · rfl
      simp (disch := omega) only [push_cast, go_sem, zA, simprocAttr]
      refine hJ (k + 1) _ _ ⟨by omega, fun j x' y' hj h1 h2 => ?_⟩ (by omega) ?_
      · rcases Nat.lt_or_ge j k with h | h
        · exact hall j x' y' h h1 h2
        · have : j = k := by omega
          subst this; rw [hx] at h1; rw [hy] at h2; cases h1; cases h2
          exact beq_iff_eq.2 (of_decide_eq_true he)
      · (refine zB ?_; repeat (first | exact zC | exact zD | refine zE (by decide) ?_ | refine zF ?_ ?_ | refine zG ?_ ?_)) <;> (try simp (disch := omega) only [push_cast, go_sem, zA, simprocAttr])
  · have hkl : k = a.length := by omega
    subst hkl
    simp (disch := omega) only [push_cast, go_sem, zA, simprocAttr]
    refine Sat.of (S := []) (by kernel_rfl) ?_
    simp (disch := omega) only [push_cast, go_sem, zA, simprocAttr]
    have : a = b := list_eq_drop hl' hall (Nat.le_refl _)
    simp [this]
end
section
open Go.RowKit
end
section
open Go.RowKit
def DrawnA (r : V) : Prop := ∃ (p : Prog) (kind : Int), r = .tuple [progV p, .int .i64 kind] ∧ p.length ≤ 3 ∧ (∀ l ∈ p, l.length < 2 ^ 11)
theorem DrawOrderAll_fn (bs : List Int) (hb : Code8 bs) (hl : bs.length < 2 ^ 40) : Fc Tryz.prog 11 [codeV bs] noM (fun r m => DrawnA r ∧ m = noM) := by
 refine Fc.start (S := []) Tryz.func11 Tryz.ntmps11 Tryz.results11 rfl (by decide) rfl (by kernel_rfl) ?_
 simp (disch := omega) only [push_cast, go_sem, zA, simprocAttr, codeV_eq]
 intro g2
 refine callR.new (l6Open_fn bs hl) rfl rfl ?_
 rintro r ob ⟨g, rfl, rfl⟩
 simp (disch := omega) only [push_cast, go_sem, zA, simprocAttr]
 refine callR.rd (l71Any_rd (bs.take 2000) hb.take g 0 (by omega)) rfl rfl rfl ?_
 rintro r o' ⟨x, rfl, hx1, hx2, q, hq1, hq2, rfl⟩
 simp (disch := omega) only [push_cast, go_sem, zA, simprocAttr, progV_eq]
 refine callR.rd (l71Kind_pl (bs.take 2000) hb.take g q (by omega)) rfl rfl rfl ?_
 rintro r o' ⟨⟨kind, rfl⟩, q1, hq3, hq4, rfl⟩
 simp (disch := omega) only [push_cast, go_sem, zA, simprocAttr]
 exact ⟨x, kind, rfl, hx1, hx2⟩
end
section
open Go.RowKit
theorem all_take1 {α : Type} {q : α → Bool} {l : List α} {k : Nat} {x : α} (hx : l[k]? = some x) (h : (l.take k).all q = true) (hq : q x = true) : (l.take (k + 1)).all q = true := by
 rw [take_get hx, List.all_append, h]; simp [hq]
theorem all_no1 {α : Type} {q : α → Bool} {l : List α} {k : Nat} {x : α} (hx : l[k]? = some x) (hq : q x = false) : l.all q = false := by
 rw [List.all_eq_false]; exact ⟨x, List.mem_of_getElem? hx, by rw [hq]; simp⟩
theorem told_uses {p : Prog} {x : Exe} {k : Int} {a b : Nat} (h : toldS p x k a b = true) : (dsA p a).uses = true ∧ (dsA p b).uses = true ∧ (readS p x a b = true ∨ overS p x a b = true) := by
 have h1 : readS p x a b = true ∨ overS p x a b = true := by
  rw [toldS] at h
  split at h
  ·rw [Bool.or_eq_true, Bool.and_eq_true] at h; exact h.imp And.right id
  ·split at h
   ·rw [Bool.and_eq_true, Bool.or_eq_true] at h; exact h.2
   ·rw [Bool.or_eq_true] at h; exact h
 refine ⟨?_, ?_, h1⟩
 ·rcases h1 with h1 | h1
  ·simp only [readS, Bool.and_eq_true] at h1; exact uses_or.2 (.inr h1.1.1)
  ·simp only [overS, sameS, Bool.and_eq_true] at h1; exact h1.1.2.1.1
 ·rcases h1 with h1 | h1
  ·simp only [readS, Bool.and_eq_true] at h1; exact uses_or.2 (.inl h1.1.2)
  ·simp only [overS, sameS, Bool.and_eq_true] at h1; exact h1.1.2.1.2
end
section
open Go.RowKit
theorem idxFrom_at : ∀ {r : List Int} {k i : Nat} {z : Int}, r.Nodup → r[k]? = some z → Lib.idxFrom r z i = ((i + k : Nat) : Int)
 | [], k, i, z, _, h => by simp at h
 | w :: r, 0, i, z, hn, h => by simp at h; subst h; simp [Lib.idxFrom]
 | w :: r, k + 1, i, z, hn, h => by
  rw [List.nodup_cons] at hn
  have hz : r[k]? = some z := by simpa using h
  have hw : w ≠ z := fun e => hn.1 (e ▸ List.mem_of_getElem? hz)
  rw [Lib.idxFrom, if_neg hw, idxFrom_at hn.2 hz]
  omega
theorem idxOf_at {r : List Int} {k : Nat} {z : Int} (hn : r.Nodup) (h : r[k]? = some z) : Lib.idxOf r z = (k : Int) := by
 rw [Lib.idxOf, idxFrom_at hn h]; omega
theorem idxOf_lt {r : List Int} (hp : r.Pairwise (· < ·)) {a b : Int} (ha : a ∈ r) (hb : b ∈ r) : Lib.idxOf r a < Lib.idxOf r b ↔ a < b := by
 have hn : r.Nodup := hp.imp fun {a b} hab e => by omega
 obtain ⟨i, hi⟩ := List.getElem?_of_mem ha
 obtain ⟨j, hj⟩ := List.getElem?_of_mem hb
 rw [idxOf_at hn hi, idxOf_at hn hj]
 obtain ⟨hil, rfl⟩ := List.getElem?_eq_some_iff.1 hi
 obtain ⟨hjl, rfl⟩ := List.getElem?_eq_some_iff.1 hj
 have pw := List.pairwise_iff_getElem.1 hp
 constructor
 ·intro h; exact pw i j hil hjl (by omega)
 ·intro h
  rcases Nat.lt_trichotomy i j with h1 | h1 | h1
  ·omega
  ·subst h1; omega
  ·have := pw j i hjl hil h1; omega
def lastW (ds : List Do) (pl : Int) : Nat → Option Nat
 | 0 => none
 | k + 1 => if (ds[k]?.getD default).writes && (ds[k]?.getD default).p == pl then some k else lastW ds pl k
theorem lastW_some {ds : List Do} {pl : Int} : ∀ {k w : Nat}, lastW ds pl k = some w → w < k ∧ (ds[w]?.getD default).writes = true ∧ (ds[w]?.getD default).p = pl ∧ ∀ j, w < j → j < k → (ds[j]?.getD default).writes = true → (ds[j]?.getD default).p ≠ pl
 | 0, w, h => by cases h
 | k + 1, w, h => by
  rw [lastW] at h
  split at h
  ·rename_i hc
   cases h
   rw [Bool.and_eq_true, beq_iff_eq] at hc
   exact ⟨by omega, hc.1, hc.2, fun j h1 h2 => by omega⟩
  ·rename_i hc
   obtain ⟨h1, h2, h3, h4⟩ := lastW_some h
   refine ⟨by omega, h2, h3, fun j k1 k2 hw => ?_⟩
   rcases Nat.lt_or_ge j k with hh | hh
   ·exact h4 j k1 hh hw
   ·have : j = k := by omega
    subst this
    intro e; exact hc (by simp [hw, e])
theorem lastW_none {ds : List Do} {pl : Int} : ∀ {k : Nat}, lastW ds pl k = none → ∀ j, j < k → (ds[j]?.getD default).writes = true → (ds[j]?.getD default).p ≠ pl
 | 0, h, j, hj, _ => by omega
 | k + 1, h, j, hj, hw => by
  rw [lastW] at h
  split at h
  ·cases h
  ·rename_i hc
   rcases Nat.lt_or_ge j k with hh | hh
   ·exact lastW_none h j hh hw
   ·have : j = k := by omega
    subst this
    intro e; exact hc (by simp [hw, e])
def fr0 (ds : List Do) (b : Nat) : Int := if (ds[b]?.getD default).reads then (match lastW ds (ds[b]?.getD default).p b with | some w => (w : Int) | none => -1) else -2
def way0 (ds : List Do) : Exe := ⟨(List.range ds.length).map (fr0 ds), [writersOf ds 0, writersOf ds 1, writersOf ds 2]⟩
theorem way0_fr {ds : List Do} {b : Nat} (h : b < ds.length) : (way0 ds).fr[b]? = some (fr0 ds b) := by
 simp only [way0, List.getElem?_map, List.getElem?_range h, Option.map_some]
theorem way0_od {ds : List Do} {k : Nat} (h : k < 3) : (way0 ds).od[k]? = some (writersOf ds k) := by
 obtain rfl | rfl | rfl : k = 0 ∨ k = 1 ∨ k = 2 := by omega
 all_goals rfl
theorem fr0_cases {ds : List Do} {b : Nat} {d : Do} (hd : ds[b]? = some d) : (d.reads = false ∧ fr0 ds b = -2) ∨ (d.reads = true ∧ lastW ds d.p b = none ∧ fr0 ds b = -1) ∨ ∃ w, d.reads = true ∧ lastW ds d.p b = some w ∧ fr0 ds b = w := by
 rw [fr0, hd, Option.getD_some]
 cases hr : d.reads
 ·exact .inl ⟨rfl, by simp⟩
 ·cases hl : lastW ds d.p b with
  | none => exact .inr (.inl ⟨rfl, rfl, by simp⟩)
  | some w => exact .inr (.inr ⟨w, rfl, rfl, by simp⟩)
theorem way0_ok {ds : List Do} (hc : copyOk ds) : OKW ds (way0 ds) := by
 have hget : ∀ {b : Nat} {d : Do} {w : Nat}, ds[b]? = some d → lastW ds d.p b = some w → w < b ∧ ∃ d', ds[w]? = some d' ∧ d'.writes = true ∧ d'.p = d.p := by
  intro b d w hd hl
  obtain ⟨h1, h2, h3, _⟩ := lastW_some hl
  have hw : w < ds.length := by have := (List.getElem?_eq_some_iff.1 hd).1; omega
  rw [List.getElem?_eq_getElem hw] at h2 h3
  exact ⟨h1, _, List.getElem?_eq_getElem hw, h2, h3⟩
 refine ⟨by simp [way0], rfl, fun k hk => ⟨_, way0_od hk, writers_nodup _ _, fun z => mem_writers⟩, fun i d f hd hf hr => ?_, fun i d f hd hf hr => ?_, fun i d hd hu => ?_⟩
 ·rw [way0_fr (List.getElem?_eq_some_iff.1 hd).1] at hf
  cases hf
  rcases fr0_cases hd with ⟨h, _⟩ | ⟨_, _, h⟩ | ⟨w, _, h1, h2⟩
  ·rw [hr] at h; cases h
  ·exact .inl h
  ·obtain ⟨_, d', h3, h4, h5⟩ := hget hd h1
   exact .inr ⟨w, d', h2, h3, h4, h5⟩
 ·rw [way0_fr (List.getElem?_eq_some_iff.1 hd).1] at hf
  cases hf
  rcases fr0_cases hd with ⟨_, h⟩ | ⟨h, _⟩ | ⟨w, h, _⟩
  ·exact h
  ·rw [hr] at h; cases h
  ·rw [hr] at h; cases h
 ·have key : ∀ n i, i < n → ∀ d, ds[i]? = some d → d.uses = true → ∃ v, Val ds (way0 ds).fr i v := by
   intro n
   induction n with
   | zero => intro i h; omega
   | succ n ih =>
    intro i hi d hd hu
    have hfr := way0_fr (List.getElem?_eq_some_iff.1 hd).1
    rcases uses_or.1 hu with hr | hw
    ·rcases fr0_cases hd with ⟨h, _⟩ | ⟨_, _, h⟩ | ⟨w, _, h1, h2⟩
     ·rw [hr] at h; cases h
     ·exact ⟨0, .no hd hr (by rw [hfr, h])⟩
     ·obtain ⟨h0, d', h3, h4, h5⟩ := hget hd h1
      obtain ⟨v, hv⟩ := ih w (by omega) d' h3 (uses_or.2 (.inr h4))
      exact ⟨v, .rd hd hr (by rw [hfr, h2]) hv⟩
    ·by_cases h3 : d.k = 3
     ·obtain ⟨k1, ⟨d', k2, k3⟩, _⟩ := lastRd_spec (hc i d hd h3)
      obtain ⟨v, hv⟩ := ih _ (by omega) d' k2 (uses_or.2 (.inl k3))
      exact ⟨v, .cp hd h3 hv⟩
     ·exact ⟨d.v, .val hd (k_writes hw h3)⟩
  exact key (i + 1) i (by omega) d hd hu
theorem thr_open9 : ∀ {l : List Do} {r : Bool} {j : Nat} {d : Do}, thrGo l r true = true → l[j]? = some d → d.k = 9 → ∃ (t : Nat) (dt : Do), t < j ∧ l[t]? = some dt ∧ dt.k = 8
 | [], _, _, _, h, _, _ => by simp [thrGo] at h
 | d0 :: l, r, j, d, h, hd, h9 => by
  rw [thrGo] at h
  split at h
  ·cases h
  ·rename_i hw
   cases j with
   | zero => simp at hd; subst hd; exact absurd (by simp [Do.wrong, h9]) hw
   | succ j =>
    by_cases h8 : d0.k = 8
    ·exact ⟨0, d0, by omega, rfl, h8⟩
    ·have e : (d0.k == 7 || (true && !(d0.k == 8))) = true := by simp [h8]
     rw [e] at h
     obtain ⟨t, dt, h1, h2, h3⟩ := thr_open9 h (by simpa using hd) h9
     exact ⟨t + 1, dt, by omega, by simpa using h2, h3⟩
theorem thr_in9 : ∀ {l : List Do} {r i : Bool} {f j : Nat} {df d : Do}, thrGo l r i = true → l[f]? = some df → df.k = 7 → f < j → l[j]? = some d → d.k = 9 → ∃ (t : Nat) (dt : Do), f < t ∧ t < j ∧ l[t]? = some dt ∧ dt.k = 8
 | [], _, _, _, _, _, _, _, h, _, _, _, _ => by simp at h
 | d0 :: l, r, i, f, j, df, d, h, hf, h7, hfj, hd, h9 => by
  rw [thrGo] at h
  split at h
  ·cases h
  ·rename_i hw
   obtain ⟨j, rfl⟩ : ∃ j', j = j' + 1 := ⟨j - 1, by omega⟩
   have hd' : l[j]? = some d := by simpa using hd
   cases f with
   | zero =>
    simp at hf; subst hf
    have e : (d0.k == 7 || (i && !(d0.k == 8))) = true := by simp [h7]
    rw [e] at h
    obtain ⟨t, dt, h1, h2, h3⟩ := thr_open9 h hd' h9
    exact ⟨t + 1, dt, by omega, by omega, by simpa using h2, h3⟩
   | succ f =>
    obtain ⟨t, dt, h0, h1, h2, h3⟩ := thr_in9 h (by simpa using hf) h7 (by omega) hd' h9
    exact ⟨t + 1, dt, by omega, by omega, by simpa using h2, h3⟩
theorem Quiet.nowait {p : Prog} (hok : progOk p = true) {i t w : Nat} (q : Quiet p i t) (h7 : kd (scene p).ds i = 7) (h1 : i < w) (h2 : w < t) : kd (scene p).ds w ≠ 9 := by
 intro h9
 have htl := q.tl
 obtain ⟨a, l, j, d, hi⟩ := At.of (List.getElem?_eq_getElem (show i < (events p).length by omega))
 obtain ⟨a', l', j', d', hw⟩ := At.of (List.getElem?_eq_getElem (show w < (events p).length by omega))
 have hth := (q.no w h1 h2).2.2
 rw [hi.th, hw.th] at hth
 have e : a' = a := by omega
 subst e
 have e : l' = l := Option.some.inj (hw.pl.symm.trans hi.pl)
 subst e
 rw [hi.kd] at h7
 rw [hw.kd] at h9
 have hlt := events_lt hi.ev hw.ev h1
 simp only [Evt.lt, hi.t, hw.t, hi.s, hw.s] at hlt
 have hjj : j < j' := by
  rcases hlt with h | ⟨_, h | ⟨h, _⟩⟩
  ·omega
  ·omega
  ·have : j = j' := by omega
   subst this
   have : d = d' := Option.some.inj (hi.ld.symm.trans hw.ld)
   subst this; omega
 obtain ⟨s, ds, k1, k2, k3, k4⟩ := thr_in9 (ok_thr hok hi.pl) hi.ld h7 hjj hw.ld h9
 have hm := At.mk' hi.pl k3
 have m1 := hi.ord hm k1
 have m2 := hm.ord hw k2
 have := (q.no _ m1 (by omega)).2.1
 rw [hm.kd] at this
 exact this k4
theorem way0_net {p : Prog} (hok : progOk p = true) {kind : Int} {a b : Nat} (ha : a < (events p).length) (hb : b < (events p).length) (h : netR p (way0 (scene p).ds) kind a b = true) : a < b := by
 have hsl := scene_n p
 have hx := way0_ok (scene_copy hok)
 rw [netR, Bool.or_eq_true] at h
 rcases h with h | h
 ·have ho : ownB (events p) a b = true := by
   rcases stays_cases p kind a b with ⟨_, e⟩ | ⟨_, e⟩ | ⟨_, e⟩ | ⟨_, _, _, e⟩
   ·rw [e] at h; exact h
   ·rw [e, Bool.and_eq_true] at h; exact h.1
   ·rw [e, looseS, Bool.and_eq_true] at h; exact h.1
   ·rw [e, Bool.and_eq_true] at h; exact h.1
  exact (own_iff.1 ho).1
 ·obtain ⟨ua, ub, h⟩ := told_uses h
  have hda := ds_at ha
  have hdb := ds_at hb
  have fa := way0_fr (ds := (scene p).ds) (b := a) (by omega)
  have fb := way0_fr (ds := (scene p).ds) (b := b) (by omega)
  rcases h with h | h
  ·simp only [readS, Bool.and_eq_true, beq_iff_eq] at h
   rw [fb, Option.getD_some] at h
   rcases fr0_cases hdb with ⟨_, e⟩ | ⟨_, _, e⟩ | ⟨w, _, e1, e2⟩
   ·omega
   ·omega
   ·have := (lastW_some e1).1
    omega
  ·simp only [overS, sameS, Bool.and_eq_true, Bool.not_eq_true', beq_eq_false_iff_ne, decide_eq_true_eq, beq_iff_eq] at h
   obtain ⟨⟨⟨wb, hne⟩, ⟨_, hpp⟩⟩, hrk⟩ := h
   have hpl := formed_place (scene_formed hok _ (List.mem_of_getElem? hdb)) ub
   have hod := way0_od (ds := (scene p).ds) (k := (dsA p b).p.toNat) (by omega)
   have hkk : (((dsA p b).p.toNat : Nat) : Int) = (dsA p b).p := by omega
   have pw := writers_pw (scene p).ds (dsA p b).p
   have mb : (b : Int) ∈ writersOf (scene p).ds (dsA p b).p := mem_writers.2 ⟨b, _, rfl, hdb, wb, rfl⟩
   rw [rankS, rankS, hpp, hod, wb, Option.getD_some, hkk, if_pos rfl] at hrk
   cases wa : (dsA p a).writes
   ·have ra : (dsA p a).reads = true := (uses_or.1 ua).resolve_right (by rw [wa]; simp)
    rw [wa, ra, fa, Option.getD_some] at hrk
    simp only [Bool.false_eq_true, if_false, if_true] at hrk
    rcases Nat.lt_or_gt_of_ne hne with hlt | hgt
    ·exact hlt
    ·exfalso
     rcases fr0_cases hda with ⟨e, _⟩ | ⟨_, e, _⟩ | ⟨w, _, e1, e2⟩
     ·rw [ra] at e; cases e
     ·have := lastW_none e b hgt (by show (dsA p b).writes = true; exact wb)
      exact this hpp.symm
     ·obtain ⟨k1, k2, k3, k4⟩ := lastW_some e1
      rw [e2] at hrk
      have mw : (w : Int) ∈ writersOf (scene p).ds (dsA p b).p := by
       have hwl : w < (events p).length := by omega
       exact mem_writers.2 ⟨w, _, rfl, ds_at hwl, k2, by rw [← hpp]; exact k3⟩
      have := (idxOf_lt pw mw mb).1 hrk
      exact k4 b (by omega) hgt (by show (dsA p b).writes = true; exact wb) hpp.symm
   ·rw [wa, if_pos rfl] at hrk
    have ma : (a : Int) ∈ writersOf (scene p).ds (dsA p b).p := mem_writers.2 ⟨a, _, rfl, hda, wa, hpp⟩
    have := (idxOf_lt pw ma mb).1 hrk
    omega
theorem late_k9 {p : Prog} {e : Nat} (he : e < (events p).length) (hl : ltA (events p) e = true) : kd (scene p).ds e = 9 := by
 obtain ⟨i, l, j, d, h⟩ := At.of (List.getElem?_eq_getElem he)
 rw [h.kd]
 refine h.late ?_
 rw [ltA, List.getElem?_eq_getElem he] at hl
 exact hl
theorem way0_holds {p : Prog} (hok : progOk p = true) (kind : Int) : Hld p (way0 (scene p).ds) kind := by
 refine ⟨⟨id, fun a b ha hb h => way0_net hok ha hb h⟩, fun e i => decide (outA p i < e), id, fun a b ha hb h => ?_⟩
 rcases h with h | ⟨e, i, hw, h⟩
 ·exact way0_net hok ha hb h
 ·rcases h with ⟨h1, rfl, rfl⟩ | ⟨h1, rfl, rfl⟩
  ·exact of_decide_eq_true h1
  ·have h1 := of_decide_eq_false h1
   show a < b
   obtain ⟨w, k1, k2, _⟩ := wait_prev hw.el hw.late
   have hwa : w = a := by omega
   subst hwa
   obtain ⟨q, h8⟩ := outA_spec hok hw.il hw.k7
   have h9 := late_k9 hw.el hw.late
   have hne : outA p b ≠ w + 1 := fun e => by rw [e, h9] at h8; omega
   rcases Nat.lt_or_ge w b with hh | hh
   ·exact hh
   ·exfalso
    have hne2 : b ≠ w := fun e => by have := hw.k7; rw [e, k2] at this; omega
    exact q.nowait hok hw.k7 (w := w) (by omega) (by omega) k2
theorem way0_ord {p : Prog} (hok : progOk p = true) {kind : Int} (hk : inB kind 1 3 = true) : seenF p (way0 (scene p).ds) ∈ ordAll p kind :=
 mem_ordW.2 ⟨hok, hk, _, way0_ok (scene_copy hok), way0_holds hok kind, rfl⟩
end
section
open Go.RowKit
theorem readsOf_fn (l : List Do) (hl : l.length < 2 ^ 40) : Fp Tryz.prog 92 [.sl (l.map Do.V)] (.int .i64 (readsOf l)) := by
 refine Fc.start (S := []) Tryz.func92 Tryz.ntmps92 Tryz.results92 rfl (by decide) rfl (by kernel_rfl) ?_
 simp (disch := omega) only [push_cast, go_sem, zA, simprocAttr]
 refine Sat.loop (σ := Nat) (fun i => upd (upd (upd (upd noT 6 (.sl (l.map Do.V))) 7 (.int .i64 l.length)) 8 (.int .i64 i)) 3 (.int .i64 (readsOf (l.take i)))) (fun _ => noM) (fun i => i ≤ l.length) (fun i => l.length - i) 0 (by simp) ?_ (fun i hi J hJ => Sat.of (S := []) (by kernel_rfl) ?_)
 ·(refine zB ?_; repeat (first | exact zC | exact zD | refine zE (by decide) ?_ | refine zF ?_ ?_ | refine zG ?_ ?_)) <;> (try simp (disch := omega) only [push_cast, go_sem, zA, simprocAttr])
  rfl
 rcases Nat.lt_or_ge i l.length with hlt | hge
 ·obtain ⟨d, he⟩ : ∃ d, l[i]? = some d := ⟨_, List.getElem?_eq_getElem hlt⟩
  have hr : readsOf (l.take i) ≤ i := Nat.le_trans (List.length_filter_le _ _) (by simp; omega)
  have ht := take_get he
  simp (disch := omega) only [push_cast, go_sem, zA, simprocAttr, he, hlt, Do.V_eq]
  refine fun g => callR.pure (reads_fn d) rfl rfl ?_
  simp (disch := omega) only [push_cast, go_sem, zA, simprocAttr]
  refine ⟨fun hd => hJ (i + 1) _ _ (by omega) (by omega) ?_, fun hd => hJ (i + 1) _ _ (by omega) (by omega) ?_⟩
  ·(refine zB ?_; repeat (first | exact zC | exact zD | refine zE (by decide) ?_ | refine zF ?_ ?_ | refine zG ?_ ?_)) <;> (try simp (disch := omega) only [push_cast, go_sem, zA, simprocAttr])
   simp [ht, readsOf, hd]
  ·(refine zB ?_; repeat (first | exact zC | exact zD | refine zE (by decide) ?_ | refine zF ?_ ?_ | refine zG ?_ ?_)) <;> (try simp (disch := omega) only [push_cast, go_sem, zA, simprocAttr])
   simp [ht, readsOf, hd]
 ·have : i = l.length := by omega
  subst this
  simp (disch := omega) only [push_cast, go_sem, zA, simprocAttr]
end
section
open Go.RowKit
def val3 (n : Int) : Bool := inB n 0 3
def valsB (l : List Int) : Bool := l.all val3
def seenOkB (p : Prog) (s : Sn) : Bool := progOk p && decide (s.rd.length = readsP p) && decide (s.ls.length = 3) && valsB s.rd && valsB s.ls
theorem notVal_fn (n : Int) : Fp Tryz.prog 94 [.int .i64 n] (.bool (!val3 n)) := by
 refine Fc.start (S := []) Tryz.func94 Tryz.ntmps94 Tryz.results94 rfl (by decide) rfl (by kernel_rfl) ?_
 simp (disch := omega) only [push_cast, go_sem, zA, simprocAttr]
 refine callR.pure (in_fn n 0 3) rfl rfl ?_
 simp (disch := omega) only [push_cast, go_sem, zA, simprocAttr]
 rfl
theorem indexVal_fn (l : List Int) (hl : l.length < 2 ^ 40) : Fc Tryz.prog 134 [.sl (l.map (V.int .i64)), .fn (.func 94) [] []] noM (fun r m => (∃ n : Int, r = .int .i64 n ∧ (0 ≤ n ↔ valsB l = false)) ∧ m = noM) := by
 refine Fc.start (S := [7]) Tryz.func134 Tryz.ntmps134 Tryz.results134 rfl (by decide) rfl (by kernel_rfl) ?_
 simp (disch := omega) only [push_cast, go_sem, zA, simprocAttr]
 refine Sat.loop (σ := Nat) (fun k => upd (upd (upd (upd noT 0 (.sl (l.map (V.int .i64)))) 1 (.fn (.func 94) [] [])) 7 (.int .i64 l.length)) 8 (.int .i64 k)) (fun _ => noM)
  (fun k => k ≤ l.length ∧ (l.take k).all val3 = true) (fun k => l.length - k) 0 (by simp) ?_ ?_
 ·(refine zB ?_; repeat (first | exact zC | exact zD | refine zE (by decide) ?_ | refine zF ?_ ?_ | refine zG ?_ ?_)) <;> (try simp (disch := omega) only [push_cast, go_sem, zA, simprocAttr])
 rintro k ⟨hk, hall⟩ J hJ
 refine Sat.of (S := [7]) (by kernel_rfl) ?_
 rcases Nat.lt_or_ge k l.length with hlt | hge
 ·obtain ⟨x, hx⟩ : ∃ x, l[k]? = some x := ⟨_, List.getElem?_eq_getElem hlt⟩
  have hv := notVal_fn x
  simp (disch := omega) only [push_cast, go_sem, zA, simprocAttr, hx, hlt]
  refine callR.pure hv rfl rfl ?_
  cases he : val3 x
  ·simp (disch := omega) only [push_cast, go_sem, zA, simprocAttr]
   exact ⟨(k : Int), rfl, by rw [valsB, all_no1 hx he]; simp⟩
  ·simp (disch := omega) only [push_cast, go_sem, zA, simprocAttr]
   refine hJ (k + 1) _ _ ⟨by omega, all_take1 hx hall he⟩ (by omega) ?_
   (refine zB ?_; repeat (first | exact zC | exact zD | refine zE (by decide) ?_ | refine zF ?_ ?_ | refine zG ?_ ?_)) <;> (try simp (disch := omega) only [push_cast, go_sem, zA, simprocAttr])
 ·have hkl : k = l.length := by omega
  subst hkl
  rw [List.take_length] at hall
  simp (disch := omega) only [push_cast, go_sem, zA, simprocAttr]
  refine Sat.of (S := []) (by kernel_rfl) ?_
  simp (disch := omega) only [push_cast, go_sem, zA, simprocAttr]
  exact ⟨-1, rfl, by rw [valsB, hall]; simp⟩
theorem valsOk_fn (l : List Int) (hl : l.length < 2 ^ 40) : Fp Tryz.prog 42 [.sl (l.map (V.int .i64))] (.bool (valsB l)) := by
 have h1 : Fp Tryz.prog 93 [.sl (l.map (V.int .i64)), .fn (.func 94) [] []] (.bool (!valsB l)) := by
  refine Fc.start (S := []) Tryz.func93 Tryz.ntmps93 Tryz.results93 rfl (by decide) rfl (by kernel_rfl) ?_
  simp (disch := omega) only [push_cast, go_sem, zA, simprocAttr]
  refine callR.ex (indexVal_fn l hl) rfl rfl ?_
  rintro r ⟨n, rfl, hn⟩
  simp (disch := omega) only [push_cast, go_sem, zA, simprocAttr]
  cases hv : valsB l
  ·simp [hn, hv]
  ·simp [hn, hv]
 refine Fc.start (S := []) Tryz.func42 Tryz.ntmps42 Tryz.results42 rfl (by decide) rfl (by kernel_rfl) ?_
 simp (disch := omega) only [push_cast, go_sem, zA, simprocAttr]
 refine callR.pure h1 rfl rfl ?_
 simp (disch := omega) only [push_cast, go_sem, zA, simprocAttr]
 simp
theorem readsP_get {p : Prog} {i : Nat} {l : List Do} (h : p[i]? = some l) : readsP (p.take (i + 1)) = readsP (p.take i) + readsOf l := by
 rw [take_get h]; simp [readsP]
theorem implProgReads_fn (p : Prog) (hp : p.length < 2 ^ 40) (hl : ∀ l ∈ p, l.length < 2 ^ 40) (hok : progOk p = true) : Fp Tryz.prog 41 [progV p] (.int .i64 (readsP p)) := by
 have h1 := implProgOk_fn p hp hl
 rw [progV_eq] at h1
 have hth : ∀ l ∈ p, threadOk l = true := by
  simp only [progOk, Bool.and_eq_true, List.all_eq_true] at hok
  exact hok.1.1.2
 have hp3 : p.length ≤ 3 := by
  simp only [progOk, Bool.and_eq_true, decide_eq_true_eq] at hok; exact hok.1.1.1
 have hle : ∀ l ∈ p, readsOf l ≤ 7 := fun l h => by
  have := threadOk_le (hth l h)
  exact Nat.le_trans (List.length_filter_le _ _) this
 have hb : ∀ i, readsP (p.take i) ≤ 7 * i := by
  intro i
  induction i with
  | zero => simp [readsP]
  | succ i ih =>
   cases hx : p[i]? with
   | none =>
    have : p.length ≤ i := by rwa [List.getElem?_eq_none_iff] at hx
    rw [List.take_of_length_le (by omega)] at ih ⊢
    omega
   | some l => rw [readsP_get hx]; have := hle l (List.mem_of_getElem? hx); omega
 refine Fc.start (S := [9]) Tryz.func41 Tryz.ntmps41 Tryz.results41 rfl (by decide) rfl (by kernel_rfl) ?_
 simp (disch := omega) only [push_cast, go_sem, zA, simprocAttr, progV_eq]
 intro g
 refine callR.pure h1 rfl rfl ?_
 simp (disch := omega) only [push_cast, go_sem, zA, simprocAttr, hok]
 refine Sat.loop (σ := Nat) (fun i => upd (upd (upd (upd noT 10 (.sl (p.map thrV))) 11 (.int .i64 p.length)) 12 (.int .i64 i)) 3 (.int .i64 (readsP (p.take i)))) (fun _ => noM)
  (fun i => i ≤ p.length) (fun i => p.length - i) 0 (by simp) ?_ ?_
 ·(refine zB ?_; repeat (first | exact zC | exact zD | refine zE (by decide) ?_ | refine zF ?_ ?_ | refine zG ?_ ?_)) <;> (try simp (disch := omega) only [push_cast, go_sem, zA, simprocAttr])
  simp [readsP]
 rintro i hi J hJ
 refine Sat.of (S := []) (by kernel_rfl) ?_
 have hbi := hb i
 rcases Nat.lt_or_ge i p.length with hlt | hge
 ·obtain ⟨l, he⟩ : ∃ l, p[i]? = some l := ⟨_, List.getElem?_eq_getElem hlt⟩
  have hll := hl l (List.mem_of_getElem? he)
  have h7 := hle l (List.mem_of_getElem? he)
  have hg := readsP_get he
  simp (disch := omega) only [push_cast, go_sem, zA, simprocAttr, he, hlt, thrV_eq]
  refine callR.pure (readsOf_fn l hll) rfl rfl ?_
  simp (disch := omega) only [push_cast, go_sem, zA, simprocAttr]
  refine hJ (i + 1) _ _ (by omega) (by omega) ?_
  rw [hg]
  (refine zB ?_; repeat (first | exact zC | exact zD | refine zE (by decide) ?_ | refine zF ?_ ?_ | refine zG ?_ ?_)) <;> (try simp (disch := omega) only [push_cast, go_sem, zA, simprocAttr])
 ·have : i = p.length := by omega
  subst this
  rw [List.take_length]
  simp (disch := omega) only [push_cast, go_sem, zA, simprocAttr]
  refine Sat.of (S := []) (by kernel_rfl) ?_
  simp (disch := omega) only [push_cast, go_sem, zA, simprocAttr]
theorem implSeenOk_fn (p : Prog) (s : Sn) (hp : p.length < 2 ^ 40) (hl : ∀ l ∈ p, l.length < 2 ^ 40) (hs : s.small) (hok : progOk p = true) (h : seenOkB p s = true) : Fp Tryz.prog 15 [progV p, s.V] (.bool true) := by
 have h1 := implProgOk_fn p hp hl
 have h2 := implProgReads_fn p hp hl hok
 rw [progV_eq] at h1 h2
 simp only [seenOkB, Bool.and_eq_true, decide_eq_true_eq] at h
 obtain ⟨⟨⟨⟨_, k1⟩, k2⟩, k3⟩, k4⟩ := h
 have h3 := valsOk_fn s.rd (by have := hs.1; omega)
 have h4 := valsOk_fn s.ls (by omega)
 rw [k3] at h3
 rw [k4] at h4
 rw [hok] at h1
 have e1 : (((s.rd.length : Nat) : Int) == ((readsP p : Nat) : Int)) = true := by simp [k1]
 have e2 : (((s.ls.length : Nat) : Int) == 3) = true := by simp [k2]
 refine Fc.start (S := []) Tryz.func15 Tryz.ntmps15 Tryz.results15 rfl (by decide) rfl (by kernel_rfl) ?_
 simp (disch := omega) only [push_cast, go_sem, zA, simprocAttr, progV_eq, Sn.V_eq]
 intro g2 g3
 refine Sat.drawnE [] [] (List.range 27) (pureT [(32, .bool true), (41, .int .i64 (readsP p)), (42, .bool true)]) (by kernel_rfl) (by kernel_rfl) ?_
 simp (disch := omega) only [push_cast, go_sem, zA, simprocAttr]
 refine runD_pure rfl h1 rfl rfl ?_ ?_
 ·rfl
 simp (disch := omega) only [push_cast, go_sem, zA, simprocAttr]
 refine runD_pure rfl h2 rfl rfl ?_ ?_
 ·rfl
 simp (disch := omega) only [push_cast, go_sem, zA, simprocAttr, e1, e2]
 refine runD_pure rfl h3 rfl rfl ?_ ?_
 ·rfl
 simp (disch := omega) only [push_cast, go_sem, zA, simprocAttr]
 refine runD_pure rfl h4 rfl rfl ?_ ?_
 ·rfl
 simp (disch := omega) only [push_cast, go_sem, zA, simprocAttr]
end
section
open Go.RowKit
theorem range_filter (q : Do → Bool) (ds : List Do) (hq : q default = false) : ∀ k, ((List.range k).filter fun i => q (ds[i]?.getD default)).length = ((ds.take k).filter q).length
 | 0 => by simp
 | k + 1 => by
  rw [List.range_succ, List.filter_append, List.length_append, range_filter q ds hq k]
  cases h : ds[k]? with
  | none =>
   have : ds.length ≤ k := by rwa [List.getElem?_eq_none_iff] at h
   rw [List.take_of_length_le this, List.take_of_length_le (Nat.le_succ_of_le this)]
   simp [h, hq]
  | some d =>
   rw [take_get h, List.filter_append, List.length_append]
   cases hd : q d <;> simp [h, hd]
theorem evF_reads : ∀ (t : Nat) (p : Prog), (((evF t p).map Fra.d).filter Do.reads).length = readsP p
 | _, [] => rfl
 | t, l :: p => by
  have h1 : ∀ l : List Do, (((thF t l).map Fra.d).filter Do.reads).length = readsOf l := by
   intro l
   induction l with
   | nil => rfl
   | cons d l ih =>
    rw [thF_cons, List.map_append, List.filter_append, List.length_append, ih]
    have e : (((stF t d).map Fra.d).filter Do.reads).length = if d.reads then 1 else 0 := by
     rw [stF]
     split
     ·rename_i h9
      have h9' : d.k = 9 := by simpa using h9
      have : d.reads = false := by simp [Do.reads, h9']
      simp [this]
     ·cases hr : d.reads <;> simp [hr]
    rw [e, readsOf, readsOf, List.filter_cons]
    split <;> simp [Nat.add_comm]
  have h2 := evF_reads (t + 1) p
  rw [evF, List.map_append, List.filter_append, List.length_append, h1, h2]
  simp [readsP]
theorem scene_reads (p : Prog) : (((List.range (scene p).ds.length).filter fun i => ((scene p).ds[i]?.getD default).reads)).length = readsP p := by
 rw [range_filter Do.reads _ rfl, List.take_length, ds_F, evF_reads]
theorem val_small {p : Prog} (hok : progOk p = true) {fr : List Int} {i : Nat} {v : Int} (h : Val (scene p).ds fr i v) : 0 ≤ v ∧ v ≤ 3 := by
 induction h with
 | @val i d hd hv =>
  have := scene_formed hok d (List.mem_of_getElem? hd)
  simp only [Do.formed, hv, if_true, Bool.and_eq_true] at this
  have h2 := this.2
  simp [inB] at h2
  omega
 | cp _ _ _ ih => exact ih
 | no _ _ _ => omega
 | rd _ _ _ _ ih => exact ih
theorem ord_seenOk {p : Prog} {k : Int} {s : Sn} (hs : s ∈ ordAll p k) : seenOkB p s = true := by
 obtain ⟨hok, _, x, hx, _, rfl⟩ := mem_ordW.1 hs
 have hv : ∀ (i : Nat) d, (scene p).ds[i]? = some d → d.uses = true → val3 (vF (scene p).ds x.fr i) = true := by
  intro i d hd hu
  obtain ⟨v, h⟩ := hx.ends i d hd hu
  rw [vF_eq h]
  have := val_small hok h
  simp [val3, inB]; omega
 rw [seenF_eq]
 simp only [seenOkB, Bool.and_eq_true, decide_eq_true_eq, valsB, List.all_eq_true]
 refine ⟨⟨⟨⟨hok, by rw [List.length_map, scene_reads]⟩, by rw [List.length_map, hx.odl]⟩, fun v h => ?_⟩, fun v h => ?_⟩
 ·obtain ⟨i, hi, rfl⟩ := List.mem_map.1 h
  obtain ⟨h1, h2⟩ := List.mem_filter.1 hi
  obtain ⟨d, hd⟩ : ∃ d, (scene p).ds[i]? = some d := ⟨_, List.getElem?_eq_getElem (List.mem_range.1 h1)⟩
  rw [hd, Option.getD_some] at h2
  exact hv i d hd (uses_or.2 (.inl h2))
 ·obtain ⟨r, hr, rfl⟩ := List.mem_map.1 h
  obtain ⟨k, hk⟩ := List.getElem?_of_mem hr
  have hk3 : k < 3 := by have := (List.getElem?_eq_some_iff.1 hk).1; rw [hx.odl] at this; exact this
  rw [lsF]
  cases hz : r[r.length - 1]? with
  | none => rfl
  | some z =>
   obtain ⟨r', h1, _, h3⟩ := hx.od k hk3
   rw [hk] at h1; cases h1
   obtain ⟨b, d, rfl, hd, hw, _⟩ := (h3 z).1 (List.mem_of_getElem? hz)
   simp only [Int.toNat_natCast]
   exact hv b d hd (uses_or.2 (.inr hw))
theorem seenS_ext {l m : List Sn} (hm : strictS m) (h : ∀ s, s ∈ l ↔ s ∈ m) : seenS l = m := by
 rw [seenS_eq]
 obtain ⟨h1, h2⟩ := fold_putS (l := l) (L := []) .nil
 exact strict_ext h1 hm fun s => by rw [h2]; simp [h s]
theorem seenS_ord (p : Prog) (k : Int) : seenS (ordAll p k) = ordAll p k := seenS_ext (ord_strict p k) fun s => Iff.rfl
theorem ord_pos (p : Prog) (k : Int) : decide (((ordAll p k).length : Int) > 0) = (progOk p && inB k 1 3) := by
 cases h : (progOk p && inB k 1 3)
 ·have : ordAll p k = [] := by rw [ordAll, h]; rfl
  rw [this]; rfl
 ·rw [Bool.and_eq_true] at h
  have := List.length_pos_of_mem (way0_ord h.1 h.2)
  simp; omega
end
section
open Go.RowKit
theorem lawOrderSome_fn (bs : List Int) (hb : Code8 bs) : Fp Tryz.prog 3 [codeV bs] (.bool true) := by
 refine Fc.start (S := [12]) Tryz.func3 Tryz.ntmps3 Tryz.results3 rfl (by decide) rfl (by kernel_rfl) ?_
 by_cases h : (1048576 : Int) < bs.length
 ·simp (disch := omega) only [push_cast, go_sem, zA, simprocAttr, codeV_eq, h]
 simp (disch := omega) only [push_cast, go_sem, zA, simprocAttr, codeV_eq, h]
 refine callR.ex (DrawOrderAll_fn bs hb (by omega)) rfl rfl ?_
 rintro r ⟨p, kind, rfl, hp, hl⟩
 have hl' : ∀ l ∈ p, l.length < 2 ^ 40 := fun l h => by have := hl l h; omega
 have hn := fun k => (show (ordAll p k).length < 2 ^ 40 by have := ord_len p k; omega)
 have h1 := implOrderAll_fn p kind (by omega) hl'
 have h2 := specOrderAll_fn p kind (by omega)
 rw [ordI_eq] at h1
 have h3 := lpList_fn (ordAll p kind) (ordAll p kind) ord_small ord_small (hn _) (hn _)
 rw [decide_eq_true rfl] at h3
 have hok := specProgOk_fn p (by omega)
 have hso := seenSort_fn (ordAll p kind) ord_small (hn _)
 rw [seenS_ord] at hso
 have hpos := ord_pos p kind
 have hsk : ∀ s ∈ ordAll p kind, Fp Tryz.prog 15 [progV p, s.V] (.bool true) := fun s hs =>
  implSeenOk_fn p s (by omega) hl' (ord_small s hs) (mem_ordW.1 hs).1 (ord_seenOk hs)
 rw [progV_eq] at h1 h2 hok hsk
 have hn := hn kind
 generalize ordAll p kind = L at h1 h2 h3 hso hpos hsk hn
 simp (disch := omega) only [push_cast, go_sem, zA, simprocAttr, progV_eq]
 intro g3
 refine callR.pure h1 rfl rfl ?_
 simp (disch := omega) only [push_cast, go_sem, zA, simprocAttr]
 refine callR.pure h2 rfl rfl ?_
 simp (disch := omega) only [push_cast, go_sem, zA, simprocAttr]
 refine callR.pure h3 rfl rfl ?_
 simp (disch := omega) only [push_cast, go_sem, zA, simprocAttr]
 refine Sat.loop (σ := Nat) (fun k => upd (upd (upd (upd (upd noT 2 (.bool false)) 3 (.ptr 3 [] 0 0 g3 1)) 4 (.int .i64 kind)) 5 (.sl (L.map Sn.V))) 6 (.int .i64 k)) (fun _ => noM.set 3 (boxP p g3))
  (fun k => k ≤ L.length) (fun k => L.length - k) 0 (by simp) ?_ ?_
 ·(refine zB ?_; repeat (first | exact zC | exact zD | refine zE (by decide) ?_ | refine zF ?_ ?_ | refine zG ?_ ?_)) <;> (try simp (disch := omega) only [push_cast, go_sem, zA, simprocAttr])
  all_goals simp [boxP]
 rintro k hk J hJ
 refine Sat.of (S := [12]) (by kernel_rfl) ?_
 rcases Nat.lt_or_ge k L.length with hlt | hge
 ·obtain ⟨s, hs⟩ : ∃ s, L[k]? = some s := ⟨_, List.getElem?_eq_getElem hlt⟩
  have h5 := hsk s (List.mem_of_getElem? hs)
  rw [Sn.V_eq] at h5
  simp (disch := omega) only [push_cast, go_sem, zA, simprocAttr, hlt]
  refine Sat.drawnE [] [] (List.range 7) (pureT [(15, .bool true)]) (by kernel_rfl) (by kernel_rfl) ?_
  simp (disch := omega) only [push_cast, go_sem, zA, simprocAttr, boxP_eq, hs, hlt, Sn.V_eq]
  refine runD_pure rfl h5 rfl rfl ?_ ?_
  ·rfl
  simp (disch := omega) only [push_cast, go_sem, zA, simprocAttr]
  refine hJ (k + 1) _ _ (by omega) (by omega) ?_
  (refine zB ?_; repeat (first | exact zC | exact zD | refine zE (by decide) ?_ | refine zF ?_ ?_ | refine zG ?_ ?_)) <;> (try simp (disch := omega) only [push_cast, go_sem, zA, simprocAttr])
  all_goals rfl
 ·have : k = L.length := by omega
  subst this
  simp (disch := omega) only [push_cast, go_sem, zA, simprocAttr, boxP_eq]
  refine Sat.of (S := []) (by kernel_rfl) ?_
  simp (disch := omega) only [push_cast, go_sem, zA, simprocAttr]
  refine callR.pure hok rfl rfl ?_
  cases hpo : progOk p
  ·rw [hpo, Bool.false_and] at hpos
   have hp' := of_decide_eq_false hpos
   simp (disch := omega) only [push_cast, go_sem, zA, simprocAttr, hp']
   refine callR.pure hso rfl rfl ?_
   simp (disch := omega) only [push_cast, go_sem, zA, simprocAttr]
   refine callR.pure h3 rfl rfl ?_
   simp (disch := omega) only [push_cast, go_sem, zA, simprocAttr]
  rw [hpo, Bool.true_and] at hpos
  by_cases k1 : kind ≥ 1
  ·by_cases k3 : kind ≤ 3
   ·rw [show inB kind 1 3 = true by simp [inB]; omega] at hpos
    have hp' := of_decide_eq_true hpos
    simp (disch := omega) only [push_cast, go_sem, zA, simprocAttr, hp', k1, k3]
    refine callR.pure hso rfl rfl ?_
    simp (disch := omega) only [push_cast, go_sem, zA, simprocAttr]
    refine callR.pure h3 rfl rfl ?_
    simp (disch := omega) only [push_cast, go_sem, zA, simprocAttr]
   ·rw [show inB kind 1 3 = false by simp [inB]; omega] at hpos
    have hp' := of_decide_eq_false hpos
    simp (disch := omega) only [push_cast, go_sem, zA, simprocAttr, hp', k1, k3]
    refine callR.pure hso rfl rfl ?_
    simp (disch := omega) only [push_cast, go_sem, zA, simprocAttr]
    refine callR.pure h3 rfl rfl ?_
    simp (disch := omega) only [push_cast, go_sem, zA, simprocAttr]
  ·rw [show inB kind 1 3 = false by simp [inB]; omega] at hpos
   have hp' := of_decide_eq_false hpos
   simp (disch := omega) only [push_cast, go_sem, zA, simprocAttr, hp', k1]
   refine callR.pure hso rfl rfl ?_
   simp (disch := omega) only [push_cast, go_sem, zA, simprocAttr]
   refine callR.pure h3 rfl rfl ?_
   simp (disch := omega) only [push_cast, go_sem, zA, simprocAttr]
end
section
open Go.ChangeShapes Go.WideShapes Go.ChangeAt Go.RowKit
theorem own : ownKnob Tryz.prog.godebug = none := by kernel_rfl
theorem laidOut' : laidOutB Tryz.prog = true := by kernel_rfl
theorem cells8 : Tryz.prog.cellsOf 5 = 1 := by kernel_rfl
theorem code_rp {imm : Nat → Prop} {W : World} {b off len cap : Nat} {zs : List Int} (hlz : len ≤ zs.length) (hl : len ≤ cap) (hi : imm b) (hcell : ∀ i, i < zs.length → W.cell? ⟨b, off + i, none⟩ = some (.int .u8 (zs.getD i 0))) :
  Rp imm W (codeV (zs.take len)) (.slice (some ⟨b, off, none⟩) len cap) := by
 by_cases h0 : len = 0
 ·subst h0; exact .sl0 _ _
 have hc0 := hcell 0 (by omega)
 unfold World.cell? at hc0
 split at hc0
 ·rename_i cur t fr hg
  have hln : (zs.take len).length = len := by rw [List.length_take]; omega
  have e : ((zs.take len).map (V.int .u8)).length = len := by rw [List.length_map]; exact hln
  have get : ∀ (i : Nat) (x : V), ((zs.take len).map (V.int .u8))[i]? = some x → x = .int .u8 (zs.getD i 0) ∧ i < len := by
   intro i x hx
   have hlt : i < len := by have := (List.getElem?_eq_some_iff.1 hx).1; omega
   rw [List.getElem?_map, List.getElem?_take_of_lt hlt] at hx
   obtain ⟨y, hy, rfl⟩ := Option.map_eq_some_iff.1 hx
   exact ⟨by rw [List.getD, hy]; rfl, hlt⟩
  have := Rp.sl (imm := imm) (w := W) ((zs.take len).map (V.int .u8)) b off cap 1 cur t fr (fun i _ => .int .u8 (zs.getD i 0)) hi hg (by omega)
   (fun i x hx => by rw [(get i x hx).1]; rfl)
   (fun i x j c hx hc => by
    obtain ⟨rfl, hlt⟩ := get i x hx
    have hj : j = 0 := by
     cases j with
     | zero => rfl
     | succ j => simp [V.cells] at hc
    subst hj
    have := hcell i (by omega)
    unfold World.cell? at this
    simp only [hg] at this
    simpa using this)
   (fun i x j c hx hc => by
    obtain ⟨rfl, hlt⟩ := get i x hx
    have hj : j = 0 := by
     cases j with
     | zero => rfl
     | succ j => simp [V.cells] at hc
    subst hj
    simp [V.cells] at hc
    subst hc
    exact .int _ _)
  rw [e] at this
  exact this
 ·cases hc0
theorem law_calls {f : FuncId} {W : World} {x : V} {v : Value} {imm : Nat → Prop} (h : Fp Tryz.prog f [x] (.bool true)) (hG : Glob imm W) (hi : ∀ g, imm g → g < W.heap.size) (hx : Rp imm W x v) :
  Calls Tryz.prog f #[v] W fun e w' => e = .returned (.bool true) ∧ Below W.heap.size W w' := by
 refine (h.fn imm W #[v] hG inv_no hi rfl ?_).mono ?_
 ·intro j c u hj hu
  cases j with
  | zero => simp at hj hu; subst hj; subst hu; exact hx
  | succ j => simp at hj
 ·rintro e w' ⟨r, r', m, imm', rfl, ⟨rfl, rfl⟩, h3, h4⟩
  rw [h3.bool_inv]
  exact ⟨rfl, h4.os, h4.tape, h4.output, h4.size, fun k hk => (h4.block k hk not_owns_no).1⟩
end
section
open Go.ChangeShapes Go.WideShapes Go.ChangeAt Go.RowKit
theorem laid_tab {H : Type} : (Rows.laid_math_bits_deBruijn64tab : DataW H) = Lib.tabData .u8 (Lib.deBruijn64tab.map fun n : Nat => (n : Int)) := rfl
theorem tabs_of {W : World} {rest : List (String × DataW Unit)} (h : laidMet Tryz.prog (("math/bits.deBruijn64tab", Rows.laid_math_bits_deBruijn64tab) :: rest) W) : ∀ x ∈ globT, Tab x.1 x.2 W := by
 rw [laid_tab] at h
 intro x hx
 simp only [globT, List.mem_cons, List.not_mem_nil, or_false] at hx
 subst hx
 intro j hj
 have hT := Lib.tabIs_of_head (t := 168) (e := 5) (n := 64) (g := (globT.headD (0, [])).1) (by kernel_rfl) (by kernel_rfl) Tryz.underlying168 Tryz.underlying5 cells8 (by kernel_rfl) h
 have := hT.cell (g := (globT.headD (0, [])).1) (by kernel_rfl) j (by rw [List.length_map]; exact hj)
 have e : (Lib.deBruijn64tab.map fun n : Nat => (n : Int)).getD j 0 = ((Lib.deBruijn64tab.getD j 0 : Nat) : Int) := by
  simp only [List.getD, List.getElem?_map]
  cases Lib.deBruijn64tab[j]? <;> rfl
 rw [e] at this
 exact this
theorem glob_of {W : World} {imm : Nat → Prop} (hT : ∀ x ∈ globT, Tab x.1 x.2 W) (hi : ∀ x ∈ globT, imm x.1) : Glob imm W := fun x hx => ⟨hi x hx, hT x hx⟩
theorem glob_lt {W : World} (hT : ∀ x ∈ globT, Tab x.1 x.2 W) : ∀ x ∈ globT, x.1 < W.heap.size := by
 intro x hx
 have h := hT x hx
 simp only [globT, List.mem_cons, List.not_mem_nil, or_false] at hx
 subst hx
 have := h 0 (by decide)
 unfold World.cell? at this
 split at this
 ·rename_i hh; exact (Array.getElem?_eq_some_iff.1 hh).1
 ·cases this
end
end Go.Proofs.YtkdolbffabmemaaGreatDoor
