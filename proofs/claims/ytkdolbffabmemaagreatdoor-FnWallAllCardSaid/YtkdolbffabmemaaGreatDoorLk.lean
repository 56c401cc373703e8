/-
 Contracts and plain laws.
-/
import Derived.Test.YtkdolbffabmemaaGreatDoorLc
import Derived.Test.YtkdolbffabmemaaGreatDoorLd
import Derived.Test.YtkdolbffabmemaaGreatDoorLf
import Derived.Test.YtkdolbffabmemaaGreatDoorLh
import Derived.Test.YtkdolbffabmemaaGreatDoorLi
import Derived.Test.YtkdolbffabmemaaGreatDoorLj
set_option linter.unusedSimpArgs false
set_option linter.unusedVariables false
set_option linter.unusedSectionVars false
namespace Go.Proofs.YtkdolbffabmemaaGreatDoor
section
open Go.RowKit
theorem places {p : Prog} (h : progOk p = true) : ∀ d ∈ (scene p).ds, d.uses = true → 0 ≤ d.p ∧ d.p < 3 := fun d hd hu => by
 have := formed_place (scene_formed h d hd) hu; omega
theorem im_of {p q : Prog} {f : Nat → Nat} (hnu : ∀ j, j < (events q).length → (∃ i, i < (events p).length ∧ f i = j) ∨ (dsA q j).uses = false) :
  ∀ (j : Nat) (d' : Do), (scene q).ds[j]? = some d' → d'.uses = true → ∃ i, i < (scene p).ds.length ∧ f i = j := by
 intro j d' hd hu
 have hj : j < (events q).length := by rw [← scene_n]; exact (List.getElem?_eq_some_iff.1 hd).1
 have := ds_at hj
 rw [hd] at this
 rcases hnu j hj with h1 | h1
 ·rw [scene_n]; exact h1
 ·rw [← Option.some.inj this, hu] at h1; cases h1
theorem more_of {p q : Prog} {f : Nat → Nat} (h : PE p q f) (hnu : ∀ j, j < (events q).length → (∃ i, i < (events p).length ∧ f i = j) ∨ (dsA q j).uses = false) {k k' : Int} (hk' : inB k' 1 3 = true)
  (hh : ∀ x y, OKW (scene p).ds x → OKW (scene q).ds y → Mat (scene p).ds f x y → Hld p x k → Hld q y k') {s : Sn} (hs : s ∈ ordAll p k) : s ∈ ordAll q k' := by
 obtain ⟨_, _, x, hx, hl, rfl⟩ := mem_ordW.1 hs
 obtain ⟨y, hy, m, ho⟩ := extend h.e hx (im_of hnu)
 exact mem_ordW.2 ⟨h.okq, hk', y, hy, hh x y hx hy m hl, m.seen h.e hx ho fun j d' hd hr => im_of hnu j d' hd (uses_or.2 (.inl hr))⟩
theorem less_of {p q : Prog} {f : Nat → Nat} (h : PE p q f) (hnu : ∀ j, j < (events q).length → (∃ i, i < (events p).length ∧ f i = j) ∨ (dsA q j).uses = false) {k k' : Int} (hk : inB k 1 3 = true)
  (hh : ∀ x y, OKW (scene p).ds x → OKW (scene q).ds y → Mat (scene p).ds f x y → Hld q y k' → Hld p x k) {s : Sn} (hs : s ∈ ordAll q k') : s ∈ ordAll p k := by
 obtain ⟨_, _, y, hy, hl, rfl⟩ := mem_ordW.1 hs
 have him := im_of hnu
 obtain ⟨x, hx, m, ho⟩ := restrict h.e (scene_copy h.okp) hy (places h.okp) fun j d' hd hw => .inl (him j d' hd (uses_or.2 (.inr hw)))
 exact mem_ordW.2 ⟨h.okp, hk, x, hx, hh x y hx hy m hl, (m.seen h.e hx (ho fun j d' hd hw => him j d' hd (uses_or.2 (.inr hw))) fun j d' hd hr => him j d' hd (uses_or.2 (.inl hr))).symm⟩
theorem Em.hnu {p q : Prog} {f : Nat → Nat} {R : Fra → Fra → Prop} {N : Fra → Prop} (h : Em R N (evF 0 p) (evF 0 q) f) (hN : ∀ y, N y → y.d.uses = false) : ∀ j, j < (events q).length → (∃ i, i < (events p).length ∧ f i = j) ∨ (dsA q j).uses = false := by
 intro j hj
 obtain ⟨y, hy⟩ := F_at hj
 rcases h.2.2 j y hy with h1 | h1
 ·rw [evF_len] at h1; exact .inl h1
 ·right; rw [(F_get hy).2.2.2.2.1]; exact hN y h1
def KLe (x y : Fra) : Prop := (wallB x.d = true → wallB y.d = true) ∧ (x.d.k = 5 → y.d.k = 5) ∧ (x.d.k = 6 → y.d.k = 6)
theorem PEk.of {p q : Prog} {f : Nat → Nat} (h : ∀ i x, (evF 0 p)[i]? = some x → ∃ y, (evF 0 q)[f i]? = some y ∧ KLe x y) : PEk p q f := by
 have key : ∀ i, i < (events p).length → ∃ x y, dsA p i = x.d ∧ dsA q (f i) = y.d ∧ KLe x y := by
  intro i hi
  obtain ⟨x, hx⟩ := F_at hi
  obtain ⟨y, hy, hl⟩ := h i x hx
  exact ⟨x, y, (F_get hx).2.2.2.2.1, (F_get hy).2.2.2.2.1, hl⟩
 exact ⟨fun i hi => by obtain ⟨x, y, h1, h2, h3⟩ := key i hi; rw [h1, h2]; exact h3.1, fun i hi => by obtain ⟨x, y, h1, h2, h3⟩ := key i hi; rw [h1, h2]; exact h3.2.1, fun i hi => by obtain ⟨x, y, h1, h2, h3⟩ := key i hi; rw [h1, h2]; exact h3.2.2⟩
theorem PEk'.of {p q : Prog} {f : Nat → Nat} (h : ∀ i x, (evF 0 p)[i]? = some x → ∃ y, (evF 0 q)[f i]? = some y ∧ KLe y x) : PEk' p q f := by
 have key : ∀ i, i < (events p).length → ∃ x y, dsA p i = x.d ∧ dsA q (f i) = y.d ∧ KLe y x := by
  intro i hi
  obtain ⟨x, hx⟩ := F_at hi
  obtain ⟨y, hy, hl⟩ := h i x hx
  exact ⟨x, y, (F_get hx).2.2.2.2.1, (F_get hy).2.2.2.2.1, hl⟩
 exact ⟨fun i hi => by obtain ⟨x, y, h1, h2, h3⟩ := key i hi; rw [h1, h2]; exact h3.1, fun i hi => by obtain ⟨x, y, h1, h2, h3⟩ := key i hi; rw [h1, h2]; exact h3.2.1, fun i hi => by obtain ⟨x, y, h1, h2, h3⟩ := key i hi; rw [h1, h2]; exact h3.2.2⟩
theorem KLe.refl (x : Fra) : KLe x x := ⟨id, id, id⟩
structure Swp (d d' : Do) : Prop where
 s : Sim d d'
 k : (d.k = 2 ∧ d'.k = 5) ∨ (d.k = 1 ∧ d'.k = 6)
theorem Swp.of {d : Do} {to : Int} (h : (d.k = 2 ∧ to = 5) ∨ (d.k = 1 ∧ to = 6)) : Swp d ⟨to, d.p, d.v⟩ := by
 rcases h with ⟨h1, rfl⟩ | ⟨h1, rfl⟩
 ·exact ⟨⟨by simp [Do.reads, h1], by simp [Do.writes, h1], rfl, rfl, by simp [h1]⟩, .inl ⟨h1, rfl⟩⟩
 ·exact ⟨⟨by simp [Do.reads, h1], by simp [Do.writes, h1], rfl, rfl, by simp [h1]⟩, .inr ⟨h1, rfl⟩⟩
theorem Swp.formed {d d' : Do} (h : Swp d d') : d'.formed = d.formed := by
 have h1 := h.s.uses
 have h2 := h.s.valued
 have e1 : inB d'.k 1 9 = true := by rcases h.k with ⟨_, h⟩ | ⟨_, h⟩ <;> rw [h] <;> rfl
 have e2 : inB d.k 1 9 = true := by rcases h.k with ⟨h, _⟩ | ⟨h, _⟩ <;> rw [h] <;> rfl
 rw [Do.formed, Do.formed, h1, h2, h.s.p, h.s.v, e1, e2]
theorem Swp.wrong {d d' : Do} (h : Swp d d') (r i : Bool) : d'.wrong r i = d.wrong r i := by
 rw [Do.wrong, Do.wrong]
 rcases h.k with ⟨h1, h2⟩ | ⟨h1, h2⟩ <;> simp [h1, h2]
theorem Swp.thr {d d' : Do} (h : Swp d d') {l2 : List Do} : ∀ {l1 : List Do} {r i : Bool}, thrGo (l1 ++ d' :: l2) r i = thrGo (l1 ++ d :: l2) r i
 | [], r, i => by
  rw [List.nil_append, List.nil_append, thrGo, thrGo, h.formed, h.wrong, h.s.r]
  have e1 : (d'.k == 7) = (d.k == 7) := by rcases h.k with ⟨h1, h2⟩ | ⟨h1, h2⟩ <;> simp [h1, h2]
  have e2 : (d'.k == 8) = (d.k == 8) := by rcases h.k with ⟨h1, h2⟩ | ⟨h1, h2⟩ <;> simp [h1, h2]
  rw [e1, e2]
 | a :: l1, r, i => by
  rw [List.cons_append, List.cons_append, thrGo, thrGo, Swp.thr h]
theorem Swp.ok {d d' : Do} (h : Swp d d') {p1 p2 : Prog} {l1 l2 : List Do} : progOk (p1 ++ (l1 ++ d' :: l2) :: p2) = progOk (p1 ++ (l1 ++ d :: l2) :: p2) := by
 have e1 : threadOk (l1 ++ d' :: l2) = threadOk (l1 ++ d :: l2) := by rw [threadOk, threadOk, h.thr]; simp
 have e2 : usesOf (l1 ++ d' :: l2) = usesOf (l1 ++ d :: l2) := by
  simp only [usesOf, List.filter_append, List.filter_cons, h.s.uses]
  split <;> simp
 have e3 : (l1 ++ d' :: l2).length = (l1 ++ d :: l2).length := by simp
 simp only [progOk, List.all_append, List.all_cons, stepsP, usesP, List.map_append, List.map_cons, e1, e2, e3, List.length_append, List.length_cons]
end
section
open Go.RowKit
end
section
open Go.RowKit
theorem ord_small {p : Prog} {kind : Int} : ∀ t ∈ ordAll p kind, t.small := by
 rw [ordAll]
 split
 ·exact acc_small (p := p) (kind := kind) (l := specAll p) fun x hx => all_ok (p := p) (x := x) (by rw [all_eq]; exact hx)
 ·exact fun t ht => by cases ht
theorem ord_len (p : Prog) (kind : Int) : (ordAll p kind).length < 2 ^ 30 := by
 rw [ordAll]
 split
 ·have := acc_len p kind (specAll p)
  have := specAll_le p
  rw [accS] at *; omega
 ·simp
end
section
open Go.RowKit
end
section
open Go.RowKit
end
section
open Go.RowKit
end
section
open Go.RowKit
theorem list_eq_drop {α : Type} [BEq α] [LawfulBEq α] {a b : List α} {k : Nat} (hl : a.length = b.length) (h : ∀ (j : Nat) (x y : α), j < k → a[j]? = some x → b[j]? = some y → (x == y) = true) (hk : a.length ≤ k) : a = b := by
 apply List.ext_getElem hl
 intro j h1 h2
 exact beq_iff_eq.1 (h j _ _ (by omega) (List.getElem?_eq_getElem h1) (List.getElem?_eq_getElem h2))
theorem list_ne_at {α : Type} {a b : List α} {k : Nat} {x y : α} (hx : a[k]? = some x) (hy : b[k]? = some y) (h : x ≠ y) : a ≠ b := fun e => by
 rw [e, hy] at hx; cases hx; exact h rfl
theorem lpInts_fn (a b : List Int) (ha : a.length < 2 ^ 40) (hb : b.length < 2 ^ 40) : Fp Tryz.prog 78 [intsV a, intsV b] (.bool (decide (a = b))) := by
  refine Fc.start (S := [8]) Tryz.func78 Tryz.ntmps78 Tryz.results78 rfl (by decide) rfl (by kernel_rfl) ?_
  cases hl : ((a.length : Int) != b.length)
  rotate_left
  · simp (disch := omega) only [push_cast, go_sem, zA, simprocAttr, intsV_eq, hl]
    have : ¬ a = b := fun h => by rw [h] at hl; simp at hl
    simp [this]
  have hl' : a.length = b.length := by have : (a.length : Int) = b.length := by simpa using hl
                                       omega
  simp (disch := omega) only [push_cast, go_sem, zA, simprocAttr, intsV_eq, hl]
  refine Sat.loop (σ := Nat) (fun k => upd (upd (upd noT 0 (.sl (a.map (V.int .i64)))) 1 (.sl (b.map (V.int .i64)))) 5 (.int .i64 k)) (fun _ => noM)
    (fun k => k ≤ a.length ∧ ∀ (j : Nat) (x y : Int), j < k → a[j]? = some x → b[j]? = some y → (x == y) = true) (fun k => a.length - k) 0 (by simp) ?_ ?_
  · (refine zB ?_; repeat (first | exact zC | exact zD | refine zE (by decide) ?_ | refine zF ?_ ?_ | refine zG ?_ ?_)) <;> (try simp (disch := omega) only [push_cast, go_sem, zA, simprocAttr])
  rintro k ⟨hk, hall⟩ J hJ
  refine Sat.of (S := []) (by kernel_rfl) ?_
  rcases Nat.lt_or_ge k a.length with hlt | hge
  · obtain ⟨x, hx⟩ : ∃ x, a[k]? = some x := ⟨_, List.getElem?_eq_getElem hlt⟩
    have hltb : k < b.length := by omega
    obtain ⟨y, hy⟩ : ∃ y, b[k]? = some y := ⟨_, List.getElem?_eq_getElem hltb⟩
    cases hne : (x != y)
    · simp (disch := omega) only [push_cast, go_sem, zA, simprocAttr, hlt]
      refine Sat.drawnE [] [] [3, 7] (fun _ _ _ => none) (by kernel_rfl) (by kernel_rfl) ?_
      simp (disch := omega) only [push_cast, go_sem, zA, simprocAttr, hx, hy, hlt, hltb, hne]
      refine hJ (k + 1) _ _ ⟨by omega, fun j x' y' hj h1 h2 => ?_⟩ (by omega) ?_
      · rcases Nat.lt_or_ge j k with h | h
        · exact hall j x' y' h h1 h2
        · have : j = k := by omega
          subst this; rw [hx] at h1; rw [hy] at h2; cases h1; cases h2
          simpa only [bne, Bool.not_eq_false'] using hne
      · (refine zB ?_; repeat (first | exact zC | exact zD | refine zE (by decide) ?_ | refine zF ?_ ?_ | refine zG ?_ ?_)) <;> (try simp (disch := omega) only [push_cast, go_sem, zA, simprocAttr])
    · simp (disch := omega) only [push_cast, go_sem, zA, simprocAttr, hlt]
      refine Sat.drawnE [] [] [3, 7] (fun _ _ _ => none) (by kernel_rfl) (by kernel_rfl) ?_
      simp (disch := omega) only [push_cast, go_sem, zA, simprocAttr, hx, hy, hlt, hltb, hne]
      have : ¬ a = b := list_ne_at hx hy (by simpa using hne)
      simp [this]
  · have hkl : k = a.length := by omega
    subst hkl
    simp (disch := omega) only [push_cast, go_sem, zA, simprocAttr]
    refine Sat.of (S := []) (by kernel_rfl) ?_
    simp (disch := omega) only [push_cast, go_sem, zA, simprocAttr]
    have : a = b := list_eq_drop hl' hall (Nat.le_refl _)
    simp [this]
instance : DecidableEq Exe := fun x y => decidable_of_iff (x.fr = y.fr ∧ x.od = y.od) (by cases x; cases y; simp)
end
section
open Go.RowKit
end
section
open Go.RowKit
theorem lpSame_fn (s t : Sn) (hs : s.small) (ht : t.small) : Fp Tryz.prog 38 [s.V, t.V] (.bool (decide (s = t))) := by
 have h1 := lpInts_fn s.rd t.rd hs.rd ht.rd
 have h2 := lpInts_fn s.ls t.ls hs.ls ht.ls
 have hst : decide (s = t) = (decide (s.rd = t.rd) && decide (s.ls = t.ls)) := by
  obtain ⟨a, b⟩ := s
  obtain ⟨c, d⟩ := t
  rw [Bool.eq_iff_iff]; simp
 rw [hst]
 rw [intsV_eq, intsV_eq] at h1 h2
 refine Fc.start (S := []) Tryz.func38 Tryz.ntmps38 Tryz.results38 rfl (by decide) rfl (by kernel_rfl) ?_
 simp (disch := omega) only [push_cast, go_sem, zA, simprocAttr, Sn.V_eq]
 intro g2 g3
 refine callR.pure h1 rfl rfl ?_
 cases decide (s.rd = t.rd)
 ·simp (disch := omega) only [push_cast, go_sem, zA, simprocAttr]
 ·simp (disch := omega) only [push_cast, go_sem, zA, simprocAttr]
  refine callR.pure h2 rfl rfl ?_
  simp (disch := omega) only [push_cast, go_sem, zA, simprocAttr]
end
section
open Go.RowKit
theorem lpList_fn (a b : List Sn) (ha : ∀ s ∈ a, s.small) (hb : ∀ s ∈ b, s.small) (hal : a.length < 2 ^ 40) (hbl : b.length < 2 ^ 40) : Fp Tryz.prog 13 [.sl (a.map Sn.V), .sl (b.map Sn.V)] (.bool (decide (a = b))) := by
  refine Fc.start (S := [8]) Tryz.func13 Tryz.ntmps13 Tryz.results13 rfl (by decide) rfl (by kernel_rfl) ?_
  cases hl : ((a.length : Int) != b.length)
  rotate_left
  · simp (disch := omega) only [push_cast, go_sem, zA, simprocAttr, hl]
    have : ¬ a = b := fun h => by rw [h] at hl; simp at hl
    simp [this]
  have hl' : a.length = b.length := by have : (a.length : Int) = b.length := by simpa using hl
                                       omega
  simp (disch := omega) only [push_cast, go_sem, zA, simprocAttr, hl]
  refine Sat.loop (σ := Nat) (fun k => upd (upd (upd noT 0 (.sl (a.map Sn.V))) 1 (.sl (b.map Sn.V))) 5 (.int .i64 k)) (fun _ => noM)
    (fun k => k ≤ a.length ∧ ∀ (j : Nat) (x y : Sn), j < k → a[j]? = some x → b[j]? = some y → (x == y) = true) (fun k => a.length - k) 0 (by simp) ?_ ?_
  · (refine zB ?_; repeat (first | exact zC | exact zD | refine zE (by decide) ?_ | refine zF ?_ ?_ | refine zG ?_ ?_)) <;> (try simp (disch := omega) only [push_cast, go_sem, zA, simprocAttr])
  rintro k ⟨hk, hall⟩ J hJ
  refine Sat.of (S := []) (by kernel_rfl) ?_
  rcases Nat.lt_or_ge k a.length with hlt | hge
  · obtain ⟨x, hx⟩ : ∃ x, a[k]? = some x := ⟨_, List.getElem?_eq_getElem hlt⟩
    have hltb : k < b.length := by omega
    obtain ⟨y, hy⟩ : ∃ y, b[k]? = some y := ⟨_, List.getElem?_eq_getElem hltb⟩
    have hs := lpSame_fn x y (ha x (List.mem_of_getElem? hx)) (hb y (List.mem_of_getElem? hy))
    rw [Sn.V_eq, Sn.V_eq] at hs
    cases he : decide (x = y)
    · rw [he] at hs
      simp (disch := omega) only [push_cast, go_sem, zA, simprocAttr, hlt]
      refine Sat.drawnE [] [] (List.range 10) (pureT [(38, .bool false)]) (by kernel_rfl) (by kernel_rfl) ?_
      simp (disch := omega) only [push_cast, go_sem, zA, simprocAttr, hx, hy, hlt, hltb, Sn.V_eq]
      refine runD_pure rfl hs rfl rfl ?_ ?_
      · rfl
      simp (disch := omega) only [push_cast, go_sem, zA, simprocAttr]
      have : ¬ a = b := list_ne_at hx hy (of_decide_eq_false he)
      simp [this]
    · rw [he] at hs
      simp (disch := omega) only [push_cast, go_sem, zA, simprocAttr, hlt]
      refine Sat.drawnE [] [] (List.range 10) (pureT [(38, .bool true)]) (by kernel_rfl) (by kernel_rfl) ?_
      simp (disch := omega) only [push_cast, go_sem, zA, simprocAttr, hx, hy, hlt, hltb, Sn.V_eq]
      refine runD_pure rfl hs rfl rfl ?_ ?_
      · rfl
      simp (disch := omega) only [push_cast, go_sem, zA, simprocAttr]
      refine hJ (k + 1) _ _ ⟨by omega, fun j x' y' hj h1 h2 => ?_⟩ (by omega) ?_
      · rcases Nat.lt_or_ge j k with h | h
        · exact hall j x' y' h h1 h2
        · have : j = k := by omega
          subst this; rw [hx] at h1; rw [hy] at h2; cases h1; cases h2
          exact beq_iff_eq.2 (of_decide_eq_true he)
      · (refine zB ?_; repeat (first | exact zC | exact zD | refine zE (by decide) ?_ | refine zF ?_ ?_ | refine zG ?_ ?_)) <;> (try simp (disch := omega) only [push_cast, go_sem, zA, simprocAttr])
  · have hkl : k = a.length := by omega
    subst hkl
    simp (disch := omega) only [push_cast, go_sem, zA, simprocAttr]
    refine Sat.of (S := []) (by kernel_rfl) ?_
    simp (disch := omega) only [push_cast, go_sem, zA, simprocAttr]
    have : a = b := list_eq_drop hl' hall (Nat.le_refl _)
    simp [this]
end
section
open Go.RowKit
end
section
open Go.RowKit
theorem ord_late {p : Prog} {s : Sn} (h : s ∈ ordAll p 1) : s ∈ ordAll p 2 := by
 obtain ⟨h1, _, x, hx, hh, he⟩ := mem_ord.1 h
 exact mem_ord.2 ⟨h1, rfl, x, hx, holdsS_late hh, he⟩
theorem ord_loose {p : Prog} {s : Sn} (h : s ∈ ordAll p 2) : s ∈ ordAll p 3 := by
 obtain ⟨h1, _, x, hx, hh, he⟩ := mem_ord.1 h
 exact mem_ord.2 ⟨h1, rfl, x, hx, holdsS_loose hh, he⟩
end
section
open Go.RowKit
theorem at_ds {p : Prog} {a i j : Nat} {e : Evt} {l : List Do} {d : Do} (h : At p a e i l j d) : dsA p a = d := by
 rw [dsA, scene_get h.ev, h.st]; rfl
theorem told_uses {p : Prog} {x : Exe} {k : Int} {a b : Nat} (h : toldS p x k a b = true) : (dsA p a).uses = true ∧ (dsA p b).uses = true ∧ (readS p x a b = true ∨ overS p x a b = true) := by
 have h1 : readS p x a b = true ∨ overS p x a b = true := by
  rw [toldS] at h
  split at h
  ·rw [Bool.or_eq_true, Bool.and_eq_true] at h; exact h.imp And.right id
  ·split at h
   ·rw [Bool.and_eq_true, Bool.or_eq_true] at h; exact h.2
   ·rw [Bool.or_eq_true] at h; exact h
 refine ⟨?_, ?_, h1⟩
 ·rcases h1 with h1 | h1
  ·simp only [readS, Bool.and_eq_true] at h1; exact uses_or.2 (.inr h1.1.1)
  ·simp only [overS, sameS, Bool.and_eq_true] at h1; exact h1.1.2.1.1
 ·rcases h1 with h1 | h1
  ·simp only [readS, Bool.and_eq_true] at h1; exact uses_or.2 (.inl h1.1.2)
  ·simp only [overS, sameS, Bool.and_eq_true] at h1; exact h1.1.2.1.2
theorem own_tr {p : Prog} {a b c : Nat} (h1 : ownB (events p) a b = true) (h2 : ownB (events p) b c = true) : ownB (events p) a c = true := by
 rw [own_iff] at *; omega
end
section
open Go.RowKit
theorem late_k9' {p : Prog} {e : Nat} (he : e < (events p).length) (hl : ltA (events p) e = true) : kd (scene p).ds e = 9 := by
 obtain ⟨i, l, j, d, h⟩ := At.of (List.getElem?_eq_getElem he)
 rw [h.kd]
 refine h.late ?_
 rw [ltA, List.getElem?_eq_getElem he] at hl
 exact hl
section
variable {p1 p2 : Prog} {l : List Do}
end
end
section
open Go.RowKit
end
section
open Go.RowKit
end
end Go.Proofs.YtkdolbffabmemaaGreatDoor
