/-
 Contracts and plain laws.
-/
import Derived.Test.YtkdolbffabmemaaGreatDoorJc
import Derived.Test.YtkdolbffabmemaaGreatDoorJd
import Derived.Test.YtkdolbffabmemaaGreatDoorJf
import Derived.Test.YtkdolbffabmemaaGreatDoorJh
import Derived.Test.YtkdolbffabmemaaGreatDoorJi
import Derived.Test.YtkdolbffabmemaaGreatDoorJj
set_option linter.unusedSimpArgs false
set_option linter.unusedVariables false
set_option linter.unusedSectionVars false
namespace Go.Proofs.YtkdolbffabmemaaGreatDoor
section
open Go.RowKit
theorem places {p : Prog} (h : progOk p = true) : ∀ d ∈ (scene p).ds, d.uses = true → 0 ≤ d.p ∧ d.p < 3 := fun d hd hu => by
 have := formed_place (scene_formed h d hd) hu; omega
theorem within_of {p q : Prog} {f : Nat → Nat} (h : PE p q f) (hk : PEk p q f) (hnu : ∀ j, j < (events q).length → (∃ i, i < (events p).length ∧ f i = j) ∨ (dsA q j).uses = false) {k : Int} {s : Sn} (hs : s ∈ ordAll q k) : s ∈ ordAll p k := by
 obtain ⟨_, hki, y, hy, hh, rfl⟩ := mem_ordW.1 hs
 have him : ∀ (j : Nat) (d' : Do), (scene q).ds[j]? = some d' → d'.uses = true → ∃ i, i < (scene p).ds.length ∧ f i = j := by
  intro j d' hd hu
  have hj : j < (events q).length := by rw [← scene_n]; exact (List.getElem?_eq_some_iff.1 hd).1
  have := ds_at hj
  rw [hd] at this
  rcases hnu j hj with h1 | h1
  ·rw [scene_n]; exact h1
  ·rw [← Option.some.inj this, hu] at h1; cases h1
 obtain ⟨x, hx, m, ho⟩ := restrict h.e (scene_copy h.okp) hy (places h.okp) fun j d' hd hw => .inl (him j d' hd (uses_or.2 (.inr hw)))
 exact mem_ordW.2 ⟨h.okp, hki, x, hx, hh.back h hk m hx, (m.seen h.e hx (ho fun j d' hd hw => him j d' hd (uses_or.2 (.inr hw))) fun j d' hd hr => him j d' hd (uses_or.2 (.inl hr))).symm⟩
theorem im_of {p q : Prog} {f : Nat → Nat} (hnu : ∀ j, j < (events q).length → (∃ i, i < (events p).length ∧ f i = j) ∨ (dsA q j).uses = false) :
  ∀ (j : Nat) (d' : Do), (scene q).ds[j]? = some d' → d'.uses = true → ∃ i, i < (scene p).ds.length ∧ f i = j := by
 intro j d' hd hu
 have hj : j < (events q).length := by rw [← scene_n]; exact (List.getElem?_eq_some_iff.1 hd).1
 have := ds_at hj
 rw [hd] at this
 rcases hnu j hj with h1 | h1
 ·rw [scene_n]; exact h1
 ·rw [← Option.some.inj this, hu] at h1; cases h1
theorem more_of {p q : Prog} {f : Nat → Nat} (h : PE p q f) (hnu : ∀ j, j < (events q).length → (∃ i, i < (events p).length ∧ f i = j) ∨ (dsA q j).uses = false) {k k' : Int} (hk' : inB k' 1 3 = true)
  (hh : ∀ x y, OKW (scene p).ds x → OKW (scene q).ds y → Mat (scene p).ds f x y → Hld p x k → Hld q y k') {s : Sn} (hs : s ∈ ordAll p k) : s ∈ ordAll q k' := by
 obtain ⟨_, _, x, hx, hl, rfl⟩ := mem_ordW.1 hs
 obtain ⟨y, hy, m, ho⟩ := extend h.e hx (im_of hnu)
 exact mem_ordW.2 ⟨h.okq, hk', y, hy, hh x y hx hy m hl, m.seen h.e hx ho fun j d' hd hr => im_of hnu j d' hd (uses_or.2 (.inl hr))⟩
theorem Em.hnu {p q : Prog} {f : Nat → Nat} {R : Fra → Fra → Prop} {N : Fra → Prop} (h : Em R N (evF 0 p) (evF 0 q) f) (hN : ∀ y, N y → y.d.uses = false) : ∀ j, j < (events q).length → (∃ i, i < (events p).length ∧ f i = j) ∨ (dsA q j).uses = false := by
 intro j hj
 obtain ⟨y, hy⟩ := F_at hj
 rcases h.2.2 j y hy with h1 | h1
 ·rw [evF_len] at h1; exact .inl h1
 ·right; rw [(F_get hy).2.2.2.2.1]; exact hN y h1
def KLe (x y : Fra) : Prop := (wallB x.d = true → wallB y.d = true) ∧ (x.d.k = 5 → y.d.k = 5) ∧ (x.d.k = 6 → y.d.k = 6)
theorem PEk.of {p q : Prog} {f : Nat → Nat} (h : ∀ i x, (evF 0 p)[i]? = some x → ∃ y, (evF 0 q)[f i]? = some y ∧ KLe x y) : PEk p q f := by
 have key : ∀ i, i < (events p).length → ∃ x y, dsA p i = x.d ∧ dsA q (f i) = y.d ∧ KLe x y := by
  intro i hi
  obtain ⟨x, hx⟩ := F_at hi
  obtain ⟨y, hy, hl⟩ := h i x hx
  exact ⟨x, y, (F_get hx).2.2.2.2.1, (F_get hy).2.2.2.2.1, hl⟩
 exact ⟨fun i hi => by obtain ⟨x, y, h1, h2, h3⟩ := key i hi; rw [h1, h2]; exact h3.1, fun i hi => by obtain ⟨x, y, h1, h2, h3⟩ := key i hi; rw [h1, h2]; exact h3.2.1, fun i hi => by obtain ⟨x, y, h1, h2, h3⟩ := key i hi; rw [h1, h2]; exact h3.2.2⟩
theorem PEk'.of {p q : Prog} {f : Nat → Nat} (h : ∀ i x, (evF 0 p)[i]? = some x → ∃ y, (evF 0 q)[f i]? = some y ∧ KLe y x) : PEk' p q f := by
 have key : ∀ i, i < (events p).length → ∃ x y, dsA p i = x.d ∧ dsA q (f i) = y.d ∧ KLe y x := by
  intro i hi
  obtain ⟨x, hx⟩ := F_at hi
  obtain ⟨y, hy, hl⟩ := h i x hx
  exact ⟨x, y, (F_get hx).2.2.2.2.1, (F_get hy).2.2.2.2.1, hl⟩
 exact ⟨fun i hi => by obtain ⟨x, y, h1, h2, h3⟩ := key i hi; rw [h1, h2]; exact h3.1, fun i hi => by obtain ⟨x, y, h1, h2, h3⟩ := key i hi; rw [h1, h2]; exact h3.2.1, fun i hi => by obtain ⟨x, y, h1, h2, h3⟩ := key i hi; rw [h1, h2]; exact h3.2.2⟩
theorem KLe.refl (x : Fra) : KLe x x := ⟨id, id, id⟩
theorem swap_F {p1 p2 : Prog} {l1 l2 : List Do} {d : Do} (h9 : d.k ≠ 9) : evF 0 (p1 ++ (l1 ++ d :: l2) :: p2) = (evF 0 p1 ++ thF p1.length l1) ++ ⟨p1.length, d, false⟩ :: (thF p1.length l2 ++ evF (p1.length + 1) p2) := by
 have : (d.k == 9) = false := beq_eq_false_iff_ne.2 h9
 rw [evF_app, evF, thF_app, thF_cons, stF, this]
 simp
structure Swp (d d' : Do) : Prop where
 s : Sim d d'
 k : (d.k = 2 ∧ d'.k = 5) ∨ (d.k = 1 ∧ d'.k = 6)
theorem Swp.of {d : Do} {to : Int} (h : (d.k = 2 ∧ to = 5) ∨ (d.k = 1 ∧ to = 6)) : Swp d ⟨to, d.p, d.v⟩ := by
 rcases h with ⟨h1, rfl⟩ | ⟨h1, rfl⟩
 ·exact ⟨⟨by simp [Do.reads, h1], by simp [Do.writes, h1], rfl, rfl, by simp [h1]⟩, .inl ⟨h1, rfl⟩⟩
 ·exact ⟨⟨by simp [Do.reads, h1], by simp [Do.writes, h1], rfl, rfl, by simp [h1]⟩, .inr ⟨h1, rfl⟩⟩
theorem Swp.formed {d d' : Do} (h : Swp d d') : d'.formed = d.formed := by
 have h1 := h.s.uses
 have h2 := h.s.valued
 have e1 : inB d'.k 1 9 = true := by rcases h.k with ⟨_, h⟩ | ⟨_, h⟩ <;> rw [h] <;> rfl
 have e2 : inB d.k 1 9 = true := by rcases h.k with ⟨h, _⟩ | ⟨h, _⟩ <;> rw [h] <;> rfl
 rw [Do.formed, Do.formed, h1, h2, h.s.p, h.s.v, e1, e2]
theorem Swp.wrong {d d' : Do} (h : Swp d d') (r i : Bool) : d'.wrong r i = d.wrong r i := by
 rw [Do.wrong, Do.wrong]
 rcases h.k with ⟨h1, h2⟩ | ⟨h1, h2⟩ <;> simp [h1, h2]
theorem Swp.thr {d d' : Do} (h : Swp d d') {l2 : List Do} : ∀ {l1 : List Do} {r i : Bool}, thrGo (l1 ++ d' :: l2) r i = thrGo (l1 ++ d :: l2) r i
 | [], r, i => by
  rw [List.nil_append, List.nil_append, thrGo, thrGo, h.formed, h.wrong, h.s.r]
  have e1 : (d'.k == 7) = (d.k == 7) := by rcases h.k with ⟨h1, h2⟩ | ⟨h1, h2⟩ <;> simp [h1, h2]
  have e2 : (d'.k == 8) = (d.k == 8) := by rcases h.k with ⟨h1, h2⟩ | ⟨h1, h2⟩ <;> simp [h1, h2]
  rw [e1, e2]
 | a :: l1, r, i => by
  rw [List.cons_append, List.cons_append, thrGo, thrGo, Swp.thr h]
theorem Swp.ok {d d' : Do} (h : Swp d d') {p1 p2 : Prog} {l1 l2 : List Do} : progOk (p1 ++ (l1 ++ d' :: l2) :: p2) = progOk (p1 ++ (l1 ++ d :: l2) :: p2) := by
 have e1 : threadOk (l1 ++ d' :: l2) = threadOk (l1 ++ d :: l2) := by rw [threadOk, threadOk, h.thr]; simp
 have e2 : usesOf (l1 ++ d' :: l2) = usesOf (l1 ++ d :: l2) := by
  simp only [usesOf, List.filter_append, List.filter_cons, h.s.uses]
  split <;> simp
 have e3 : (l1 ++ d' :: l2).length = (l1 ++ d :: l2).length := by simp
 simp only [progOk, List.all_append, List.all_cons, stepsP, usesP, List.map_append, List.map_cons, e1, e2, e3, List.length_append, List.length_cons]
end
section
open Go.RowKit
theorem l71Kind_pl (bs : List Int) (hb : Bytes bs) (g p : Nat) (hp : p < 2 ^ 29) : Fr Tryz.prog 31 [] g (rdO bs g p)
  (fun r o' => (∃ v : Int, r = .int .i64 v) ∧ ∃ q, p ≤ q ∧ q ≤ p + 2 ∧ o' = rdO bs g q) := by
 refine Fc.start (S := []) Tryz.func31 Tryz.ntmps31 Tryz.results31 rfl (by decide) rfl (by kernel_rfl) ?_
 simp (disch := omega) only [push_cast, go_sem, zA, simprocAttr]
 refine callR.rd (pick_rd bs hb g p (by omega) 24 (by omega)) rfl rfl rfl ?_
 rintro r o' ⟨v, rfl, hv0, hv1, _, rfl⟩
 simp (disch := omega) only [push_cast, go_sem, zA, simprocAttr]
 refine ⟨fun hv g1 => ?_, fun hv => ?_⟩
 ·refine callR.rd (pick_rd bs hb g (p + 1) (by omega) 3 (by omega)) rfl rfl rfl ?_
  rintro r o' ⟨u, rfl, hu0, hu1, _, rfl⟩
  have hu : u < 3 := hu1 (by omega)
  obtain ⟨n, rfl⟩ := Int.eq_ofNat_of_zero_le hu0
  obtain ⟨z, hz⟩ := ints_get (l := [.int .i64 0, .int .i64 4, .int .i64 (-1)]) (n := n) rfl (by simp; omega)
  simp (disch := omega) only [push_cast, go_sem, zA, simprocAttr, hz]
  refine ⟨by omega, _, Sub.set Sub.no rfl, _, ⟨⟨_, rfl⟩, p + 1 + 1, by omega, by omega, rfl⟩, rfl⟩
 ·refine callR.rd (pick_rd bs hb g (p + 1) (by omega) 3 (by omega)) rfl rfl rfl ?_
  rintro r o' ⟨u, rfl, hu0, hu1, _, rfl⟩
  simp (disch := omega) only [push_cast, go_sem, zA, simprocAttr]
  exact ⟨_, Sub.rfl, _, ⟨⟨_, rfl⟩, p + 1 + 1, by omega, by omega, rfl⟩, rfl⟩
end
section
open Go.RowKit
theorem specOrderAll_fn (p : Prog) (kind : Int) (hp : p.length < 2 ^ 40) : Fp Tryz.prog 14 [progV p, .int .i64 kind] (.sl ((ordAll p kind).map Sn.V)) := by
 have h1 := specAllF_fn p hp
 have h2 := l13All_fn p kind hp
 rw [progV_eq] at h1 h2
 refine Fc.start (S := []) Tryz.func14 Tryz.ntmps14 Tryz.results14 rfl (by decide) rfl (by kernel_rfl) ?_
 simp (disch := omega) only [push_cast, go_sem, zA, simprocAttr, progV_eq]
 intro g2
 refine Sat.drawnE [] [] (List.range 6) (pureT [(40, .sl ((specAll p).map Exe.V)), (39, .sl ((ordAll p kind).map Sn.V))]) (by kernel_rfl) (by kernel_rfl) ?_
 simp (disch := omega) only [push_cast, go_sem, zA, simprocAttr]
 refine runD_pure rfl h1 rfl rfl ?_ ?_
 ·rfl
 simp (disch := omega) only [push_cast, go_sem, zA, simprocAttr]
 refine runD_pure rfl h2 rfl rfl ?_ ?_
 ·rfl
 simp (disch := omega) only [push_cast, go_sem, zA, simprocAttr]
theorem ord_small {p : Prog} {kind : Int} : ∀ t ∈ ordAll p kind, t.small := by
 rw [ordAll]
 split
 ·exact acc_small (p := p) (kind := kind) (l := specAll p) fun x hx => all_ok (p := p) (x := x) (by rw [all_eq]; exact hx)
 ·exact fun t ht => by cases ht
theorem ord_len (p : Prog) (kind : Int) : (ordAll p kind).length < 2 ^ 30 := by
 rw [ordAll]
 split
 ·have := acc_len p kind (specAll p)
  have := specAll_le p
  rw [accS] at *; omega
 ·simp
end
section
open Go.RowKit
end
section
open Go.RowKit
end
section
open Go.RowKit
end
section
open Go.RowKit
theorem list_eq_drop {α : Type} [BEq α] [LawfulBEq α] {a b : List α} {k : Nat} (hl : a.length = b.length) (h : ∀ (j : Nat) (x y : α), j < k → a[j]? = some x → b[j]? = some y → (x == y) = true) (hk : a.length ≤ k) : a = b := by
 apply List.ext_getElem hl
 intro j h1 h2
 exact beq_iff_eq.1 (h j _ _ (by omega) (List.getElem?_eq_getElem h1) (List.getElem?_eq_getElem h2))
theorem list_ne_at {α : Type} {a b : List α} {k : Nat} {x y : α} (hx : a[k]? = some x) (hy : b[k]? = some y) (h : x ≠ y) : a ≠ b := fun e => by
 rw [e, hy] at hx; cases hx; exact h rfl
theorem lpInts_fn (a b : List Int) (ha : a.length < 2 ^ 40) (hb : b.length < 2 ^ 40) : Fp Tryz.prog 78 [intsV a, intsV b] (.bool (decide (a = b))) := by
  refine Fc.start (S := [8]) Tryz.func78 Tryz.ntmps78 Tryz.results78 rfl (by decide) rfl (by kernel_rfl) ?_
  cases hl : ((a.length : Int) != b.length)
  rotate_left
  · simp (disch := omega) only [push_cast, go_sem, zA, simprocAttr, intsV_eq, hl]
    have : ¬ a = b := fun h => by rw [h] at hl; simp at hl
    simp [this]
  have hl' : a.length = b.length := by have : (a.length : Int) = b.length := by simpa using hl
                                       omega
  simp (disch := omega) only [push_cast, go_sem, zA, simprocAttr, intsV_eq, hl]
  refine Sat.loop (σ := Nat) (fun k => upd (upd (upd noT 0 (.sl (a.map (V.int .i64)))) 1 (.sl (b.map (V.int .i64)))) 5 (.int .i64 k)) (fun _ => noM)
    (fun k => k ≤ a.length ∧ ∀ (j : Nat) (x y : Int), j < k → a[j]? = some x → b[j]? = some y → (x == y) = true) (fun k => a.length - k) 0 (by simp) ?_ ?_
  · (refine zB ?_; repeat (first | exact zC | exact zD | refine zE (by decide) ?_ | refine zF ?_ ?_ | refine zG ?_ ?_)) <;> (try simp (disch := omega) only [push_cast, go_sem, zA, simprocAttr])
  rintro k ⟨hk, hall⟩ J hJ
  refine Sat.of (S := []) (by kernel_rfl) ?_
  rcases Nat.lt_or_ge k a.length with hlt | hge
  · obtain ⟨x, hx⟩ : ∃ x, a[k]? = some x := ⟨_, List.getElem?_eq_getElem hlt⟩
    have hltb : k < b.length := by omega
    obtain ⟨y, hy⟩ : ∃ y, b[k]? = some y := ⟨_, List.getElem?_eq_getElem hltb⟩
    cases hne : (x != y)
    · simp (disch := omega) only [push_cast, go_sem, zA, simprocAttr, hlt]
      refine Sat.drawnE [] [] [3, 7] (fun _ _ _ => none) (by kernel_rfl) (by kernel_rfl) ?_
      simp (disch := omega) only [push_cast, go_sem, zA, simprocAttr, hx, hy, hlt, hltb, hne]
      refine hJ (k + 1) _ _ ⟨by omega, fun j x' y' hj h1 h2 => ?_⟩ (by omega) ?_
      · rcases Nat.lt_or_ge j k with h | h
        · exact hall j x' y' h h1 h2
        · have : j = k := by omega
          subst this; rw [hx] at h1; rw [hy] at h2; cases h1; cases h2
          simpa only [bne, Bool.not_eq_false'] using hne
      · (refine zB ?_; repeat (first | exact zC | exact zD | refine zE (by decide) ?_ | refine zF ?_ ?_ | refine zG ?_ ?_)) <;> (try simp (disch := omega) only [push_cast, go_sem, zA, simprocAttr])
    · simp (disch := omega) only [push_cast, go_sem, zA, simprocAttr, hlt]
      refine Sat.drawnE [] [] [3, 7] (fun _ _ _ => none) (by kernel_rfl) (by kernel_rfl) ?_
      simp (disch := omega) only [push_cast, go_sem, zA, simprocAttr, hx, hy, hlt, hltb, hne]
      have : ¬ a = b := list_ne_at hx hy (by simpa using hne)
      simp [this]
  · have hkl : k = a.length := by omega
    subst hkl
    simp (disch := omega) only [push_cast, go_sem, zA, simprocAttr]
    refine Sat.of (S := []) (by kernel_rfl) ?_
    simp (disch := omega) only [push_cast, go_sem, zA, simprocAttr]
    have : a = b := list_eq_drop hl' hall (Nat.le_refl _)
    simp [this]
instance : DecidableEq Exe := fun x y => decidable_of_iff (x.fr = y.fr ∧ x.od = y.od) (by cases x; cases y; simp)
end
section
open Go.RowKit
end
section
open Go.RowKit
theorem lpSame_fn (s t : Sn) (hs : s.small) (ht : t.small) : Fp Tryz.prog 38 [s.V, t.V] (.bool (decide (s = t))) := by
 have h1 := lpInts_fn s.rd t.rd hs.rd ht.rd
 have h2 := lpInts_fn s.ls t.ls hs.ls ht.ls
 have hst : decide (s = t) = (decide (s.rd = t.rd) && decide (s.ls = t.ls)) := by
  obtain ⟨a, b⟩ := s
  obtain ⟨c, d⟩ := t
  rw [Bool.eq_iff_iff]; simp
 rw [hst]
 rw [intsV_eq, intsV_eq] at h1 h2
 refine Fc.start (S := []) Tryz.func38 Tryz.ntmps38 Tryz.results38 rfl (by decide) rfl (by kernel_rfl) ?_
 simp (disch := omega) only [push_cast, go_sem, zA, simprocAttr, Sn.V_eq]
 intro g2 g3
 refine callR.pure h1 rfl rfl ?_
 cases decide (s.rd = t.rd)
 ·simp (disch := omega) only [push_cast, go_sem, zA, simprocAttr]
 ·simp (disch := omega) only [push_cast, go_sem, zA, simprocAttr]
  refine callR.pure h2 rfl rfl ?_
  simp (disch := omega) only [push_cast, go_sem, zA, simprocAttr]
end
section
open Go.RowKit
theorem lpList_fn (a b : List Sn) (ha : ∀ s ∈ a, s.small) (hb : ∀ s ∈ b, s.small) (hal : a.length < 2 ^ 40) (hbl : b.length < 2 ^ 40) : Fp Tryz.prog 13 [.sl (a.map Sn.V), .sl (b.map Sn.V)] (.bool (decide (a = b))) := by
  refine Fc.start (S := [8]) Tryz.func13 Tryz.ntmps13 Tryz.results13 rfl (by decide) rfl (by kernel_rfl) ?_
  cases hl : ((a.length : Int) != b.length)
  rotate_left
  · simp (disch := omega) only [push_cast, go_sem, zA, simprocAttr, hl]
    have : ¬ a = b := fun h => by rw [h] at hl; simp at hl
    simp [this]
  have hl' : a.length = b.length := by have : (a.length : Int) = b.length := by simpa using hl
                                       omega
  simp (disch := omega) only [push_cast, go_sem, zA, simprocAttr, hl]
  refine Sat.loop (σ := Nat) (fun k => upd (upd (upd noT 0 (.sl (a.map Sn.V))) 1 (.sl (b.map Sn.V))) 5 (.int .i64 k)) (fun _ => noM)
    (fun k => k ≤ a.length ∧ ∀ (j : Nat) (x y : Sn), j < k → a[j]? = some x → b[j]? = some y → (x == y) = true) (fun k => a.length - k) 0 (by simp) ?_ ?_
  · (refine zB ?_; repeat (first | exact zC | exact zD | refine zE (by decide) ?_ | refine zF ?_ ?_ | refine zG ?_ ?_)) <;> (try simp (disch := omega) only [push_cast, go_sem, zA, simprocAttr])
  rintro k ⟨hk, hall⟩ J hJ
  refine Sat.of (S := []) (by kernel_rfl) ?_
  rcases Nat.lt_or_ge k a.length with hlt | hge
  · obtain ⟨x, hx⟩ : ∃ x, a[k]? = some x := ⟨_, List.getElem?_eq_getElem hlt⟩
    have hltb : k < b.length := by omega
    obtain ⟨y, hy⟩ : ∃ y, b[k]? = some y := ⟨_, List.getElem?_eq_getElem hltb⟩
    have hs := lpSame_fn x y (ha x (List.mem_of_getElem? hx)) (hb y (List.mem_of_getElem? hy))
    rw [Sn.V_eq, Sn.V_eq] at hs
    cases he : decide (x = y)
    · rw [he] at hs
      simp (disch := omega) only [push_cast, go_sem, zA, simprocAttr, hlt]
      refine Sat.drawnE [] [] (List.range 10) (pureT [(38, .bool false)]) (by kernel_rfl) (by kernel_rfl) ?_
      simp (disch := omega) only [push_cast, go_sem, zA, simprocAttr, hx, hy, hlt, hltb, Sn.V_eq]
      refine runD_pure rfl hs rfl rfl ?_ ?_
      · rfl
      simp (disch := omega) only [push_cast, go_sem, zA, simprocAttr]
      have : ¬ a = b := list_ne_at hx hy (of_decide_eq_false he)
      simp [this]
    · rw [he] at hs
      simp (disch := omega) only [push_cast, go_sem, zA, simprocAttr, hlt]
      refine Sat.drawnE [] [] (List.range 10) (pureT [(38, .bool true)]) (by kernel_rfl) (by kernel_rfl) ?_
      simp (disch := omega) only [push_cast, go_sem, zA, simprocAttr, hx, hy, hlt, hltb, Sn.V_eq]
      refine runD_pure rfl hs rfl rfl ?_ ?_
      · rfl
      simp (disch := omega) only [push_cast, go_sem, zA, simprocAttr]
      refine hJ (k + 1) _ _ ⟨by omega, fun j x' y' hj h1 h2 => ?_⟩ (by omega) ?_
      · rcases Nat.lt_or_ge j k with h | h
        · exact hall j x' y' h h1 h2
        · have : j = k := by omega
          subst this; rw [hx] at h1; rw [hy] at h2; cases h1; cases h2
          exact beq_iff_eq.2 (of_decide_eq_true he)
      · (refine zB ?_; repeat (first | exact zC | exact zD | refine zE (by decide) ?_ | refine zF ?_ ?_ | refine zG ?_ ?_)) <;> (try simp (disch := omega) only [push_cast, go_sem, zA, simprocAttr])
  · have hkl : k = a.length := by omega
    subst hkl
    simp (disch := omega) only [push_cast, go_sem, zA, simprocAttr]
    refine Sat.of (S := []) (by kernel_rfl) ?_
    simp (disch := omega) only [push_cast, go_sem, zA, simprocAttr]
    have : a = b := list_eq_drop hl' hall (Nat.le_refl _)
    simp [this]
end
section
open Go.RowKit
end
section
open Go.RowKit
def DrawnA (r : V) : Prop := ∃ (p : Prog) (kind : Int), r = .tuple [progV p, .int .i64 kind] ∧ p.length ≤ 3 ∧ (∀ l ∈ p, l.length < 2 ^ 11)
theorem DrawOrderAll_fn (bs : List Int) (hb : Code8 bs) (hl : bs.length < 2 ^ 40) : Fc Tryz.prog 11 [codeV bs] noM (fun r m => DrawnA r ∧ m = noM) := by
 refine Fc.start (S := []) Tryz.func11 Tryz.ntmps11 Tryz.results11 rfl (by decide) rfl (by kernel_rfl) ?_
 simp (disch := omega) only [push_cast, go_sem, zA, simprocAttr, codeV_eq]
 intro g2
 refine callR.new (l6Open_fn bs hl) rfl rfl ?_
 rintro r ob ⟨g, rfl, rfl⟩
 simp (disch := omega) only [push_cast, go_sem, zA, simprocAttr]
 refine callR.rd (l71Any_rd (bs.take 2000) hb.take g 0 (by omega)) rfl rfl rfl ?_
 rintro r o' ⟨x, rfl, hx1, hx2, q, hq1, hq2, rfl⟩
 simp (disch := omega) only [push_cast, go_sem, zA, simprocAttr, progV_eq]
 refine callR.rd (l71Kind_pl (bs.take 2000) hb.take g q (by omega)) rfl rfl rfl ?_
 rintro r o' ⟨⟨kind, rfl⟩, q1, hq3, hq4, rfl⟩
 simp (disch := omega) only [push_cast, go_sem, zA, simprocAttr]
 exact ⟨x, kind, rfl, hx1, hx2⟩
end
section
open Go.RowKit
theorem at_ds {p : Prog} {a i j : Nat} {e : Evt} {l : List Do} {d : Do} (h : At p a e i l j d) : dsA p a = d := by
 rw [dsA, scene_get h.ev, h.st]; rfl
theorem dsA_mem {p : Prog} {a : Nat} (ha : a < (events p).length) : ∃ l ∈ p, dsA p a ∈ l := by
 obtain ⟨i, l, j, d, h⟩ := At.of (List.getElem?_eq_getElem ha)
 exact ⟨l, List.mem_of_getElem? h.pl, by rw [at_ds h]; exact List.mem_of_getElem? h.ld⟩
end
section
open Go.RowKit
section
variable {p1 p2 : Prog} {l : List Do}
end
end
section
open Go.RowKit
end
section
open Go.RowKit
def cntT (k : Int) (l : List Do) : Nat := (l.filter fun d => d.k == k).length
def cntP (k : Int) (p : Prog) : Nat := (p.map (cntT k)).sum
def swT (k to : Int) : List Do → Int → List Do
 | [], _ => []
 | d :: l, n => if d.k == k then (if n == 0 then ⟨to, d.p, d.v⟩ else d) :: swT k to l (n - 1) else d :: swT k to l n
def swP (k to : Int) : Prog → Int → Prog
 | [], _ => []
 | l :: p, n => swT k to l n :: swP k to p (n - cntT k l)
theorem cntT_le (k : Int) (l : List Do) : cntT k l ≤ l.length := List.length_filter_le _ _
theorem cntT_app (k : Int) (a b : List Do) : cntT k (a ++ b) = cntT k a + cntT k b := by simp [cntT]
theorem cntP_app (k : Int) (a b : Prog) : cntP k (a ++ b) = cntP k a + cntP k b := by simp [cntP]
theorem cntT_yes {k : Int} {l : List Do} {i : Nat} {d : Do} (hd : l[i]? = some d) (h : (d.k == k) = true) : cntT k (l.take (i + 1)) = cntT k (l.take i) + 1 := by
 rw [take_get hd, cntT_app]; simp [cntT, h]
theorem cntT_no {k : Int} {l : List Do} {i : Nat} {d : Do} (hd : l[i]? = some d) (h : (d.k == k) = false) : cntT k (l.take (i + 1)) = cntT k (l.take i) := by
 rw [take_get hd, cntT_app]; simp [cntT, h]
theorem cntP_get {k : Int} {p : Prog} {i : Nat} {l : List Do} (hl : p[i]? = some l) : cntP k (p.take (i + 1)) = cntP k (p.take i) + cntT k l := by
 rw [take_get hl, cntP_app]; simp [cntP]
theorem cntP_le {k : Int} {p : Prog} (h : ∀ l ∈ p, l.length < 2 ^ 11) : ∀ i, cntP k (p.take i) ≤ 2 ^ 11 * i := by
 intro i
 induction i with
 | zero => simp [cntP]
 | succ i ih =>
  cases hl : p[i]? with
  | none =>
   have : p.length ≤ i := by rwa [List.getElem?_eq_none_iff] at hl
   rw [List.take_of_length_le (by omega)] at ih ⊢
   omega
  | some l =>
   rw [cntP_get hl]
   have := cntT_le k l
   have := h l (List.mem_of_getElem? hl)
   omega
theorem swT_len (k to : Int) : ∀ (l : List Do) (n : Int), (swT k to l n).length = l.length
 | [], _ => rfl
 | d :: l, n => by
  rw [swT]
  split
  ·rw [List.length_cons, List.length_cons, swT_len k to l]
  ·rw [List.length_cons, List.length_cons, swT_len k to l]
theorem swT_app (k to : Int) : ∀ (a b : List Do) (n : Int), swT k to (a ++ b) n = swT k to a n ++ swT k to b (n - cntT k a)
 | [], b, n => by simp [swT, cntT]
 | d :: a, b, n => by
  rw [List.cons_append, swT, swT]
  by_cases h : (d.k == k) = true
  ·rw [if_pos h, if_pos h, swT_app k to a b, List.cons_append]
   have : cntT k (d :: a) = cntT k a + 1 := by simp [cntT, h]
   rw [this, show n - 1 - (cntT k a : Int) = n - ((cntT k a + 1 : Nat) : Int) by omega]
  ·rw [if_neg h, if_neg h, swT_app k to a b, List.cons_append]
   have : cntT k (d :: a) = cntT k a := by simp [cntT, h]
   rw [this]
theorem swP_app (k to : Int) : ∀ (a b : Prog) (n : Int), swP k to (a ++ b) n = swP k to a n ++ swP k to b (n - cntP k a)
 | [], b, n => by simp [swP, cntP]
 | l :: a, b, n => by
  rw [List.cons_append, swP, swP, swP_app k to a b, List.cons_append]
  have : cntP k (l :: a) = cntT k l + cntP k a := by simp [cntP]
  rw [this, show n - (cntT k l : Int) - (cntP k a : Int) = n - ((cntT k l + cntP k a : Nat) : Int) by omega]
def swK (k to : Int) (l : List Do) (n : Int) (i : Nat) : List Do := swT k to (l.take i) n ++ l.drop i
theorem swK_at {k to : Int} {l : List Do} {n : Int} {i : Nat} {d : Do} (hd : l[i]? = some d) : (swK k to l n i)[i]? = some d := by
 have hi := (List.getElem?_eq_some_iff.1 hd).1
 rw [swK, List.getElem?_append_right (by rw [swT_len, List.length_take]; omega), swT_len, List.length_take, Nat.min_eq_left (by omega), Nat.sub_self, List.getElem?_drop, Nat.add_zero]
 exact hd
theorem swK_len {k to : Int} {l : List Do} {n : Int} {i : Nat} : (swK k to l n i).length = l.length := by
 rw [swK, List.length_append, swT_len, List.length_take, List.length_drop]; omega
theorem swK_no {k to : Int} {l : List Do} {n : Int} {i : Nat} {d : Do} (hd : l[i]? = some d) (h : (d.k == k) = false ∨ ((n - cntT k (l.take i) == 0) = false)) : swK k to l n (i + 1) = swK k to l n i := by
 rw [swK, swK, take_get hd, swT_app, drop_get hd, List.append_assoc]
 congr 1
 rw [swT]
 split
 ·rename_i h'
  rw [h'] at h
  rw [h.resolve_left (by simp)]
  simp [swT]
 ·simp [swT]
theorem swK_yes {k to : Int} {l : List Do} {n : Int} {i : Nat} {d : Do} (hd : l[i]? = some d) (h : (d.k == k) = true) (h2 : (n - cntT k (l.take i) == 0) = true) : swK k to l n (i + 1) = (swK k to l n i).set i ⟨to, d.p, d.v⟩ := by
 have hi := (List.getElem?_eq_some_iff.1 hd).1
 rw [swK, swK, take_get hd, swT_app, drop_get hd, List.append_assoc, List.set_append_right _ _ (by rw [swT_len, List.length_take]; omega), swT_len, List.length_take, Nat.min_eq_left (by omega), Nat.sub_self]
 congr 1
 rw [swT, if_pos h, if_pos h2]
 simp [swT]
theorem map_set_modify (l : List Do) (i : Nat) (to : Int) (d : Do) (hd : l[i]? = some d) : (l.map Do.V).modify i (fun x => x.setC 0 (.int .i64 to)) = (l.set i ⟨to, d.p, d.v⟩).map Do.V := by
 apply List.ext_getElem?
 intro j
 rw [List.getElem?_modify, List.getElem?_map, List.getElem?_map, List.getElem?_set]
 by_cases h : i = j
 ·subst h
  obtain ⟨hi, rfl⟩ := List.getElem?_eq_some_iff.1 hd
  simp [hi, Do.V, V.setC]
 ·simp [h]
def swR (p : Prog) (k to n : Int) : Prog × Bool := if cntP k p = 0 then (p, false) else (swP k to p (n.tmod (cntP k p)), progOk (swP k to p (n.tmod (cntP k p))))
theorem lpSwap_fn (p : Prog) (k to n : Int) (hp : p.length < 2 ^ 20) (hl : ∀ l ∈ p, l.length < 2 ^ 11) (h0 : 0 ≤ n) (hn : n < 2 ^ 40) : Fp Tryz.prog 25 [progV p, .int .i64 k, .int .i64 to, .int .i64 n] (.tuple [progV (swR p k to n).1, .bool (swR p k to n).2]) := by
 have hcl := cntP_le (k := k) hl
 refine Fc.start (S := [10]) Tryz.func25 Tryz.ntmps25 Tryz.results25 rfl (by decide) rfl (by kernel_rfl) ?_
 simp (disch := omega) only [push_cast, go_sem, zA, simprocAttr, progV_eq]
 intro g4 g8
 refine Sat.loop (σ := Nat) (fun i => upd (upd (upd (upd (upd (upd (upd (upd noT 1 (.int .i64 k)) 2 (.int .i64 to)) 3 (.int .i64 n)) 4 (.ptr 4 [] 0 0 g4 1)) 8 (.ptr 8 [] 0 0 g8 1)) 9 (.bool false)) 10 (.int .i64 (cntP k (p.take i)))) 11 (.int .i64 i))
  (fun _ => (noM.set 4 (boxP p g4)).set 8 (.own 25 (some g8) 1 [.agg [.own 0 none 0 []]])) (fun i => i ≤ p.length) (fun i => p.length - i) 0 (by simp) ?_ ?_
 ·(refine zB ?_; repeat (first | exact zC | exact zD | refine zE (by decide) ?_ | refine zF ?_ ?_ | refine zG ?_ ?_)) <;> (try simp (disch := omega) only [push_cast, go_sem, zA, simprocAttr])
  all_goals simp [cntP, boxP]
 rintro i hi J hJ
 refine Sat.of (S := []) (by kernel_rfl) ?_
 have hci := hcl i
 rcases Nat.lt_or_ge i p.length with hlt | hge
 ·obtain ⟨l, he⟩ : ∃ l, p[i]? = some l := ⟨_, List.getElem?_eq_getElem hlt⟩
  have hll := hl l (List.mem_of_getElem? he)
  simp (disch := omega) only [push_cast, go_sem, zA, simprocAttr, he, hlt, boxP_eq, thrV_eq]
  refine Sat.loop (σ := Nat) (fun j => upd (upd (upd (upd (upd (upd (upd (upd (upd noT 1 (.int .i64 k)) 2 (.int .i64 to)) 3 (.int .i64 n)) 4 (.ptr 4 [] 0 0 g4 1)) 8 (.ptr 8 [] 0 0 g8 1)) 9 (.bool false)) 10 (.int .i64 (cntP k (p.take i) + cntT k (l.take j) : Nat))) 11 (.int .i64 i)) 12 (.int .i64 j))
   (fun _ => (noM.set 4 (boxP p g4)).set 8 (.own 25 (some g8) 1 [.agg [.own 0 none 0 []]])) (fun j => j ≤ l.length) (fun j => l.length - j) 0 (by simp) ?_ ?_
  ·(refine zB ?_; repeat (first | exact zC | exact zD | refine zE (by decide) ?_ | refine zF ?_ ?_ | refine zG ?_ ?_)) <;> (try simp (disch := omega) only [push_cast, go_sem, zA, simprocAttr])
   all_goals simp [cntT, boxP]
  rintro j hj J2 hJ2
  refine Sat.of (S := []) (by kernel_rfl) ?_
  have hct := cntT_le k (l.take j)
  rw [List.length_take] at hct
  rcases Nat.lt_or_ge j l.length with hlj | hgj
  ·obtain ⟨d, hd⟩ : ∃ d, l[j]? = some d := ⟨_, List.getElem?_eq_getElem hlj⟩
   cases hk : (d.k == k)
   ·have := cntT_no hd hk
    simp (disch := omega) only [push_cast, go_sem, zA, simprocAttr, he, hlt, hd, hlj, boxP_eq, thrV_eq, Do.V_eq, hk]
    refine hJ2 (j + 1) _ _ (by omega) (by omega) ?_
    rw [this]
    (refine zB ?_; repeat (first | exact zC | exact zD | refine zE (by decide) ?_ | refine zF ?_ ?_ | refine zG ?_ ?_)) <;> (try simp (disch := omega) only [push_cast, go_sem, zA, simprocAttr])
    rfl
   ·have := cntT_yes hd hk
    simp (disch := omega) only [push_cast, go_sem, zA, simprocAttr, he, hlt, hd, hlj, boxP_eq, thrV_eq, Do.V_eq, hk]
    refine hJ2 (j + 1) _ _ (by omega) (by omega) ?_
    rw [this]
    (refine zB ?_; repeat (first | exact zC | exact zD | refine zE (by decide) ?_ | refine zF ?_ ?_ | refine zG ?_ ?_)) <;> (try simp (disch := omega) only [push_cast, go_sem, zA, simprocAttr])
    ·rfl
    ·omega
  ·have : j = l.length := by omega
   subst this
   have hcp := cntP_get (k := k) he
   rw [List.take_length]
   simp (disch := omega) only [push_cast, go_sem, zA, simprocAttr, he, hlt, boxP_eq, thrV_eq]
   refine hJ (i + 1) _ _ (by omega) (by omega) ?_
   rw [hcp]
   (refine zB ?_; repeat (first | exact zC | exact zD | refine zE (by decide) ?_ | refine zF ?_ ?_ | refine zG ?_ ?_)) <;> (try simp (disch := omega) only [push_cast, go_sem, zA, simprocAttr])
   rfl
 ·have : i = p.length := by omega
  subst this
  rw [List.take_length] at hci ⊢
  simp (disch := omega) only [push_cast, go_sem, zA, simprocAttr, boxP_eq]
  by_cases hc : cntP k p = 0
  ·have hc' : ((cntP k p : Int) == 0) = true := by simp [hc]
   have hz : ((cntP k p : Nat) : Int) = 0 := by omega
   refine Sat.of (S := []) (by kernel_rfl) ?_
   simp (disch := omega) only [push_cast, go_sem, zA, simprocAttr, boxP_eq, hc', hz]
   rw [swR, if_pos hc]
  have hc' : ((cntP k p : Int) == 0) = false := by simp; omega
  have hz : ¬ ((cntP k p : Nat) : Int) = 0 := by omega
  refine Sat.of (S := [26]) (by kernel_rfl) ?_
  obtain ⟨m, hm⟩ : ∃ m : Int, n.tmod (cntP k p) = m := ⟨_, rfl⟩
  have hm0 : 0 ≤ m := by rw [← hm]; exact Int.tmod_nonneg _ h0
  have hm1 : m < cntP k p := by rw [← hm]; exact Int.tmod_lt_of_pos _ (by omega)
  simp (disch := omega) only [push_cast, go_sem, zA, simprocAttr, boxP_eq, hc', hz, hm]
  intro g13
  refine Sat.loop (σ := BoxO × Nat) (fun x => upd (upd (upd (upd (upd (upd (upd (upd noT 1 (.int .i64 k)) 2 (.int .i64 to)) 3 (.int .i64 (m - cntP k (p.take x.2)))) 4 (.ptr 4 [] 0 0 g4 1)) 8 (.ptr 8 [] 0 0 g8 1)) 9 (.bool false)) 13 (.ptr 13 [] 0 0 g13 1)) 14 (.int .i64 x.2))
   (fun x => ((noM.set 4 (boxP p g4)).set 8 (.own 25 (some g8) 1 [.agg [.own 0 none 0 []]])).set 13 (x.1.V g13))
   (fun x => x.2 ≤ p.length ∧ x.1.p = swP k to (p.take x.2) m ∧ (x.1.γ = none ∨ x.1.e = 38)) (fun x => p.length - x.2) (⟨0, none, 0, []⟩, 0) (by simp [BoxO.p, swP]) ?_ ?_
  ·(refine zB ?_; repeat (first | exact zC | exact zD | refine zE (by decide) ?_ | refine zF ?_ ?_ | refine zG ?_ ?_)) <;> (try simp (disch := omega) only [push_cast, go_sem, zA, simprocAttr])
   all_goals simp [cntP, boxP, BoxO.V]
  rintro ⟨x, i⟩ ⟨k1, k2, k3⟩ J3 hJ3
  refine Sat.of (S := []) (by kernel_rfl) ?_
  simp only at k1 k2 k3 hJ3
  have hci := hcl i
  have hxl : x.xs.length = i := by
   have := congrArg List.length k2
   have sl : ∀ (q : Prog) (z : Int), (swP k to q z).length = q.length := by
    intro q
    induction q with
    | nil => intro z; rfl
    | cons l q ih => intro z; rw [swP, List.length_cons, List.length_cons, ih]
   rw [sl, List.length_take] at this
   simp [BoxO.p] at this
   omega
  rcases Nat.lt_or_ge i p.length with hlt | hge
  ·obtain ⟨l, he⟩ : ∃ l, p[i]? = some l := ⟨_, List.getElem?_eq_getElem hlt⟩
   have hll := hl l (List.mem_of_getElem? he)
   have hcl' := cntT_le k l
   simp (disch := omega) only [push_cast, go_sem, zA, simprocAttr, he, hlt, boxP_eq, thrV_eq]
   refine fun g15 => ⟨by omega, fun γ c hγ => ?_⟩
   refine Sat.loop (σ := Nat) (fun j => upd (upd (upd (upd (upd (upd (upd (upd (upd (upd noT 1 (.int .i64 k)) 2 (.int .i64 to)) 3 (.int .i64 (m - cntP k (p.take i) - cntT k (l.take j)))) 4 (.ptr 4 [] 0 0 g4 1)) 8 (.ptr 8 [] 0 0 g8 1)) 9 (.bool false)) 13 (.ptr 13 [] 0 0 g13 1)) 14 (.int .i64 i)) 15 (.msl 15 [] γ l.length c)) 16 (.int .i64 j))
    (fun j => (((noM.set 4 (boxP p g4)).set 8 (.own 25 (some g8) 1 [.agg [.own 0 none 0 []]])).set 13 (x.V g13)).set 15 (.own 40 γ c ((swK k to l (m - cntP k (p.take i)) j).map Do.V)))
    (fun j => j ≤ l.length) (fun j => l.length - j) 0 (by simp) ?_ ?_
   ·(refine zB ?_; repeat (first | exact zC | exact zD | refine zE (by decide) ?_ | refine zF ?_ ?_ | refine zG ?_ ?_)) <;> (try simp (disch := omega) only [push_cast, go_sem, zA, simprocAttr])
    all_goals simp [cntT, swK, swT, boxP]
   rintro j hj J4 hJ4
   refine Sat.of (S := []) (by kernel_rfl) ?_
   have hct := cntT_le k (l.take j)
   rw [List.length_take] at hct
   rcases Nat.lt_or_ge j l.length with hlj | hgj
   ·obtain ⟨d, hd⟩ : ∃ d, l[j]? = some d := ⟨_, List.getElem?_eq_getElem hlj⟩
    have hsw := swK_at (k := k) (to := to) (n := m - cntP k (p.take i)) hd
    have hsl := swK_len (k := k) (to := to) (l := l) (n := m - cntP k (p.take i)) (i := j)
    cases hγ' : γ with
    | none => rw [hγ'] at hγ; have := hγ rfl; simp at this; subst this; simp at hlj
    | some g =>
    cases hk : (d.k == k)
    ·have h1 := cntT_no hd hk
     have h2 := swK_no (to := to) (n := m - cntP k (p.take i)) hd (.inl hk)
     simp (disch := omega) only [push_cast, go_sem, zA, simprocAttr, hsw, hsl, hlj, Do.V_eq, hk]
     refine hJ4 (j + 1) _ _ (by omega) (by omega) ?_
     rw [h1, h2, hγ']
     (refine zB ?_; repeat (first | exact zC | exact zD | refine zE (by decide) ?_ | refine zF ?_ ?_ | refine zG ?_ ?_)) <;> (try simp (disch := omega) only [push_cast, go_sem, zA, simprocAttr])
    ·have h1 := cntT_yes hd hk
     cases hz2 : (m - cntP k (p.take i) - cntT k (l.take j) == 0)
     ·have h2 := swK_no (to := to) (n := m - cntP k (p.take i)) hd (.inr hz2)
      simp (disch := omega) only [push_cast, go_sem, zA, simprocAttr, hsw, hsl, hlj, Do.V_eq, hk, hz2]
      refine hJ4 (j + 1) _ _ (by omega) (by omega) ?_
      rw [h1, h2, hγ']
      (refine zB ?_; repeat (first | exact zC | exact zD | refine zE (by decide) ?_ | refine zF ?_ ?_ | refine zG ?_ ?_)) <;> (try simp (disch := omega) only [push_cast, go_sem, zA, simprocAttr])
      omega
     ·have h2 := swK_yes (to := to) (n := m - cntP k (p.take i)) hd hk hz2
      simp (disch := omega) only [push_cast, go_sem, zA, simprocAttr, hsw, hsl, hlj, Do.V_eq, hk, hz2]
      refine hJ4 (j + 1) _ _ (by omega) (by omega) ?_
      rw [h1, h2, hγ', ← map_set_modify _ _ _ _ hsw]
      (refine zB ?_; repeat (first | exact zC | exact zD | refine zE (by decide) ?_ | refine zF ?_ ?_ | refine zG ?_ ?_)) <;> (try simp (disch := omega) only [push_cast, go_sem, zA, simprocAttr])
      omega
   ·have : j = l.length := by omega
    subst this
    rw [List.take_length]
    have k3' : (x.γ = none ∨ x.e = 38) = True := by simp only [k3]
    have hsl := swK_len (k := k) (to := to) (l := l) (n := m - cntP k (p.take i)) (i := l.length)
    have hcp := cntP_get (k := k) he
    cases hfl : (V.own 40 γ c ((swK k to l (m - cntP k (p.take i)) l.length).map Do.V)).flatC <;> simp (disch := omega) only [push_cast, go_sem, zA, simprocAttr, BoxO.V_eq, k3', hsl, hfl]
    all_goals
     intro g93
     refine ⟨by omega, fun γ2 c2 _ => ?_⟩
     refine hJ3 (⟨38, γ2, c2, x.xs ++ [⟨γ, c, swK k to l (m - cntP k (p.take i)) l.length⟩]⟩, i + 1) _ _ ⟨by dsimp only; omega, ?_, .inr rfl⟩ (by dsimp only; omega) ?_
     ·dsimp only
      have h5 : BoxO.p ⟨38, γ2, c2, x.xs ++ [⟨γ, c, swK k to l (m - cntP k (p.take i)) l.length⟩]⟩ = x.p ++ [swK k to l (m - cntP k (p.take i)) l.length] := by simp [BoxO.p]
      rw [h5, k2, take_get he, swP_app, swP, swP, swK, List.take_length, List.drop_length, List.append_nil]
     ·dsimp only
      rw [hcp]
      (refine zB ?_; repeat (first | exact zC | exact zD | refine zE (by decide) ?_ | refine zF ?_ ?_ | refine zG ?_ ?_)) <;> (try simp (disch := omega) only [push_cast, go_sem, zA, simprocAttr])
      all_goals first | rfl | omega | simp [BoxO.V, RowO.V]
  ·have : i = p.length := by omega
   subst this
   rw [List.take_length] at k2
   simp (disch := omega) only [push_cast, go_sem, zA, simprocAttr, boxP_eq]
   refine Sat.freezeC 13 [] 0 0 (n0 := x.V g13) (d := .own x.e x.γ x.c (x.xs.map RowO.V)) rfl rfl rfl ?_
   rw [fz_box, k2]
   have sl : ∀ (q : Prog) (z : Int), (swP k to q z).length = q.length := by
    intro q
    induction q with
    | nil => intro z; rfl
    | cons l q ih => intro z; rw [swP, List.length_cons, List.length_cons, ih]
   have hok := specProgOk_fn (swP k to p m) (by rw [sl]; omega)
   rw [progV_eq] at hok
   refine Sat.of (S := []) (by kernel_rfl) ?_
   refine Sat.drawnE [(3, 0), (3, 1)] [] [0, 1, 2, 4] (pureT [(16, .bool (progOk (swP k to p m)))]) (by kernel_rfl) (by kernel_rfl) ?_
   simp (disch := omega) only [push_cast, go_sem, zA, simprocAttr, BoxO.V_eq]
   refine runD_pure rfl hok rfl rfl ?_ ?_
   ·rfl
   simp (disch := omega) only [push_cast, go_sem, zA, simprocAttr]
   rw [swR, if_neg hc, hm]
theorem swT_neg {k to : Int} : ∀ {l : List Do} {n : Int}, n < 0 → swT k to l n = l
 | [], _, _ => rfl
 | d :: l, n, h => by
  have e : (n == 0) = false := by simp; omega
  rw [swT, e, swT_neg (n := n - 1) (by omega), swT_neg h]
  simp
theorem swP_neg {k to : Int} : ∀ {p : Prog} {n : Int}, n < 0 → swP k to p n = p
 | [], _, _ => rfl
 | l :: p, n, h => by rw [swP, swT_neg h, swP_neg (by omega)]
theorem swT_split {k to : Int} : ∀ {l : List Do} {n : Int}, 0 ≤ n → (n < cntT k l ∧ ∃ l1 d l2, l = l1 ++ d :: l2 ∧ d.k = k ∧ swT k to l n = l1 ++ ⟨to, d.p, d.v⟩ :: l2) ∨ ((cntT k l : Int) ≤ n ∧ swT k to l n = l)
 | [], n, h => .inr ⟨by simp [cntT]; omega, rfl⟩
 | d :: l, n, h => by
  by_cases hd : (d.k == k) = true
  ·have hc : cntT k (d :: l) = cntT k l + 1 := by simp [cntT, hd]
   by_cases h0 : n = 0
   ·left
    subst h0
    refine ⟨by omega, [], d, l, rfl, by simpa using hd, ?_⟩
    rw [swT, if_pos hd, swT_neg (by omega)]; rfl
   ·have e : (n == 0) = false := by simpa using h0
    rcases swT_split (k := k) (to := to) (l := l) (n := n - 1) (by omega) with ⟨h1, l1, d', l2, rfl, h3, h4⟩ | ⟨h1, h2⟩
    ·exact .inl ⟨by omega, d :: l1, d', l2, rfl, h3, by rw [swT, if_pos hd, e, h4]; rfl⟩
    ·exact .inr ⟨by omega, by rw [swT, if_pos hd, e, h2]; rfl⟩
  ·have hc : cntT k (d :: l) = cntT k l := by simp [cntT, hd]
   rcases swT_split (k := k) (to := to) (l := l) (n := n) h with ⟨h1, l1, d', l2, rfl, h3, h4⟩ | ⟨h1, h2⟩
   ·exact .inl ⟨by omega, d :: l1, d', l2, rfl, h3, by rw [swT, if_neg hd, h4]; rfl⟩
   ·exact .inr ⟨by omega, by rw [swT, if_neg hd, h2]⟩
theorem swP_split {k to : Int} : ∀ {p : Prog} {n : Int}, 0 ≤ n → n < cntP k p → ∃ p1 l1 d l2 p2, p = p1 ++ (l1 ++ d :: l2) :: p2 ∧ d.k = k ∧ swP k to p n = p1 ++ (l1 ++ ⟨to, d.p, d.v⟩ :: l2) :: p2
 | [], n, h, h' => by simp [cntP] at h'; omega
 | l :: p, n, h, h' => by
  have hc : cntP k (l :: p) = cntT k l + cntP k p := by simp [cntP]
  rcases swT_split (k := k) (to := to) (l := l) h with ⟨h1, l1, d, l2, rfl, h3, h4⟩ | ⟨h1, h2⟩
  ·exact ⟨[], l1, d, l2, p, rfl, h3, by rw [swP, h4, swP_neg (by omega)]; rfl⟩
  ·obtain ⟨p1, l1, d, l2, p2, rfl, h3, h4⟩ := swP_split (k := k) (to := to) (p := p) (n := n - cntT k l) (by omega) (by omega)
   exact ⟨l :: p1, l1, d, l2, p2, rfl, h3, by rw [swP, h2, h4]; rfl⟩
theorem swR_split {p : Prog} {k to n : Int} (h0 : 0 ≤ n) (h : (swR p k to n).2 = true) : ∃ p1 l1 d l2 p2, p = p1 ++ (l1 ++ d :: l2) :: p2 ∧ d.k = k ∧ (swR p k to n).1 = p1 ++ (l1 ++ ⟨to, d.p, d.v⟩ :: l2) :: p2 ∧ progOk (swR p k to n).1 = true := by
 rw [swR] at h ⊢
 split at h
 ·cases h
 ·rename_i hc
  rw [if_neg hc]
  have hpos : (0 : Int) < ((cntP k p : Nat) : Int) := by omega
  obtain ⟨p1, l1, d, l2, p2, h1, h2, h3⟩ := swP_split (k := k) (to := to) (p := p) (n := n.tmod (cntP k p)) (Int.tmod_nonneg _ h0) (Int.tmod_lt_of_pos _ hpos)
  exact ⟨p1, l1, d, l2, p2, h1, h2, h3, h⟩
theorem swR_len {p : Prog} {k to n : Int} (h0 : 0 ≤ n) (hp : p.length ≤ 3) (hl : ∀ l ∈ p, l.length < 2 ^ 11) : (swR p k to n).1.length ≤ 3 ∧ ∀ l ∈ (swR p k to n).1, l.length < 2 ^ 11 := by
 rw [swR]
 split
 ·exact ⟨hp, hl⟩
 ·rename_i hc
  have hpos : (0 : Int) < ((cntP k p : Nat) : Int) := by omega
  obtain ⟨p1, l1, d, l2, p2, rfl, h2, h3⟩ := swP_split (k := k) (to := to) (p := p) (n := n.tmod (cntP k p)) (Int.tmod_nonneg _ h0) (Int.tmod_lt_of_pos _ hpos)
  dsimp only
  rw [h3]
  refine ⟨by simp at hp ⊢; omega, fun l h => ?_⟩
  rcases List.mem_append.1 h with h | h
  ·exact hl l (by simp [h])
  ·rcases List.mem_cons.1 h with rfl | h
   ·have := hl (l1 ++ d :: l2) (by simp)
    simp at this ⊢; omega
   ·exact hl l (by simp [h])
end
end Go.Proofs.YtkdolbffabmemaaGreatDoor
