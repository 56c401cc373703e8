/-
 Contracts and plain laws.
-/
import Derived.Test.YtkdolbffabmemaaGreatDoorKc
import Derived.Test.YtkdolbffabmemaaGreatDoorKd
import Derived.Test.YtkdolbffabmemaaGreatDoorKf
import Derived.Test.YtkdolbffabmemaaGreatDoorKh
import Derived.Test.YtkdolbffabmemaaGreatDoorKi
import Derived.Test.YtkdolbffabmemaaGreatDoorKj
set_option linter.unusedSimpArgs false
set_option linter.unusedVariables false
set_option linter.unusedSectionVars false
namespace Go.Proofs.YtkdolbffabmemaaGreatDoor
section
open Go.RowKit
theorem places {p : Prog} (h : progOk p = true) : ∀ d ∈ (scene p).ds, d.uses = true → 0 ≤ d.p ∧ d.p < 3 := fun d hd hu => by
 have := formed_place (scene_formed h d hd) hu; omega
theorem within_of {p q : Prog} {f : Nat → Nat} (h : PE p q f) (hk : PEk p q f) (hnu : ∀ j, j < (events q).length → (∃ i, i < (events p).length ∧ f i = j) ∨ (dsA q j).uses = false) {k : Int} {s : Sn} (hs : s ∈ ordAll q k) : s ∈ ordAll p k := by
 obtain ⟨_, hki, y, hy, hh, rfl⟩ := mem_ordW.1 hs
 have him : ∀ (j : Nat) (d' : Do), (scene q).ds[j]? = some d' → d'.uses = true → ∃ i, i < (scene p).ds.length ∧ f i = j := by
  intro j d' hd hu
  have hj : j < (events q).length := by rw [← scene_n]; exact (List.getElem?_eq_some_iff.1 hd).1
  have := ds_at hj
  rw [hd] at this
  rcases hnu j hj with h1 | h1
  ·rw [scene_n]; exact h1
  ·rw [← Option.some.inj this, hu] at h1; cases h1
 obtain ⟨x, hx, m, ho⟩ := restrict h.e (scene_copy h.okp) hy (places h.okp) fun j d' hd hw => .inl (him j d' hd (uses_or.2 (.inr hw)))
 exact mem_ordW.2 ⟨h.okp, hki, x, hx, hh.back h hk m hx, (m.seen h.e hx (ho fun j d' hd hw => him j d' hd (uses_or.2 (.inr hw))) fun j d' hd hr => him j d' hd (uses_or.2 (.inl hr))).symm⟩
theorem Em.hnu {p q : Prog} {f : Nat → Nat} {R : Fra → Fra → Prop} {N : Fra → Prop} (h : Em R N (evF 0 p) (evF 0 q) f) (hN : ∀ y, N y → y.d.uses = false) : ∀ j, j < (events q).length → (∃ i, i < (events p).length ∧ f i = j) ∨ (dsA q j).uses = false := by
 intro j hj
 obtain ⟨y, hy⟩ := F_at hj
 rcases h.2.2 j y hy with h1 | h1
 ·rw [evF_len] at h1; exact .inl h1
 ·right; rw [(F_get hy).2.2.2.2.1]; exact hN y h1
def KLe (x y : Fra) : Prop := (wallB x.d = true → wallB y.d = true) ∧ (x.d.k = 5 → y.d.k = 5) ∧ (x.d.k = 6 → y.d.k = 6)
theorem PEk.of {p q : Prog} {f : Nat → Nat} (h : ∀ i x, (evF 0 p)[i]? = some x → ∃ y, (evF 0 q)[f i]? = some y ∧ KLe x y) : PEk p q f := by
 have key : ∀ i, i < (events p).length → ∃ x y, dsA p i = x.d ∧ dsA q (f i) = y.d ∧ KLe x y := by
  intro i hi
  obtain ⟨x, hx⟩ := F_at hi
  obtain ⟨y, hy, hl⟩ := h i x hx
  exact ⟨x, y, (F_get hx).2.2.2.2.1, (F_get hy).2.2.2.2.1, hl⟩
 exact ⟨fun i hi => by obtain ⟨x, y, h1, h2, h3⟩ := key i hi; rw [h1, h2]; exact h3.1, fun i hi => by obtain ⟨x, y, h1, h2, h3⟩ := key i hi; rw [h1, h2]; exact h3.2.1, fun i hi => by obtain ⟨x, y, h1, h2, h3⟩ := key i hi; rw [h1, h2]; exact h3.2.2⟩
theorem PEk'.of {p q : Prog} {f : Nat → Nat} (h : ∀ i x, (evF 0 p)[i]? = some x → ∃ y, (evF 0 q)[f i]? = some y ∧ KLe y x) : PEk' p q f := by
 have key : ∀ i, i < (events p).length → ∃ x y, dsA p i = x.d ∧ dsA q (f i) = y.d ∧ KLe y x := by
  intro i hi
  obtain ⟨x, hx⟩ := F_at hi
  obtain ⟨y, hy, hl⟩ := h i x hx
  exact ⟨x, y, (F_get hx).2.2.2.2.1, (F_get hy).2.2.2.2.1, hl⟩
 exact ⟨fun i hi => by obtain ⟨x, y, h1, h2, h3⟩ := key i hi; rw [h1, h2]; exact h3.1, fun i hi => by obtain ⟨x, y, h1, h2, h3⟩ := key i hi; rw [h1, h2]; exact h3.2.1, fun i hi => by obtain ⟨x, y, h1, h2, h3⟩ := key i hi; rw [h1, h2]; exact h3.2.2⟩
theorem KLe.refl (x : Fra) : KLe x x := ⟨id, id, id⟩
structure Swp (d d' : Do) : Prop where
 s : Sim d d'
 k : (d.k = 2 ∧ d'.k = 5) ∨ (d.k = 1 ∧ d'.k = 6)
theorem Swp.of {d : Do} {to : Int} (h : (d.k = 2 ∧ to = 5) ∨ (d.k = 1 ∧ to = 6)) : Swp d ⟨to, d.p, d.v⟩ := by
 rcases h with ⟨h1, rfl⟩ | ⟨h1, rfl⟩
 ·exact ⟨⟨by simp [Do.reads, h1], by simp [Do.writes, h1], rfl, rfl, by simp [h1]⟩, .inl ⟨h1, rfl⟩⟩
 ·exact ⟨⟨by simp [Do.reads, h1], by simp [Do.writes, h1], rfl, rfl, by simp [h1]⟩, .inr ⟨h1, rfl⟩⟩
theorem Swp.formed {d d' : Do} (h : Swp d d') : d'.formed = d.formed := by
 have h1 := h.s.uses
 have h2 := h.s.valued
 have e1 : inB d'.k 1 9 = true := by rcases h.k with ⟨_, h⟩ | ⟨_, h⟩ <;> rw [h] <;> rfl
 have e2 : inB d.k 1 9 = true := by rcases h.k with ⟨h, _⟩ | ⟨h, _⟩ <;> rw [h] <;> rfl
 rw [Do.formed, Do.formed, h1, h2, h.s.p, h.s.v, e1, e2]
theorem Swp.wrong {d d' : Do} (h : Swp d d') (r i : Bool) : d'.wrong r i = d.wrong r i := by
 rw [Do.wrong, Do.wrong]
 rcases h.k with ⟨h1, h2⟩ | ⟨h1, h2⟩ <;> simp [h1, h2]
theorem Swp.thr {d d' : Do} (h : Swp d d') {l2 : List Do} : ∀ {l1 : List Do} {r i : Bool}, thrGo (l1 ++ d' :: l2) r i = thrGo (l1 ++ d :: l2) r i
 | [], r, i => by
  rw [List.nil_append, List.nil_append, thrGo, thrGo, h.formed, h.wrong, h.s.r]
  have e1 : (d'.k == 7) = (d.k == 7) := by rcases h.k with ⟨h1, h2⟩ | ⟨h1, h2⟩ <;> simp [h1, h2]
  have e2 : (d'.k == 8) = (d.k == 8) := by rcases h.k with ⟨h1, h2⟩ | ⟨h1, h2⟩ <;> simp [h1, h2]
  rw [e1, e2]
 | a :: l1, r, i => by
  rw [List.cons_append, List.cons_append, thrGo, thrGo, Swp.thr h]
theorem Swp.ok {d d' : Do} (h : Swp d d') {p1 p2 : Prog} {l1 l2 : List Do} : progOk (p1 ++ (l1 ++ d' :: l2) :: p2) = progOk (p1 ++ (l1 ++ d :: l2) :: p2) := by
 have e1 : threadOk (l1 ++ d' :: l2) = threadOk (l1 ++ d :: l2) := by rw [threadOk, threadOk, h.thr]; simp
 have e2 : usesOf (l1 ++ d' :: l2) = usesOf (l1 ++ d :: l2) := by
  simp only [usesOf, List.filter_append, List.filter_cons, h.s.uses]
  split <;> simp
 have e3 : (l1 ++ d' :: l2).length = (l1 ++ d :: l2).length := by simp
 simp only [progOk, List.all_append, List.all_cons, stepsP, usesP, List.map_append, List.map_cons, e1, e2, e3, List.length_append, List.length_cons]
end
section
open Go.RowKit
theorem l71Kind_pl (bs : List Int) (hb : Bytes bs) (g p : Nat) (hp : p < 2 ^ 29) : Fr Tryz.prog 31 [] g (rdO bs g p)
  (fun r o' => (∃ v : Int, r = .int .i64 v) ∧ ∃ q, p ≤ q ∧ q ≤ p + 2 ∧ o' = rdO bs g q) := by
 refine Fc.start (S := []) Tryz.func31 Tryz.ntmps31 Tryz.results31 rfl (by decide) rfl (by kernel_rfl) ?_
 simp (disch := omega) only [push_cast, go_sem, zA, simprocAttr]
 refine callR.rd (pick_rd bs hb g p (by omega) 24 (by omega)) rfl rfl rfl ?_
 rintro r o' ⟨v, rfl, hv0, hv1, _, rfl⟩
 simp (disch := omega) only [push_cast, go_sem, zA, simprocAttr]
 refine ⟨fun hv g1 => ?_, fun hv => ?_⟩
 ·refine callR.rd (pick_rd bs hb g (p + 1) (by omega) 3 (by omega)) rfl rfl rfl ?_
  rintro r o' ⟨u, rfl, hu0, hu1, _, rfl⟩
  have hu : u < 3 := hu1 (by omega)
  obtain ⟨n, rfl⟩ := Int.eq_ofNat_of_zero_le hu0
  obtain ⟨z, hz⟩ := ints_get (l := [.int .i64 0, .int .i64 4, .int .i64 (-1)]) (n := n) rfl (by simp; omega)
  simp (disch := omega) only [push_cast, go_sem, zA, simprocAttr, hz]
  refine ⟨by omega, _, Sub.set Sub.no rfl, _, ⟨⟨_, rfl⟩, p + 1 + 1, by omega, by omega, rfl⟩, rfl⟩
 ·refine callR.rd (pick_rd bs hb g (p + 1) (by omega) 3 (by omega)) rfl rfl rfl ?_
  rintro r o' ⟨u, rfl, hu0, hu1, _, rfl⟩
  simp (disch := omega) only [push_cast, go_sem, zA, simprocAttr]
  exact ⟨_, Sub.rfl, _, ⟨⟨_, rfl⟩, p + 1 + 1, by omega, by omega, rfl⟩, rfl⟩
end
section
open Go.RowKit
theorem specOrderAll_fn (p : Prog) (kind : Int) (hp : p.length < 2 ^ 40) : Fp Tryz.prog 14 [progV p, .int .i64 kind] (.sl ((ordAll p kind).map Sn.V)) := by
 have h1 := specAllF_fn p hp
 have h2 := l13All_fn p kind hp
 rw [progV_eq] at h1 h2
 refine Fc.start (S := []) Tryz.func14 Tryz.ntmps14 Tryz.results14 rfl (by decide) rfl (by kernel_rfl) ?_
 simp (disch := omega) only [push_cast, go_sem, zA, simprocAttr, progV_eq]
 intro g2
 refine Sat.drawnE [] [] (List.range 6) (pureT [(40, .sl ((specAll p).map Exe.V)), (39, .sl ((ordAll p kind).map Sn.V))]) (by kernel_rfl) (by kernel_rfl) ?_
 simp (disch := omega) only [push_cast, go_sem, zA, simprocAttr]
 refine runD_pure rfl h1 rfl rfl ?_ ?_
 ·rfl
 simp (disch := omega) only [push_cast, go_sem, zA, simprocAttr]
 refine runD_pure rfl h2 rfl rfl ?_ ?_
 ·rfl
 simp (disch := omega) only [push_cast, go_sem, zA, simprocAttr]
theorem ord_small {p : Prog} {kind : Int} : ∀ t ∈ ordAll p kind, t.small := by
 rw [ordAll]
 split
 ·exact acc_small (p := p) (kind := kind) (l := specAll p) fun x hx => all_ok (p := p) (x := x) (by rw [all_eq]; exact hx)
 ·exact fun t ht => by cases ht
theorem ord_len (p : Prog) (kind : Int) : (ordAll p kind).length < 2 ^ 30 := by
 rw [ordAll]
 split
 ·have := acc_len p kind (specAll p)
  have := specAll_le p
  rw [accS] at *; omega
 ·simp
end
section
open Go.RowKit
end
section
open Go.RowKit
end
section
open Go.RowKit
end
section
open Go.RowKit
theorem list_eq_drop {α : Type} [BEq α] [LawfulBEq α] {a b : List α} {k : Nat} (hl : a.length = b.length) (h : ∀ (j : Nat) (x y : α), j < k → a[j]? = some x → b[j]? = some y → (x == y) = true) (hk : a.length ≤ k) : a = b := by
 apply List.ext_getElem hl
 intro j h1 h2
 exact beq_iff_eq.1 (h j _ _ (by omega) (List.getElem?_eq_getElem h1) (List.getElem?_eq_getElem h2))
theorem list_ne_at {α : Type} {a b : List α} {k : Nat} {x y : α} (hx : a[k]? = some x) (hy : b[k]? = some y) (h : x ≠ y) : a ≠ b := fun e => by
 rw [e, hy] at hx; cases hx; exact h rfl
theorem lpInts_fn (a b : List Int) (ha : a.length < 2 ^ 40) (hb : b.length < 2 ^ 40) : Fp Tryz.prog 78 [intsV a, intsV b] (.bool (decide (a = b))) := by
  refine Fc.start (S := [8]) Tryz.func78 Tryz.ntmps78 Tryz.results78 rfl (by decide) rfl (by kernel_rfl) ?_
  cases hl : ((a.length : Int) != b.length)
  rotate_left
  · simp (disch := omega) only [push_cast, go_sem, zA, simprocAttr, intsV_eq, hl]
    have : ¬ a = b := fun h => by rw [h] at hl; simp at hl
    simp [this]
  have hl' : a.length = b.length := by have : (a.length : Int) = b.length := by simpa using hl
                                       omega
  simp (disch := omega) only [push_cast, go_sem, zA, simprocAttr, intsV_eq, hl]
  refine Sat.loop (σ := Nat) (fun k => upd (upd (upd noT 0 (.sl (a.map (V.int .i64)))) 1 (.sl (b.map (V.int .i64)))) 5 (.int .i64 k)) (fun _ => noM)
    (fun k => k ≤ a.length ∧ ∀ (j : Nat) (x y : Int), j < k → a[j]? = some x → b[j]? = some y → (x == y) = true) (fun k => a.length - k) 0 (by simp) ?_ ?_
  · (refine zB ?_; repeat (first | exact zC | exact zD | refine zE (by decide) ?_ | refine zF ?_ ?_ | refine zG ?_ ?_)) <;> (try simp (disch := omega) only [push_cast, go_sem, zA, simprocAttr])
  rintro k ⟨hk, hall⟩ J hJ
  refine Sat.of (S := []) (by kernel_rfl) ?_
  rcases Nat.lt_or_ge k a.length with hlt | hge
  · obtain ⟨x, hx⟩ : ∃ x, a[k]? = some x := ⟨_, List.getElem?_eq_getElem hlt⟩
    have hltb : k < b.length := by omega
    obtain ⟨y, hy⟩ : ∃ y, b[k]? = some y := ⟨_, List.getElem?_eq_getElem hltb⟩
    cases hne : (x != y)
    · simp (disch := omega) only [push_cast, go_sem, zA, simprocAttr, hlt]
      refine Sat.drawnE [] [] [3, 7] (fun _ _ _ => none) (by kernel_rfl) (by kernel_rfl) ?_
      simp (disch := omega) only [push_cast, go_sem, zA, simprocAttr, hx, hy, hlt, hltb, hne]
      refine hJ (k + 1) _ _ ⟨by omega, fun j x' y' hj h1 h2 => ?_⟩ (by omega) ?_
      · rcases Nat.lt_or_ge j k with h | h
        · exact hall j x' y' h h1 h2
        · have : j = k := by omega
          subst this; rw [hx] at h1; rw [hy] at h2; cases h1; cases h2
          simpa only [bne, Bool.not_eq_false'] using hne
      · (refine zB ?_; repeat (first | exact zC | exact zD | refine zE (by decide) ?_ | refine zF ?_ ?_ | refine zG ?_ ?_)) <;> (try simp (disch := omega) only [push_cast, go_sem, zA, simprocAttr])
    · simp (disch := omega) only [push_cast, go_sem, zA, simprocAttr, hlt]
      refine Sat.drawnE [] [] [3, 7] (fun _ _ _ => none) (by kernel_rfl) (by kernel_rfl) ?_
      simp (disch := omega) only [push_cast, go_sem, zA, simprocAttr, hx, hy, hlt, hltb, hne]
      have : ¬ a = b := list_ne_at hx hy (by simpa using hne)
      simp [this]
  · have hkl : k = a.length := by omega
    subst hkl
    simp (disch := omega) only [push_cast, go_sem, zA, simprocAttr]
    refine Sat.of (S := []) (by kernel_rfl) ?_
    simp (disch := omega) only [push_cast, go_sem, zA, simprocAttr]
    have : a = b := list_eq_drop hl' hall (Nat.le_refl _)
    simp [this]
instance : DecidableEq Exe := fun x y => decidable_of_iff (x.fr = y.fr ∧ x.od = y.od) (by cases x; cases y; simp)
end
section
open Go.RowKit
end
section
open Go.RowKit
theorem lpSame_fn (s t : Sn) (hs : s.small) (ht : t.small) : Fp Tryz.prog 38 [s.V, t.V] (.bool (decide (s = t))) := by
 have h1 := lpInts_fn s.rd t.rd hs.rd ht.rd
 have h2 := lpInts_fn s.ls t.ls hs.ls ht.ls
 have hst : decide (s = t) = (decide (s.rd = t.rd) && decide (s.ls = t.ls)) := by
  obtain ⟨a, b⟩ := s
  obtain ⟨c, d⟩ := t
  rw [Bool.eq_iff_iff]; simp
 rw [hst]
 rw [intsV_eq, intsV_eq] at h1 h2
 refine Fc.start (S := []) Tryz.func38 Tryz.ntmps38 Tryz.results38 rfl (by decide) rfl (by kernel_rfl) ?_
 simp (disch := omega) only [push_cast, go_sem, zA, simprocAttr, Sn.V_eq]
 intro g2 g3
 refine callR.pure h1 rfl rfl ?_
 cases decide (s.rd = t.rd)
 ·simp (disch := omega) only [push_cast, go_sem, zA, simprocAttr]
 ·simp (disch := omega) only [push_cast, go_sem, zA, simprocAttr]
  refine callR.pure h2 rfl rfl ?_
  simp (disch := omega) only [push_cast, go_sem, zA, simprocAttr]
end
section
open Go.RowKit
theorem pref_all {α : Type} {q : α → Bool} {l : List α} {k : Nat} {x : α} (hx : l[k]? = some x) (h : ∀ y ∈ l.take k, q y = true) (hq : q x = true) : ∀ y ∈ l.take (k + 1), q y = true := fun y hy => by
 rw [take_get hx] at hy
 rcases List.mem_append.1 hy with hy | hy
 ·exact h y hy
 ·simp at hy; rw [hy]; exact hq
theorem lpList_fn (a b : List Sn) (ha : ∀ s ∈ a, s.small) (hb : ∀ s ∈ b, s.small) (hal : a.length < 2 ^ 40) (hbl : b.length < 2 ^ 40) : Fp Tryz.prog 13 [.sl (a.map Sn.V), .sl (b.map Sn.V)] (.bool (decide (a = b))) := by
  refine Fc.start (S := [8]) Tryz.func13 Tryz.ntmps13 Tryz.results13 rfl (by decide) rfl (by kernel_rfl) ?_
  cases hl : ((a.length : Int) != b.length)
  rotate_left
  · simp (disch := omega) only [push_cast, go_sem, zA, simprocAttr, hl]
    have : ¬ a = b := fun h => by rw [h] at hl; simp at hl
    simp [this]
  have hl' : a.length = b.length := by have : (a.length : Int) = b.length := by simpa using hl
                                       omega
  simp (disch := omega) only [push_cast, go_sem, zA, simprocAttr, hl]
  refine Sat.loop (σ := Nat) (fun k => upd (upd (upd noT 0 (.sl (a.map Sn.V))) 1 (.sl (b.map Sn.V))) 5 (.int .i64 k)) (fun _ => noM)
    (fun k => k ≤ a.length ∧ ∀ (j : Nat) (x y : Sn), j < k → a[j]? = some x → b[j]? = some y → (x == y) = true) (fun k => a.length - k) 0 (by simp) ?_ ?_
  · (refine zB ?_; repeat (first | exact zC | exact zD | refine zE (by decide) ?_ | refine zF ?_ ?_ | refine zG ?_ ?_)) <;> (try simp (disch := omega) only [push_cast, go_sem, zA, simprocAttr])
  rintro k ⟨hk, hall⟩ J hJ
  refine Sat.of (S := []) (by kernel_rfl) ?_
  rcases Nat.lt_or_ge k a.length with hlt | hge
  · obtain ⟨x, hx⟩ : ∃ x, a[k]? = some x := ⟨_, List.getElem?_eq_getElem hlt⟩
    have hltb : k < b.length := by omega
    obtain ⟨y, hy⟩ : ∃ y, b[k]? = some y := ⟨_, List.getElem?_eq_getElem hltb⟩
    have hs := lpSame_fn x y (ha x (List.mem_of_getElem? hx)) (hb y (List.mem_of_getElem? hy))
    rw [Sn.V_eq, Sn.V_eq] at hs
    cases he : decide (x = y)
    · rw [he] at hs
      simp (disch := omega) only [push_cast, go_sem, zA, simprocAttr, hlt]
      refine Sat.drawnE [] [] (List.range 10) (pureT [(38, .bool false)]) (by kernel_rfl) (by kernel_rfl) ?_
      simp (disch := omega) only [push_cast, go_sem, zA, simprocAttr, hx, hy, hlt, hltb, Sn.V_eq]
      refine runD_pure rfl hs rfl rfl ?_ ?_
      · rfl
      simp (disch := omega) only [push_cast, go_sem, zA, simprocAttr]
      have : ¬ a = b := list_ne_at hx hy (of_decide_eq_false he)
      simp [this]
    · rw [he] at hs
      simp (disch := omega) only [push_cast, go_sem, zA, simprocAttr, hlt]
      refine Sat.drawnE [] [] (List.range 10) (pureT [(38, .bool true)]) (by kernel_rfl) (by kernel_rfl) ?_
      simp (disch := omega) only [push_cast, go_sem, zA, simprocAttr, hx, hy, hlt, hltb, Sn.V_eq]
      refine runD_pure rfl hs rfl rfl ?_ ?_
      · rfl
      simp (disch := omega) only [push_cast, go_sem, zA, simprocAttr]
      refine hJ (k + 1) _ _ ⟨by omega, fun j x' y' hj h1 h2 => ?_⟩ (by omega) ?_
      · rcases Nat.lt_or_ge j k with h | h
        · exact hall j x' y' h h1 h2
        · have : j = k := by omega
          subst this; rw [hx] at h1; rw [hy] at h2; cases h1; cases h2
          exact beq_iff_eq.2 (of_decide_eq_true he)
      · (refine zB ?_; repeat (first | exact zC | exact zD | refine zE (by decide) ?_ | refine zF ?_ ?_ | refine zG ?_ ?_)) <;> (try simp (disch := omega) only [push_cast, go_sem, zA, simprocAttr])
  · have hkl : k = a.length := by omega
    subst hkl
    simp (disch := omega) only [push_cast, go_sem, zA, simprocAttr]
    refine Sat.of (S := []) (by kernel_rfl) ?_
    simp (disch := omega) only [push_cast, go_sem, zA, simprocAttr]
    have : a = b := list_eq_drop hl' hall (Nat.le_refl _)
    simp [this]
theorem specSeenIn_fn (l : List Sn) (s : Sn) (hls : ∀ t ∈ l, t.small) (hs : s.small) (hl : l.length < 2 ^ 40) : Fp Tryz.prog 54 [.sl (l.map Sn.V), s.V] (.bool (decide (s ∈ l))) := by
 refine Fc.start (S := [6]) Tryz.func54 Tryz.ntmps54 Tryz.results54 rfl (by decide) rfl (by kernel_rfl) ?_
 simp (disch := omega) only [push_cast, go_sem, zA, simprocAttr, Sn.V_eq]
 intro g3
 refine Sat.loop (σ := Nat) (fun k => upd (upd (upd noT 0 (.sl (l.map Sn.V))) 3 (.ptr 3 [] 0 0 g3 2)) 5 (.int .i64 k)) (fun _ => noM.set 3 (.own 34 (some g3) 1 [.agg [.sl (s.rd.map (V.int .i64)), .sl (s.ls.map (V.int .i64))]]))
  (fun k => k ≤ l.length ∧ ∀ y ∈ l.take k, decide (y ≠ s) = true) (fun k => l.length - k) 0 (by simp) ?_ ?_
 ·(refine zB ?_; repeat (first | exact zC | exact zD | refine zE (by decide) ?_ | refine zF ?_ ?_ | refine zG ?_ ?_)) <;> (try simp (disch := omega) only [push_cast, go_sem, zA, simprocAttr])
 rintro k ⟨hk, hall⟩ J hJ
 refine Sat.of (S := [6]) (by kernel_rfl) ?_
 rcases Nat.lt_or_ge k l.length with hlt | hge
 ·obtain ⟨x, hx⟩ : ∃ x, l[k]? = some x := ⟨_, List.getElem?_eq_getElem hlt⟩
  have hcm := l2Seen_fn x s (hls x (List.mem_of_getElem? hx)) hs
  have hz : (cmpS x s == 0) = decide (x = s) := by rw [Bool.eq_iff_iff, beq_iff_eq, decide_eq_true_eq]; exact cmpS_zero
  rw [Sn.V_eq, Sn.V_eq] at hcm
  simp (disch := omega) only [push_cast, go_sem, zA, simprocAttr, hlt]
  refine Sat.drawnE [] [] (List.range 7) (pureT [(103, .int .i64 (cmpS x s))]) (by kernel_rfl) (by kernel_rfl) ?_
  simp (disch := omega) only [push_cast, go_sem, zA, simprocAttr, hx, hlt, Sn.V_eq]
  refine runD_pure rfl hcm rfl rfl ?_ ?_
  ·rfl
  cases he : decide (x = s)
  ·rw [he] at hz
   simp (disch := omega) only [push_cast, go_sem, zA, simprocAttr, hz]
   refine hJ (k + 1) _ _ ⟨by omega, pref_all hx hall (by simpa using he)⟩ (by omega) ?_
   (refine zB ?_; repeat (first | exact zC | exact zD | refine zE (by decide) ?_ | refine zF ?_ ?_ | refine zG ?_ ?_)) <;> (try simp (disch := omega) only [push_cast, go_sem, zA, simprocAttr])
  ·rw [he] at hz
   simp (disch := omega) only [push_cast, go_sem, zA, simprocAttr, hz]
   have : s ∈ l := by rw [← of_decide_eq_true he]; exact List.mem_of_getElem? hx
   simp [this]
 ·have hkl : k = l.length := by omega
  subst hkl
  rw [List.take_length] at hall
  simp (disch := omega) only [push_cast, go_sem, zA, simprocAttr]
  have : s ∉ l := fun h => by simpa using hall s h
  refine Sat.of (S := []) (by kernel_rfl) ?_
  simp (disch := omega) only [push_cast, go_sem, zA, simprocAttr]
  simp [this]
theorem lpWithin_fn (a b : List Sn) (ha : ∀ s ∈ a, s.small) (hb : ∀ s ∈ b, s.small) (hal : a.length < 2 ^ 40) (hbl : b.length < 2 ^ 40) : Fp Tryz.prog 23 [.sl (a.map Sn.V), .sl (b.map Sn.V)] (.bool (a.all fun s => decide (s ∈ b))) := by
 refine Fc.start (S := [6]) Tryz.func23 Tryz.ntmps23 Tryz.results23 rfl (by decide) rfl (by kernel_rfl) ?_
 simp (disch := omega) only [push_cast, go_sem, zA, simprocAttr]
 refine Sat.loop (σ := Nat) (fun k => upd (upd (upd noT 0 (.sl (a.map Sn.V))) 1 (.sl (b.map Sn.V))) 5 (.int .i64 k)) (fun _ => noM)
  (fun k => k ≤ a.length ∧ ∀ y ∈ a.take k, decide (y ∈ b) = true) (fun k => a.length - k) 0 (by simp) ?_ ?_
 ·(refine zB ?_; repeat (first | exact zC | exact zD | refine zE (by decide) ?_ | refine zF ?_ ?_ | refine zG ?_ ?_)) <;> (try simp (disch := omega) only [push_cast, go_sem, zA, simprocAttr])
 rintro k ⟨hk, hall⟩ J hJ
 refine Sat.of (S := [6]) (by kernel_rfl) ?_
 rcases Nat.lt_or_ge k a.length with hlt | hge
 ·obtain ⟨x, hx⟩ : ∃ x, a[k]? = some x := ⟨_, List.getElem?_eq_getElem hlt⟩
  have hs := specSeenIn_fn b x hb (ha x (List.mem_of_getElem? hx)) hbl
  rw [Sn.V_eq] at hs
  simp (disch := omega) only [push_cast, go_sem, zA, simprocAttr, hx, hlt, Sn.V_eq]
  refine callR.pure hs rfl rfl ?_
  cases he : decide (x ∈ b)
  ·simp (disch := omega) only [push_cast, go_sem, zA, simprocAttr]
   have : (a.all fun s => decide (s ∈ b)) = false := by
    rw [List.all_eq_false]; exact ⟨x, List.mem_of_getElem? hx, by rw [he]; simp⟩
   rw [this]
  ·simp (disch := omega) only [push_cast, go_sem, zA, simprocAttr]
   refine hJ (k + 1) _ _ ⟨by omega, pref_all hx hall he⟩ (by omega) ?_
   (refine zB ?_; repeat (first | exact zC | exact zD | refine zE (by decide) ?_ | refine zF ?_ ?_ | refine zG ?_ ?_)) <;> (try simp (disch := omega) only [push_cast, go_sem, zA, simprocAttr])
 ·have hkl : k = a.length := by omega
  subst hkl
  rw [List.take_length] at hall
  simp (disch := omega) only [push_cast, go_sem, zA, simprocAttr]
  refine Sat.of (S := []) (by kernel_rfl) ?_
  simp (disch := omega) only [push_cast, go_sem, zA, simprocAttr]
  rw [List.all_eq_true.2 hall]
end
section
open Go.RowKit
end
section
open Go.RowKit
def DrawnA (r : V) : Prop := ∃ (p : Prog) (kind : Int), r = .tuple [progV p, .int .i64 kind] ∧ p.length ≤ 3 ∧ (∀ l ∈ p, l.length < 2 ^ 11)
theorem DrawOrderAll_fn (bs : List Int) (hb : Code8 bs) (hl : bs.length < 2 ^ 40) : Fc Tryz.prog 11 [codeV bs] noM (fun r m => DrawnA r ∧ m = noM) := by
 refine Fc.start (S := []) Tryz.func11 Tryz.ntmps11 Tryz.results11 rfl (by decide) rfl (by kernel_rfl) ?_
 simp (disch := omega) only [push_cast, go_sem, zA, simprocAttr, codeV_eq]
 intro g2
 refine callR.new (l6Open_fn bs hl) rfl rfl ?_
 rintro r ob ⟨g, rfl, rfl⟩
 simp (disch := omega) only [push_cast, go_sem, zA, simprocAttr]
 refine callR.rd (l71Any_rd (bs.take 2000) hb.take g 0 (by omega)) rfl rfl rfl ?_
 rintro r o' ⟨x, rfl, hx1, hx2, q, hq1, hq2, rfl⟩
 simp (disch := omega) only [push_cast, go_sem, zA, simprocAttr, progV_eq]
 refine callR.rd (l71Kind_pl (bs.take 2000) hb.take g q (by omega)) rfl rfl rfl ?_
 rintro r o' ⟨⟨kind, rfl⟩, q1, hq3, hq4, rfl⟩
 simp (disch := omega) only [push_cast, go_sem, zA, simprocAttr]
 exact ⟨x, kind, rfl, hx1, hx2⟩
end
section
open Go.RowKit
end
section
open Go.RowKit
section
variable {p1 p2 : Prog} {l : List Do}
end
end
section
open Go.RowKit
end
section
open Go.RowKit
end
end Go.Proofs.YtkdolbffabmemaaGreatDoor
