/-
 Contracts and plain laws.
-/
import Derived.Test.YtfbgabkcjjahiaaGreatDoorCa
import Derived.Test.YtfbgabkcjjahiaaGreatDoorCf
import Derived.Test.YtfbgabkcjjahiaaGreatDoorCj
import Derived.Test.YtfbgabkcjjahiaaGreatDoorCk
import Derived.Test.YtfbgabkcjjahiaaGreatDoorRows
import Derived.ProofKit
import Derived.OpenShut
import Derived.ChangeSlices
import Derived.JoinedOf
import Derived.JoinedAt
import Derived.Deep.DeepHandedRow
import Derived.Lib.LaidTab
import Derived.Test.YtfbgabkcjjahiaaGreatDoorCards
import Derived.Test.YtfbgabkcjjahiaaGreatDoorTie
set_option linter.unusedSimpArgs false
set_option linter.unusedVariables false
set_option linter.unusedSectionVars false
namespace Go.Proofs.YtfbgabkcjjahiaaGreatDoor
section
open Go.RowKit
theorem lpList_fn (a b : List Sn) (ha : ∀ s ∈ a, s.small) (hb : ∀ s ∈ b, s.small) (hal : a.length < 2 ^ 40) (hbl : b.length < 2 ^ 40) : Fp Tryz.prog 30 [.sl (a.map Sn.V), .sl (b.map Sn.V)] (.bool (decide (a = b))) := by
  refine Fc.start (S := [8]) Tryz.func30 Tryz.ntmps30 Tryz.results30 rfl (by decide) rfl (by kernel_rfl) ?_
  cases hl : ((a.length : Int) != b.length)
  rotate_left
  · simp (disch := omega) only [push_cast, go_sem, zA, simprocAttr, hl]
    have : ¬ a = b := fun h => by rw [h] at hl; simp at hl
    simp [this]
  have hl' : a.length = b.length := by have : (a.length : Int) = b.length := by simpa using hl
                                       omega
  simp (disch := omega) only [push_cast, go_sem, zA, simprocAttr, hl]
  refine Sat.loop (σ := Nat) (fun k => upd (upd (upd noT 0 (.sl (a.map Sn.V))) 1 (.sl (b.map Sn.V))) 5 (.int .i64 k)) (fun _ => noM)
    (fun k => k ≤ a.length ∧ ∀ (j : Nat) (x y : Sn), j < k → a[j]? = some x → b[j]? = some y → (x == y) = true) (fun k => a.length - k) 0 (by simp) ?_ ?_
  · (refine zB ?_; repeat (first | exact zC | exact zD | refine zE (by decide) ?_ | refine zF ?_ ?_ | refine zG ?_ ?_)) <;> (try simp (disch := omega) only [push_cast, go_sem, zA, simprocAttr])
  rintro k ⟨hk, hall⟩ J hJ
  refine Sat.of (S := []) (by kernel_rfl) ?_
  rcases Nat.lt_or_ge k a.length with hlt | hge
  · obtain ⟨x, hx⟩ : ∃ x, a[k]? = some x := ⟨_, List.getElem?_eq_getElem hlt⟩
    have hltb : k < b.length := by omega
    obtain ⟨y, hy⟩ : ∃ y, b[k]? = some y := ⟨_, List.getElem?_eq_getElem hltb⟩
    have hs := lpSame_fn x y (ha x (List.mem_of_getElem? hx)) (hb y (List.mem_of_getElem? hy))
    rw [Sn.V_eq, Sn.V_eq] at hs
    cases he : decide (x = y)
    · rw [he] at hs
      simp (disch := omega) only [push_cast, go_sem, zA, simprocAttr, hlt]
      refine Sat.drawnE [] [] (List.range 10) (pureT [(20, .bool false)]) (by kernel_rfl) (by kernel_rfl) ?_
      simp (disch := omega) only [push_cast, go_sem, zA, simprocAttr, hx, hy, hlt, hltb, Sn.V_eq]
      refine runD_pure rfl hs rfl rfl ?_ ?_
      · rfl
      simp (disch := omega) only [push_cast, go_sem, zA, simprocAttr]
      have : ¬ a = b := list_ne_at hx hy (of_decide_eq_false he)
      simp [this]
    · rw [he] at hs
      simp (disch := omega) only [push_cast, go_sem, zA, simprocAttr, hlt]
      refine Sat.drawnE [] [] (List.range 10) (pureT [(20, .bool true)]) (by kernel_rfl) (by kernel_rfl) ?_
      simp (disch := omega) only [push_cast, go_sem, zA, simprocAttr, hx, hy, hlt, hltb, Sn.V_eq]
      refine runD_pure rfl hs rfl rfl ?_ ?_
      · rfl
      simp (disch := omega) only [push_cast, go_sem, zA, simprocAttr]
      refine hJ (k + 1) _ _ ⟨by omega, fun j x' y' hj h1 h2 => ?_⟩ (by omega) ?_
      · rcases Nat.lt_or_ge j k with h | h
        · exact hall j x' y' h h1 h2
        · have : j = k := by omega
          subst this; rw [hx] at h1; rw [hy] at h2; cases h1; cases h2
          exact beq_iff_eq.2 (of_decide_eq_true he)
      · (refine zB ?_; repeat (first | exact zC | exact zD | refine zE (by decide) ?_ | refine zF ?_ ?_ | refine zG ?_ ?_)) <;> (try simp (disch := omega) only [push_cast, go_sem, zA, simprocAttr])
  · have hkl : k = a.length := by omega
    subst hkl
    simp (disch := omega) only [push_cast, go_sem, zA, simprocAttr]
    refine Sat.of (S := []) (by kernel_rfl) ?_
    simp (disch := omega) only [push_cast, go_sem, zA, simprocAttr]
    have : a = b := list_eq_drop hl' hall (Nat.le_refl _)
    simp [this]
end
section
open Go.RowKit
end
section
open Go.RowKit
def DrawnA (r : V) : Prop := ∃ (p : Prog) (kind : Int), r = .tuple [progV p, .int .i64 kind] ∧ p.length ≤ 3 ∧ (∀ l ∈ p, l.length < 2 ^ 11)
theorem DrawOrderAll_fn (bs : List Int) (hb : Code8 bs) (hl : bs.length < 2 ^ 40) : Fc Tryz.prog 29 [codeV bs] noM (fun r m => DrawnA r ∧ m = noM) := by
 refine Fc.start (S := []) Tryz.func29 Tryz.ntmps29 Tryz.results29 rfl (by decide) rfl (by kernel_rfl) ?_
 simp (disch := omega) only [push_cast, go_sem, zA, simprocAttr, codeV_eq]
 intro g2
 refine callR.new (l6Open_fn bs hl) rfl rfl ?_
 rintro r ob ⟨g, rfl, rfl⟩
 simp (disch := omega) only [push_cast, go_sem, zA, simprocAttr]
 refine callR.rd (l71Any_rd (bs.take 2000) hb.take g 0 (by omega)) rfl rfl rfl ?_
 rintro r o' ⟨x, rfl, hx1, hx2, q, hq1, hq2, rfl⟩
 simp (disch := omega) only [push_cast, go_sem, zA, simprocAttr, progV_eq]
 refine callR.rd (l71Kind_pl (bs.take 2000) hb.take g q (by omega)) rfl rfl rfl ?_
 rintro r o' ⟨⟨kind, rfl⟩, q1, hq3, hq4, rfl⟩
 simp (disch := omega) only [push_cast, go_sem, zA, simprocAttr]
 exact ⟨x, kind, rfl, hx1, hx2⟩
theorem ord_late {p : Prog} {s : Sn} (h : s ∈ ordAll p 1) : s ∈ ordAll p 2 := by
 obtain ⟨h1, _, x, hx, hh, he⟩ := mem_ord.1 h
 exact mem_ord.2 ⟨h1, rfl, x, hx, holdsS_late hh, he⟩
theorem ord_loose {p : Prog} {s : Sn} (h : s ∈ ordAll p 2) : s ∈ ordAll p 3 := by
 obtain ⟨h1, _, x, hx, hh, he⟩ := mem_ord.1 h
 exact mem_ord.2 ⟨h1, rfl, x, hx, holdsS_loose hh, he⟩
end
section
open Go.RowKit
theorem all_take1 {α : Type} {q : α → Bool} {l : List α} {k : Nat} {x : α} (hx : l[k]? = some x) (h : (l.take k).all q = true) (hq : q x = true) : (l.take (k + 1)).all q = true := by
 rw [take_get hx, List.all_append, h]; simp [hq]
theorem all_no1 {α : Type} {q : α → Bool} {l : List α} {k : Nat} {x : α} (hx : l[k]? = some x) (hq : q x = false) : l.all q = false := by
 rw [List.all_eq_false]; exact ⟨x, List.mem_of_getElem? hx, by rw [hq]; simp⟩
theorem at_ds {p : Prog} {a i j : Nat} {e : Evt} {l : List Do} {d : Do} (h : At p a e i l j d) : dsA p a = d := by
 rw [dsA, scene_get h.ev, h.st]; rfl
theorem dsA_mem {p : Prog} {a : Nat} (ha : a < (events p).length) : ∃ l ∈ p, dsA p a ∈ l := by
 obtain ⟨i, l, j, d, h⟩ := At.of (List.getElem?_eq_getElem ha)
 exact ⟨l, List.mem_of_getElem? h.pl, by rw [at_ds h]; exact List.mem_of_getElem? h.ld⟩
theorem told_uses {p : Prog} {x : Exe} {k : Int} {a b : Nat} (h : toldS p x k a b = true) : (dsA p a).uses = true ∧ (dsA p b).uses = true ∧ (readS p x a b = true ∨ overS p x a b = true) := by
 have h1 : readS p x a b = true ∨ overS p x a b = true := by
  rw [toldS] at h
  split at h
  ·rw [Bool.or_eq_true, Bool.and_eq_true] at h; exact h.imp And.right id
  ·split at h
   ·rw [Bool.and_eq_true, Bool.or_eq_true] at h; exact h.2
   ·rw [Bool.or_eq_true] at h; exact h
 refine ⟨?_, ?_, h1⟩
 ·rcases h1 with h1 | h1
  ·simp only [readS, Bool.and_eq_true] at h1; exact uses_or.2 (.inr h1.1.1)
  ·simp only [overS, sameS, Bool.and_eq_true] at h1; exact h1.1.2.1.1
 ·rcases h1 with h1 | h1
  ·simp only [readS, Bool.and_eq_true] at h1; exact uses_or.2 (.inl h1.1.2)
  ·simp only [overS, sameS, Bool.and_eq_true] at h1; exact h1.1.2.1.2
theorem own_tr {p : Prog} {a b c : Nat} (h1 : ownB (events p) a b = true) (h2 : ownB (events p) b c = true) : ownB (events p) a c = true := by
 rw [own_iff] at *; omega
theorem one_ord {p : Prog} (hpl : ∀ l ∈ p, ∀ d ∈ l, d.p = 0 ∧ d.k ≤ 6) : ordAll p 3 = ordAll p 1 := by
 refine ord_ext fun s => ⟨fun hs => ?_, fun hs => ord_loose (ord_late hs)⟩
 obtain ⟨hp, _, x, hx, hh, rfl⟩ := mem_ordW.1 hs
 have hd : ∀ a, a < (events p).length → (dsA p a).p = 0 ∧ (dsA p a).k ≤ 6 := by
  intro a ha
  obtain ⟨l, h1, h2⟩ := dsA_mem ha
  exact hpl l h1 _ h2
 have noadd : ∀ σ a b, ¬ AddR p σ a b := by
  rintro σ a b ⟨e, i, hw, _⟩
  obtain ⟨w, h1, h2, _⟩ := wait_prev hw.el hw.late
  have := (hd w (by have := hw.el; omega)).2
  have e1 : kd (scene p).ds w = (dsA p w).k := rfl
  omega
 refine mem_ordW.2 ⟨hp, rfl, x, hx, ⟨hh.pl, fun _ _ => true, ?_⟩, rfl⟩
 obtain ⟨r, hr⟩ := hh.pl
 have own0 : ∀ a b, a < (events p).length → b < (events p).length → (dsA p a).uses = true → (dsA p b).uses = true → ownB (events p) a b = true → r a < r b := by
  intro a b ha hb ua ub ho
  refine hr a b ha hb ?_
  have : sameS p a b = true := by rw [sameS, ua, ub, (hd a ha).1, (hd b hb).1]; rfl
  show netR p x 0 a b = true
  rw [netR, Bool.or_eq_true]
  left
  show (ownB (events p) a b && sameS p a b) = true
  rw [ho, this]; rfl
 have net1 : ∀ a b, netR p x 1 a b = true → ownB (events p) a b = true ∨ toldS p x 0 a b = true := by
  intro a b h
  rw [netR, Bool.or_eq_true] at h
  exact h
 refine rkd_walls (own := fun a b => ownB (events p) a b = true) (old := fun a => (dsA p a).uses = true) (r := r) ?_ ?_ ?_ (fun a b h => (own_iff.1 h).1) (fun a b c => own_tr)
 ·intro a b ha hb ua ub hR
  rcases net1 a b (hR.resolve_right (noadd _ _ _)) with h | h
  ·exact own0 a b ha hb ua ub h
  ·refine hr a b ha hb ?_
   show netR p x 0 a b = true
   rw [netR, h, Bool.or_true]
 ·intro a b ha hb hR hn
  rcases net1 a b (hR.resolve_right (noadd _ _ _)) with h | h
  ·exact h
  ·have := told_uses h
   exact absurd hn (by simp [this.1, this.2.1])
 ·intro a v b ha hv hb _ ua ub h1 h2
  exact own0 a b ha hb ua ub (own_tr h1 h2)
theorem single_own {p : Prog} (hl : ∀ l ∈ p, l.length ≤ 1) {a b : Nat} (ha : a < (events p).length) (hb : b < (events p).length) (ho : ownB (events p) a b = true) : wallB (dsA p a) = true ∧ wallB (dsA p b) = true := by
 obtain ⟨i, l, j, d, h⟩ := At.of (List.getElem?_eq_getElem ha)
 obtain ⟨i', l', j', d', h'⟩ := At.of (List.getElem?_eq_getElem hb)
 obtain ⟨h1, h2⟩ := own_iff.1 ho
 rw [h.th, h'.th] at h2
 have hi : i = i' := by omega
 subst hi
 have hll : l = l' := Option.some.inj (h.pl.symm.trans h'.pl)
 subst hll
 have hlen := hl l (List.mem_of_getElem? h.pl)
 have j0 := (List.getElem?_eq_some_iff.1 h.ld).1
 have j1 := (List.getElem?_eq_some_iff.1 h'.ld).1
 have hj : j = j' := by omega
 subst hj
 have hd : d = d' := Option.some.inj (h.ld.symm.trans h'.ld)
 subst hd
 have hlt := events_lt h.ev h'.ev h1
 simp only [Evt.lt, h.t, h'.t, h.s, h'.s] at hlt
 have h9 : d.k = 9 := h'.late (by rcases hlt with h | ⟨_, h | ⟨_, h⟩⟩ <;> first | omega | exact h)
 rw [at_ds h, at_ds h']
 simp [wallB, h9]
theorem first_net {p : Prog} (hl : ∀ l ∈ p, l.length ≤ 1) {x : Exe} {k : Int} (hk : inB k 1 3 = true) {a b : Nat} (ha : a < (events p).length) (hb : b < (events p).length) : netR p x k a b = netR p x 1 a b := by
 have hk' : k = 1 ∨ k = 2 ∨ k = 3 := by simp [inB] at hk; omega
 have w0 : ∀ {d : Do}, wallB d = true → d.writes = false ∧ d.reads = false := by
  intro d h
  simp only [wallB, Bool.or_eq_true, beq_iff_eq] at h
  rcases h with h | h <;> simp [Do.writes, Do.reads, h]
 have ap : readS p x a b = true ∨ overS p x a b = true → apartS p a b = true := by
  intro h
  have hu : (dsA p a).uses = true ∧ (dsA p b).uses = true ∧ a ≠ b := by
   rcases h with h | h
   ·simp only [readS, Bool.and_eq_true] at h
    refine ⟨uses_or.2 (.inr h.1.1), uses_or.2 (.inl h.1.2), fun e => ?_⟩
    subst e
    have := writes_noreads h.1.1
    rw [h.1.2] at this; cases this
   ·simp only [overS, sameS, Bool.and_eq_true, Bool.not_eq_true', beq_eq_false_iff_ne] at h
    exact ⟨h.1.2.1.1, h.1.2.1.2, h.1.1.2⟩
  rw [apartS, bne_iff_ne]
  intro hth
  rcases Nat.lt_or_gt_of_ne hu.2.2 with h1 | h1
  ·have := w0 (single_own hl ha hb (own_iff.2 ⟨h1, hth⟩)).1
   have := uses_or.1 hu.1
   simp_all
  ·have := w0 (single_own hl hb ha (own_iff.2 ⟨h1, hth.symm⟩)).1
   have := uses_or.1 hu.2.1
   simp_all
 have e1 : netR p x 1 a b = (ownB (events p) a b || (readS p x a b || overS p x a b)) := rfl
 rcases hk' with rfl | rfl | rfl
 ·rfl
 ·have e2 : netR p x 2 a b = ((ownB (events p) a b && !((dsA p a).writes && (dsA p b).reads)) || ((apartS p a b && readS p x a b) || overS p x a b)) := rfl
  rw [e1, e2]
  congr 1
  ·cases ho : ownB (events p) a b
   ·rfl
   ·rw [(w0 (single_own hl ha hb ho).1).1]; rfl
  ·cases hr : readS p x a b
   ·simp
   ·rw [ap (.inl hr)]; rfl
 ·have e3 : netR p x 3 a b = (looseS p a b || (apartS p a b && (readS p x a b || overS p x a b))) := rfl
  rw [e1, e3]
  congr 1
  ·rw [looseS]
   cases ho : ownB (events p) a b
   ·rfl
   ·rw [(single_own hl ha hb ho).1]; simp
  ·cases hr : (readS p x a b || overS p x a b)
   ·simp
   ·rw [ap (by rw [Bool.or_eq_true] at hr; exact hr)]; rfl
theorem first_ord {p : Prog} (hl : ∀ l ∈ p, l.length ≤ 1) {k : Int} (hk : inB k 1 3 = true) : ordAll p k = ordAll p 1 := by
 refine ord_ext fun s => ⟨fun hs => ?_, fun hs => ?_⟩
 ·obtain ⟨hp, _, x, hx, hh, rfl⟩ := mem_ordW.1 hs
  obtain ⟨σ, hσ⟩ := hh.ex
  exact mem_ordW.2 ⟨hp, rfl, x, hx, ⟨hh.pl, σ, hσ.less fun a b ha hb h => h.imp (fun h => by rw [first_net hl hk ha hb]; exact h) id⟩, rfl⟩
 ·obtain ⟨hp, _, x, hx, hh, rfl⟩ := mem_ordW.1 hs
  obtain ⟨σ, hσ⟩ := hh.ex
  exact mem_ordW.2 ⟨hp, hk, x, hx, ⟨hh.pl, σ, hσ.less fun a b ha hb h => h.imp (fun h => by rw [first_net hl hk ha hb] at h; exact h) id⟩, rfl⟩
end
section
open Go.RowKit
def plainD (d : Do) : Bool := d.p == 0 && decide (d.k ≤ 6)
def plainT (l : List Do) : Bool := l.all plainD
def plainP (p : Prog) : Bool := p.all plainT
theorem lpPlain_fn (p : Prog) (hp : p.length < 2 ^ 20) (hl : ∀ l ∈ p, l.length < 2 ^ 20) : Fp Tryz.prog 37 [progV p] (.bool (plainP p)) := by
 refine Fc.start (S := [9]) Tryz.func37 Tryz.ntmps37 Tryz.results37 rfl (by decide) rfl (by kernel_rfl) ?_
 simp (disch := omega) only [push_cast, go_sem, zA, simprocAttr, progV_eq]
 intro g1
 refine Sat.loop (σ := Nat) (fun i => upd (upd (upd noT 1 (.ptr 1 [] 0 0 g1 1)) 2 (.bool false)) 3 (.int .i64 i)) (fun _ => noM.set 1 (boxP p g1))
  (fun i => i ≤ p.length ∧ (p.take i).all plainT = true) (fun i => p.length - i) 0 (by simp) ?_ ?_
 ·(refine zB ?_; repeat (first | exact zC | exact zD | refine zE (by decide) ?_ | refine zF ?_ ?_ | refine zG ?_ ?_)) <;> (try simp (disch := omega) only [push_cast, go_sem, zA, simprocAttr])
  all_goals simp [boxP]
 rintro i ⟨hi, hall⟩ J hJ
 refine Sat.of (S := []) (by kernel_rfl) ?_
 rcases Nat.lt_or_ge i p.length with hlt | hge
 ·obtain ⟨l, he⟩ : ∃ l, p[i]? = some l := ⟨_, List.getElem?_eq_getElem hlt⟩
  have hll := hl l (List.mem_of_getElem? he)
  simp (disch := omega) only [push_cast, go_sem, zA, simprocAttr, he, hlt, boxP_eq, thrV_eq]
  refine Sat.loop (σ := Nat) (fun j => upd (upd (upd (upd noT 1 (.ptr 1 [] 0 0 g1 1)) 2 (.bool false)) 3 (.int .i64 i)) 4 (.int .i64 j)) (fun _ => noM.set 1 (boxP p g1))
   (fun j => j ≤ l.length ∧ (l.take j).all plainD = true) (fun j => l.length - j) 0 (by simp) ?_ ?_
  ·(refine zB ?_; repeat (first | exact zC | exact zD | refine zE (by decide) ?_ | refine zF ?_ ?_ | refine zG ?_ ?_)) <;> (try simp (disch := omega) only [push_cast, go_sem, zA, simprocAttr])
   all_goals simp [boxP]
  rintro j ⟨hj, hall2⟩ J2 hJ2
  refine Sat.of (S := []) (by kernel_rfl) ?_
  rcases Nat.lt_or_ge j l.length with hlj | hgj
  ·obtain ⟨d, hd⟩ : ∃ d, l[j]? = some d := ⟨_, List.getElem?_eq_getElem hlj⟩
   have no : plainD d = false → plainP p = false := fun h => all_no1 he (all_no1 hd h)
   cases h0 : (d.p != 0)
   ·have h0' : d.p = 0 := by simpa using h0
    by_cases h6 : d.k > 6
    ·simp (disch := omega) only [push_cast, go_sem, zA, simprocAttr, he, hlt, hd, hlj, boxP_eq, thrV_eq, Do.V_eq, h0, h6]
     rw [no (by simp [plainD]; omega)]
    ·simp (disch := omega) only [push_cast, go_sem, zA, simprocAttr, he, hlt, hd, hlj, boxP_eq, thrV_eq, Do.V_eq, h0, h6]
     refine hJ2 (j + 1) _ _ ⟨by omega, all_take1 hd hall2 (by simp [plainD, h0']; omega)⟩ (by omega) ?_
     (refine zB ?_; repeat (first | exact zC | exact zD | refine zE (by decide) ?_ | refine zF ?_ ?_ | refine zG ?_ ?_)) <;> (try simp (disch := omega) only [push_cast, go_sem, zA, simprocAttr])
     all_goals rfl
   ·have h0' : ¬ d.p = 0 := by simpa using h0
    simp (disch := omega) only [push_cast, go_sem, zA, simprocAttr, he, hlt, hd, hlj, boxP_eq, thrV_eq, Do.V_eq, h0]
    rw [no (by simp [plainD, h0'])]
  ·have : j = l.length := by omega
   subst this
   rw [List.take_length] at hall2
   simp (disch := omega) only [push_cast, go_sem, zA, simprocAttr, he, hlt, boxP_eq, thrV_eq]
   refine hJ (i + 1) _ _ ⟨by omega, all_take1 he hall hall2⟩ (by omega) ?_
   (refine zB ?_; repeat (first | exact zC | exact zD | refine zE (by decide) ?_ | refine zF ?_ ?_ | refine zG ?_ ?_)) <;> (try simp (disch := omega) only [push_cast, go_sem, zA, simprocAttr])
   all_goals rfl
 ·have : i = p.length := by omega
  subst this
  rw [List.take_length] at hall
  simp (disch := omega) only [push_cast, go_sem, zA, simprocAttr, boxP_eq]
  refine Sat.of (S := []) (by kernel_rfl) ?_
  simp (disch := omega) only [push_cast, go_sem, zA, simprocAttr]
  exact hall.symm
theorem plainP_one {p : Prog} (h : plainP p = true) : ordAll p 3 = ordAll p 1 := by
 refine one_ord fun l hl d hd => ?_
 simp only [plainP, plainT, List.all_eq_true] at h
 have := h l hl d hd
 simpa [plainD] using this
theorem lawOrderOne_fn (bs : List Int) (hb : Code8 bs) : Fp Tryz.prog 9 [codeV bs] (.bool true) := by
 refine Fc.start (S := []) Tryz.func9 Tryz.ntmps9 Tryz.results9 rfl (by decide) rfl (by kernel_rfl) ?_
 by_cases h : (1048576 : Int) < bs.length
 ·simp (disch := omega) only [push_cast, go_sem, zA, simprocAttr, codeV_eq, h]
 simp (disch := omega) only [push_cast, go_sem, zA, simprocAttr, codeV_eq, h]
 refine callR.ex (DrawOrderAll_fn bs hb (by omega)) rfl rfl ?_
 rintro r ⟨p, kind, rfl, hp, hl⟩
 have hl' : ∀ l ∈ p, l.length < 2 ^ 40 := fun l h => by have := hl l h; omega
 have hn := fun k => (show (ordAll p k).length < 2 ^ 40 by have := ord_len p k; omega)
 have h1 := fun k => implOrderAll_fn p k (by omega) hl'
 have h2 := specOrderAll_fn p kind (by omega)
 simp only [ordI_eq] at h1
 have h3 := fun k => lpList_fn (ordAll p k) (ordAll p k) ord_small ord_small (hn _) (hn _)
 simp only [decide_true] at h3
 have hok := specProgOk_fn p (by omega)
 have hpl := lpPlain_fn p (by omega) (fun l h => by have := hl l h; omega)
 rw [progV_eq] at h1 h2 hok hpl
 simp (disch := omega) only [push_cast, go_sem, zA, simprocAttr, progV_eq]
 intro g3
 refine callR.pure (h1 kind) rfl rfl ?_
 simp (disch := omega) only [push_cast, go_sem, zA, simprocAttr]
 refine callR.pure h2 rfl rfl ?_
 simp (disch := omega) only [push_cast, go_sem, zA, simprocAttr]
 refine callR.pure (h3 kind) rfl rfl ?_
 simp (disch := omega) only [push_cast, go_sem, zA, simprocAttr]
 refine callR.pure hok rfl rfl ?_
 cases hpo : progOk p
 ·simp (disch := omega) only [push_cast, go_sem, zA, simprocAttr]
  refine callR.pure h2 rfl rfl ?_
  simp (disch := omega) only [push_cast, go_sem, zA, simprocAttr]
  refine callR.pure (h3 kind) rfl rfl ?_
  simp (disch := omega) only [push_cast, go_sem, zA, simprocAttr]
 simp (disch := omega) only [push_cast, go_sem, zA, simprocAttr]
 refine callR.pure hpl rfl rfl ?_
 cases hpp : plainP p
 ·simp (disch := omega) only [push_cast, go_sem, zA, simprocAttr]
  refine callR.pure h2 rfl rfl ?_
  simp (disch := omega) only [push_cast, go_sem, zA, simprocAttr]
  refine callR.pure (h3 kind) rfl rfl ?_
  simp (disch := omega) only [push_cast, go_sem, zA, simprocAttr]
 ·have h13 := h1 3
  rw [plainP_one hpp] at h13
  simp (disch := omega) only [push_cast, go_sem, zA, simprocAttr]
  refine Sat.drawnE [] [] (List.range 6) (pureT [(28, .sl ((ordAll p 1).map Sn.V)), (30, .bool true)]) (by kernel_rfl) (by kernel_rfl) ?_
  simp (disch := omega) only [push_cast, go_sem, zA, simprocAttr]
  refine runD_pure rfl h13 rfl rfl ?_ ?_
  ·rfl
  simp (disch := omega) only [push_cast, go_sem, zA, simprocAttr]
  refine runD_pure rfl (h1 1) rfl rfl ?_ ?_
  ·rfl
  simp (disch := omega) only [push_cast, go_sem, zA, simprocAttr]
  refine runD_pure rfl (h3 1) rfl rfl ?_ ?_
  ·rfl
  simp (disch := omega) only [push_cast, go_sem, zA, simprocAttr]
end
section
open Go.ChangeShapes Go.WideShapes Go.ChangeAt Go.RowKit
theorem own : ownKnob Tryz.prog.godebug = none := by kernel_rfl
theorem laidOut' : laidOutB Tryz.prog = true := by kernel_rfl
theorem cells8 : Tryz.prog.cellsOf 5 = 1 := by kernel_rfl
theorem code_rp {imm : Nat → Prop} {W : World} {b off len cap : Nat} {zs : List Int} (hlz : len ≤ zs.length) (hl : len ≤ cap) (hi : imm b) (hcell : ∀ i, i < zs.length → W.cell? ⟨b, off + i, none⟩ = some (.int .u8 (zs.getD i 0))) :
  Rp imm W (codeV (zs.take len)) (.slice (some ⟨b, off, none⟩) len cap) := by
 by_cases h0 : len = 0
 ·subst h0; exact .sl0 _ _
 have hc0 := hcell 0 (by omega)
 unfold World.cell? at hc0
 split at hc0
 ·rename_i cur t fr hg
  have hln : (zs.take len).length = len := by rw [List.length_take]; omega
  have e : ((zs.take len).map (V.int .u8)).length = len := by rw [List.length_map]; exact hln
  have get : ∀ (i : Nat) (x : V), ((zs.take len).map (V.int .u8))[i]? = some x → x = .int .u8 (zs.getD i 0) ∧ i < len := by
   intro i x hx
   have hlt : i < len := by have := (List.getElem?_eq_some_iff.1 hx).1; omega
   rw [List.getElem?_map, List.getElem?_take_of_lt hlt] at hx
   obtain ⟨y, hy, rfl⟩ := Option.map_eq_some_iff.1 hx
   exact ⟨by rw [List.getD, hy]; rfl, hlt⟩
  have := Rp.sl (imm := imm) (w := W) ((zs.take len).map (V.int .u8)) b off cap 1 cur t fr (fun i _ => .int .u8 (zs.getD i 0)) hi hg (by omega)
   (fun i x hx => by rw [(get i x hx).1]; rfl)
   (fun i x j c hx hc => by
    obtain ⟨rfl, hlt⟩ := get i x hx
    have hj : j = 0 := by
     cases j with
     | zero => rfl
     | succ j => simp [V.cells] at hc
    subst hj
    have := hcell i (by omega)
    unfold World.cell? at this
    simp only [hg] at this
    simpa using this)
   (fun i x j c hx hc => by
    obtain ⟨rfl, hlt⟩ := get i x hx
    have hj : j = 0 := by
     cases j with
     | zero => rfl
     | succ j => simp [V.cells] at hc
    subst hj
    simp [V.cells] at hc
    subst hc
    exact .int _ _)
  rw [e] at this
  exact this
 ·cases hc0
theorem law_calls {f : FuncId} {W : World} {x : V} {v : Value} {imm : Nat → Prop} (h : Fp Tryz.prog f [x] (.bool true)) (hG : Glob imm W) (hi : ∀ g, imm g → g < W.heap.size) (hx : Rp imm W x v) :
  Calls Tryz.prog f #[v] W fun e w' => e = .returned (.bool true) ∧ Below W.heap.size W w' := by
 refine (h.fn imm W #[v] hG inv_no hi rfl ?_).mono ?_
 ·intro j c u hj hu
  cases j with
  | zero => simp at hj hu; subst hj; subst hu; exact hx
  | succ j => simp at hj
 ·rintro e w' ⟨r, r', m, imm', rfl, ⟨rfl, rfl⟩, h3, h4⟩
  rw [h3.bool_inv]
  exact ⟨rfl, h4.os, h4.tape, h4.output, h4.size, fun k hk => (h4.block k hk not_owns_no).1⟩
end
section
open Go.ChangeShapes Go.WideShapes Go.ChangeAt Go.RowKit
theorem laid_tab {H : Type} : (Rows.laid_math_bits_deBruijn64tab : DataW H) = Lib.tabData .u8 (Lib.deBruijn64tab.map fun n : Nat => (n : Int)) := rfl
theorem tabs_of {W : World} {rest : List (String × DataW Unit)} (h : laidMet Tryz.prog (("math/bits.deBruijn64tab", Rows.laid_math_bits_deBruijn64tab) :: rest) W) : ∀ x ∈ globT, Tab x.1 x.2 W := by
 rw [laid_tab] at h
 intro x hx
 simp only [globT, List.mem_cons, List.not_mem_nil, or_false] at hx
 subst hx
 intro j hj
 have hT := Lib.tabIs_of_head (t := 165) (e := 5) (n := 64) (g := (globT.headD (0, [])).1) (by kernel_rfl) (by kernel_rfl) Tryz.underlying165 Tryz.underlying5 cells8 (by kernel_rfl) h
 have := hT.cell (g := (globT.headD (0, [])).1) (by kernel_rfl) j (by rw [List.length_map]; exact hj)
 have e : (Lib.deBruijn64tab.map fun n : Nat => (n : Int)).getD j 0 = ((Lib.deBruijn64tab.getD j 0 : Nat) : Int) := by
  simp only [List.getD, List.getElem?_map]
  cases Lib.deBruijn64tab[j]? <;> rfl
 rw [e] at this
 exact this
theorem glob_of {W : World} {imm : Nat → Prop} (hT : ∀ x ∈ globT, Tab x.1 x.2 W) (hi : ∀ x ∈ globT, imm x.1) : Glob imm W := fun x hx => ⟨hi x hx, hT x hx⟩
theorem glob_lt {W : World} (hT : ∀ x ∈ globT, Tab x.1 x.2 W) : ∀ x ∈ globT, x.1 < W.heap.size := by
 intro x hx
 have h := hT x hx
 simp only [globT, List.mem_cons, List.not_mem_nil, or_false] at hx
 subst hx
 have := h 0 (by decide)
 unfold World.cell? at this
 split at this
 ·rename_i hh; exact (Array.getElem?_eq_some_iff.1 hh).1
 ·cases this
end
section
open Go.RowKit
def first1 : List Do → List (List Do)
 | [] => []
 | d :: _ => if d.k == 7 then [] else [[d]]
def firstP (p : Prog) : Prog := p.flatMap first1
theorem firstP_get {p : Prog} {i : Nat} {l : List Do} (h : p[i]? = some l) : firstP (p.take (i + 1)) = firstP (p.take i) ++ first1 l := by
 rw [take_get h]; simp [firstP]
theorem firstP_len {p : Prog} : (firstP p).length ≤ p.length ∧ ∀ l ∈ firstP p, l.length ≤ 1 := by
 induction p with
 | nil => exact ⟨Nat.le_refl _, fun l h => by simp [firstP] at h⟩
 | cons l p ih =>
  have h1 : (first1 l).length ≤ 1 ∧ ∀ m ∈ first1 l, m.length ≤ 1 := by
   cases l with
   | nil => simp [first1]
   | cons d l => rw [first1]; split <;> simp
  have e : firstP (l :: p) = first1 l ++ firstP p := by simp [firstP]
  rw [e]
  refine ⟨by rw [List.length_append, List.length_cons]; omega, fun m hm => ?_⟩
  rcases List.mem_append.1 hm with hm | hm
  ·exact h1.2 m hm
  ·exact ih.2 m hm
theorem lawOrderFirst_fn (bs : List Int) (hb : Code8 bs) : Fp Tryz.prog 10 [codeV bs] (.bool true) := by
  refine Fc.start (S := [12]) Tryz.func10 Tryz.ntmps10 Tryz.results10 rfl (by decide) rfl (by kernel_rfl) ?_
  by_cases h : (1048576 : Int) < bs.length
  · simp (disch := omega) only [push_cast, go_sem, zA, simprocAttr, codeV_eq, h]
  simp (disch := omega) only [push_cast, go_sem, zA, simprocAttr, codeV_eq, h]
  refine callR.ex (DrawOrderAll_fn bs hb (by omega)) rfl rfl ?_
  rintro r ⟨p, kind, rfl, hp, hl⟩
  have hl' : ∀ l ∈ p, l.length < 2 ^ 40 := fun l h => by have := hl l h; omega
  have hn := fun p k => (show (ordAll p k).length < 2 ^ 40 by have := ord_len p k; omega)
  have h1 := fun k => implOrderAll_fn p k (by omega) hl'
  have h2 := specOrderAll_fn p kind (by omega)
  simp only [ordI_eq] at h1
  have h3 := fun p k => lpList_fn (ordAll p k) (ordAll p k) ord_small ord_small (hn _ _) (hn _ _)
  simp only [decide_true] at h3
  have hok := specProgOk_fn p (by omega)
  rw [progV_eq] at h1 h2 hok
  simp (disch := omega) only [push_cast, go_sem, zA, simprocAttr, progV_eq]
  intro g3
  refine Sat.drawnE [] [] (List.range 13) (pureT [(28, .sl ((ordAll p kind).map Sn.V)), (31, .sl ((ordAll p kind).map Sn.V)), (30, .bool true), (36, .bool (progOk p))]) (by kernel_rfl) (by kernel_rfl) ?_
  simp (disch := omega) only [push_cast, go_sem, zA, simprocAttr]
  refine runD_pure rfl (h1 kind) rfl rfl ?_ ?_
  · rfl
  simp (disch := omega) only [push_cast, go_sem, zA, simprocAttr]
  refine runD_pure rfl h2 rfl rfl ?_ ?_
  · rfl
  simp (disch := omega) only [push_cast, go_sem, zA, simprocAttr]
  refine runD_pure rfl (h3 p kind) rfl rfl ?_ ?_
  · rfl
  simp (disch := omega) only [push_cast, go_sem, zA, simprocAttr]
  refine runD_pure rfl hok rfl rfl ?_ ?_
  · rfl
  cases hpo : progOk p
  · simp (disch := omega) only [push_cast, go_sem, zA, simprocAttr]
    refine Sat.drawnE [] [] (List.range 8) (pureT [(28, .sl ((ordAll p kind).map Sn.V)), (31, .sl ((ordAll p kind).map Sn.V)), (30, .bool true)]) (by kernel_rfl) (by kernel_rfl) ?_
    simp (disch := omega) only [push_cast, go_sem, zA, simprocAttr]
    refine runD_pure rfl (h1 kind) rfl rfl ?_ ?_
    · rfl
    simp (disch := omega) only [push_cast, go_sem, zA, simprocAttr]
    refine runD_pure rfl h2 rfl rfl ?_ ?_
    · rfl
    simp (disch := omega) only [push_cast, go_sem, zA, simprocAttr]
    refine runD_pure rfl (h3 p kind) rfl rfl ?_ ?_
    · rfl
    simp (disch := omega) only [push_cast, go_sem, zA, simprocAttr]
  simp (disch := omega) only [push_cast, go_sem, zA, simprocAttr]
  intro g5
  refine Sat.loop (σ := EvS) (fun x => upd (upd (upd (upd (upd noT 2 (.bool false)) 3 (.ptr 3 [] 0 0 g3 1)) 4 (.int .i64 kind)) 5 (.ptr 5 [] 0 0 g5 1)) 6 (.int .i64 x.k))
    (fun x => (noM.set 3 (boxP p g3)).set 5 (.own 25 (some g5) 1 [.agg [.own x.e x.γ x.c ((firstP (p.take x.k)).map thrV)]]))
    (fun x => x.k ≤ p.length ∧ (x.γ = none ∨ x.e = 60)) (fun x => p.length - x.k) ⟨0, 0, none, 0⟩ (by simp) ?_ ?_
  · (refine zB ?_; repeat (first | exact zC | exact zD | refine zE (by decide) ?_ | refine zF ?_ ?_ | refine zG ?_ ?_)) <;> (try simp (disch := omega) only [push_cast, go_sem, zA, simprocAttr])
    all_goals simp [boxP, firstP]
  rintro ⟨i, e, γ, c⟩ ⟨hi, hγ⟩ J hJ
  refine Sat.of (S := []) (by kernel_rfl) ?_
  simp only at hi hγ hJ
  have hfl := (firstP_len (p := p.take i)).1
  rw [List.length_take] at hfl
  have hγ' : (γ = none ∨ e = 60) = True := by simp only [hγ]
  rcases Nat.lt_or_ge i p.length with hlt | hge
  · obtain ⟨l, he⟩ : ∃ l, p[i]? = some l := ⟨_, List.getElem?_eq_getElem hlt⟩
    have hll := hl l (List.mem_of_getElem? he)
    have hfg := firstP_get he
    cases l with
    | nil =>
      simp (disch := omega) only [push_cast, go_sem, zA, simprocAttr, he, hlt, boxP_eq, thrV_eq]
      refine hJ ⟨i + 1, e, γ, c⟩ _ _ ⟨by dsimp only; omega, hγ⟩ (by dsimp only; omega) ?_
      dsimp only
      rw [hfg, first1, List.append_nil]
      (refine zB ?_; repeat (first | exact zC | exact zD | refine zE (by decide) ?_ | refine zF ?_ ?_ | refine zG ?_ ?_)) <;> (try simp (disch := omega) only [push_cast, go_sem, zA, simprocAttr])
      all_goals rfl
    | cons d l =>
      have hn0 : (l.length : Int) + 1 > 0 := by omega
      cases h7 : (d.k != 7)
      · have h7' : d.k = 7 := by simpa using h7
        simp (disch := omega) only [push_cast, go_sem, zA, simprocAttr, he, hlt, boxP_eq, thrV_eq, Do.V_eq, hn0, h7, List.map_cons, List.length_cons]
        refine hJ ⟨i + 1, e, γ, c⟩ _ _ ⟨by dsimp only; omega, hγ⟩ (by dsimp only; omega) ?_
        dsimp only
        rw [hfg, first1, h7']
        (refine zB ?_; repeat (first | exact zC | exact zD | refine zE (by decide) ?_ | refine zF ?_ ?_ | refine zG ?_ ?_)) <;> (try simp (disch := omega) only [push_cast, go_sem, zA, simprocAttr])
        rfl
      · have h7' : (d.k == 7) = false := by simpa using h7
        simp (disch := omega) only [push_cast, go_sem, zA, simprocAttr, he, hlt, boxP_eq, thrV_eq, Do.V_eq, hn0, h7, List.map_cons, List.length_cons]
        refine Sat.drawnE [(1, 8)] [] [0, 1, 2, 3, 4, 5, 6, 7, 10] (fun _ _ _ => none) (by kernel_rfl) (by kernel_rfl) ?_
        simp (disch := omega) only [push_cast, go_sem, zA, simprocAttr, he, hlt, boxP_eq, thrV_eq, Do.V_eq, hn0, List.map_cons, List.length_cons, hγ']
        refine ⟨⟨by omega, fun x hx => by rcases List.mem_cons.1 hx with rfl | hx; · rfl
                                          · obtain ⟨d', _, rfl⟩ := List.mem_map.1 hx; rfl⟩, fun g70 => ⟨by omega, fun γ2 c2 _ => ?_⟩⟩
        refine hJ ⟨i + 1, 60, γ2, c2⟩ _ _ ⟨by dsimp only; omega, .inr rfl⟩ (by dsimp only; omega) ?_
        dsimp only
        rw [hfg, first1, h7']
        (refine zB ?_; repeat (first | exact zC | exact zD | refine zE (by decide) ?_ | refine zF ?_ ?_ | refine zG ?_ ?_)) <;> (try simp (disch := omega) only [push_cast, go_sem, zA, simprocAttr])
        all_goals first | rfl | simp [thrV, Do.V]
  · have : i = p.length := by omega
    subst this
    rw [List.take_length] at hfl
    simp (disch := omega) only [push_cast, go_sem, zA, simprocAttr, boxP_eq, List.take_length]
    obtain ⟨q, hq⟩ : ∃ q, firstP p = q := ⟨_, rfl⟩
    have hql := firstP_len (p := p)
    rw [hq] at hql ⊢
    have hq1 : ∀ k, Fp Tryz.prog 28 [progV q, .int .i64 k] (.sl ((ordAll q k).map Sn.V)) := fun k => by
      have := implOrderAll_fn q k (by omega) (fun l h => by have := hql.2 l h; omega)
      rwa [ordI_eq] at this
    have hq2 := hq1 2
    have hq3 := hq1 3
    rw [first_ord hql.2 rfl] at hq2 hq3
    have hq1 := hq1 1
    rw [progV_eq] at hq1 hq2 hq3
    refine Sat.freezeC 5 [] 0 0 (n0 := .own 25 (some g5) 1 [.agg [.own e γ c (q.map thrV)]]) (d := .own e γ c (q.map thrV)) rfl rfl rfl ?_
    rw [fz_thrs]
    refine Sat.of (S := []) (by kernel_rfl) ?_
    simp (disch := omega) only [push_cast, go_sem, zA, simprocAttr]
    refine callR.pure hq1 rfl rfl ?_
    simp (disch := omega) only [push_cast, go_sem, zA, simprocAttr]
    refine callR.pure hq2 rfl rfl ?_
    simp (disch := omega) only [push_cast, go_sem, zA, simprocAttr]
    refine callR.pure (h3 q 1) rfl rfl ?_
    simp (disch := omega) only [push_cast, go_sem, zA, simprocAttr]
    refine callR.pure hq3 rfl rfl ?_
    simp (disch := omega) only [push_cast, go_sem, zA, simprocAttr]
    refine callR.pure (h3 q 1) rfl rfl ?_
    simp (disch := omega) only [push_cast, go_sem, zA, simprocAttr]
end
end Go.Proofs.YtfbgabkcjjahiaaGreatDoor
