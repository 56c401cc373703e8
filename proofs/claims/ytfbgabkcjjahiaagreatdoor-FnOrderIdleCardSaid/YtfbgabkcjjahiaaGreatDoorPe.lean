/-
 Contracts and plain laws.
-/
import Derived.Test.YtfbgabkcjjahiaaGreatDoorPa
import Derived.Test.YtfbgabkcjjahiaaGreatDoorPb
import Derived.Test.YtfbgabkcjjahiaaGreatDoorPd
import Derived.StillTailTactics
import Derived.Sort.Grow
set_option linter.unusedSimpArgs false
set_option linter.unusedVariables false
set_option linter.unusedSectionVars false
namespace Go.Proofs.YtfbgabkcjjahiaaGreatDoor
section
open Go.RowKit
theorem kinds {d : Do} (hu : d.uses = true) : (d.reads = true ∧ d.valued = false ∧ (d.k == 3) = false) ∨ (d.reads = false ∧ d.valued = false ∧ (d.k == 3) = true) ∨ (d.reads = false ∧ d.valued = true ∧ (d.k == 3) = false) := by
 simp only [Do.uses, Do.reads, Do.writes, Do.valued] at *
 by_cases h1 : d.k = 1
 ·simp [h1]
 by_cases h2 : d.k = 2
 ·simp [h2]
 by_cases h3 : d.k = 3
 ·simp [h3]
 by_cases h5 : d.k = 5
 ·simp [h5]
 by_cases h6 : d.k = 6
 ·simp [h6]
 ·simp [h1, h2, h3, h5, h6] at hu
def orM (o : Option Int) : Int := match o with | some v => v | none => -1
theorem val_eq {p : Prog} (hok : progOk p = true) {x : Exe} (hf : fromOk (scene p).ds x.fr) : ∀ (m a : Nat) (d : Do), (scene p).ds[a]? = some d → d.uses = true →
  valS (events p) (scene p).ds x.fr m a = orM (valI (scene p).ds x.fr m a) ∧ ∀ v, valI (scene p).ds x.fr m a = some v → 0 ≤ v := by
 intro m
 induction m with
 | zero =>
  intro a d hd hu
  have : ¬ ((a : Int) < 0) := by omega
  simp [valS, valI, this, orM]
 | succ m ih =>
  intro a d hd hu
  have h0 : ¬ ((a : Int) < 0) := by omega
  rw [valS, if_neg h0, valI]
  simp only [Int.toNat_natCast, hd]
  rcases kinds hu with ⟨hr, hv, h3⟩ | ⟨hr, hv, h3⟩ | ⟨hr, hv, h3⟩
  ·simp only [hr, hv, h3, if_true, Bool.false_eq_true, if_false]
   have hal := (List.getElem?_eq_some_iff.1 hd).1
   obtain ⟨f, hfa⟩ : ∃ f, x.fr[a]? = some f := ⟨_, List.getElem?_eq_getElem (by have := hf.1; omega)⟩
   rw [hfa, Option.getD_some]
   dsimp only
   rcases hf.2 a d f hd hfa hr with rfl | ⟨b, d', rfl, h1, h2⟩
   ·have : ∀ m, valS (events p) (scene p).ds x.fr m (-1) = 0 := fun m => by cases m <;> simp [valS]
    rw [this]
    simp [orM]
   ·have hb : (((b : Nat) : Int) == -1) = false := beq_eq_false_iff_ne.2 (by omega)
    rw [hb]
    simp only [Bool.false_eq_true, if_false, Int.toNat_natCast]
    exact ih b d' h1 (by simp [Do.uses, h2])
  ·simp only [hr, hv, h3, if_true, Bool.false_eq_true, if_false]
   have h3' : d.k = 3 := by simpa using h3
   obtain ⟨e, he⟩ : ∃ e, (events p)[a]? = some e := ⟨_, List.getElem?_eq_getElem (by have := (List.getElem?_eq_some_iff.1 hd).1; simpa [scene] using this)⟩
   have hst : stepAt p e = d := by have := scene_get he; rw [hd] at this; cases this; rfl
   rw [src_last hok he (by rw [hst]; exact h3')]
   obtain ⟨_, ⟨d', k2, k3⟩, _⟩ := lastRd_spec (scene_copy hok a d hd h3')
   exact ih _ d' k2 (by simp [Do.uses, k3])
  ·simp only [hr, hv, h3, if_true, Bool.false_eq_true, if_false, orM]
   have := formed_val (scene_formed hok d (List.mem_of_getElem? hd))
   exact ⟨trivial, fun v hv => by cases hv; exact this⟩
theorem ends_eq {p : Prog} (hok : progOk p = true) {x : Exe} (hf : fits (scene p) x = true) : (scene p).ds.zipIdx.all (endOk (scene p).ds x.fr) = endsS p x := by
 have hsl : (scene p).ds.length = (events p).length := by simp [scene]
 have hfr := fromOk_of (scene_len p) hf
 have key : ∀ (a : Nat) (d : Do), (scene p).ds[a]? = some d → endOk (scene p).ds x.fr (d, a) = endS p x.fr a := by
  intro a d hd
  simp only [endOk, endS]
  cases hu : d.uses
  ·have hr : d.reads = false := by cases h : d.reads <;> simp [Do.uses, h] at hu ⊢
   have hw : d.writes = false := by cases h : d.writes <;> simp [Do.uses, h] at hu ⊢
   have h3 : (d.k == 3) = false := by cases h : (d.k == 3) <;> simp [Do.writes, h] at hw ⊢
   have h0 : ¬ ((a : Int) < 0) := by omega
   have : valS (events p) (scene p).ds x.fr (2 * (events p).length + 2) a = d.v := by
    rw [show 2 * (events p).length + 2 = (2 * (events p).length + 1) + 1 from rfl, valS, if_neg h0]
    simp [hd, hr, h3]
   rw [this]
   have := formed_val (scene_formed hok d (List.mem_of_getElem? hd))
   have : ¬ d.v < 0 := by omega
   simp [this]
  ·obtain ⟨h1, h2⟩ := val_eq hok hfr (2 * (events p).length + 2) a d hd hu
   rw [h1]
   cases hv : valI (scene p).ds x.fr (2 * (events p).length + 2) a with
   | none =>
    have : valI (scene p).ds x.fr (scene p).ds.length a = none := by
     cases hn : valI (scene p).ds x.fr (scene p).ds.length a with
     | none => rfl
     | some v =>
      have := valI_up hn ((events p).length + 2)
      rw [hsl, show (events p).length + ((events p).length + 2) = 2 * (events p).length + 2 by omega, hv] at this
      cases this
    rw [this]; simp [orM]
   | some v =>
    rw [valI_enough hv]
    have := h2 v hv
    have : ¬ v < 0 := by omega
    simp [orM, this]
 rw [endsS, Bool.eq_iff_iff]
 simp only [List.all_eq_true]
 constructor
 ·intro h a ha
  have hal : a < (scene p).ds.length := by rw [hsl]; simpa using ha
  have hd : (scene p).ds[a]? = some (scene p).ds[a] := List.getElem?_eq_getElem hal
  rw [← key a _ hd]
  exact h _ (List.mem_of_getElem? (i := a) (by simp [hd]))
 ·rintro h ⟨d, a⟩ hq
  obtain ⟨i, hi⟩ := List.getElem?_of_mem hq
  simp only [List.getElem?_zipIdx, Option.map_eq_some_iff, Prod.mk.injEq, Nat.zero_add] at hi
  obtain ⟨d', hd, rfl, rfl⟩ := hi
  rw [key i _ hd]
  exact h i (by rw [← hsl]; simpa using (List.getElem?_eq_some_iff.1 hd).1)
theorem ok_eq (p : Prog) (x : Exe) : execOk p x = specOk p x := by
 unfold execOk specOk
 cases hok : progOk p
 ·rfl
 simp only [Bool.true_and]
 unfold okX
 cases hf : fits (scene p) x
 ·rw [← fits_form hok, hf]; rfl
 ·rw [← fits_form hok, hf, ends_eq hok hf]
theorem erase_perm {l : List Int} {i : Nat} (h : i < l.length) : (l[i] :: l.eraseIdx i).Perm l := by
 have e : l.take i ++ l[i] :: l.drop (i + 1) = l := by rw [← List.drop_eq_getElem_cons h, List.take_append_drop]
 rw [List.eraseIdx_eq_take_drop_succ]
 conv => rhs; rw [← e]
 exact List.perm_middle.symm
theorem mem_perms : ∀ {n : Nat} {l row : List Int}, l.length = n → l.Perm row → row ∈ perms n l
 | 0, l, row, hl, hp => by
  have : l = [] := List.eq_nil_of_length_eq_zero hl
  subst this
  have : row = [] := by simpa using hp.symm
  subst this; simp [perms]
 | n + 1, l, row, hl, hp => by
  cases row with
  | nil => have := hp.length_eq; rw [hl] at this; simp at this
  | cons z row =>
   have hz : z ∈ l := hp.mem_iff.2 (by simp)
   obtain ⟨i, hi⟩ := List.getElem?_of_mem hz
   have hil := (List.getElem?_eq_some_iff.1 hi).1
   have hzi : l[i] = z := (List.getElem?_eq_some_iff.1 hi).2
   have h1 : (z :: l.eraseIdx i).Perm l := by rw [← hzi]; exact erase_perm hil
   have h2 : (l.eraseIdx i).Perm row := (h1.trans hp).cons_inv
   simp only [perms, List.mem_flatMap, List.mem_range, List.mem_map]
   exact ⟨i, hil, row, mem_perms (by rw [List.length_eraseIdx_of_lt hil]; omega) h2, by simp [List.getD, hi]⟩
theorem mem_froms {ds : List Do} {fr : List Int} (h : ∀ (j : Nat) (d : Do), ds[j]? = some d → ∃ f, fr[j]? = some f ∧ f ∈ choicesOf ds d) : ∀ k, k ≤ ds.length → fr.take k ∈ fromsK ds k
 | 0, _ => by simp [fromsK]
 | k + 1, hk => by
  have hd : ds[k]? = some ds[k] := List.getElem?_eq_getElem (by omega)
  obtain ⟨f, hf, hc⟩ := h k _ hd
  rw [fromsK, hd]
  simp only [List.mem_flatMap, List.mem_map]
  exact ⟨fr.take k, mem_froms h k (by omega), f, hc, (take_get hf).symm⟩
theorem mem_orders {ds : List Do} {od : List (List Int)} (h : ∀ (j : Nat), j < 3 → ∃ r, od[j]? = some r ∧ (writersOf ds j).Perm r) : ∀ k, k ≤ 3 → od.take k ∈ ordersK ds k
 | 0, _ => by simp [ordersK]
 | k + 1, hk => by
  obtain ⟨r, hr, hp⟩ := h k (by omega)
  rw [ordersK]
  simp only [List.mem_flatMap, List.mem_map]
  exact ⟨od.take k, mem_orders h k (by omega), r, mem_perms rfl hp, (take_get hr).symm⟩
theorem mem_all {p : Prog} (hok : progOk p = true) (x : Exe) : x ∈ allOf (scene p) ↔ okX (scene p) x = true := by
 have hsl : (scene p).ds.length = (events p).length := by simp [scene]
 constructor
 ·intro h
  simp only [allOf, List.mem_flatMap] at h
  obtain ⟨f, _, o, _, h⟩ := h
  unfold oneOf at h
  split at h
  ·simp at h; subst h; assumption
  ·cases h
 ·intro h
  have hfit : fits (scene p) x = true := by unfold okX at h; simp only [Bool.and_eq_true] at h; exact h.1
  have hform : formS p x = true := by rw [← fits_form hok]; exact hfit
  have h' := hform
  simp only [formS, Bool.and_eq_true, decide_eq_true_eq, List.all_eq_true] at h'
  obtain ⟨⟨⟨h1, h2⟩, h3⟩, _⟩ := h'
  simp only [fits, Bool.and_eq_true, decide_eq_true_eq, List.all_eq_true] at hfit
  obtain ⟨⟨_, h4⟩, _⟩ := hfit
  have m1 : x.fr ∈ fromsOf (scene p).ds := by
   have := mem_froms (ds := (scene p).ds) (fr := x.fr) (fun j d hd => by
    have hj : j < x.fr.length := by have := (List.getElem?_eq_some_iff.1 hd).1; omega
    have hf : x.fr[j]? = some x.fr[j] := List.getElem?_eq_getElem hj
    refine ⟨_, hf, ?_⟩
    have := h4 (d, x.fr[j]) (List.mem_of_getElem? (i := j) (by simp [List.getElem?_zip_eq_some, hd, hf]))
    simp only [frOk] at this
    unfold choicesOf
    cases hr : d.reads
    ·simp only [hr, Bool.false_eq_true, if_false, beq_iff_eq] at this ⊢
     simp [this]
    ·simp only [hr, if_true, Bool.or_eq_true, beq_iff_eq, List.contains_iff_mem] at this ⊢
     simp only [List.mem_cons]
     exact this) (scene p).ds.length (Nat.le_refl _)
   rwa [List.take_of_length_le (by omega)] at this
  have m2 : x.od ∈ ordersOf (scene p).ds := by
   have := mem_orders (ds := (scene p).ds) (od := x.od) (fun j hj => by
    have hr : x.od[j]? = some x.od[j] := List.getElem?_eq_getElem (by omega)
    refine ⟨_, hr, ?_⟩
    have := h3 j (by simpa using hj)
    simp only [placeS, hr, Option.getD_some, Bool.and_eq_true, beq_iff_eq, List.all_eq_true, List.contains_iff_mem] at this
    exact perm_of (writers_nodup _ _) this.2 (by omega)) 3 (Nat.le_refl _)
   rwa [List.take_of_length_le (by omega)] at this
  simp only [allOf, List.mem_flatMap]
  exact ⟨x.fr, m1, x.od, m2, by unfold oneOf; rw [if_pos h]; simp⟩
theorem mem_execAll (p : Prog) (x : Exe) : x ∈ execAll p ↔ execOk p x = true := by
 unfold execAll execOk
 cases hok : progOk p
 ·simp
 ·simp only [if_true, Bool.true_and]
  exact mem_all hok x
end
section
open Go.RowKit
theorem scene_p {p : Prog} (h : progOk p = true) : ∀ d ∈ (scene p).ds, d.uses = true → 0 ≤ d.p ∧ d.p < 3 := fun d hd hu => by
 have := formed_place (scene_formed h d hd) hu; omega
structure Way (p : Prog) (x : Exe) : Prop where
 ok : progOk p = true
 fr : x.fr.length = (scene p).ds.length
 od : x.od.length = 3
 from_ : ∀ (i : Nat) d f, (scene p).ds[i]? = some d → x.fr[i]? = some f → frOk (scene p).ds (d, f) = true
theorem Way.of {p : Prog} {x : Exe} (h : execOk p x = true) : Way p x := by
 simp only [execOk, okX, fits, Bool.and_eq_true, decide_eq_true_eq] at h
 obtain ⟨h0, ⟨⟨⟨h1, h2⟩, h3⟩, h4⟩, h5⟩ := h
 refine ⟨h0, by rw [h1, scene_len], h2, fun i d f hd hf => ?_⟩
 rw [List.all_eq_true] at h3
 refine h3 (d, f) (List.mem_of_getElem? (i := i) ?_)
 rw [List.getElem?_zip_eq_some]
 exact ⟨hd, hf⟩
theorem Way.read {p : Prog} {x : Exe} (h : Way p x) {a b : Nat} (hb : x.fr[b]? = some (a : Int)) : ((scene p).ds[a]?.getD default).writes = true ∧ ((scene p).ds[b]?.getD default).reads = true := by
 have hbl := (List.getElem?_eq_some_iff.1 hb).1
 obtain ⟨d, hd⟩ : ∃ d, (scene p).ds[b]? = some d := ⟨_, List.getElem?_eq_getElem (by rw [← h.fr]; exact hbl)⟩
 have := h.from_ b d a hd hb
 simp only [frOk] at this
 split at this
 ·rename_i hr
  rw [Bool.or_eq_true] at this
  rcases this with h1 | h1
  ·simp at h1
  ·have h2 : (a : Int) ∈ writersOf (scene p).ds d.p := by simpa using h1
   obtain ⟨b', d', k1, k2, k3, k4, _⟩ := mem_wrs h2
   have : a = b' := by omega
   subst this
   rw [hd, k3]
   exact ⟨k4, hr⟩
 ·simp at this
section
variable (p : Prog) (x : Exe)
def dsA (a : Nat) : Do := (scene p).ds[a]?.getD default
def sameS (a b : Nat) : Bool := (dsA p a).uses && (dsA p b).uses && (dsA p a).p == (dsA p b).p
def readS (a b : Nat) : Bool := (dsA p a).writes && (dsA p b).reads && x.fr[b]?.getD 0 == (a : Int)
def rankS (a : Nat) : Int := if (dsA p a).writes then Lib.idxOf (x.od[(dsA p a).p.toNat]?.getD []) a else if (dsA p a).reads then Lib.idxOf (x.od[(dsA p a).p.toNat]?.getD []) (x.fr[a]?.getD 0) else 0
def overS (a b : Nat) : Bool := (dsA p b).writes && !(a == b) && sameS p a b && decide (rankS p x a < rankS p x b)
def insS (a b : Nat) : Bool := ownB (events p) a b && (kd (scene p).ds a == 7 || kd (scene p).ds b == 8) && (List.range b).all fun k => decide (k ≤ a) || !((kd (scene p).ds a == 7 && kd (scene p).ds k == 8) || (kd (scene p).ds b == 8 && kd (scene p).ds k == 7))
def wallB (d : Do) : Bool := d.k == 4 || d.k == 9
def looseS (a b : Nat) : Bool := ownB (events p) a b && (wallB (dsA p a) || wallB (dsA p b) || (dsA p a).k == 5 || (dsA p b).k == 6 || insS p a b || ((dsA p b).k == 3 && srcOf (events p) (scene p).ds b b == (a : Int)))
def staysS (kind : Int) (a b : Nat) : Bool := if kind == 1 then ownB (events p) a b else if kind == 2 then ownB (events p) a b && !((dsA p a).writes && (dsA p b).reads) else if kind == 3 then looseS p a b else ownB (events p) a b && sameS p a b
def apartS (a b : Nat) : Bool := th (events p) a != th (events p) b
def toldS (kind : Int) (a b : Nat) : Bool := if kind == 2 then (apartS p a b && readS p x a b) || overS p x a b else if kind == 3 then apartS p a b && (readS p x a b || overS p x a b) else readS p x a b || overS p x a b
end
theorem writes_noreads {d : Do} (h : d.writes = true) : d.reads = false := by
 simp only [Do.writes, Do.reads, Bool.or_eq_true, beq_iff_eq] at *
 cases hr : (d.k == 2 || d.k == 5) <;> simp_all <;> omega
theorem read_eq {p : Prog} {x : Exe} (h : Way p x) {a b : Nat} (hb : b < (scene p).ds.length) : readS p x a b = (x.fr[b]?.getD 0 == (a : Int)) := by
 obtain ⟨z, hz⟩ : ∃ z, x.fr[b]? = some z := ⟨_, List.getElem?_eq_getElem (by rw [h.fr]; exact hb)⟩
 rw [readS, hz, Option.getD_some]
 by_cases hza : z = (a : Int)
 ·subst hza
  obtain ⟨h1, h2⟩ := h.read hz
  simp [dsA, h1, h2]
 ·simp [hza]
theorem over_eq (p : Prog) (x : Exe) (a b : Nat) : overS p x a b = overB (scene p).ds x a b := by
 obtain ⟨da, hda⟩ : ∃ d, (scene p).ds[a]?.getD default = d := ⟨_, rfl⟩
 obtain ⟨db, hdb⟩ : ∃ d, (scene p).ds[b]?.getD default = d := ⟨_, rfl⟩
 simp only [overS, overB, sameS, rankS, dsA, hda, hdb]
 cases hw : db.writes
 ·simp
 have hub : db.uses = true := by simp [Do.uses, hw]
 cases hab : (a == b)
 ·cases hua : da.uses
  ·simp
  cases hpp : (da.p == db.p)
  ·simp
  have hpe : da.p = db.p := by simpa using hpp
  rw [hpe]
  cases hwa : da.writes
  ·have hra : da.reads = true := by simpa [Do.uses, hwa] using hua
   simp [hub, hra]
  ·simp [hub, writes_noreads hwa]
 ·simp
theorem bkI_some {es : List Evt} {ds : List Do} {a f : Nat} : ∀ {k : Nat}, bkI es ds a k = some f → f ≤ k ∧ kd ds f = 7 ∧ (∀ j, f < j → j ≤ k → kd ds j ≠ 7) ∧ (∀ j, f < j → j ≤ k → j ≠ a → kd ds j ≠ 8) ∧ ∀ j, f ≤ j → j < k → th es j = th es a
 | 0, h => by
  rw [bkI] at h
  split at h
  ·rename_i h7
   cases h
   exact ⟨Nat.le_refl _, by simpa using h7, fun j h1 h2 => absurd h1 (by omega), fun j h1 h2 => absurd h1 (by omega), fun j h1 h2 => absurd h2 (by omega)⟩
  ·cases h
 | k + 1, h => by
  rw [bkI] at h
  split at h
  ·rename_i h7
   cases h
   exact ⟨Nat.le_refl _, by simpa using h7, fun j h1 h2 => absurd h1 (by omega), fun j h1 h2 => absurd h1 (by omega), fun j h1 h2 => absurd h2 (by omega)⟩
  ·rename_i h7
   split at h
   ·cases h
   ·rename_i h8
    split at h
    ·cases h
    ·rename_i ht
     obtain ⟨k1, k2, k3, k4, k5⟩ := bkI_some h
     have h7' : kd ds (k + 1) ≠ 7 := by simpa using h7
     have ht' : th es k = th es a := by simpa using ht
     refine ⟨by omega, k2, fun j h1 h2 => ?_, fun j h1 h2 h3 => ?_, fun j h1 h2 => ?_⟩
     ·rcases Nat.lt_or_ge j (k + 1) with hh | hh
      ·exact k3 j h1 (by omega)
      ·have : j = k + 1 := by omega
       subst this; exact h7'
     ·rcases Nat.lt_or_ge j (k + 1) with hh | hh
      ·exact k4 j h1 (by omega) h3
      ·have : j = k + 1 := by omega
       subst this
       intro h8'
       exact h8 (by simp [h8', h3])
     ·rcases Nat.lt_or_ge j k with hh | hh
      ·exact k5 j h1 hh
      ·have : j = k := by omega
       subst this; exact ht'
theorem bkI_of {es : List Evt} {ds : List Do} {a f : Nat} (h7 : kd ds f = 7) : ∀ {k : Nat}, f ≤ k → (∀ j, f < j → j ≤ k → kd ds j ≠ 7) → (∀ j, f < j → j ≤ k → j ≠ a → kd ds j ≠ 8) → (∀ j, f ≤ j → j < k → th es j = th es a) → bkI es ds a k = some f
 | 0, h1, _, _, _ => by
  have : f = 0 := by omega
  subst this
  rw [bkI, h7]; rfl
 | k + 1, h1, h2, h3, h4 => by
  rcases Nat.lt_or_ge f (k + 1) with hh | hh
  ·have e1 : (kd ds (k + 1) == 7) = false := by simpa using h2 (k + 1) hh (Nat.le_refl _)
   have e2 : (!(k + 1 == a) && kd ds (k + 1) == 8) = false := by
    by_cases ha : k + 1 = a
    ·simp [ha]
    ·have := h3 (k + 1) hh (Nat.le_refl _) ha
     simp [this]
   have e3 : (th es k != th es a) = false := by have := h4 k (by omega) (by omega); simp [this]
   rw [bkI, e1, e2, e3]
   simp only [Bool.false_eq_true, if_false]
   exact bkI_of h7 (by omega) (fun j k1 k2 => h2 j k1 (by omega)) (fun j k1 k2 => h3 j k1 (by omega)) (fun j k1 k2 => h4 j k1 (by omega))
  ·have : f = k + 1 := by omega
   subst this
   rw [bkI, h7]; rfl
theorem insS_iff {p : Prog} {a b : Nat} (ho : ownB (events p) a b = true) : insS p a b = true ↔ (kd (scene p).ds a = 7 ∨ kd (scene p).ds b = 8) ∧ ∀ k, a < k → k < b → ¬ (kd (scene p).ds a = 7 ∧ kd (scene p).ds k = 8) ∧ ¬ (kd (scene p).ds b = 8 ∧ kd (scene p).ds k = 7) := by
 rw [insS, ho, Bool.true_and, Bool.and_eq_true, Bool.or_eq_true, beq_iff_eq, beq_iff_eq, List.all_eq_true]
 refine and_congr Iff.rfl ⟨fun h k h1 h2 => ?_, fun h k hk => ?_⟩
 ·have := h k (List.mem_range.2 h2)
  rw [Bool.or_eq_true, decide_eq_true_eq] at this
  have := this.resolve_left (by omega)
  simp only [Bool.not_eq_true', Bool.or_eq_false_iff, Bool.and_eq_false_iff, beq_eq_false_iff_ne] at this
  omega
 ·rw [Bool.or_eq_true, decide_eq_true_eq]
  rcases Nat.lt_or_ge a k with hh | hh
  ·right
   have := h k hh (List.mem_range.1 hk)
   simp only [Bool.not_eq_true', Bool.or_eq_false_iff, Bool.and_eq_false_iff, beq_eq_false_iff_ne]
   omega
  ·exact .inl hh
theorem Quiet.out {p : Prog} {f t : Nat} (h : Quiet p f t) (h7 : kd (scene p).ds f = 7) (h8 : kd (scene p).ds t = 8) : IsOut (scene p).ds f t := by
 refine ⟨by have := h.lt; omega, by have := h.tl; simpa [scene] using this, h8, fun j h1 h2 => ?_⟩
 rcases Nat.lt_or_ge f j with hh | hh
 ·exact (h.no j hh h2).2.1
 ·have : j = f := by omega
  subst this; omega
theorem out_ex {p : Prog} (h : progOk p = true) (a : Nat) (ha : a < (events p).length) : ∃ t, ∀ f, bkI (events p) (scene p).ds a a = some f → Quiet p f t ∧ kd (scene p).ds f = 7 ∧ kd (scene p).ds t = 8 := by
 cases hb : bkI (events p) (scene p).ds a a with
 | none => exact ⟨0, fun f hf => by cases hf⟩
 | some f =>
  obtain ⟨k1, k2, _⟩ := bkI_some hb
  obtain ⟨t, h1, h2⟩ := in_out h (by omega) k2
  exact ⟨t, fun f' hf => by cases hf; exact ⟨h1, k2, h2⟩⟩
def insI (p : Prog) (a b t : Nat) : Bool := match bkI (events p) (scene p).ds a a with
 | none => false
 | some f => (kd (scene p).ds a == 7 || kd (scene p).ds b == 8) && decide (a ≤ t) && decide (f ≤ a) && decide (b ≤ t) && (kd (scene p).ds a == 7 || b == t)
theorem ins_eq {p : Prog} (h : progOk p = true) {a b t : Nat} (hb : b < (events p).length) (ho : ownB (events p) a b = true) (ht : ∀ f, bkI (events p) (scene p).ds a a = some f → Quiet p f t ∧ kd (scene p).ds f = 7 ∧ kd (scene p).ds t = 8) :
  insI p a b t = insS p a b := by
 have hab : a < b ∧ th (events p) a = th (events p) b := by simpa [ownB, th] using ho
 rw [Bool.eq_iff_iff, insS_iff ho]
 by_cases h7 : kd (scene p).ds a = 7
 ·have hbk : bkI (events p) (scene p).ds a a = some a := bkI_of h7 (Nat.le_refl _) (fun j h1 h2 => absurd h1 (by omega)) (fun j h1 h2 => absurd h1 (by omega)) (fun j h1 h2 => absurd h1 (by omega))
  obtain ⟨q, _, h8⟩ := ht a hbk
  rw [insI, hbk]
  have := q.lt
  have e1 : decide (a ≤ t) = true := by simp; omega
  simp only [h7, e1, beq_self_eq_true, Bool.true_or, Bool.true_and, Bool.and_true, Nat.le_refl, decide_true, decide_eq_true_eq, true_or, true_and]
  constructor
  ·intro hbt k k1 k2
   have := q.no k k1 (by omega)
   omega
  ·intro hk
   rcases Nat.lt_or_ge t b with hh | hh
   ·exact absurd h8 (hk t q.lt hh).1
   ·exact hh
 ·have h7' : (kd (scene p).ds a == 7) = false := by simpa using h7
  by_cases h8 : kd (scene p).ds b = 8
  ·obtain ⟨f', q, hf7⟩ := out_in h hb h8
   constructor
   ·intro hi
    refine ⟨.inr h8, fun k k1 k2 => ⟨by omega, fun hk => ?_⟩⟩
    rw [insI] at hi
    split at hi
    ·cases hi
    ·rename_i f hf
     obtain ⟨q2, _, _⟩ := ht f hf
     rw [h7'] at hi
     simp only [Bool.and_eq_true, decide_eq_true_eq, Bool.false_or, beq_iff_eq] at hi
     have := (q2.no k (by omega) (by omega)).1
     exact this hk.2
   ·rintro ⟨_, hk⟩
    have hfa : f' < a := by
     rcases Nat.lt_or_ge f' a with hh | hh
     ·exact hh
     ·rcases Nat.lt_or_ge a f' with h2 | h2
      ·exact absurd ⟨h8, hf7⟩ (hk f' h2 q.lt).2
      ·have : f' = a := by omega
       subst this; exact absurd hf7 h7
    have hbk : bkI (events p) (scene p).ds a a = some f' := by
     refine bkI_of hf7 (by omega) (fun j h1 h2 => (q.no j h1 (by omega)).1) (fun j h1 h2 _ => (q.no j h1 (by omega)).2.1) (fun j h1 h2 => ?_)
     have e : ∀ j, f' ≤ j → j < b → th (events p) j = th (events p) f' := fun j h1 h2 => by
      rcases Nat.lt_or_ge f' j with hh | hh
      ·exact (q.no j hh h2).2.2
      ·have : j = f' := by omega
       rw [this]
     rw [e j h1 (by omega), e a (by omega) hab.1]
    obtain ⟨q2, _, ht8⟩ := ht f' hbk
    have htb : t = b := by
     rcases Nat.lt_or_ge t b with hh | hh
     ·exact absurd ht8 (q.no t q2.lt hh).2.1
     ·rcases Nat.lt_or_ge b t with h2 | h2
      ·exact absurd h8 (q2.no b (by omega) h2).2.1
      ·omega
    subst htb
    rw [insI, hbk]
    simp [h8]
    omega
  ·have h8' : (kd (scene p).ds b == 8) = false := by simpa using h8
   constructor
   ·intro hi
    rw [insI] at hi
    split at hi
    ·cases hi
    ·simp [h7', h8'] at hi
   ·rintro ⟨hk, _⟩
    omega
end
section
open Go.RowKit
section
variable {P : Program} {M : Mem} {k : V → Mem → Prop} {ro c : Bool}
abbrev Fo (P : Program) (f : FuncId) (bs : List V) (g n : Nat) (o v : V) : Prop := Fc P f (.ptr 0 [] 0 0 g n :: bs) (noM.set 0 o) fun r m => r = v ∧ m = noM.set 0 o
theorem look_nodup {a g n : Nat} {xs : List V} (hk : (xs.all fun v => v.key.isNone) = true) : (((V.ptr a [] 0 0 g n :: xs).map V.key).filterMap id).Nodup := by
 have hk' : ((xs.map V.key).all fun x => x.isNone) = true := by rw [List.all_map]; exact hk
 rw [List.map_cons, List.filterMap_cons]
 show (a :: (xs.map V.key).filterMap id).Nodup
 rw [keys_none hk']; simp
theorem look_foot {a g n : Nat} {xs : List V} {o : V} (hM : M a = some o) : footM M ((V.ptr a [] 0 0 g n :: xs).map V.key) 0 = some o := by simp [footM, V.key, hM]
theorem look_merge {a g n : Nat} {xs : List V} {o : V} {d : Option Nat} (hM : M a = some o) (hk : (xs.all fun v => v.key.isNone) = true) : mergeM M ((V.ptr a [] 0 0 g n :: xs).map V.key) d (noM.set 0 o) = M := by
 have hk' : ((xs.map V.key).all fun x => x.isNone) = true := by rw [List.all_map]; exact hk
 rw [merge_eq, List.map_cons]
 have e1 : (noM.set 0 o) 100 = none := rfl
 have e2 : (noM.set 0 o) 0 = some o := rfl
 rw [e1, mgD_none', key_ptr, mg_some, e2, mg_all_none hk', MemU_some, set_self hM]
theorem look_args {a g n : Nat} {xs : List V} (hk : (xs.all fun v => v.key.isNone) = true) : renArgs 0 (V.ptr a [] 0 0 g n :: xs) = .ptr 0 [] 0 0 g n :: xs := by rw [renArgs_cons, renArgs_none hk]; rfl
theorem callR.look {f : FuncId} {bs : List V} {a g n : Nat} {o v : V} {d : Option Nat} (h : Fo P f bs g n o v) (hM : M a = some o) (hk : (bs.all fun v => v.key.isNone) = true) (h9 : Nat.ble (bs.length + 1) 90 = true)
  (hK : runV (some (True, det (resN d v) M)) k .mk) : callR P f (.ptr a [] 0 0 g n :: bs) d M k .mk := by
 refine callR.intro (F := noM.set 0 o) (R := fun r m => r = v ∧ m = noM.set 0 o) (by rw [look_args hk]; exact h) (look_nodup hk) (Nat.le_of_ble_eq_true h9) (Sub.set Sub.no (look_foot hM)) ?_
 rintro r0 Mf ⟨rfl, rfl⟩
 rw [look_merge hM hk]
 exact (runV_det.1 hK).2
def lookT (o : V) (pure looks : List (FuncId × V)) : Table := fun f args F => match pure.lookup f with
 | some v => some fun r m => r = v ∧ m = noM
 | none => (looks.lookup f).map fun v r m => r = v ∧ m = noM.set 0 o
theorem runD_look {f : FuncId} {xs : List V} {a g n : Nat} {o v : V} {d : Nat} {pure looks : List (FuncId × V)} (h : Fo P f xs g n o v) (hM : M a = some o) (hp : pure.lookup f = none) (hl : looks.lookup f = some v)
  (hk : (xs.all fun v => v.key.isNone) = true) (h9 : Nat.ble (xs.length + 1) 90 = true) (hchk : c = true) (hK : runV (some (True, det (resN (some d) v) M)) k .mk) :
  runD (callV (specT P (lookT o pure looks)) f (.ptr a [] 0 0 g n :: xs) (some d) M) ro M c k .mk := by
 refine runD_call (F := noM.set 0 o) (R := fun r m => r = v ∧ m = noM.set 0 o) (by simp only [lookT, hp, hl, Option.map_some]) (by rw [look_args hk]; exact h) (Sub.set Sub.no (look_foot hM)) (look_nodup hk) (Nat.le_of_ble_eq_true h9) ⟨v, _, rfl, rfl⟩
  (fun _ r0 Mf hr => by rw [hr.2]; exact look_merge hM hk) hchk ?_
 rintro r0 r Mf ⟨rfl, rfl⟩ h5
 rw [look_merge hM hk, h5 d rfl]
 exact (runV_det.1 hK).2
end
def ordV (p : Prog) (g : Nat) (c2 c3 c4 c5 : V) : V := .own 134 (some g) 1 [.agg [.sl (p.map thrV), .sl ((events p).map Evt.V), c2, c3, c4, c5]]
theorem ordV_eq (p : Prog) (g : Nat) (c2 c3 c4 c5 : V) : ordV p g c2 c3 c4 c5 = .own 134 (some g) 1 [.agg [.sl (p.map thrV), .sl ((events p).map Evt.V), c2, c3, c4, c5]] := rfl
section
variable (p : Prog) (g : Nat) (c2 c3 c4 c5 : V) (a b : Nat)
theorem odo_fn (ha : a < (events p).length) : Fo Tryz.prog 102 [.int .i64 a] g 6 (ordV p g c2 c3 c4 c5) (dsA p a).V := by
 obtain ⟨ea, hea⟩ : ∃ e, (events p)[a]? = some e := ⟨_, List.getElem?_eq_getElem ha⟩
 have e1 : dsA p a = stepAt p ea := by rw [dsA, scene_get hea]; rfl
 have hdo := l12Do_fn p ea (evIn_of (List.mem_of_getElem? hea))
 rw [e1]
 rw [progV_eq, Evt.V_eq, Do.V_eq] at hdo
 refine Fc.start (S := []) Tryz.func102 Tryz.ntmps102 Tryz.results102 rfl (by decide) rfl (by kernel_rfl) ?_
 simp (disch := omega) only [push_cast, go_sem, zA, simprocAttr, ordV_eq]
 intro g4
 refine Sat.drawnE [] [] [3, 7, 10, 11] (pureT [(118, (stepAt p ea).V)]) (by kernel_rfl) (by kernel_rfl) ?_
 simp (disch := omega) only [push_cast, go_sem, zA, simprocAttr, hea, ha, Evt.V_eq]
 refine runD_pure rfl hdo rfl rfl ?_ ?_
 ·rfl
 simp (disch := omega) only [push_cast, go_sem, zA, simprocAttr, Do.V_eq]
 refine ⟨_, ?_, rfl⟩
 ((repeat (first | exact Sub.no | refine Sub.set ?_ ?_)) <;> (try simp (disch := omega) only [push_cast, go_sem, zA, simprocAttr]))
theorem oown_fn (ha : a < (events p).length) (hb : b < (events p).length) : Fo Tryz.prog 139 [.int .i64 a, .int .i64 b] g 6 (ordV p g c2 c3 c4 c5) (.bool (ownB (events p) a b)) := by
 obtain ⟨ea, hea⟩ : ∃ e, (events p)[a]? = some e := ⟨_, List.getElem?_eq_getElem ha⟩
 obtain ⟨eb, heb⟩ : ∃ e, (events p)[b]? = some e := ⟨_, List.getElem?_eq_getElem hb⟩
 refine Fc.start (S := []) Tryz.func139 Tryz.ntmps139 Tryz.results139 rfl (by decide) rfl (by kernel_rfl) ?_
 simp (disch := omega) only [push_cast, go_sem, zA, simprocAttr, ordV_eq]
 refine Sat.drawnE [] [] (List.range 23) (fun _ _ _ => none) (by kernel_rfl) (by kernel_rfl) ?_
 by_cases h : a < b
 all_goals
  simp (disch := omega) only [push_cast, go_sem, zA, simprocAttr, h, hea, heb, ha, hb, Evt.V_eq]
  refine ⟨_, Sub.rfl, ?_, rfl⟩
  simp [ownB, h, hea, heb]
end
def rdsV (p : Prog) : V := .sl ((scene p).ds.map fun d => .bool d.reads)
def wrtV (p : Prog) : V := .sl ((scene p).ds.map fun d => .bool d.writes)
theorem rdsV_eq (p : Prog) : rdsV p = .sl ((scene p).ds.map fun d => .bool d.reads) := rfl
theorem wrtV_eq (p : Prog) : wrtV p = .sl ((scene p).ds.map fun d => .bool d.writes) := rfl
section
variable (p : Prog) (x : Exe) (g : Nat) (c4 c5 : V) (a b : Nat)
theorem osame_fn (ha : a < (events p).length) (hb : b < (events p).length) : Fo Tryz.prog 141 [.int .i64 a, .int .i64 b] g 6 (ordV p g (rdsV p) (wrtV p) c4 c5) (.bool (sameS p a b)) := by
 obtain ⟨ea, hea⟩ : ∃ e, (events p)[a]? = some e := ⟨_, List.getElem?_eq_getElem ha⟩
 obtain ⟨eb, heb⟩ : ∃ e, (events p)[b]? = some e := ⟨_, List.getElem?_eq_getElem hb⟩
 have hsl : (scene p).ds.length = (events p).length := by simp [scene]
 have hda : (scene p).ds[a]? = some (dsA p a) := by rw [dsA, scene_get hea]; rfl
 have hdb : (scene p).ds[b]? = some (dsA p b) := by rw [dsA, scene_get heb]; rfl
 have h1 := odo_fn p g (rdsV p) (wrtV p) c4 c5 a ha
 have h2 := odo_fn p g (rdsV p) (wrtV p) c4 c5 b hb
 rw [ordV_eq, rdsV_eq, wrtV_eq, Do.V_eq] at h1 h2
 refine Fc.start (S := []) Tryz.func141 Tryz.ntmps141 Tryz.results141 rfl (by decide) rfl (by kernel_rfl) ?_
 cases hra : (dsA p a).reads <;> cases hwa : (dsA p a).writes
 ·simp (disch := omega) only [push_cast, go_sem, zA, simprocAttr, ordV_eq, rdsV_eq, wrtV_eq, hda, hdb, hsl, ha, hb, hra, hwa]
  refine ⟨_, Sub.rfl, ?_, rfl⟩
  simp [sameS, Do.uses, hra, hwa]
 all_goals
  cases hrb : (dsA p b).reads <;> cases hwb : (dsA p b).writes
  ·simp (disch := omega) only [push_cast, go_sem, zA, simprocAttr, ordV_eq, rdsV_eq, wrtV_eq, hda, hdb, hsl, ha, hb, hra, hwa, hrb, hwb]
   refine ⟨_, Sub.rfl, ?_, rfl⟩
   simp [sameS, Do.uses, hrb, hwb]
  all_goals
   simp (disch := omega) only [push_cast, go_sem, zA, simprocAttr, ordV_eq, rdsV_eq, wrtV_eq, hda, hdb, hsl, ha, hb, hra, hwa, hrb, hwb]
   refine callR.look h1 rfl rfl rfl ?_
   simp (disch := omega) only [push_cast, go_sem, zA, simprocAttr]
   refine callR.look h2 rfl rfl rfl ?_
   simp (disch := omega) only [push_cast, go_sem, zA, simprocAttr]
   refine ⟨_, Sub.rfl, ?_, rfl⟩
   simp [sameS, Do.uses, hra, hwa, hrb, hwb]
theorem oread_fn (hx : x.fr.length = (events p).length) (ha : a < (events p).length) (hb : b < (events p).length) : Fo Tryz.prog 137 [.int .i64 a, .int .i64 b] g 6 (ordV p g (rdsV p) (wrtV p) (.sl (x.fr.map (V.int .i64))) c5) (.bool (readS p x a b)) := by
 obtain ⟨ea, hea⟩ : ∃ e, (events p)[a]? = some e := ⟨_, List.getElem?_eq_getElem ha⟩
 obtain ⟨eb, heb⟩ : ∃ e, (events p)[b]? = some e := ⟨_, List.getElem?_eq_getElem hb⟩
 obtain ⟨z, hz⟩ : ∃ z, x.fr[b]? = some z := ⟨_, List.getElem?_eq_getElem (by omega)⟩
 have hsl : (scene p).ds.length = (events p).length := by simp [scene]
 have hda : (scene p).ds[a]? = some (dsA p a) := by rw [dsA, scene_get hea]; rfl
 have hdb : (scene p).ds[b]? = some (dsA p b) := by rw [dsA, scene_get heb]; rfl
 refine Fc.start (S := []) Tryz.func137 Tryz.ntmps137 Tryz.results137 rfl (by decide) rfl (by kernel_rfl) ?_
 cases hwa : (dsA p a).writes
 ·simp (disch := omega) only [push_cast, go_sem, zA, simprocAttr, ordV_eq, rdsV_eq, wrtV_eq, hda, hdb, hsl, ha, hb, hwa]
  refine ⟨_, Sub.rfl, ?_, rfl⟩
  simp [readS, hwa]
 cases hrb : (dsA p b).reads
 all_goals
  simp (disch := omega) only [push_cast, go_sem, zA, simprocAttr, ordV_eq, rdsV_eq, wrtV_eq, hda, hdb, hsl, ha, hb, hwa, hrb, hz, hx]
  refine ⟨_, Sub.rfl, ?_, rfl⟩
  simp [readS, hwa, hrb, hz]
theorem oover_fn (hc : ∀ (i : Nat) , i < (events p).length → 0 ≤ (dsA p i).p) (ha : a < (events p).length) (hb : b < (events p).length) :
  Fo Tryz.prog 138 [.int .i64 a, .int .i64 b] g 6 (ordV p g (rdsV p) (wrtV p) c4 (.sl (((List.range (events p).length).map (rankS p x)).map (V.int .i64)))) (.bool (overS p x a b)) := by
 obtain ⟨ea, hea⟩ : ∃ e, (events p)[a]? = some e := ⟨_, List.getElem?_eq_getElem ha⟩
 obtain ⟨eb, heb⟩ : ∃ e, (events p)[b]? = some e := ⟨_, List.getElem?_eq_getElem hb⟩
 have hsl : (scene p).ds.length = (events p).length := by simp [scene]
 have hda : (scene p).ds[a]? = some (dsA p a) := by rw [dsA, scene_get hea]; rfl
 have hdb : (scene p).ds[b]? = some (dsA p b) := by rw [dsA, scene_get heb]; rfl
 obtain ⟨rk, hrk⟩ : ∃ rk, (List.range (events p).length).map (rankS p x) = rk := ⟨_, rfl⟩
 have hra : rk[a]? = some (rankS p x a) := by rw [← hrk]; simp [ha]
 have hrb : rk[b]? = some (rankS p x b) := by rw [← hrk]; simp [hb]
 have hrl : rk.length = (events p).length := by rw [← hrk]; simp
 rw [hrk]
 have hs := osame_fn p g c4 (.sl (rk.map (V.int .i64))) a b ha hb
 rw [ordV_eq, rdsV_eq, wrtV_eq] at hs
 refine Fc.start (S := []) Tryz.func138 Tryz.ntmps138 Tryz.results138 rfl (by decide) rfl (by kernel_rfl) ?_
 simp (disch := omega) only [push_cast, go_sem, zA, simprocAttr, ordV_eq, rdsV_eq, wrtV_eq]
 refine Sat.drawnE [] [] (List.range 36) (lookT (.own 134 (some g) 1 [.agg [.sl (p.map thrV), .sl ((events p).map Evt.V), .sl ((scene p).ds.map fun d => .bool d.reads), .sl ((scene p).ds.map fun d => .bool d.writes), c4, .sl (rk.map (V.int .i64))]]) [] [(141, .bool (sameS p a b))]) (by kernel_rfl) (by kernel_rfl) ?_
 cases hwb : (dsA p b).writes
 ·simp (disch := omega) only [push_cast, go_sem, zA, simprocAttr, hda, hdb, hsl, ha, hb, hwb]
  refine ⟨_, Sub.rfl, ?_, rfl⟩
  simp [overS, hwb]
 by_cases hab : a = b
 ·subst hab
  have hab' : ((a : Int) != a) = false := by simp
  simp (disch := omega) only [push_cast, go_sem, zA, simprocAttr, hda, hdb, hsl, ha, hb, hwb, hab']
  refine ⟨_, Sub.rfl, ?_, rfl⟩
  simp [overS]
 have hab' : ((a : Int) != b) = true := by simp; omega
 have hab2 : (a == b) = false := by simpa using hab
 simp (disch := omega) only [push_cast, go_sem, zA, simprocAttr, hda, hdb, hsl, ha, hb, hwb, hab']
 refine runD_look hs rfl rfl rfl rfl rfl ?_ ?_
 ·rfl
 cases hss : sameS p a b
 all_goals
  simp (disch := omega) only [push_cast, go_sem, zA, simprocAttr, hra, hrb, hrl, ha, hb, hwb, hab']
  refine ⟨_, Sub.rfl, ?_, rfl⟩
  simp [overS, hwb, hss, hab2]
theorem owall_fn (d : Do) : Fp Tryz.prog 157 [d.V] (.bool (wallB d)) := by
 refine Fc.start (S := []) Tryz.func157 Tryz.ntmps157 Tryz.results157 rfl (by decide) rfl (by kernel_rfl) ?_
 simp (disch := omega) only [push_cast, go_sem, zA, simprocAttr, Do.V_eq]
 refine ⟨fun h => ?_, fun h => ?_⟩ <;> simp [wallB, h]
end
def badB (fa tb : Bool) (d : Do) : Bool := (fa && d.k == 8) || (tb && d.k == 7)
theorem insS_val {p : Prog} {a b : Nat} (ho : ownB (events p) a b = true) (hft : ((dsA p a).k == 7 || (dsA p b).k == 8) = true) :
  ((∀ j, a < j → j < b → badB ((dsA p a).k == 7) ((dsA p b).k == 8) (dsA p j) = false) → insS p a b = true) ∧ (∀ j, a < j → j < b → badB ((dsA p a).k == 7) ((dsA p b).k == 8) (dsA p j) = true → insS p a b = false) := by
 have hi := insS_iff ho
 have e : ∀ k, kd (scene p).ds k = (dsA p k).k := fun _ => rfl
 simp only [e] at hi
 rw [Bool.or_eq_true, beq_iff_eq, beq_iff_eq] at hft
 refine ⟨fun h => hi.2 ⟨hft, fun k k1 k2 => ?_⟩, fun j j1 j2 hb => ?_⟩
 ·have := h k k1 k2
  simp only [badB, Bool.or_eq_false_iff, Bool.and_eq_false_iff, beq_eq_false_iff_ne] at this
  omega
 ·rw [← Bool.not_eq_true]
  intro hh
  have := (hi.1 hh).2 j j1 j2
  simp only [badB, Bool.or_eq_true, Bool.and_eq_true, beq_iff_eq] at hb
  omega
section
variable (p : Prog) (x : Exe) (g : Nat) (c2 c3 c4 c5 : V) (a b : Nat)
theorem oinside_fn (hn : (events p).length ≤ 42) (ha : a < (events p).length) (hb : b < (events p).length) : Fo Tryz.prog 158 [.int .i64 a, .int .i64 b] g 6 (ordV p g c2 c3 c4 c5) (.bool (insS p a b)) := by
  have h1 := odo_fn p g c2 c3 c4 c5 a ha
  have h2 := odo_fn p g c2 c3 c4 c5 b hb
  have h3 := oown_fn p g c2 c3 c4 c5 a b ha hb
  rw [ordV_eq] at h1 h2 h3
  obtain ⟨fa, hfa⟩ : ∃ v, ((dsA p a).k == 7) = v := ⟨_, rfl⟩
  obtain ⟨tb, htb⟩ : ∃ v, ((dsA p b).k == 8) = v := ⟨_, rfl⟩
  refine Fc.start (S := [6]) Tryz.func158 Tryz.ntmps158 Tryz.results158 rfl (by decide) rfl (by kernel_rfl) ?_
  simp (disch := omega) only [push_cast, go_sem, zA, simprocAttr, ordV_eq]
  refine callR.look h1 rfl rfl rfl ?_
  simp (disch := omega) only [push_cast, go_sem, zA, simprocAttr, Do.V_eq, hfa]
  refine callR.look h2 rfl rfl rfl ?_
  simp (disch := omega) only [push_cast, go_sem, zA, simprocAttr, Do.V_eq, htb]
  refine callR.look h3 rfl rfl rfl ?_
  cases ho : ownB (events p) a b
  · simp (disch := omega) only [push_cast, go_sem, zA, simprocAttr]
    refine ⟨_, Sub.rfl, ?_, rfl⟩
    simp [insS, ho]
  have hab : a < b := by simp only [ownB, Bool.and_eq_true, decide_eq_true_eq] at ho; exact ho.1
  cases hft : (fa || tb)
  · rw [Bool.or_eq_false_iff] at hft
    obtain ⟨rfl, rfl⟩ := hft
    simp (disch := omega) only [push_cast, go_sem, zA, simprocAttr]
    refine ⟨_, Sub.rfl, ?_, rfl⟩
    have e1 : (kd (scene p).ds a == 7) = false := hfa
    have e2 : (kd (scene p).ds b == 8) = false := htb
    simp [insS, ho, e1, e2]
  have hv := insS_val ho (by rw [hfa, htb]; exact hft)
  rw [hfa, htb] at hv
  obtain ⟨hv1, hv2⟩ := hv
  cases fa <;> cases tb <;> first | (cases hft; done) | skip
  all_goals
    simp (disch := omega) only [push_cast, go_sem, zA, simprocAttr]
    refine Sat.loop (σ := Nat) (fun k => upd (upd (upd (upd (upd (upd noT 0 (.ptr 0 [] 0 0 g 6)) 1 (.int .i64 a)) 2 (.int .i64 b)) 7 (.bool ((dsA p a).k == 7))) 8 (.bool ((dsA p b).k == 8))) 9 (.int .i64 k)) (fun _ => noM.set 0 (.own 134 (some g) 1 [.agg [.sl (p.map thrV), .sl ((events p).map Evt.V), c2, c3, c4, c5]]))
      (fun k => a < k ∧ k ≤ b ∧ ∀ j, a < j → j < k → badB ((dsA p a).k == 7) ((dsA p b).k == 8) (dsA p j) = false) (fun k => b - k) (a + 1) ⟨by omega, by omega, fun j j1 j2 => absurd j1 (by omega)⟩ ?_ ?_
    · rw [hfa, htb]
      (refine zB ?_; repeat (first | exact zC | exact zD | refine zE (by decide) ?_ | refine zF ?_ ?_ | refine zG ?_ ?_)) <;> (try simp (disch := omega) only [push_cast, go_sem, zA, simprocAttr])
    rintro k ⟨hk1, hk2, hk3⟩ J hJ
    rw [hfa, htb] at hk3
    rw [hfa, htb]
    refine Sat.of (S := []) (by kernel_rfl) ?_
    by_cases hkb : k = b
    · subst hkb
      simp (disch := omega) only [push_cast, go_sem, zA, simprocAttr]
      refine ⟨_, Sub.rfl, ?_, rfl⟩
      rw [hv1 hk3]
    have hkb' : k < b := by omega
    have hk := odo_fn p g c2 c3 c4 c5 k (by omega)
    rw [ordV_eq] at hk
    simp (disch := omega) only [push_cast, go_sem, zA, simprocAttr, hkb']
    refine callR.look hk rfl rfl rfl ?_
    cases h8 : ((dsA p k).k == 8) <;> cases h7 : ((dsA p k).k == 7)
    all_goals
      simp (disch := omega) only [push_cast, go_sem, zA, simprocAttr, Do.V_eq, h8, h7]
      try (refine callR.look hk rfl rfl rfl ?_; simp (disch := omega) only [push_cast, go_sem, zA, simprocAttr, Do.V_eq, h7])
      first
      | (refine ⟨_, Sub.rfl, ?_, rfl⟩
         rw [hv2 k (by omega) (by omega) (by simp [badB, h7, h8])])
      | (refine hJ (k + 1) _ _ ⟨by omega, by omega, fun j j1 j2 => ?_⟩ (by omega) ?_
         · rw [hfa, htb]
           rcases Nat.lt_or_ge j k with hh | hh
           · exact hk3 j j1 hh
           · have : j = k := by omega
             subst this
             simp [badB, h7, h8]
         · rw [hfa, htb]
           (refine zB ?_; repeat (first | exact zC | exact zD | refine zE (by decide) ?_ | refine zF ?_ ?_ | refine zG ?_ ?_)) <;> (try simp (disch := omega) only [push_cast, go_sem, zA, simprocAttr]))
end
end
section
open Go.RowKit
section
variable {P : Program} {M : Mem} {k : V → Mem → Prop} {ro c : Bool}
end
end
section
open Go.RowKit Go.Maps Go.Sort Go.Shelf
attribute [local go_sem] Oper.semAt_some
structure El where
 a : Option Addr × Nat × Nat
 b : Option Addr × Nat × Nat
deriving Inhabited
def enc2 (x : El) : List Value := [.slice x.a.1 x.a.2.1 x.a.2.2, .slice x.b.1 x.b.2.1 x.b.2.2]
def agg2 (x : El) : Value := .agg #[.slice x.a.1 x.a.2.1 x.a.2.2, .slice x.b.1 x.b.2.1 x.b.2.2]
def GivesA (F : Fence) (n : Nat) (P : Program) (g : Nat) (lb : Array Value) (S : List El → Prop) (N : Nat) (w : World) : Prop :=
 ∀ (l : Nat) (J : List El → World → Prop) (W : World), Below w.heap.size w W → (∀ pre W1, J pre W1 → Below w.heap.size w W1) → (∀ pre W1 a b, J pre W1 → J pre (W1.alloc (.cells #[a, b] 28))) →
  (∀ pre x W1, J pre W1 → pre.length < N → YieldAt F (n - 1) P l #[agg2 x] W1 fun e W' => e = .returned (.bool true) ∧ J (pre ++ [x]) W') →
  J [] W →
  CallsIn F n P g (#[.func (.yield l) #[] #[]] ++ lb) W fun e W' => (∃ v, e = .returned v) ∧ ∃ xs, S xs ∧ J xs W'
def Ra.apAssign : Code := (Code.region 2 #[{ dst := some 5, op := Op.alloc 28, type := 0, pos := "iter.go:51", after := #[], guard := none }, { dst := none, op := Op.store 28 (Operand.tmp 5) (Operand.tmp 7), type := 0, pos := "iter.go:51", after := #[{ on := 0, ground := Ground.data }, { on := 0, ground := Ground.phase }], guard := none }] false)
def Ra.apBody : Code := (Code.block 1 (Code.region 3 #[{ dst := some 8, op := Op.load 51 (Operand.tmp 2), type := 51, pos := "iter.go:52", after := #[], guard := none }, { dst := some 9, op := Op.load 28 (Operand.tmp 5), type := 28, pos := "iter.go:52", after := #[], guard := none }, { dst := some 10, op := Op.buildSlice 51 1 #[(0, Operand.tmp 9)], type := 51, pos := "iter.go:52", after := #[{ on := 1, ground := Ground.data }], guard := none }, { dst := some 11, op := Op.call { callee := Callee.builtin Builtin.append, args := #[Operand.tmp 8, Operand.tmp 10], argTypes := #[51, 51] }, type := 51, pos := "iter.go:52", after := #[{ on := 0, ground := Ground.data }, { on := 2, ground := Ground.data }], guard := none }, { dst := none, op := Op.store 51 (Operand.tmp 2) (Operand.tmp 11), type := 0, pos := "iter.go:52", after := #[{ on := 3, ground := Ground.data }, { on := 3, ground := Ground.chain }, { on := 0, ground := Ground.phase }, { on := 1, ground := Ground.phase }, { on := 2, ground := Ground.phase }, { on := 3, ground := Ground.phase }], guard := none }] false))
def Ra.apRec (fn : FuncId) (sv : Value) (Bs D : Nat) (st : LoopState) (pend : Option Code) : Loop :=
 { state := st, pending := pend, fn, tmps := #[.slice none 0 0, sv, .pointer (some ⟨Bs, 0, none⟩), undef, .slice none 0 0, undef, sv, undef, undef, undef, undef, undef, undef], params := #[7], assign := Ra.apAssign, body := Ra.apBody, defers := D }
structure Ra.ApAt (w0 : World) (fn : FuncId) (sv : Value) (Bs l D : Nat) (ss : List El) (W : World) : Prop where
 box : ∃ v, W.heap[Bs]? = some (.cells #[v] 51 (0, 0)) ∧ W.ownsRow w0.heap.size 28 2 v ss.length (ss.flatMap enc2) ∧ (v = .slice none 0 0 ↔ ss = [])
 L : W.heap[l]? = some (.loop (Ra.apRec fn sv Bs D .ready none))
 K : W.heap[D]? = some (.deferred (some []))
 below : Below w0.heap.size w0 W
theorem Ra.ApAt.alloc {w0 : World} {fn : FuncId} {sv : Value} {Bs l D : Nat} {ss : List El} {W : World} (h : Ra.ApAt w0 fn sv Bs l D ss W) (o : Obj) : Ra.ApAt w0 fn sv Bs l D ss (W.alloc o) := by
 obtain ⟨v, h1, h2, h3⟩ := h.box
 have old : ∀ {k : Nat} {x : Obj}, W.heap[k]? = some x → (W.alloc o).heap[k]? = some x := fun hk => (Below.heap_alloc _ _ _ (Array.getElem?_eq_some_iff.1 hk).1).trans hk
 exact ⟨⟨v, old h1, h2.alloc _, h3⟩, old h.L, old h.K, h.below.alloc h.below.size _⟩
theorem cell_two_new (w : World) (x y : Value) (t : TypeId) : ∀ j u, [x, y][j]? = some u → (w.alloc (.cells #[x, y] t)).cell? ((⟨w.heap.size, 0, none⟩ : Addr).add j) = some u := by
 intro j u hj
 match j, hj with
 | 0, hj => simp at hj; subst hj; simp [Addr.add]
 | 1, hj => simp at hj; subst hj; simp [Addr.add]
theorem Ra.info : (Tryz.prog.info? 28).map (fun i => (i.zero, i.size, i.bytes)) = some (some (.agg #[.slice none 0 0, .slice none 0 0]), 2, 48) := by kernel_rfl
set_option maxRecDepth 100000 in
set_option maxHeartbeats 2000000 in
theorem Ra.apYield (F : Fence) (m : Nat) (w0 : World) (fn : FuncId) (hfn : F.fn fn) (sv : Value) (Bs l D : Nat) (hBl : Bs ≠ l) (hDl : D ≠ l) (hDB : D ≠ Bs) (h0B : w0.heap.size ≤ Bs) (h0l : w0.heap.size ≤ l)
    (N : Nat) (hN : N ≤ maxLen) (hNb : N * 48 ≤ 140737488355328) (ss : List El) (x : El) (W : World) (h : Ra.ApAt w0 fn sv Bs l D ss W) (hlen : ss.length < N) :
    YieldAt F m Tryz.prog l #[agg2 x] W fun e W' => e = .returned (.bool true) ∧ Ra.ApAt w0 fn sv Bs l D (ss ++ [x]) W' ∧ KeepsWalks W W' := by
  obtain ⟨⟨A1, n1, c1⟩, ⟨A2, n2, c2⟩⟩ := x
  simp only [agg2]
  obtain ⟨i0, hi, hz0, hz1, hz2⟩ := info_parts Ra.info
  obtain ⟨v, hv, hrow, _⟩ := h.box
  refine ⟨fn, #[.slice none 0 0, sv, .pointer (some ⟨Bs, 0, none⟩), undef, .slice none 0 0, undef, sv, .agg #[.slice A1 n1 c1, .slice A2 n2 c2], undef, undef, undef, undef, undef], Ra.apAssign, Ra.apBody, by simpa [Ra.apRec] using run_yield (P := Tryz.prog) (args := #[.agg #[.slice A1 n1 c1, .slice A2 n2 c2]]) h.L rfl, roundIn_of_wpIn hfn ?_⟩
  have hl0 : l < W.heap.size := (Array.getElem?_eq_some_iff.1 h.L).1
  have hB0 : Bs < W.heap.size := (Array.getElem?_eq_some_iff.1 hv).1
  have hD0 : D < W.heap.size := (Array.getElem?_eq_some_iff.1 h.K).1
  obtain ⟨Wa, hWa⟩ : ∃ Wa, W.alloc (.cells #[.slice A1 n1 c1, .slice A2 n2 c2] 28) = Wa := ⟨_, rfl⟩
  have hLa : Wa.heap[l]? = some (.loop (Ra.apRec fn sv Bs D .ready none)) := by rw [← hWa]; exact (Below.heap_alloc _ _ l hl0).trans h.L
  have hva : Wa.heap[Bs]? = some (.cells #[v] 51 (0, 0)) := by rw [← hWa]; exact (Below.heap_alloc _ _ Bs hB0).trans hv
  have hKa : Wa.heap[D]? = some (.deferred (some [])) := by rw [← hWa]; exact (Below.heap_alloc _ _ D hD0).trans h.K
  have hxa : Wa.heap[W.heap.size]? = some (.cells #[.slice A1 n1 c1, .slice A2 n2 c2] 28 (0, 0)) := by rw [← hWa]; exact World.alloc_heap_new W _
  have hrowa : Wa.ownsRow w0.heap.size 28 2 v ss.length (ss.flatMap enc2) := by rw [← hWa]; exact hrow.alloc _
  have hba : Below w0.heap.size w0 Wa := by rw [← hWa]; exact h.below.alloc h.below.size _
  have hka : KeepsWalks W Wa := by rw [← hWa]; exact KeepsWalks.alloc _ _
  have hl : l < Wa.heap.size := (Array.getElem?_eq_some_iff.1 hLa).1
  have hbr := run_beginRound (P := Tryz.prog) hLa rfl
  obtain ⟨W2, hW2⟩ : ∃ W2, Wa.putObj l (.loop { Ra.apRec fn sv Bs D .ready none with state := .busy }) = W2 := ⟨_, rfl⟩
  rw [hW2] at hbr
  have hg2 : Wa.grownBy W2 (some l) := by rw [← hW2]; exact Rq.grownBy_putObj _ _ _
  have hk2 : KeepsWalks W W2 := by rw [← hW2]; exact hka.trans (KeepsWalks.putObj _ hLa rfl)
  have hv2 : W2.heap[Bs]? = some (.cells #[v] 51 (0, 0)) := by rw [← hW2]; exact (World.putObj_heap_other hBl).trans hva
  have hK2 : W2.heap[D]? = some (.deferred (some [])) := by rw [← hW2]; exact (World.putObj_heap_other hDl).trans hKa
  have hL2 : W2.heap[l]? = some (.loop { Ra.apRec fn sv Bs D .ready none with state := .busy }) := by rw [← hW2]; exact World.putObj_heap_same hl
  have hx2 : W2.heap[W.heap.size]? = some (.cells #[.slice A1 n1 c1, .slice A2 n2 c2] 28 (0, 0)) := by rw [← hW2]; exact (World.putObj_heap_other (by omega)).trans hxa
  have hrow2 : W2.ownsRow w0.heap.size 28 2 v ss.length (ss.flatMap enc2) := hrowa.kept hg2 (Rq.ownsRow_ne hrowa hLa (fun cur e => by cases e))
  have hb2 : Below w0.heap.size w0 W2 := hba.grown hg2 hba.size (fun k e => by cases e; exact h0l)
  obtain ⟨hc2, hf2⟩ := Rq.cell_of_box hv2
  have hx20 : W2.cell? ⟨W.heap.size, 0, none⟩ = some (.slice A1 n1 c1) := by simp [World.cell?, hx2]
  have hx21 : W2.cell? ⟨W.heap.size, 1, none⟩ = some (.slice A2 n2 c2) := by simp [World.cell?, hx2]
  have hBlt : Bs < W2.heap.size := (Array.getElem?_eq_some_iff.1 hv2).1
  have hl2 : l < W2.heap.size := (Array.getElem?_eq_some_iff.1 hL2).1
  have hDlt : D < W2.heap.size := (Array.getElem?_eq_some_iff.1 hK2).1
  have ne_of : ∀ {j : Nat} {o : Obj}, W2.heap[j]? = some o → (∀ cur, o ≠ .cells cur 28 (0, 0)) → some j ≠ v.ownBlock := fun hj hno => by
    rcases Rq.ownsRow_ne hrow2 hj hno with e | e
    · rw [e]; simp
    · exact fun e' => e e'.symm
  clear hW2
  unfold Ra.apAssign
  gi_wp2_with (rw [Oper.semAt_eq _ _ _ (fun c h => by cases h)]; go_simp; try go_bits)
  unfold Ra.apBody
  gi_wp2_with (first
    | (gi_at_builtin; refine wpListIn_append_own _ rfl _ _ 51 rfl w0.heap.size 28 i0 (.agg #[.slice none 0 0, .slice none 0 0]) 2 48 Tryz.underlying51 hi hz0 hz1 hz2 rfl (by decide) _ _ _ rfl (hrow2.alloc _) ⟨W2.heap.size, 0, none⟩ 1 1 [.slice A1 n1 c1, .slice A2 n2 c2] rfl rfl (cell_two_new _ _ _ _) (by simp [Value.oneCell']) (by omega) (by omega) (by have := hb2.size; simp; omega) ?_; intro v' w3 hown' hg3 hnil3
       have hv3 : w3.heap[Bs]? = some (.cells #[v] 51 (0, 0)) := (hg3.block Bs (by simp; omega) (ne_of hv2 (fun cur e => by cases e))).trans ((Below.heap_alloc _ _ Bs hBlt).trans hv2)
       obtain ⟨hc3, hf3⟩ := Rq.cell_of_box hv3
       obtain ⟨g', cap', cur', rfl, hbase', hgb', hr1, hr2, hr3, hr4⟩ : ∃ g' cap' cur', v' = .slice (some ⟨g', 0, none⟩) (ss.length + 1) cap' ∧ w0.heap.size ≤ g' ∧ w3.heap[g']? = some (.cells cur' 28 (0, 0)) ∧ ss.length + 1 ≤ cap' ∧ cap' ≤ maxLen ∧ cur'.size = cap' * 2 ∧ cur'.toList.take ((ss.length + 1) * 2) = ss.flatMap enc2 ++ [.slice A1 n1 c1, .slice A2 n2 c2] := by
         rcases hown'.2 with ⟨_, h0⟩ | h'
         · exact absurd h0 (by omega)
         · exact h'
       go_frame)
    | (rw [Oper.semAt_eq _ _ _ (fun c h => by cases h)]; go_simp; try go_bits))
  have hg3' : (W2.alloc (.cells #[.slice A1 n1 c1, .slice A2 n2 c2] 28)).grownBy w3 v.ownBlock := hg3
  have hL3 : w3.heap[l]? = some (.loop { Ra.apRec fn sv Bs D .ready none with state := .busy }) := (hg3'.block l (by simp; omega) (ne_of hL2 (fun cur e => by cases e))).trans ((Below.heap_alloc _ _ l hl2).trans hL2)
  have hK3 : w3.heap[D]? = some (.deferred (some [])) := (hg3'.block D (by simp; omega) (ne_of hK2 (fun cur e => by cases e))).trans ((Below.heap_alloc _ _ D hDlt).trans hK2)
  obtain ⟨w4, hw4⟩ : ∃ w4, w3.setCell ⟨Bs, 0, none⟩ (.slice (some ⟨g', 0, none⟩) (ss.length + 1) cap') = w4 := ⟨_, rfl⟩
  rw [hw4]
  have hg4 : w3.grownBy w4 (some Bs) := by rw [← hw4]; exact Rq.grownBy_setCell0 _ _ _
  have hv4 : w4.heap[Bs]? = some (.cells #[.slice (some ⟨g', 0, none⟩) (ss.length + 1) cap'] 51 (0, 0)) := by rw [← hw4]; exact Rq.heap_setCell_box _ hv3
  have hL4 : w4.heap[l]? = some (.loop { Ra.apRec fn sv Bs D .ready none with state := .busy }) := (hg4.block l (Array.getElem?_eq_some_iff.1 hL3).1 (fun e => hBl (by cases e; rfl))).trans hL3
  have hK4 : w4.heap[D]? = some (.deferred (some [])) := (hg4.block D (Array.getElem?_eq_some_iff.1 hK3).1 (fun e => hDB (by cases e; rfl))).trans hK3
  have hrow4 := hown'.kept hg4 (Rq.ownsRow_ne hown' hv3 (fun cur e => by cases e))
  have hl4 : l < w4.heap.size := (Array.getElem?_eq_some_iff.1 hL4).1
  have hb3 : Below w0.heap.size w0 w3 := (hb2.alloc hb2.size _).grown hg3' (by have := hb2.size; simp; omega) (fun k e => (hrow2.lt k e).1)
  have hb4 : Below w0.heap.size w0 w4 := hb3.grown hg4 hb3.size (fun k e => by cases e; exact h0B)
  have hk4 : KeepsWalks W w4 := ((hk2.trans (KeepsWalks.alloc _ _)).trans (KeepsWalks.of_grownBy hg3' (Rq.ownsRow_not_walk (hrow2.alloc _)))).trans (by rw [← hw4]; exact KeepsWalks.setCell _ _ _)
  clear hw4
  refine ⟨_, _, run_endRound none hL4, rfl, ⟨⟨_, (World.putObj_heap_other hBl).trans hv4, ?_, by simp⟩, World.putObj_heap_same hl4, (World.putObj_heap_other hDl).trans hK4, hb4.grown (Rq.grownBy_putObj _ _ _) hb4.size (fun k e => by cases e; exact h0l)⟩, hk4.trans (KeepsWalks.putObj _ hL4 rfl)⟩
  have := hrow4.kept (Rq.grownBy_putObj w4 l (.loop { { Ra.apRec fn sv Bs D .ready none with state := .busy } with state := if (none : Option Code).isNone then .ready else .done, pending := none })) (Rq.ownsRow_ne hrow4 hL4 (fun cur e => by cases e))
  simpa [enc2] using this
set_option maxRecDepth 100000 in
set_option maxHeartbeats 2000000 in
theorem Ra.appendSeq_in (F : Fence) (n : Nat) (h11 : F.fn 159) (hro : F.round = none) (hn : 2 ≤ n) (g : Nat) (lb : Array Value) (hFg : F.fn g) (eg : ∀ args w, (callFunc g args).run Tryz.prog w = .ok (.enter g args) w)
    (S : List El → Prop) (N : Nat) (hN : N ≤ maxLen) (hNb : N * 48 ≤ 140737488355328) (w : World) (hseq : GivesA F (n - 1) Tryz.prog g lb S N w) :
    CallsIn F n Tryz.prog 159 #[.slice none 0 0, .func (.func g) #[] lb] w fun e w' => ∃ (v : Value) (ss : List El), e = .returned v ∧ S ss ∧ w'.ownsRow w.heap.size 28 2 v ss.length (ss.flatMap enc2) ∧ (v = .slice none 0 0 ↔ ss = []) ∧ Below w.heap.size w w' := by
  have h1 : 1 ≤ n := by omega
  refine callsIn_of_wp_marks Tryz.func159 rfl h11 ?_ hro
  simp only [Tryz.ntmps159, List.size_toArray, List.length_cons, List.length_nil, Nat.reduceAdd, Nat.reduceSub, Array.replicate_succ, Array.replicate_zero, List.push_toArray, List.append_toArray, List.nil_append, List.cons_append]
  gi_wp2
  refine wpIn_rangeFunc ?_
  intro fn hfn
  rw [hro]
  obtain ⟨W0, hW0⟩ : ∃ W0, w.alloc (.cells #[.slice none 0 0] 51) = W0 := ⟨_, rfl⟩
  have hs0 : W0.heap.size = w.heap.size + 1 := by rw [← hW0]; simp
  have hv0 : W0.heap[w.heap.size]? = some (.cells #[.slice none 0 0] 51 (0, 0)) := by rw [← hW0]; exact World.alloc_heap_new w _
  have hb0 : Below w.heap.size w W0 := by rw [← hW0]; exact (Below.refl _ w).alloc (Nat.le_refl _) _
  rw [hW0]
  obtain ⟨W1, hW1⟩ : ∃ W1, (W0.alloc (.deferred (some []))).alloc (.loop (Ra.apRec fn (.func (.func g) #[] lb) w.heap.size W0.heap.size .ready none)) = W1 := ⟨_, rfl⟩
  have hold : ∀ k, k < W0.heap.size → W1.heap[k]? = W0.heap[k]? := fun k hk => by
    rw [← hW1]; exact (Below.heap_alloc _ _ k (by simp; omega)).trans (Below.heap_alloc _ _ k hk)
  have hb1 : Below w.heap.size w W1 := by rw [← hW1]; exact (hb0.alloc hb0.size _).alloc (by have := hb0.size; simp; omega) _
  have hs1 : W1.heap.size = W0.heap.size + 2 := by rw [← hW1]; simp
  have hM : Ra.ApAt w fn (.func (.func g) #[] lb) w.heap.size (W0.heap.size + 1) W0.heap.size [] W1 :=
    ⟨⟨_, (hold w.heap.size (by omega)).trans hv0, ⟨rfl, .inl ⟨rfl, rfl⟩⟩, by simp⟩,
     by rw [← hW1]; have := World.alloc_heap_new (W0.alloc (.deferred (some []))) (.loop (Ra.apRec fn (.func (.func g) #[] lb) w.heap.size W0.heap.size .ready none)); rwa [World.size_alloc] at this,
     by rw [← hW1]; exact (Below.heap_alloc _ _ _ (by simp)).trans (World.alloc_heap_new W0 _), hb1⟩
  refine ⟨W0.heap.size + 1, [{ target := .collected W0.heap.size, args := #[] }], W1, { target := .fn (.func g) lb, args := #[.func (.yield (W0.heap.size + 1)) #[] #[]] }, W1, g,
    #[.func (.yield (W0.heap.size + 1)) #[] #[]] ++ lb, W1, ?_, ?_, ?_, ?_, fun _ => h1, ?_⟩
  · rw [← hW1]; exact run_enterLoop_outer _ _ _ _ _
  · simp [resolve, go_sem]
  · intro f' hf'; simp [Target.leads] at hf'; subst hf'; exact hFg
  · simp [invoke, go_sem, eg]
  · refine (hseq (W0.heap.size + 1) (Ra.ApAt w fn (.func (.func g) #[] lb) w.heap.size (W0.heap.size + 1) W0.heap.size) W1 hb1 (fun _ _ h => h.below) (fun _ _ _ _ h => h.alloc _)
      (fun pre x W hJ hl => (Ra.apYield F (n - 1 - 1) w fn hfn _ w.heap.size (W0.heap.size + 1) W0.heap.size (by omega) (by omega) (by omega) (Nat.le_refl _) (by omega) N hN hNb pre x W hJ hl).mono fun _ _ h => ⟨h.1, h.2.1⟩) hM).mono ?_
    rintro e W2 ⟨⟨v0, rfl⟩, ss, hS, h2⟩
    obtain ⟨v, hv, hrow, hnil⟩ := h2.box
    have hend := run_endLoop (P := Tryz.prog) h2.L (by simp [Ra.apRec])
    obtain ⟨W3, hW3⟩ : ∃ W3, W2.putObj (W0.heap.size + 1) (.loop { Ra.apRec fn (.func (.func g) #[] lb) w.heap.size W0.heap.size .ready none with state := .exhausted }) = W3 := ⟨_, rfl⟩
    rw [hW3] at hend
    have hg3 : W2.grownBy W3 (some (W0.heap.size + 1)) := by rw [← hW3]; exact Rq.grownBy_putObj _ _ _
    have hv3 : W3.heap[w.heap.size]? = some (.cells #[v] 51 (0, 0)) := by rw [← hW3]; exact (World.putObj_heap_other (by omega)).trans hv
    have hK3 : W3.heap[W0.heap.size]? = some (.deferred (some [])) := by rw [← hW3]; exact (World.putObj_heap_other (by omega)).trans h2.K
    have hrow3 := hrow.kept hg3 (Rq.ownsRow_ne hrow h2.L (fun cur e => by cases e))
    have hb3 : Below w.heap.size w W3 := h2.below.grown hg3 h2.below.size (fun k e => by cases e; omega)
    obtain ⟨hc3, hf3⟩ := Rq.cell_of_box hv3
    clear hW3
    refine ⟨none, W3, hend, ?_⟩
    gi_wp2
    rw [← hs0]
    refine ⟨by simp, .inl ⟨_, _, rfl, run_takeDeferred hK3, ?_⟩⟩
    exact ⟨_, results_tmp rfl _ _ _, v, ss, rfl, hS, hrow3.kept (Rq.grownBy_putObj _ _ _) (Rq.ownsRow_ne hrow3 hK3 (fun cur e => by cases e)), hnil, hb3.grown (Rq.grownBy_putObj _ _ _) hb3.size (fun k e => by cases e; omega)⟩
set_option maxHeartbeats 1000000 in
theorem Ra.collect_in (F : Fence) (n : Nat) (h8 : F.fn 142) (h11 : F.fn 159) (hro : F.round = none) (hn : 3 ≤ n) (g : Nat) (lb : Array Value) (hFg : F.fn g) (eg : ∀ args w, (callFunc g args).run Tryz.prog w = .ok (.enter g args) w)
  (S : List El → Prop) (N : Nat) (hN : N ≤ maxLen) (hNb : N * 48 ≤ 140737488355328) (w : World) (hseq : GivesA F (n - 1 - 1) Tryz.prog g lb S N w) :
  CallsIn F n Tryz.prog 142 #[.func (.func g) #[] lb] w fun e w' => ∃ (v : Value) (ss : List El), e = .returned v ∧ S ss ∧ w'.ownsRow w.heap.size 28 2 v ss.length (ss.flatMap enc2) ∧ (v = .slice none 0 0 ↔ ss = []) ∧ Below w.heap.size w w' := by
 have h1 : 1 ≤ n := by omega
 refine callsIn_of_wp Tryz.func142 rfl h8 ?_ hro
 simp only [Tryz.ntmps142, List.size_toArray, List.length_cons, List.length_nil, Nat.reduceAdd, Nat.reduceSub, Array.replicate_succ, Array.replicate_zero, List.push_toArray, List.append_toArray, List.nil_append, List.cons_append]
 gi_wp2_with (gi_at_call 159; refine (Ra.appendSeq_in F (n - 1) h11 hro (by omega) g lb hFg eg S N hN hNb _ hseq).mono ?_; rintro e w' ⟨v, ss, rfl, hS, hrow, hnil, hb⟩)
 go_ret
 exact ⟨v, ss, rfl, hS, hrow, hnil, hb⟩
end
section
open Go.RowKit Go.Maps Go.Sort Go.Shelf
attribute [local go_sem] Oper.semAt_some
set_option maxHeartbeats 1000000 in
theorem mNaN (a : Int) (w : World) : CallsIn Fence.wide 3 Tryz.prog 165 #[.int .i64 a] w fun e w' => e = .returned (.bool false) ∧ w' = w := by
 refine callsIn_of_wp Tryz.func165 rfl trivial ?_ rfl
 simp only [Tryz.ntmps165, List.size_toArray, List.length_cons, List.length_nil, Nat.reduceAdd, Nat.reduceSub, Array.replicate_succ, Array.replicate_zero, List.push_toArray, List.append_toArray, List.nil_append, List.cons_append]
 gi_wp2
 go_ret
 exact ⟨by simp, rfl⟩
set_option maxHeartbeats 1000000 in
theorem mCmp (a b : Int) (w : World) : CallsIn Fence.wide 4 Tryz.prog 156 #[.int .i64 a, .int .i64 b] w fun e w' => e = .returned (.int .i64 (cmpI a b)) ∧ w' = w := by
 have hf : Fence.wide.fn 165 := trivial
 refine callsIn_of_wp Tryz.func156 rfl trivial ?_ rfl
 simp only [Tryz.ntmps156, List.size_toArray, List.length_cons, List.length_nil, Nat.reduceAdd, Nat.reduceSub, Array.replicate_succ, Array.replicate_zero, List.push_toArray, List.append_toArray, List.nil_append, List.cons_append]
 by_cases h1 : a < b
 ·gi_wp2_with (first | (gi_at_call 165; refine (mNaN _ _).mono ?_; rintro e w' ⟨rfl, rfl⟩) | (rw [Oper.semAt_eq _ _ _ (fun c h => by cases h)]; go_simp; try go_bits))
  go_ret
  exact ⟨by rw [cmpI, if_pos (by omega)]; rfl, rfl⟩
 ·by_cases h2 : b < a
  ·gi_wp2_with (first | (gi_at_call 165; refine (mNaN _ _).mono ?_; rintro e w' ⟨rfl, rfl⟩) | (rw [Oper.semAt_eq _ _ _ (fun c h => by cases h)]; go_simp; try go_bits))
   go_ret
   exact ⟨by first | (rw [cmpI, if_neg (by omega), if_neg (by omega)]; rfl) | (rw [cmpI, if_neg (by omega), if_pos (by omega)]; rfl), rfl⟩
  ·gi_wp2_with (first | (gi_at_call 165; refine (mNaN _ _).mono ?_; rintro e w' ⟨rfl, rfl⟩) | (rw [Oper.semAt_eq _ _ _ (fun c h => by cases h)]; go_simp; try go_bits))
   go_ret
   exact ⟨by first | (rw [cmpI, if_neg (by omega), if_neg (by omega)]; rfl) | (rw [cmpI, if_neg (by omega), if_pos (by omega)]; rfl), rfl⟩
def IntsAt (w : World) (x : Option Addr × Nat × Nat) (l : List Int) : Prop := x.2.1 = l.length ∧ (l ≠ [] → ∃ g off, x.1 = some ⟨g, off, none⟩ ∧ g < w.heap.size ∧ ∀ j, j < l.length → w.cell? ⟨g, off + j, none⟩ = some (.int .i64 (l.getD j 0)))
set_option maxRecDepth 100000 in
set_option maxHeartbeats 2000000 in
theorem mCompare (x y : Option Addr × Nat × Nat) (l m : List Int) (w : World) (hx : IntsAt w x l) (hy : IntsAt w y m) (hl : l.length < 2 ^ 40) (hm : m.length < 2 ^ 40) :
  CallsIn Fence.wide 5 Tryz.prog 131 #[.slice x.1 x.2.1 x.2.2, .slice y.1 y.2.1 y.2.2] w fun e w' => e = .returned (.int .i64 (cmpL l m)) ∧ w' = w := by
 obtain ⟨A1, n1, c1⟩ := x
 obtain ⟨A2, n2, c2⟩ := y
 obtain ⟨rfl, hx⟩ := hx
 obtain ⟨rfl, hy⟩ := hy
 simp only at hx hy
 have hf : Fence.wide.fn 156 := trivial
 refine callsIn_of_wp Tryz.func131 rfl trivial ?_ rfl
 simp only [Tryz.ntmps131, List.size_toArray, List.length_cons, List.length_nil, Nat.reduceAdd, Nat.reduceSub, Array.replicate_succ, Array.replicate_zero, List.push_toArray, List.append_toArray, List.nil_append, List.cons_append]
 gi_wp2
 gi_loopw [11] (fun i wr => ∃ k : Nat, k ≤ l.length ∧ k ≤ m.length ∧ i = .int .i64 k ∧ wr = w ∧ cmpL (l.drop k) (m.drop k) = cmpL l m) (fun i _ => l.length - (intOf i).toNat)
 case atStart => exact ⟨0, Nat.zero_le _, Nat.zero_le _, rfl, rfl, rfl⟩
 case round =>
  obtain ⟨k, hk, hk2, rfl, rfl, he⟩ := hrel
  have HE : Aside (cmpL (l.drop k) (m.drop k) = cmpL l m) := he
  clear he
  by_cases hlt : k < l.length
  ·obtain ⟨g1, o1, rfl, _, hc1⟩ := hx (fun h => by rw [h] at hlt; simp at hlt)
   have c1k := hc1 k hlt
   obtain ⟨a, ha⟩ : ∃ a, l[k]? = some a := ⟨_, List.getElem?_eq_getElem hlt⟩
   rw [List.getD, ha, Option.getD_some] at c1k
   clear hc1 hx
   by_cases hlt2 : k < m.length
   ·obtain ⟨g2, o2, rfl, _, hc2⟩ := hy (fun h => by rw [h] at hlt2; simp at hlt2)
    have c2k := hc2 k hlt2
    obtain ⟨b, hb⟩ : ∃ b, m[k]? = some b := ⟨_, List.getElem?_eq_getElem hlt2⟩
    rw [List.getD, hb, Option.getD_some] at c2k
    clear hc2 hy
    have hstep := cmpL_step ha hb
    rw [HE.out] at hstep
    have hcc := mCmp a b
    generalize cmpI a b = c at hstep hcc
    have HS : Aside (cmpL l m = if c = 0 then cmpL (l.drop (k + 1)) (m.drop (k + 1)) else c) := hstep
    clear hstep HE
    by_cases h0 : c = 0
    ·subst h0
     gi_wp2_with (first | (gi_at_call 156; refine (hcc _).mono ?_; rintro e w' ⟨rfl, rfl⟩) | (rw [Oper.semAt_eq _ _ _ (fun c h => by cases h)]; go_simp; try go_bits))
     go_roundw
     case rel => exact ⟨k + 1, by omega, by omega, by simp, trivial, by have := HS.out; simp at this; exact this.symm⟩
     case measure => simp [intOf]; omega
    ·gi_wp2_with (first | (gi_at_call 156; refine (hcc _).mono ?_; rintro e w' ⟨rfl, rfl⟩) | (rw [Oper.semAt_eq _ _ _ (fun c h => by cases h)]; go_simp; try go_bits))
     go_ret
     exact ⟨by have := HS.out; rw [if_neg h0] at this; rw [this]; rfl, rfl⟩
   ·clear hy
    gi_wp2
    go_ret
    refine ⟨?_, rfl⟩
    have e : m.drop k = [] := List.drop_of_length_le (by omega)
    rw [← HE.out, drop_get ha, e]; rfl
  ·have hkl : k = l.length := by omega
   clear hx hy
   by_cases hlt2 : l.length < m.length
   ·gi_wp2
    go_ret
    refine ⟨?_, rfl⟩
    obtain ⟨b, hb⟩ : ∃ b, m[k]? = some b := ⟨_, List.getElem?_eq_getElem (by omega)⟩
    have e : l.drop k = [] := List.drop_of_length_le (by omega)
    rw [← HE.out, drop_get hb, e]; rfl
   ·gi_wp2
    go_ret
    refine ⟨?_, rfl⟩
    have e : l.drop k = [] := List.drop_of_length_le (by omega)
    have e2 : m.drop k = [] := List.drop_of_length_le (by omega)
    rw [← HE.out, e, e2]; rfl
end
section
open Go.RowKit Go.Maps Go.Sort Go.Shelf
attribute [local go_sem] Oper.semAt_some
set_option maxRecDepth 100000 in
set_option maxHeartbeats 2000000 in
theorem mOr (g off cap : Nat) (a b : Int) (w : World) (ha : w.cell? ⟨g, off, none⟩ = some (.int .i64 a)) (hb : w.cell? ⟨g, off + 1, none⟩ = some (.int .i64 b)) :
  CallsIn Fence.wide 5 Tryz.prog 130 #[.slice (some ⟨g, off, none⟩) 2 cap] w fun e w' => e = .returned (.int .i64 (orI a b)) ∧ w' = w := by
 refine callsIn_of_wp Tryz.func130 rfl trivial ?_ rfl
 simp only [Tryz.ntmps130, List.size_toArray, List.length_cons, List.length_nil, Nat.reduceAdd, Nat.reduceSub, Array.replicate_succ, Array.replicate_zero, List.push_toArray, List.append_toArray, List.nil_append, List.cons_append]
 gi_wp2
 gi_loopw [8] (fun i wr => wr = w ∧ (i = .int .i64 0 ∨ (i = .int .i64 1 ∧ a = 0) ∨ (i = .int .i64 2 ∧ a = 0 ∧ b = 0))) (fun i _ => 2 - (intOf i).toNat)
 case atStart => exact ⟨rfl, .inl rfl⟩
 case round =>
  obtain ⟨rfl, rfl | ⟨rfl, rfl⟩ | ⟨rfl, rfl, rfl⟩⟩ := hrel
  ·by_cases h0 : a = 0
   ·subst h0
    gi_wp2
    go_roundw
    case rel => exact ⟨trivial, .inr (.inl ⟨by first | rfl | simp, trivial⟩)⟩
    case measure => simp [intOf]
   ·gi_wp2
    go_ret
    exact ⟨by simp [orI, h0], rfl⟩
  ·by_cases h0 : b = 0
   ·subst h0
    gi_wp2
    go_roundw
    case rel => exact ⟨trivial, .inr (.inr ⟨by first | rfl | simp, trivial, trivial⟩)⟩
    case measure => simp [intOf]
   ·gi_wp2
    go_ret
    exact ⟨by simp [orI], rfl⟩
  ·gi_wp2
   go_ret
   exact ⟨by simp [orI], rfl⟩
theorem IntsAt.kept {w w' : World} {x : Option Addr × Nat × Nat} {l : List Int} (h : IntsAt w x l) (hs : w.heap.size ≤ w'.heap.size) (hc : ∀ a : Addr, a.block < w.heap.size → w'.cell? a = w.cell? a) : IntsAt w' x l := by
 refine ⟨h.1, fun hne => ?_⟩
 obtain ⟨g, off, e, hg, h2⟩ := h.2 hne
 exact ⟨g, off, e, by omega, fun j hj => (hc _ hg).trans (h2 j hj)⟩
theorem cell_heap {w : World} {g j : Nat} {cs : Array Value} {t : TypeId} {fr : Nat × Nat} {v : Value} (h : w.heap[g]? = some (.cells cs t fr)) (hj : cs[j]? = some v) : w.cell? ⟨g, j, none⟩ = some v := by
 unfold World.cell?; simp only [h]; simpa using hj
theorem mixed_prog : Tryz.prog.follows .mixedOrders = true := by kernel_rfl
set_option maxRecDepth 100000 in
set_option maxHeartbeats 4000000 in
theorem mSeen (x y : El) (s t : Sn) (w : World) (hxa : IntsAt w x.a s.rd) (hxb : IntsAt w x.b s.ls) (hya : IntsAt w y.a t.rd) (hyb : IntsAt w y.b t.ls)
  (h1 : s.rd.length < 2 ^ 40) (h2 : s.ls.length < 2 ^ 40) (h3 : t.rd.length < 2 ^ 40) (h4 : t.ls.length < 2 ^ 40) :
  Calls Tryz.prog 90 #[agg2 x, agg2 y] w fun e w' => e = .returned (.int .i64 (cmpS s t)) ∧ ∃ q os, w' = grow (w.drewN q) os := by
 obtain ⟨⟨A1, n1, c1⟩, ⟨A2, n2, c2⟩⟩ := x
 obtain ⟨⟨B1, m1, d1⟩, ⟨B2, m2, d2⟩⟩ := y
 simp only [agg2]
 obtain ⟨o1, ho1⟩ : ∃ o, Obj.cells #[.slice A1 n1 c1, .slice A2 n2 c2] 28 (0, 0) = o := ⟨_, rfl⟩
 obtain ⟨o2, ho2⟩ : ∃ o, Obj.cells #[.slice B1 m1 d1, .slice B2 m2 d2] 28 (0, 0) = o := ⟨_, rfl⟩
 obtain ⟨W2, hW2⟩ : ∃ W, (w.alloc o1).alloc o2 = W := ⟨_, rfl⟩
 have hsz : W2.heap.size = w.heap.size + 2 := by rw [← hW2]; simp
 have hg2 : W2 = grow w #[o1, o2] := by rw [← hW2, alloc_eq_grow, alloc_eq_grow, grow_grow]; rfl
 have h0 : W2.heap[w.heap.size]? = some o1 := by rw [← hW2]; exact (Below.heap_alloc _ _ _ (by simp)).trans (World.alloc_heap_new w _)
 have h1' : W2.heap[w.heap.size + 1]? = some o2 := by rw [← hW2]; have := World.alloc_heap_new (w.alloc o1) o2; rwa [World.size_alloc] at this
 have hk : ∀ a : Addr, a.block < w.heap.size → W2.drew.cell? a = w.cell? a := fun a ha => by
  rw [hg2]; exact cell?_grow w _ a ha
 have hs : w.heap.size ≤ W2.drew.heap.size := by show _ ≤ W2.heap.size; omega
 have cA := callsIn_wide.1 (mCompare (A1, n1, c1) (B1, m1, d1) s.rd t.rd W2.drew (hxa.kept hs hk) (hya.kept hs hk) h1 h3)
 have cB := callsIn_wide.1 (mCompare (A2, n2, c2) (B2, m2, d2) s.ls t.ls W2.drew (hxb.kept hs hk) (hyb.kept hs hk) h2 h4)
 simp only at cA cB
 clear hxa hxb hya hyb hk hs h1 h2 h3 h4
 have x0 : W2.drew.cell? ⟨w.heap.size, 0, none⟩ = some (.slice A1 n1 c1) := by show W2.cell? _ = _; simp [World.cell?, h0, ← ho1]
 have x1 : W2.drew.cell? ⟨w.heap.size, 1, none⟩ = some (.slice A2 n2 c2) := by show W2.cell? _ = _; simp [World.cell?, h0, ← ho1]
 have y0 : W2.drew.cell? ⟨w.heap.size + 1, 0, none⟩ = some (.slice B1 m1 d1) := by show W2.cell? _ = _; simp [World.cell?, h1', ← ho2]
 have y1 : W2.drew.cell? ⟨w.heap.size + 1, 1, none⟩ = some (.slice B2 m2 d2) := by show W2.cell? _ = _; simp [World.cell?, h1', ← ho2]
 rw [show cmpS s t = orI (cmpL s.rd t.rd) (cmpL s.ls t.ls) from rfl]
 generalize cmpL s.rd t.rd = a at *
 generalize cmpL s.ls t.ls = b at *
 go_enter Tryz.func90, Tryz.ntmps90
 go_wp2_with fail
 rw [← hg2]
 refine wp_region_still_tail 10 mixed_prog (by kernel_rfl) ?_
 change wpStill _ _ W2.drew _ _ _
 simp only [List.take_succ_cons, List.take_zero, List.drop_succ_cons, List.drop_zero]
 have hg3 : Hid (W2.drew = grow (w.drewN 1) #[o1, o2]) := by show _ = _; rw [hg2]; rfl
 change wpStill _ _ _ (fun a' => wpList _ _ _ _ a' W2.drew) _ _
 clear hg2 hsz h0 h1' hW2 ho1 ho2
 generalize W2.drew = W3 at *
 repeat still_step
 still_call cA
 repeat still_step
 still_call cB
 refine wpStill_nil ?_
 have hO := fun (x : Obj) (hx : x = .cells #[.int .i64 a, .int .i64 b] 3 (0, 0)) => callsIn_wide.1 (mOr W3.heap.size 0 2 a b (W3.alloc x) (by subst hx; unfold World.cell?; rw [World.alloc_heap_new]; rfl) (by subst hx; unfold World.cell?; rw [World.alloc_heap_new]; rfl))
 have hO := hO _ rfl
 go_wp2_with (go_at_call 130; refine hO.mono ?_; rintro e w' ⟨rfl, rfl⟩)
 go_ret
 refine ⟨rfl, 1, #[o1, o2] ++ #[.cells #[.int .i64 a, .int .i64 b] 3 (0, 0)], ?_⟩
 rw [← grow_grow, ← hg3.out, ← alloc_eq_grow]
set_option maxRecDepth 100000 in
set_option maxHeartbeats 4000000 in
theorem mSame (x y : El) (s t : Sn) (w : World) (hxa : IntsAt w x.a s.rd) (hxb : IntsAt w x.b s.ls) (hya : IntsAt w y.a t.rd) (hyb : IntsAt w y.b t.ls)
  (h1 : s.rd.length < 2 ^ 40) (h2 : s.ls.length < 2 ^ 40) (h3 : t.rd.length < 2 ^ 40) (h4 : t.ls.length < 2 ^ 40) :
  Calls Tryz.prog 51 #[agg2 x, agg2 y] w fun e w' => e = .returned (.bool (decide (cmpS s t = 0))) ∧ ∃ q os, w' = grow (w.drewN q) os := by
 obtain ⟨o1, ho1⟩ : ∃ o, Obj.cells #[.slice x.a.1 x.a.2.1 x.a.2.2, .slice x.b.1 x.b.2.1 x.b.2.2] 28 (0, 0) = o := ⟨_, rfl⟩
 obtain ⟨o2, ho2⟩ : ∃ o, Obj.cells #[.slice y.a.1 y.a.2.1 y.a.2.2, .slice y.b.1 y.b.2.1 y.b.2.2] 28 (0, 0) = o := ⟨_, rfl⟩
 have hk : ∀ a : Addr, a.block < w.heap.size → (grow w #[o1, o2]).cell? a = w.cell? a := fun a ha => cell?_grow w _ a ha
 have hs : w.heap.size ≤ (grow w #[o1, o2]).heap.size := by simp
 have hC := mSeen x y s t (grow w #[o1, o2]) (hxa.kept hs hk) (hxb.kept hs hk) (hya.kept hs hk) (hyb.kept hs hk) h1 h2 h3 h4
 clear hxa hxb hya hyb hk hs h1 h2 h3 h4
 simp only [agg2] at hC ⊢
 have hg2 : (w.alloc o1).alloc o2 = grow w #[o1, o2] := by rw [alloc_eq_grow, alloc_eq_grow, grow_grow]; rfl
 have h0 : (grow w #[o1, o2]).heap[w.heap.size]? = some o1 := by rw [← hg2]; exact (Below.heap_alloc _ _ _ (by simp)).trans (World.alloc_heap_new w _)
 have h1' : (grow w #[o1, o2]).heap[w.heap.size + 1]? = some o2 := by rw [← hg2]; have := World.alloc_heap_new (w.alloc o1) o2; rwa [World.size_alloc] at this
 have x0 : (grow w #[o1, o2]).cell? ⟨w.heap.size, 0, none⟩ = some (.slice x.a.1 x.a.2.1 x.a.2.2) := cell_heap (h0.trans (congrArg some ho1.symm)) rfl
 have x1 : (grow w #[o1, o2]).cell? ⟨w.heap.size, 1, none⟩ = some (.slice x.b.1 x.b.2.1 x.b.2.2) := cell_heap (h0.trans (congrArg some ho1.symm)) rfl
 have y0 : (grow w #[o1, o2]).cell? ⟨w.heap.size + 1, 0, none⟩ = some (.slice y.a.1 y.a.2.1 y.a.2.2) := cell_heap (h1'.trans (congrArg some ho2.symm)) rfl
 have y1 : (grow w #[o1, o2]).cell? ⟨w.heap.size + 1, 1, none⟩ = some (.slice y.b.1 y.b.2.1 y.b.2.2) := cell_heap (h1'.trans (congrArg some ho2.symm)) rfl
 clear h0 h1'
 generalize cmpS s t = c at *
 go_enter Tryz.func51, Tryz.ntmps51
 go_wp2_with fail
 clear hg2 ho1 ho2
 have HG : Hid (grow w #[o1, o2] = grow w #[o1, o2]) := rfl
 generalize hW : grow w #[o1, o2] = W at x0 x1 y0 y1 hC ⊢
 have HW : Hid (grow w #[o1, o2] = W) := hW
 clear hW HG
 go_wp2_with (go_at_call 90; refine hC.mono ?_; rintro e w' ⟨rfl, q, os, rfl⟩)
 go_ret
 refine ⟨rfl, q, #[o1, o2] ++ os, ?_⟩
 rw [← HW.out]
 show grow ((grow w _).drewN q) os = _
 rw [← grow_grow]; rfl
end
end Go.Proofs.YtfbgabkcjjahiaaGreatDoor
