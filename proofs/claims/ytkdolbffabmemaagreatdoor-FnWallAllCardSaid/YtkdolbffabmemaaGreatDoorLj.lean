/-
 Contracts and plain laws.
-/
import Derived.Test.YtkdolbffabmemaaGreatDoorLf
import Derived.Test.YtkdolbffabmemaaGreatDoorLi
set_option linter.unusedSimpArgs false
set_option linter.unusedVariables false
set_option linter.unusedSectionVars false
namespace Go.Proofs.YtkdolbffabmemaaGreatDoor
section
open Go.RowKit
def Rkd (n : Nat) (R : Nat → Nat → Prop) : Prop := ∃ r : Nat → Nat, ∀ a b, a < n → b < n → R a b → r a < r b
theorem least_of {S : Nat → Prop} (r : Nat → Nat) (h : ∃ b, S b) : ∃ b, S b ∧ ∀ a, S a → r b ≤ r a := by
 obtain ⟨b0, h0⟩ := h
 have key : ∀ m b, r b = m → S b → ∃ b, S b ∧ ∀ a, S a → r b ≤ r a := by
  intro m
  induction m using Nat.strongRecOn with
  | ind m ih =>
   intro b hb hS
   by_cases hx : ∃ a, S a ∧ r a < r b
   ·obtain ⟨a, h1, h2⟩ := hx
    exact ih (r a) (by omega) a rfl h1
   ·exact ⟨b, hS, fun a ha => by
     rcases Nat.lt_or_ge (r a) (r b) with h | h
     ·exact absurd ⟨a, ha, h⟩ hx
     ·exact h⟩
 exact key _ b0 rfl h0
theorem Rkd.min {n : Nat} {R : Nat → Nat → Prop} (h : Rkd n R) (S : Nat → Prop) (hS : ∃ b, b < n ∧ S b) : ∃ b, b < n ∧ S b ∧ ∀ a, a < n → S a → ¬ R a b := by
 obtain ⟨r, hr⟩ := h
 obtain ⟨b, ⟨h1, h2⟩, h3⟩ := least_of (S := fun b => b < n ∧ S b) r hS
 refine ⟨b, h1, h2, fun a ha hSa hR => ?_⟩
 have := hr a b ha h1 hR
 have := h3 a ⟨ha, hSa⟩
 omega
theorem Rkd.of_min {n : Nat} {R : Nat → Nat → Prop} (h : ∀ S : Nat → Prop, (∃ b, b < n ∧ S b) → ∃ b, b < n ∧ S b ∧ ∀ a, a < n → S a → ¬ R a b) : Rkd n R := by
 have key : ∀ m (S : Nat → Bool), cntE n S = m → ∃ r : Nat → Nat, ∀ a b, a < n → b < n → S a = true → S b = true → R a b → r a < r b := by
  intro m
  induction m with
  | zero =>
   intro S hc
   refine ⟨fun _ => 0, fun a b ha hb hSa => ?_⟩
   have := cnt_pos ha hSa
   omega
  | succ m ih =>
   intro S hc
   by_cases hne : ∃ b, b < n ∧ S b = true
   ·obtain ⟨b, h1, h2, h3⟩ := h (fun b => S b = true) hne
    have := cnt_rem h2 h1
    obtain ⟨r, hr⟩ := ih (fun x => S x && !(x == b)) (by omega)
    refine ⟨fun x => if x = b then 0 else r x + 1, fun x y hx hy hSx hSy hR => ?_⟩
    have hyb : y ≠ b := fun e => h3 x hx hSx (e ▸ hR)
    simp only [if_neg hyb]
    by_cases hxb : x = b
    ·simp only [if_pos hxb]; omega
    ·simp only [if_neg hxb]
     have := hr x y hx hy (by simp [hSx, hxb]) (by simp [hSy, hyb]) hR
     omega
   ·exact ⟨fun _ => 0, fun a b ha hb hSa => absurd ⟨a, ha, hSa⟩ hne⟩
 obtain ⟨r, hr⟩ := key _ (fun _ => true) rfl
 exact ⟨r, fun a b ha hb => hr a b ha hb rfl rfl⟩
theorem acy_rkd {n : Nat} {R : Nat → Nat → Bool} : Acy R n ↔ Rkd n (fun a b => R a b = true) := by
 constructor
 ·intro h
  refine Rkd.of_min fun S hS => ?_
  obtain ⟨b, hb, hSb⟩ := hS
  obtain ⟨b, h1, h2, h3⟩ := h (fun x => @decide (S x) (Classical.propDecidable _)) ⟨b, hb, by simpa using hSb⟩
  exact ⟨b, h1, by simpa using h2, fun a ha hSa => by rw [h3 a ha (by simpa using hSa)]; simp⟩
 ·intro h S hS
  obtain ⟨b, h1, h2, h3⟩ := h.min (fun x => S x = true) hS
  exact ⟨b, h1, h2, fun a ha hSa => by simpa using h3 a ha hSa⟩
theorem Rkd.less {n : Nat} {R R' : Nat → Nat → Prop} (h : Rkd n R) (hs : ∀ a b, a < n → b < n → R' a b → R a b) : Rkd n R' := by
 obtain ⟨r, hr⟩ := h
 exact ⟨r, fun a b ha hb hR => hr a b ha hb (hs a b ha hb hR)⟩
theorem Rkd.pull {n m : Nat} {R R' : Nat → Nat → Prop} {f : Nat → Nat} (h : Rkd m R) (hf : ∀ a, a < n → f a < m) (hs : ∀ a b, a < n → b < n → R' a b → R (f a) (f b) ∨ ∃ v, v < m ∧ R (f a) v ∧ R v (f b)) : Rkd n R' := by
 obtain ⟨r, hr⟩ := h
 refine ⟨fun a => r (f a), fun a b ha hb hR => ?_⟩
 rcases hs a b ha hb hR with h1 | ⟨v, hv, h1, h2⟩
 ·exact hr _ _ (hf a ha) (hf b hb) h1
 ·have := hr _ _ (hf a ha) hv h1
  have := hr _ _ hv (hf b hb) h2
  dsimp only
  omega
theorem rkd_walls {n : Nat} {R own : Nat → Nat → Prop} {old : Nat → Prop} {r : Nat → Nat}
  (h1 : ∀ a b, a < n → b < n → old a → old b → R a b → r a < r b)
  (h2 : ∀ a b, a < n → b < n → R a b → (¬ old a ∨ ¬ old b) → own a b)
  (h3 : ∀ a v b, a < n → v < n → b < n → ¬ old v → old a → old b → own a v → own v b → r a < r b)
  (ho : ∀ a b, own a b → a < b) (ht : ∀ a b c, own a b → own b c → own a c) : Rkd n R := by
 refine Rkd.of_min fun S hS => ?_
 by_cases hold : ∃ u, (u < n ∧ S u) ∧ old u
 ·obtain ⟨u, ⟨⟨hun, hSu⟩, hou⟩, hmin⟩ := least_of (S := fun u => (u < n ∧ S u) ∧ old u) r hold
  by_cases hv : ∃ v, v < n ∧ S v ∧ ¬ old v ∧ own v u
  ·obtain ⟨v, ⟨hvn, hSv, hov, hvu⟩, hvm⟩ := least_of (S := fun v => v < n ∧ S v ∧ ¬ old v ∧ own v u) id hv
   refine ⟨v, hvn, hSv, fun a ha hSa hR => ?_⟩
   have hav := h2 a v ha hvn hR (.inr hov)
   by_cases hoa : old a
   ·have := h3 a v u ha hvn hun hov hoa hou hav hvu
    have := hmin a ⟨⟨ha, hSa⟩, hoa⟩
    omega
   ·have := hvm a ⟨ha, hSa, hoa, ht _ _ _ hav hvu⟩
    have := ho _ _ hav
    simp only [id] at *
    omega
  ·refine ⟨u, hun, hSu, fun a ha hSa hR => ?_⟩
   by_cases hoa : old a
   ·have := h1 a u ha hun hoa hou hR
    have := hmin a ⟨⟨ha, hSa⟩, hoa⟩
    omega
   ·exact hv ⟨a, ha, hSa, hoa, h2 a u ha hun hR (.inl hoa)⟩
 ·obtain ⟨b, ⟨hb, hSb⟩, hbm⟩ := least_of (S := fun b => b < n ∧ S b) id hS
  refine ⟨b, hb, hSb, fun a ha hSa hR => ?_⟩
  have := ho _ _ (h2 a b ha hb hR (.inl fun hoa => hold ⟨a, ⟨ha, hSa⟩, hoa⟩))
  have := hbm a ⟨ha, hSa⟩
  simp only [id] at *
  omega
theorem rkd_ends {n : Nat} {R : Nat → Nat → Prop} {src snk : Nat → Prop} {r : Nat → Nat}
  (h : ∀ a b, a < n → b < n → ¬ src a → ¬ snk a → ¬ src b → ¬ snk b → R a b → r a < r b)
  (h1 : ∀ a b, a < n → b < n → src b → ¬ R a b) (h2 : ∀ a b, a < n → b < n → snk a → ¬ R a b) : Rkd n R := by
 refine Rkd.of_min fun S hS => ?_
 by_cases hs : ∃ b, b < n ∧ S b ∧ src b
 ·obtain ⟨b, hb, hSb, hsb⟩ := hs
  exact ⟨b, hb, hSb, fun a ha _ => h1 a b ha hb hsb⟩
 ·by_cases hr : ∃ b, (b < n ∧ S b) ∧ ¬ snk b
  ·obtain ⟨b, ⟨⟨hb, hSb⟩, hnb⟩, hm⟩ := least_of (S := fun b => (b < n ∧ S b) ∧ ¬ snk b) r hr
   refine ⟨b, hb, hSb, fun a ha hSa hR => ?_⟩
   by_cases hka : snk a
   ·exact h2 a b ha hb hka hR
   ·have := h a b ha hb (fun e => hs ⟨a, ha, hSa, e⟩) hka (fun e => hs ⟨b, hb, hSb, e⟩) hnb hR
    have := hm a ⟨⟨ha, hSa⟩, hka⟩
    omega
  ·obtain ⟨b, hb, hSb⟩ := hS
   refine ⟨b, hb, hSb, fun a ha hSa hR => ?_⟩
   exact h2 a b ha hb (Classical.byContradiction fun e => hr ⟨a, ⟨ha, hSa⟩, e⟩) hR
def AddL (out : Nat → Nat) (l : List (Nat × Nat)) (σ : Nat → Nat → Bool) (a b : Nat) : Prop :=
 ∃ e i, (e, i) ∈ l ∧ ((σ e i = true ∧ a = out i ∧ b = e) ∨ (σ e i = false ∧ a = e - 1 ∧ b = i))
theorem settle_iff {n : Nat} {out : Nat → Nat} : ∀ {l : List (Nat × Nat)} {R : Nat → Nat → Bool}, (settleR n out l R).isSome = true ↔ ∃ σ, Rkd n fun a b => R a b = true ∨ AddL out l σ a b
 | [], R => by
  have e : (settleR n out [] R).isSome = (lineE R n).isSome := by
   rw [settleR]; cases (lineE R n).isSome <;> rfl
  rw [e, line_acy, acy_rkd]
  constructor
  ·intro h
   exact ⟨fun _ _ => true, h.less fun a b _ _ hh => hh.resolve_right (by rintro ⟨e, i, h, _⟩; cases h)⟩
  ·rintro ⟨σ, h⟩
   exact h.less fun a b _ _ hh => .inl hh
 | (e, i) :: l, R => by
  have hs : (settleR n out ((e, i) :: l) R).isSome = true ↔ (lineE R n).isSome = true ∧ ((settleR n out l (wiR R (out i) e)).isSome = true ∨ (settleR n out l (wiR R (e - 1) i)).isSome = true) := by
   rw [settleR]
   cases (lineE R n).isSome
   ·simp
   ·simp [Option.isSome_or]
  rw [hs, settle_iff, settle_iff, line_acy, acy_rkd]
  have wi : ∀ {x y a b : Nat}, wiR R x y a b = true ↔ R a b = true ∨ (a = x ∧ b = y) := by
   intro x y a b
   simp [wiR]
  constructor
  ·rintro ⟨_, ⟨σ, h⟩ | ⟨σ, h⟩⟩
   ·by_cases hm : (e, i) ∈ l
    ·refine ⟨σ, h.less fun a b _ _ hh => ?_⟩
     rcases hh with hh | ⟨e', i', h1, h2⟩
     ·exact .inl (wi.2 (.inl hh))
     ·rcases List.mem_cons.1 h1 with h1 | h1
      ·cases h1; exact .inr ⟨e, i, hm, h2⟩
      ·exact .inr ⟨e', i', h1, h2⟩
    ·refine ⟨fun x y => if x = e ∧ y = i then true else σ x y, h.less fun a b _ _ hh => ?_⟩
     rcases hh with hh | ⟨e', i', h1, h2⟩
     ·exact .inl (wi.2 (.inl hh))
     ·by_cases hq : e' = e ∧ i' = i
      ·obtain ⟨rfl, rfl⟩ := hq
       simp at h2
       exact .inl (wi.2 (.inr h2))
      ·simp only [hq, if_false] at h2
       rcases List.mem_cons.1 h1 with h1 | h1
       ·cases h1; exact absurd ⟨rfl, rfl⟩ hq
       ·exact .inr ⟨e', i', h1, h2⟩
   ·by_cases hm : (e, i) ∈ l
    ·refine ⟨σ, h.less fun a b _ _ hh => ?_⟩
     rcases hh with hh | ⟨e', i', h1, h2⟩
     ·exact .inl (wi.2 (.inl hh))
     ·rcases List.mem_cons.1 h1 with h1 | h1
      ·cases h1; exact .inr ⟨e, i, hm, h2⟩
      ·exact .inr ⟨e', i', h1, h2⟩
    ·refine ⟨fun x y => if x = e ∧ y = i then false else σ x y, h.less fun a b _ _ hh => ?_⟩
     rcases hh with hh | ⟨e', i', h1, h2⟩
     ·exact .inl (wi.2 (.inl hh))
     ·by_cases hq : e' = e ∧ i' = i
      ·obtain ⟨rfl, rfl⟩ := hq
       simp at h2
       exact .inl (wi.2 (.inr h2))
      ·simp only [hq, if_false] at h2
       rcases List.mem_cons.1 h1 with h1 | h1
       ·cases h1; exact absurd ⟨rfl, rfl⟩ hq
       ·exact .inr ⟨e', i', h1, h2⟩
  ·rintro ⟨σ, h⟩
   refine ⟨h.less fun a b _ _ hh => .inl hh, ?_⟩
   cases hσ : σ e i
   ·right
    refine ⟨σ, h.less fun a b _ _ hh => ?_⟩
    rcases hh with hh | ⟨e', i', h1, h2⟩
    ·rcases wi.1 hh with hh | hq
     ·exact .inl hh
     ·exact .inr ⟨e, i, by simp, .inr ⟨hσ, hq⟩⟩
    ·exact .inr ⟨e', i', by simp [h1], h2⟩
   ·left
    refine ⟨σ, h.less fun a b _ _ hh => ?_⟩
    rcases hh with hh | ⟨e', i', h1, h2⟩
    ·rcases wi.1 hh with hh | hq
     ·exact .inl hh
     ·exact .inr ⟨e, i, by simp, .inl ⟨hσ, hq⟩⟩
    ·exact .inr ⟨e', i', by simp [h1], h2⟩
theorem mem_chIn {ds : List Do} {e : Nat} {q : Nat × Nat} : ∀ {j : Nat}, q ∈ chIn ds e j ↔ q.1 = e ∧ q.2 < j ∧ kd ds q.2 = 7
 | 0 => by simp [chIn]
 | j + 1 => by
  constructor
  ·exact chIn_mem
  ·rintro ⟨h1, h2, h3⟩
   rw [chIn, List.mem_append]
   rcases Nat.lt_or_ge q.2 j with h | h
   ·exact .inl (mem_chIn.2 ⟨h1, h, h3⟩)
   ·have : q.2 = j := by omega
    right
    rw [← this, h3]
    simp [← h1]
structure WtIn (p : Prog) (e i : Nat) : Prop where
 el : e < (events p).length
 late : ltA (events p) e = true
 il : i < (events p).length
 k7 : kd (scene p).ds i = 7
theorem mem_chRef {p : Prog} {e i : Nat} : ∀ {k : Nat}, k ≤ (events p).length → ((e, i) ∈ chRef p k ↔ WtIn p e i ∧ e ≤ k)
 | 0, _ => by
  simp only [chRef, List.not_mem_nil, false_iff]
  rintro ⟨h, h0⟩
  obtain ⟨w, h1, _⟩ := wait_prev h.el h.late
  omega
 | k + 1, hk => by
  have hsl : (scene p).ds.length = (events p).length := by simp [scene]
  rw [chRef, List.mem_append, mem_chRef (by omega)]
  constructor
  ·rintro (⟨h1, h2⟩ | h)
   ·exact ⟨h1, by omega⟩
   ·split at h
    ·rename_i h9
     rw [Bool.and_eq_true, Bool.not_eq_true', beq_iff_eq] at h9
     obtain ⟨rfl, h2, h3⟩ := mem_chIn.1 h
     have := wait_next (by omega) h9.1 h9.2
     exact ⟨⟨this.1, this.2.2, by rw [← hsl]; exact h2, h3⟩, by simp⟩
    ·cases h
  ·rintro ⟨h1, h2⟩
   rcases Nat.lt_or_ge k e with h | h
   ·right
    have hek : e = k + 1 := by omega
    obtain ⟨w, h3, h4, h5⟩ := wait_prev h1.el h1.late
    have hwk : w = k := by omega
    subst hwk
    rw [h4, h5]
    simp only [beq_self_eq_true, Bool.not_false, Bool.and_self, if_true]
    exact mem_chIn.2 ⟨hek, by rw [hsl]; exact h1.il, h1.k7⟩
   ·exact .inl ⟨h1, h⟩
def AddR (p : Prog) (σ : Nat → Nat → Bool) (a b : Nat) : Prop :=
 ∃ e i, WtIn p e i ∧ ((σ e i = true ∧ a = outA p i ∧ b = e) ∨ (σ e i = false ∧ a + 1 = e ∧ b = i))
theorem add_iff {p : Prog} {σ : Nat → Nat → Bool} {a b : Nat} : AddL (outA p) (chRef p (events p).length) σ a b ↔ AddR p σ a b := by
 constructor
 ·rintro ⟨e, i, h, h2⟩
  have hw := ((mem_chRef (Nat.le_refl _)).1 h).1
  obtain ⟨w, h3, _⟩ := wait_prev hw.el hw.late
  refine ⟨e, i, hw, h2.imp id fun ⟨h4, h5, h6⟩ => ⟨h4, by omega, h6⟩⟩
 ·rintro ⟨e, i, h, h2⟩
  have := h.el
  exact ⟨e, i, (mem_chRef (Nat.le_refl _)).2 ⟨h, by omega⟩, h2.imp id fun ⟨h4, h5, h6⟩ => ⟨h4, by omega, h6⟩⟩
structure Hld (p : Prog) (x : Exe) (kind : Int) : Prop where
 pl : Rkd (events p).length fun a b => netR p x 0 a b = true
 ex : ∃ σ, Rkd (events p).length fun a b => netR p x kind a b = true ∨ AddR p σ a b
theorem holds_iff {p : Prog} {x : Exe} {kind : Int} : holdsS p x kind = true ↔ specOk p x = true ∧ inB kind 1 3 = true ∧ Hld p x kind := by
 have e : (settledS p x kind).isSome = true ↔ Hld p x kind := by
  rw [settledS]
  have h1 : (lineE (netR p x 0) (events p).length).isSome = true ↔ Rkd (events p).length fun a b => netR p x 0 a b = true := by rw [line_acy, acy_rkd]
  have h2 : (settleR (events p).length (outA p) (chRef p (events p).length) (netR p x kind)).isSome = true ↔ ∃ σ, Rkd (events p).length fun a b => netR p x kind a b = true ∨ AddR p σ a b := by
   rw [settle_iff]
   simp only [add_iff]
  split
  ·rename_i h
   rw [h2]
   exact ⟨fun hh => ⟨h1.1 h, hh⟩, fun hh => hh.ex⟩
  ·rename_i h
   simp only [Option.isSome_none, Bool.false_eq_true, false_iff]
   exact fun hh => h (h1.2 hh.pl)
 rw [holdsS, Bool.and_eq_true, Bool.and_eq_true, e, and_assoc]
end
section
open Go.RowKit
inductive Val (ds : List Do) (fr : List Int) : Nat → Int → Prop
 | val {i : Nat} {d : Do} : ds[i]? = some d → d.valued = true → Val ds fr i d.v
 | cp {i : Nat} {d : Do} {v : Int} : ds[i]? = some d → d.k = 3 → Val ds fr (lastRd ds i) v → Val ds fr i v
 | no {i : Nat} {d : Do} : ds[i]? = some d → d.reads = true → fr[i]? = some (-1) → Val ds fr i 0
 | rd {i b : Nat} {d : Do} {v : Int} : ds[i]? = some d → d.reads = true → fr[i]? = some (b : Int) → Val ds fr b v → Val ds fr i v
theorem k_valued {d : Do} (h : d.valued = true) : d.writes = true ∧ d.k ≠ 3 ∧ d.reads = false := by
 simp only [Do.valued, Bool.or_eq_true, beq_iff_eq] at h
 rcases h with h | h <;> simp [Do.writes, Do.reads, h]
theorem k_copy {d : Do} (h : d.k = 3) : d.writes = true ∧ d.valued = false ∧ d.reads = false := by simp [Do.writes, Do.reads, Do.valued, h]
theorem k_reads {d : Do} (h : d.reads = true) : d.writes = false ∧ d.valued = false ∧ d.k ≠ 3 := by
 simp only [Do.reads, Bool.or_eq_true, beq_iff_eq] at h
 rcases h with h | h <;> simp [Do.writes, Do.valued, h]
theorem k_writes {d : Do} (h : d.writes = true) (h3 : d.k ≠ 3) : d.valued = true := by
 simp only [Do.writes, Do.valued, Bool.or_eq_true, beq_iff_eq] at *
 omega
theorem uses_or {d : Do} : d.uses = true ↔ d.reads = true ∨ d.writes = true := by simp [Do.uses]
theorem val_I {ds : List Do} {fr : List Int} {i : Nat} {v : Int} (h : Val ds fr i v) : ∃ m, valI ds fr m i = some v := by
 induction h with
 | val hd hv => exact ⟨1, by rw [valI, hd]; simp [hv]⟩
 | cp hd h3 _ ih =>
  obtain ⟨m, hm⟩ := ih
  refine ⟨m + 1, ?_⟩
  rw [valI, hd]
  simp [(k_copy h3).2.1, h3, hm]
 | no hd hr hf => exact ⟨1, by rw [valI, hd]; simp [k_reads hr, hf]⟩
 | @rd i b d v hd hr hf _ ih =>
  obtain ⟨m, hm⟩ := ih
  refine ⟨m + 1, ?_⟩
  rw [valI, hd]
  have : ((b : Int) == -1) = false := beq_eq_false_iff_ne.2 (by omega)
  simp [k_reads hr, hf, this, hm]
theorem val_eqI {ds : List Do} {fr : List Int} {i : Nat} {v : Int} (h : Val ds fr i v) : valI ds fr ds.length i = some v := by
 obtain ⟨m, hm⟩ := val_I h
 exact valI_enough hm
theorem Val.fn {ds : List Do} {fr : List Int} {i : Nat} {v w : Int} (h : Val ds fr i v) (h' : Val ds fr i w) : v = w := by
 have h1 := val_eqI h
 rw [val_eqI h'] at h1
 exact (Option.some.inj h1).symm
theorem val_of {ds : List Do} {fr : List Int} (hc : copyOk ds) (hf : fromOk ds fr) : ∀ {m i : Nat} {d : Do} {v : Int}, ds[i]? = some d → d.uses = true → valI ds fr m i = some v → Val ds fr i v
 | 0, _, _, _, _, _, h => by rw [valI] at h; cases h
 | m + 1, i, d, v, hd, hu, h => by
  rw [valI, hd] at h
  dsimp only at h
  by_cases hv : d.valued = true
  ·rw [if_pos hv] at h
   cases h
   exact .val hd hv
  ·rw [if_neg hv] at h
   by_cases h3 : d.k = 3
   ·rw [if_pos (by simpa using h3)] at h
    obtain ⟨_, ⟨d', k2, k3⟩, _⟩ := lastRd_spec (hc i d hd h3)
    exact .cp hd h3 (val_of hc hf k2 (uses_or.2 (.inl k3)) h)
   ·rw [if_neg (by simpa using h3)] at h
    have hr : d.reads = true := by
     rcases uses_or.1 hu with hr | hw
     ·exact hr
     ·exact absurd (k_writes hw h3) hv
    obtain ⟨f, hfa⟩ : ∃ f, fr[i]? = some f := ⟨_, List.getElem?_eq_getElem (by have := (List.getElem?_eq_some_iff.1 hd).1; have := hf.1; omega)⟩
    rw [hfa] at h
    dsimp only at h
    rcases hf.2 i d f hd hfa hr with rfl | ⟨b, d', rfl, h1, h2⟩
    ·simp at h
     subst h
     exact .no hd hr hfa
    ·rw [if_neg (by simp)] at h
     exact .rd hd hr hfa (val_of hc hf h1 (uses_or.2 (.inr h2)) (by simpa using h))
structure OKW (ds : List Do) (x : Exe) : Prop where
 frl : x.fr.length = ds.length
 odl : x.od.length = 3
 od : ∀ k : Nat, k < 3 → ∃ r, x.od[k]? = some r ∧ r.Nodup ∧ ∀ z : Int, z ∈ r ↔ ∃ (b : Nat) (d : Do), z = b ∧ ds[b]? = some d ∧ d.writes = true ∧ d.p = k
 rd : ∀ (i : Nat) (d : Do) (f : Int), ds[i]? = some d → x.fr[i]? = some f → d.reads = true → f = -1 ∨ ∃ (b : Nat) (d' : Do), f = b ∧ ds[b]? = some d' ∧ d'.writes = true ∧ d'.p = d.p
 nr : ∀ (i : Nat) (d : Do) (f : Int), ds[i]? = some d → x.fr[i]? = some f → d.reads = false → f = -2
 ends : ∀ (i : Nat) (d : Do), ds[i]? = some d → d.uses = true → ∃ v, Val ds x.fr i v
theorem mem_writers {ds : List Do} {pl z : Int} : z ∈ writersOf ds pl ↔ ∃ (b : Nat) (d : Do), z = b ∧ ds[b]? = some d ∧ d.writes = true ∧ d.p = pl := by
 constructor
 ·intro h
  obtain ⟨b, d, _, h1, h2, h3, h4⟩ := mem_wrs h
  exact ⟨b, d, h1, h2, h3, h4⟩
 ·rintro ⟨b, d, rfl, h2, h3, h4⟩
  have key : ∀ k, b < k → (b : Int) ∈ wrs ds pl k := by
   intro k
   induction k with
   | zero => intro h; omega
   | succ k ih =>
    intro h
    rw [wrs, List.mem_append]
    rcases Nat.lt_or_ge b k with h' | h'
    ·exact .inl (ih h')
    ·have : b = k := by omega
     subst this
     right
     rw [h2]
     simp [h3, h4]
  exact key _ (List.getElem?_eq_some_iff.1 h2).1
theorem okw_iff {p : Prog} {x : Exe} (hok : progOk p = true) : specOk p x = true ↔ OKW (scene p).ds x := by
 have hsl : (scene p).ds.length = (events p).length := by simp [scene]
 constructor
 ·intro h
  have hex : execOk p x = true := by rw [ok_eq]; exact h
  have hw := Way.of hex
  simp only [specOk, formS, Bool.and_eq_true, decide_eq_true_eq, List.all_eq_true] at h
  obtain ⟨_, ⟨⟨⟨h1, h2⟩, h3⟩, h4⟩, _⟩ := h
  have hfit : fits (scene p) x = true := by
   simp only [execOk, okX, Bool.and_eq_true] at hex; exact hex.2.1
  have hff := fromOk_of (scene_len p) hfit
  refine ⟨by omega, h2, fun k hk => ?_, fun i d f hd hf hr => ?_, fun i d f hd hf hr => ?_, fun i d hd hu => ?_⟩
  ·have hr : x.od[k]? = some x.od[k] := List.getElem?_eq_getElem (by omega)
   have := h3 k (List.mem_range.2 hk)
   simp only [placeS, hr, Option.getD_some, Bool.and_eq_true, beq_iff_eq, List.all_eq_true, List.contains_iff_mem] at this
   have hp := perm_of (writers_nodup _ _) this.2 (by omega)
   exact ⟨_, hr, (hp.nodup_iff).1 (writers_nodup _ _), fun z => by rw [← hp.mem_iff, mem_writers]⟩
  ·have := hw.from_ i d f hd hf
   simp only [frOk, hr, if_true, Bool.or_eq_true, beq_iff_eq, List.contains_iff_mem] at this
   rcases this with h | h
   ·exact .inl h
   ·obtain ⟨b, d', k1, k2, k3, k4⟩ := mem_writers.1 h
    exact .inr ⟨b, d', k1, k2, k3, k4⟩
  ·have := hw.from_ i d f hd hf
   simpa [frOk, hr] using this
  ·exact ⟨_, val_of (scene_copy hok) hff hd hu (val_some hex hd hu)⟩
 ·intro h
  have hform : formS p x = true := by
   simp only [formS, Bool.and_eq_true, decide_eq_true_eq, List.all_eq_true]
   refine ⟨⟨⟨by have := h.frl; omega, h.odl⟩, fun k hk => ?_⟩, fun q hq => ?_⟩
   ·obtain ⟨r, h1, h2, h3⟩ := h.od k (List.mem_range.1 hk)
    have hp : (writersOf (scene p).ds k).Perm r := (List.perm_ext_iff_of_nodup (writers_nodup _ _) h2).2 fun z => by rw [mem_writers, h3]
    simp only [placeS, h1, Option.getD_some, Bool.and_eq_true, beq_iff_eq, List.all_eq_true, List.contains_iff_mem]
    exact ⟨hp.length_eq, fun z hz => hp.mem_iff.1 hz⟩
   ·obtain ⟨i, hi⟩ := List.getElem?_of_mem hq
    obtain ⟨d, f⟩ := q
    rw [List.getElem?_zip_eq_some] at hi
    obtain ⟨hd, hf⟩ := hi
    simp only [fromS]
    cases hr : d.reads
    ·simp only [Bool.false_eq_true, if_false, beq_iff_eq]
     exact h.nr i d f hd hf hr
    ·simp only [if_true, Bool.or_eq_true, beq_iff_eq, List.contains_iff_mem]
     rcases h.rd i d f hd hf hr with h1 | ⟨b, d', h1, h2, h3, h4⟩
     ·exact .inl h1
     ·right
      have hpl := formed_place (scene_formed hok d (List.mem_of_getElem? hd)) (uses_or.2 (.inl hr))
      obtain ⟨r, k1, k2, k3⟩ := h.od d.p.toNat (by omega)
      rw [k1, Option.getD_some, k3]
      exact ⟨b, d', h1, h2, h3, by omega⟩
  have hfit : fits (scene p) x = true := by rw [fits_form hok]; exact hform
  rw [← ok_eq, execOk, hok, okX, hfit, Bool.true_and, Bool.true_and, List.all_eq_true]
  rintro ⟨d, a⟩ hq
  obtain ⟨i, hi⟩ := List.getElem?_of_mem hq
  simp only [List.getElem?_zipIdx, Option.map_eq_some_iff, Prod.mk.injEq, Nat.zero_add] at hi
  obtain ⟨d', hd, rfl, rfl⟩ := hi
  rw [endOk]
  cases hu : d'.uses
  ·rfl
  ·obtain ⟨v, hv⟩ := h.ends i d' hd hu
   rw [val_eqI hv]; rfl
theorem mem_ordW {p : Prog} {kind : Int} {s : Sn} : s ∈ ordAll p kind ↔ progOk p = true ∧ inB kind 1 3 = true ∧ ∃ x, OKW (scene p).ds x ∧ Hld p x kind ∧ seenF p x = s := by
 rw [mem_ord]
 constructor
 ·rintro ⟨h1, h2, x, _, h3, h4⟩
  obtain ⟨k1, _, k3⟩ := holds_iff.1 h3
  exact ⟨h1, h2, x, (okw_iff h1).1 k1, k3, h4⟩
 ·rintro ⟨h1, h2, x, h3, h4, h5⟩
  have h6 := (okw_iff h1).2 h3
  exact ⟨h1, h2, x, by rw [← all_eq, mem_execAll, ok_eq]; exact h6, holds_iff.2 ⟨h6, h2, h4⟩, h5⟩
end
section
open Go.RowKit
structure Sim (d d' : Do) : Prop where
 r : d'.reads = d.reads
 w : d'.writes = d.writes
 p : d'.p = d.p
 v : d'.v = d.v
 c : d'.k = 3 ↔ d.k = 3
theorem Sim.refl (d : Do) : Sim d d := ⟨rfl, rfl, rfl, rfl, Iff.rfl⟩
theorem Sim.uses {d d' : Do} (h : Sim d d') : d'.uses = d.uses := by simp [Do.uses, h.r, h.w]
theorem Sim.valued {d d' : Do} (h : Sim d d') : d'.valued = d.valued := by
 cases hv : d.valued
 ·cases hv' : d'.valued
  ·rfl
  ·have h1 := k_valued hv'
   have : d.valued = true := k_writes (by rw [← h.w]; exact h1.1) fun e => h1.2.1 (h.c.2 e)
   rw [hv] at this; cases this
 ·have h1 := k_valued hv
  exact k_writes (by rw [h.w]; exact h1.1) fun e => h1.2.1 (h.c.1 e)
structure Emb (F G : List Do) (f : Nat → Nat) : Prop where
 mono : ∀ i j, i < j → j < F.length → f i < f j
 sim : ∀ (i : Nat) (d : Do), F[i]? = some d → ∃ d', G[f i]? = some d' ∧ Sim d d'
 cp : ∀ (i : Nat) (d : Do), F[i]? = some d → d.k = 3 → lastRd G (f i) = f (lastRd F i)
theorem Emb.lt {F G : List Do} {f : Nat → Nat} (h : Emb F G f) {i : Nat} (hi : i < F.length) : f i < G.length := by
 obtain ⟨d', h1, _⟩ := h.sim i _ (List.getElem?_eq_getElem hi)
 exact (List.getElem?_eq_some_iff.1 h1).1
theorem Emb.inj {F G : List Do} {f : Nat → Nat} (h : Emb F G f) {i j : Nat} (hi : i < F.length) (hj : j < F.length) (he : f i = f j) : i = j := by
 rcases Nat.lt_trichotomy i j with h1 | h1 | h1
 ·have := h.mono i j h1 hj; omega
 ·exact h1
 ·have := h.mono j i h1 hi; omega
theorem Emb.lt_iff {F G : List Do} {f : Nat → Nat} (h : Emb F G f) {i j : Nat} (hi : i < F.length) (hj : j < F.length) : f i < f j ↔ i < j := by
 constructor
 ·intro hh
  rcases Nat.lt_trichotomy i j with h1 | h1 | h1
  ·exact h1
  ·rw [h1] at hh; omega
  ·have := h.mono j i h1 hi; omega
 ·exact fun hh => h.mono i j hh hj
def lft (f : Nat → Nat) (z : Int) : Int := if 0 ≤ z then (f z.toNat : Int) else z
theorem lft_nat (f : Nat → Nat) (b : Nat) : lft f (b : Int) = f b := by rw [lft, if_pos (by omega)]; simp
theorem lft_neg (f : Nat → Nat) {z : Int} (h : z < 0) : lft f z = z := by rw [lft, if_neg (by omega)]
theorem lft_isneg {f : Nat → Nat} {z : Int} (h : lft f z < 0) : z < 0 ∧ lft f z = z := by
 rcases (by omega : z < 0 ∨ 0 ≤ z) with h1 | h1
 ·exact ⟨h1, lft_neg f h1⟩
 ·rw [lft, if_pos h1] at h; omega
structure Mat (F : List Do) (f : Nat → Nat) (x y : Exe) : Prop where
 fr : ∀ (i : Nat) (z : Int), i < F.length → x.fr[i]? = some z → y.fr[f i]? = some (lft f z)
 od : ∀ k : Nat, k < 3 → (∃ r, x.od[k]? = some r ∧ y.od[k]? = some (r.map (lft f))) ∨ ∀ d ∈ F, d.uses = true → d.p ≠ k
theorem Mat.val {F G : List Do} {f : Nat → Nat} {x y : Exe} (e : Emb F G f) (m : Mat F f x y) {i : Nat} {v : Int} (h : Val F x.fr i v) : Val G y.fr (f i) v := by
 induction h with
 | @val i d hd hv =>
  obtain ⟨d', h1, h2⟩ := e.sim i d hd
  rw [← h2.v]
  exact .val h1 (by rw [h2.valued]; exact hv)
 | @cp i d v hd h3 _ ih =>
  obtain ⟨d', h1, h2⟩ := e.sim i d hd
  refine .cp h1 (h2.c.2 h3) ?_
  rw [e.cp i d hd h3]; exact ih
 | @no i d hd hr hf =>
  obtain ⟨d', h1, h2⟩ := e.sim i d hd
  refine .no h1 (by rw [h2.r]; exact hr) ?_
  have := m.fr i _ (List.getElem?_eq_some_iff.1 hd).1 hf
  rwa [lft_neg f (by omega)] at this
 | @rd i b d v hd hr hf _ ih =>
  obtain ⟨d', h1, h2⟩ := e.sim i d hd
  refine .rd h1 (by rw [h2.r]; exact hr) ?_ ih
  have := m.fr i _ (List.getElem?_eq_some_iff.1 hd).1 hf
  rwa [lft_nat] at this
theorem Mat.back {F G : List Do} {f : Nat → Nat} {x y : Exe} (e : Emb F G f) (m : Mat F f x y) (hc : copyOk F) (hl : x.fr.length = F.length)
  (hx : ∀ (i : Nat) (d : Do) (z : Int), F[i]? = some d → x.fr[i]? = some z → d.reads = true → z = -1 ∨ ∃ b : Nat, z = b ∧ b < F.length) {j : Nat} {v : Int} (h : Val G y.fr j v) : ∀ i, i < F.length → f i = j → Val F x.fr i v := by
 induction h with
 | @val j d' hd hv =>
  rintro i hi rfl
  obtain ⟨d, hdi⟩ : ∃ d, F[i]? = some d := ⟨_, List.getElem?_eq_getElem hi⟩
  obtain ⟨d2, h1, h2⟩ := e.sim i d hdi
  rw [hd] at h1; cases h1
  rw [h2.v]
  exact .val hdi (by rw [← h2.valued]; exact hv)
 | @cp j d' v hd h3 _ ih =>
  rintro i hi rfl
  obtain ⟨d, hdi⟩ : ∃ d, F[i]? = some d := ⟨_, List.getElem?_eq_getElem hi⟩
  obtain ⟨d2, h1, h2⟩ := e.sim i d hdi
  rw [hd] at h1; cases h1
  have h3' := h2.c.1 h3
  obtain ⟨k1, _⟩ := lastRd_spec (hc i d hdi h3')
  exact .cp hdi h3' (ih _ (by omega) (e.cp i d hdi h3').symm)
 | @no j d' hd hr hf =>
  rintro i hi rfl
  obtain ⟨d, hdi⟩ : ∃ d, F[i]? = some d := ⟨_, List.getElem?_eq_getElem hi⟩
  obtain ⟨d2, h1, h2⟩ := e.sim i d hdi
  rw [hd] at h1; cases h1
  obtain ⟨z, hz⟩ : ∃ z, x.fr[i]? = some z := ⟨_, List.getElem?_eq_getElem (by omega)⟩
  have := m.fr i z hi hz
  rw [hf] at this
  have hz1 : lft f z = -1 := (Option.some.inj this).symm
  have := (lft_isneg (f := f) (z := z) (by omega)).2
  have : z = -1 := by omega
  subst this
  exact .no hdi (by rw [← h2.r]; exact hr) hz
 | @rd j b d' v hd hr hf _ ih =>
  rintro i hi rfl
  obtain ⟨d, hdi⟩ : ∃ d, F[i]? = some d := ⟨_, List.getElem?_eq_getElem hi⟩
  obtain ⟨d2, h1, h2⟩ := e.sim i d hdi
  rw [hd] at h1; cases h1
  have hr' : d.reads = true := by rw [← h2.r]; exact hr
  obtain ⟨z, hz⟩ : ∃ z, x.fr[i]? = some z := ⟨_, List.getElem?_eq_getElem (by omega)⟩
  have := m.fr i z hi hz
  rw [hf] at this
  have hz1 : lft f z = b := (Option.some.inj this).symm
  rcases hx i d z hdi hz hr' with rfl | ⟨b', rfl, hb'⟩
  ·rw [lft_neg f (by omega)] at hz1; omega
  ·rw [lft_nat] at hz1
   exact .rd hdi hr' hz (ih b' hb' (by omega))
theorem rdK_eq (g : Nat → Int) (ds : List Do) : ∀ k, rdK g ds k = ((List.range k).filter fun i => (ds[i]?.getD default).reads).map g
 | 0 => rfl
 | k + 1 => by
  rw [rdK, rdK_eq g ds k, List.range_succ, List.filter_append, List.map_append]
  congr 1
  cases h : ds[k]? with
  | none => simp [h, show (default : Do).reads = false from rfl]
  | some d => cases hr : d.reads <;> simp [h, hr]
theorem sorted_ext {l m : List Nat} (hl : l.Pairwise (· < ·)) (hm : m.Pairwise (· < ·)) (h : ∀ s, s ∈ l ↔ s ∈ m) : l = m := by
 have nd : ∀ {l : List Nat}, l.Pairwise (· < ·) → l.Nodup := fun h => h.imp fun {a b} hab e => by omega
 have hp : l.Perm m := (List.perm_ext_iff_of_nodup (nd hl) (nd hm)).2 h
 exact List.Perm.eq_of_pairwise (le := fun s t => s < t) (fun a b _ _ h1 h2 => by omega) hl hm hp
theorem Emb.rl {F G : List Do} {f : Nat → Nat} (e : Emb F G f) (hr : ∀ (j : Nat) (d' : Do), G[j]? = some d' → d'.reads = true → ∃ i, i < F.length ∧ f i = j) :
  ((List.range G.length).filter fun i => (G[i]?.getD default).reads) = ((List.range F.length).filter fun i => (F[i]?.getD default).reads).map f := by
 refine sorted_ext (List.Pairwise.filter _ List.pairwise_lt_range) ?_ fun s => ?_
 ·rw [List.pairwise_map]
  refine List.Pairwise.imp_of_mem (fun {a b} ha hb hab => ?_) (List.Pairwise.filter _ List.pairwise_lt_range)
  exact e.mono a b hab (List.mem_range.1 (List.mem_filter.1 hb).1)
 ·simp only [List.mem_filter, List.mem_range, List.mem_map]
  constructor
  ·rintro ⟨h1, h2⟩
   rw [List.getElem?_eq_getElem h1, Option.getD_some] at h2
   obtain ⟨i, hi, rfl⟩ := hr s _ (List.getElem?_eq_getElem h1) h2
   obtain ⟨d2, k1, k2⟩ := e.sim i _ (List.getElem?_eq_getElem hi)
   rw [List.getElem?_eq_getElem h1] at k1
   refine ⟨i, ⟨hi, ?_⟩, rfl⟩
   rw [List.getElem?_eq_getElem hi, Option.getD_some, ← k2.r, ← Option.some.inj k1]; exact h2
  ·rintro ⟨i, ⟨hi, h2⟩, rfl⟩
   obtain ⟨d2, k1, k2⟩ := e.sim i _ (List.getElem?_eq_getElem hi)
   refine ⟨e.lt hi, ?_⟩
   rw [k1, Option.getD_some, k2.r]
   rwa [List.getElem?_eq_getElem hi, Option.getD_some] at h2
def vF (ds : List Do) (fr : List Int) (i : Nat) : Int := (valI ds fr ds.length i).getD 0
theorem vF_eq {ds : List Do} {fr : List Int} {i : Nat} {v : Int} (h : Val ds fr i v) : vF ds fr i = v := by rw [vF, val_eqI h]; rfl
theorem Mat.vF {F G : List Do} {f : Nat → Nat} {x y : Exe} (e : Emb F G f) (m : Mat F f x y) (hx : OKW F x) {i : Nat} {d : Do} (hd : F[i]? = some d) (hu : d.uses = true) : vF G y.fr (f i) = vF F x.fr i := by
 obtain ⟨v, hv⟩ := hx.ends i d hd hu
 rw [vF_eq hv, vF_eq (m.val e hv)]
theorem Mat.lsF {F G : List Do} {f : Nat → Nat} {x y : Exe} (e : Emb F G f) (m : Mat F f x y) (hx : OKW F x) {k : Nat} {r : List Int} (hk : k < 3) (hr : x.od[k]? = some r) : Go.Proofs.YtkdolbffabmemaaGreatDoor.lsF (Go.Proofs.YtkdolbffabmemaaGreatDoor.vF G y.fr) (r.map (lft f)) = Go.Proofs.YtkdolbffabmemaaGreatDoor.lsF (Go.Proofs.YtkdolbffabmemaaGreatDoor.vF F x.fr) r := by
 rw [Go.Proofs.YtkdolbffabmemaaGreatDoor.lsF, Go.Proofs.YtkdolbffabmemaaGreatDoor.lsF, List.length_map, List.getElem?_map]
 cases hz : r[r.length - 1]? with
 | none => rfl
 | some z =>
  obtain ⟨r', h1, _, h3⟩ := hx.od k hk
  rw [hr] at h1; cases h1
  obtain ⟨b, d, rfl, hd, hw, _⟩ := (h3 z).1 (List.mem_of_getElem? hz)
  simp only [Option.map_some, lft_nat, Int.toNat_natCast]
  exact m.vF e hx hd (uses_or.2 (.inr hw))
theorem seenF_eq (p : Prog) (x : Exe) : seenF p x = ⟨((List.range (scene p).ds.length).filter fun i => ((scene p).ds[i]?.getD default).reads).map (vF (scene p).ds x.fr), x.od.map (lsF (vF (scene p).ds x.fr))⟩ := by
 rw [seenF, rdK_eq]; rfl
theorem od_map {x : Exe} {α β : Type} {g : List Int → α} {h : List Int → α} {y : Exe} {k : List Int → List Int} (ho : y.od = x.od.map k) (hh : ∀ (i : Nat) r, x.od[i]? = some r → h (k r) = g r) : y.od.map h = x.od.map g := by
 rw [ho, List.map_map]
 apply List.ext_getElem?
 intro i
 rw [List.getElem?_map, List.getElem?_map]
 cases hr : x.od[i]? with
 | none => rfl
 | some r => simp only [Option.map_some, Function.comp]; rw [hh i r hr]
theorem Mat.seen {p q : Prog} {f : Nat → Nat} {x y : Exe} (e : Emb (scene p).ds (scene q).ds f) (m : Mat (scene p).ds f x y) (hx : OKW (scene p).ds x) (ho : y.od = x.od.map (List.map (lft f)))
  (hr : ∀ (j : Nat) (d' : Do), (scene q).ds[j]? = some d' → d'.reads = true → ∃ i, i < (scene p).ds.length ∧ f i = j) : seenF q y = seenF p x := by
 rw [seenF_eq, seenF_eq, e.rl hr, List.map_map]
 congr 1
 ·refine List.map_congr_left fun i hi => ?_
  obtain ⟨h1, h2⟩ := List.mem_filter.1 hi
  obtain ⟨d, hd⟩ : ∃ d, (scene p).ds[i]? = some d := ⟨_, List.getElem?_eq_getElem (List.mem_range.1 h1)⟩
  rw [hd, Option.getD_some] at h2
  exact m.vF e hx hd (uses_or.2 (.inl h2))
 ·refine od_map (β := Nat) ho fun i r hri => ?_
  have hi := (List.getElem?_eq_some_iff.1 hri).1
  exact m.lsF e hx (by have := hx.odl; omega) hri
end
section
open Go.RowKit
theorem scene_n (p : Prog) : (scene p).ds.length = (events p).length := by simp [scene]
theorem ds_at {p : Prog} {i : Nat} (h : i < (events p).length) : (scene p).ds[i]? = some (dsA p i) := by
 have h' : i < (scene p).ds.length := by rw [scene_n]; exact h
 rw [dsA, List.getElem?_eq_getElem h']; rfl
structure PE (p q : Prog) (f : Nat → Nat) : Prop where
 okp : progOk p = true
 okq : progOk q = true
 e : Emb (scene p).ds (scene q).ds f
 thr : ∀ a b, a < (events p).length → b < (events p).length → (th (events q) (f a) = th (events q) (f b) ↔ th (events p) a = th (events p) b)
 k7 : ∀ i, i < (events p).length → (kd (scene q).ds (f i) = 7 ↔ kd (scene p).ds i = 7)
 k8 : ∀ i, i < (events p).length → (kd (scene q).ds (f i) = 8 ↔ kd (scene p).ds i = 8)
 btw : ∀ a b j, a < (events p).length → b < (events p).length → th (events p) a = th (events p) b → f a < j → j < f b → (kd (scene q).ds j = 7 ∨ kd (scene q).ds j = 8) → ∃ i, a < i ∧ i < b ∧ f i = j
 late : ∀ i, i < (events p).length → ltA (events q) (f i) = ltA (events p) i
 adj : ∀ e, e + 1 < (events p).length → ltA (events p) (e + 1) = true → f (e + 1) = f e + 1
structure PEk (p q : Prog) (f : Nat → Nat) : Prop where
 wal : ∀ i, i < (events p).length → wallB (dsA p i) = true → wallB (dsA q (f i)) = true
 tk : ∀ i, i < (events p).length → (dsA p i).k = 5 → (dsA q (f i)).k = 5
 gv : ∀ i, i < (events p).length → (dsA p i).k = 6 → (dsA q (f i)).k = 6
structure PEk' (p q : Prog) (f : Nat → Nat) : Prop where
 wal : ∀ i, i < (events p).length → wallB (dsA q (f i)) = true → wallB (dsA p i) = true
 tk : ∀ i, i < (events p).length → (dsA q (f i)).k = 5 → (dsA p i).k = 5
 gv : ∀ i, i < (events p).length → (dsA q (f i)).k = 6 → (dsA p i).k = 6
section
variable {p q : Prog} {f : Nat → Nat}
theorem PE.lt (h : PE p q f) {a : Nat} (ha : a < (events p).length) : f a < (events q).length := by
 rw [← scene_n]; exact h.e.lt (by rw [scene_n]; exact ha)
theorem PE.sim (h : PE p q f) {a : Nat} (ha : a < (events p).length) : Sim (dsA p a) (dsA q (f a)) := by
 obtain ⟨d', h1, h2⟩ := h.e.sim a _ (ds_at ha)
 rw [ds_at (h.lt ha)] at h1
 cases h1; exact h2
theorem PE.inj (h : PE p q f) {a b : Nat} (ha : a < (events p).length) (hb : b < (events p).length) : f a = f b ↔ a = b :=
 ⟨h.e.inj (by rw [scene_n]; exact ha) (by rw [scene_n]; exact hb), fun e => by rw [e]⟩
theorem PE.lt_iff (h : PE p q f) {a b : Nat} (ha : a < (events p).length) (hb : b < (events p).length) : f a < f b ↔ a < b :=
 h.e.lt_iff (by rw [scene_n]; exact ha) (by rw [scene_n]; exact hb)
theorem own_iff {p : Prog} {a b : Nat} : ownB (events p) a b = true ↔ a < b ∧ th (events p) a = th (events p) b := by simp [ownB, th]
theorem PE.own (h : PE p q f) {a b : Nat} (ha : a < (events p).length) (hb : b < (events p).length) : ownB (events q) (f a) (f b) = ownB (events p) a b := by
 rw [Bool.eq_iff_iff, own_iff, own_iff, h.lt_iff ha hb, h.thr a b ha hb]
theorem PE.apart (h : PE p q f) {a b : Nat} (ha : a < (events p).length) (hb : b < (events p).length) : apartS q (f a) (f b) = apartS p a b := by
 rw [Bool.eq_iff_iff, apartS, apartS, bne_iff_ne, bne_iff_ne]
 exact not_congr (h.thr a b ha hb)
theorem PE.same (h : PE p q f) {a b : Nat} (ha : a < (events p).length) (hb : b < (events p).length) : sameS q (f a) (f b) = sameS p a b := by
 rw [sameS, sameS, (h.sim ha).uses, (h.sim hb).uses, (h.sim ha).p, (h.sim hb).p]
theorem PE.ins (h : PE p q f) {a b : Nat} (ha : a < (events p).length) (hb : b < (events p).length) (ho : ownB (events p) a b = true) : insS q (f a) (f b) = insS p a b := by
 have ho' : ownB (events q) (f a) (f b) = true := by rw [h.own ha hb]; exact ho
 rw [Bool.eq_iff_iff, insS_iff ho, insS_iff ho', h.k7 a ha, h.k8 b hb]
 have hth := (own_iff.1 ho).2
 refine and_congr Iff.rfl ⟨fun hh k h1 h2 => ?_, fun hh j h1 h2 => ?_⟩
 ·have hk : k < (events p).length := by omega
  have := hh (f k) ((h.lt_iff ha hk).2 h1) ((h.lt_iff hk hb).2 h2)
  rwa [h.k7 k hk, h.k8 k hk] at this
 ·by_cases hj : kd (scene q).ds j = 7 ∨ kd (scene q).ds j = 8
  ·obtain ⟨i, h3, h4, rfl⟩ := h.btw a b j ha hb hth h1 h2 hj
   have hi : i < (events p).length := by omega
   rw [h.k7 i hi, h.k8 i hi]
   exact hh i h3 h4
  ·exact ⟨fun e => hj (.inr e.2), fun e => hj (.inl e.2)⟩
theorem src_at {p : Prog} (h : progOk p = true) {b : Nat} (hb : b < (events p).length) (h3 : (dsA p b).k = 3) : srcOf (events p) (scene p).ds b b = lastRd (scene p).ds b := by
 have he := List.getElem?_eq_getElem hb
 refine src_last h he ?_
 have := ds_at hb
 rw [scene_get he] at this
 rw [Option.some.inj this]; exact h3
theorem PE.cpy (h : PE p q f) {a b : Nat} (ha : a < (events p).length) (hb : b < (events p).length) :
  ((dsA q (f b)).k == 3 && srcOf (events q) (scene q).ds (f b) (f b) == ((f a : Nat) : Int)) = ((dsA p b).k == 3 && srcOf (events p) (scene p).ds b b == (a : Int)) := by
 by_cases h3 : (dsA p b).k = 3
 ·have h3' := (h.sim hb).c.2 h3
  rw [src_at h.okp hb h3, src_at h.okq (h.lt hb) h3', h.e.cp b _ (ds_at hb) h3, h3, h3', Bool.eq_iff_iff]
  obtain ⟨k1, _⟩ := lastRd_spec (scene_copy h.okp b _ (ds_at hb) h3)
  have := h.inj (a := lastRd (scene p).ds b) (b := a) (by omega) ha
  rw [Bool.and_eq_true, Bool.and_eq_true, beq_iff_eq, beq_iff_eq, beq_iff_eq]
  omega
 ·have h3' : ¬ (dsA q (f b)).k = 3 := fun e => h3 ((h.sim hb).c.1 e)
  have e1 : ((dsA p b).k == 3) = false := beq_eq_false_iff_ne.2 h3
  have e2 : ((dsA q (f b)).k == 3) = false := beq_eq_false_iff_ne.2 h3'
  rw [e1, e2, Bool.false_and, Bool.false_and]
theorem PE.loose_le (h : PE p q f) (hk : PEk p q f) {a b : Nat} (ha : a < (events p).length) (hb : b < (events p).length) (hl : looseS p a b = true) : looseS q (f a) (f b) = true := by
 simp only [looseS, Bool.and_eq_true] at hl ⊢
 obtain ⟨ho, hl⟩ := hl
 refine ⟨by rw [h.own ha hb]; exact ho, ?_⟩
 have hc := h.cpy ha hb
 rw [h.ins ha hb ho, Bool.or_eq_true, hc]
 rw [Bool.or_eq_true] at hl
 refine hl.imp (fun hl => ?_) id
 simp only [Bool.or_eq_true, beq_iff_eq] at hl ⊢
 rcases hl with (((hl | hl) | hl) | hl) | hl
 ·exact .inl (.inl (.inl (.inl (hk.wal a ha hl))))
 ·exact .inl (.inl (.inl (.inr (hk.wal b hb hl))))
 ·exact .inl (.inl (.inr (hk.tk a ha hl)))
 ·exact .inl (.inr (hk.gv b hb hl))
 ·exact .inr hl
theorem PE.loose_ge (h : PE p q f) (hk : PEk' p q f) {a b : Nat} (ha : a < (events p).length) (hb : b < (events p).length) (hl : looseS q (f a) (f b) = true) : looseS p a b = true := by
 simp only [looseS, Bool.and_eq_true] at hl ⊢
 obtain ⟨ho, hl⟩ := hl
 rw [h.own ha hb] at ho
 refine ⟨ho, ?_⟩
 have hc := h.cpy ha hb
 rw [h.ins ha hb ho, Bool.or_eq_true, hc] at hl
 rw [Bool.or_eq_true]
 refine hl.imp (fun hl => ?_) id
 simp only [Bool.or_eq_true, beq_iff_eq] at hl ⊢
 rcases hl with (((hl | hl) | hl) | hl) | hl
 ·exact .inl (.inl (.inl (.inl (hk.wal a ha hl))))
 ·exact .inl (.inl (.inl (.inr (hk.wal b hb hl))))
 ·exact .inl (.inl (.inr (hk.tk a ha hl)))
 ·exact .inl (.inr (hk.gv b hb hl))
 ·exact .inr hl
theorem PE.stays_other (h : PE p q f) {kind : Int} (hk : kind ≠ 3) {a b : Nat} (ha : a < (events p).length) (hb : b < (events p).length) : staysS q kind (f a) (f b) = staysS p kind a b := by
 have hk' : (kind == 3) = false := by simpa using hk
 simp only [staysS, hk', Bool.false_eq_true, if_false]
 rw [h.own ha hb, h.same ha hb, (h.sim ha).w, (h.sim hb).r]
theorem PE.stays_le (h : PE p q f) (hk : PEk p q f) {kind : Int} {a b : Nat} (ha : a < (events p).length) (hb : b < (events p).length) (hl : staysS p kind a b = true) : staysS q kind (f a) (f b) = true := by
 by_cases h3 : kind = 3
 ·subst h3
  exact h.loose_le hk ha hb hl
 ·rw [h.stays_other h3 ha hb]; exact hl
theorem PE.stays_ge (h : PE p q f) (hk : PEk' p q f) {kind : Int} {a b : Nat} (ha : a < (events p).length) (hb : b < (events p).length) (hl : staysS q kind (f a) (f b) = true) : staysS p kind a b = true := by
 by_cases h3 : kind = 3
 ·subst h3
  exact h.loose_ge hk ha hb hl
 ·rw [h.stays_other h3 ha hb] at hl; exact hl
theorem idxFrom_map {g : Int → Int} {z : Int} : ∀ (r : List Int) (i : Nat), (∀ w ∈ r, g w = g z → w = z) → Lib.idxFrom (r.map g) (g z) i = Lib.idxFrom r z i
 | [], _, _ => rfl
 | w :: r, i, h => by
  rw [List.map_cons, Lib.idxFrom, Lib.idxFrom, idxFrom_map r (i + 1) fun w' hw => h w' (List.mem_cons_of_mem _ hw)]
  by_cases hw : w = z
  ·rw [if_pos hw, if_pos (by rw [hw])]
  ·rw [if_neg hw, if_neg fun e => hw (h w (List.mem_cons_self ..) e)]
theorem idxOf_map {g : Int → Int} {z : Int} {r : List Int} (h : ∀ w ∈ r, g w = g z → w = z) : Lib.idxOf (r.map g) (g z) = Lib.idxOf r z := idxFrom_map r 0 h
variable {x y : Exe}
theorem PE.fr (h : PE p q f) (m : Mat (scene p).ds f x y) (hx : OKW (scene p).ds x) {b : Nat} (hb : b < (events p).length) : ∃ z, x.fr[b]? = some z ∧ y.fr[f b]? = some (lft f z) ∧
  ((dsA p b).reads = true → z = -1 ∨ ∃ c : Nat, z = c ∧ c < (events p).length ∧ (dsA p c).writes = true ∧ (dsA p c).p = (dsA p b).p) ∧ ((dsA p b).reads = false → z = -2) := by
 have hb' : b < (scene p).ds.length := by rw [scene_n]; exact hb
 obtain ⟨z, hz⟩ : ∃ z, x.fr[b]? = some z := ⟨_, List.getElem?_eq_getElem (by rw [hx.frl]; exact hb')⟩
 refine ⟨z, hz, m.fr b z hb' hz, fun hr => ?_, fun hr => hx.nr b _ z (ds_at hb) hz hr⟩
 rcases hx.rd b _ z (ds_at hb) hz hr with h1 | ⟨c, d', h1, h2, h3, h4⟩
 ·exact .inl h1
 ·have hc : c < (events p).length := by rw [← scene_n]; exact (List.getElem?_eq_some_iff.1 h2).1
  rw [ds_at hc] at h2
  cases h2
  exact .inr ⟨c, h1, hc, h3, h4⟩
theorem PE.read (h : PE p q f) (m : Mat (scene p).ds f x y) (hx : OKW (scene p).ds x) {a b : Nat} (ha : a < (events p).length) (hb : b < (events p).length) : readS q y (f a) (f b) = readS p x a b := by
 obtain ⟨z, h1, h2, h3, _⟩ := h.fr m hx hb
 rw [readS, readS, (h.sim ha).w, (h.sim hb).r, h1, h2, Option.getD_some, Option.getD_some]
 cases hw : (dsA p a).writes
 ·rfl
 cases hr : (dsA p b).reads
 ·rfl
 simp only [Bool.true_and]
 rw [Bool.eq_iff_iff, beq_iff_eq, beq_iff_eq]
 rcases h3 hr with rfl | ⟨c, rfl, hc, _⟩
 ·rw [lft_neg f (by omega)]; omega
 ·rw [lft_nat]
  have := h.inj hc ha
  omega
theorem PE.rank (h : PE p q f) (m : Mat (scene p).ds f x y) (hx : OKW (scene p).ds x) {a : Nat} (ha : a < (events p).length) (hu : (dsA p a).uses = true) : rankS q y (f a) = rankS p x a := by
 have hd := ds_at ha
 have hpl := formed_place (scene_formed h.okp _ (List.mem_of_getElem? hd)) hu
 obtain ⟨r, k1, k2⟩ := (m.od (dsA p a).p.toNat (by omega)).resolve_right fun hh => hh _ (List.mem_of_getElem? hd) hu (by omega)
 obtain ⟨r', k3, _, k4⟩ := hx.od (dsA p a).p.toNat (by omega)
 rw [k1] at k3; cases k3
 have inj : ∀ w ∈ r, ∀ c : Nat, c < (events p).length → lft f w = lft f c → w = c := by
  intro w hw c hc he
  obtain ⟨b, d, rfl, hb, _⟩ := (k4 w).1 hw
  have hb' : b < (events p).length := by rw [← scene_n]; exact (List.getElem?_eq_some_iff.1 hb).1
  rw [lft_nat, lft_nat] at he
  have := (h.inj hb' hc).1 (by omega)
  omega
 rw [rankS, rankS, (h.sim ha).w, (h.sim ha).r, (h.sim ha).p, k1, k2, Option.getD_some, Option.getD_some]
 cases hw : (dsA p a).writes
 ·have hr : (dsA p a).reads = true := (uses_or.1 hu).resolve_right (by rw [hw]; simp)
  simp only [hr, Bool.false_eq_true, if_false, if_true]
  obtain ⟨z, h1, h2, h3, _⟩ := h.fr m hx ha
  rw [h1, h2, Option.getD_some, Option.getD_some]
  refine idxOf_map fun w hw' he => ?_
  rcases h3 hr with rfl | ⟨c, rfl, hc, _⟩
  ·obtain ⟨b, d, rfl, hb, _⟩ := (k4 w).1 hw'
   rw [lft_nat, lft_neg f (by omega)] at he
   omega
  ·exact inj w hw' c hc he
 ·simp only [if_true]
  rw [← lft_nat f a]
  exact idxOf_map fun w hw' he => inj w hw' a ha he
theorem PE.over (h : PE p q f) (m : Mat (scene p).ds f x y) (hx : OKW (scene p).ds x) {a b : Nat} (ha : a < (events p).length) (hb : b < (events p).length) : overS q y (f a) (f b) = overS p x a b := by
 rw [overS, overS, (h.sim hb).w, h.same ha hb]
 have e : (f a == f b) = (a == b) := by rw [Bool.eq_iff_iff, beq_iff_eq, beq_iff_eq]; exact h.inj ha hb
 rw [e]
 cases hs : sameS p a b
 ·simp
 ·have hs' := hs
  simp only [sameS, Bool.and_eq_true] at hs'
  rw [h.rank m hx ha hs'.1.1, h.rank m hx hb hs'.1.2]
theorem PE.told (h : PE p q f) (m : Mat (scene p).ds f x y) (hx : OKW (scene p).ds x) {kind : Int} {a b : Nat} (ha : a < (events p).length) (hb : b < (events p).length) : toldS q y kind (f a) (f b) = toldS p x kind a b := by
 rw [toldS, toldS, h.apart ha hb, h.read m hx ha hb, h.over m hx ha hb]
theorem PE.net_le (h : PE p q f) (hk : PEk p q f) (m : Mat (scene p).ds f x y) (hx : OKW (scene p).ds x) {kind : Int} {a b : Nat} (ha : a < (events p).length) (hb : b < (events p).length) (hn : netR p x kind a b = true) : netR q y kind (f a) (f b) = true := by
 rw [netR, Bool.or_eq_true] at hn ⊢
 rw [h.told m hx ha hb]
 exact hn.imp (h.stays_le hk ha hb) id
theorem PE.net_ge (h : PE p q f) (hk : PEk' p q f) (m : Mat (scene p).ds f x y) (hx : OKW (scene p).ds x) {kind : Int} {a b : Nat} (ha : a < (events p).length) (hb : b < (events p).length) (hn : netR q y kind (f a) (f b) = true) : netR p x kind a b = true := by
 rw [netR, Bool.or_eq_true] at hn ⊢
 rw [h.told m hx ha hb] at hn
 exact hn.imp (h.stays_ge hk ha hb) id
theorem PE.net_other (h : PE p q f) (m : Mat (scene p).ds f x y) (hx : OKW (scene p).ds x) {kind : Int} (hk : kind ≠ 3) {a b : Nat} (ha : a < (events p).length) (hb : b < (events p).length) : netR q y kind (f a) (f b) = netR p x kind a b := by
 rw [netR, netR, h.told m hx ha hb, h.stays_other hk ha hb]
theorem PE.out (h : PE p q f) {i : Nat} (hi : i < (events p).length) (h7 : kd (scene p).ds i = 7) : outA q (f i) = f (outA p i) := by
 obtain ⟨qu, h8⟩ := outA_spec h.okp hi h7
 have ht := qu.tl
 have : (List.range (events q).length).find? (fun k => decide (f i < k) && ownB (events q) (f i) k && kd (scene q).ds k == 8) = some (f (outA p i)) := by
  refine find_some (h.lt ht) ?_ fun j hj => ?_
  ·have h1 : ownB (events q) (f i) (f (outA p i)) = true := by rw [h.own hi ht, own_iff]; exact ⟨qu.lt, qu.same⟩
   have h2 := (h.lt_iff hi ht).2 qu.lt
   have h3 := (h.k8 _ ht).2 h8
   simp [h1, h2, h3]
  ·by_cases hij : f i < j
   ·by_cases hk : kd (scene q).ds j = 8
    ·obtain ⟨k, k1, k2, rfl⟩ := h.btw i (outA p i) j hi ht qu.same hij hj (.inr hk)
     exact absurd ((h.k8 k (by omega)).1 hk) (qu.no k k1 k2).2.1
    ·simp [hk]
   ·simp [hij]
 rw [outA, this]; rfl
theorem PE.add_le (h : PE p q f) {σ : Nat → Nat → Bool} {a b : Nat} (ha : AddR p (fun e i => σ (f e) (f i)) a b) : AddR q σ (f a) (f b) := by
 obtain ⟨e, i, hw, h2⟩ := ha
 refine ⟨f e, f i, ⟨h.lt hw.el, by rw [h.late e hw.el]; exact hw.late, h.lt hw.il, (h.k7 i hw.il).2 hw.k7⟩, ?_⟩
 rcases h2 with ⟨h3, h4, h5⟩ | ⟨h3, h4, h5⟩
 ·exact .inl ⟨h3, by rw [h.out hw.il hw.k7, h4], by rw [h5]⟩
 ·subst h4
  exact .inr ⟨h3, (h.adj a hw.el hw.late).symm, by rw [h5]⟩
theorem Hld.back (h : PE p q f) (hk : PEk p q f) (m : Mat (scene p).ds f x y) (hx : OKW (scene p).ds x) {kind : Int} (hh : Hld q y kind) : Hld p x kind := by
 refine ⟨hh.pl.pull (fun a => h.lt) fun a b ha hb hn => .inl (h.net_le hk m hx ha hb hn), ?_⟩
 obtain ⟨σ, hs⟩ := hh.ex
 refine ⟨fun e i => σ (f e) (f i), hs.pull (fun a => h.lt) fun a b ha hb hn => .inl ?_⟩
 exact hn.imp (h.net_le hk m hx ha hb) h.add_le
def inv (f : Nat → Nat) (n j : Nat) : Nat := ((List.range n).find? fun i => f i == j).getD 0
theorem Emb.inv {F G : List Do} (e : Emb F G f) {i : Nat} (hi : i < F.length) : inv f F.length (f i) = i := by
 rw [Go.Proofs.YtkdolbffabmemaaGreatDoor.inv, find_some hi (by simp) fun j hj => ?_]
 ·rfl
 ·have : f j ≠ f i := fun he => by have := e.inj (by omega) hi he; omega
  simpa using this
theorem PE.inv (h : PE p q f) {i : Nat} (hi : i < (events p).length) : inv f (events p).length (f i) = i := by
 rw [← scene_n]; exact h.e.inv (by rw [scene_n]; exact hi)
theorem PE.add_ge (h : PE p q f) (hn : ∀ e i, WtIn q e i → (∃ e', e' < (events p).length ∧ f e' = e) ∧ ∃ i', i' < (events p).length ∧ f i' = i) {σ : Nat → Nat → Bool} {a b : Nat}
  (ha : AddR q (fun e i => σ (Go.Proofs.YtkdolbffabmemaaGreatDoor.inv f (events p).length e) (Go.Proofs.YtkdolbffabmemaaGreatDoor.inv f (events p).length i)) a b) : ∃ a' b', a' < (events p).length ∧ b' < (events p).length ∧ f a' = a ∧ f b' = b ∧ AddR p σ a' b' := by
 obtain ⟨e, i, hw, h2⟩ := ha
 obtain ⟨⟨e', he, rfl⟩, i', hi, rfl⟩ := hn e i hw
 have h7 := (h.k7 i' hi).1 hw.k7
 have hl : ltA (events p) e' = true := by rw [← h.late e' he]; exact hw.late
 have hw' : WtIn p e' i' := ⟨he, hl, hi, h7⟩
 simp only [h.inv he, h.inv hi] at h2
 rcases h2 with ⟨h3, h4, h5⟩ | ⟨h3, h4, h5⟩
 ·exact ⟨_, e', (outA_spec h.okp hi h7).1.tl, he, by rw [h4, h.out hi h7], h5.symm, e', i', hw', .inl ⟨h3, rfl, rfl⟩⟩
 ·obtain ⟨w, hww, _⟩ := wait_prev he hl
  subst hww
  have := h.adj w he hl
  exact ⟨w, i', by omega, hi, by omega, h5.symm, w + 1, i', hw', .inr ⟨h3, rfl, rfl⟩⟩
theorem Hld.ends (h : PE p q f) (hk : PEk' p q f) (m : Mat (scene p).ds f x y) (hx : OKW (scene p).ds x) {src snk : Nat → Prop} {kind : Int}
  (hn : ∀ e i, WtIn q e i → (∃ e', e' < (events p).length ∧ f e' = e) ∧ ∃ i', i' < (events p).length ∧ f i' = i)
  (hnew : ∀ j, j < (events q).length → (∃ i, i < (events p).length ∧ f i = j) ∨ src j ∨ snk j)
  (hold : ∀ i, i < (events p).length → ¬ src (f i) ∧ ¬ snk (f i))
  (h1 : ∀ k, (k = 0 ∨ k = kind) → ∀ a b, a < (events q).length → b < (events q).length → src b → netR q y k a b = false)
  (h2 : ∀ k, (k = 0 ∨ k = kind) → ∀ a b, a < (events q).length → b < (events q).length → snk a → netR q y k a b = false) (hh : Hld p x kind) : Hld q y kind := by
 refine ⟨?_, ?_⟩
 ·obtain ⟨r, hr⟩ := hh.pl
  refine rkd_ends (src := src) (snk := snk) (r := fun j => r (Go.Proofs.YtkdolbffabmemaaGreatDoor.inv f (events p).length j)) (fun a b ha hb s1 s2 s3 s4 hR => ?_) (fun a b ha hb hs => by rw [h1 0 (.inl rfl) a b ha hb hs]; simp) (fun a b ha hb hs => by rw [h2 0 (.inl rfl) a b ha hb hs]; simp)
  obtain ⟨i, hi, rfl⟩ := (hnew a ha).resolve_right fun e => e.elim s1 s2
  obtain ⟨j, hj, rfl⟩ := (hnew b hb).resolve_right fun e => e.elim s3 s4
  simp only [h.inv hi, h.inv hj]
  exact hr i j hi hj (h.net_ge hk m hx hi hj hR)
 ·obtain ⟨σ, r, hr⟩ := hh.ex
  refine ⟨_, rkd_ends (R := fun a b => netR q y kind a b = true ∨ AddR q (fun e i => σ (Go.Proofs.YtkdolbffabmemaaGreatDoor.inv f (events p).length e) (Go.Proofs.YtkdolbffabmemaaGreatDoor.inv f (events p).length i)) a b) (src := src) (snk := snk) (r := fun j => r (Go.Proofs.YtkdolbffabmemaaGreatDoor.inv f (events p).length j)) (fun a b ha hb s1 s2 s3 s4 hR => ?_) (fun a b ha hb hs hR => ?_) (fun a b ha hb hs hR => ?_)⟩
  ·obtain ⟨i, hi, rfl⟩ := (hnew a ha).resolve_right fun e => e.elim s1 s2
   obtain ⟨j, hj, rfl⟩ := (hnew b hb).resolve_right fun e => e.elim s3 s4
   simp only [h.inv hi, h.inv hj]
   refine hr i j hi hj (hR.imp (h.net_ge hk m hx hi hj) fun hA => ?_)
   obtain ⟨a', b', k1, k2, k3, k4, k5⟩ := h.add_ge hn hA
   have e1 := (h.inj k1 hi).1 k3
   have e2 := (h.inj k2 hj).1 k4
   subst e1; subst e2; exact k5
  ·rcases hR with hR | hR
   ·rw [h1 kind (.inr rfl) a b ha hb hs] at hR; cases hR
   ·obtain ⟨a', b', k1, k2, k3, k4, k5⟩ := h.add_ge hn hR
    subst k4; exact (hold b' k2).1 hs
  ·rcases hR with hR | hR
   ·rw [h2 kind (.inr rfl) a b ha hb hs] at hR; cases hR
   ·obtain ⟨a', b', k1, k2, k3, k4, k5⟩ := h.add_ge hn hR
    subst k3; exact (hold a' k1).2 hs
theorem Hld.walls (h : PE p q f) (m : Mat (scene p).ds f x y) (hx : OKW (scene p).ds x) {kind : Int}
  (hn : ∀ e i, WtIn q e i → (∃ e', e' < (events p).length ∧ f e' = e) ∧ ∃ i', i' < (events p).length ∧ f i' = i)
  (hnu : ∀ j, j < (events q).length → (∃ i, i < (events p).length ∧ f i = j) ∨ (dsA q j).uses = false)
  (h1 : ∀ a b, a < (events p).length → b < (events p).length → netR q y kind (f a) (f b) = true → netR p x kind a b = true)
  (h3 : ∀ (r : Nat → Nat), (∀ a b, a < (events p).length → b < (events p).length → netR p x kind a b = true → r a < r b) →
   ∀ a v b, a < (events p).length → b < (events p).length → v < (events q).length → (¬ ∃ i, i < (events p).length ∧ f i = v) → ownB (events q) (f a) v = true → ownB (events q) v (f b) = true → r a < r b) (hh : Hld p x kind) : Hld q y kind := by
 have own2 : ∀ k a b, a < (events q).length → b < (events q).length → netR q y k a b = true → (¬ (∃ i, i < (events p).length ∧ f i = a) ∨ ¬ ∃ i, i < (events p).length ∧ f i = b) → ownB (events q) a b = true ∧ (k = 1 ∨ k = 2 ∨ k = 3) := by
  intro k a b ha hb hR hnew
  have hun : (dsA q a).uses = false ∨ (dsA q b).uses = false := hnew.imp (hnu a ha).resolve_left (hnu b hb).resolve_left
  have ht : readS q y a b = false ∧ overS q y a b = false := by
   rcases hun with hu | hu
   ·have : (dsA q a).writes = false := by cases hw : (dsA q a).writes <;> simp [Do.uses, hw] at hu ⊢
    exact ⟨by simp [readS, this], by simp [overS, sameS, hu]⟩
   ·have h1 : (dsA q b).writes = false := by cases hw : (dsA q b).writes <;> simp [Do.uses, hw] at hu ⊢
    have h2 : (dsA q b).reads = false := by cases hw : (dsA q b).reads <;> simp [Do.uses, hw] at hu ⊢
    exact ⟨by simp [readS, h2], by simp [overS, h1]⟩
  have hto : toldS q y k a b = false := by rw [toldS, ht.1, ht.2]; simp
  have hs : sameS q a b = false := by rcases hun with hu | hu <;> simp [sameS, hu]
  rw [netR, hto, Bool.or_false, staysS] at hR
  split at hR
  ·exact ⟨hR, .inl (by simpa using ‹(k == 1) = true›)⟩
  ·split at hR
   ·rw [Bool.and_eq_true] at hR; exact ⟨hR.1, .inr (.inl (by simpa using ‹(k == 2) = true›))⟩
   ·split at hR
    ·rw [looseS, Bool.and_eq_true] at hR; exact ⟨hR.1, .inr (.inr (by simpa using ‹(k == 3) = true›))⟩
    ·rw [hs, Bool.and_false] at hR; cases hR
 have otr : ∀ a b c, ownB (events q) a b = true → ownB (events q) b c = true → ownB (events q) a c = true := by
  intro a b c h1 h2
  rw [own_iff] at *
  omega
 refine ⟨?_, ?_⟩
 ·obtain ⟨r, hr⟩ := hh.pl
  refine Rkd.of_min fun S hS => ?_
  by_cases ho : ∃ b, b < (events q).length ∧ S b ∧ ¬ ∃ i, i < (events p).length ∧ f i = b
  ·obtain ⟨b, hb, hSb, hb'⟩ := ho
   refine ⟨b, hb, hSb, fun a ha hSa hR => ?_⟩
   have := (own2 0 a b ha hb hR (.inr hb')).2
   omega
  ·obtain ⟨b, ⟨hb, hSb⟩, hm⟩ := least_of (S := fun b => b < (events q).length ∧ S b) (fun j => r (Go.Proofs.YtkdolbffabmemaaGreatDoor.inv f (events p).length j)) hS
   refine ⟨b, hb, hSb, fun a ha hSa hR => ?_⟩
   obtain ⟨i, hi, rfl⟩ : ∃ i, i < (events p).length ∧ f i = a := Classical.byContradiction fun e => ho ⟨a, ha, hSa, e⟩
   obtain ⟨j, hj, rfl⟩ : ∃ i, i < (events p).length ∧ f i = b := Classical.byContradiction fun e => ho ⟨b, hb, hSb, e⟩
   rw [h.net_other m hx (by decide) hi hj] at hR
   have h5 := hr i j hi hj hR
   have h6 := hm _ ⟨ha, hSa⟩
   simp only [h.inv hi, h.inv hj] at h6
   omega
 ·obtain ⟨σ, r, hr⟩ := hh.ex
  refine ⟨_, rkd_walls (R := fun a b => netR q y kind a b = true ∨ AddR q (fun e i => σ (Go.Proofs.YtkdolbffabmemaaGreatDoor.inv f (events p).length e) (Go.Proofs.YtkdolbffabmemaaGreatDoor.inv f (events p).length i)) a b) (own := fun a b => ownB (events q) a b = true)
   (old := fun j => ∃ i, i < (events p).length ∧ f i = j) (r := fun j => r (Go.Proofs.YtkdolbffabmemaaGreatDoor.inv f (events p).length j)) ?_ ?_ ?_ (fun a b hab => (own_iff.1 hab).1) otr⟩
  ·rintro a b ha hb ⟨i, hi, rfl⟩ ⟨j, hj, rfl⟩ hR
   simp only [h.inv hi, h.inv hj]
   refine hr i j hi hj (hR.imp (h1 i j hi hj) fun hA => ?_)
   obtain ⟨a', b', k1, k2, k3, k4, k5⟩ := h.add_ge hn hA
   have e1 := (h.inj k1 hi).1 k3
   have e2 := (h.inj k2 hj).1 k4
   subst e1; subst e2; exact k5
  ·intro a b ha hb hR hnew
   rcases hR with hR | hR
   ·exact (own2 kind a b ha hb hR hnew).1
   ·obtain ⟨a', b', k1, k2, k3, k4, k5⟩ := h.add_ge hn hR
    exact hnew.elim (fun e => absurd ⟨a', k1, k3⟩ e) (fun e => absurd ⟨b', k2, k4⟩ e)
  ·rintro a v b ha hv hb hnv ⟨i, hi, rfl⟩ ⟨j, hj, rfl⟩ o1 o2
   simp only [h.inv hi, h.inv hj]
   exact h3 r (fun a b ha hb hR => hr a b ha hb (.inl hR)) i v j hi hj hv hnv o1 o2
end
end
section
open Go.RowKit
def imB (f : Nat → Nat) (n : Nat) (z : Int) : Bool := (List.range n).any fun i => ((f i : Nat) : Int) == z
theorem imB_iff {f : Nat → Nat} {n : Nat} {z : Int} : imB f n z = true ↔ ∃ i, i < n ∧ (f i : Int) = z := by
 simp [imB]
def dn (f : Nat → Nat) (n : Nat) (z : Int) : Int := if 0 ≤ z then (inv f n z.toNat : Int) else z
section
variable {F G : List Do} {f : Nat → Nat}
theorem Emb.dn (e : Emb F G f) {i : Nat} (hi : i < F.length) : dn f F.length (f i : Int) = i := by
 rw [Go.Proofs.YtkdolbffabmemaaGreatDoor.dn, if_pos (by omega), Int.toNat_natCast, e.inv hi]
theorem dn_neg {n : Nat} {z : Int} (h : z < 0) : dn f n z = z := by rw [dn, if_neg (by omega)]
theorem nodup_map {α β : Type} {g : α → β} : ∀ {l : List α}, (∀ a ∈ l, ∀ b ∈ l, g a = g b → a = b) → l.Nodup → (l.map g).Nodup
 | [], _, _ => by simp
 | a :: l, h, hn => by
  rw [List.nodup_cons] at hn
  rw [List.map_cons, List.nodup_cons]
  refine ⟨fun hm => ?_, nodup_map (fun x hx y hy => h x (List.mem_cons_of_mem _ hx) y (List.mem_cons_of_mem _ hy)) hn.2⟩
  obtain ⟨b, hb, he⟩ := List.mem_map.1 hm
  have := h b (List.mem_cons_of_mem _ hb) a (List.mem_cons_self ..) he
  subst this; exact hn.1 hb
theorem restrict (e : Emb F G f) (hc : copyOk F) {y : Exe} (hy : OKW G y) (hpl : ∀ d ∈ F, d.uses = true → 0 ≤ d.p ∧ d.p < 3)
  (hw : ∀ (j : Nat) (d' : Do), G[j]? = some d' → d'.writes = true → (∃ i, i < F.length ∧ f i = j) ∨ ∀ d ∈ F, d.uses = true → d.p ≠ d'.p) :
  ∃ x, OKW F x ∧ Mat F f x y ∧ ((∀ (j : Nat) (d' : Do), G[j]? = some d' → d'.writes = true → ∃ i, i < F.length ∧ f i = j) → y.od = x.od.map (List.map (lft f))) := by
 have hup : ∀ z, z < 0 ∨ (∃ i, i < F.length ∧ (f i : Int) = z) → lft f (dn f F.length z) = z := by
  rintro z (h | ⟨i, hi, rfl⟩)
  ·rw [dn_neg h, lft_neg f h]
  ·rw [e.dn hi, lft_nat]
 -- what is read
 have hfr : ∀ i, i < F.length → ∃ z, y.fr[f i]? = some z ∧ (z < 0 ∨ ∃ i, i < F.length ∧ (f i : Int) = z) := by
  intro i hi
  have hlt := e.lt hi
  obtain ⟨z, hz⟩ : ∃ z, y.fr[f i]? = some z := ⟨_, List.getElem?_eq_getElem (by rw [hy.frl]; exact hlt)⟩
  refine ⟨z, hz, ?_⟩
  have hd : F[i]? = some F[i] := List.getElem?_eq_getElem hi
  obtain ⟨d', h1, h2⟩ := e.sim i _ hd
  cases hr : d'.reads
  ·have := hy.nr _ _ z h1 hz hr; left; omega
  ·rcases hy.rd _ _ z h1 hz hr with h3 | ⟨b, d2, h3, h4, h5, h6⟩
   ·left; omega
   ·right
    rcases hw b d2 h4 h5 with ⟨i', h7, h8⟩ | h7
    ·exact ⟨i', h7, by omega⟩
    ·exact absurd (by rw [h6, h2.p]) (h7 _ (List.mem_of_getElem? hd) (by rw [← h2.uses]; exact uses_or.2 (.inl hr)))
 obtain ⟨x, hx⟩ : ∃ x : Exe, x = ⟨(List.range F.length).map fun i => dn f F.length (y.fr[f i]?.getD 0), y.od.map fun r => (r.filter (imB f F.length)).map (dn f F.length)⟩ := ⟨_, rfl⟩
 have xfr : ∀ i, i < F.length → ∃ z, y.fr[f i]? = some z ∧ x.fr[i]? = some (dn f F.length z) ∧ (z < 0 ∨ ∃ i, i < F.length ∧ (f i : Int) = z) := by
  intro i hi
  obtain ⟨z, h1, h2⟩ := hfr i hi
  refine ⟨z, h1, ?_, h2⟩
  rw [hx]
  simp only [List.getElem?_map, List.getElem?_range hi, Option.map_some, h1, Option.getD_some]
 have xl : x.fr.length = F.length := by rw [hx]; simp
 have xod : ∀ k : Nat, k < 3 → ∃ r, y.od[k]? = some r ∧ x.od[k]? = some ((r.filter (imB f F.length)).map (dn f F.length)) ∧ ∀ z : Int, z ∈ r ↔ ∃ (b : Nat) (d : Do), z = b ∧ G[b]? = some d ∧ d.writes = true ∧ d.p = k := by
  intro k hk
  obtain ⟨r, h1, h2, h3⟩ := hy.od k hk
  refine ⟨r, h1, ?_, h3⟩
  rw [hx]
  simp [h1]
 have whole : ∀ k : Nat, k < 3 → ∀ r, y.od[k]? = some r → (∀ z ∈ r, imB f F.length z = true) → ((r.filter (imB f F.length)).map (dn f F.length)).map (lft f) = r := by
  intro k hk r hr hall
  rw [List.filter_eq_self.2 hall, List.map_map]
  have : r.map (lft f ∘ dn f F.length) = r.map id := List.map_congr_left fun z hz => by
   obtain ⟨i, hi, hz'⟩ := imB_iff.1 (hall z hz)
   exact hup z (.inr ⟨i, hi, hz'⟩)
  rw [this, List.map_id]
 have m : Mat F f x y := by
  refine ⟨fun i z hi hz => ?_, fun k hk => ?_⟩
  ·obtain ⟨z', h1, h2, h3⟩ := xfr i hi
   rw [hz] at h2
   rw [h1, Option.some.inj h2, hup z' h3]
  ·obtain ⟨r, h1, h2, h3⟩ := xod k hk
   by_cases hall : ∀ z ∈ r, imB f F.length z = true
   ·exact .inl ⟨_, h2, by rw [whole k hk r h1 hall]; exact h1⟩
   ·right
    obtain ⟨z, hz⟩ := Classical.not_forall.1 hall
    obtain ⟨hzr, hz'⟩ := Classical.not_imp.1 hz
    obtain ⟨b, d, rfl, h4, h5, h6⟩ := (h3 z).1 hzr
    rcases hw b d h4 h5 with ⟨i, hi, hb⟩ | h7
    ·exact absurd (imB_iff.2 ⟨i, hi, by omega⟩) hz'
    ·intro d2 hd2 hu
     rw [← h6]; exact h7 d2 hd2 hu
 have hrd : ∀ (i : Nat) (d : Do) (z : Int), F[i]? = some d → x.fr[i]? = some z → d.reads = true → z = -1 ∨ ∃ b : Nat, z = b ∧ ∃ d', F[b]? = some d' ∧ d'.writes = true ∧ d'.p = d.p := by
  intro i d z hd hz hr
  have hi := (List.getElem?_eq_some_iff.1 hd).1
  obtain ⟨z', h1, h2, h3⟩ := xfr i hi
  rw [hz] at h2
  obtain ⟨d', h4, h5⟩ := e.sim i d hd
  rcases hy.rd _ _ z' h4 h1 (by rw [h5.r]; exact hr) with h6 | ⟨b, d2, h6, h7, h8, h9⟩
  ·left; rw [Option.some.inj h2, dn_neg (by omega), h6]
  ·right
   obtain ⟨i', hi', hz'⟩ := h3.resolve_left (by omega)
   have hbi : b = f i' := by omega
   refine ⟨i', by rw [Option.some.inj h2, ← hz', e.dn hi'], F[i'], List.getElem?_eq_getElem hi', ?_⟩
   obtain ⟨d3, k1, k2⟩ := e.sim i' _ (List.getElem?_eq_getElem hi')
   rw [← hbi, h7] at k1
   cases k1
   exact ⟨by rw [← k2.w]; exact h8, by rw [← k2.p, h9, h5.p]⟩
 refine ⟨x, ⟨xl, by rw [hx]; simp [hy.odl], fun k hk => ?_, fun i d z hd hz hr => ?_, fun i d z hd hz hr => ?_, fun i d hd hu => ?_⟩, m, fun hall => ?_⟩
 ·obtain ⟨r, h1, h2, h3⟩ := xod k hk
  obtain ⟨r', k1, k2, _⟩ := hy.od k hk
  rw [h1] at k1; cases k1
  refine ⟨_, h2, nodup_map (fun a ha b hb he => ?_) (k2.filter _), fun z => ?_⟩
  ·obtain ⟨i, hi, rfl⟩ := imB_iff.1 (List.mem_filter.1 ha).2
   obtain ⟨j, hj, rfl⟩ := imB_iff.1 (List.mem_filter.1 hb).2
   rw [e.dn hi, e.dn hj] at he
   have : i = j := by omega
   rw [this]
  ·rw [List.mem_map]
   constructor
   ·rintro ⟨w, hw', rfl⟩
    obtain ⟨h4, h5⟩ := List.mem_filter.1 hw'
    obtain ⟨i, hi, rfl⟩ := imB_iff.1 h5
    obtain ⟨b, d, hb, h6, h7, h8⟩ := (h3 _).1 h4
    have : b = f i := by omega
    subst this
    obtain ⟨d3, k1, k2⟩ := e.sim i _ (List.getElem?_eq_getElem hi)
    rw [h6] at k1; cases k1
    exact ⟨i, _, e.dn hi, List.getElem?_eq_getElem hi, by rw [← k2.w]; exact h7, by rw [← k2.p]; exact h8⟩
   ·rintro ⟨i, d, rfl, h4, h5, h6⟩
    have hi := (List.getElem?_eq_some_iff.1 h4).1
    obtain ⟨d3, k1, k2⟩ := e.sim i _ h4
    exact ⟨(f i : Int), List.mem_filter.2 ⟨(h3 _).2 ⟨f i, d3, rfl, k1, by rw [k2.w]; exact h5, by rw [k2.p]; exact h6⟩, imB_iff.2 ⟨i, hi, rfl⟩⟩, e.dn hi⟩
 ·rcases hrd i d z hd hz hr with h1 | ⟨b, h1, d', h2, h3, h4⟩
  ·exact .inl h1
  ·exact .inr ⟨b, d', h1, h2, h3, h4⟩
 ·have hi := (List.getElem?_eq_some_iff.1 hd).1
  obtain ⟨z', h1, h2, h3⟩ := xfr i hi
  obtain ⟨d', h4, h5⟩ := e.sim i d hd
  have := hy.nr _ _ z' h4 h1 (by rw [h5.r]; exact hr)
  rw [hz] at h2
  rw [Option.some.inj h2, dn_neg (by omega), this]
 ·have hi := (List.getElem?_eq_some_iff.1 hd).1
  obtain ⟨d', h4, h5⟩ := e.sim i d hd
  obtain ⟨v, hv⟩ := hy.ends _ _ h4 (by rw [h5.uses]; exact hu)
  refine ⟨v, m.back e hc xl (fun i d z hd hz hr => ?_) hv i hi rfl⟩
  rcases hrd i d z hd hz hr with h1 | ⟨b, h1, d', h2, _⟩
  ·exact .inl h1
  ·exact .inr ⟨b, h1, (List.getElem?_eq_some_iff.1 h2).1⟩
 ·apply List.ext_getElem?
  intro k
  rw [List.getElem?_map]
  by_cases hk : k < 3
  ·obtain ⟨r, h1, h2, h3⟩ := xod k hk
   rw [h2, h1, Option.map_some, whole k hk r h1 fun z hz => ?_]
   obtain ⟨b, d, rfl, h4, h5, _⟩ := (h3 z).1 hz
   obtain ⟨i, hi, hb⟩ := hall b d h4 h5
   exact imB_iff.2 ⟨i, hi, by omega⟩
  ·rw [List.getElem?_eq_none (by rw [hy.odl]; omega), List.getElem?_eq_none (by rw [hx]; simp [hy.odl]; omega)]; rfl
theorem extend (e : Emb F G f) {x : Exe} (hx : OKW F x) (hnu : ∀ (j : Nat) (d' : Do), G[j]? = some d' → d'.uses = true → ∃ i, i < F.length ∧ f i = j) :
  ∃ y, OKW G y ∧ Mat F f x y ∧ y.od = x.od.map (List.map (lft f)) := by
 obtain ⟨y, hy⟩ : ∃ y : Exe, y = ⟨(List.range G.length).map fun j : Nat => if imB f F.length (j : Int) then lft f (x.fr[inv f F.length j]?.getD 0) else -2, x.od.map (List.map (lft f))⟩ := ⟨_, rfl⟩
 have yl : y.fr.length = G.length := by rw [hy]; simp
 have yold : ∀ i z, i < F.length → x.fr[i]? = some z → y.fr[f i]? = some (lft f z) := by
  intro i z hi hz
  rw [hy]
  simp only [List.getElem?_map, List.getElem?_range (e.lt hi), Option.map_some, imB_iff.2 ⟨i, hi, rfl⟩, if_true, e.inv hi, hz, Option.getD_some]
 have ynew : ∀ j, j < G.length → (¬ ∃ i, i < F.length ∧ f i = j) → y.fr[j]? = some (-2) := by
  intro j hj hn
  have : imB f F.length (j : Int) = false := by
   rw [Bool.eq_false_iff]
   intro h
   obtain ⟨i, h1, h2⟩ := imB_iff.1 h
   exact hn ⟨i, h1, by omega⟩
  rw [hy]
  simp only [List.getElem?_map, List.getElem?_range hj, Option.map_some, this]
  rfl
 have m : Mat F f x y := by
  refine ⟨yold, fun k hk => .inl ?_⟩
  obtain ⟨r, this⟩ : ∃ r, x.od[k]? = some r := ⟨_, List.getElem?_eq_getElem (by rw [hx.odl]; exact hk)⟩
  exact ⟨_, this, by rw [hy]; simp only [List.getElem?_map, this, Option.map_some]⟩
 have cases_ : ∀ (j : Nat) (d' : Do), G[j]? = some d' → (∃ i d z, i < F.length ∧ f i = j ∧ F[i]? = some d ∧ Sim d d' ∧ x.fr[i]? = some z ∧ y.fr[j]? = some (lft f z)) ∨ ((¬ ∃ i, i < F.length ∧ f i = j) ∧ y.fr[j]? = some (-2) ∧ d'.uses = false) := by
  intro j d' hj
  by_cases h : ∃ i, i < F.length ∧ f i = j
  ·obtain ⟨i, hi, rfl⟩ := h
   obtain ⟨d2, h1, h2⟩ := e.sim i _ (List.getElem?_eq_getElem hi)
   rw [hj] at h1; cases h1
   obtain ⟨z, hz⟩ : ∃ z, x.fr[i]? = some z := ⟨_, List.getElem?_eq_getElem (by rw [hx.frl]; exact hi)⟩
   exact .inl ⟨i, _, z, hi, rfl, List.getElem?_eq_getElem hi, h2, hz, yold i z hi hz⟩
  ·refine .inr ⟨h, ynew j (List.getElem?_eq_some_iff.1 hj).1 h, ?_⟩
   cases hu : d'.uses
   ·rfl
   ·exact absurd (hnu j d' hj hu) h
 refine ⟨y, ⟨yl, by rw [hy]; simp [hx.odl], fun k hk => ?_, fun j d' z hd hz hr => ?_, fun j d' z hd hz hr => ?_, fun j d' hd hu => ?_⟩, m, by rw [hy]⟩
 ·obtain ⟨r, h1, h2, h3⟩ := hx.od k hk
  refine ⟨r.map (lft f), by rw [hy]; simp only [List.getElem?_map, h1, Option.map_some], nodup_map (fun a ha b hb he => ?_) h2, fun z => ?_⟩
  ·obtain ⟨a', _, rfl, k1, _⟩ := (h3 a).1 ha
   obtain ⟨b', _, rfl, k2, _⟩ := (h3 b).1 hb
   rw [lft_nat, lft_nat] at he
   have := e.inj (List.getElem?_eq_some_iff.1 k1).1 (List.getElem?_eq_some_iff.1 k2).1 (by omega)
   rw [this]
  ·rw [List.mem_map]
   constructor
   ·rintro ⟨w, hw, rfl⟩
    obtain ⟨b, d, rfl, h4, h5, h6⟩ := (h3 w).1 hw
    obtain ⟨d', k1, k2⟩ := e.sim b d h4
    exact ⟨f b, d', lft_nat f b, k1, by rw [k2.w]; exact h5, by rw [k2.p]; exact h6⟩
   ·rintro ⟨j, d', rfl, h4, h5, h6⟩
    obtain ⟨i, hi, rfl⟩ := hnu j d' h4 (uses_or.2 (.inr h5))
    obtain ⟨d2, k1, k2⟩ := e.sim i _ (List.getElem?_eq_getElem hi)
    rw [h4] at k1; cases k1
    exact ⟨(i : Int), (h3 _).2 ⟨i, _, rfl, List.getElem?_eq_getElem hi, by rw [← k2.w]; exact h5, by rw [← k2.p]; exact h6⟩, lft_nat f i⟩
 ·rcases cases_ j d' hd with ⟨i, d, z', hi, rfl, h1, h2, h3, h4⟩ | ⟨_, _, h3⟩
  ·rw [hz] at h4
   rw [Option.some.inj h4]
   rcases hx.rd i d z' h1 h3 (by rw [← h2.r]; exact hr) with rfl | ⟨b, d2, rfl, k1, k2, k3⟩
   ·exact .inl (lft_neg f (by omega))
   ·obtain ⟨d3, k4, k5⟩ := e.sim b d2 k1
    exact .inr ⟨f b, d3, lft_nat f b, k4, by rw [k5.w]; exact k2, by rw [k5.p, k3, h2.p]⟩
  ·rw [uses_or.2 (.inl hr)] at h3; cases h3
 ·rcases cases_ j d' hd with ⟨i, d, z', hi, rfl, h1, h2, h3, h4⟩ | ⟨_, h2, _⟩
  ·have := hx.nr i d z' h1 h3 (by rw [← h2.r]; exact hr)
   rw [hz] at h4
   rw [Option.some.inj h4, lft_neg f (by omega), this]
  ·rw [hz] at h2; exact Option.some.inj h2
 ·obtain ⟨i, hi, rfl⟩ := hnu j d' hd hu
  obtain ⟨d2, k1, k2⟩ := e.sim i _ (List.getElem?_eq_getElem hi)
  rw [hd] at k1; cases k1
  obtain ⟨v, hv⟩ := hx.ends i _ (List.getElem?_eq_getElem hi) (by rw [← k2.uses]; exact hu)
  exact ⟨v, m.val e hv⟩
end
end
section
open Go.RowKit
structure Fra where
 t : Int
 d : Do
 l : Bool
deriving DecidableEq
def stF (t : Nat) (d : Do) : List Fra := if d.k == 9 then [⟨t, d, false⟩, ⟨t, d, true⟩] else [⟨t, d, false⟩]
def thF (t : Nat) (l : List Do) : List Fra := l.flatMap (stF t)
def evF : Nat → Prog → List Fra
 | _, [] => []
 | t, l :: p => thF t l ++ evF (t + 1) p
theorem thF_app (t : Nat) (a b : List Do) : thF t (a ++ b) = thF t a ++ thF t b := by simp [thF]
theorem thF_cons (t : Nat) (d : Do) (b : List Do) : thF t (d :: b) = stF t d ++ thF t b := by simp [thF]
theorem thF_nil (t : Nat) : thF t [] = [] := rfl
theorem evF_app : ∀ (t : Nat) (a b : Prog), evF t (a ++ b) = evF t a ++ evF (t + a.length) b
 | t, [], b => by simp [evF]
 | t, l :: a, b => by
  rw [List.cons_append, evF, evF, evF_app (t + 1) a b, List.append_assoc, List.length_cons]
  rw [show t + 1 + a.length = t + (a.length + 1) by omega]
def frP (p : Prog) (e : Evt) : Fra := ⟨e.t, stepAt p e, e.l⟩
theorem evThr_F {p : Prog} {t : Nat} {l : List Do} (hl : p[t]? = some l) : ∀ k, (evThr t l k).map (frP p) = thF t (l.take k)
 | 0 => by simp [evThr, thF]
 | k + 1 => by
  rw [evThr, List.map_append, evThr_F hl k]
  cases hd : l[k]? with
  | none =>
   have : l.length ≤ k := by rwa [List.getElem?_eq_none_iff] at hd
   simp [List.take_of_length_le this, List.take_of_length_le (Nat.le_succ_of_le this)]
  | some d =>
   rw [take_get hd, thF_app, thF_cons, thF_nil, List.append_nil]
   congr 1
   have h1 : ∀ b, stepAt p ⟨t, k, b⟩ = d := fun b => by simp [stepAt, hl, hd]
   simp only [evsOf, stF]
   split <;> simp [frP, h1]
theorem evPro_F (p : Prog) : ∀ k, (evPro p k).map (frP p) = evF 0 (p.take k)
 | 0 => by simp [evPro, evF]
 | k + 1 => by
  rw [evPro, List.map_append, evPro_F p k]
  cases hl : p[k]? with
  | none =>
   have : p.length ≤ k := by rwa [List.getElem?_eq_none_iff] at hl
   simp [List.take_of_length_le this, List.take_of_length_le (Nat.le_succ_of_le this)]
  | some l =>
   have hk : k < p.length := (List.getElem?_eq_some_iff.1 hl).1
   rw [take_get hl, evF_app, evF, evF, List.append_nil, List.length_take, Nat.min_eq_left (by omega), Nat.zero_add]
   congr 1
   have := evThr_F hl l.length
   rw [List.take_length] at this
   exact this
theorem events_F (p : Prog) : (events p).map (frP p) = evF 0 p := by
 have := evPro_F p p.length
 rw [List.take_length] at this
 exact this
theorem evF_len (p : Prog) : (evF 0 p).length = (events p).length := by rw [← events_F, List.length_map]
theorem ds_F (p : Prog) : (scene p).ds = (evF 0 p).map Fra.d := by
 rw [← events_F, List.map_map]; rfl
theorem F_get {p : Prog} {i : Nat} {x : Fra} (h : (evF 0 p)[i]? = some x) : i < (events p).length ∧ (scene p).ds[i]? = some x.d ∧ th (events p) i = x.t ∧ ltA (events p) i = x.l ∧ dsA p i = x.d ∧ kd (scene p).ds i = x.d.k := by
 have h1 : i < (events p).length := by rw [← evF_len]; exact (List.getElem?_eq_some_iff.1 h).1
 have h2 : (scene p).ds[i]? = some x.d := by rw [ds_F, List.getElem?_map, h]; rfl
 rw [← events_F, List.getElem?_map, List.getElem?_eq_getElem h1] at h
 have h3 := Option.some.inj h
 refine ⟨h1, h2, ?_, ?_, ?_, ?_⟩
 ·rw [th, List.getElem?_eq_getElem h1, Option.getD_some, ← h3]; rfl
 ·rw [ltA, List.getElem?_eq_getElem h1, Option.getD_some, ← h3]; rfl
 ·rw [dsA, h2]; rfl
 ·rw [kd, h2]; rfl
theorem F_at {p : Prog} {i : Nat} (h : i < (events p).length) : ∃ x, (evF 0 p)[i]? = some x := ⟨_, List.getElem?_eq_getElem (by rw [evF_len]; exact h)⟩
theorem th_le {p : Prog} {a b : Nat} (hab : a ≤ b) (hb : b < (events p).length) : th (events p) a ≤ th (events p) b := by
 rcases Nat.lt_or_ge a b with h | h
 ·have := List.pairwise_iff_getElem.1 (events_pw p p.length) a b (show a < (events p).length by omega) hb h
  simp only [th]
  rw [List.getElem?_eq_getElem (show a < (events p).length by omega), List.getElem?_eq_getElem hb]
  exact this
 ·have : a = b := by omega
  rw [this]; exact Int.le_refl _
theorem lastRd_of {ds : List Do} {a r : Nat} {d : Do} (h1 : r < a) (h2 : ds[r]? = some d) (h3 : d.reads = true) (h4 : ∀ j d', r < j → j < a → ds[j]? = some d' → d'.reads = false) : lastRd ds a = r := by
 obtain ⟨k1, ⟨d', k2, k3⟩, k4⟩ := lastRd_spec (ds := ds) (a := a) ⟨r, d, h1, h2, h3⟩
 rcases Nat.lt_trichotomy (lastRd ds a) r with h | h | h
 ·have := k4 r d h h1 h2; rw [h3] at this; cases this
 ·exact h
 ·have := h4 _ d' h k1 k2; rw [k3] at this; cases this
structure Alk (x y : Fra) : Prop where
 t : y.t = x.t
 l : y.l = x.l
 s : Sim x.d y.d
 k7 : y.d.k = 7 ↔ x.d.k = 7
 k8 : y.d.k = 8 ↔ x.d.k = 8
theorem Alk.refl (x : Fra) : Alk x x := ⟨rfl, rfl, Sim.refl _, Iff.rfl, Iff.rfl⟩
theorem PE.of {p q : Prog} {f : Nat → Nat} (okp : progOk p = true) (okq : progOk q = true) (mono : ∀ i j, i < j → j < (evF 0 p).length → f i < f j)
  (hs : ∀ i x, (evF 0 p)[i]? = some x → ∃ y, (evF 0 q)[f i]? = some y ∧ Alk x y)
  (hrd : ∀ j y, (evF 0 q)[j]? = some y → (¬ ∃ i, i < (evF 0 p).length ∧ f i = j) → y.d.reads = true → ∀ i, i < (evF 0 p).length → f i < j)
  (hio : ∀ j y, (evF 0 q)[j]? = some y → (¬ ∃ i, i < (evF 0 p).length ∧ f i = j) → (y.d.k = 7 ∨ y.d.k = 8) → (∀ i x, (evF 0 p)[i]? = some x → x.t = y.t → j < f i) ∨ (∀ i x, (evF 0 p)[i]? = some x → x.t = y.t → f i < j))
  (hwt : ∀ j y, (evF 0 q)[j]? = some y → (¬ ∃ i, i < (evF 0 p).length ∧ f i = j) → y.d.k ≠ 9 ∨ y.l = true) : PE p q f := by
 have hlen := evF_len p
 have hlt : ∀ i j, i < (evF 0 p).length → j < (evF 0 p).length → f i < f j → i < j := by
  intro i j hi hj h
  rcases Nat.lt_trichotomy i j with h1 | h1 | h1
  ·exact h1
  ·rw [h1] at h; omega
  ·have := mono j i h1 hi; omega
 have hemb : Emb (scene p).ds (scene q).ds f := by
  have hn : (scene p).ds.length = (evF 0 p).length := by rw [ds_F, List.length_map]
  refine ⟨fun i j h1 h2 => mono i j h1 (by omega), fun i d hd => ?_, fun i d hd h3 => ?_⟩
  ·obtain ⟨x, hx⟩ := F_at (p := p) (i := i) (by rw [← scene_n]; exact (List.getElem?_eq_some_iff.1 hd).1)
   obtain ⟨y, hy, hl⟩ := hs i x hx
   have e1 := (F_get hx).2.1
   rw [hd] at e1; cases e1
   exact ⟨y.d, (F_get hy).2.1, hl.s⟩
  ·obtain ⟨k1, ⟨d', k2, k3⟩, k4⟩ := lastRd_spec (scene_copy okp i d hd h3)
   have hi : i < (evF 0 p).length := by rw [← hn]; exact (List.getElem?_eq_some_iff.1 hd).1
   obtain ⟨x, hx⟩ := F_at (p := p) (i := lastRd (scene p).ds i) (by omega)
   obtain ⟨y, hy, hl⟩ := hs _ x hx
   have e1 := (F_get hx).2.1
   rw [k2] at e1
   have e1 := Option.some.inj e1
   refine lastRd_of (mono _ _ k1 hi) (F_get hy).2.1 (by rw [hl.s.r, ← e1]; exact k3) fun j d2 h1 h2 h4 => ?_
   cases hr : d2.reads
   ·rfl
   obtain ⟨z, hz⟩ := F_at (p := q) (i := j) (by rw [← scene_n]; exact (List.getElem?_eq_some_iff.1 h4).1)
   have e2 := (F_get hz).2.1
   rw [h4] at e2
   have e2 := Option.some.inj e2
   by_cases hj : ∃ i, i < (evF 0 p).length ∧ f i = j
   ·obtain ⟨i', hi', rfl⟩ := hj
    have m1 := hlt _ _ (by omega) hi' h1
    have m2 := hlt _ _ hi' hi h2
    obtain ⟨x', hx'⟩ := F_at (p := p) (i := i') (by omega)
    obtain ⟨y', hy', hl'⟩ := hs _ x' hx'
    rw [hz] at hy'; cases hy'
    have := k4 i' _ m1 m2 (F_get hx').2.1
    rw [← hl'.s.r, ← e2, hr] at this; cases this
   ·have := hrd j z hz hj (by rw [← e2]; exact hr) i hi
    omega
 have kk : ∀ i, i < (events p).length → ∃ x y, (evF 0 p)[i]? = some x ∧ (evF 0 q)[f i]? = some y ∧ Alk x y := by
  intro i hi
  obtain ⟨x, hx⟩ := F_at hi
  obtain ⟨y, hy, hl⟩ := hs i x hx
  exact ⟨x, y, hx, hy, hl⟩
 refine ⟨okp, okq, hemb, fun a b ha hb => ?_, fun i hi => ?_, fun i hi => ?_, fun a b j ha hb hth h1 h2 hj => ?_, fun i hi => ?_, fun e he hl => ?_⟩
 ·obtain ⟨x, y, h1, h2, h3⟩ := kk a ha
  obtain ⟨x', y', h1', h2', h3'⟩ := kk b hb
  rw [(F_get h1).2.2.1, (F_get h2).2.2.1, (F_get h1').2.2.1, (F_get h2').2.2.1, h3.t, h3'.t]
 ·obtain ⟨x, y, h1, h2, h3⟩ := kk i hi
  rw [(F_get h1).2.2.2.2.2, (F_get h2).2.2.2.2.2]; exact h3.k7
 ·obtain ⟨x, y, h1, h2, h3⟩ := kk i hi
  rw [(F_get h1).2.2.2.2.2, (F_get h2).2.2.2.2.2]; exact h3.k8
 ·obtain ⟨x, y, a1, a2, a3⟩ := kk a ha
  obtain ⟨x', y', b1, b2, b3⟩ := kk b hb
  have hjl : j < (events q).length := by have := (F_get b2).1; omega
  obtain ⟨z, hz⟩ := F_at hjl
  by_cases hex : ∃ i, i < (evF 0 p).length ∧ f i = j
  ·obtain ⟨i, hi, rfl⟩ := hex
   exact ⟨i, hlt _ _ (by omega) hi h1, hlt _ _ hi (by omega) h2, rfl⟩
  ·have t1 := th_le (p := q) (a := f a) (b := j) (by omega) hjl
   have t2 := th_le (p := q) (a := j) (b := f b) (by omega) (F_get b2).1
   rw [(F_get a2).2.2.1, (F_get hz).2.2.1] at t1
   rw [(F_get b2).2.2.1, (F_get hz).2.2.1] at t2
   rw [(F_get a1).2.2.1, (F_get b1).2.2.1] at hth
   have := a3.t
   have := b3.t
   rw [(F_get hz).2.2.2.2.2] at hj
   rcases hio j z hz hex hj with h | h
   ·have := h a x a1 (by omega); omega
   ·have := h b x' b1 (by omega); omega
 ·obtain ⟨x, y, h1, h2, h3⟩ := kk i hi
  rw [(F_get h1).2.2.2.1, (F_get h2).2.2.2.1, h3.l]
 ·obtain ⟨x, y, h1, h2, h3⟩ := kk (e + 1) he
  have hl2 : ltA (events q) (f (e + 1)) = true := by rw [(F_get h2).2.2.2.1, h3.l, ← (F_get h1).2.2.2.1]; exact hl
  obtain ⟨w, hw, hw9, hwl⟩ := wait_prev (F_get h2).1 hl2
  have hm := mono e (e + 1) (by omega) (by omega)
  rcases Nat.lt_or_ge (f e) w with hh | hh
  ·have hwq : w < (events q).length := by have := (F_get h2).1; omega
   obtain ⟨z, hz⟩ := F_at hwq
   have hno : ¬ ∃ i, i < (evF 0 p).length ∧ f i = w := by
    rintro ⟨i, hi, hiw⟩
    have m1 := hlt e i (by omega) hi (by omega)
    have m2 := hlt i (e + 1) hi (by omega) (by omega)
    omega
   rw [(F_get hz).2.2.2.2.2] at hw9
   rw [(F_get hz).2.2.2.1] at hwl
   rcases hwt w z hz hno with h | h
   ·exact absurd hw9 h
   ·rw [h] at hwl; cases hwl
  ·omega
def Em (R : Fra → Fra → Prop) (N : Fra → Prop) (F G : List Fra) (f : Nat → Nat) : Prop :=
 (∀ i j, i < j → j < F.length → f i < f j) ∧ (∀ i x, F[i]? = some x → ∃ y, G[f i]? = some y ∧ R x y) ∧ ∀ j y, G[j]? = some y → (∃ i, i < F.length ∧ f i = j) ∨ N y
theorem Em.nil {R : Fra → Fra → Prop} {N : Fra → Prop} : Em R N [] [] (fun i => i) := ⟨fun i j h h2 => by simp at h2, fun i x h => by simp at h, fun j y h => by simp at h⟩
theorem Em.cons {R : Fra → Fra → Prop} {N : Fra → Prop} {F G : List Fra} {f : Nat → Nat} {x y : Fra} (h : Em R N F G f) (hxy : R x y) : Em R N (x :: F) (y :: G) (fun i => if i = 0 then 0 else f (i - 1) + 1) := by
 obtain ⟨h1, h2, h3⟩ := h
 refine ⟨fun i j hij hj => ?_, fun i z hz => ?_, fun j z hz => ?_⟩
 ·simp only [List.length_cons] at hj
  have hj0 : j ≠ 0 := by omega
  simp only [hj0, if_false]
  by_cases hi : i = 0
  ·simp [hi]
  ·simp only [hi, if_false]
   have := h1 (i - 1) (j - 1) (by omega) (by omega)
   omega
 ·cases i with
  | zero => simp at hz; subst hz; exact ⟨y, rfl, hxy⟩
  | succ i =>
   simp at hz
   obtain ⟨w, hw, hr⟩ := h2 i z hz
   exact ⟨w, by simpa using hw, hr⟩
 ·cases j with
  | zero => exact .inl ⟨0, by simp, by simp⟩
  | succ j =>
   simp at hz
   rcases h3 j z hz with ⟨i, hi, hij⟩ | hn
   ·exact .inl ⟨i + 1, by simpa using hi, by simp [hij]⟩
   ·exact .inr hn
theorem Em.new {R : Fra → Fra → Prop} {N : Fra → Prop} {F G : List Fra} {f : Nat → Nat} {y : Fra} (h : Em R N F G f) (hy : N y) : Em R N F (y :: G) (fun i => f i + 1) := by
 obtain ⟨h1, h2, h3⟩ := h
 refine ⟨fun i j hij hj => ?_, fun i z hz => ?_, fun j z hz => ?_⟩
 ·have := h1 i j hij hj
  dsimp only; omega
 ·obtain ⟨w, hw, hr⟩ := h2 i z hz
  exact ⟨w, by simpa using hw, hr⟩
 ·cases j with
  | zero => simp at hz; subst hz; exact .inr hy
  | succ j =>
   simp at hz
   rcases h3 j z hz with ⟨i, hi, hij⟩ | hn
   ·exact .inl ⟨i, hi, by dsimp only; omega⟩
   ·exact .inr hn
theorem Em.same {R : Fra → Fra → Prop} {N : Fra → Prop} {F G : List Fra} (hR : ∀ x, R x x) : ∀ (A : List Fra), (∃ f, Em R N F G f) → ∃ f, Em R N (A ++ F) (A ++ G) f
 | [], h => h
 | x :: A, h => by
  obtain ⟨f, hf⟩ := Em.same hR A h
  exact ⟨_, hf.cons (hR x)⟩
theorem PE.ofEm {p q : Prog} {f : Nat → Nat} {N : Fra → Prop} (okp : progOk p = true) (okq : progOk q = true) (h : Em Alk N (evF 0 p) (evF 0 q) f)
  (hN : ∀ y, N y → y.d.uses = false ∧ y.d.k ≠ 7 ∧ y.d.k ≠ 8 ∧ (y.d.k ≠ 9 ∨ y.l = true)) : PE p q f := by
 refine PE.of okp okq h.1 h.2.1 (fun j y hy hn hr => ?_) (fun j y hy hn hk => ?_) (fun j y hy hn => ?_)
 ·have := (hN y ((h.2.2 j y hy).resolve_left hn)).1
  rw [uses_or.2 (.inl hr)] at this; cases this
 ·have := hN y ((h.2.2 j y hy).resolve_left hn)
  omega
 ·exact (hN y ((h.2.2 j y hy).resolve_left hn)).2.2.2
end
end Go.Proofs.YtkdolbffabmemaaGreatDoor
