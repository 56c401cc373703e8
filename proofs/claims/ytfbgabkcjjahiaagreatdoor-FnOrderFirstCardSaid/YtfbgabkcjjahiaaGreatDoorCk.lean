/-
 Contracts and plain laws.
-/
import Derived.Test.YtfbgabkcjjahiaaGreatDoorCc
import Derived.Test.YtfbgabkcjjahiaaGreatDoorCd
import Derived.Test.YtfbgabkcjjahiaaGreatDoorCf
import Derived.Test.YtfbgabkcjjahiaaGreatDoorCh
import Derived.Test.YtfbgabkcjjahiaaGreatDoorCi
import Derived.Test.YtfbgabkcjjahiaaGreatDoorCj
set_option linter.unusedSimpArgs false
set_option linter.unusedVariables false
set_option linter.unusedSectionVars false
namespace Go.Proofs.YtfbgabkcjjahiaaGreatDoor
section
open Go.RowKit
section
variable {F G : List Do} {f : Nat → Nat}
end
end
section
open Go.RowKit
structure Fra where
 t : Int
 d : Do
 l : Bool
deriving DecidableEq
def stF (t : Nat) (d : Do) : List Fra := if d.k == 9 then [⟨t, d, false⟩, ⟨t, d, true⟩] else [⟨t, d, false⟩]
def thF (t : Nat) (l : List Do) : List Fra := l.flatMap (stF t)
def evF : Nat → Prog → List Fra
 | _, [] => []
 | t, l :: p => thF t l ++ evF (t + 1) p
theorem thF_app (t : Nat) (a b : List Do) : thF t (a ++ b) = thF t a ++ thF t b := by simp [thF]
theorem thF_cons (t : Nat) (d : Do) (b : List Do) : thF t (d :: b) = stF t d ++ thF t b := by simp [thF]
theorem thF_nil (t : Nat) : thF t [] = [] := rfl
theorem evF_app : ∀ (t : Nat) (a b : Prog), evF t (a ++ b) = evF t a ++ evF (t + a.length) b
 | t, [], b => by simp [evF]
 | t, l :: a, b => by
  rw [List.cons_append, evF, evF, evF_app (t + 1) a b, List.append_assoc, List.length_cons]
  rw [show t + 1 + a.length = t + (a.length + 1) by omega]
def frP (p : Prog) (e : Evt) : Fra := ⟨e.t, stepAt p e, e.l⟩
theorem evThr_F {p : Prog} {t : Nat} {l : List Do} (hl : p[t]? = some l) : ∀ k, (evThr t l k).map (frP p) = thF t (l.take k)
 | 0 => by simp [evThr, thF]
 | k + 1 => by
  rw [evThr, List.map_append, evThr_F hl k]
  cases hd : l[k]? with
  | none =>
   have : l.length ≤ k := by rwa [List.getElem?_eq_none_iff] at hd
   simp [List.take_of_length_le this, List.take_of_length_le (Nat.le_succ_of_le this)]
  | some d =>
   rw [take_get hd, thF_app, thF_cons, thF_nil, List.append_nil]
   congr 1
   have h1 : ∀ b, stepAt p ⟨t, k, b⟩ = d := fun b => by simp [stepAt, hl, hd]
   simp only [evsOf, stF]
   split <;> simp [frP, h1]
theorem evPro_F (p : Prog) : ∀ k, (evPro p k).map (frP p) = evF 0 (p.take k)
 | 0 => by simp [evPro, evF]
 | k + 1 => by
  rw [evPro, List.map_append, evPro_F p k]
  cases hl : p[k]? with
  | none =>
   have : p.length ≤ k := by rwa [List.getElem?_eq_none_iff] at hl
   simp [List.take_of_length_le this, List.take_of_length_le (Nat.le_succ_of_le this)]
  | some l =>
   have hk : k < p.length := (List.getElem?_eq_some_iff.1 hl).1
   rw [take_get hl, evF_app, evF, evF, List.append_nil, List.length_take, Nat.min_eq_left (by omega), Nat.zero_add]
   congr 1
   have := evThr_F hl l.length
   rw [List.take_length] at this
   exact this
theorem events_F (p : Prog) : (events p).map (frP p) = evF 0 p := by
 have := evPro_F p p.length
 rw [List.take_length] at this
 exact this
theorem evF_len (p : Prog) : (evF 0 p).length = (events p).length := by rw [← events_F, List.length_map]
theorem ds_F (p : Prog) : (scene p).ds = (evF 0 p).map Fra.d := by
 rw [← events_F, List.map_map]; rfl
theorem F_get {p : Prog} {i : Nat} {x : Fra} (h : (evF 0 p)[i]? = some x) : i < (events p).length ∧ (scene p).ds[i]? = some x.d ∧ th (events p) i = x.t ∧ ltA (events p) i = x.l ∧ dsA p i = x.d ∧ kd (scene p).ds i = x.d.k := by
 have h1 : i < (events p).length := by rw [← evF_len]; exact (List.getElem?_eq_some_iff.1 h).1
 have h2 : (scene p).ds[i]? = some x.d := by rw [ds_F, List.getElem?_map, h]; rfl
 rw [← events_F, List.getElem?_map, List.getElem?_eq_getElem h1] at h
 have h3 := Option.some.inj h
 refine ⟨h1, h2, ?_, ?_, ?_, ?_⟩
 ·rw [th, List.getElem?_eq_getElem h1, Option.getD_some, ← h3]; rfl
 ·rw [ltA, List.getElem?_eq_getElem h1, Option.getD_some, ← h3]; rfl
 ·rw [dsA, h2]; rfl
 ·rw [kd, h2]; rfl
theorem F_at {p : Prog} {i : Nat} (h : i < (events p).length) : ∃ x, (evF 0 p)[i]? = some x := ⟨_, List.getElem?_eq_getElem (by rw [evF_len]; exact h)⟩
theorem th_le {p : Prog} {a b : Nat} (hab : a ≤ b) (hb : b < (events p).length) : th (events p) a ≤ th (events p) b := by
 rcases Nat.lt_or_ge a b with h | h
 ·have := List.pairwise_iff_getElem.1 (events_pw p p.length) a b (show a < (events p).length by omega) hb h
  simp only [th]
  rw [List.getElem?_eq_getElem (show a < (events p).length by omega), List.getElem?_eq_getElem hb]
  exact this
 ·have : a = b := by omega
  rw [this]; exact Int.le_refl _
theorem lastRd_of {ds : List Do} {a r : Nat} {d : Do} (h1 : r < a) (h2 : ds[r]? = some d) (h3 : d.reads = true) (h4 : ∀ j d', r < j → j < a → ds[j]? = some d' → d'.reads = false) : lastRd ds a = r := by
 obtain ⟨k1, ⟨d', k2, k3⟩, k4⟩ := lastRd_spec (ds := ds) (a := a) ⟨r, d, h1, h2, h3⟩
 rcases Nat.lt_trichotomy (lastRd ds a) r with h | h | h
 ·have := k4 r d h h1 h2; rw [h3] at this; cases this
 ·exact h
 ·have := h4 _ d' h k1 k2; rw [k3] at this; cases this
structure Alk (x y : Fra) : Prop where
 t : y.t = x.t
 l : y.l = x.l
 s : Sim x.d y.d
 k7 : y.d.k = 7 ↔ x.d.k = 7
 k8 : y.d.k = 8 ↔ x.d.k = 8
theorem Alk.refl (x : Fra) : Alk x x := ⟨rfl, rfl, Sim.refl _, Iff.rfl, Iff.rfl⟩
theorem PE.of {p q : Prog} {f : Nat → Nat} (okp : progOk p = true) (okq : progOk q = true) (mono : ∀ i j, i < j → j < (evF 0 p).length → f i < f j)
  (hs : ∀ i x, (evF 0 p)[i]? = some x → ∃ y, (evF 0 q)[f i]? = some y ∧ Alk x y)
  (hrd : ∀ j y, (evF 0 q)[j]? = some y → (¬ ∃ i, i < (evF 0 p).length ∧ f i = j) → y.d.reads = true → ∀ i, i < (evF 0 p).length → f i < j)
  (hio : ∀ j y, (evF 0 q)[j]? = some y → (¬ ∃ i, i < (evF 0 p).length ∧ f i = j) → (y.d.k = 7 ∨ y.d.k = 8) → (∀ i x, (evF 0 p)[i]? = some x → x.t = y.t → j < f i) ∨ (∀ i x, (evF 0 p)[i]? = some x → x.t = y.t → f i < j))
  (hwt : ∀ j y, (evF 0 q)[j]? = some y → (¬ ∃ i, i < (evF 0 p).length ∧ f i = j) → y.d.k ≠ 9 ∨ y.l = true) : PE p q f := by
 have hlen := evF_len p
 have hlt : ∀ i j, i < (evF 0 p).length → j < (evF 0 p).length → f i < f j → i < j := by
  intro i j hi hj h
  rcases Nat.lt_trichotomy i j with h1 | h1 | h1
  ·exact h1
  ·rw [h1] at h; omega
  ·have := mono j i h1 hi; omega
 have hemb : Emb (scene p).ds (scene q).ds f := by
  have hn : (scene p).ds.length = (evF 0 p).length := by rw [ds_F, List.length_map]
  refine ⟨fun i j h1 h2 => mono i j h1 (by omega), fun i d hd => ?_, fun i d hd h3 => ?_⟩
  ·obtain ⟨x, hx⟩ := F_at (p := p) (i := i) (by rw [← scene_n]; exact (List.getElem?_eq_some_iff.1 hd).1)
   obtain ⟨y, hy, hl⟩ := hs i x hx
   have e1 := (F_get hx).2.1
   rw [hd] at e1; cases e1
   exact ⟨y.d, (F_get hy).2.1, hl.s⟩
  ·obtain ⟨k1, ⟨d', k2, k3⟩, k4⟩ := lastRd_spec (scene_copy okp i d hd h3)
   have hi : i < (evF 0 p).length := by rw [← hn]; exact (List.getElem?_eq_some_iff.1 hd).1
   obtain ⟨x, hx⟩ := F_at (p := p) (i := lastRd (scene p).ds i) (by omega)
   obtain ⟨y, hy, hl⟩ := hs _ x hx
   have e1 := (F_get hx).2.1
   rw [k2] at e1
   have e1 := Option.some.inj e1
   refine lastRd_of (mono _ _ k1 hi) (F_get hy).2.1 (by rw [hl.s.r, ← e1]; exact k3) fun j d2 h1 h2 h4 => ?_
   cases hr : d2.reads
   ·rfl
   obtain ⟨z, hz⟩ := F_at (p := q) (i := j) (by rw [← scene_n]; exact (List.getElem?_eq_some_iff.1 h4).1)
   have e2 := (F_get hz).2.1
   rw [h4] at e2
   have e2 := Option.some.inj e2
   by_cases hj : ∃ i, i < (evF 0 p).length ∧ f i = j
   ·obtain ⟨i', hi', rfl⟩ := hj
    have m1 := hlt _ _ (by omega) hi' h1
    have m2 := hlt _ _ hi' hi h2
    obtain ⟨x', hx'⟩ := F_at (p := p) (i := i') (by omega)
    obtain ⟨y', hy', hl'⟩ := hs _ x' hx'
    rw [hz] at hy'; cases hy'
    have := k4 i' _ m1 m2 (F_get hx').2.1
    rw [← hl'.s.r, ← e2, hr] at this; cases this
   ·have := hrd j z hz hj (by rw [← e2]; exact hr) i hi
    omega
 have kk : ∀ i, i < (events p).length → ∃ x y, (evF 0 p)[i]? = some x ∧ (evF 0 q)[f i]? = some y ∧ Alk x y := by
  intro i hi
  obtain ⟨x, hx⟩ := F_at hi
  obtain ⟨y, hy, hl⟩ := hs i x hx
  exact ⟨x, y, hx, hy, hl⟩
 refine ⟨okp, okq, hemb, fun a b ha hb => ?_, fun i hi => ?_, fun i hi => ?_, fun a b j ha hb hth h1 h2 hj => ?_, fun i hi => ?_, fun e he hl => ?_⟩
 ·obtain ⟨x, y, h1, h2, h3⟩ := kk a ha
  obtain ⟨x', y', h1', h2', h3'⟩ := kk b hb
  rw [(F_get h1).2.2.1, (F_get h2).2.2.1, (F_get h1').2.2.1, (F_get h2').2.2.1, h3.t, h3'.t]
 ·obtain ⟨x, y, h1, h2, h3⟩ := kk i hi
  rw [(F_get h1).2.2.2.2.2, (F_get h2).2.2.2.2.2]; exact h3.k7
 ·obtain ⟨x, y, h1, h2, h3⟩ := kk i hi
  rw [(F_get h1).2.2.2.2.2, (F_get h2).2.2.2.2.2]; exact h3.k8
 ·obtain ⟨x, y, a1, a2, a3⟩ := kk a ha
  obtain ⟨x', y', b1, b2, b3⟩ := kk b hb
  have hjl : j < (events q).length := by have := (F_get b2).1; omega
  obtain ⟨z, hz⟩ := F_at hjl
  by_cases hex : ∃ i, i < (evF 0 p).length ∧ f i = j
  ·obtain ⟨i, hi, rfl⟩ := hex
   exact ⟨i, hlt _ _ (by omega) hi h1, hlt _ _ hi (by omega) h2, rfl⟩
  ·have t1 := th_le (p := q) (a := f a) (b := j) (by omega) hjl
   have t2 := th_le (p := q) (a := j) (b := f b) (by omega) (F_get b2).1
   rw [(F_get a2).2.2.1, (F_get hz).2.2.1] at t1
   rw [(F_get b2).2.2.1, (F_get hz).2.2.1] at t2
   rw [(F_get a1).2.2.1, (F_get b1).2.2.1] at hth
   have := a3.t
   have := b3.t
   rw [(F_get hz).2.2.2.2.2] at hj
   rcases hio j z hz hex hj with h | h
   ·have := h a x a1 (by omega); omega
   ·have := h b x' b1 (by omega); omega
 ·obtain ⟨x, y, h1, h2, h3⟩ := kk i hi
  rw [(F_get h1).2.2.2.1, (F_get h2).2.2.2.1, h3.l]
 ·obtain ⟨x, y, h1, h2, h3⟩ := kk (e + 1) he
  have hl2 : ltA (events q) (f (e + 1)) = true := by rw [(F_get h2).2.2.2.1, h3.l, ← (F_get h1).2.2.2.1]; exact hl
  obtain ⟨w, hw, hw9, hwl⟩ := wait_prev (F_get h2).1 hl2
  have hm := mono e (e + 1) (by omega) (by omega)
  rcases Nat.lt_or_ge (f e) w with hh | hh
  ·have hwq : w < (events q).length := by have := (F_get h2).1; omega
   obtain ⟨z, hz⟩ := F_at hwq
   have hno : ¬ ∃ i, i < (evF 0 p).length ∧ f i = w := by
    rintro ⟨i, hi, hiw⟩
    have m1 := hlt e i (by omega) hi (by omega)
    have m2 := hlt i (e + 1) hi (by omega) (by omega)
    omega
   rw [(F_get hz).2.2.2.2.2] at hw9
   rw [(F_get hz).2.2.2.1] at hwl
   rcases hwt w z hz hno with h | h
   ·exact absurd hw9 h
   ·rw [h] at hwl; cases hwl
  ·omega
def Em (R : Fra → Fra → Prop) (N : Fra → Prop) (F G : List Fra) (f : Nat → Nat) : Prop :=
 (∀ i j, i < j → j < F.length → f i < f j) ∧ (∀ i x, F[i]? = some x → ∃ y, G[f i]? = some y ∧ R x y) ∧ ∀ j y, G[j]? = some y → (∃ i, i < F.length ∧ f i = j) ∨ N y
theorem Em.nil {R : Fra → Fra → Prop} {N : Fra → Prop} : Em R N [] [] (fun i => i) := ⟨fun i j h h2 => by simp at h2, fun i x h => by simp at h, fun j y h => by simp at h⟩
theorem Em.cons {R : Fra → Fra → Prop} {N : Fra → Prop} {F G : List Fra} {f : Nat → Nat} {x y : Fra} (h : Em R N F G f) (hxy : R x y) : Em R N (x :: F) (y :: G) (fun i => if i = 0 then 0 else f (i - 1) + 1) := by
 obtain ⟨h1, h2, h3⟩ := h
 refine ⟨fun i j hij hj => ?_, fun i z hz => ?_, fun j z hz => ?_⟩
 ·simp only [List.length_cons] at hj
  have hj0 : j ≠ 0 := by omega
  simp only [hj0, if_false]
  by_cases hi : i = 0
  ·simp [hi]
  ·simp only [hi, if_false]
   have := h1 (i - 1) (j - 1) (by omega) (by omega)
   omega
 ·cases i with
  | zero => simp at hz; subst hz; exact ⟨y, rfl, hxy⟩
  | succ i =>
   simp at hz
   obtain ⟨w, hw, hr⟩ := h2 i z hz
   exact ⟨w, by simpa using hw, hr⟩
 ·cases j with
  | zero => exact .inl ⟨0, by simp, by simp⟩
  | succ j =>
   simp at hz
   rcases h3 j z hz with ⟨i, hi, hij⟩ | hn
   ·exact .inl ⟨i + 1, by simpa using hi, by simp [hij]⟩
   ·exact .inr hn
theorem Em.new {R : Fra → Fra → Prop} {N : Fra → Prop} {F G : List Fra} {f : Nat → Nat} {y : Fra} (h : Em R N F G f) (hy : N y) : Em R N F (y :: G) (fun i => f i + 1) := by
 obtain ⟨h1, h2, h3⟩ := h
 refine ⟨fun i j hij hj => ?_, fun i z hz => ?_, fun j z hz => ?_⟩
 ·have := h1 i j hij hj
  dsimp only; omega
 ·obtain ⟨w, hw, hr⟩ := h2 i z hz
  exact ⟨w, by simpa using hw, hr⟩
 ·cases j with
  | zero => simp at hz; subst hz; exact .inr hy
  | succ j =>
   simp at hz
   rcases h3 j z hz with ⟨i, hi, hij⟩ | hn
   ·exact .inl ⟨i, hi, by dsimp only; omega⟩
   ·exact .inr hn
theorem Em.same {R : Fra → Fra → Prop} {N : Fra → Prop} {F G : List Fra} (hR : ∀ x, R x x) : ∀ (A : List Fra), (∃ f, Em R N F G f) → ∃ f, Em R N (A ++ F) (A ++ G) f
 | [], h => h
 | x :: A, h => by
  obtain ⟨f, hf⟩ := Em.same hR A h
  exact ⟨_, hf.cons (hR x)⟩
end
section
open Go.RowKit
theorem places {p : Prog} (h : progOk p = true) : ∀ d ∈ (scene p).ds, d.uses = true → 0 ≤ d.p ∧ d.p < 3 := fun d hd hu => by
 have := formed_place (scene_formed h d hd) hu; omega
def KLe (x y : Fra) : Prop := (wallB x.d = true → wallB y.d = true) ∧ (x.d.k = 5 → y.d.k = 5) ∧ (x.d.k = 6 → y.d.k = 6)
theorem PEk.of {p q : Prog} {f : Nat → Nat} (h : ∀ i x, (evF 0 p)[i]? = some x → ∃ y, (evF 0 q)[f i]? = some y ∧ KLe x y) : PEk p q f := by
 have key : ∀ i, i < (events p).length → ∃ x y, dsA p i = x.d ∧ dsA q (f i) = y.d ∧ KLe x y := by
  intro i hi
  obtain ⟨x, hx⟩ := F_at hi
  obtain ⟨y, hy, hl⟩ := h i x hx
  exact ⟨x, y, (F_get hx).2.2.2.2.1, (F_get hy).2.2.2.2.1, hl⟩
 exact ⟨fun i hi => by obtain ⟨x, y, h1, h2, h3⟩ := key i hi; rw [h1, h2]; exact h3.1, fun i hi => by obtain ⟨x, y, h1, h2, h3⟩ := key i hi; rw [h1, h2]; exact h3.2.1, fun i hi => by obtain ⟨x, y, h1, h2, h3⟩ := key i hi; rw [h1, h2]; exact h3.2.2⟩
theorem PEk'.of {p q : Prog} {f : Nat → Nat} (h : ∀ i x, (evF 0 p)[i]? = some x → ∃ y, (evF 0 q)[f i]? = some y ∧ KLe y x) : PEk' p q f := by
 have key : ∀ i, i < (events p).length → ∃ x y, dsA p i = x.d ∧ dsA q (f i) = y.d ∧ KLe y x := by
  intro i hi
  obtain ⟨x, hx⟩ := F_at hi
  obtain ⟨y, hy, hl⟩ := h i x hx
  exact ⟨x, y, (F_get hx).2.2.2.2.1, (F_get hy).2.2.2.2.1, hl⟩
 exact ⟨fun i hi => by obtain ⟨x, y, h1, h2, h3⟩ := key i hi; rw [h1, h2]; exact h3.1, fun i hi => by obtain ⟨x, y, h1, h2, h3⟩ := key i hi; rw [h1, h2]; exact h3.2.1, fun i hi => by obtain ⟨x, y, h1, h2, h3⟩ := key i hi; rw [h1, h2]; exact h3.2.2⟩
theorem KLe.refl (x : Fra) : KLe x x := ⟨id, id, id⟩
structure Swp (d d' : Do) : Prop where
 s : Sim d d'
 k : (d.k = 2 ∧ d'.k = 5) ∨ (d.k = 1 ∧ d'.k = 6)
theorem Swp.of {d : Do} {to : Int} (h : (d.k = 2 ∧ to = 5) ∨ (d.k = 1 ∧ to = 6)) : Swp d ⟨to, d.p, d.v⟩ := by
 rcases h with ⟨h1, rfl⟩ | ⟨h1, rfl⟩
 ·exact ⟨⟨by simp [Do.reads, h1], by simp [Do.writes, h1], rfl, rfl, by simp [h1]⟩, .inl ⟨h1, rfl⟩⟩
 ·exact ⟨⟨by simp [Do.reads, h1], by simp [Do.writes, h1], rfl, rfl, by simp [h1]⟩, .inr ⟨h1, rfl⟩⟩
theorem Swp.formed {d d' : Do} (h : Swp d d') : d'.formed = d.formed := by
 have h1 := h.s.uses
 have h2 := h.s.valued
 have e1 : inB d'.k 1 9 = true := by rcases h.k with ⟨_, h⟩ | ⟨_, h⟩ <;> rw [h] <;> rfl
 have e2 : inB d.k 1 9 = true := by rcases h.k with ⟨h, _⟩ | ⟨h, _⟩ <;> rw [h] <;> rfl
 rw [Do.formed, Do.formed, h1, h2, h.s.p, h.s.v, e1, e2]
theorem Swp.wrong {d d' : Do} (h : Swp d d') (r i : Bool) : d'.wrong r i = d.wrong r i := by
 rw [Do.wrong, Do.wrong]
 rcases h.k with ⟨h1, h2⟩ | ⟨h1, h2⟩ <;> simp [h1, h2]
theorem Swp.thr {d d' : Do} (h : Swp d d') {l2 : List Do} : ∀ {l1 : List Do} {r i : Bool}, thrGo (l1 ++ d' :: l2) r i = thrGo (l1 ++ d :: l2) r i
 | [], r, i => by
  rw [List.nil_append, List.nil_append, thrGo, thrGo, h.formed, h.wrong, h.s.r]
  have e1 : (d'.k == 7) = (d.k == 7) := by rcases h.k with ⟨h1, h2⟩ | ⟨h1, h2⟩ <;> simp [h1, h2]
  have e2 : (d'.k == 8) = (d.k == 8) := by rcases h.k with ⟨h1, h2⟩ | ⟨h1, h2⟩ <;> simp [h1, h2]
  rw [e1, e2]
 | a :: l1, r, i => by
  rw [List.cons_append, List.cons_append, thrGo, thrGo, Swp.thr h]
theorem Swp.ok {d d' : Do} (h : Swp d d') {p1 p2 : Prog} {l1 l2 : List Do} : progOk (p1 ++ (l1 ++ d' :: l2) :: p2) = progOk (p1 ++ (l1 ++ d :: l2) :: p2) := by
 have e1 : threadOk (l1 ++ d' :: l2) = threadOk (l1 ++ d :: l2) := by rw [threadOk, threadOk, h.thr]; simp
 have e2 : usesOf (l1 ++ d' :: l2) = usesOf (l1 ++ d :: l2) := by
  simp only [usesOf, List.filter_append, List.filter_cons, h.s.uses]
  split <;> simp
 have e3 : (l1 ++ d' :: l2).length = (l1 ++ d :: l2).length := by simp
 simp only [progOk, List.all_append, List.all_cons, stepsP, usesP, List.map_append, List.map_cons, e1, e2, e3, List.length_append, List.length_cons]
end
section
open Go.RowKit
theorem l71Kind_pl (bs : List Int) (hb : Bytes bs) (g p : Nat) (hp : p < 2 ^ 29) : Fr Tryz.prog 41 [] g (rdO bs g p)
  (fun r o' => (∃ v : Int, r = .int .i64 v) ∧ ∃ q, p ≤ q ∧ q ≤ p + 2 ∧ o' = rdO bs g q) := by
 refine Fc.start (S := []) Tryz.func41 Tryz.ntmps41 Tryz.results41 rfl (by decide) rfl (by kernel_rfl) ?_
 simp (disch := omega) only [push_cast, go_sem, zA, simprocAttr]
 refine callR.rd (pick_rd bs hb g p (by omega) 24 (by omega)) rfl rfl rfl ?_
 rintro r o' ⟨v, rfl, hv0, hv1, _, rfl⟩
 simp (disch := omega) only [push_cast, go_sem, zA, simprocAttr]
 refine ⟨fun hv g1 => ?_, fun hv => ?_⟩
 ·refine callR.rd (pick_rd bs hb g (p + 1) (by omega) 3 (by omega)) rfl rfl rfl ?_
  rintro r o' ⟨u, rfl, hu0, hu1, _, rfl⟩
  have hu : u < 3 := hu1 (by omega)
  obtain ⟨n, rfl⟩ := Int.eq_ofNat_of_zero_le hu0
  obtain ⟨z, hz⟩ := ints_get (l := [.int .i64 0, .int .i64 4, .int .i64 (-1)]) (n := n) rfl (by simp; omega)
  simp (disch := omega) only [push_cast, go_sem, zA, simprocAttr, hz]
  refine ⟨by omega, _, Sub.set Sub.no rfl, _, ⟨⟨_, rfl⟩, p + 1 + 1, by omega, by omega, rfl⟩, rfl⟩
 ·refine callR.rd (pick_rd bs hb g (p + 1) (by omega) 3 (by omega)) rfl rfl rfl ?_
  rintro r o' ⟨u, rfl, hu0, hu1, _, rfl⟩
  simp (disch := omega) only [push_cast, go_sem, zA, simprocAttr]
  exact ⟨_, Sub.rfl, _, ⟨⟨_, rfl⟩, p + 1 + 1, by omega, by omega, rfl⟩, rfl⟩
end
section
open Go.RowKit
theorem specOrderAll_fn (p : Prog) (kind : Int) (hp : p.length < 2 ^ 40) : Fp Tryz.prog 31 [progV p, .int .i64 kind] (.sl ((ordAll p kind).map Sn.V)) := by
 have h1 := specAllF_fn p hp
 have h2 := l13All_fn p kind hp
 rw [progV_eq] at h1 h2
 refine Fc.start (S := []) Tryz.func31 Tryz.ntmps31 Tryz.results31 rfl (by decide) rfl (by kernel_rfl) ?_
 simp (disch := omega) only [push_cast, go_sem, zA, simprocAttr, progV_eq]
 intro g2
 refine Sat.drawnE [] [] (List.range 6) (pureT [(43, .sl ((specAll p).map Exe.V)), (68, .sl ((ordAll p kind).map Sn.V))]) (by kernel_rfl) (by kernel_rfl) ?_
 simp (disch := omega) only [push_cast, go_sem, zA, simprocAttr]
 refine runD_pure rfl h1 rfl rfl ?_ ?_
 ·rfl
 simp (disch := omega) only [push_cast, go_sem, zA, simprocAttr]
 refine runD_pure rfl h2 rfl rfl ?_ ?_
 ·rfl
 simp (disch := omega) only [push_cast, go_sem, zA, simprocAttr]
theorem ord_small {p : Prog} {kind : Int} : ∀ t ∈ ordAll p kind, t.small := by
 rw [ordAll]
 split
 ·exact acc_small (p := p) (kind := kind) (l := specAll p) fun x hx => all_ok (p := p) (x := x) (by rw [all_eq]; exact hx)
 ·exact fun t ht => by cases ht
theorem ord_len (p : Prog) (kind : Int) : (ordAll p kind).length < 2 ^ 30 := by
 rw [ordAll]
 split
 ·have := acc_len p kind (specAll p)
  have := specAll_le p
  rw [accS] at *; omega
 ·simp
end
section
open Go.RowKit
end
section
open Go.RowKit
end
section
open Go.RowKit
end
section
open Go.RowKit
theorem list_eq_drop {α : Type} [BEq α] [LawfulBEq α] {a b : List α} {k : Nat} (hl : a.length = b.length) (h : ∀ (j : Nat) (x y : α), j < k → a[j]? = some x → b[j]? = some y → (x == y) = true) (hk : a.length ≤ k) : a = b := by
 apply List.ext_getElem hl
 intro j h1 h2
 exact beq_iff_eq.1 (h j _ _ (by omega) (List.getElem?_eq_getElem h1) (List.getElem?_eq_getElem h2))
theorem list_ne_at {α : Type} {a b : List α} {k : Nat} {x y : α} (hx : a[k]? = some x) (hy : b[k]? = some y) (h : x ≠ y) : a ≠ b := fun e => by
 rw [e, hy] at hx; cases hx; exact h rfl
theorem lpInts_fn (a b : List Int) (ha : a.length < 2 ^ 40) (hb : b.length < 2 ^ 40) : Fp Tryz.prog 53 [intsV a, intsV b] (.bool (decide (a = b))) := by
  refine Fc.start (S := [8]) Tryz.func53 Tryz.ntmps53 Tryz.results53 rfl (by decide) rfl (by kernel_rfl) ?_
  cases hl : ((a.length : Int) != b.length)
  rotate_left
  · simp (disch := omega) only [push_cast, go_sem, zA, simprocAttr, intsV_eq, hl]
    have : ¬ a = b := fun h => by rw [h] at hl; simp at hl
    simp [this]
  have hl' : a.length = b.length := by have : (a.length : Int) = b.length := by simpa using hl
                                       omega
  simp (disch := omega) only [push_cast, go_sem, zA, simprocAttr, intsV_eq, hl]
  refine Sat.loop (σ := Nat) (fun k => upd (upd (upd noT 0 (.sl (a.map (V.int .i64)))) 1 (.sl (b.map (V.int .i64)))) 5 (.int .i64 k)) (fun _ => noM)
    (fun k => k ≤ a.length ∧ ∀ (j : Nat) (x y : Int), j < k → a[j]? = some x → b[j]? = some y → (x == y) = true) (fun k => a.length - k) 0 (by simp) ?_ ?_
  · (refine zB ?_; repeat (first | exact zC | exact zD | refine zE (by decide) ?_ | refine zF ?_ ?_ | refine zG ?_ ?_)) <;> (try simp (disch := omega) only [push_cast, go_sem, zA, simprocAttr])
  rintro k ⟨hk, hall⟩ J hJ
  refine Sat.of (S := []) (by kernel_rfl) ?_
  rcases Nat.lt_or_ge k a.length with hlt | hge
  · obtain ⟨x, hx⟩ : ∃ x, a[k]? = some x := ⟨_, List.getElem?_eq_getElem hlt⟩
    have hltb : k < b.length := by omega
    obtain ⟨y, hy⟩ : ∃ y, b[k]? = some y := ⟨_, List.getElem?_eq_getElem hltb⟩
    cases hne : (x != y)
    · simp (disch := omega) only [push_cast, go_sem, zA, simprocAttr, hlt]
      refine Sat.drawnE [] [] [3, 7] (fun _ _ _ => none) (by kernel_rfl) (by kernel_rfl) ?_
      simp (disch := omega) only [push_cast, go_sem, zA, simprocAttr, hx, hy, hlt, hltb, hne]
      refine hJ (k + 1) _ _ ⟨by omega, fun j x' y' hj h1 h2 => ?_⟩ (by omega) ?_
      · rcases Nat.lt_or_ge j k with h | h
        · exact hall j x' y' h h1 h2
        · have : j = k := by omega
          subst this; rw [hx] at h1; rw [hy] at h2; cases h1; cases h2
          simpa only [bne, Bool.not_eq_false'] using hne
      · (refine zB ?_; repeat (first | exact zC | exact zD | refine zE (by decide) ?_ | refine zF ?_ ?_ | refine zG ?_ ?_)) <;> (try simp (disch := omega) only [push_cast, go_sem, zA, simprocAttr])
    · simp (disch := omega) only [push_cast, go_sem, zA, simprocAttr, hlt]
      refine Sat.drawnE [] [] [3, 7] (fun _ _ _ => none) (by kernel_rfl) (by kernel_rfl) ?_
      simp (disch := omega) only [push_cast, go_sem, zA, simprocAttr, hx, hy, hlt, hltb, hne]
      have : ¬ a = b := list_ne_at hx hy (by simpa using hne)
      simp [this]
  · have hkl : k = a.length := by omega
    subst hkl
    simp (disch := omega) only [push_cast, go_sem, zA, simprocAttr]
    refine Sat.of (S := []) (by kernel_rfl) ?_
    simp (disch := omega) only [push_cast, go_sem, zA, simprocAttr]
    have : a = b := list_eq_drop hl' hall (Nat.le_refl _)
    simp [this]
instance : DecidableEq Exe := fun x y => decidable_of_iff (x.fr = y.fr ∧ x.od = y.od) (by cases x; cases y; simp)
end
section
open Go.RowKit
end
section
open Go.RowKit
theorem lpSame_fn (s t : Sn) (hs : s.small) (ht : t.small) : Fp Tryz.prog 20 [s.V, t.V] (.bool (decide (s = t))) := by
 have h1 := lpInts_fn s.rd t.rd hs.rd ht.rd
 have h2 := lpInts_fn s.ls t.ls hs.ls ht.ls
 have hst : decide (s = t) = (decide (s.rd = t.rd) && decide (s.ls = t.ls)) := by
  obtain ⟨a, b⟩ := s
  obtain ⟨c, d⟩ := t
  rw [Bool.eq_iff_iff]; simp
 rw [hst]
 rw [intsV_eq, intsV_eq] at h1 h2
 refine Fc.start (S := []) Tryz.func20 Tryz.ntmps20 Tryz.results20 rfl (by decide) rfl (by kernel_rfl) ?_
 simp (disch := omega) only [push_cast, go_sem, zA, simprocAttr, Sn.V_eq]
 intro g2 g3
 refine callR.pure h1 rfl rfl ?_
 cases decide (s.rd = t.rd)
 ·simp (disch := omega) only [push_cast, go_sem, zA, simprocAttr]
 ·simp (disch := omega) only [push_cast, go_sem, zA, simprocAttr]
  refine callR.pure h2 rfl rfl ?_
  simp (disch := omega) only [push_cast, go_sem, zA, simprocAttr]
end
end Go.Proofs.YtfbgabkcjjahiaaGreatDoor
