/-
 Contracts and plain laws.
-/
import Derived.Test.YtkdolbffabmemaaGreatDoorLc
import Derived.Test.YtkdolbffabmemaaGreatDoorLf
import Derived.Test.YtkdolbffabmemaaGreatDoorLk
set_option linter.unusedSimpArgs false
set_option linter.unusedVariables false
set_option linter.unusedSectionVars false
namespace Go.Proofs.YtkdolbffabmemaaGreatDoor
section
open Go.RowKit
end
section
open Go.RowKit
theorem net_wall {p : Prog} {x : Exe} {k : Int} (hk : inB k 1 3 = true) {a b : Nat} (ho : ownB (events p) a b = true) (hw : wallB (dsA p a) = true ∨ wallB (dsA p b) = true) : netR p x k a b = true := by
 have nouse : ∀ d : Do, wallB d = true → d.writes = false ∧ d.reads = false := by
  intro d h
  simp only [wallB, Bool.or_eq_true, beq_iff_eq] at h
  rcases h with h | h <;> simp [Do.writes, Do.reads, h]
 rw [netR, Bool.or_eq_true]
 left
 have hk' : k = 1 ∨ k = 2 ∨ k = 3 := by simp [inB] at hk; omega
 rcases hk' with rfl | rfl | rfl
 ·exact ho
 ·show (ownB (events p) a b && !((dsA p a).writes && (dsA p b).reads)) = true
  rw [ho]
  rcases hw with h | h
  ·rw [(nouse _ h).1]; rfl
  ·rw [(nouse _ h).2]; simp
 ·show looseS p a b = true
  rw [looseS, ho]
  rcases hw with h | h <;> simp [h]
section
variable {A B : List Fra} {p q : Prog} {t : Int} {d : Do}
end
end
section
open Go.RowKit
def wallD : Do := ⟨4, 0, 0⟩
inductive WI : List Do → List Do → Prop
 | nil : WI [] []
 | keep {l l' : List Do} (d : Do) : WI l l' → WI (d :: l) (d :: l')
 | wall {l l' : List Do} : WI l l' → WI l (wallD :: l')
theorem WI.app {a a' b b' : List Do} (h : WI a a') (h' : WI b b') : WI (a ++ b) (a' ++ b') := by
 induction h with
 | nil => exact h'
 | keep d _ ih => exact .keep d ih
 | wall _ ih => exact .wall ih
theorem WI.len {l l' : List Do} (h : WI l l') : l.length ≤ l'.length := by
 induction h with
 | nil => simp
 | keep d _ ih => simp; omega
 | wall _ ih => simp; omega
inductive WIp : Prog → Prog → Prop
 | nil : WIp [] []
 | cons {l l' : List Do} {p q : Prog} : WI l l' → WIp p q → WIp (l :: p) (l' :: q)
theorem WIp.app {a a' b b' : Prog} (h : WIp a a') (h' : WIp b b') : WIp (a ++ b) (a' ++ b') := by
 induction h with
 | nil => exact h'
 | cons h _ ih => exact .cons h ih
def isW (y : Fra) : Prop := y.d = wallD
theorem WI.em {t : Nat} {l l' : List Do} (h : WI l l') {X Y : List Fra} (hx : ∃ f, Em (fun x y => y = x) isW X Y f) : ∃ f, Em (fun x y => y = x) isW (thF t l ++ X) (thF t l' ++ Y) f := by
 induction h with
 | nil => exact hx
 | keep d _ ih =>
  rw [thF_cons, thF_cons, List.append_assoc, List.append_assoc]
  exact Em.same (R := fun x y => y = x) (fun _ => rfl) _ ih
 | wall _ ih =>
  obtain ⟨f, hf⟩ := ih
  rw [thF_cons]
  exact ⟨_, hf.new (y := ⟨t, wallD, false⟩) rfl⟩
theorem WIp.em {p q : Prog} (h : WIp p q) : ∀ t, ∃ f, Em (fun x y => y = x) isW (evF t p) (evF t q) f := by
 induction h with
 | nil => intro t; exact ⟨_, Em.nil⟩
 | cons h _ ih =>
  intro t
  rw [evF, evF]
  exact h.em (ih (t + 1))
section
variable {p q : Prog} {f : Nat → Nat}
theorem em_alk (h : Em (fun x y => y = x) isW (evF 0 p) (evF 0 q) f) : Em Alk isW (evF 0 p) (evF 0 q) f :=
 ⟨h.1, fun i x hx => by obtain ⟨y, h1, h2⟩ := h.2.1 i x hx; exact ⟨y, h1, by rw [h2]; exact Alk.refl x⟩, h.2.2⟩
theorem isW_facts {y : Fra} (h : isW y) : y.d.uses = false ∧ y.d.k ≠ 7 ∧ y.d.k ≠ 8 ∧ (y.d.k ≠ 9 ∨ y.l = true) := by
 rw [isW] at h
 rw [h]
 exact ⟨rfl, by decide, by decide, .inl (by decide)⟩
theorem em_pe (okp : progOk p = true) (okq : progOk q = true) (h : Em (fun x y => y = x) isW (evF 0 p) (evF 0 q) f) : PE p q f := PE.ofEm okp okq (em_alk h) fun y hy => isW_facts hy
theorem em_pek (h : Em (fun x y => y = x) isW (evF 0 p) (evF 0 q) f) : PEk p q f := PEk.of fun i x hx => by
 obtain ⟨y, h1, h2⟩ := h.2.1 i x hx
 exact ⟨y, h1, by rw [h2]; exact KLe.refl x⟩
theorem em_hnu (h : Em (fun x y => y = x) isW (evF 0 p) (evF 0 q) f) : ∀ j, j < (events q).length → (∃ i, i < (events p).length ∧ f i = j) ∨ (dsA q j).uses = false := (em_alk h).hnu fun y hy => (isW_facts hy).1
def Wld (l : List Do) : Prop := ∀ (j : Nat) (d e : Do), l[j]? = some d → l[j + 1]? = some e → d.k = 4 ∨ e.k = 4
theorem walled_next (hw : ∀ l ∈ q, Wld l) {a b : Nat} (hb : b < (events q).length) (ho : ownB (events q) a b = true) (na : wallB (dsA q a) = false) : wallB (dsA q (a + 1)) = true ∧ ownB (events q) a (a + 1) = true ∧ (a + 1 = b ∨ ownB (events q) (a + 1) b = true) := by
 obtain ⟨h1, h2⟩ := own_iff.1 ho
 have ha : a < (events q).length := by omega
 have ha1 : a + 1 < (events q).length := by omega
 have t1 := th_le (p := q) (a := a) (b := a + 1) (by omega) ha1
 have t2 := th_le (p := q) (a := a + 1) (b := b) (by omega) hb
 obtain ⟨i, l, j, d, e1⟩ := At.of (List.getElem?_eq_getElem ha)
 obtain ⟨i', l', j', d', e2⟩ := At.of (List.getElem?_eq_getElem ha1)
 have ht : th (events q) a = th (events q) (a + 1) := by omega
 have hi := ht
 rw [e1.th, e2.th] at hi
 have hi : i' = i := by omega
 subst hi
 have hl : l' = l := Option.some.inj (e2.pl.symm.trans e1.pl)
 subst hl
 have hlt := events_lt e1.ev e2.ev (by omega)
 simp only [Evt.lt, e1.t, e2.t, e1.s, e2.s] at hlt
 have hdk : d.k ≠ 4 ∧ d.k ≠ 9 := by
  rw [at_ds e1] at na
  simp only [wallB, Bool.or_eq_false_iff, beq_eq_false_iff_ne] at na
  exact na
 have hjj : j < j' := by
  rcases hlt with h | ⟨_, h | ⟨h, h3⟩⟩
  ·omega
  ·omega
  ·have : j = j' := by omega
   subst this
   have : d = d' := Option.some.inj (e1.ld.symm.trans e2.ld)
   subst this
   exact absurd (e2.late h3) hdk.2
 have hj1 : j' = j + 1 := by
  rcases Nat.lt_or_ge (j + 1) j' with h | h
  ·exfalso
   have hjl : j + 1 < l'.length := by have := (List.getElem?_eq_some_iff.1 e2.ld).1; omega
   have hm := At.mk' e1.pl (List.getElem?_eq_getElem hjl)
   have m1 := e1.ord hm (by omega)
   have m2 := hm.ord e2 h
   omega
  ·omega
 subst hj1
 have hwl := hw l' (List.mem_of_getElem? e1.pl) j d d' e1.ld e2.ld
 refine ⟨?_, own_iff.2 ⟨by omega, ht⟩, ?_⟩
 ·rw [at_ds e2]
  have : d'.k = 4 := hwl.resolve_left hdk.1
  simp [wallB, this]
 ·rcases Nat.lt_or_ge (a + 1) b with h | h
  ·exact .inr (own_iff.2 ⟨h, by omega⟩)
  ·exact .inl (by omega)
theorem wall_strict (hw : WIp p q) (okp : progOk p = true) (okq : progOk q = true) (hall : ∀ l ∈ q, Wld l) {k : Int} (hk : inB k 1 3 = true) : ordAll q k = ordAll p 1 := by
 obtain ⟨f, hf⟩ := hw.em 0
 have h := em_pe okp okq hf
 have pek := em_pek hf
 have hnu := em_hnu hf
 have same : ∀ a, a < (events p).length → dsA q (f a) = dsA p a := by
  intro a ha
  obtain ⟨x, hx⟩ := F_at ha
  obtain ⟨y, h1, h2⟩ := hf.2.1 a x hx
  rw [(F_get hx).2.2.2.2.1, (F_get h1).2.2.2.2.1, h2]
 refine ord_ext fun s => ⟨fun hs => ?_, fun hs => ?_⟩
 ·refine less_of h hnu rfl (fun x y hx hy m hh => ?_) hs
  have hpl : Rkd (events p).length fun a b => netR p x 0 a b = true := hh.pl.pull (fun a => h.lt) fun a b ha hb hn => .inl (h.net_le pek m hx ha hb hn)
  refine ⟨hpl, ?_⟩
  obtain ⟨r, hr⟩ := hpl
  obtain ⟨σ, hs⟩ := hh.ex
  refine ⟨fun e i => σ (f e) (f i), hs.pull (fun a => h.lt) fun a b ha hb hn => ?_⟩
  have viaown : ownB (events p) a b = true → (netR q y k (f a) (f b) = true ∨ AddR q σ (f a) (f b)) ∨ ∃ v, v < (events q).length ∧ (netR q y k (f a) v = true ∨ AddR q σ (f a) v) ∧ (netR q y k v (f b) = true ∨ AddR q σ v (f b)) := by
   intro ho
   have hoq : ownB (events q) (f a) (f b) = true := by rw [h.own ha hb]; exact ho
   cases hwa : wallB (dsA q (f a))
   ·obtain ⟨w1, w2, w3⟩ := walled_next hall (h.lt hb) hoq hwa
    rcases w3 with w3 | w3
    ·rw [w3] at w1 w2
     exact .inl (.inl (net_wall hk w2 (.inr w1)))
    ·refine .inr ⟨f a + 1, ?_, .inl (net_wall hk w2 (.inr w1)), .inl (net_wall hk w3 (.inl w1))⟩
     have := (own_iff.1 w3).1
     have := h.lt hb
     omega
   ·exact .inl (.inl (net_wall hk hoq (.inl hwa)))
  rcases hn with hn | hn
  ·rw [netR, Bool.or_eq_true] at hn
   rcases hn with hn | hn
   ·exact viaown hn
   ·obtain ⟨ua, ub, hro⟩ := told_uses hn
    by_cases hap : apartS p a b = true
    ·refine .inl (.inl ?_)
     rw [netR, Bool.or_eq_true]
     right
     rw [h.told m hx ha hb]
     have hk' : k = 1 ∨ k = 2 ∨ k = 3 := by simp [inB] at hk; omega
     rcases hk' with rfl | rfl | rfl
     ·show (readS p x a b || overS p x a b) = true
      rw [Bool.or_eq_true]; exact hro
     ·show ((apartS p a b && readS p x a b) || overS p x a b) = true
      rw [hap, Bool.true_and, Bool.or_eq_true]; exact hro
     ·show (apartS p a b && (readS p x a b || overS p x a b)) = true
      rw [hap, Bool.true_and, Bool.or_eq_true]; exact hro
    ·have hth : th (events p) a = th (events p) b := by
      rw [apartS, bne_iff_ne] at hap
      exact Classical.not_not.1 hap
     have hsame : sameS p b a = true := by
      rcases hro with hro | hro
      ·simp only [readS, Bool.and_eq_true, beq_iff_eq] at hro
       obtain ⟨z, hz⟩ : ∃ z, x.fr[b]? = some z := ⟨_, List.getElem?_eq_getElem (by rw [hx.frl, scene_n]; exact hb)⟩
       rw [hz, Option.getD_some] at hro
       rcases hx.rd b _ z (ds_at hb) hz hro.1.2 with e1 | ⟨c, d', e1, e2, e3, e4⟩
       ·omega
       ·have : c = a := by omega
        subst this
        rw [ds_at ha] at e2
        cases e2
        rw [sameS, ua, ub, e4]; simp
      ·simp only [overS, Bool.and_eq_true] at hro
       have := hro.1.2
       simp only [sameS, Bool.and_eq_true, beq_iff_eq] at this ⊢
       exact ⟨⟨this.1.2, this.1.1⟩, this.2.symm⟩
     have r1 : r a < r b := by
      refine hr a b ha hb ?_
      show netR p x 0 a b = true
      rw [netR, Bool.or_eq_true]
      right
      show (readS p x a b || overS p x a b) = true
      rw [Bool.or_eq_true]; exact hro
     rcases Nat.lt_trichotomy a b with hab | hab | hab
     ·exact viaown (own_iff.2 ⟨hab, hth⟩)
     ·subst hab; omega
     ·exfalso
      have r2 : r b < r a := by
       refine hr b a hb ha ?_
       show netR p x 0 b a = true
       rw [netR, Bool.or_eq_true]
       left
       show (ownB (events p) b a && sameS p b a) = true
       rw [hsame, own_iff.2 ⟨hab, hth.symm⟩]; rfl
      omega
  ·exact .inl (.inr (h.add_le hn))
 ·have key : s ∈ ordAll q 1 := by
   refine more_of h hnu rfl (fun x y hx hy m hh => ?_) hs
   refine Hld.walls h m hx (fun e i hwi => ?_) hnu (fun a b ha hb hR => by rw [h.net_other m hx (by decide) ha hb] at hR; exact hR) (fun r hr a v b ha hb hv hnv o1 o2 => ?_) hh
   ·have old : ∀ j, j < (events q).length → kd (scene q).ds j ≠ 4 → ∃ i, i < (events p).length ∧ f i = j := by
     intro j hj h4
     obtain ⟨y, hy⟩ := F_at hj
     rcases hf.2.2 j y hy with h1 | h1
     ·rw [evF_len] at h1; exact h1
     ·rw [(F_get hy).2.2.2.2.2, h1] at h4
      exact absurd rfl h4
    exact ⟨old e hwi.el (by rw [late_k9' hwi.el hwi.late]; decide), old i hwi.il (by rw [hwi.k7]; decide)⟩
   ·refine hr a b ha hb ?_
    have o3 := own_tr o1 o2
    rw [h.own ha hb] at o3
    rw [netR, Bool.or_eq_true]
    exact .inl o3
  have hk' : k = 1 ∨ k = 2 ∨ k = 3 := by simp [inB] at hk; omega
  rcases hk' with rfl | rfl | rfl
  ·exact key
  ·exact ord_late key
  ·exact ord_loose (ord_late key)
end
def wlK (G : Int → Bool) (l : List Do) (a : Int) : Nat → List Do
 | 0 => []
 | k + 1 => wlK G l a k ++ (match l[k]? with | some d => d :: (if decide (k + 1 < l.length) && G (a + k) then [wallD] else []) | none => [])
def wlT (G : Int → Bool) (l : List Do) (a : Int) : List Do := wlK G l a l.length
def wlP (G : Int → Bool) : Prog → Int → Prog
 | [], _ => []
 | l :: p, a => wlT G l a :: wlP G p (a + ((l.length - 1 : Nat) : Int))
def gapsT (l : List Do) : Nat := l.length - 1
def gapsP (p : Prog) : Nat := (p.map gapsT).sum
theorem wlK_wi (G : Int → Bool) (l : List Do) (a : Int) : ∀ k, WI (l.take k) (wlK G l a k)
 | 0 => by rw [List.take_zero]; exact .nil
 | k + 1 => by
  have ih := wlK_wi G l a k
  rw [wlK]
  cases hd : l[k]? with
  | none =>
   have : l.length ≤ k := by rwa [List.getElem?_eq_none_iff] at hd
   rw [List.take_of_length_le (by omega)] at ih ⊢
   simpa using ih
  | some d =>
   rw [take_get hd]
   refine ih.app (.keep d ?_)
   split
   ·exact .wall .nil
   ·exact .nil
theorem wlT_wi (G : Int → Bool) (l : List Do) (a : Int) : WI l (wlT G l a) := by
 have := wlK_wi G l a l.length
 rwa [List.take_length] at this
theorem wlP_wi (G : Int → Bool) : ∀ (p : Prog) (a : Int), WIp p (wlP G p a)
 | [], _ => .nil
 | l :: p, a => .cons (wlT_wi G l a) (wlP_wi G p _)
theorem wlK_len (G : Int → Bool) (l : List Do) (a : Int) : ∀ k, (wlK G l a k).length ≤ 2 * k
 | 0 => by simp [wlK]
 | k + 1 => by
  have ih := wlK_len G l a k
  rw [wlK, List.length_append]
  have : (match l[k]? with | some d => d :: (if decide (k + 1 < l.length) && G (a + k) then [wallD] else []) | none => []).length ≤ 2 := by
   split
   ·split <;> simp
   ·simp
  omega
theorem wlP_len (G : Int → Bool) : ∀ (p : Prog) (a : Int), (wlP G p a).length = p.length
 | [], _ => rfl
 | l :: p, a => by rw [wlP, List.length_cons, List.length_cons, wlP_len G p]
theorem wlP_rows (G : Int → Bool) : ∀ (p : Prog) (a : Int) {n : Nat}, (∀ l ∈ p, l.length ≤ n) → ∀ l ∈ wlP G p a, l.length ≤ 2 * n
 | [], _, _, _, l, h => by cases h
 | m :: p, a, n, hn, l, h => by
  rw [wlP] at h
  rcases List.mem_cons.1 h with rfl | h
  ·have := wlK_len G m a m.length
   have := hn m (by simp)
   rw [wlT]; omega
  ·exact wlP_rows G p _ (fun l h => hn l (by simp [h])) l h
theorem wlP_app (G : Int → Bool) : ∀ (a b : Prog) (n : Int), wlP G (a ++ b) n = wlP G a n ++ wlP G b (n + gapsP a)
 | [], b, n => by simp [wlP, gapsP]
 | l :: a, b, n => by
  rw [List.cons_append, wlP, wlP, wlP_app G a b, List.cons_append]
  have : gapsP (l :: a) = (l.length - 1) + gapsP a := by simp [gapsP, gapsT]
  rw [this, show n + ((l.length - 1 : Nat) : Int) + (gapsP a : Int) = n + ((l.length - 1 + gapsP a : Nat) : Int) by omega]
theorem gapsP_get {p : Prog} {i : Nat} {l : List Do} (h : p[i]? = some l) : gapsP (p.take (i + 1)) = gapsP (p.take i) + (l.length - 1) := by
 rw [take_get h]; simp [gapsP, gapsT]
theorem gapsP_le {p : Prog} {n : Nat} (hn : ∀ l ∈ p, l.length ≤ n) : ∀ i, gapsP (p.take i) ≤ n * i := by
 intro i
 induction i with
 | zero => simp [gapsP]
 | succ i ih =>
  cases hx : p[i]? with
  | none =>
   have : p.length ≤ i := by rwa [List.getElem?_eq_none_iff] at hx
   rw [List.take_of_length_le (by omega)] at ih ⊢
   rw [Nat.mul_succ]; omega
  | some l => rw [gapsP_get hx, Nat.mul_succ]; have := hn l (List.mem_of_getElem? hx); omega
theorem wlK_all {G : Int → Bool} {l : List Do} {a : Int} (hG : ∀ k : Nat, k + 1 < l.length → G (a + k) = true) : ∀ k, k ≤ l.length → Wld (wlK G l a k) ∧ (0 < k → k < l.length → ∃ m, wlK G l a k = m ++ [wallD])
 | 0, _ => ⟨fun j d e h => by simp [wlK] at h, fun h => by omega⟩
 | k + 1, hk => by
  obtain ⟨h1, h2⟩ := wlK_all hG k (by omega)
  have hd : l[k]? = some l[k] := List.getElem?_eq_getElem (by omega)
  have e : wlK G l a (k + 1) = wlK G l a k ++ (l[k] :: (if k + 1 < l.length then [wallD] else [])) := by
   rw [wlK, hd]
   congr 1
   by_cases hlt : k + 1 < l.length
   ·simp [hlt, hG k hlt]
   ·simp [hlt]
  rw [e]
  constructor
  ·intro j d e' hj hj1
   rcases Nat.lt_trichotomy (j + 1) (wlK G l a k).length with hh | hh | hh
   ·rw [List.getElem?_append_left (by omega)] at hj hj1
    exact h1 j d e' hj hj1
   ·have hk0 : 0 < k := by
     rcases Nat.eq_zero_or_pos k with rfl | h
     ·simp [wlK] at hh
     ·exact h
    obtain ⟨m, hm⟩ := h2 hk0 (by omega)
    left
    rw [List.getElem?_append_left (by omega), hm] at hj
    rw [hm] at hh
    simp at hh
    rw [List.getElem?_append_right (by omega), hh, Nat.sub_self] at hj
    simp at hj
    rw [← hj]; rfl
   ·right
    rw [List.getElem?_append_right (by omega)] at hj1
    obtain ⟨i, hi⟩ : ∃ i, j + 1 - (wlK G l a k).length = i + 1 := ⟨j - (wlK G l a k).length, by omega⟩
    rw [hi, List.getElem?_cons_succ] at hj1
    split at hj1
    ·have := List.mem_of_getElem? hj1
     rw [List.mem_singleton.1 this]; rfl
    ·simp at hj1
  ·intro _ hlt
   rw [if_pos hlt]
   exact ⟨wlK G l a k ++ [l[k]], by simp⟩
theorem wlP_all {G : Int → Bool} : ∀ {p : Prog} {a : Int}, (∀ k : Nat, k < gapsP p → G (a + k) = true) → ∀ l ∈ wlP G p a, Wld l
 | [], _, _, l, h => by cases h
 | m :: p, a, hG, l, h => by
  have hg : gapsP (m :: p) = (m.length - 1) + gapsP p := by simp [gapsP, gapsT]
  rw [wlP] at h
  rcases List.mem_cons.1 h with rfl | h
  ·exact (wlK_all (fun k hk => hG k (by omega)) m.length (Nat.le_refl _)).1
  ·refine wlP_all (fun k hk => ?_) l h
   have := hG (m.length - 1 + k) (by omega)
   rw [show a + ((m.length - 1 : Nat) : Int) + (k : Int) = a + ((m.length - 1 + k : Nat) : Int) by omega]
   exact this
end
section
open Go.RowKit
def gapsV (p : Prog) : Int := if progOk p then (gapsP p : Int) else -1
theorem specWallGaps_fn (p : Prog) (hp : p.length < 2 ^ 20) (hl : ∀ l ∈ p, l.length < 2 ^ 11) : Fp Tryz.prog 52 [progV p] (.int .i64 (gapsV p)) := by
 have h1 := specProgOk_fn p (by omega)
 rw [progV_eq] at h1
 have hb := gapsP_le (p := p) (n := 2 ^ 11) (fun l h => by have := hl l h; omega)
 rw [gapsV]
 refine Fc.start (S := [8]) Tryz.func52 Tryz.ntmps52 Tryz.results52 rfl (by decide) rfl (by kernel_rfl) ?_
 simp (disch := omega) only [push_cast, go_sem, zA, simprocAttr, progV_eq]
 intro g
 refine callR.pure h1 rfl rfl ?_
 cases hok : progOk p
 ·simp (disch := omega) only [push_cast, go_sem, zA, simprocAttr]
 simp (disch := omega) only [push_cast, go_sem, zA, simprocAttr]
 refine Sat.loop (σ := Nat) (fun i => upd (upd (upd noT 1 (.ptr 1 [] 0 0 g 1)) 4 (.int .i64 i)) 3 (.int .i64 (gapsP (p.take i)))) (fun _ => noM.set 1 (boxP p g))
  (fun i => i ≤ p.length) (fun i => p.length - i) 0 (by simp) ?_ ?_
 ·(refine zB ?_; repeat (first | exact zC | exact zD | refine zE (by decide) ?_ | refine zF ?_ ?_ | refine zG ?_ ?_)) <;> (try simp (disch := omega) only [push_cast, go_sem, zA, simprocAttr])
  all_goals simp [gapsP, boxP]
 rintro i hi J hJ
 refine Sat.of (S := []) (by kernel_rfl) ?_
 have hbi := hb i
 rcases Nat.lt_or_ge i p.length with hlt | hge
 ·obtain ⟨l, he⟩ : ∃ l, p[i]? = some l := ⟨_, List.getElem?_eq_getElem hlt⟩
  have hll := hl l (List.mem_of_getElem? he)
  have hg := gapsP_get he
  by_cases h0 : (l.length : Int) - 1 < 0
  ·have hl0 : l.length - 1 = 0 := by omega
   have hz : (l.length : Int) = 0 := by omega
   simp (disch := omega) only [push_cast, go_sem, zA, simprocAttr, he, hlt, boxP_eq, thrV_eq, h0, hz]
   refine hJ (i + 1) _ _ (by omega) (by omega) ?_
   rw [hg, hl0]
   (refine zB ?_; repeat (first | exact zC | exact zD | refine zE (by decide) ?_ | refine zF ?_ ?_ | refine zG ?_ ?_)) <;> (try simp (disch := omega) only [push_cast, go_sem, zA, simprocAttr])
   all_goals rfl
  ·simp (disch := omega) only [push_cast, go_sem, zA, simprocAttr, he, hlt, boxP_eq, thrV_eq, h0]
   have hz : (gapsP (p.take i) : Int) + ((l.length : Int) - 1) = ((gapsP (p.take (i + 1)) : Nat) : Int) := by rw [hg]; omega
   rw [hz]
   refine hJ (i + 1) _ _ (by omega) (by omega) ?_
   (refine zB ?_; repeat (first | exact zC | exact zD | refine zE (by decide) ?_ | refine zF ?_ ?_ | refine zG ?_ ?_)) <;> (try simp (disch := omega) only [push_cast, go_sem, zA, simprocAttr])
   all_goals rfl
 ·have : i = p.length := by omega
  subst this
  rw [List.take_length]
  simp (disch := omega) only [push_cast, go_sem, zA, simprocAttr, boxP_eq]
  refine Sat.of (S := []) (by kernel_rfl) ?_
  simp (disch := omega) only [push_cast, go_sem, zA, simprocAttr]
end
section
open Go.RowKit
def gatB (zs : List Int) (most : Int) (k : Nat) : Bool := match zs[k]? with
 | some z => inB z 0 (most - 1) && (decide (k = 0) || (match zs[k - 1]? with | some y => decide (y < z) | none => true))
 | none => true
def gokB (zs : List Int) (most : Int) : Nat → Bool
 | 0 => true
 | k + 1 => gokB zs most k && gatB zs most k
theorem gokB_le {zs : List Int} {most : Int} {k : Nat} (h : gokB zs most k = false) : ∀ {j : Nat}, k ≤ j → gokB zs most j = false
 | 0, hj => by rw [Nat.le_zero.1 hj] at h; exact h
 | j + 1, hj => by
  rcases Nat.lt_or_ge j k with hh | hh
  ·have : k = j + 1 := by omega
   rw [← this]; exact h
  ·rw [gokB, gokB_le h hh]; rfl
theorem l21OkO_fn (zs : List Int) (most : Int) (γ : Option Nat) (c : Nat) (hl : zs.length < 2 ^ 40) (hm : -1 ≤ most) (hm2 : most < 2 ^ 40) : Fc Tryz.prog 101 [.msl 0 [] γ zs.length c, .int .i64 most] (noM.set 0 (.own 3 γ c (zs.map (V.int .i64)))) fun r m => r = .bool (gokB zs most zs.length) ∧ m = noM.set 0 (.own 3 γ c (zs.map (V.int .i64))) := by
 refine Fc.start (S := [6]) Tryz.func101 Tryz.ntmps101 Tryz.results101 rfl (by decide) rfl (by kernel_rfl) ?_
 simp (disch := omega) only [push_cast, go_sem, zA, simprocAttr]
 refine Sat.loop (σ := Nat) (fun k => upd (upd (upd (upd noT 0 (.msl 0 [] γ zs.length c)) 1 (.int .i64 most)) 4 (.bool false)) 5 (.int .i64 k)) (fun _ => noM.set 0 (.own 3 γ c (zs.map (V.int .i64))))
  (fun k => k ≤ zs.length ∧ gokB zs most k = true) (fun k => zs.length - k) 0 (by simp [gokB]) ?_ ?_
 ·(refine zB ?_; repeat (first | exact zC | exact zD | refine zE (by decide) ?_ | refine zF ?_ ?_ | refine zG ?_ ?_)) <;> (try simp (disch := omega) only [push_cast, go_sem, zA, simprocAttr])
 rintro k ⟨hk, hc⟩ J hJ
 rcases Nat.lt_or_ge k zs.length with hlt | hge
 ·refine Sat.someG (o := 0) (e := 3) (γ := γ) (cap := c) (es := zs.map (V.int .i64)) rfl (fun h => by have := congrArg List.length h; simp at this; subst this; simp at hlt) ?_
  rintro g rfl
  refine Sat.of (S := []) (by kernel_rfl) ?_
  obtain ⟨z, hz⟩ : ∃ z, zs[k]? = some z := ⟨_, List.getElem?_eq_getElem hlt⟩
  simp (disch := omega) only [push_cast, go_sem, zA, simprocAttr, hlt]
  have no : gatB zs most k = false → gokB zs most zs.length = false := fun h => gokB_le (k := k + 1) (by rw [gokB, h, Bool.and_false]) (by omega)
  have yes : gatB zs most k = true → gokB zs most (k + 1) = true := fun h => by rw [gokB, h, hc]; rfl
  refine Sat.drawnE [] [] (List.range 24) (pureT [(79, .bool (inB z 0 (most - 1)))]) (by kernel_rfl) (by kernel_rfl) ?_
  rcases Nat.eq_zero_or_pos k with h0 | h0
  ·have h1 : ((0 : Int) < k) = False := by simp; omega
   simp (disch := omega) only [push_cast, go_sem, zA, simprocAttr, hz, hlt]
   refine runD_pure rfl (l6In_fn z 0 (most - 1)) rfl rfl ?_ ?_
   ·rfl
   cases hin : inB z 0 (most - 1)
   ·simp (disch := omega) only [push_cast, go_sem, zA, simprocAttr, h1]
    exact ⟨_, Sub.rfl, by rw [no (by rw [gatB, hz]; simp only [hin, Bool.false_and])], rfl⟩
   ·simp (disch := omega) only [push_cast, go_sem, zA, simprocAttr, h1]
    have hz1 := yes (by rw [gatB, hz]; simp [hin, h0])
    refine hJ (k + 1) _ _ ⟨by omega, hz1⟩ (by omega) ?_
    (refine zB ?_; repeat (first | exact zC | exact zD | refine zE (by decide) ?_ | refine zF ?_ ?_ | refine zG ?_ ?_)) <;> (try simp (disch := omega) only [push_cast, go_sem, zA, simprocAttr])
  ·obtain ⟨j, hj⟩ : ∃ j, k = j + 1 := ⟨k - 1, by omega⟩
   obtain ⟨y, hy⟩ : ∃ y, zs[j]? = some y := ⟨_, List.getElem?_eq_getElem (by omega)⟩
   have hk1 : (k : Int) - 1 = j := by omega
   have hk2 : j < zs.length := by omega
   have hk0 : ¬ k = 0 := by omega
   have hkj : k - 1 = j := by omega
   have hj0 : ((0 : Int) < k) = True := by simp; omega
   simp (disch := omega) only [push_cast, go_sem, zA, simprocAttr, hz, hlt]
   refine runD_pure rfl (l6In_fn z 0 (most - 1)) rfl rfl ?_ ?_
   ·rfl
   cases hin : inB z 0 (most - 1)
   ·simp (disch := omega) only [push_cast, go_sem, zA, simprocAttr, hz, hlt, h0, hj0, hk1, hk2, hy]
    exact ⟨_, Sub.rfl, by rw [no (by rw [gatB, hz]; simp only [hin, Bool.false_and])], rfl⟩
   ·by_cases hyz : z ≤ y
    ·simp (disch := omega) only [push_cast, go_sem, zA, simprocAttr, hz, hlt, h0, hj0, hk1, hk2, hy, hyz]
     exact ⟨_, Sub.rfl, by rw [no (by rw [gatB, hz, hkj, hy]; simp only [hin, hk0]; simp; omega)], rfl⟩
    ·simp (disch := omega) only [push_cast, go_sem, zA, simprocAttr, hz, hlt, h0, hj0, hk1, hk2, hy, hyz]
     refine hJ (k + 1) _ _ ⟨by omega, yes (by rw [gatB, hz, hkj, hy]; simp only [hin, hk0]; simp; omega)⟩ (by omega) ?_
     (refine zB ?_; repeat (first | exact zC | exact zD | refine zE (by decide) ?_ | refine zF ?_ ?_ | refine zG ?_ ?_)) <;> (try simp (disch := omega) only [push_cast, go_sem, zA, simprocAttr])
 ·have : k = zs.length := by omega
  subst this
  refine Sat.of (S := []) (by kernel_rfl) ?_
  simp (disch := omega) only [push_cast, go_sem, zA, simprocAttr]
  refine Sat.of (S := []) (by kernel_rfl) ?_
  simp (disch := omega) only [push_cast, go_sem, zA, simprocAttr]
  exact ⟨_, Sub.rfl, by rw [hc], rfl⟩
end
section
open Go.RowKit
theorem Sat.cutAll {P : Program} {N id : Nat} {l : List Oper} {y : Code} {t : Nat → V} {M : Mem} {C : Kont} (hd : dstOk N ⟨l⟩ = true) (h : wpL P (l.map (·.dst)) l t M (fun t' M' => Sat P N y t' M' C)) : Sat P N (.seq (.region id ⟨l⟩ false) y) t M C := by
 intro imm0 w0 M0 imm a w hr
 refine wp_seq (Code.wp_mono (Q := fun e a' w' => e = .normal ∧ ∃ t' M' imm', Rel P N imm0 w0 M0 imm' t' M' a' w' ∧ Sat P N y t' M' C) ?_ (wp_region_list ?_))
 ·rintro e a' w' ⟨rfl, t', M', imm', hr', hk⟩
  exact hk _ _ _ _ _ _ hr'
 ·exact wpL_sound (ops := ⟨l⟩) l t M imm a w (fun o ho => dstOk_mem hd o ho) h hr (fun imm' t' M' a' w' hr' hk => ⟨rfl, t', M', imm', hr', hk⟩)
def wallOk (p : Prog) (zs : List Int) : Bool := progOk p && gokB zs (gapsP p) zs.length && progOk (wlP zs.contains p 0)
def wallR (p : Prog) (zs : List Int) : Prog := if wallOk p zs then wlP zs.contains p 0 else []
def gapK (l : List Do) (k : Nat) : Nat := min k (l.length - 1)
theorem gapK_lt {l : List Do} {j : Nat} (h : j + 1 < l.length) : gapK l j = j ∧ gapK l (j + 1) = j + 1 := by unfold gapK; omega
theorem gapK_last {l : List Do} {j : Nat} (h : j < l.length) (h' : ¬ j + 1 < l.length) : gapK l j = j ∧ gapK l (j + 1) = j := by unfold gapK; omega
theorem wlK_last {G : Int → Bool} {l : List Do} {a : Int} {j : Nat} {d : Do} (hd : l[j]? = some d) (h : ¬ j + 1 < l.length) : wlK G l a (j + 1) = wlK G l a j ++ [d] := by
 rw [wlK, hd]; simp [h]
theorem wlK_no {G : Int → Bool} {l : List Do} {a : Int} {j : Nat} {d : Do} (hd : l[j]? = some d) (h : G (a + j) = false) : wlK G l a (j + 1) = wlK G l a j ++ [d] := by
 rw [wlK, hd]; simp [h]
theorem wlK_yes {G : Int → Bool} {l : List Do} {a : Int} {j : Nat} {d : Do} (hd : l[j]? = some d) (h1 : j + 1 < l.length) (h : G (a + j) = true) : wlK G l a (j + 1) = wlK G l a j ++ [d] ++ [wallD] := by
 rw [wlK, hd]; simp [h, h1]
theorem specWallPut_fn (p : Prog) (zs : List Int) (γ : Option Nat) (c : Nat) (hp : p.length < 2 ^ 20) (hl : ∀ l ∈ p, l.length < 2 ^ 11) (hzl : zs.length < 2 ^ 39) : Fc Tryz.prog 53 [progV p, .msl 1 [] γ zs.length c] (noM.set 1 (.own 3 γ c (zs.map (V.int .i64))))
  fun r m => r = .tuple [progV (wallR p zs), .bool (wallOk p zs)] ∧ m = noM.set 1 (.own 3 γ c (zs.map (V.int .i64))) := by
 have h1 := specProgOk_fn p (by omega)
 have h2 := specWallGaps_fn p hp hl
 rw [progV_eq] at h1 h2
 have hb := gapsP_le (p := p) (n := 2 ^ 11) (fun l h => by have := hl l h; omega)
 have hbp : gapsP p < 2 ^ 31 + 1 := by have := hb p.length; rw [List.take_length] at this; omega
 have hhas := fun b => l12HasO_fn zs b γ c (by omega)
 have hgok := l21OkO_fn zs (gapsP p) γ c (by omega) (by omega) (by omega)
 refine Fc.start (S := [2, 18, 19]) Tryz.func53 Tryz.ntmps53 Tryz.results53 rfl (by decide) rfl (by kernel_rfl) ?_
 simp (disch := omega) only [push_cast, go_sem, zA, simprocAttr, progV_eq]
 intro g2 g4
 refine callR.pure h1 rfl rfl ?_
 cases hok : progOk p
 ·simp (disch := omega) only [push_cast, go_sem, zA, simprocAttr]
  refine Sat.cutAll (by kernel_rfl) ?_
  simp (disch := omega) only [push_cast, go_sem, zA, simprocAttr]
  refine Sat.freezeC 4 [] 0 0 rfl rfl rfl ?_
  rw [show (V.own 0 none 0 []).fz = .sl [] from rfl]
  refine Sat.of (S := []) (by kernel_rfl) ?_
  simp (disch := omega) only [push_cast, go_sem, zA, simprocAttr]
  refine ⟨_, Sub.set Sub.no rfl, ?_, rfl⟩
  simp only [wallR, wallOk, hok, Bool.false_and]; rfl
 simp (disch := omega) only [push_cast, go_sem, zA, simprocAttr]
 refine callR.pure h2 rfl rfl ?_
 rw [show gapsV p = (gapsP p : Int) by rw [gapsV, hok]; rfl]
 simp (disch := omega) only [push_cast, go_sem, zA, simprocAttr]
 refine callR.peek hgok rfl rfl rfl ?_
 cases hg : gokB zs (gapsP p) zs.length
 ·simp (disch := omega) only [push_cast, go_sem, zA, simprocAttr]
  refine Sat.cutAll (by kernel_rfl) ?_
  simp (disch := omega) only [push_cast, go_sem, zA, simprocAttr]
  refine Sat.freezeC 4 [] 0 0 rfl rfl rfl ?_
  rw [show (V.own 0 none 0 []).fz = .sl [] from rfl]
  refine Sat.of (S := []) (by kernel_rfl) ?_
  simp (disch := omega) only [push_cast, go_sem, zA, simprocAttr]
  refine ⟨_, Sub.set Sub.no rfl, ?_, rfl⟩
  simp only [wallR, wallOk, hok, hg, Bool.false_and, Bool.and_false]; rfl
 simp (disch := omega) only [push_cast, go_sem, zA, simprocAttr]
 intro g6
 refine Sat.loop (σ := BoxO × Nat) (fun x => upd (upd (upd (upd (upd (upd (upd noT 1 (.msl 1 [] γ zs.length c)) 2 (.ptr 2 [] 0 0 g2 1)) 4 (.ptr 4 [] 0 0 g4 1)) 5 (.bool false)) 6 (.ptr 6 [] 0 0 g6 1)) 7 (.int .i64 (gapsP (p.take x.2)))) 8 (.int .i64 x.2))
  (fun x => (((noM.set 1 (.own 3 γ c (zs.map (V.int .i64)))).set 2 (boxP p g2)).set 4 (.own 25 (some g4) 1 [.agg [.own 0 none 0 []]])).set 6 (x.1.V g6))
  (fun x => x.2 ≤ p.length ∧ x.1.p = wlP zs.contains (p.take x.2) 0 ∧ (x.1.γ = none ∨ x.1.e = 38)) (fun x => p.length - x.2) (⟨0, none, 0, []⟩, 0) (by simp [BoxO.p, wlP]) ?_ ?_
 ·(refine zB ?_; repeat (first | exact zC | exact zD | refine zE (by decide) ?_ | refine zF ?_ ?_ | refine zG ?_ ?_)) <;> (try simp (disch := omega) only [push_cast, go_sem, zA, simprocAttr])
  all_goals simp [gapsP, boxP, BoxO.V]
 rintro ⟨x, i⟩ ⟨k1, k2, k3⟩ J hJ
 refine Sat.of (S := []) (by kernel_rfl) ?_
 simp only at k1 k2 k3 hJ
 have hbi := hb i
 have hxl : x.xs.length = i := by
  have := congrArg List.length k2
  rw [wlP_len, List.length_take] at this
  simp [BoxO.p] at this
  omega
 rcases Nat.lt_or_ge i p.length with hlt | hge
 ·obtain ⟨l, he⟩ : ∃ l, p[i]? = some l := ⟨_, List.getElem?_eq_getElem hlt⟩
  have hll := hl l (List.mem_of_getElem? he)
  simp (disch := omega) only [push_cast, go_sem, zA, simprocAttr, he, hlt, boxP_eq, thrV_eq]
  intro g30
  refine Sat.loop (σ := Option Nat × Nat × Nat) (fun y => upd (upd (upd (upd (upd (upd (upd (upd (upd noT 1 (.msl 1 [] γ zs.length c)) 2 (.ptr 2 [] 0 0 g2 1)) 4 (.ptr 4 [] 0 0 g4 1)) 5 (.bool false)) 6 (.ptr 6 [] 0 0 g6 1)) 7 (.int .i64 (gapsP (p.take i) + gapK l y.2.2 : Nat))) 8 (.int .i64 i)) 9 (.msl 9 [] y.1 (wlK zs.contains l (gapsP (p.take i)) y.2.2).length y.2.1)) 10 (.int .i64 y.2.2))
   (fun y => ((((noM.set 1 (.own 3 γ c (zs.map (V.int .i64)))).set 2 (boxP p g2)).set 4 (.own 25 (some g4) 1 [.agg [.own 0 none 0 []]])).set 6 (x.V g6)).set 9 (.own 40 y.1 y.2.1 ((wlK zs.contains l (gapsP (p.take i)) y.2.2).map Do.V)))
   (fun y => y.2.2 ≤ l.length) (fun y => l.length - y.2.2) (some g30, 0, 0) (by simp) ?_ ?_
  ·(refine zB ?_; repeat (first | exact zC | exact zD | refine zE (by decide) ?_ | refine zF ?_ ?_ | refine zG ?_ ?_)) <;> (try simp (disch := omega) only [push_cast, go_sem, zA, simprocAttr])
   all_goals simp [gapK, wlK, boxP]
  rintro ⟨γ9, c9, j⟩ hj J2 hJ2
  simp only at hj hJ2
  refine Sat.of (S := []) (by kernel_rfl) ?_
  have hwl := wlK_len zs.contains l (gapsP (p.take i)) j
  rcases Nat.lt_or_ge j l.length with hlj | hgj
  ·obtain ⟨d, hd⟩ : ∃ d, l[j]? = some d := ⟨_, List.getElem?_eq_getElem hlj⟩
   by_cases hj1 : j + 1 < l.length
   ·obtain ⟨e1, e2⟩ := gapK_lt hj1
    have hji : ((j : Int) + 1 < l.length) = True := by simp; omega
    simp (disch := omega) only [push_cast, go_sem, zA, simprocAttr, he, hlt, hd, hlj, boxP_eq, thrV_eq, Do.V_eq, hji, e1]
    refine fun g50 => ⟨by omega, fun γa ca _ => ?_⟩
    refine callR.peek (hhas _) rfl rfl rfl ?_
    cases hh : zs.contains ((gapsP (p.take i) : Int) + j)
    ·have e3 := wlK_no (G := zs.contains) (a := gapsP (p.take i)) hd hh
     simp (disch := omega) only [push_cast, go_sem, zA, simprocAttr]
     refine hJ2 (γa, ca, j + 1) _ _ (by dsimp only; omega) (by dsimp only; omega) ?_
     dsimp only
     rw [e2, e3, List.length_append, List.map_append]
     (refine zB ?_; repeat (first | exact zC | exact zD | refine zE (by decide) ?_ | refine zF ?_ ?_ | refine zG ?_ ?_)) <;> (try simp (disch := omega) only [push_cast, go_sem, zA, simprocAttr])
     all_goals first | rfl | omega
    ·have e3 := wlK_yes (G := zs.contains) (a := gapsP (p.take i)) hd hj1 hh
     simp (disch := omega) only [push_cast, go_sem, zA, simprocAttr]
     refine fun g66 => ⟨by omega, fun γb cb _ => ?_⟩
     refine hJ2 (γb, cb, j + 1) _ _ (by dsimp only; omega) (by dsimp only; omega) ?_
     dsimp only
     rw [e2, e3, List.length_append, List.length_append, List.map_append, List.map_append]
     (refine zB ?_; repeat (first | exact zC | exact zD | refine zE (by decide) ?_ | refine zF ?_ ?_ | refine zG ?_ ?_)) <;> (try simp (disch := omega) only [push_cast, go_sem, zA, simprocAttr])
     all_goals first | rfl | omega
   ·obtain ⟨e1, e2⟩ := gapK_last hlj hj1
    have hji : ((j : Int) + 1 < l.length) = False := by simp; omega
    have e3 := wlK_last (G := zs.contains) (a := gapsP (p.take i)) hd hj1
    simp (disch := omega) only [push_cast, go_sem, zA, simprocAttr, he, hlt, hd, hlj, boxP_eq, thrV_eq, Do.V_eq, hji, e1]
    refine fun g50 => ⟨by omega, fun γa ca _ => ?_⟩
    refine hJ2 (γa, ca, j + 1) _ _ (by dsimp only; omega) (by dsimp only; omega) ?_
    dsimp only
    rw [e2, e3, List.length_append, List.map_append]
    (refine zB ?_; repeat (first | exact zC | exact zD | refine zE (by decide) ?_ | refine zF ?_ ?_ | refine zG ?_ ?_)) <;> (try simp (disch := omega) only [push_cast, go_sem, zA, simprocAttr])
    all_goals first | rfl | omega
  ·have : j = l.length := by omega
   subst this
   have k3' : (x.γ = none ∨ x.e = 38) = True := by simp only [k3]
   have hgp := gapsP_get he
   have hgl : gapK l l.length = l.length - 1 := by unfold gapK; omega
   cases hfl : (V.own 40 γ9 c9 ((wlK zs.contains l (gapsP (p.take i)) l.length).map Do.V)).flatC <;> simp (disch := omega) only [push_cast, go_sem, zA, simprocAttr, he, hlt, boxP_eq, thrV_eq, BoxO.V_eq, k3', hfl]
   all_goals
    intro g73
    refine ⟨by omega, fun γ2 c2 _ => ?_⟩
    refine hJ (⟨38, γ2, c2, x.xs ++ [⟨γ9, c9, wlK zs.contains l (gapsP (p.take i)) l.length⟩]⟩, i + 1) _ _ ⟨by dsimp only; omega, ?_, .inr rfl⟩ (by dsimp only; omega) ?_
    ·dsimp only
     have h5 : BoxO.p ⟨38, γ2, c2, x.xs ++ [⟨γ9, c9, wlK zs.contains l (gapsP (p.take i)) l.length⟩]⟩ = x.p ++ [wlK zs.contains l (gapsP (p.take i)) l.length] := by simp [BoxO.p]
     rw [h5, k2, take_get he, wlP_app, wlP, wlP, wlT, Int.zero_add]
    ·dsimp only
     rw [hgp, ← hgl]
     (refine zB ?_; repeat (first | exact zC | exact zD | refine zE (by decide) ?_ | refine zF ?_ ?_ | refine zG ?_ ?_)) <;> (try simp (disch := omega) only [push_cast, go_sem, zA, simprocAttr])
     all_goals first | rfl | omega | simp [BoxO.V, RowO.V]
 ·have : i = p.length := by omega
  subst this
  rw [List.take_length] at k2 ⊢
  simp (disch := omega) only [push_cast, go_sem, zA, simprocAttr, boxP_eq]
  refine Sat.freezeC 6 [] 0 0 (n0 := x.V g6) (d := .own x.e x.γ x.c (x.xs.map RowO.V)) rfl rfl rfl ?_
  rw [fz_box, k2]
  have h3 := specProgOk_fn (wlP zs.contains p 0) (by rw [wlP_len]; omega)
  rw [progV_eq] at h3
  refine Sat.of (S := [19]) (by kernel_rfl) ?_
  simp (disch := omega) only [push_cast, go_sem, zA, simprocAttr, boxP_eq, BoxO.V_eq]
  refine callR.pure h3 rfl rfl ?_
  cases hok2 : progOk (wlP zs.contains p 0)
  ·simp (disch := omega) only [push_cast, go_sem, zA, simprocAttr]
   refine Sat.cutAll (by kernel_rfl) ?_
   simp (disch := omega) only [push_cast, go_sem, zA, simprocAttr]
   refine Sat.freezeC 4 [] 0 0 rfl rfl rfl ?_
   rw [show (V.own 0 none 0 []).fz = .sl [] from rfl]
   refine Sat.of (S := []) (by kernel_rfl) ?_
   simp (disch := omega) only [push_cast, go_sem, zA, simprocAttr]
   refine ⟨_, Sub.set Sub.no rfl, ?_, rfl⟩
   simp only [wallR, wallOk, hok, hg, hok2, Bool.false_and, Bool.and_false]; rfl
  ·simp (disch := omega) only [push_cast, go_sem, zA, simprocAttr]
   refine ⟨_, Sub.set Sub.no rfl, ?_, rfl⟩
   simp only [wallR, wallOk, hok, hg, hok2, Bool.true_and, if_pos]
end
section
open Go.RowKit
theorem implWallGaps_fn (p : Prog) (hp : p.length < 2 ^ 20) (hl : ∀ l ∈ p, l.length < 2 ^ 11) : Fp Tryz.prog 55 [progV p] (.int .i64 (gapsV p)) := by
 have h1 := implProgOk_fn p (by omega) (fun l h => by have := hl l h; omega)
 rw [progV_eq] at h1
 have hb := gapsP_le (p := p) (n := 2 ^ 11) (fun l h => by have := hl l h; omega)
 rw [gapsV]
 refine Fc.start (S := [8]) Tryz.func55 Tryz.ntmps55 Tryz.results55 rfl (by decide) rfl (by kernel_rfl) ?_
 simp (disch := omega) only [push_cast, go_sem, zA, simprocAttr, progV_eq]
 intro g
 refine callR.pure h1 rfl rfl ?_
 cases hok : progOk p
 ·simp (disch := omega) only [push_cast, go_sem, zA, simprocAttr]
 simp (disch := omega) only [push_cast, go_sem, zA, simprocAttr]
 refine Sat.loop (σ := Nat) (fun i => upd (upd (upd (upd noT 10 (.sl (p.map thrV))) 11 (.int .i64 p.length)) 12 (.int .i64 i)) 3 (.int .i64 (gapsP (p.take i)))) (fun _ => noM)
  (fun i => i ≤ p.length) (fun i => p.length - i) 0 (by simp) ?_ ?_
 ·(refine zB ?_; repeat (first | exact zC | exact zD | refine zE (by decide) ?_ | refine zF ?_ ?_ | refine zG ?_ ?_)) <;> (try simp (disch := omega) only [push_cast, go_sem, zA, simprocAttr])
  all_goals simp [gapsP, boxP]
 rintro i hi J hJ
 refine Sat.of (S := []) (by kernel_rfl) ?_
 have hbi := hb i
 rcases Nat.lt_or_ge i p.length with hlt | hge
 ·obtain ⟨l, he⟩ : ∃ l, p[i]? = some l := ⟨_, List.getElem?_eq_getElem hlt⟩
  have hll := hl l (List.mem_of_getElem? he)
  have hg := gapsP_get he
  by_cases h0 : (0 : Int) > (l.length : Int) - 1
  ·have hl0 : l.length - 1 = 0 := by omega
   have hz : (l.length : Int) = 0 := by omega
   simp (disch := omega) only [push_cast, go_sem, zA, simprocAttr, he, hlt, boxP_eq, thrV_eq, h0, hz]
   refine hJ (i + 1) _ _ (by omega) (by omega) ?_
   rw [hg, hl0]
   (refine zB ?_; repeat (first | exact zC | exact zD | refine zE (by decide) ?_ | refine zF ?_ ?_ | refine zG ?_ ?_)) <;> (try simp (disch := omega) only [push_cast, go_sem, zA, simprocAttr])
   all_goals rfl
  ·simp (disch := omega) only [push_cast, go_sem, zA, simprocAttr, he, hlt, boxP_eq, thrV_eq, h0]
   have hz : (gapsP (p.take i) : Int) + ((l.length : Int) - 1) = ((gapsP (p.take (i + 1)) : Nat) : Int) := by rw [hg]; omega
   rw [hz]
   refine hJ (i + 1) _ _ (by omega) (by omega) ?_
   (refine zB ?_; repeat (first | exact zC | exact zD | refine zE (by decide) ?_ | refine zF ?_ ?_ | refine zG ?_ ?_)) <;> (try simp (disch := omega) only [push_cast, go_sem, zA, simprocAttr])
   all_goals rfl
 ·have : i = p.length := by omega
  subst this
  rw [List.take_length]
  simp (disch := omega) only [push_cast, go_sem, zA, simprocAttr, boxP_eq]
def implK (G : Int → Bool) (l : List Do) (a : Int) : Nat → List Do
 | 0 => []
 | k + 1 => implK G l a k ++ (if decide (0 < k) && G (a + ((k - 1 : Nat) : Int)) then [wallD] else []) ++ (match l[k]? with | some d => [d] | none => [])
theorem wlK_impl {G : Int → Bool} {l : List Do} {a : Int} : ∀ k, k ≤ l.length → wlK G l a k = implK G l a k ++ (if decide (0 < k) && (decide (k < l.length) && G (a + ((k - 1 : Nat) : Int))) then [wallD] else [])
 | 0, _ => by simp [wlK, implK]
 | k + 1, hk => by
  have hd : l[k]? = some l[k] := List.getElem?_eq_getElem (by omega)
  have h1 : decide (k < l.length) = true := by simp; omega
  rw [wlK, implK, wlK_impl k (by omega), hd, h1, Bool.true_and]
  simp
theorem wlT_impl {G : Int → Bool} {l : List Do} {a : Int} : wlT G l a = implK G l a l.length := by
 rw [wlT, wlK_impl _ (Nat.le_refl _)]; simp
theorem implK_len {G : Int → Bool} {l : List Do} {a : Int} : ∀ k, (implK G l a k).length ≤ 2 * k
 | 0 => by simp [implK]
 | k + 1 => by
  have ih := implK_len (G := G) (l := l) (a := a) k
  rw [implK, List.length_append, List.length_append]
  have h1 : (if decide (0 < k) && G (a + ((k - 1 : Nat) : Int)) then [wallD] else []).length ≤ 1 := by split <;> simp
  have h2 : (match l[k]? with | some d => [d] | none => []).length ≤ 1 := by split <;> simp
  omega
theorem implK_0 {G : Int → Bool} {l : List Do} {a : Int} {d : Do} (hd : l[0]? = some d) : implK G l a 1 = [d] := by
 rw [implK, implK, hd]; simp
theorem implK_no {G : Int → Bool} {l : List Do} {a : Int} {k : Nat} {d : Do} (hd : l[k + 1]? = some d) (h : G (a + k) = false) : implK G l a (k + 1 + 1) = implK G l a (k + 1) ++ [d] := by
 rw [implK, hd]; simp [h]
theorem implK_yes {G : Int → Bool} {l : List Do} {a : Int} {k : Nat} {d : Do} (hd : l[k + 1]? = some d) (h : G (a + k) = true) : implK G l a (k + 1 + 1) = implK G l a (k + 1) ++ [wallD] ++ [d] := by
 rw [implK, hd]; simp [h]
theorem fz_thr (e : TypeId) (γ : Option Nat) (c : Nat) (p : Prog) : (V.own e γ c (p.map thrV)).fz = .sl (p.map thrV) := by
 simp only [V.fz, fzs_map, List.map_map, V.sl.injEq]
 exact List.map_congr_left fun d _ => rfl
theorem implWallPut_fn (p : Prog) (zs : List Int) (hp : p.length < 2 ^ 20) (hl : ∀ l ∈ p, l.length < 2 ^ 11) (hzl : zs.length < 2 ^ 39) : Fp Tryz.prog 56 [progV p, intsV zs] (.tuple [progV (wallR p zs), .bool (wallOk p zs)]) := by
 have h2 := implWallGaps_fn p hp hl
 rw [progV_eq] at h2
 have hb := gapsP_le (p := p) (n := 2 ^ 11) (fun l h => by have := hl l h; omega)
 have hbp : gapsP p < 2 ^ 31 + 1 := by have := hb p.length; rw [List.take_length] at this; omega
 have hgv : gapsV p < 2 ^ 40 ∧ -1 ≤ gapsV p := by
  unfold gapsV
  split <;> omega
 have hhas := fun b => contains_fn zs b (by omega)
 rw [intsV_eq] at hhas
 refine Fc.start (S := [6, 9, 27, 28]) Tryz.func56 Tryz.ntmps56 Tryz.results56 rfl (by decide) rfl (by kernel_rfl) ?_
 simp (disch := omega) only [push_cast, go_sem, zA, simprocAttr, progV_eq, intsV_eq]
 intro g2 g4
 refine callR.pure h2 rfl rfl ?_
 simp (disch := omega) only [push_cast, go_sem, zA, simprocAttr]
 refine Sat.loop (σ := Nat) (fun k => upd (upd (upd (upd (upd (upd (upd (upd noT 1 (.sl (zs.map (V.int .i64)))) 2 (.ptr 2 [] 0 0 g2 1)) 4 (.ptr 4 [] 0 0 g4 1)) 5 (.bool false)) 6 (.int .i64 (gapsV p))) 18 (.sl (zs.map (V.int .i64)))) 19 (.int .i64 zs.length)) 20 (.int .i64 k))
  (fun _ => (noM.set 2 (boxP p g2)).set 4 (.own 25 (some g4) 1 [.agg [.own 0 none 0 []]])) (fun k => k ≤ zs.length ∧ gokB zs (gapsV p) k = true) (fun k => zs.length - k) 0 (by simp [gokB]) ?_ ?_
 ·(refine zB ?_; repeat (first | exact zC | exact zD | refine zE (by decide) ?_ | refine zF ?_ ?_ | refine zG ?_ ?_)) <;> (try simp (disch := omega) only [push_cast, go_sem, zA, simprocAttr])
  all_goals simp [boxP]
 rintro k ⟨hk, hc⟩ J hJ
 rcases Nat.lt_or_ge k zs.length with hlt | hge
 ·refine Sat.of (S := [6]) (by kernel_rfl) ?_
  obtain ⟨z, hz⟩ : ∃ z, zs[k]? = some z := ⟨_, List.getElem?_eq_getElem hlt⟩
  have no : gatB zs (gapsV p) k = false → wallOk p zs = false := fun h => by
   have := gokB_le (zs := zs) (most := gapsV p) (k := k + 1) (by rw [gokB, h, Bool.and_false]) (j := zs.length) (by omega)
   cases hok : progOk p
   ·simp only [wallOk, hok, Bool.false_and]
   ·rw [gapsV, hok, if_pos rfl] at this
    simp only [wallOk, this, Bool.false_and, Bool.and_false]
  have yes : gatB zs (gapsV p) k = true → gokB zs (gapsV p) (k + 1) = true := fun h => by rw [gokB, h, hc]; rfl
  simp (disch := omega) only [push_cast, go_sem, zA, simprocAttr, hlt, hz]
  refine callR.pure (in_fn z 0 (gapsV p - 1)) rfl rfl ?_
  rcases Nat.eq_zero_or_pos k with h0 | h0
  ·have h1 : ((0 : Int) < k) = False := by simp; omega
   cases hin : inB z 0 (gapsV p - 1)
   ·simp (disch := omega) only [push_cast, go_sem, zA, simprocAttr, h1]
    have hno := no (by rw [gatB, hz]; simp only [hin, Bool.false_and])
    refine Sat.cutAll (by kernel_rfl) ?_
    simp (disch := omega) only [push_cast, go_sem, zA, simprocAttr]
    refine Sat.freezeC 4 [] 0 0 rfl rfl rfl ?_
    rw [show (V.own 0 none 0 []).fz = .sl [] from rfl]
    refine Sat.of (S := []) (by kernel_rfl) ?_
    simp (disch := omega) only [push_cast, go_sem, zA, simprocAttr, boxP_eq]
    rw [wallR, hno]
    rfl
   ·simp (disch := omega) only [push_cast, go_sem, zA, simprocAttr, h1]
    have hz1 := yes (by rw [gatB, hz]; simp [hin, h0])
    refine hJ (k + 1) _ _ ⟨by omega, hz1⟩ (by omega) ?_
    (refine zB ?_; repeat (first | exact zC | exact zD | refine zE (by decide) ?_ | refine zF ?_ ?_ | refine zG ?_ ?_)) <;> (try simp (disch := omega) only [push_cast, go_sem, zA, simprocAttr])
  ·obtain ⟨j, hj⟩ : ∃ j, k = j + 1 := ⟨k - 1, by omega⟩
   obtain ⟨y, hy⟩ : ∃ y, zs[j]? = some y := ⟨_, List.getElem?_eq_getElem (by omega)⟩
   have hk1 : (k : Int) - 1 = j := by omega
   have hk2 : j < zs.length := by omega
   have hk0 : ¬ k = 0 := by omega
   have hkj : k - 1 = j := by omega
   have hj0 : ((0 : Int) < k) = True := by simp; omega
   cases hin : inB z 0 (gapsV p - 1)
   ·simp (disch := omega) only [push_cast, go_sem, zA, simprocAttr, h0, hj0, hk1, hk2, hy]
    have hno := no (by rw [gatB, hz]; simp only [hin, Bool.false_and])
    refine Sat.cutAll (by kernel_rfl) ?_
    simp (disch := omega) only [push_cast, go_sem, zA, simprocAttr]
    refine Sat.freezeC 4 [] 0 0 rfl rfl rfl ?_
    rw [show (V.own 0 none 0 []).fz = .sl [] from rfl]
    refine Sat.of (S := []) (by kernel_rfl) ?_
    simp (disch := omega) only [push_cast, go_sem, zA, simprocAttr, boxP_eq]
    rw [wallR, hno]
    rfl
   ·by_cases hyz : z ≤ y
    ·simp (disch := omega) only [push_cast, go_sem, zA, simprocAttr, h0, hj0, hk1, hk2, hy, hyz]
     have hno := no (by rw [gatB, hz]; rw [hkj, hy]; simp only [hin, hk0]; simp; omega)
     refine Sat.cutAll (by kernel_rfl) ?_
     simp (disch := omega) only [push_cast, go_sem, zA, simprocAttr]
     refine Sat.freezeC 4 [] 0 0 rfl rfl rfl ?_
     rw [show (V.own 0 none 0 []).fz = .sl [] from rfl]
     refine Sat.of (S := []) (by kernel_rfl) ?_
     simp (disch := omega) only [push_cast, go_sem, zA, simprocAttr, boxP_eq]
     rw [wallR, hno]
     rfl
    ·simp (disch := omega) only [push_cast, go_sem, zA, simprocAttr, h0, hj0, hk1, hk2, hy, hyz]
     refine hJ (k + 1) _ _ ⟨by omega, yes (by rw [gatB, hz, hkj, hy]; simp only [hin, hk0]; simp; omega)⟩ (by omega) ?_
     (refine zB ?_; repeat (first | exact zC | exact zD | refine zE (by decide) ?_ | refine zF ?_ ?_ | refine zG ?_ ?_)) <;> (try simp (disch := omega) only [push_cast, go_sem, zA, simprocAttr])
 ·have : k = zs.length := by omega
  subst this
  refine Sat.of (S := []) (by kernel_rfl) ?_
  by_cases hn : gapsV p < 0
  ·simp (disch := omega) only [push_cast, go_sem, zA, simprocAttr, hn]
   have hno : wallOk p zs = false := by
    cases hok : progOk p
    ·simp only [wallOk, hok, Bool.false_and]
    ·rw [gapsV, hok, if_pos rfl] at hn; omega
   refine Sat.cutAll (by kernel_rfl) ?_
   simp (disch := omega) only [push_cast, go_sem, zA, simprocAttr]
   refine Sat.freezeC 4 [] 0 0 rfl rfl rfl ?_
   rw [show (V.own 0 none 0 []).fz = .sl [] from rfl]
   refine Sat.of (S := []) (by kernel_rfl) ?_
   simp (disch := omega) only [push_cast, go_sem, zA, simprocAttr, boxP_eq]
   rw [wallR, hno]
   rfl
  have hok : progOk p = true := by
   cases hok : progOk p
   ·rw [gapsV, hok] at hn; simp at hn
   ·rfl
  simp (disch := omega) only [push_cast, go_sem, zA, simprocAttr, hn, boxP_eq]
  intro g9
  rw [gapsV, hok, if_pos rfl] at hc
  refine Sat.loop (σ := (Nat × Option Nat × Nat) × Nat) (fun x => upd (upd (upd (upd (upd (upd (upd (upd noT 1 (.sl (zs.map (V.int .i64)))) 4 (.ptr 4 [] 0 0 g4 1)) 5 (.bool false)) 9 (.ptr 9 [] 0 0 g9 1)) 10 (.int .i64 (gapsP (p.take x.2)))) 49 (.sl (p.map thrV))) 50 (.int .i64 p.length)) 51 (.int .i64 x.2))
   (fun x => (noM.set 4 (.own 25 (some g4) 1 [.agg [.own 0 none 0 []]])).set 9 (.own 25 (some g9) 1 [.agg [.own x.1.1 x.1.2.1 x.1.2.2 ((wlP zs.contains (p.take x.2) 0).map thrV)]]))
   (fun x => x.2 ≤ p.length ∧ (x.1.2.1 = none ∨ x.1.1 = 38)) (fun x => p.length - x.2) ((0, none, 0), 0) (by simp) ?_ ?_
  ·(refine zB ?_; repeat (first | exact zC | exact zD | refine zE (by decide) ?_ | refine zF ?_ ?_ | refine zG ?_ ?_)) <;> (try simp (disch := omega) only [push_cast, go_sem, zA, simprocAttr])
   all_goals simp [gapsP, wlP]
  rintro ⟨⟨eo, γo, co⟩, i⟩ ⟨k1, k3⟩ J1 hJ1
  refine Sat.of (S := [15]) (by kernel_rfl) ?_
  simp only at k1 k3 hJ1
  have hbi := hb i
  have hxl : (wlP zs.contains (p.take i) 0).length = i := by rw [wlP_len, List.length_take]; omega
  rcases Nat.lt_or_ge i p.length with hlt | hge
  ·obtain ⟨l, he⟩ : ∃ l, p[i]? = some l := ⟨_, List.getElem?_eq_getElem hlt⟩
   have hll := hl l (List.mem_of_getElem? he)
   simp (disch := omega) only [push_cast, go_sem, zA, simprocAttr, he, hlt, thrV_eq]
   refine Sat.cutAll (by kernel_rfl) ?_
   simp (disch := omega) only [push_cast, go_sem, zA, simprocAttr]
   refine Sat.seq fun K' hK => ?_
   refine Sat.of (S := []) (by kernel_rfl) ?_
   simp (disch := omega) only [push_cast, go_sem, zA, simprocAttr]
   refine Sat.loop (σ := (Nat × Option Nat × Nat) × Nat) (fun y => upd (upd (upd (upd (upd (upd (upd (upd (upd (upd (upd (upd noT 1 (.sl (zs.map (V.int .i64)))) 4 (.ptr 4 [] 0 0 g4 1)) 5 (.bool false)) 9 (.ptr 9 [] 0 0 g9 1)) 10 (.int .i64 (gapsP (p.take i) + (y.2 - 1) : Nat))) 49 (.sl (p.map thrV))) 50 (.int .i64 p.length)) 51 (.int .i64 i)) 13 (.msl 13 [] y.1.2.1 (implK zs.contains l (gapsP (p.take i)) y.2).length y.1.2.2)) 55 (.sl (l.map Do.V))) 56 (.int .i64 l.length)) 57 (.int .i64 y.2))
    (fun y => ((noM.set 4 (.own 25 (some g4) 1 [.agg [.own 0 none 0 []]])).set 9 (.own 25 (some g9) 1 [.agg [.own eo γo co ((wlP zs.contains (p.take i) 0).map thrV)]])).set 13 (.own y.1.1 y.1.2.1 y.1.2.2 ((implK zs.contains l (gapsP (p.take i)) y.2).map Do.V)))
    (fun y => y.2 ≤ l.length ∧ (y.1.2.1 = none ∨ y.1.1 = 40)) (fun y => l.length - y.2) ((0, none, 0), 0) (by simp) ?_ ?_
   ·(refine zB ?_; repeat (first | exact zC | exact zD | refine zE (by decide) ?_ | refine zF ?_ ?_ | refine zG ?_ ?_)) <;> (try simp (disch := omega) only [push_cast, go_sem, zA, simprocAttr])
    all_goals simp [implK]
   rintro ⟨⟨e, γ, c⟩, j⟩ ⟨hj, hγ⟩ J2 hJ2
   simp only at hj hγ hJ2
   refine Sat.of (S := []) (by kernel_rfl) ?_
   have hwl := implK_len (G := zs.contains) (l := l) (a := gapsP (p.take i)) j
   have hγ' : (γ = none ∨ e = 40) = True := by simp only [hγ]
   rcases Nat.lt_or_ge j l.length with hlj | hgj
   ·obtain ⟨d, hd⟩ : ∃ d, l[j]? = some d := ⟨_, List.getElem?_eq_getElem hlj⟩
    rcases Nat.eq_zero_or_pos j with h0 | h0
    ·have hj0 : ((0 : Int) < j) = False := by simp; omega
     have e3 : implK zs.contains l (gapsP (p.take i)) (j + 1) = implK zs.contains l (gapsP (p.take i)) j ++ [d] := by
      subst h0; rw [implK_0 hd]; rfl
     simp (disch := omega) only [push_cast, go_sem, zA, simprocAttr, hd, hlj, Do.V_eq, hγ', hj0]
     refine fun g15 g75 => ⟨by omega, fun γ2 c2 _ => ?_⟩
     refine hJ2 ((40, γ2, c2), j + 1) _ _ ⟨by dsimp only; omega, .inr rfl⟩ (by dsimp only; omega) ?_
     dsimp only
     rw [e3, List.length_append, List.map_append]
     (refine zB ?_; repeat (first | exact zC | exact zD | refine zE (by decide) ?_ | refine zF ?_ ?_ | refine zG ?_ ?_)) <;> (try simp (disch := omega) only [push_cast, go_sem, zA, simprocAttr])
     all_goals first | rfl | omega
    ·obtain ⟨k, hjk⟩ : ∃ k, j = k + 1 := ⟨j - 1, by omega⟩
     have hj0 : ((0 : Int) < j) = True := by simp; omega
     have hk1 : j - 1 = k := by omega
     have hd' := hd
     rw [hjk] at hd'
     cases hh : zs.contains ((gapsP (p.take i) : Int) + k)
     ·have e3 := implK_no (G := zs.contains) (a := gapsP (p.take i)) hd' hh
      rw [← hjk] at e3
      simp (disch := omega) only [push_cast, go_sem, zA, simprocAttr, hd, hlj, Do.V_eq, hγ', hj0, hk1]
      intro g15
      refine callR.pure (hhas _) rfl rfl ?_
      simp (disch := omega) only [push_cast, go_sem, zA, simprocAttr, hh, hγ']
      refine fun g75 => ⟨by omega, fun γ2 c2 _ => ?_⟩
      refine hJ2 ((40, γ2, c2), j + 1) _ _ ⟨by dsimp only; omega, .inr rfl⟩ (by dsimp only; omega) ?_
      dsimp only
      rw [e3, List.length_append, List.map_append]
      (refine zB ?_; repeat (first | exact zC | exact zD | refine zE (by decide) ?_ | refine zF ?_ ?_ | refine zG ?_ ?_)) <;> (try simp (disch := omega) only [push_cast, go_sem, zA, simprocAttr])
      all_goals first | rfl | omega
     ·have e3 := implK_yes (G := zs.contains) (a := gapsP (p.take i)) hd' hh
      rw [← hjk] at e3
      simp (disch := omega) only [push_cast, go_sem, zA, simprocAttr, hd, hlj, Do.V_eq, hγ', hj0, hk1]
      intro g15
      refine callR.pure (hhas _) rfl rfl ?_
      simp (disch := omega) only [push_cast, go_sem, zA, simprocAttr, hh, hγ']
      refine fun g69 => ⟨by omega, fun γ1 c1 _ => ?_⟩
      refine fun g75 => ⟨by omega, fun γ2 c2 _ => ?_⟩
      refine hJ2 ((40, γ2, c2), j + 1) _ _ ⟨by dsimp only; omega, .inr rfl⟩ (by dsimp only; omega) ?_
      dsimp only
      rw [e3, List.length_append, List.length_append, List.map_append, List.map_append]
      (refine zB ?_; repeat (first | exact zC | exact zD | refine zE (by decide) ?_ | refine zF ?_ ?_ | refine zG ?_ ?_)) <;> (try simp (disch := omega) only [push_cast, go_sem, zA, simprocAttr])
      all_goals first | rfl | omega
   ·have : j = l.length := by omega
    subst this
    have k3' : (γo = none ∨ eo = 38) = True := by simp only [k3]
    have hgp := gapsP_get he
    simp (disch := omega) only [push_cast, go_sem, zA, simprocAttr]
    refine hK _ _ ?_
    refine Sat.freezeT (upd (upd (upd (upd (upd (upd (upd (upd (upd noT 1 (.sl (zs.map (V.int .i64)))) 4 (.ptr 4 [] 0 0 g4 1)) 5 (.bool false)) 9 (.ptr 9 [] 0 0 g9 1)) 10 (.int .i64 (gapsP (p.take (i + 1))))) 49 (.sl (p.map thrV))) 50 (.int .i64 p.length)) 51 (.int .i64 i)) 13 (thrV (implK zs.contains l (gapsP (p.take i)) l.length)))
     ((noM.set 4 (.own 25 (some g4) 1 [.agg [.own 0 none 0 []]])).set 9 (.own 25 (some g9) 1 [.agg [.own eo γo co ((wlP zs.contains (p.take i) 0).map thrV)]])) 13 (e := e) (γ := γ) (cap := c) (es := (implK zs.contains l (gapsP (p.take i)) l.length).map Do.V) rfl ?_ ?_
    ·rw [hgp]
     (refine zB ?_; repeat (first | exact zC | exact zD | refine zE (by decide) ?_ | refine zF ?_ ?_ | refine zG ?_ ?_)) <;> (try simp (disch := omega) only [push_cast, go_sem, zA, simprocAttr])
     all_goals first | rfl | omega | simp [thrV]
    refine Sat.of (S := []) (by kernel_rfl) ?_
    simp (disch := omega) only [push_cast, go_sem, zA, simprocAttr, k3', thrV_eq]
    refine fun g81 => ⟨by omega, fun γ2 c2 _ => ?_⟩
    refine hJ1 ((38, γ2, c2), i + 1) _ _ ⟨by dsimp only; omega, .inr rfl⟩ (by dsimp only; omega) ?_
    dsimp only
    rw [take_get he, wlP_app, wlP, wlP, wlT_impl, Int.zero_add, List.map_append]
    (refine zB ?_; repeat (first | exact zC | exact zD | refine zE (by decide) ?_ | refine zF ?_ ?_ | refine zG ?_ ?_)) <;> (try simp (disch := omega) only [push_cast, go_sem, zA, simprocAttr])
    all_goals first | rfl | omega | simp [thrV]
  ·have : i = p.length := by omega
   subst this
   rw [List.take_length] at hxl ⊢
   simp (disch := omega) only [push_cast, go_sem, zA, simprocAttr]
   refine Sat.freezeC 9 [] 0 0 (d := .own eo γo co ((wlP zs.contains p 0).map thrV)) rfl rfl rfl ?_
   rw [fz_thr]
   have h3 := implProgOk_fn (wlP zs.contains p 0) (by omega) (fun l h => by
    have := wlP_rows _ p 0 (n := 2 ^ 11) (fun l h => by have := hl l h; omega) l h
    omega)
   rw [progV_eq] at h3
   refine Sat.of (S := [28]) (by kernel_rfl) ?_
   simp (disch := omega) only [push_cast, go_sem, zA, simprocAttr]
   refine callR.pure h3 rfl rfl ?_
   cases hok2 : progOk (wlP zs.contains p 0)
   ·simp (disch := omega) only [push_cast, go_sem, zA, simprocAttr]
    refine Sat.cutAll (by kernel_rfl) ?_
    simp (disch := omega) only [push_cast, go_sem, zA, simprocAttr]
    refine Sat.freezeC 4 [] 0 0 rfl rfl rfl ?_
    rw [show (V.own 0 none 0 []).fz = .sl [] from rfl]
    refine Sat.of (S := []) (by kernel_rfl) ?_
    simp (disch := omega) only [push_cast, go_sem, zA, simprocAttr]
    have hno : wallOk p zs = false := by simp only [wallOk, hok2, Bool.and_false]
    rw [wallR, hno]
    rfl
   ·simp (disch := omega) only [push_cast, go_sem, zA, simprocAttr]
    have hyes : wallOk p zs = true := by simp only [wallOk, hok, hc, hok2, Bool.true_and]
    rw [wallR, hyes, if_pos rfl]
end
section
open Go.RowKit
section
variable {P : Program} {M : Mem} {k : V → Mem → Prop}
theorem callR.peekL {f : FuncId} (xs : List V) {a l cp : Nat} {γ : Option Nat} {o v : V} {d : Nat} (h : Fc P f (xs ++ [.msl xs.length [] γ l cp]) (noM.set xs.length o) fun r m => r = v ∧ m = noM.set xs.length o) (hM : M a = some o)
  (hk : (xs.all fun v => v.key.isNone) = true) (h9 : Nat.ble (xs.length + 1) 90 = true) (hK : runV (some (True, det (resN (some d) v) M)) k .mk) : callR P f (xs ++ [.msl a [] γ l cp]) (some d) M k .mk := by
 have h90 := Nat.le_of_ble_eq_true h9
 have hk' : ((xs.map V.key).all fun x => x.isNone) = true := by rw [List.all_map]; exact hk
 have hks : (xs ++ [V.msl a [] γ l cp]).map V.key = xs.map V.key ++ [some a] := by rw [List.map_append]; rfl
 have hlen : (xs.map V.key).length = xs.length := List.length_map ..
 have hren : renArgs 0 (xs ++ [.msl a [] γ l cp]) = xs ++ [.msl xs.length [] γ l cp] := by
  rw [renArgs_app hk, Nat.zero_add]; rfl
 have hm : mergeM M ((xs ++ [V.msl a [] γ l cp]).map V.key) (some d) (noM.set xs.length o) = M := by
  have e1 : (noM.set xs.length o) 100 = none := by simp [Mem.set, noM]; omega
  have e2 : (noM.set xs.length o) xs.length = some o := by simp [Mem.set]
  rw [hks, merge_eq, e1, mgD_none', mg_skip hk', Nat.zero_add, hlen, mg_some, e2, mg_nil, MemU_some, set_self hM]
 refine callR.intro (F := noM.set xs.length o) (R := fun r m => r = v ∧ m = noM.set xs.length o) (by rw [hren]; exact h) ?_ (by simp; omega) ?_ ?_
 ·rw [hks, List.filterMap_append, keys_none hk', List.nil_append]
  simp [List.filterMap_cons]
 ·rw [hks]
  refine Sub.set Sub.no ?_
  have := foot_at (M := M) (xs := xs.map V.key) (ks := [some a]) (j := 0)
  rw [hlen, Nat.add_zero] at this
  rw [this]; exact hM
 ·rintro r0 Mf ⟨rfl, rfl⟩
  rw [hm]
  exact (runV_det.1 hK).2
end
def upTo (n : Nat) : List Int := (List.range n).map fun i : Nat => (i : Int)
theorem upTo_len (n : Nat) : (upTo n).length = n := by simp [upTo]
theorem upTo_succ (n : Nat) : upTo (n + 1) = upTo n ++ [(n : Int)] := by simp [upTo, List.range_succ]
theorem upTo_has {n k : Nat} (h : k < n) : (upTo n).contains (k : Int) = true := by
 rw [List.contains_iff_mem, upTo, List.mem_map]
 exact ⟨k, by simpa using h, rfl⟩
def gapsN (p : Prog) : Nat := (gapsV p).toNat
theorem specWallAll_fn (p : Prog) (hp : p.length < 2 ^ 20) (hl : ∀ l ∈ p, l.length < 2 ^ 11) : Fp Tryz.prog 28 [progV p] (.tuple [progV (wallR p (upTo (gapsN p))), .bool (wallOk p (upTo (gapsN p)))]) := by
 have h1 := specWallGaps_fn p hp hl
 rw [progV_eq] at h1
 have hgv : gapsV p < 2 ^ 38 ∧ -1 ≤ gapsV p := by
  have := gapsP_le (p := p) (n := 2 ^ 11) (fun l h => by have := hl l h; omega) p.length
  rw [List.take_length] at this
  unfold gapsV
  split <;> omega
 have hgn : (gapsN p : Int) = if gapsV p < 0 then 0 else gapsV p := by unfold gapsN; split <;> omega
 refine Fc.start (S := [6]) Tryz.func28 Tryz.ntmps28 Tryz.results28 rfl (by decide) rfl (by kernel_rfl) ?_
 simp (disch := omega) only [push_cast, go_sem, zA, simprocAttr, progV_eq]
 intro g1 g2 g6
 refine Sat.loop (σ := (Option Nat × Nat) × Nat) (fun x => upd (upd (upd (upd (upd noT 1 (.ptr 1 [] 0 0 g1 1)) 2 (.ptr 2 [] 0 0 g2 1)) 3 (.bool false)) 4 (.msl 4 [] x.1.1 x.2 x.1.2)) 5 (.int .i64 x.2))
  (fun x => ((noM.set 1 (boxP p g1)).set 2 (.own 25 (some g2) 1 [.agg [.own 0 none 0 []]])).set 4 (.own 3 x.1.1 x.1.2 ((upTo x.2).map (V.int .i64))))
  (fun x => x.2 ≤ gapsN p) (fun x => gapsN p - x.2) ((some g6, 0), 0) (by simp) ?_ ?_
 ·(refine zB ?_; repeat (first | exact zC | exact zD | refine zE (by decide) ?_ | refine zF ?_ ?_ | refine zG ?_ ?_)) <;> (try simp (disch := omega) only [push_cast, go_sem, zA, simprocAttr])
  all_goals simp [boxP, upTo]
 rintro ⟨⟨γ, c⟩, i⟩ hi J hJ
 simp only at hi hJ
 refine Sat.of (S := []) (by kernel_rfl) ?_
 simp (disch := omega) only [push_cast, go_sem, zA, simprocAttr, boxP_eq]
 refine callR.pure h1 rfl rfl ?_
 rcases Nat.lt_or_ge i (gapsN p) with hlt | hge
 ·have hlt' : ((i : Int) < gapsV p) = True := by simp; split at hgn <;> omega
  simp (disch := omega) only [push_cast, go_sem, zA, simprocAttr, hlt']
  have hul := upTo_len i
  refine fun g15 => ⟨by omega, fun γ2 c2 _ => ?_⟩
  refine hJ ((γ2, c2), i + 1) _ _ (by dsimp only; omega) (by dsimp only; omega) ?_
  dsimp only
  rw [upTo_succ, List.map_append]
  (refine zB ?_; repeat (first | exact zC | exact zD | refine zE (by decide) ?_ | refine zF ?_ ?_ | refine zG ?_ ?_)) <;> (try simp (disch := omega) only [push_cast, go_sem, zA, simprocAttr])
  all_goals first | rfl | omega | exact upTo_len i | (simp [boxP, upTo_len]; done)
 ·have : i = gapsN p := by omega
  subst this
  have hlt' : (((gapsN p : Nat) : Int) < gapsV p) = False := by simp; split at hgn <;> omega
  simp (disch := omega) only [push_cast, go_sem, zA, simprocAttr, hlt']
  refine Sat.of (S := []) (by kernel_rfl) ?_
  have h2 := specWallPut_fn p (upTo (gapsN p)) γ c hp hl (by rw [upTo_len]; split at hgn <;> omega)
  rw [progV_eq, progV_eq, upTo_len] at h2
  simp (disch := omega) only [push_cast, go_sem, zA, simprocAttr]
  refine callR.peekL [.agg [.sl (p.map thrV)]] h2 rfl rfl rfl ?_
  simp (disch := omega) only [push_cast, go_sem, zA, simprocAttr, progV_eq]
  done
theorem implWallAll_fn (p : Prog) (hp : p.length < 2 ^ 20) (hl : ∀ l ∈ p, l.length < 2 ^ 11) : Fp Tryz.prog 27 [progV p] (.tuple [progV (wallR p (upTo (gapsN p))), .bool (wallOk p (upTo (gapsN p)))]) := by
 have h1 := implWallGaps_fn p hp hl
 rw [progV_eq] at h1
 have hgv : gapsV p < 2 ^ 38 ∧ -1 ≤ gapsV p := by
  have := gapsP_le (p := p) (n := 2 ^ 11) (fun l h => by have := hl l h; omega) p.length
  rw [List.take_length] at this
  unfold gapsV
  split <;> omega
 have hgn : (if (0 : Int) > gapsV p then 0 else gapsV p) = (gapsN p : Int) := by unfold gapsN; split <;> omega
 refine Fc.start (S := [7]) Tryz.func27 Tryz.ntmps27 Tryz.results27 rfl (by decide) rfl (by kernel_rfl) ?_
 simp (disch := omega) only [push_cast, go_sem, zA, simprocAttr, progV_eq]
 intro g1 g2
 refine callR.pure h1 rfl rfl ?_
 simp (disch := omega) only [push_cast, go_sem, zA, simprocAttr, hgn]
 refine Sat.loop (σ := (Nat × Option Nat × Nat) × Nat) (fun x => upd (upd (upd (upd (upd (upd noT 1 (.ptr 1 [] 0 0 g1 1)) 2 (.ptr 2 [] 0 0 g2 1)) 3 (.bool false)) 4 (.msl 4 [] x.1.2.1 x.2 x.1.2.2)) 8 (.int .i64 (gapsN p))) 9 (.int .i64 x.2))
  (fun x => ((noM.set 1 (boxP p g1)).set 2 (.own 25 (some g2) 1 [.agg [.own 0 none 0 []]])).set 4 (.own x.1.1 x.1.2.1 x.1.2.2 ((upTo x.2).map (V.int .i64))))
  (fun x => x.2 ≤ gapsN p ∧ (x.1.2.1 = none ∨ x.1.1 = 3)) (fun x => gapsN p - x.2) ((0, none, 0), 0) (by simp) ?_ ?_
 ·(refine zB ?_; repeat (first | exact zC | exact zD | refine zE (by decide) ?_ | refine zF ?_ ?_ | refine zG ?_ ?_)) <;> (try simp (disch := omega) only [push_cast, go_sem, zA, simprocAttr])
  all_goals simp [boxP, upTo]
 rintro ⟨⟨e, γ, c⟩, i⟩ ⟨hi, hγ⟩ J hJ
 simp only at hi hγ hJ
 refine Sat.of (S := []) (by kernel_rfl) ?_
 have hγ' : (γ = none ∨ e = 3) = True := by simp only [hγ]
 have hul := upTo_len i
 rcases Nat.lt_or_ge i (gapsN p) with hlt | hge
 ·simp (disch := omega) only [push_cast, go_sem, zA, simprocAttr, hlt, hγ']
  refine fun g14 => ⟨by omega, fun γ2 c2 _ => ?_⟩
  refine hJ ((3, γ2, c2), i + 1) _ _ ⟨by dsimp only; omega, .inr rfl⟩ (by dsimp only; omega) ?_
  dsimp only
  rw [upTo_succ, List.map_append]
  (refine zB ?_; repeat (first | exact zC | exact zD | refine zE (by decide) ?_ | refine zF ?_ ?_ | refine zG ?_ ?_)) <;> (try simp (disch := omega) only [push_cast, go_sem, zA, simprocAttr])
  all_goals first | rfl | omega | exact upTo_len i | (simp [boxP, upTo_len]; done)
 ·have : i = gapsN p := by omega
  subst this
  simp (disch := omega) only [push_cast, go_sem, zA, simprocAttr]
  have h2 := implWallPut_fn p (upTo (gapsN p)) hp hl (by rw [upTo_len]; split at hgn <;> omega)
  rw [progV_eq, progV_eq, intsV_eq] at h2
  refine Sat.freezeT (upd (upd (upd (upd noT 1 (.ptr 1 [] 0 0 g1 1)) 2 (.ptr 2 [] 0 0 g2 1)) 3 (.bool false)) 4 (.sl ((upTo (gapsN p)).map (V.int .i64))))
   ((noM.set 1 (boxP p g1)).set 2 (.own 25 (some g2) 1 [.agg [.own 0 none 0 []]])) 4 (e := e) (γ := γ) (cap := c) (es := (upTo (gapsN p)).map (V.int .i64)) rfl ?_ ?_
  ·(refine zB ?_; repeat (first | exact zC | exact zD | refine zE (by decide) ?_ | refine zF ?_ ?_ | refine zG ?_ ?_)) <;> (try simp (disch := omega) only [push_cast, go_sem, zA, simprocAttr])
   all_goals first | rfl | simp [upTo]
  refine Sat.of (S := []) (by kernel_rfl) ?_
  simp (disch := omega) only [push_cast, go_sem, zA, simprocAttr, boxP_eq]
  refine callR.pure h2 rfl rfl ?_
  simp (disch := omega) only [push_cast, go_sem, zA, simprocAttr, progV_eq]
def DrawnP (r : V) : Prop := ∃ p : Prog, r = progV p ∧ p.length ≤ 3 ∧ (∀ l ∈ p, l.length < 2 ^ 11)
theorem DrawWallAll_fn (bs : List Int) (hb : Code8 bs) (hl : bs.length < 2 ^ 40) : Fc Tryz.prog 26 [codeV bs] noM (fun r m => DrawnP r ∧ m = noM) := by
 refine Fc.start (S := []) Tryz.func26 Tryz.ntmps26 Tryz.results26 rfl (by decide) rfl (by kernel_rfl) ?_
 simp (disch := omega) only [push_cast, go_sem, zA, simprocAttr, codeV_eq]
 intro g2
 refine callR.new (l6Open_fn bs hl) rfl rfl ?_
 rintro r ob ⟨g, rfl, rfl⟩
 simp (disch := omega) only [push_cast, go_sem, zA, simprocAttr]
 refine callR.rd (l71Any_rd (bs.take 2000) hb.take g 0 (by omega)) rfl rfl rfl ?_
 rintro r o' ⟨x, rfl, hx1, hx2, q, hq1, hq2, rfl⟩
 simp (disch := omega) only [push_cast, go_sem, zA, simprocAttr, progV_eq]
 exact ⟨x, rfl, hx1, hx2⟩
end
end Go.Proofs.YtkdolbffabmemaaGreatDoor
