/-
 Contracts and plain laws.
-/
import Derived.Test.YtkdolbffabmemaaGreatDoorKa
import Derived.Test.YtkdolbffabmemaaGreatDoorKc
import Derived.Test.YtkdolbffabmemaaGreatDoorKf
import Derived.Test.YtkdolbffabmemaaGreatDoorKk
import Derived.Test.YtkdolbffabmemaaGreatDoorRows
import Derived.ProofKit
import Derived.OpenShut
import Derived.ChangeSlices
import Derived.JoinedOf
import Derived.JoinedAt
import Derived.Deep.DeepHandedRow
import Derived.Lib.LaidTab
import Derived.Test.YtkdolbffabmemaaGreatDoorCards
import Derived.Test.YtkdolbffabmemaaGreatDoorTie
set_option linter.unusedSimpArgs false
set_option linter.unusedVariables false
set_option linter.unusedSectionVars false
namespace Go.Proofs.YtkdolbffabmemaaGreatDoor
section
open Go.RowKit
end
section
open Go.RowKit
section
variable {A B : List Fra} {p q : Prog} {t : Int} {d : Do}
end
end
section
open Go.RowKit
def wallD : Do := ⟨4, 0, 0⟩
inductive WI : List Do → List Do → Prop
 | nil : WI [] []
 | keep {l l' : List Do} (d : Do) : WI l l' → WI (d :: l) (d :: l')
 | wall {l l' : List Do} : WI l l' → WI l (wallD :: l')
theorem WI.app {a a' b b' : List Do} (h : WI a a') (h' : WI b b') : WI (a ++ b) (a' ++ b') := by
 induction h with
 | nil => exact h'
 | keep d _ ih => exact .keep d ih
 | wall _ ih => exact .wall ih
theorem WI.len {l l' : List Do} (h : WI l l') : l.length ≤ l'.length := by
 induction h with
 | nil => simp
 | keep d _ ih => simp; omega
 | wall _ ih => simp; omega
inductive WIp : Prog → Prog → Prop
 | nil : WIp [] []
 | cons {l l' : List Do} {p q : Prog} : WI l l' → WIp p q → WIp (l :: p) (l' :: q)
theorem WIp.app {a a' b b' : Prog} (h : WIp a a') (h' : WIp b b') : WIp (a ++ b) (a' ++ b') := by
 induction h with
 | nil => exact h'
 | cons h _ ih => exact .cons h ih
def isW (y : Fra) : Prop := y.d = wallD
theorem WI.em {t : Nat} {l l' : List Do} (h : WI l l') {X Y : List Fra} (hx : ∃ f, Em (fun x y => y = x) isW X Y f) : ∃ f, Em (fun x y => y = x) isW (thF t l ++ X) (thF t l' ++ Y) f := by
 induction h with
 | nil => exact hx
 | keep d _ ih =>
  rw [thF_cons, thF_cons, List.append_assoc, List.append_assoc]
  exact Em.same (R := fun x y => y = x) (fun _ => rfl) _ ih
 | wall _ ih =>
  obtain ⟨f, hf⟩ := ih
  rw [thF_cons]
  exact ⟨_, hf.new (y := ⟨t, wallD, false⟩) rfl⟩
theorem WIp.em {p q : Prog} (h : WIp p q) : ∀ t, ∃ f, Em (fun x y => y = x) isW (evF t p) (evF t q) f := by
 induction h with
 | nil => intro t; exact ⟨_, Em.nil⟩
 | cons h _ ih =>
  intro t
  rw [evF, evF]
  exact h.em (ih (t + 1))
section
variable {p q : Prog} {f : Nat → Nat}
theorem em_alk (h : Em (fun x y => y = x) isW (evF 0 p) (evF 0 q) f) : Em Alk isW (evF 0 p) (evF 0 q) f :=
 ⟨h.1, fun i x hx => by obtain ⟨y, h1, h2⟩ := h.2.1 i x hx; exact ⟨y, h1, by rw [h2]; exact Alk.refl x⟩, h.2.2⟩
theorem isW_facts {y : Fra} (h : isW y) : y.d.uses = false ∧ y.d.k ≠ 7 ∧ y.d.k ≠ 8 ∧ (y.d.k ≠ 9 ∨ y.l = true) := by
 rw [isW] at h
 rw [h]
 exact ⟨rfl, by decide, by decide, .inl (by decide)⟩
theorem em_pe (okp : progOk p = true) (okq : progOk q = true) (h : Em (fun x y => y = x) isW (evF 0 p) (evF 0 q) f) : PE p q f := PE.ofEm okp okq (em_alk h) fun y hy => isW_facts hy
theorem em_pek (h : Em (fun x y => y = x) isW (evF 0 p) (evF 0 q) f) : PEk p q f := PEk.of fun i x hx => by
 obtain ⟨y, h1, h2⟩ := h.2.1 i x hx
 exact ⟨y, h1, by rw [h2]; exact KLe.refl x⟩
theorem em_hnu (h : Em (fun x y => y = x) isW (evF 0 p) (evF 0 q) f) : ∀ j, j < (events q).length → (∃ i, i < (events p).length ∧ f i = j) ∨ (dsA q j).uses = false := (em_alk h).hnu fun y hy => (isW_facts hy).1
theorem wall_within (hw : WIp p q) (okp : progOk p = true) {k : Int} {s : Sn} (hs : s ∈ ordAll q k) : s ∈ ordAll p k := by
 obtain ⟨f, hf⟩ := hw.em 0
 exact within_of (em_pe okp (mem_ordW.1 hs).1 hf) (em_pek hf) (em_hnu hf) hs
end
def wlK (G : Int → Bool) (l : List Do) (a : Int) : Nat → List Do
 | 0 => []
 | k + 1 => wlK G l a k ++ (match l[k]? with | some d => d :: (if decide (k + 1 < l.length) && G (a + k) then [wallD] else []) | none => [])
def wlT (G : Int → Bool) (l : List Do) (a : Int) : List Do := wlK G l a l.length
def wlP (G : Int → Bool) : Prog → Int → Prog
 | [], _ => []
 | l :: p, a => wlT G l a :: wlP G p (a + ((l.length - 1 : Nat) : Int))
def gapsT (l : List Do) : Nat := l.length - 1
def gapsP (p : Prog) : Nat := (p.map gapsT).sum
theorem wlK_wi (G : Int → Bool) (l : List Do) (a : Int) : ∀ k, WI (l.take k) (wlK G l a k)
 | 0 => by rw [List.take_zero]; exact .nil
 | k + 1 => by
  have ih := wlK_wi G l a k
  rw [wlK]
  cases hd : l[k]? with
  | none =>
   have : l.length ≤ k := by rwa [List.getElem?_eq_none_iff] at hd
   rw [List.take_of_length_le (by omega)] at ih ⊢
   simpa using ih
  | some d =>
   rw [take_get hd]
   refine ih.app (.keep d ?_)
   split
   ·exact .wall .nil
   ·exact .nil
theorem wlT_wi (G : Int → Bool) (l : List Do) (a : Int) : WI l (wlT G l a) := by
 have := wlK_wi G l a l.length
 rwa [List.take_length] at this
theorem wlP_wi (G : Int → Bool) : ∀ (p : Prog) (a : Int), WIp p (wlP G p a)
 | [], _ => .nil
 | l :: p, a => .cons (wlT_wi G l a) (wlP_wi G p _)
theorem wlK_len (G : Int → Bool) (l : List Do) (a : Int) : ∀ k, (wlK G l a k).length ≤ 2 * k
 | 0 => by simp [wlK]
 | k + 1 => by
  have ih := wlK_len G l a k
  rw [wlK, List.length_append]
  have : (match l[k]? with | some d => d :: (if decide (k + 1 < l.length) && G (a + k) then [wallD] else []) | none => []).length ≤ 2 := by
   split
   ·split <;> simp
   ·simp
  omega
theorem wlP_len (G : Int → Bool) : ∀ (p : Prog) (a : Int), (wlP G p a).length = p.length
 | [], _ => rfl
 | l :: p, a => by rw [wlP, List.length_cons, List.length_cons, wlP_len G p]
theorem wlP_rows (G : Int → Bool) : ∀ (p : Prog) (a : Int) {n : Nat}, (∀ l ∈ p, l.length ≤ n) → ∀ l ∈ wlP G p a, l.length ≤ 2 * n
 | [], _, _, _, l, h => by cases h
 | m :: p, a, n, hn, l, h => by
  rw [wlP] at h
  rcases List.mem_cons.1 h with rfl | h
  ·have := wlK_len G m a m.length
   have := hn m (by simp)
   rw [wlT]; omega
  ·exact wlP_rows G p _ (fun l h => hn l (by simp [h])) l h
theorem wlP_app (G : Int → Bool) : ∀ (a b : Prog) (n : Int), wlP G (a ++ b) n = wlP G a n ++ wlP G b (n + gapsP a)
 | [], b, n => by simp [wlP, gapsP]
 | l :: a, b, n => by
  rw [List.cons_append, wlP, wlP, wlP_app G a b, List.cons_append]
  have : gapsP (l :: a) = (l.length - 1) + gapsP a := by simp [gapsP, gapsT]
  rw [this, show n + ((l.length - 1 : Nat) : Int) + (gapsP a : Int) = n + ((l.length - 1 + gapsP a : Nat) : Int) by omega]
theorem gapsP_get {p : Prog} {i : Nat} {l : List Do} (h : p[i]? = some l) : gapsP (p.take (i + 1)) = gapsP (p.take i) + (l.length - 1) := by
 rw [take_get h]; simp [gapsP, gapsT]
theorem gapsP_le {p : Prog} {n : Nat} (hn : ∀ l ∈ p, l.length ≤ n) : ∀ i, gapsP (p.take i) ≤ n * i := by
 intro i
 induction i with
 | zero => simp [gapsP]
 | succ i ih =>
  cases hx : p[i]? with
  | none =>
   have : p.length ≤ i := by rwa [List.getElem?_eq_none_iff] at hx
   rw [List.take_of_length_le (by omega)] at ih ⊢
   rw [Nat.mul_succ]; omega
  | some l => rw [gapsP_get hx, Nat.mul_succ]; have := hn l (List.mem_of_getElem? hx); omega
end
section
open Go.RowKit
def gapsV (p : Prog) : Int := if progOk p then (gapsP p : Int) else -1
theorem specWallGaps_fn (p : Prog) (hp : p.length < 2 ^ 20) (hl : ∀ l ∈ p, l.length < 2 ^ 11) : Fp Tryz.prog 52 [progV p] (.int .i64 (gapsV p)) := by
 have h1 := specProgOk_fn p (by omega)
 rw [progV_eq] at h1
 have hb := gapsP_le (p := p) (n := 2 ^ 11) (fun l h => by have := hl l h; omega)
 rw [gapsV]
 refine Fc.start (S := [8]) Tryz.func52 Tryz.ntmps52 Tryz.results52 rfl (by decide) rfl (by kernel_rfl) ?_
 simp (disch := omega) only [push_cast, go_sem, zA, simprocAttr, progV_eq]
 intro g
 refine callR.pure h1 rfl rfl ?_
 cases hok : progOk p
 ·simp (disch := omega) only [push_cast, go_sem, zA, simprocAttr]
 simp (disch := omega) only [push_cast, go_sem, zA, simprocAttr]
 refine Sat.loop (σ := Nat) (fun i => upd (upd (upd noT 1 (.ptr 1 [] 0 0 g 1)) 4 (.int .i64 i)) 3 (.int .i64 (gapsP (p.take i)))) (fun _ => noM.set 1 (boxP p g))
  (fun i => i ≤ p.length) (fun i => p.length - i) 0 (by simp) ?_ ?_
 ·(refine zB ?_; repeat (first | exact zC | exact zD | refine zE (by decide) ?_ | refine zF ?_ ?_ | refine zG ?_ ?_)) <;> (try simp (disch := omega) only [push_cast, go_sem, zA, simprocAttr])
  all_goals simp [gapsP, boxP]
 rintro i hi J hJ
 refine Sat.of (S := []) (by kernel_rfl) ?_
 have hbi := hb i
 rcases Nat.lt_or_ge i p.length with hlt | hge
 ·obtain ⟨l, he⟩ : ∃ l, p[i]? = some l := ⟨_, List.getElem?_eq_getElem hlt⟩
  have hll := hl l (List.mem_of_getElem? he)
  have hg := gapsP_get he
  by_cases h0 : (l.length : Int) - 1 < 0
  ·have hl0 : l.length - 1 = 0 := by omega
   have hz : (l.length : Int) = 0 := by omega
   simp (disch := omega) only [push_cast, go_sem, zA, simprocAttr, he, hlt, boxP_eq, thrV_eq, h0, hz]
   refine hJ (i + 1) _ _ (by omega) (by omega) ?_
   rw [hg, hl0]
   (refine zB ?_; repeat (first | exact zC | exact zD | refine zE (by decide) ?_ | refine zF ?_ ?_ | refine zG ?_ ?_)) <;> (try simp (disch := omega) only [push_cast, go_sem, zA, simprocAttr])
   all_goals rfl
  ·simp (disch := omega) only [push_cast, go_sem, zA, simprocAttr, he, hlt, boxP_eq, thrV_eq, h0]
   have hz : (gapsP (p.take i) : Int) + ((l.length : Int) - 1) = ((gapsP (p.take (i + 1)) : Nat) : Int) := by rw [hg]; omega
   rw [hz]
   refine hJ (i + 1) _ _ (by omega) (by omega) ?_
   (refine zB ?_; repeat (first | exact zC | exact zD | refine zE (by decide) ?_ | refine zF ?_ ?_ | refine zG ?_ ?_)) <;> (try simp (disch := omega) only [push_cast, go_sem, zA, simprocAttr])
   all_goals rfl
 ·have : i = p.length := by omega
  subst this
  rw [List.take_length]
  simp (disch := omega) only [push_cast, go_sem, zA, simprocAttr, boxP_eq]
  refine Sat.of (S := []) (by kernel_rfl) ?_
  simp (disch := omega) only [push_cast, go_sem, zA, simprocAttr]
end
section
open Go.RowKit
def gatB (zs : List Int) (most : Int) (k : Nat) : Bool := match zs[k]? with
 | some z => inB z 0 (most - 1) && (decide (k = 0) || (match zs[k - 1]? with | some y => decide (y < z) | none => true))
 | none => true
def gokB (zs : List Int) (most : Int) : Nat → Bool
 | 0 => true
 | k + 1 => gokB zs most k && gatB zs most k
theorem gokB_le {zs : List Int} {most : Int} {k : Nat} (h : gokB zs most k = false) : ∀ {j : Nat}, k ≤ j → gokB zs most j = false
 | 0, hj => by rw [Nat.le_zero.1 hj] at h; exact h
 | j + 1, hj => by
  rcases Nat.lt_or_ge j k with hh | hh
  ·have : k = j + 1 := by omega
   rw [← this]; exact h
  ·rw [gokB, gokB_le h hh]; rfl
theorem l21OkO_fn (zs : List Int) (most : Int) (γ : Option Nat) (c : Nat) (hl : zs.length < 2 ^ 40) (hm : -1 ≤ most) (hm2 : most < 2 ^ 40) : Fc Tryz.prog 101 [.msl 0 [] γ zs.length c, .int .i64 most] (noM.set 0 (.own 3 γ c (zs.map (V.int .i64)))) fun r m => r = .bool (gokB zs most zs.length) ∧ m = noM.set 0 (.own 3 γ c (zs.map (V.int .i64))) := by
 refine Fc.start (S := [6]) Tryz.func101 Tryz.ntmps101 Tryz.results101 rfl (by decide) rfl (by kernel_rfl) ?_
 simp (disch := omega) only [push_cast, go_sem, zA, simprocAttr]
 refine Sat.loop (σ := Nat) (fun k => upd (upd (upd (upd noT 0 (.msl 0 [] γ zs.length c)) 1 (.int .i64 most)) 4 (.bool false)) 5 (.int .i64 k)) (fun _ => noM.set 0 (.own 3 γ c (zs.map (V.int .i64))))
  (fun k => k ≤ zs.length ∧ gokB zs most k = true) (fun k => zs.length - k) 0 (by simp [gokB]) ?_ ?_
 ·(refine zB ?_; repeat (first | exact zC | exact zD | refine zE (by decide) ?_ | refine zF ?_ ?_ | refine zG ?_ ?_)) <;> (try simp (disch := omega) only [push_cast, go_sem, zA, simprocAttr])
 rintro k ⟨hk, hc⟩ J hJ
 rcases Nat.lt_or_ge k zs.length with hlt | hge
 ·refine Sat.someG (o := 0) (e := 3) (γ := γ) (cap := c) (es := zs.map (V.int .i64)) rfl (fun h => by have := congrArg List.length h; simp at this; subst this; simp at hlt) ?_
  rintro g rfl
  refine Sat.of (S := []) (by kernel_rfl) ?_
  obtain ⟨z, hz⟩ : ∃ z, zs[k]? = some z := ⟨_, List.getElem?_eq_getElem hlt⟩
  simp (disch := omega) only [push_cast, go_sem, zA, simprocAttr, hlt]
  have no : gatB zs most k = false → gokB zs most zs.length = false := fun h => gokB_le (k := k + 1) (by rw [gokB, h, Bool.and_false]) (by omega)
  have yes : gatB zs most k = true → gokB zs most (k + 1) = true := fun h => by rw [gokB, h, hc]; rfl
  refine Sat.drawnE [] [] (List.range 24) (pureT [(79, .bool (inB z 0 (most - 1)))]) (by kernel_rfl) (by kernel_rfl) ?_
  rcases Nat.eq_zero_or_pos k with h0 | h0
  ·have h1 : ((0 : Int) < k) = False := by simp; omega
   simp (disch := omega) only [push_cast, go_sem, zA, simprocAttr, hz, hlt]
   refine runD_pure rfl (l6In_fn z 0 (most - 1)) rfl rfl ?_ ?_
   ·rfl
   cases hin : inB z 0 (most - 1)
   ·simp (disch := omega) only [push_cast, go_sem, zA, simprocAttr, h1]
    exact ⟨_, Sub.rfl, by rw [no (by rw [gatB, hz]; simp only [hin, Bool.false_and])], rfl⟩
   ·simp (disch := omega) only [push_cast, go_sem, zA, simprocAttr, h1]
    have hz1 := yes (by rw [gatB, hz]; simp [hin, h0])
    refine hJ (k + 1) _ _ ⟨by omega, hz1⟩ (by omega) ?_
    (refine zB ?_; repeat (first | exact zC | exact zD | refine zE (by decide) ?_ | refine zF ?_ ?_ | refine zG ?_ ?_)) <;> (try simp (disch := omega) only [push_cast, go_sem, zA, simprocAttr])
  ·obtain ⟨j, hj⟩ : ∃ j, k = j + 1 := ⟨k - 1, by omega⟩
   obtain ⟨y, hy⟩ : ∃ y, zs[j]? = some y := ⟨_, List.getElem?_eq_getElem (by omega)⟩
   have hk1 : (k : Int) - 1 = j := by omega
   have hk2 : j < zs.length := by omega
   have hk0 : ¬ k = 0 := by omega
   have hkj : k - 1 = j := by omega
   have hj0 : ((0 : Int) < k) = True := by simp; omega
   simp (disch := omega) only [push_cast, go_sem, zA, simprocAttr, hz, hlt]
   refine runD_pure rfl (l6In_fn z 0 (most - 1)) rfl rfl ?_ ?_
   ·rfl
   cases hin : inB z 0 (most - 1)
   ·simp (disch := omega) only [push_cast, go_sem, zA, simprocAttr, hz, hlt, h0, hj0, hk1, hk2, hy]
    exact ⟨_, Sub.rfl, by rw [no (by rw [gatB, hz]; simp only [hin, Bool.false_and])], rfl⟩
   ·by_cases hyz : z ≤ y
    ·simp (disch := omega) only [push_cast, go_sem, zA, simprocAttr, hz, hlt, h0, hj0, hk1, hk2, hy, hyz]
     exact ⟨_, Sub.rfl, by rw [no (by rw [gatB, hz, hkj, hy]; simp only [hin, hk0]; simp; omega)], rfl⟩
    ·simp (disch := omega) only [push_cast, go_sem, zA, simprocAttr, hz, hlt, h0, hj0, hk1, hk2, hy, hyz]
     refine hJ (k + 1) _ _ ⟨by omega, yes (by rw [gatB, hz, hkj, hy]; simp only [hin, hk0]; simp; omega)⟩ (by omega) ?_
     (refine zB ?_; repeat (first | exact zC | exact zD | refine zE (by decide) ?_ | refine zF ?_ ?_ | refine zG ?_ ?_)) <;> (try simp (disch := omega) only [push_cast, go_sem, zA, simprocAttr])
 ·have : k = zs.length := by omega
  subst this
  refine Sat.of (S := []) (by kernel_rfl) ?_
  simp (disch := omega) only [push_cast, go_sem, zA, simprocAttr]
  refine Sat.of (S := []) (by kernel_rfl) ?_
  simp (disch := omega) only [push_cast, go_sem, zA, simprocAttr]
  exact ⟨_, Sub.rfl, by rw [hc], rfl⟩
end
section
open Go.RowKit
theorem Sat.cutAll {P : Program} {N id : Nat} {l : List Oper} {y : Code} {t : Nat → V} {M : Mem} {C : Kont} (hd : dstOk N ⟨l⟩ = true) (h : wpL P (l.map (·.dst)) l t M (fun t' M' => Sat P N y t' M' C)) : Sat P N (.seq (.region id ⟨l⟩ false) y) t M C := by
 intro imm0 w0 M0 imm a w hr
 refine wp_seq (Code.wp_mono (Q := fun e a' w' => e = .normal ∧ ∃ t' M' imm', Rel P N imm0 w0 M0 imm' t' M' a' w' ∧ Sat P N y t' M' C) ?_ (wp_region_list ?_))
 ·rintro e a' w' ⟨rfl, t', M', imm', hr', hk⟩
  exact hk _ _ _ _ _ _ hr'
 ·exact wpL_sound (ops := ⟨l⟩) l t M imm a w (fun o ho => dstOk_mem hd o ho) h hr (fun imm' t' M' a' w' hr' hk => ⟨rfl, t', M', imm', hr', hk⟩)
def wallOk (p : Prog) (zs : List Int) : Bool := progOk p && gokB zs (gapsP p) zs.length && progOk (wlP zs.contains p 0)
def wallR (p : Prog) (zs : List Int) : Prog := if wallOk p zs then wlP zs.contains p 0 else []
def gapK (l : List Do) (k : Nat) : Nat := min k (l.length - 1)
theorem gapK_lt {l : List Do} {j : Nat} (h : j + 1 < l.length) : gapK l j = j ∧ gapK l (j + 1) = j + 1 := by unfold gapK; omega
theorem gapK_last {l : List Do} {j : Nat} (h : j < l.length) (h' : ¬ j + 1 < l.length) : gapK l j = j ∧ gapK l (j + 1) = j := by unfold gapK; omega
theorem wlK_last {G : Int → Bool} {l : List Do} {a : Int} {j : Nat} {d : Do} (hd : l[j]? = some d) (h : ¬ j + 1 < l.length) : wlK G l a (j + 1) = wlK G l a j ++ [d] := by
 rw [wlK, hd]; simp [h]
theorem wlK_no {G : Int → Bool} {l : List Do} {a : Int} {j : Nat} {d : Do} (hd : l[j]? = some d) (h : G (a + j) = false) : wlK G l a (j + 1) = wlK G l a j ++ [d] := by
 rw [wlK, hd]; simp [h]
theorem wlK_yes {G : Int → Bool} {l : List Do} {a : Int} {j : Nat} {d : Do} (hd : l[j]? = some d) (h1 : j + 1 < l.length) (h : G (a + j) = true) : wlK G l a (j + 1) = wlK G l a j ++ [d] ++ [wallD] := by
 rw [wlK, hd]; simp [h, h1]
theorem specWallPut_fn (p : Prog) (zs : List Int) (γ : Option Nat) (c : Nat) (hp : p.length < 2 ^ 20) (hl : ∀ l ∈ p, l.length < 2 ^ 11) (hzl : zs.length < 2 ^ 39) : Fc Tryz.prog 53 [progV p, .msl 1 [] γ zs.length c] (noM.set 1 (.own 3 γ c (zs.map (V.int .i64))))
  fun r m => r = .tuple [progV (wallR p zs), .bool (wallOk p zs)] ∧ m = noM.set 1 (.own 3 γ c (zs.map (V.int .i64))) := by
 have h1 := specProgOk_fn p (by omega)
 have h2 := specWallGaps_fn p hp hl
 rw [progV_eq] at h1 h2
 have hb := gapsP_le (p := p) (n := 2 ^ 11) (fun l h => by have := hl l h; omega)
 have hbp : gapsP p < 2 ^ 31 + 1 := by have := hb p.length; rw [List.take_length] at this; omega
 have hhas := fun b => l12HasO_fn zs b γ c (by omega)
 have hgok := l21OkO_fn zs (gapsP p) γ c (by omega) (by omega) (by omega)
 refine Fc.start (S := [2, 18, 19]) Tryz.func53 Tryz.ntmps53 Tryz.results53 rfl (by decide) rfl (by kernel_rfl) ?_
 simp (disch := omega) only [push_cast, go_sem, zA, simprocAttr, progV_eq]
 intro g2 g4
 refine callR.pure h1 rfl rfl ?_
 cases hok : progOk p
 ·simp (disch := omega) only [push_cast, go_sem, zA, simprocAttr]
  refine Sat.cutAll (by kernel_rfl) ?_
  simp (disch := omega) only [push_cast, go_sem, zA, simprocAttr]
  refine Sat.freezeC 4 [] 0 0 rfl rfl rfl ?_
  rw [show (V.own 0 none 0 []).fz = .sl [] from rfl]
  refine Sat.of (S := []) (by kernel_rfl) ?_
  simp (disch := omega) only [push_cast, go_sem, zA, simprocAttr]
  refine ⟨_, Sub.set Sub.no rfl, ?_, rfl⟩
  simp only [wallR, wallOk, hok, Bool.false_and]; rfl
 simp (disch := omega) only [push_cast, go_sem, zA, simprocAttr]
 refine callR.pure h2 rfl rfl ?_
 rw [show gapsV p = (gapsP p : Int) by rw [gapsV, hok]; rfl]
 simp (disch := omega) only [push_cast, go_sem, zA, simprocAttr]
 refine callR.peek hgok rfl rfl rfl ?_
 cases hg : gokB zs (gapsP p) zs.length
 ·simp (disch := omega) only [push_cast, go_sem, zA, simprocAttr]
  refine Sat.cutAll (by kernel_rfl) ?_
  simp (disch := omega) only [push_cast, go_sem, zA, simprocAttr]
  refine Sat.freezeC 4 [] 0 0 rfl rfl rfl ?_
  rw [show (V.own 0 none 0 []).fz = .sl [] from rfl]
  refine Sat.of (S := []) (by kernel_rfl) ?_
  simp (disch := omega) only [push_cast, go_sem, zA, simprocAttr]
  refine ⟨_, Sub.set Sub.no rfl, ?_, rfl⟩
  simp only [wallR, wallOk, hok, hg, Bool.false_and, Bool.and_false]; rfl
 simp (disch := omega) only [push_cast, go_sem, zA, simprocAttr]
 intro g6
 refine Sat.loop (σ := BoxO × Nat) (fun x => upd (upd (upd (upd (upd (upd (upd noT 1 (.msl 1 [] γ zs.length c)) 2 (.ptr 2 [] 0 0 g2 1)) 4 (.ptr 4 [] 0 0 g4 1)) 5 (.bool false)) 6 (.ptr 6 [] 0 0 g6 1)) 7 (.int .i64 (gapsP (p.take x.2)))) 8 (.int .i64 x.2))
  (fun x => (((noM.set 1 (.own 3 γ c (zs.map (V.int .i64)))).set 2 (boxP p g2)).set 4 (.own 25 (some g4) 1 [.agg [.own 0 none 0 []]])).set 6 (x.1.V g6))
  (fun x => x.2 ≤ p.length ∧ x.1.p = wlP zs.contains (p.take x.2) 0 ∧ (x.1.γ = none ∨ x.1.e = 38)) (fun x => p.length - x.2) (⟨0, none, 0, []⟩, 0) (by simp [BoxO.p, wlP]) ?_ ?_
 ·(refine zB ?_; repeat (first | exact zC | exact zD | refine zE (by decide) ?_ | refine zF ?_ ?_ | refine zG ?_ ?_)) <;> (try simp (disch := omega) only [push_cast, go_sem, zA, simprocAttr])
  all_goals simp [gapsP, boxP, BoxO.V]
 rintro ⟨x, i⟩ ⟨k1, k2, k3⟩ J hJ
 refine Sat.of (S := []) (by kernel_rfl) ?_
 simp only at k1 k2 k3 hJ
 have hbi := hb i
 have hxl : x.xs.length = i := by
  have := congrArg List.length k2
  rw [wlP_len, List.length_take] at this
  simp [BoxO.p] at this
  omega
 rcases Nat.lt_or_ge i p.length with hlt | hge
 ·obtain ⟨l, he⟩ : ∃ l, p[i]? = some l := ⟨_, List.getElem?_eq_getElem hlt⟩
  have hll := hl l (List.mem_of_getElem? he)
  simp (disch := omega) only [push_cast, go_sem, zA, simprocAttr, he, hlt, boxP_eq, thrV_eq]
  intro g30
  refine Sat.loop (σ := Option Nat × Nat × Nat) (fun y => upd (upd (upd (upd (upd (upd (upd (upd (upd noT 1 (.msl 1 [] γ zs.length c)) 2 (.ptr 2 [] 0 0 g2 1)) 4 (.ptr 4 [] 0 0 g4 1)) 5 (.bool false)) 6 (.ptr 6 [] 0 0 g6 1)) 7 (.int .i64 (gapsP (p.take i) + gapK l y.2.2 : Nat))) 8 (.int .i64 i)) 9 (.msl 9 [] y.1 (wlK zs.contains l (gapsP (p.take i)) y.2.2).length y.2.1)) 10 (.int .i64 y.2.2))
   (fun y => ((((noM.set 1 (.own 3 γ c (zs.map (V.int .i64)))).set 2 (boxP p g2)).set 4 (.own 25 (some g4) 1 [.agg [.own 0 none 0 []]])).set 6 (x.V g6)).set 9 (.own 40 y.1 y.2.1 ((wlK zs.contains l (gapsP (p.take i)) y.2.2).map Do.V)))
   (fun y => y.2.2 ≤ l.length) (fun y => l.length - y.2.2) (some g30, 0, 0) (by simp) ?_ ?_
  ·(refine zB ?_; repeat (first | exact zC | exact zD | refine zE (by decide) ?_ | refine zF ?_ ?_ | refine zG ?_ ?_)) <;> (try simp (disch := omega) only [push_cast, go_sem, zA, simprocAttr])
   all_goals simp [gapK, wlK, boxP]
  rintro ⟨γ9, c9, j⟩ hj J2 hJ2
  simp only at hj hJ2
  refine Sat.of (S := []) (by kernel_rfl) ?_
  have hwl := wlK_len zs.contains l (gapsP (p.take i)) j
  rcases Nat.lt_or_ge j l.length with hlj | hgj
  ·obtain ⟨d, hd⟩ : ∃ d, l[j]? = some d := ⟨_, List.getElem?_eq_getElem hlj⟩
   by_cases hj1 : j + 1 < l.length
   ·obtain ⟨e1, e2⟩ := gapK_lt hj1
    have hji : ((j : Int) + 1 < l.length) = True := by simp; omega
    simp (disch := omega) only [push_cast, go_sem, zA, simprocAttr, he, hlt, hd, hlj, boxP_eq, thrV_eq, Do.V_eq, hji, e1]
    refine fun g50 => ⟨by omega, fun γa ca _ => ?_⟩
    refine callR.peek (hhas _) rfl rfl rfl ?_
    cases hh : zs.contains ((gapsP (p.take i) : Int) + j)
    ·have e3 := wlK_no (G := zs.contains) (a := gapsP (p.take i)) hd hh
     simp (disch := omega) only [push_cast, go_sem, zA, simprocAttr]
     refine hJ2 (γa, ca, j + 1) _ _ (by dsimp only; omega) (by dsimp only; omega) ?_
     dsimp only
     rw [e2, e3, List.length_append, List.map_append]
     (refine zB ?_; repeat (first | exact zC | exact zD | refine zE (by decide) ?_ | refine zF ?_ ?_ | refine zG ?_ ?_)) <;> (try simp (disch := omega) only [push_cast, go_sem, zA, simprocAttr])
     all_goals first | rfl | omega
    ·have e3 := wlK_yes (G := zs.contains) (a := gapsP (p.take i)) hd hj1 hh
     simp (disch := omega) only [push_cast, go_sem, zA, simprocAttr]
     refine fun g66 => ⟨by omega, fun γb cb _ => ?_⟩
     refine hJ2 (γb, cb, j + 1) _ _ (by dsimp only; omega) (by dsimp only; omega) ?_
     dsimp only
     rw [e2, e3, List.length_append, List.length_append, List.map_append, List.map_append]
     (refine zB ?_; repeat (first | exact zC | exact zD | refine zE (by decide) ?_ | refine zF ?_ ?_ | refine zG ?_ ?_)) <;> (try simp (disch := omega) only [push_cast, go_sem, zA, simprocAttr])
     all_goals first | rfl | omega
   ·obtain ⟨e1, e2⟩ := gapK_last hlj hj1
    have hji : ((j : Int) + 1 < l.length) = False := by simp; omega
    have e3 := wlK_last (G := zs.contains) (a := gapsP (p.take i)) hd hj1
    simp (disch := omega) only [push_cast, go_sem, zA, simprocAttr, he, hlt, hd, hlj, boxP_eq, thrV_eq, Do.V_eq, hji, e1]
    refine fun g50 => ⟨by omega, fun γa ca _ => ?_⟩
    refine hJ2 (γa, ca, j + 1) _ _ (by dsimp only; omega) (by dsimp only; omega) ?_
    dsimp only
    rw [e2, e3, List.length_append, List.map_append]
    (refine zB ?_; repeat (first | exact zC | exact zD | refine zE (by decide) ?_ | refine zF ?_ ?_ | refine zG ?_ ?_)) <;> (try simp (disch := omega) only [push_cast, go_sem, zA, simprocAttr])
    all_goals first | rfl | omega
  ·have : j = l.length := by omega
   subst this
   have k3' : (x.γ = none ∨ x.e = 38) = True := by simp only [k3]
   have hgp := gapsP_get he
   have hgl : gapK l l.length = l.length - 1 := by unfold gapK; omega
   cases hfl : (V.own 40 γ9 c9 ((wlK zs.contains l (gapsP (p.take i)) l.length).map Do.V)).flatC <;> simp (disch := omega) only [push_cast, go_sem, zA, simprocAttr, he, hlt, boxP_eq, thrV_eq, BoxO.V_eq, k3', hfl]
   all_goals
    intro g73
    refine ⟨by omega, fun γ2 c2 _ => ?_⟩
    refine hJ (⟨38, γ2, c2, x.xs ++ [⟨γ9, c9, wlK zs.contains l (gapsP (p.take i)) l.length⟩]⟩, i + 1) _ _ ⟨by dsimp only; omega, ?_, .inr rfl⟩ (by dsimp only; omega) ?_
    ·dsimp only
     have h5 : BoxO.p ⟨38, γ2, c2, x.xs ++ [⟨γ9, c9, wlK zs.contains l (gapsP (p.take i)) l.length⟩]⟩ = x.p ++ [wlK zs.contains l (gapsP (p.take i)) l.length] := by simp [BoxO.p]
     rw [h5, k2, take_get he, wlP_app, wlP, wlP, wlT, Int.zero_add]
    ·dsimp only
     rw [hgp, ← hgl]
     (refine zB ?_; repeat (first | exact zC | exact zD | refine zE (by decide) ?_ | refine zF ?_ ?_ | refine zG ?_ ?_)) <;> (try simp (disch := omega) only [push_cast, go_sem, zA, simprocAttr])
     all_goals first | rfl | omega | simp [BoxO.V, RowO.V]
 ·have : i = p.length := by omega
  subst this
  rw [List.take_length] at k2 ⊢
  simp (disch := omega) only [push_cast, go_sem, zA, simprocAttr, boxP_eq]
  refine Sat.freezeC 6 [] 0 0 (n0 := x.V g6) (d := .own x.e x.γ x.c (x.xs.map RowO.V)) rfl rfl rfl ?_
  rw [fz_box, k2]
  have h3 := specProgOk_fn (wlP zs.contains p 0) (by rw [wlP_len]; omega)
  rw [progV_eq] at h3
  refine Sat.of (S := [19]) (by kernel_rfl) ?_
  simp (disch := omega) only [push_cast, go_sem, zA, simprocAttr, boxP_eq, BoxO.V_eq]
  refine callR.pure h3 rfl rfl ?_
  cases hok2 : progOk (wlP zs.contains p 0)
  ·simp (disch := omega) only [push_cast, go_sem, zA, simprocAttr]
   refine Sat.cutAll (by kernel_rfl) ?_
   simp (disch := omega) only [push_cast, go_sem, zA, simprocAttr]
   refine Sat.freezeC 4 [] 0 0 rfl rfl rfl ?_
   rw [show (V.own 0 none 0 []).fz = .sl [] from rfl]
   refine Sat.of (S := []) (by kernel_rfl) ?_
   simp (disch := omega) only [push_cast, go_sem, zA, simprocAttr]
   refine ⟨_, Sub.set Sub.no rfl, ?_, rfl⟩
   simp only [wallR, wallOk, hok, hg, hok2, Bool.false_and, Bool.and_false]; rfl
  ·simp (disch := omega) only [push_cast, go_sem, zA, simprocAttr]
   refine ⟨_, Sub.set Sub.no rfl, ?_, rfl⟩
   simp only [wallR, wallOk, hok, hg, hok2, Bool.true_and, if_pos]
end
section
open Go.RowKit
section
variable {P : Program} {M : Mem} {k : V → Mem → Prop} {ro c : Bool}
theorem runD_peekL {spec : Table} {f : FuncId} (xs : List V) {a l cp : Nat} {γ : Option Nat} {o v : V} {d : Nat} (h : Fc P f (xs ++ [.msl xs.length [] γ l cp]) (noM.set xs.length o) fun r m => r = v ∧ m = noM.set xs.length o) (hM : M a = some o)
  (hs : spec f (xs ++ [.msl xs.length [] γ l cp]) (noM.set xs.length o) = some fun r m => r = v ∧ m = noM.set xs.length o) (hk : (xs.all fun v => v.key.isNone) = true) (h9 : Nat.ble (xs.length + 1) 90 = true) (hchk : c = true) (hK : runV (some (True, det (resN (some d) v) M)) k .mk) :
  runD (callV (specT P spec) f (xs ++ [.msl a [] γ l cp]) (some d) M) ro M c k .mk := by
 have h90 := Nat.le_of_ble_eq_true h9
 have hk' : ((xs.map V.key).all fun x => x.isNone) = true := by rw [List.all_map]; exact hk
 have hks : (xs ++ [V.msl a [] γ l cp]).map V.key = xs.map V.key ++ [some a] := by rw [List.map_append]; rfl
 have hlen : (xs.map V.key).length = xs.length := List.length_map ..
 have hren : renArgs 0 (xs ++ [.msl a [] γ l cp]) = xs ++ [.msl xs.length [] γ l cp] := by
  rw [renArgs_app hk, Nat.zero_add]; rfl
 have hf : footM M ((xs ++ [V.msl a [] γ l cp]).map V.key) = noM.set xs.length o := by
  rw [hks]
  funext i
  rcases Nat.lt_trichotomy i xs.length with hi | hi | hi
  ·have e1 : (noM.set xs.length o) i = none := by simp [Mem.set, noM]; omega
   rw [e1, footM_at, List.getElem?_append_left (by omega)]
   cases hx : (xs.map V.key)[i]? with
   | none => rfl
   | some y =>
    have := List.all_eq_true.1 hk' y (List.mem_of_getElem? hx)
    cases y with
    | none => rfl
    | some _ => cases this
  ·subst hi
   have := foot_at (M := M) (xs := xs.map V.key) (ks := [some a]) (j := 0)
   rw [hlen, Nat.add_zero] at this
   rw [this]
   simp [Mem.set, hM]
  ·have e1 : (noM.set xs.length o) i = none := by simp [Mem.set, noM]; omega
   rw [e1, footM_at, List.getElem?_eq_none_iff.2 (by simp; omega)]
   rfl
 have hm : mergeM M ((xs ++ [V.msl a [] γ l cp]).map V.key) (some d) (noM.set xs.length o) = M := by
  have e1 : (noM.set xs.length o) 100 = none := by simp [Mem.set, noM]; omega
  have e2 : (noM.set xs.length o) xs.length = some o := by simp [Mem.set]
  rw [hks, merge_eq, e1, mgD_none', mg_skip hk', Nat.zero_add, hlen, mg_some, e2, mg_nil, MemU_some, set_self hM]
 refine runD_call (F := noM.set xs.length o) (R := fun r m => r = v ∧ m = noM.set xs.length o) (by rw [hren, hf]; exact hs) (by rw [hren]; exact h) (by rw [hf]; exact Sub.rfl) ?_ (by simp; omega) ⟨v, _, rfl, rfl⟩ (fun _ r0 Mf hr => by rw [hr.2]; exact hm) hchk ?_
 ·rw [hks, List.filterMap_append, keys_none hk', List.nil_append]
  simp [List.filterMap_cons]
 rintro r0 r Mf ⟨rfl, rfl⟩ h5
 rw [hm, h5 d rfl]
 exact (runV_det.1 hK).2
end
def walledR (p : Prog) (n : Nat) : Prog × Bool := if gapsV p < 1 then (p, false) else (wallR p [(n : Int).tmod (gapsV p)], wallOk p [(n : Int).tmod (gapsV p)])
def wallT (zs : List Int) (p : Prog) (v : V) : Table := fun f args M => if f = 53 then some fun r m => r = v ∧ m = M else none
theorem lpWalled_fn (p : Prog) (n : Nat) (hp : p.length < 2 ^ 20) (hl : ∀ l ∈ p, l.length < 2 ^ 11) (hn : n < 2 ^ 40) : Fp Tryz.prog 22 [progV p, .int .i64 n] (.tuple [progV (walledR p n).1, .bool (walledR p n).2]) := by
 have h1 := specWallGaps_fn p hp hl
 rw [progV_eq] at h1
 refine Fc.start (S := []) Tryz.func22 Tryz.ntmps22 Tryz.results22 rfl (by decide) rfl (by kernel_rfl) ?_
 simp (disch := omega) only [push_cast, go_sem, zA, simprocAttr, progV_eq]
 intro g2 g4
 refine callR.pure h1 rfl rfl ?_
 have hb : gapsV p < 2 ^ 40 ∧ -1 ≤ gapsV p := by
  have := gapsP_le (p := p) (n := 2 ^ 11) (fun l h => by have := hl l h; omega) p.length
  rw [List.take_length] at this
  unfold gapsV
  split <;> omega
 by_cases h0 : gapsV p < 1
 ·simp (disch := omega) only [push_cast, go_sem, zA, simprocAttr, h0]
  rw [walledR, if_pos h0]
 ·simp (disch := omega) only [push_cast, go_sem, zA, simprocAttr, h0]
  obtain ⟨m, hm⟩ : ∃ m : Int, (n : Int).tmod (gapsV p) = m := ⟨_, rfl⟩
  have hm0 : 0 ≤ m := by rw [← hm]; exact Int.tmod_nonneg _ (by omega)
  have hm1 : m < gapsV p := by rw [← hm]; exact Int.tmod_lt_of_pos _ (by omega)
  have hz : ¬ gapsV p = 0 := by omega
  refine Sat.drawnE [(0, 4)] [] [0, 1, 2, 3, 5, 6, 7, 9] (wallT [m] p (.tuple [progV (wallR p [m]), .bool (wallOk p [m])])) (by kernel_rfl) (by kernel_rfl) ?_
  simp (disch := omega) only [push_cast, go_sem, zA, simprocAttr, boxP_eq, hz, hm]
  intro g
  have h2 := specWallPut_fn p [m] (some g) 1 hp hl (by simp)
  rw [progV_eq, progV_eq] at h2
  refine runD_peekL [.agg [.sl (p.map thrV)]] h2 rfl rfl rfl rfl ?_ ?_
  ·rfl
  simp (disch := omega) only [push_cast, go_sem, zA, simprocAttr, progV_eq]
  rw [walledR, if_neg h0, hm]
end
section
open Go.RowKit
theorem walledR_len {p : Prog} {n : Nat} (hl : ∀ l ∈ p, l.length < 2 ^ 11) : (walledR p n).1.length ≤ p.length ∧ (∀ l ∈ (walledR p n).1, l.length ≤ 2 ^ 12) ∧ True := by
 unfold walledR
 split
 ·exact ⟨Nat.le_refl _, fun l h => by have := hl l h; omega, trivial⟩
 ·dsimp only
  unfold wallR
  split
  ·refine ⟨by rw [wlP_len]; exact Nat.le_refl _, fun l h => ?_, trivial⟩
   have := wlP_rows _ p 0 (n := 2 ^ 11) (fun l h => by have := hl l h; omega) l h
   omega
  ·exact ⟨Nat.zero_le _, (fun l h => by cases h), trivial⟩
theorem walledR_within {p : Prog} {n : Nat} {kind : Int} {s : Sn} (h : (walledR p n).2 = true) (hs : s ∈ ordAll (walledR p n).1 kind) : s ∈ ordAll p kind := by
 unfold walledR at h hs
 split at h
 ·cases h
 ·rename_i h0
  rw [if_neg h0] at hs
  dsimp only at h hs
  rw [wallR, if_pos h] at hs
  simp only [wallOk, Bool.and_eq_true] at h
  exact wall_within (wlP_wi _ p 0) h.1.1 hs
theorem lawOrderWall_fn (bs ms : List Int) (hb : Code8 bs) : Fp Tryz.prog 8 [codeV bs, codeV ms] (.bool true) := by
 refine Fc.start (S := []) Tryz.func8 Tryz.ntmps8 Tryz.results8 rfl (by decide) rfl (by kernel_rfl) ?_
 by_cases h : (1048576 : Int) < bs.length
 ·simp (disch := omega) only [push_cast, go_sem, zA, simprocAttr, codeV_eq, h]
 by_cases h' : (1048576 : Int) < ms.length
 ·simp (disch := omega) only [push_cast, go_sem, zA, simprocAttr, codeV_eq, h, h']
 simp (disch := omega) only [push_cast, go_sem, zA, simprocAttr, codeV_eq, h, h']
 refine callR.ex (DrawOrderAll_fn bs hb (by omega)) rfl rfl ?_
 rintro r ⟨p, kind, rfl, hp, hl⟩
 have hl' : ∀ l ∈ p, l.length < 2 ^ 40 := fun l h => by have := hl l h; omega
 have hn := fun p k => (show (ordAll p k).length < 2 ^ 40 by have := ord_len p k; omega)
 have h1 := implOrderAll_fn p kind (by omega) hl'
 have h2 := specOrderAll_fn p kind (by omega)
 simp only [ordI_eq] at h1
 have h3 := lpList_fn (ordAll p kind) (ordAll p kind) ord_small ord_small (hn _ _) (hn _ _)
 rw [show decide (ordAll p kind = ordAll p kind) = true by simp] at h3
 have h4 := lpWalled_fn p ms.length (by omega) hl (by omega)
 obtain ⟨q1, q2, q3⟩ := walledR_len (n := ms.length) hl
 have hw := fun s => walledR_within (p := p) (n := ms.length) (kind := kind) (s := s)
 obtain ⟨q, hq⟩ : ∃ q, (walledR p ms.length).1 = q := ⟨_, rfl⟩
 rw [hq] at h4 q1 q2 hw
 have h5 := implOrderAll_fn q kind (by omega) (fun l h => by have := q2 l h; omega)
 rw [ordI_eq] at h5
 have h6 := lpWithin_fn (ordAll q kind) (ordAll p kind) ord_small ord_small (hn _ _) (hn _ _)
 rw [progV_eq] at h1 h2 h5
 rw [progV_eq, progV_eq] at h4
 cases hok : (walledR p ms.length).2
 ·rw [hok] at h4
  simp (disch := omega) only [push_cast, go_sem, zA, simprocAttr, progV_eq]
  intro g3
  refine callR.pure h1 rfl rfl ?_
  simp (disch := omega) only [push_cast, go_sem, zA, simprocAttr]
  refine callR.pure h4 rfl rfl ?_
  simp (disch := omega) only [push_cast, go_sem, zA, simprocAttr]
  intro g6
  refine callR.pure h2 rfl rfl ?_
  simp (disch := omega) only [push_cast, go_sem, zA, simprocAttr]
  refine callR.pure h3 rfl rfl ?_
  simp (disch := omega) only [push_cast, go_sem, zA, simprocAttr]
  refine callR.pure h2 rfl rfl ?_
  simp (disch := omega) only [push_cast, go_sem, zA, simprocAttr]
  refine callR.pure h3 rfl rfl ?_
  simp (disch := omega) only [push_cast, go_sem, zA, simprocAttr]
 ·rw [hok] at h4
  rw [show ((ordAll q kind).all fun s => decide (s ∈ ordAll p kind)) = true from List.all_eq_true.2 fun s hs => by simpa using hw s hok hs] at h6
  simp (disch := omega) only [push_cast, go_sem, zA, simprocAttr, progV_eq]
  intro g3
  refine callR.pure h1 rfl rfl ?_
  simp (disch := omega) only [push_cast, go_sem, zA, simprocAttr]
  refine callR.pure h4 rfl rfl ?_
  simp (disch := omega) only [push_cast, go_sem, zA, simprocAttr]
  intro g6
  refine callR.pure h2 rfl rfl ?_
  simp (disch := omega) only [push_cast, go_sem, zA, simprocAttr]
  refine callR.pure h3 rfl rfl ?_
  simp (disch := omega) only [push_cast, go_sem, zA, simprocAttr]
  refine callR.pure h5 rfl rfl ?_
  simp (disch := omega) only [push_cast, go_sem, zA, simprocAttr]
  refine callR.pure h6 rfl rfl ?_
  simp (disch := omega) only [push_cast, go_sem, zA, simprocAttr]
end
section
open Go.ChangeShapes Go.WideShapes Go.ChangeAt Go.RowKit
theorem own : ownKnob Tryz.prog.godebug = none := by kernel_rfl
theorem laidOut' : laidOutB Tryz.prog = true := by kernel_rfl
theorem cells8 : Tryz.prog.cellsOf 5 = 1 := by kernel_rfl
theorem code_rp {imm : Nat → Prop} {W : World} {b off len cap : Nat} {zs : List Int} (hlz : len ≤ zs.length) (hl : len ≤ cap) (hi : imm b) (hcell : ∀ i, i < zs.length → W.cell? ⟨b, off + i, none⟩ = some (.int .u8 (zs.getD i 0))) :
  Rp imm W (codeV (zs.take len)) (.slice (some ⟨b, off, none⟩) len cap) := by
 by_cases h0 : len = 0
 ·subst h0; exact .sl0 _ _
 have hc0 := hcell 0 (by omega)
 unfold World.cell? at hc0
 split at hc0
 ·rename_i cur t fr hg
  have hln : (zs.take len).length = len := by rw [List.length_take]; omega
  have e : ((zs.take len).map (V.int .u8)).length = len := by rw [List.length_map]; exact hln
  have get : ∀ (i : Nat) (x : V), ((zs.take len).map (V.int .u8))[i]? = some x → x = .int .u8 (zs.getD i 0) ∧ i < len := by
   intro i x hx
   have hlt : i < len := by have := (List.getElem?_eq_some_iff.1 hx).1; omega
   rw [List.getElem?_map, List.getElem?_take_of_lt hlt] at hx
   obtain ⟨y, hy, rfl⟩ := Option.map_eq_some_iff.1 hx
   exact ⟨by rw [List.getD, hy]; rfl, hlt⟩
  have := Rp.sl (imm := imm) (w := W) ((zs.take len).map (V.int .u8)) b off cap 1 cur t fr (fun i _ => .int .u8 (zs.getD i 0)) hi hg (by omega)
   (fun i x hx => by rw [(get i x hx).1]; rfl)
   (fun i x j c hx hc => by
    obtain ⟨rfl, hlt⟩ := get i x hx
    have hj : j = 0 := by
     cases j with
     | zero => rfl
     | succ j => simp [V.cells] at hc
    subst hj
    have := hcell i (by omega)
    unfold World.cell? at this
    simp only [hg] at this
    simpa using this)
   (fun i x j c hx hc => by
    obtain ⟨rfl, hlt⟩ := get i x hx
    have hj : j = 0 := by
     cases j with
     | zero => rfl
     | succ j => simp [V.cells] at hc
    subst hj
    simp [V.cells] at hc
    subst hc
    exact .int _ _)
  rw [e] at this
  exact this
 ·cases hc0
end
section
open Go.ChangeShapes Go.WideShapes Go.ChangeAt Go.RowKit
theorem laid_tab {H : Type} : (Rows.laid_math_bits_deBruijn64tab : DataW H) = Lib.tabData .u8 (Lib.deBruijn64tab.map fun n : Nat => (n : Int)) := rfl
theorem tabs_of {W : World} {rest : List (String × DataW Unit)} (h : laidMet Tryz.prog (("math/bits.deBruijn64tab", Rows.laid_math_bits_deBruijn64tab) :: rest) W) : ∀ x ∈ globT, Tab x.1 x.2 W := by
 rw [laid_tab] at h
 intro x hx
 simp only [globT, List.mem_cons, List.not_mem_nil, or_false] at hx
 subst hx
 intro j hj
 have hT := Lib.tabIs_of_head (t := 168) (e := 5) (n := 64) (g := (globT.headD (0, [])).1) (by kernel_rfl) (by kernel_rfl) Tryz.underlying168 Tryz.underlying5 cells8 (by kernel_rfl) h
 have := hT.cell (g := (globT.headD (0, [])).1) (by kernel_rfl) j (by rw [List.length_map]; exact hj)
 have e : (Lib.deBruijn64tab.map fun n : Nat => (n : Int)).getD j 0 = ((Lib.deBruijn64tab.getD j 0 : Nat) : Int) := by
  simp only [List.getD, List.getElem?_map]
  cases Lib.deBruijn64tab[j]? <;> rfl
 rw [e] at this
 exact this
theorem glob_of {W : World} {imm : Nat → Prop} (hT : ∀ x ∈ globT, Tab x.1 x.2 W) (hi : ∀ x ∈ globT, imm x.1) : Glob imm W := fun x hx => ⟨hi x hx, hT x hx⟩
theorem glob_lt {W : World} (hT : ∀ x ∈ globT, Tab x.1 x.2 W) : ∀ x ∈ globT, x.1 < W.heap.size := by
 intro x hx
 have h := hT x hx
 simp only [globT, List.mem_cons, List.not_mem_nil, or_false] at hx
 subst hx
 have := h 0 (by decide)
 unfold World.cell? at this
 split at this
 ·rename_i hh; exact (Array.getElem?_eq_some_iff.1 hh).1
 ·cases this
end
section
open Go.ChangeShapes Go.WideShapes Go.ChangeAt Go.RowKit
theorem code_of {H : Type} {enc : TypeId × Value → H} {W : World} {a0 : Option Addr} {len cap : Nat} {d0 : DataW H} {p0 : List MemPlace} (h0 : DataW.Trod enc Tryz.prog W 0 (fun _ => true) true 22 (.slice a0 len cap) d0 p0) :
  ∃ bs : List Int, Code8 bs ∧ ∃ g : Option Nat, (∀ b, g = some b → b < W.heap.size) ∧ ∀ imm : Nat → Prop, (∀ b, g = some b → imm b) → Rp imm W (codeV bs) (.slice a0 len cap) := by
 obtain ⟨fuel, hf⟩ := h0
 rcases open_ints Tryz.underlying22 Tryz.underlying5 cells8 hf with ⟨hcs, hx⟩ | ⟨a, len', cap', zs, hcs, _, hl, hm, hz, hx, hcell, hwz⟩
 ·simp [Value.cells] at hcs
  obtain ⟨rfl, rfl, rfl⟩ := hcs
  exact ⟨[], (fun b hb => by cases hb), none, (fun b hb => by cases hb), (fun imm _ => .sl0 _ _)⟩
 ·simp [Value.cells] at hcs
  obtain ⟨rfl, rfl, rfl⟩ := hcs
  simp only [if_true] at hz
  have hc8 : Code8 (zs.take len) := by
   intro n hn
   have := hwz n (List.mem_of_mem_take hn)
   simp [Lit.wf, IntKind.min, IntKind.max, IntKind.signed, IntKind.bits] at this
   omega
  by_cases hl0 : len = 0
  ·subst hl0
   exact ⟨[], (fun b hb => by cases hb), none, (fun b hb => by cases hb), (fun imm _ => .sl0 _ _)⟩
  ·obtain ⟨b, off, spot⟩ := a
   have hspot : spot = none := by simpa [Addr.add] using World.cell?_spot (hcell 0 (by omega))
   subst hspot
   refine ⟨zs.take len, hc8, some b, fun b' hb => ?_, fun imm hi => code_rp (by omega) hl (hi b rfl) fun i hi => by rw [← add_plain]; exact hcell i hi⟩
   cases hb
   have := hcell 0 (by omega)
   rw [add_plain] at this
   unfold World.cell? at this
   split at this
   ·rename_i hh; exact (Array.getElem?_eq_some_iff.1 hh).1
   ·cases this
theorem law_calls2 {f : FuncId} {W : World} {x y : V} {v u : Value} {imm : Nat → Prop} (h : Fp Tryz.prog f [x, y] (.bool true)) (hG : Glob imm W) (hi : ∀ g, imm g → g < W.heap.size) (hx : Rp imm W x v) (hy : Rp imm W y u) (hk : x.key = none ∧ y.key = none) :
  Calls Tryz.prog f #[v, u] W fun e w' => e = .returned (.bool true) ∧ Below W.heap.size W w' := by
 refine (h.fn imm W #[v, u] hG inv_no hi rfl ?_).mono ?_
 ·intro j c w hj hu
  match j with
  | 0 => simp at hj hu; subst hj; subst hu; exact hx
  | 1 => simp at hj hu; subst hj; subst hu; exact hy
  | j + 2 => simp at hj
 ·rintro e w' ⟨r, r', m, imm', rfl, ⟨rfl, rfl⟩, h3, h4⟩
  rw [h3.bool_inv]
  exact ⟨rfl, h4.os, h4.tape, h4.output, h4.size, fun k hk => (h4.block k hk not_owns_no).1⟩
end
end Go.Proofs.YtkdolbffabmemaaGreatDoor
