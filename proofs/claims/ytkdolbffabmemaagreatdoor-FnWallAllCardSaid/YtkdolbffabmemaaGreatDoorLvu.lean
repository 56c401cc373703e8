/-
 The machine of values: a region that draws its order, against the model.
-/
import Derived.Test.YtkdolbffabmemaaGreatDoorLvs
import Derived.Test.YtkdolbffabmemaaGreatDoorLvo
namespace Go.Proofs.YtkdolbffabmemaaGreatDoor
open Go.RowKit
set_option linter.unusedSimpArgs false
set_option linter.unusedVariables false
def depsB (o : Oper) : List Nat := (o.after.toList.filter fun e => Region.binds .any e).map (·.on)
def sepB (D E : List (Nat × Nat)) (rc : List Nat) (ds : List (Option Nat)) (ia : Nat) (oa : Oper) (i : Nat) (o : Oper) : Bool :=
 (match oa.dst with | some x => !(uses ds o).contains x && o.dst != some x | none => true) &&
 (match o.dst with | some x => !(uses ds oa).contains x | none => true) && !D.contains (i, ia) && !E.contains (i, ia) &&
 (pureOp oa.op || pureOp o.op || (rc.contains ia && rc.contains i) || D.contains (ia, i) || (rc.contains ia && E.contains (ia, i)))
def mkTab (ops : List Oper) : List (List Nat) := ops.foldl (fun tab o => tab ++ [((depsB o) ++ (depsB o).flatMap (fun e => (tab[e]?).getD [])).eraseDups]) []
def anc (tab : List (List Nat)) (i : Nat) : List Nat := (tab[i]?).getD []
def rowOk (ops : Array Oper) (D E : List (Nat × Nat)) (rc : List Nat) (tab : List (List Nat)) (i : Nat) (o : Oper) : Bool :=
 (depsB o).all (fun e => decide (e < i)) && (anc tab i).all (fun a => (depsB o).any fun e => e == a || (anc tab e).contains a) &&
 (List.range i).all fun a => (anc tab i).contains a || (match ops[a]? with | some oa => sepB D E rc (ops.toList.map (·.dst)) a oa i o | none => false)
def drawOk (N : Nat) (ops : Array Oper) (D E : List (Nat × Nat)) (rc : List Nat) (tab : List (List Nat)) : Bool :=
 dstOk N ops && (List.range ops.size).all fun i => match ops[i]? with | none => false | some o => rowOk ops D E rc tab i o
def numb : Nat → List Oper → List (Nat × Oper)
 | _, [] => []
 | i, o :: l => (i, o) :: numb (i + 1) l
section
variable {P : Program} {Φ : Table} {N : Nat} {imm imm' imm0 : Nat → Prop} {w w' w0 : World} {M M0 M' m : Mem} {t t' : Nat → V} {a : Act} {o : Oper} {ops : Array Oper} {ds : List (Option Nat)}
variable {D E : List (Nat × Nat)} {rc : List Nat} {K : (Nat → V) → Mem → Prop} {tab : List (List Nat)}
theorem sepB_sep {ia i : Nat} {oa o : Oper} (h : sepB D E rc ds ia oa i o = true) : Sep D E rc ds (ia, oa) (i, o) := by
 unfold sepB at h
 simp only [Bool.and_eq_true, Bool.or_eq_true] at h
 obtain ⟨⟨⟨⟨h1, h2⟩, h3⟩, h3'⟩, h4⟩ := h
 refine ⟨fun x hx => ?_, fun x hx => ?_, fun x hx => ?_, by simpa using h3, by simpa using h3', ?_⟩
 ·simp only at hx; rw [hx] at h1; simp at h1; exact h1.1
 ·simp only at hx; rw [hx] at h2; simpa using h2
 ·simp only at hx ⊢; rw [hx] at h1; simp at h1; exact h1.2
 ·rcases h4 with (((h | h) | h) | h) | h
  ·exact .inl h
  ·exact .inr (.inl h)
  ·exact .inr (.inr (.inl ⟨by simpa using h.1, by simpa using h.2⟩))
  ·exact .inr (.inr (.inr (.inl (by simpa using h))))
  ·exact .inr (.inr (.inr (.inr ⟨by simpa using h.1, by simpa using h.2⟩)))
theorem drawOk_row (hB : drawOk N ops D E rc tab = true) {i : Nat} (ho : ops[i]? = some o) :
  (∀ e ∈ depsB o, e < i) ∧ (∀ x ∈ anc tab i, ∃ e ∈ depsB o, e = x ∨ x ∈ anc tab e) ∧ ∀ x oa, x < i → ops[x]? = some oa → x ∈ anc tab i ∨ Sep D E rc (ops.toList.map (·.dst)) (x, oa) (i, o) := by
 unfold drawOk at hB
 rw [Bool.and_eq_true] at hB
 have hi : i < ops.size := (Array.getElem?_eq_some_iff.1 ho).1
 have h := List.all_eq_true.1 hB.2 i (by simpa using hi)
 simp only [ho, rowOk, Bool.and_eq_true] at h
 obtain ⟨⟨h1, h2⟩, h3⟩ := h
 refine ⟨fun e he => by simpa using List.all_eq_true.1 h1 e he, fun x hx => ?_, fun x oa hx hoa => ?_⟩
 ·have := List.all_eq_true.1 h2 x hx
  rw [List.any_eq_true] at this
  obtain ⟨e, h4, h5⟩ := this
  refine ⟨e, h4, ?_⟩
  simpa [Bool.or_eq_true] using h5
 ·have := List.all_eq_true.1 h3 x (by simpa using hx)
  simp only [hoa, Bool.or_eq_true] at this
  exact this.imp (by simp) sepB_sep
theorem anc_listed (hB : drawOk N ops D E rc tab = true) {listed : Array Bool} (hcl : ∀ j, listed.getD j false = true → ∀ o, ops[j]? = some o → ∀ e ∈ depsB o, listed.getD e false = true) :
  ∀ i o, ops[i]? = some o → (∀ e ∈ depsB o, listed.getD e false = true) → ∀ x ∈ anc tab i, listed.getD x false = true := by
 intro i
 induction i using Nat.strongRecOn with
 | ind i ih =>
  intro o ho hd x hx
  obtain ⟨h1, h2, _⟩ := drawOk_row hB ho
  obtain ⟨e, he, h⟩ := h2 x hx
  rcases h with rfl | h
  ·exact hd _ he
  ·have hei := h1 e he
   have hi : i < ops.size := (Array.getElem?_eq_some_iff.1 ho).1
   have hoe : ops[e]? = some ops[e] := Array.getElem?_eq_getElem (by omega)
   exact ih e hei _ hoe (hcl e (hd e he) _ hoe) x h
theorem out_sound (hΦ : Sound P Φ) {pre : Prop} {R : Post} (h : outV Φ P (ops.toList.map (·.dst)) o t M = some (pre, R)) (hp : pre) (hd : ∀ i, o.dst = some i → i < N) (hg' : ∀ j b, o.guard = some (j, b) → ∃ d, (ops[j]?).bind (·.dst) = some d) (hr : Rel P N imm0 w0 M0 imm t M a w) {next : Act → World → Prop} {Q : Exit → Act → World → Prop}
  (hn : ∀ imm' r m a' w', R r m → Rel P N imm0 w0 M0 imm' (putT t o.dst r) m a' w' → next a' w') :
  if Region.wanted o (yielded ops a.tmps) then o.wp P a w next Q else next (a.put o.dst undef) w := by
 refine wpOp_sound (K := fun t' m => ∃ r, R r m ∧ t' = putT t o.dst r) ?_ hd hg' hr (fun imm' t' M' a' w' hr' hk => ?_)
 ·have run : opV Φ P o t M = some (pre, R) → runOp P o t M fun t' m => ∃ r, R r m ∧ t' = putT t o.dst r := fun h => ⟨Φ, hΦ, pre, R, h, hp, fun r m hr => ⟨r, hr, rfl⟩⟩
  unfold wpOp
  unfold outV at h
  cases hg : o.guard with
  | none => simp only [hg] at h ⊢; exact run h
  | some jw =>
   obtain ⟨j, want⟩ := jw
   simp only [hg] at h ⊢
   unfold wpS
   split at h
   ·rename_i b hb
    simp only [hb]
    rw [← hb, upd_self]
    split at h
    ·rename_i hbw; rw [if_pos hbw]; exact run h
    ·rename_i hbw; rw [if_neg hbw]; cases h; exact ⟨_, ⟨rfl, rfl⟩, rfl⟩
   ·rename_i hb
    simp only [hb]
    cases h; exact ⟨_, ⟨rfl, rfl⟩, rfl⟩
   ·cases h
 ·obtain ⟨r, h1, rfl⟩ := hk
  exact hn _ _ _ _ _ h1 hr'
theorem getD_both {L : Array Bool} {j : Nat} (hj : j < L.size) : L.getD j true = L.getD j false := by simp [Array.getD, hj]
theorem getD_set_self {L : Array Bool} {j : Nat} (hj : j < L.size) (b : Bool) : (L.setIfInBounds j true).getD j b = true := by simp [Array.getD, hj]
theorem wpD_any (hΦ : Sound P Φ) (hB : drawOk N ops D E rc tab = true) {Q : Exit → Act → World → Prop} (hfin : ∀ imm' t' M' a' w', Rel P N imm0 w0 M0 imm' t' M' a' w' → K t' M' → Q .normal a' w') :
  ∀ (fuel : Nat) (l : List (Nat × Oper)) (tr : List Tr) (listed : Array Bool) (t : Nat → V) (M : Mem) (imm : Nat → Prop) (a : Act) (w : World), l.length ≤ fuel → listed.size = ops.size →
   (∀ j o, (j, o) ∈ l ↔ ops[j]? = some o ∧ listed.getD j false = false) → l.Pairwise (fun x y => x.1 < y.1) → (∀ j, listed.getD j false = true → ∀ o, ops[j]? = some o → ∀ e ∈ depsB o, listed.getD e false = true) →
   trOk tr → wpD D E rc Φ P (ops.toList.map (·.dst)) l tr t M K → Rel P N imm0 w0 M0 imm t M a w → wpAny P .any ops Q fuel listed a w := by
 have deps_mem : ∀ {o : Oper} {e : Edge}, e ∈ o.after → Region.binds .any e = true → e.on ∈ depsB o := by
  intro o e he hb
  exact List.mem_map.2 ⟨e, List.mem_filter.2 ⟨by simpa using he, hb⟩, rfl⟩
 have mem_deps : ∀ {o : Oper} {x : Nat}, x ∈ depsB o → ∃ e ∈ o.after, Region.binds .any e = true ∧ e.on = x := by
  intro o x hx
  obtain ⟨e, h1, h2⟩ := List.mem_map.1 hx
  obtain ⟨h3, h4⟩ := List.mem_filter.1 h1
  exact ⟨e, by simpa using h3, h4, h2⟩
 -- the least that is left is ready
 have nil_of : ∀ (l : List (Nat × Oper)) (listed : Array Bool), listed.size = ops.size → (∀ j o, (j, o) ∈ l ↔ ops[j]? = some o ∧ listed.getD j false = false) → l.Pairwise (fun x y => x.1 < y.1) → Region.ready .any ops listed = [] → l = [] := by
  intro l listed hs hl hpw hr
  cases l with
  | nil => rfl
  | cons x l =>
   obtain ⟨j, oj⟩ := x
   exfalso
   obtain ⟨h1, h2⟩ := (hl j oj).1 (by simp)
   have hj : j < ops.size := (Array.getElem?_eq_some_iff.1 h1).1
   have : j ∈ Region.ready .any ops listed := by
    refine mem_ready.2 ⟨by rw [getD_both (by omega)]; exact h2, oj, h1, fun e he hb => ?_⟩
    have hlt := (drawOk_row hB h1).1 e.on (deps_mem he hb)
    cases hle : listed.getD e.on false with
    | true => rfl
    | false =>
     exfalso
     have hoe : ops[e.on]? = some ops[e.on] := Array.getElem?_eq_getElem (by omega)
     have hm := (hl e.on _).2 ⟨hoe, hle⟩
     rcases List.mem_cons.1 hm with h | h
     ·cases h; omega
     ·have := (List.pairwise_cons.1 hpw).1 _ h
      simp only at this; omega
   rw [hr] at this
   cases this
 intro fuel
 induction fuel with
 | zero =>
  intro l tr listed t M imm a w hf hs hl hpw hcl htr hw hr
  have : l = [] := List.eq_nil_of_length_eq_zero (by omega)
  subst this
  refine ⟨?_, hfin _ _ _ _ _ hr hw⟩
  rw [List.eq_nil_iff_forall_not_mem]
  intro i hi
  obtain ⟨h1, o, h2, _⟩ := mem_ready.1 hi
  have hj : i < ops.size := (Array.getElem?_eq_some_iff.1 h2).1
  rw [getD_both (by omega)] at h1
  have := (hl i o).2 ⟨h2, h1⟩
  cases this
 | succ fuel ih =>
  intro l tr listed t M imm a w hf hs hl hpw hcl htr hw hr
  refine ⟨fun hrd => ?_, fun i hi => ?_⟩
  ·have := nil_of l listed hs hl hpw hrd
   subst this
   exact hfin _ _ _ _ _ hr hw
  ·obtain ⟨h1, o, ho, hall⟩ := mem_ready.1 hi
   have hio : i < ops.size := (Array.getElem?_eq_some_iff.1 ho).1
   have h1' := h1
   rw [getD_both (by omega)] at h1'
   have hmem := (hl i o).2 ⟨ho, h1'⟩
   obtain ⟨l1, l2, rfl⟩ := List.append_of_mem hmem
   have hdeps : ∀ e ∈ depsB o, listed.getD e false = true := by
    intro x hx
    obtain ⟨e, he, hb, rfl⟩ := mem_deps hx
    exact hall e he hb
   have hsep : ∀ x ∈ l1, Sep D E rc (ops.toList.map (·.dst)) x (i, o) := by
    rintro ⟨j, oj⟩ hj
    obtain ⟨k1, k2⟩ := (hl j oj).1 (by simp [hj])
    have hlt : j < i := by
     have := (List.pairwise_append.1 hpw).2.2 _ hj (i, o) (by simp)
     exact this
    rcases (drawOk_row hB ho).2.2 j oj hlt k1 with h | h
    ·have := anc_listed hB hcl i o ho hdeps j h
     rw [k2] at this; cases this
    ·exact h
   obtain ⟨pre, R, b1, b2, _, _, _, _, b6⟩ := front l1 l2 tr t M htr hsep hw
   have hdst : dstOk N ops = true := by unfold drawOk at hB; rw [Bool.and_eq_true] at hB; exact hB.1
   have hthis := Array.all_eq_true'.1 hdst o (by rw [Array.mem_iff_getElem?]; exact ⟨i, ho⟩)
   rw [Bool.and_eq_true] at hthis
   have step : ∀ imm' r m a' w', R r m → Rel P N imm0 w0 M0 imm' (putT t o.dst r) m a' w' → wpAny P .any ops Q fuel (listed.setIfInBounds i true) a' w' := by
    intro imm' r m a' w' hR hr'
    refine ih (l1 ++ l2) _ _ _ _ _ _ _ (by simp at hf ⊢; omega) (by simpa using hs) (fun j oj => ?_) ?_ ?_ (fun x hx m m' ha hl' => ?_) (b6 r m hR) hr'
    ·have hne : ∀ oj, (j, oj) ∈ l1 ++ l2 → j ≠ i := by
      intro oj hj e
      subst e
      rw [List.pairwise_append] at hpw
      obtain ⟨_, p2, p3⟩ := hpw
      rcases List.mem_append.1 hj with h | h
      ·have := p3 _ h (j, o) (by simp); simp at this
      ·have := (List.pairwise_cons.1 p2).1 _ h; simp at this
     constructor
     ·intro hj
      have hne' := hne oj hj
      obtain ⟨k1, k2⟩ := (hl j oj).1 (by simp at hj ⊢; rcases hj with h | h <;> simp [h])
      exact ⟨k1, by rw [getD_set_ne false (Ne.symm hne')]; exact k2⟩
     ·rintro ⟨k1, k2⟩
      have hne' : j ≠ i := by
       intro e; subst e
       rw [getD_set_self (by omega)] at k2; cases k2
      rw [getD_set_ne false (Ne.symm hne')] at k2
      have := (hl j oj).2 ⟨k1, k2⟩
      simp only [List.mem_append, List.mem_cons, Prod.mk.injEq] at this ⊢
      rcases this with h | ⟨h, _⟩ | h
      ·exact .inl h
      ·exact absurd h hne'
      ·exact .inr h
    ·rw [List.pairwise_append] at hpw ⊢
     obtain ⟨p1, p2, p3⟩ := hpw
     exact ⟨p1, (List.pairwise_cons.1 p2).2, fun x hx y hy => p3 x hx y (by simp [hy])⟩
    ·intro j hj oj hoj e he
     by_cases hji : j = i
     ·subst hji
      rw [ho] at hoj; cases hoj
      exact getD_set_true (hdeps e he)
     ·rw [getD_set_ne false (fun e => hji e.symm)] at hj
      exact getD_set_true (hcl j hj oj hoj e he)
    ·rcases List.mem_cons.1 hx with rfl | hx
     ·exact LateV.loc ha hl'
     ·exact htr x hx m m' ha hl'
   have hs := out_sound (Q := Q) hΦ b1 b2 (fun x hx => by have h1 := hthis.1; rw [hx] at h1; simpa using h1) (fun j b hj => by have h1 := hthis.2; rw [hj] at h1; exact Option.isSome_iff_exists.1 h1) hr step
   unfold Go.wpOp
   simp only [ho]
   by_cases hwn : Region.wanted o (yielded ops a.tmps) = true
   ·rw [if_pos hwn] at hs ⊢; exact .inl hs
   ·rw [if_neg hwn] at hs ⊢; exact hs
theorem Inv.drew {sz : TypeId → Nat} (h : Inv sz imm w M) : Inv sz imm { w with drawn := w.drawn + 1 } M := by
 refine ⟨fun o q v hv => ?_, h.top, h.inj⟩
 have he : Ev imm w imm { w with drawn := w.drawn + 1 } := fun g hg => ⟨hg, rfl⟩
 have h1 := h.nd o q v hv
 cases v <;> first | trivial | skip
 rename_i e γ cap es
 cases γ with
 | none => exact h1
 | some g =>
  obtain ⟨a, b, c, cur, d, e', f⟩ := h1
  refine ⟨a, b, c, cur, d, e', fun i x hx => ⟨(f i x hx).1, fun j c hc => ?_⟩⟩
  obtain ⟨u, k1, k2, k3⟩ := (f i x hx).2 j c hc
  exact ⟨u, k1, k2, k3.same he (.inl rfl)⟩
theorem Rel.drew (h : Rel P N imm0 w0 M0 imm t M a w) : Rel P N imm0 w0 M0 imm t M a { w with drawn := w.drawn + 1 } :=
 ⟨h.size, h.defers, h.tm.ev fun g hg => ⟨hg, rfl⟩, ⟨h.step.inv.drew, h.step.lt, h.step.size, h.step.os, h.step.tape, h.step.output, h.step.block, h.step.owns⟩, h.glob.ev fun g hg => ⟨hg, rfl⟩⟩
theorem mem_numb : ∀ {l : List Oper} {i j : Nat} {o : Oper}, (j, o) ∈ numb i l ↔ i ≤ j ∧ l[j - i]? = some o
 | [], i, j, o => by simp [numb]
 | x :: l, i, j, o => by
  rw [numb, List.mem_cons, mem_numb (l := l)]
  constructor
  ·rintro (h | ⟨h1, h2⟩)
   ·cases h; simp
   ·refine ⟨by omega, ?_⟩
    rw [show j - i = (j - (i + 1)) + 1 by omega]; simpa using h2
  ·rintro ⟨h1, h2⟩
   by_cases h : j = i
   ·subst h; simp at h2; left; rw [h2]
   ·right
    refine ⟨by omega, ?_⟩
    rw [show j - i = (j - (i + 1)) + 1 by omega] at h2; simpa using h2
theorem numb_pw : ∀ (l : List Oper) (i : Nat), (numb i l).Pairwise fun x y => x.1 < y.1
 | [], i => by simp [numb]
 | x :: l, i => by
  rw [numb, List.pairwise_cons]
  refine ⟨fun y hy => ?_, numb_pw l (i + 1)⟩
  obtain ⟨j, o⟩ := y
  have := (mem_numb.1 hy).1
  simp only; omega
theorem numb_length : ∀ (l : List Oper) (i : Nat), (numb i l).length = l.length
 | [], _ => rfl
 | x :: l, i => by simp [numb, numb_length l]
theorem Sat.drawn {id : Nat} {C : Kont} (hm : P.follows .mixedOrders = true) (D E : List (Nat × Nat)) (rc : List Nat) (hB : drawOk N ops D E rc (mkTab ops.toList) = true) (hΦ : Sound P Φ)
  (h : wpD D E rc Φ P (ops.toList.map (·.dst)) (numb 0 ops.toList) [] t M (C .normal)) : Sat P N (.region id ops true) t M C := by
 intro imm0 w0 M0 imm a w hr
 refine wp_region_any hm (wpD_any hΦ hB (K := C .normal) (fun imm' t' M' a' w' hr' hk => ⟨t', M', imm', hr', hk⟩) ops.size (numb 0 ops.toList) [] _ t M imm a _ (by rw [numb_length]; simp) (by simp) (fun j o => ?_) (numb_pw _ _) ?_ (fun _ hx => by cases hx) h hr.drew)
 ·rw [mem_numb]
  simp only [Nat.zero_le, true_and, Nat.sub_zero, Array.getElem?_toList]
  constructor
  ·intro h
   have hj : j < ops.size := (Array.getElem?_eq_some_iff.1 h).1
   exact ⟨h, by simp [Array.getD, hj]⟩
  ·exact fun h => h.1
 ·intro j hj
  exfalso
  by_cases h : j < ops.size <;> simp [Array.getD, h] at hj
end
end Go.Proofs.YtkdolbffabmemaaGreatDoor
