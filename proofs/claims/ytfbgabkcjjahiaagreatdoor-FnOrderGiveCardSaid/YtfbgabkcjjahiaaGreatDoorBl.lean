/-
 Contracts and plain laws.
-/
import Derived.Test.YtfbgabkcjjahiaaGreatDoorBa
import Derived.Test.YtfbgabkcjjahiaaGreatDoorBf
import Derived.Test.YtfbgabkcjjahiaaGreatDoorBj
import Derived.Test.YtfbgabkcjjahiaaGreatDoorBk
import Derived.Test.YtfbgabkcjjahiaaGreatDoorRows
import Derived.ProofKit
import Derived.OpenShut
import Derived.ChangeSlices
import Derived.JoinedOf
import Derived.JoinedAt
import Derived.Deep.DeepHandedRow
import Derived.Lib.LaidTab
import Derived.Test.YtfbgabkcjjahiaaGreatDoorCards
import Derived.Test.YtfbgabkcjjahiaaGreatDoorTie
set_option linter.unusedSimpArgs false
set_option linter.unusedVariables false
set_option linter.unusedSectionVars false
namespace Go.Proofs.YtfbgabkcjjahiaaGreatDoor
section
open Go.RowKit
theorem pref_all {α : Type} {q : α → Bool} {l : List α} {k : Nat} {x : α} (hx : l[k]? = some x) (h : ∀ y ∈ l.take k, q y = true) (hq : q x = true) : ∀ y ∈ l.take (k + 1), q y = true := fun y hy => by
 rw [take_get hx] at hy
 rcases List.mem_append.1 hy with hy | hy
 ·exact h y hy
 ·simp at hy; rw [hy]; exact hq
theorem lpList_fn (a b : List Sn) (ha : ∀ s ∈ a, s.small) (hb : ∀ s ∈ b, s.small) (hal : a.length < 2 ^ 40) (hbl : b.length < 2 ^ 40) : Fp Tryz.prog 30 [.sl (a.map Sn.V), .sl (b.map Sn.V)] (.bool (decide (a = b))) := by
  refine Fc.start (S := [8]) Tryz.func30 Tryz.ntmps30 Tryz.results30 rfl (by decide) rfl (by kernel_rfl) ?_
  cases hl : ((a.length : Int) != b.length)
  rotate_left
  · simp (disch := omega) only [push_cast, go_sem, zA, simprocAttr, hl]
    have : ¬ a = b := fun h => by rw [h] at hl; simp at hl
    simp [this]
  have hl' : a.length = b.length := by have : (a.length : Int) = b.length := by simpa using hl
                                       omega
  simp (disch := omega) only [push_cast, go_sem, zA, simprocAttr, hl]
  refine Sat.loop (σ := Nat) (fun k => upd (upd (upd noT 0 (.sl (a.map Sn.V))) 1 (.sl (b.map Sn.V))) 5 (.int .i64 k)) (fun _ => noM)
    (fun k => k ≤ a.length ∧ ∀ (j : Nat) (x y : Sn), j < k → a[j]? = some x → b[j]? = some y → (x == y) = true) (fun k => a.length - k) 0 (by simp) ?_ ?_
  · (refine zB ?_; repeat (first | exact zC | exact zD | refine zE (by decide) ?_ | refine zF ?_ ?_ | refine zG ?_ ?_)) <;> (try simp (disch := omega) only [push_cast, go_sem, zA, simprocAttr])
  rintro k ⟨hk, hall⟩ J hJ
  refine Sat.of (S := []) (by kernel_rfl) ?_
  rcases Nat.lt_or_ge k a.length with hlt | hge
  · obtain ⟨x, hx⟩ : ∃ x, a[k]? = some x := ⟨_, List.getElem?_eq_getElem hlt⟩
    have hltb : k < b.length := by omega
    obtain ⟨y, hy⟩ : ∃ y, b[k]? = some y := ⟨_, List.getElem?_eq_getElem hltb⟩
    have hs := lpSame_fn x y (ha x (List.mem_of_getElem? hx)) (hb y (List.mem_of_getElem? hy))
    rw [Sn.V_eq, Sn.V_eq] at hs
    cases he : decide (x = y)
    · rw [he] at hs
      simp (disch := omega) only [push_cast, go_sem, zA, simprocAttr, hlt]
      refine Sat.drawnE [] [] (List.range 10) (pureT [(20, .bool false)]) (by kernel_rfl) (by kernel_rfl) ?_
      simp (disch := omega) only [push_cast, go_sem, zA, simprocAttr, hx, hy, hlt, hltb, Sn.V_eq]
      refine runD_pure rfl hs rfl rfl ?_ ?_
      · rfl
      simp (disch := omega) only [push_cast, go_sem, zA, simprocAttr]
      have : ¬ a = b := list_ne_at hx hy (of_decide_eq_false he)
      simp [this]
    · rw [he] at hs
      simp (disch := omega) only [push_cast, go_sem, zA, simprocAttr, hlt]
      refine Sat.drawnE [] [] (List.range 10) (pureT [(20, .bool true)]) (by kernel_rfl) (by kernel_rfl) ?_
      simp (disch := omega) only [push_cast, go_sem, zA, simprocAttr, hx, hy, hlt, hltb, Sn.V_eq]
      refine runD_pure rfl hs rfl rfl ?_ ?_
      · rfl
      simp (disch := omega) only [push_cast, go_sem, zA, simprocAttr]
      refine hJ (k + 1) _ _ ⟨by omega, fun j x' y' hj h1 h2 => ?_⟩ (by omega) ?_
      · rcases Nat.lt_or_ge j k with h | h
        · exact hall j x' y' h h1 h2
        · have : j = k := by omega
          subst this; rw [hx] at h1; rw [hy] at h2; cases h1; cases h2
          exact beq_iff_eq.2 (of_decide_eq_true he)
      · (refine zB ?_; repeat (first | exact zC | exact zD | refine zE (by decide) ?_ | refine zF ?_ ?_ | refine zG ?_ ?_)) <;> (try simp (disch := omega) only [push_cast, go_sem, zA, simprocAttr])
  · have hkl : k = a.length := by omega
    subst hkl
    simp (disch := omega) only [push_cast, go_sem, zA, simprocAttr]
    refine Sat.of (S := []) (by kernel_rfl) ?_
    simp (disch := omega) only [push_cast, go_sem, zA, simprocAttr]
    have : a = b := list_eq_drop hl' hall (Nat.le_refl _)
    simp [this]
theorem specSeenIn_fn (l : List Sn) (s : Sn) (hls : ∀ t ∈ l, t.small) (hs : s.small) (hl : l.length < 2 ^ 40) : Fp Tryz.prog 69 [.sl (l.map Sn.V), s.V] (.bool (decide (s ∈ l))) := by
 refine Fc.start (S := [6]) Tryz.func69 Tryz.ntmps69 Tryz.results69 rfl (by decide) rfl (by kernel_rfl) ?_
 simp (disch := omega) only [push_cast, go_sem, zA, simprocAttr, Sn.V_eq]
 intro g3
 refine Sat.loop (σ := Nat) (fun k => upd (upd (upd noT 0 (.sl (l.map Sn.V))) 3 (.ptr 3 [] 0 0 g3 2)) 5 (.int .i64 k)) (fun _ => noM.set 3 (.own 28 (some g3) 1 [.agg [.sl (s.rd.map (V.int .i64)), .sl (s.ls.map (V.int .i64))]]))
  (fun k => k ≤ l.length ∧ ∀ y ∈ l.take k, decide (y ≠ s) = true) (fun k => l.length - k) 0 (by simp) ?_ ?_
 ·(refine zB ?_; repeat (first | exact zC | exact zD | refine zE (by decide) ?_ | refine zF ?_ ?_ | refine zG ?_ ?_)) <;> (try simp (disch := omega) only [push_cast, go_sem, zA, simprocAttr])
 rintro k ⟨hk, hall⟩ J hJ
 refine Sat.of (S := [6]) (by kernel_rfl) ?_
 rcases Nat.lt_or_ge k l.length with hlt | hge
 ·obtain ⟨x, hx⟩ : ∃ x, l[k]? = some x := ⟨_, List.getElem?_eq_getElem hlt⟩
  have hcm := l2Seen_fn x s (hls x (List.mem_of_getElem? hx)) hs
  have hz : (cmpS x s == 0) = decide (x = s) := by rw [Bool.eq_iff_iff, beq_iff_eq, decide_eq_true_eq]; exact cmpS_zero
  rw [Sn.V_eq, Sn.V_eq] at hcm
  simp (disch := omega) only [push_cast, go_sem, zA, simprocAttr, hlt]
  refine Sat.drawnE [] [] (List.range 7) (pureT [(45, .int .i64 (cmpS x s))]) (by kernel_rfl) (by kernel_rfl) ?_
  simp (disch := omega) only [push_cast, go_sem, zA, simprocAttr, hx, hlt, Sn.V_eq]
  refine runD_pure rfl hcm rfl rfl ?_ ?_
  ·rfl
  cases he : decide (x = s)
  ·rw [he] at hz
   simp (disch := omega) only [push_cast, go_sem, zA, simprocAttr, hz]
   refine hJ (k + 1) _ _ ⟨by omega, pref_all hx hall (by simpa using he)⟩ (by omega) ?_
   (refine zB ?_; repeat (first | exact zC | exact zD | refine zE (by decide) ?_ | refine zF ?_ ?_ | refine zG ?_ ?_)) <;> (try simp (disch := omega) only [push_cast, go_sem, zA, simprocAttr])
  ·rw [he] at hz
   simp (disch := omega) only [push_cast, go_sem, zA, simprocAttr, hz]
   have : s ∈ l := by rw [← of_decide_eq_true he]; exact List.mem_of_getElem? hx
   simp [this]
 ·have hkl : k = l.length := by omega
  subst hkl
  rw [List.take_length] at hall
  simp (disch := omega) only [push_cast, go_sem, zA, simprocAttr]
  have : s ∉ l := fun h => by simpa using hall s h
  refine Sat.of (S := []) (by kernel_rfl) ?_
  simp (disch := omega) only [push_cast, go_sem, zA, simprocAttr]
  simp [this]
theorem lpWithin_fn (a b : List Sn) (ha : ∀ s ∈ a, s.small) (hb : ∀ s ∈ b, s.small) (hal : a.length < 2 ^ 40) (hbl : b.length < 2 ^ 40) : Fp Tryz.prog 32 [.sl (a.map Sn.V), .sl (b.map Sn.V)] (.bool (a.all fun s => decide (s ∈ b))) := by
 refine Fc.start (S := [6]) Tryz.func32 Tryz.ntmps32 Tryz.results32 rfl (by decide) rfl (by kernel_rfl) ?_
 simp (disch := omega) only [push_cast, go_sem, zA, simprocAttr]
 refine Sat.loop (σ := Nat) (fun k => upd (upd (upd noT 0 (.sl (a.map Sn.V))) 1 (.sl (b.map Sn.V))) 5 (.int .i64 k)) (fun _ => noM)
  (fun k => k ≤ a.length ∧ ∀ y ∈ a.take k, decide (y ∈ b) = true) (fun k => a.length - k) 0 (by simp) ?_ ?_
 ·(refine zB ?_; repeat (first | exact zC | exact zD | refine zE (by decide) ?_ | refine zF ?_ ?_ | refine zG ?_ ?_)) <;> (try simp (disch := omega) only [push_cast, go_sem, zA, simprocAttr])
 rintro k ⟨hk, hall⟩ J hJ
 refine Sat.of (S := [6]) (by kernel_rfl) ?_
 rcases Nat.lt_or_ge k a.length with hlt | hge
 ·obtain ⟨x, hx⟩ : ∃ x, a[k]? = some x := ⟨_, List.getElem?_eq_getElem hlt⟩
  have hs := specSeenIn_fn b x hb (ha x (List.mem_of_getElem? hx)) hbl
  rw [Sn.V_eq] at hs
  simp (disch := omega) only [push_cast, go_sem, zA, simprocAttr, hx, hlt, Sn.V_eq]
  refine callR.pure hs rfl rfl ?_
  cases he : decide (x ∈ b)
  ·simp (disch := omega) only [push_cast, go_sem, zA, simprocAttr]
   have : (a.all fun s => decide (s ∈ b)) = false := by
    rw [List.all_eq_false]; exact ⟨x, List.mem_of_getElem? hx, by rw [he]; simp⟩
   rw [this]
  ·simp (disch := omega) only [push_cast, go_sem, zA, simprocAttr]
   refine hJ (k + 1) _ _ ⟨by omega, pref_all hx hall he⟩ (by omega) ?_
   (refine zB ?_; repeat (first | exact zC | exact zD | refine zE (by decide) ?_ | refine zF ?_ ?_ | refine zG ?_ ?_)) <;> (try simp (disch := omega) only [push_cast, go_sem, zA, simprocAttr])
 ·have hkl : k = a.length := by omega
  subst hkl
  rw [List.take_length] at hall
  simp (disch := omega) only [push_cast, go_sem, zA, simprocAttr]
  refine Sat.of (S := []) (by kernel_rfl) ?_
  simp (disch := omega) only [push_cast, go_sem, zA, simprocAttr]
  rw [List.all_eq_true.2 hall]
end
section
open Go.RowKit
end
section
open Go.RowKit
def DrawnA (r : V) : Prop := ∃ (p : Prog) (kind : Int), r = .tuple [progV p, .int .i64 kind] ∧ p.length ≤ 3 ∧ (∀ l ∈ p, l.length < 2 ^ 11)
theorem DrawOrderAll_fn (bs : List Int) (hb : Code8 bs) (hl : bs.length < 2 ^ 40) : Fc Tryz.prog 29 [codeV bs] noM (fun r m => DrawnA r ∧ m = noM) := by
 refine Fc.start (S := []) Tryz.func29 Tryz.ntmps29 Tryz.results29 rfl (by decide) rfl (by kernel_rfl) ?_
 simp (disch := omega) only [push_cast, go_sem, zA, simprocAttr, codeV_eq]
 intro g2
 refine callR.new (l6Open_fn bs hl) rfl rfl ?_
 rintro r ob ⟨g, rfl, rfl⟩
 simp (disch := omega) only [push_cast, go_sem, zA, simprocAttr]
 refine callR.rd (l71Any_rd (bs.take 2000) hb.take g 0 (by omega)) rfl rfl rfl ?_
 rintro r o' ⟨x, rfl, hx1, hx2, q, hq1, hq2, rfl⟩
 simp (disch := omega) only [push_cast, go_sem, zA, simprocAttr, progV_eq]
 refine callR.rd (l71Kind_pl (bs.take 2000) hb.take g q (by omega)) rfl rfl rfl ?_
 rintro r o' ⟨⟨kind, rfl⟩, q1, hq3, hq4, rfl⟩
 simp (disch := omega) only [push_cast, go_sem, zA, simprocAttr]
 exact ⟨x, kind, rfl, hx1, hx2⟩
end
section
open Go.RowKit
end
section
open Go.RowKit
def cntT (k : Int) (l : List Do) : Nat := (l.filter fun d => d.k == k).length
def cntP (k : Int) (p : Prog) : Nat := (p.map (cntT k)).sum
def swT (k to : Int) : List Do → Int → List Do
 | [], _ => []
 | d :: l, n => if d.k == k then (if n == 0 then ⟨to, d.p, d.v⟩ else d) :: swT k to l (n - 1) else d :: swT k to l n
def swP (k to : Int) : Prog → Int → Prog
 | [], _ => []
 | l :: p, n => swT k to l n :: swP k to p (n - cntT k l)
theorem cntT_le (k : Int) (l : List Do) : cntT k l ≤ l.length := List.length_filter_le _ _
theorem cntT_app (k : Int) (a b : List Do) : cntT k (a ++ b) = cntT k a + cntT k b := by simp [cntT]
theorem cntP_app (k : Int) (a b : Prog) : cntP k (a ++ b) = cntP k a + cntP k b := by simp [cntP]
theorem cntT_yes {k : Int} {l : List Do} {i : Nat} {d : Do} (hd : l[i]? = some d) (h : (d.k == k) = true) : cntT k (l.take (i + 1)) = cntT k (l.take i) + 1 := by
 rw [take_get hd, cntT_app]; simp [cntT, h]
theorem cntT_no {k : Int} {l : List Do} {i : Nat} {d : Do} (hd : l[i]? = some d) (h : (d.k == k) = false) : cntT k (l.take (i + 1)) = cntT k (l.take i) := by
 rw [take_get hd, cntT_app]; simp [cntT, h]
theorem cntP_get {k : Int} {p : Prog} {i : Nat} {l : List Do} (hl : p[i]? = some l) : cntP k (p.take (i + 1)) = cntP k (p.take i) + cntT k l := by
 rw [take_get hl, cntP_app]; simp [cntP]
theorem cntP_le {k : Int} {p : Prog} (h : ∀ l ∈ p, l.length < 2 ^ 11) : ∀ i, cntP k (p.take i) ≤ 2 ^ 11 * i := by
 intro i
 induction i with
 | zero => simp [cntP]
 | succ i ih =>
  cases hl : p[i]? with
  | none =>
   have : p.length ≤ i := by rwa [List.getElem?_eq_none_iff] at hl
   rw [List.take_of_length_le (by omega)] at ih ⊢
   omega
  | some l =>
   rw [cntP_get hl]
   have := cntT_le k l
   have := h l (List.mem_of_getElem? hl)
   omega
theorem swT_len (k to : Int) : ∀ (l : List Do) (n : Int), (swT k to l n).length = l.length
 | [], _ => rfl
 | d :: l, n => by
  rw [swT]
  split
  ·rw [List.length_cons, List.length_cons, swT_len k to l]
  ·rw [List.length_cons, List.length_cons, swT_len k to l]
theorem swT_app (k to : Int) : ∀ (a b : List Do) (n : Int), swT k to (a ++ b) n = swT k to a n ++ swT k to b (n - cntT k a)
 | [], b, n => by simp [swT, cntT]
 | d :: a, b, n => by
  rw [List.cons_append, swT, swT]
  by_cases h : (d.k == k) = true
  ·rw [if_pos h, if_pos h, swT_app k to a b, List.cons_append]
   have : cntT k (d :: a) = cntT k a + 1 := by simp [cntT, h]
   rw [this, show n - 1 - (cntT k a : Int) = n - ((cntT k a + 1 : Nat) : Int) by omega]
  ·rw [if_neg h, if_neg h, swT_app k to a b, List.cons_append]
   have : cntT k (d :: a) = cntT k a := by simp [cntT, h]
   rw [this]
theorem swP_app (k to : Int) : ∀ (a b : Prog) (n : Int), swP k to (a ++ b) n = swP k to a n ++ swP k to b (n - cntP k a)
 | [], b, n => by simp [swP, cntP]
 | l :: a, b, n => by
  rw [List.cons_append, swP, swP, swP_app k to a b, List.cons_append]
  have : cntP k (l :: a) = cntT k l + cntP k a := by simp [cntP]
  rw [this, show n - (cntT k l : Int) - (cntP k a : Int) = n - ((cntT k l + cntP k a : Nat) : Int) by omega]
def swK (k to : Int) (l : List Do) (n : Int) (i : Nat) : List Do := swT k to (l.take i) n ++ l.drop i
theorem swK_at {k to : Int} {l : List Do} {n : Int} {i : Nat} {d : Do} (hd : l[i]? = some d) : (swK k to l n i)[i]? = some d := by
 have hi := (List.getElem?_eq_some_iff.1 hd).1
 rw [swK, List.getElem?_append_right (by rw [swT_len, List.length_take]; omega), swT_len, List.length_take, Nat.min_eq_left (by omega), Nat.sub_self, List.getElem?_drop, Nat.add_zero]
 exact hd
theorem swK_len {k to : Int} {l : List Do} {n : Int} {i : Nat} : (swK k to l n i).length = l.length := by
 rw [swK, List.length_append, swT_len, List.length_take, List.length_drop]; omega
theorem swK_no {k to : Int} {l : List Do} {n : Int} {i : Nat} {d : Do} (hd : l[i]? = some d) (h : (d.k == k) = false ∨ ((n - cntT k (l.take i) == 0) = false)) : swK k to l n (i + 1) = swK k to l n i := by
 rw [swK, swK, take_get hd, swT_app, drop_get hd, List.append_assoc]
 congr 1
 rw [swT]
 split
 ·rename_i h'
  rw [h'] at h
  rw [h.resolve_left (by simp)]
  simp [swT]
 ·simp [swT]
theorem swK_yes {k to : Int} {l : List Do} {n : Int} {i : Nat} {d : Do} (hd : l[i]? = some d) (h : (d.k == k) = true) (h2 : (n - cntT k (l.take i) == 0) = true) : swK k to l n (i + 1) = (swK k to l n i).set i ⟨to, d.p, d.v⟩ := by
 have hi := (List.getElem?_eq_some_iff.1 hd).1
 rw [swK, swK, take_get hd, swT_app, drop_get hd, List.append_assoc, List.set_append_right _ _ (by rw [swT_len, List.length_take]; omega), swT_len, List.length_take, Nat.min_eq_left (by omega), Nat.sub_self]
 congr 1
 rw [swT, if_pos h, if_pos h2]
 simp [swT]
theorem map_set_modify (l : List Do) (i : Nat) (to : Int) (d : Do) (hd : l[i]? = some d) : (l.map Do.V).modify i (fun x => x.setC 0 (.int .i64 to)) = (l.set i ⟨to, d.p, d.v⟩).map Do.V := by
 apply List.ext_getElem?
 intro j
 rw [List.getElem?_modify, List.getElem?_map, List.getElem?_map, List.getElem?_set]
 by_cases h : i = j
 ·subst h
  obtain ⟨hi, rfl⟩ := List.getElem?_eq_some_iff.1 hd
  simp [hi, Do.V, V.setC]
 ·simp [h]
def swR (p : Prog) (k to n : Int) : Prog × Bool := if cntP k p = 0 then (p, false) else (swP k to p (n.tmod (cntP k p)), progOk (swP k to p (n.tmod (cntP k p))))
theorem lpSwap_fn (p : Prog) (k to n : Int) (hp : p.length < 2 ^ 20) (hl : ∀ l ∈ p, l.length < 2 ^ 11) (h0 : 0 ≤ n) (hn : n < 2 ^ 40) : Fp Tryz.prog 39 [progV p, .int .i64 k, .int .i64 to, .int .i64 n] (.tuple [progV (swR p k to n).1, .bool (swR p k to n).2]) := by
 have hcl := cntP_le (k := k) hl
 refine Fc.start (S := [10]) Tryz.func39 Tryz.ntmps39 Tryz.results39 rfl (by decide) rfl (by kernel_rfl) ?_
 simp (disch := omega) only [push_cast, go_sem, zA, simprocAttr, progV_eq]
 intro g4 g8
 refine Sat.loop (σ := Nat) (fun i => upd (upd (upd (upd (upd (upd (upd (upd noT 1 (.int .i64 k)) 2 (.int .i64 to)) 3 (.int .i64 n)) 4 (.ptr 4 [] 0 0 g4 1)) 8 (.ptr 8 [] 0 0 g8 1)) 9 (.bool false)) 10 (.int .i64 (cntP k (p.take i)))) 11 (.int .i64 i))
  (fun _ => (noM.set 4 (boxP p g4)).set 8 (.own 25 (some g8) 1 [.agg [.own 0 none 0 []]])) (fun i => i ≤ p.length) (fun i => p.length - i) 0 (by simp) ?_ ?_
 ·(refine zB ?_; repeat (first | exact zC | exact zD | refine zE (by decide) ?_ | refine zF ?_ ?_ | refine zG ?_ ?_)) <;> (try simp (disch := omega) only [push_cast, go_sem, zA, simprocAttr])
  all_goals simp [cntP, boxP]
 rintro i hi J hJ
 refine Sat.of (S := []) (by kernel_rfl) ?_
 have hci := hcl i
 rcases Nat.lt_or_ge i p.length with hlt | hge
 ·obtain ⟨l, he⟩ : ∃ l, p[i]? = some l := ⟨_, List.getElem?_eq_getElem hlt⟩
  have hll := hl l (List.mem_of_getElem? he)
  simp (disch := omega) only [push_cast, go_sem, zA, simprocAttr, he, hlt, boxP_eq, thrV_eq]
  refine Sat.loop (σ := Nat) (fun j => upd (upd (upd (upd (upd (upd (upd (upd (upd noT 1 (.int .i64 k)) 2 (.int .i64 to)) 3 (.int .i64 n)) 4 (.ptr 4 [] 0 0 g4 1)) 8 (.ptr 8 [] 0 0 g8 1)) 9 (.bool false)) 10 (.int .i64 (cntP k (p.take i) + cntT k (l.take j) : Nat))) 11 (.int .i64 i)) 12 (.int .i64 j))
   (fun _ => (noM.set 4 (boxP p g4)).set 8 (.own 25 (some g8) 1 [.agg [.own 0 none 0 []]])) (fun j => j ≤ l.length) (fun j => l.length - j) 0 (by simp) ?_ ?_
  ·(refine zB ?_; repeat (first | exact zC | exact zD | refine zE (by decide) ?_ | refine zF ?_ ?_ | refine zG ?_ ?_)) <;> (try simp (disch := omega) only [push_cast, go_sem, zA, simprocAttr])
   all_goals simp [cntT, boxP]
  rintro j hj J2 hJ2
  refine Sat.of (S := []) (by kernel_rfl) ?_
  have hct := cntT_le k (l.take j)
  rw [List.length_take] at hct
  rcases Nat.lt_or_ge j l.length with hlj | hgj
  ·obtain ⟨d, hd⟩ : ∃ d, l[j]? = some d := ⟨_, List.getElem?_eq_getElem hlj⟩
   cases hk : (d.k == k)
   ·have := cntT_no hd hk
    simp (disch := omega) only [push_cast, go_sem, zA, simprocAttr, he, hlt, hd, hlj, boxP_eq, thrV_eq, Do.V_eq, hk]
    refine hJ2 (j + 1) _ _ (by omega) (by omega) ?_
    rw [this]
    (refine zB ?_; repeat (first | exact zC | exact zD | refine zE (by decide) ?_ | refine zF ?_ ?_ | refine zG ?_ ?_)) <;> (try simp (disch := omega) only [push_cast, go_sem, zA, simprocAttr])
    rfl
   ·have := cntT_yes hd hk
    simp (disch := omega) only [push_cast, go_sem, zA, simprocAttr, he, hlt, hd, hlj, boxP_eq, thrV_eq, Do.V_eq, hk]
    refine hJ2 (j + 1) _ _ (by omega) (by omega) ?_
    rw [this]
    (refine zB ?_; repeat (first | exact zC | exact zD | refine zE (by decide) ?_ | refine zF ?_ ?_ | refine zG ?_ ?_)) <;> (try simp (disch := omega) only [push_cast, go_sem, zA, simprocAttr])
    ·rfl
    ·omega
  ·have : j = l.length := by omega
   subst this
   have hcp := cntP_get (k := k) he
   rw [List.take_length]
   simp (disch := omega) only [push_cast, go_sem, zA, simprocAttr, he, hlt, boxP_eq, thrV_eq]
   refine hJ (i + 1) _ _ (by omega) (by omega) ?_
   rw [hcp]
   (refine zB ?_; repeat (first | exact zC | exact zD | refine zE (by decide) ?_ | refine zF ?_ ?_ | refine zG ?_ ?_)) <;> (try simp (disch := omega) only [push_cast, go_sem, zA, simprocAttr])
   rfl
 ·have : i = p.length := by omega
  subst this
  rw [List.take_length] at hci ⊢
  simp (disch := omega) only [push_cast, go_sem, zA, simprocAttr, boxP_eq]
  by_cases hc : cntP k p = 0
  ·have hc' : ((cntP k p : Int) == 0) = true := by simp [hc]
   have hz : ((cntP k p : Nat) : Int) = 0 := by omega
   refine Sat.of (S := []) (by kernel_rfl) ?_
   simp (disch := omega) only [push_cast, go_sem, zA, simprocAttr, boxP_eq, hc', hz]
   rw [swR, if_pos hc]
  have hc' : ((cntP k p : Int) == 0) = false := by simp; omega
  have hz : ¬ ((cntP k p : Nat) : Int) = 0 := by omega
  refine Sat.of (S := [26]) (by kernel_rfl) ?_
  obtain ⟨m, hm⟩ : ∃ m : Int, n.tmod (cntP k p) = m := ⟨_, rfl⟩
  have hm0 : 0 ≤ m := by rw [← hm]; exact Int.tmod_nonneg _ h0
  have hm1 : m < cntP k p := by rw [← hm]; exact Int.tmod_lt_of_pos _ (by omega)
  simp (disch := omega) only [push_cast, go_sem, zA, simprocAttr, boxP_eq, hc', hz, hm]
  intro g13
  refine Sat.loop (σ := BoxO × Nat) (fun x => upd (upd (upd (upd (upd (upd (upd (upd noT 1 (.int .i64 k)) 2 (.int .i64 to)) 3 (.int .i64 (m - cntP k (p.take x.2)))) 4 (.ptr 4 [] 0 0 g4 1)) 8 (.ptr 8 [] 0 0 g8 1)) 9 (.bool false)) 13 (.ptr 13 [] 0 0 g13 1)) 14 (.int .i64 x.2))
   (fun x => ((noM.set 4 (boxP p g4)).set 8 (.own 25 (some g8) 1 [.agg [.own 0 none 0 []]])).set 13 (x.1.V g13))
   (fun x => x.2 ≤ p.length ∧ x.1.p = swP k to (p.take x.2) m ∧ (x.1.γ = none ∨ x.1.e = 60)) (fun x => p.length - x.2) (⟨0, none, 0, []⟩, 0) (by simp [BoxO.p, swP]) ?_ ?_
  ·(refine zB ?_; repeat (first | exact zC | exact zD | refine zE (by decide) ?_ | refine zF ?_ ?_ | refine zG ?_ ?_)) <;> (try simp (disch := omega) only [push_cast, go_sem, zA, simprocAttr])
   all_goals simp [cntP, boxP, BoxO.V]
  rintro ⟨x, i⟩ ⟨k1, k2, k3⟩ J3 hJ3
  refine Sat.of (S := []) (by kernel_rfl) ?_
  simp only at k1 k2 k3 hJ3
  have hci := hcl i
  have hxl : x.xs.length = i := by
   have := congrArg List.length k2
   have sl : ∀ (q : Prog) (z : Int), (swP k to q z).length = q.length := by
    intro q
    induction q with
    | nil => intro z; rfl
    | cons l q ih => intro z; rw [swP, List.length_cons, List.length_cons, ih]
   rw [sl, List.length_take] at this
   simp [BoxO.p] at this
   omega
  rcases Nat.lt_or_ge i p.length with hlt | hge
  ·obtain ⟨l, he⟩ : ∃ l, p[i]? = some l := ⟨_, List.getElem?_eq_getElem hlt⟩
   have hll := hl l (List.mem_of_getElem? he)
   have hcl' := cntT_le k l
   simp (disch := omega) only [push_cast, go_sem, zA, simprocAttr, he, hlt, boxP_eq, thrV_eq]
   refine fun g15 => ⟨by omega, fun γ c hγ => ?_⟩
   refine Sat.loop (σ := Nat) (fun j => upd (upd (upd (upd (upd (upd (upd (upd (upd (upd noT 1 (.int .i64 k)) 2 (.int .i64 to)) 3 (.int .i64 (m - cntP k (p.take i) - cntT k (l.take j)))) 4 (.ptr 4 [] 0 0 g4 1)) 8 (.ptr 8 [] 0 0 g8 1)) 9 (.bool false)) 13 (.ptr 13 [] 0 0 g13 1)) 14 (.int .i64 i)) 15 (.msl 15 [] γ l.length c)) 16 (.int .i64 j))
    (fun j => (((noM.set 4 (boxP p g4)).set 8 (.own 25 (some g8) 1 [.agg [.own 0 none 0 []]])).set 13 (x.V g13)).set 15 (.own 62 γ c ((swK k to l (m - cntP k (p.take i)) j).map Do.V)))
    (fun j => j ≤ l.length) (fun j => l.length - j) 0 (by simp) ?_ ?_
   ·(refine zB ?_; repeat (first | exact zC | exact zD | refine zE (by decide) ?_ | refine zF ?_ ?_ | refine zG ?_ ?_)) <;> (try simp (disch := omega) only [push_cast, go_sem, zA, simprocAttr])
    all_goals simp [cntT, swK, swT, boxP]
   rintro j hj J4 hJ4
   refine Sat.of (S := []) (by kernel_rfl) ?_
   have hct := cntT_le k (l.take j)
   rw [List.length_take] at hct
   rcases Nat.lt_or_ge j l.length with hlj | hgj
   ·obtain ⟨d, hd⟩ : ∃ d, l[j]? = some d := ⟨_, List.getElem?_eq_getElem hlj⟩
    have hsw := swK_at (k := k) (to := to) (n := m - cntP k (p.take i)) hd
    have hsl := swK_len (k := k) (to := to) (l := l) (n := m - cntP k (p.take i)) (i := j)
    cases hγ' : γ with
    | none => rw [hγ'] at hγ; have := hγ rfl; simp at this; subst this; simp at hlj
    | some g =>
    cases hk : (d.k == k)
    ·have h1 := cntT_no hd hk
     have h2 := swK_no (to := to) (n := m - cntP k (p.take i)) hd (.inl hk)
     simp (disch := omega) only [push_cast, go_sem, zA, simprocAttr, hsw, hsl, hlj, Do.V_eq, hk]
     refine hJ4 (j + 1) _ _ (by omega) (by omega) ?_
     rw [h1, h2, hγ']
     (refine zB ?_; repeat (first | exact zC | exact zD | refine zE (by decide) ?_ | refine zF ?_ ?_ | refine zG ?_ ?_)) <;> (try simp (disch := omega) only [push_cast, go_sem, zA, simprocAttr])
    ·have h1 := cntT_yes hd hk
     cases hz2 : (m - cntP k (p.take i) - cntT k (l.take j) == 0)
     ·have h2 := swK_no (to := to) (n := m - cntP k (p.take i)) hd (.inr hz2)
      simp (disch := omega) only [push_cast, go_sem, zA, simprocAttr, hsw, hsl, hlj, Do.V_eq, hk, hz2]
      refine hJ4 (j + 1) _ _ (by omega) (by omega) ?_
      rw [h1, h2, hγ']
      (refine zB ?_; repeat (first | exact zC | exact zD | refine zE (by decide) ?_ | refine zF ?_ ?_ | refine zG ?_ ?_)) <;> (try simp (disch := omega) only [push_cast, go_sem, zA, simprocAttr])
      omega
     ·have h2 := swK_yes (to := to) (n := m - cntP k (p.take i)) hd hk hz2
      simp (disch := omega) only [push_cast, go_sem, zA, simprocAttr, hsw, hsl, hlj, Do.V_eq, hk, hz2]
      refine hJ4 (j + 1) _ _ (by omega) (by omega) ?_
      rw [h1, h2, hγ', ← map_set_modify _ _ _ _ hsw]
      (refine zB ?_; repeat (first | exact zC | exact zD | refine zE (by decide) ?_ | refine zF ?_ ?_ | refine zG ?_ ?_)) <;> (try simp (disch := omega) only [push_cast, go_sem, zA, simprocAttr])
      omega
   ·have : j = l.length := by omega
    subst this
    rw [List.take_length]
    have k3' : (x.γ = none ∨ x.e = 60) = True := by simp only [k3]
    have hsl := swK_len (k := k) (to := to) (l := l) (n := m - cntP k (p.take i)) (i := l.length)
    have hcp := cntP_get (k := k) he
    cases hfl : (V.own 62 γ c ((swK k to l (m - cntP k (p.take i)) l.length).map Do.V)).flatC <;> simp (disch := omega) only [push_cast, go_sem, zA, simprocAttr, BoxO.V_eq, k3', hsl, hfl]
    all_goals
     intro g93
     refine ⟨by omega, fun γ2 c2 _ => ?_⟩
     refine hJ3 (⟨60, γ2, c2, x.xs ++ [⟨γ, c, swK k to l (m - cntP k (p.take i)) l.length⟩]⟩, i + 1) _ _ ⟨by dsimp only; omega, ?_, .inr rfl⟩ (by dsimp only; omega) ?_
     ·dsimp only
      have h5 : BoxO.p ⟨60, γ2, c2, x.xs ++ [⟨γ, c, swK k to l (m - cntP k (p.take i)) l.length⟩]⟩ = x.p ++ [swK k to l (m - cntP k (p.take i)) l.length] := by simp [BoxO.p]
      rw [h5, k2, take_get he, swP_app, swP, swP, swK, List.take_length, List.drop_length, List.append_nil]
     ·dsimp only
      rw [hcp]
      (refine zB ?_; repeat (first | exact zC | exact zD | refine zE (by decide) ?_ | refine zF ?_ ?_ | refine zG ?_ ?_)) <;> (try simp (disch := omega) only [push_cast, go_sem, zA, simprocAttr])
      all_goals first | rfl | omega | simp [BoxO.V, RowO.V]
  ·have : i = p.length := by omega
   subst this
   rw [List.take_length] at k2
   simp (disch := omega) only [push_cast, go_sem, zA, simprocAttr, boxP_eq]
   refine Sat.freezeC 13 [] 0 0 (n0 := x.V g13) (d := .own x.e x.γ x.c (x.xs.map RowO.V)) rfl rfl rfl ?_
   rw [fz_box, k2]
   have sl : ∀ (q : Prog) (z : Int), (swP k to q z).length = q.length := by
    intro q
    induction q with
    | nil => intro z; rfl
    | cons l q ih => intro z; rw [swP, List.length_cons, List.length_cons, ih]
   have hok := specProgOk_fn (swP k to p m) (by rw [sl]; omega)
   rw [progV_eq] at hok
   refine Sat.of (S := []) (by kernel_rfl) ?_
   refine Sat.drawnE [(3, 0), (3, 1)] [] [0, 1, 2, 4] (pureT [(36, .bool (progOk (swP k to p m)))]) (by kernel_rfl) (by kernel_rfl) ?_
   simp (disch := omega) only [push_cast, go_sem, zA, simprocAttr, BoxO.V_eq]
   refine runD_pure rfl hok rfl rfl ?_ ?_
   ·rfl
   simp (disch := omega) only [push_cast, go_sem, zA, simprocAttr]
   rw [swR, if_neg hc, hm]
theorem swT_neg {k to : Int} : ∀ {l : List Do} {n : Int}, n < 0 → swT k to l n = l
 | [], _, _ => rfl
 | d :: l, n, h => by
  have e : (n == 0) = false := by simp; omega
  rw [swT, e, swT_neg (n := n - 1) (by omega), swT_neg h]
  simp
theorem swP_neg {k to : Int} : ∀ {p : Prog} {n : Int}, n < 0 → swP k to p n = p
 | [], _, _ => rfl
 | l :: p, n, h => by rw [swP, swT_neg h, swP_neg (by omega)]
theorem swT_split {k to : Int} : ∀ {l : List Do} {n : Int}, 0 ≤ n → (n < cntT k l ∧ ∃ l1 d l2, l = l1 ++ d :: l2 ∧ d.k = k ∧ swT k to l n = l1 ++ ⟨to, d.p, d.v⟩ :: l2) ∨ ((cntT k l : Int) ≤ n ∧ swT k to l n = l)
 | [], n, h => .inr ⟨by simp [cntT]; omega, rfl⟩
 | d :: l, n, h => by
  by_cases hd : (d.k == k) = true
  ·have hc : cntT k (d :: l) = cntT k l + 1 := by simp [cntT, hd]
   by_cases h0 : n = 0
   ·left
    subst h0
    refine ⟨by omega, [], d, l, rfl, by simpa using hd, ?_⟩
    rw [swT, if_pos hd, swT_neg (by omega)]; rfl
   ·have e : (n == 0) = false := by simpa using h0
    rcases swT_split (k := k) (to := to) (l := l) (n := n - 1) (by omega) with ⟨h1, l1, d', l2, rfl, h3, h4⟩ | ⟨h1, h2⟩
    ·exact .inl ⟨by omega, d :: l1, d', l2, rfl, h3, by rw [swT, if_pos hd, e, h4]; rfl⟩
    ·exact .inr ⟨by omega, by rw [swT, if_pos hd, e, h2]; rfl⟩
  ·have hc : cntT k (d :: l) = cntT k l := by simp [cntT, hd]
   rcases swT_split (k := k) (to := to) (l := l) (n := n) h with ⟨h1, l1, d', l2, rfl, h3, h4⟩ | ⟨h1, h2⟩
   ·exact .inl ⟨by omega, d :: l1, d', l2, rfl, h3, by rw [swT, if_neg hd, h4]; rfl⟩
   ·exact .inr ⟨by omega, by rw [swT, if_neg hd, h2]⟩
theorem swP_split {k to : Int} : ∀ {p : Prog} {n : Int}, 0 ≤ n → n < cntP k p → ∃ p1 l1 d l2 p2, p = p1 ++ (l1 ++ d :: l2) :: p2 ∧ d.k = k ∧ swP k to p n = p1 ++ (l1 ++ ⟨to, d.p, d.v⟩ :: l2) :: p2
 | [], n, h, h' => by simp [cntP] at h'; omega
 | l :: p, n, h, h' => by
  have hc : cntP k (l :: p) = cntT k l + cntP k p := by simp [cntP]
  rcases swT_split (k := k) (to := to) (l := l) h with ⟨h1, l1, d, l2, rfl, h3, h4⟩ | ⟨h1, h2⟩
  ·exact ⟨[], l1, d, l2, p, rfl, h3, by rw [swP, h4, swP_neg (by omega)]; rfl⟩
  ·obtain ⟨p1, l1, d, l2, p2, rfl, h3, h4⟩ := swP_split (k := k) (to := to) (p := p) (n := n - cntT k l) (by omega) (by omega)
   exact ⟨l :: p1, l1, d, l2, p2, rfl, h3, by rw [swP, h2, h4]; rfl⟩
theorem swR_split {p : Prog} {k to n : Int} (h0 : 0 ≤ n) (h : (swR p k to n).2 = true) : ∃ p1 l1 d l2 p2, p = p1 ++ (l1 ++ d :: l2) :: p2 ∧ d.k = k ∧ (swR p k to n).1 = p1 ++ (l1 ++ ⟨to, d.p, d.v⟩ :: l2) :: p2 ∧ progOk (swR p k to n).1 = true := by
 rw [swR] at h ⊢
 split at h
 ·cases h
 ·rename_i hc
  rw [if_neg hc]
  have hpos : (0 : Int) < ((cntP k p : Nat) : Int) := by omega
  obtain ⟨p1, l1, d, l2, p2, h1, h2, h3⟩ := swP_split (k := k) (to := to) (p := p) (n := n.tmod (cntP k p)) (Int.tmod_nonneg _ h0) (Int.tmod_lt_of_pos _ hpos)
  exact ⟨p1, l1, d, l2, p2, h1, h2, h3, h⟩
theorem swR_len {p : Prog} {k to n : Int} (h0 : 0 ≤ n) (hp : p.length ≤ 3) (hl : ∀ l ∈ p, l.length < 2 ^ 11) : (swR p k to n).1.length ≤ 3 ∧ ∀ l ∈ (swR p k to n).1, l.length < 2 ^ 11 := by
 rw [swR]
 split
 ·exact ⟨hp, hl⟩
 ·rename_i hc
  have hpos : (0 : Int) < ((cntP k p : Nat) : Int) := by omega
  obtain ⟨p1, l1, d, l2, p2, rfl, h2, h3⟩ := swP_split (k := k) (to := to) (p := p) (n := n.tmod (cntP k p)) (Int.tmod_nonneg _ h0) (Int.tmod_lt_of_pos _ hpos)
  dsimp only
  rw [h3]
  refine ⟨by simp at hp ⊢; omega, fun l h => ?_⟩
  rcases List.mem_append.1 h with h | h
  ·exact hl l (by simp [h])
  ·rcases List.mem_cons.1 h with rfl | h
   ·have := hl (l1 ++ d :: l2) (by simp)
    simp at this ⊢; omega
   ·exact hl l (by simp [h])
theorem swR_within {p : Prog} {k to n kind : Int} {s : Sn} (h0 : 0 ≤ n) (hk : (k = 2 ∧ to = 5) ∨ (k = 1 ∧ to = 6)) (h : (swR p k to n).2 = true) (hs : s ∈ ordAll (swR p k to n).1 kind) : s ∈ ordAll p kind := by
 obtain ⟨p1, l1, d, l2, p2, h1, h2, h3, _⟩ := swR_split h0 h
 rw [h3] at hs
 rw [h1]
 exact swap_within (Swp.of (by rw [h2]; exact hk)) hs
theorem lawOrderTake_fn (bs ms : List Int) (hb : Code8 bs) : Fp Tryz.prog 13 [codeV bs, codeV ms] (.bool true) := by
 refine Fc.start (S := []) Tryz.func13 Tryz.ntmps13 Tryz.results13 rfl (by decide) rfl (by kernel_rfl) ?_
 by_cases h : (1048576 : Int) < bs.length
 ·simp (disch := omega) only [push_cast, go_sem, zA, simprocAttr, codeV_eq, h]
 by_cases h' : (1048576 : Int) < ms.length
 ·simp (disch := omega) only [push_cast, go_sem, zA, simprocAttr, codeV_eq, h, h']
 simp (disch := omega) only [push_cast, go_sem, zA, simprocAttr, codeV_eq, h, h']
 refine callR.ex (DrawOrderAll_fn bs hb (by omega)) rfl rfl ?_
 rintro r ⟨p, kind, rfl, hp, hl⟩
 have hl' : ∀ l ∈ p, l.length < 2 ^ 40 := fun l h => by have := hl l h; omega
 have hn := fun p k => (show (ordAll p k).length < 2 ^ 40 by have := ord_len p k; omega)
 have h1 := implOrderAll_fn p kind (by omega) hl'
 have h2 := specOrderAll_fn p kind (by omega)
 simp only [ordI_eq] at h1
 have h3 := lpList_fn (ordAll p kind) (ordAll p kind) ord_small ord_small (hn _ _) (hn _ _)
 rw [show decide (ordAll p kind = ordAll p kind) = true by simp] at h3
 have h4 := lpSwap_fn p 2 5 ms.length (by omega) hl (by omega) (by omega)
 obtain ⟨q1, q2⟩ := swR_len (k := 2) (to := 5) (n := ms.length) (by omega) hp hl
 have hw := fun s => swR_within (p := p) (k := 2) (to := 5) (n := ms.length) (kind := kind) (s := s) (by omega) (.inl ⟨rfl, rfl⟩)
 obtain ⟨q, hq⟩ : ∃ q, (swR p 2 5 ms.length).1 = q := ⟨_, rfl⟩
 rw [hq] at h4 q1 q2 hw
 have h5 := implOrderAll_fn q kind (by omega) (fun l h => by have := q2 l h; omega)
 rw [ordI_eq] at h5
 have h6 := lpWithin_fn (ordAll q kind) (ordAll p kind) ord_small ord_small (hn _ _) (hn _ _)
 rw [progV_eq] at h1 h2 h5
 rw [progV_eq, progV_eq] at h4
 cases hok : (swR p 2 5 ms.length).2
 ·rw [hok] at h4
  simp (disch := omega) only [push_cast, go_sem, zA, simprocAttr, progV_eq]
  intro g3
  refine callR.pure h1 rfl rfl ?_
  simp (disch := omega) only [push_cast, go_sem, zA, simprocAttr]
  refine callR.pure h4 rfl rfl ?_
  simp (disch := omega) only [push_cast, go_sem, zA, simprocAttr]
  intro g6
  refine callR.pure h2 rfl rfl ?_
  simp (disch := omega) only [push_cast, go_sem, zA, simprocAttr]
  refine callR.pure h3 rfl rfl ?_
  simp (disch := omega) only [push_cast, go_sem, zA, simprocAttr]
  refine callR.pure h2 rfl rfl ?_
  simp (disch := omega) only [push_cast, go_sem, zA, simprocAttr]
  refine callR.pure h3 rfl rfl ?_
  simp (disch := omega) only [push_cast, go_sem, zA, simprocAttr]
 ·rw [hok] at h4
  rw [show ((ordAll q kind).all fun s => decide (s ∈ ordAll p kind)) = true from List.all_eq_true.2 fun s hs => by simpa using hw s hok hs] at h6
  simp (disch := omega) only [push_cast, go_sem, zA, simprocAttr, progV_eq]
  intro g3
  refine callR.pure h1 rfl rfl ?_
  simp (disch := omega) only [push_cast, go_sem, zA, simprocAttr]
  refine callR.pure h4 rfl rfl ?_
  simp (disch := omega) only [push_cast, go_sem, zA, simprocAttr]
  intro g6
  refine callR.pure h2 rfl rfl ?_
  simp (disch := omega) only [push_cast, go_sem, zA, simprocAttr]
  refine callR.pure h3 rfl rfl ?_
  simp (disch := omega) only [push_cast, go_sem, zA, simprocAttr]
  refine callR.pure h5 rfl rfl ?_
  simp (disch := omega) only [push_cast, go_sem, zA, simprocAttr]
  refine callR.pure h6 rfl rfl ?_
  simp (disch := omega) only [push_cast, go_sem, zA, simprocAttr]
theorem lawOrderGive_fn (bs ms : List Int) (hb : Code8 bs) : Fp Tryz.prog 14 [codeV bs, codeV ms] (.bool true) := by
 refine Fc.start (S := []) Tryz.func14 Tryz.ntmps14 Tryz.results14 rfl (by decide) rfl (by kernel_rfl) ?_
 by_cases h : (1048576 : Int) < bs.length
 ·simp (disch := omega) only [push_cast, go_sem, zA, simprocAttr, codeV_eq, h]
 by_cases h' : (1048576 : Int) < ms.length
 ·simp (disch := omega) only [push_cast, go_sem, zA, simprocAttr, codeV_eq, h, h']
 simp (disch := omega) only [push_cast, go_sem, zA, simprocAttr, codeV_eq, h, h']
 refine callR.ex (DrawOrderAll_fn bs hb (by omega)) rfl rfl ?_
 rintro r ⟨p, kind, rfl, hp, hl⟩
 have hl' : ∀ l ∈ p, l.length < 2 ^ 40 := fun l h => by have := hl l h; omega
 have hn := fun p k => (show (ordAll p k).length < 2 ^ 40 by have := ord_len p k; omega)
 have h1 := implOrderAll_fn p kind (by omega) hl'
 have h2 := specOrderAll_fn p kind (by omega)
 simp only [ordI_eq] at h1
 have h3 := lpList_fn (ordAll p kind) (ordAll p kind) ord_small ord_small (hn _ _) (hn _ _)
 rw [show decide (ordAll p kind = ordAll p kind) = true by simp] at h3
 have h4 := lpSwap_fn p 1 6 ms.length (by omega) hl (by omega) (by omega)
 obtain ⟨q1, q2⟩ := swR_len (k := 1) (to := 6) (n := ms.length) (by omega) hp hl
 have hw := fun s => swR_within (p := p) (k := 1) (to := 6) (n := ms.length) (kind := kind) (s := s) (by omega) (.inr ⟨rfl, rfl⟩)
 obtain ⟨q, hq⟩ : ∃ q, (swR p 1 6 ms.length).1 = q := ⟨_, rfl⟩
 rw [hq] at h4 q1 q2 hw
 have h5 := implOrderAll_fn q kind (by omega) (fun l h => by have := q2 l h; omega)
 rw [ordI_eq] at h5
 have h6 := lpWithin_fn (ordAll q kind) (ordAll p kind) ord_small ord_small (hn _ _) (hn _ _)
 rw [progV_eq] at h1 h2 h5
 rw [progV_eq, progV_eq] at h4
 cases hok : (swR p 1 6 ms.length).2
 ·rw [hok] at h4
  simp (disch := omega) only [push_cast, go_sem, zA, simprocAttr, progV_eq]
  intro g3
  refine callR.pure h1 rfl rfl ?_
  simp (disch := omega) only [push_cast, go_sem, zA, simprocAttr]
  refine callR.pure h4 rfl rfl ?_
  simp (disch := omega) only [push_cast, go_sem, zA, simprocAttr]
  intro g6
  refine callR.pure h2 rfl rfl ?_
  simp (disch := omega) only [push_cast, go_sem, zA, simprocAttr]
  refine callR.pure h3 rfl rfl ?_
  simp (disch := omega) only [push_cast, go_sem, zA, simprocAttr]
  refine callR.pure h2 rfl rfl ?_
  simp (disch := omega) only [push_cast, go_sem, zA, simprocAttr]
  refine callR.pure h3 rfl rfl ?_
  simp (disch := omega) only [push_cast, go_sem, zA, simprocAttr]
 ·rw [hok] at h4
  rw [show ((ordAll q kind).all fun s => decide (s ∈ ordAll p kind)) = true from List.all_eq_true.2 fun s hs => by simpa using hw s hok hs] at h6
  simp (disch := omega) only [push_cast, go_sem, zA, simprocAttr, progV_eq]
  intro g3
  refine callR.pure h1 rfl rfl ?_
  simp (disch := omega) only [push_cast, go_sem, zA, simprocAttr]
  refine callR.pure h4 rfl rfl ?_
  simp (disch := omega) only [push_cast, go_sem, zA, simprocAttr]
  intro g6
  refine callR.pure h2 rfl rfl ?_
  simp (disch := omega) only [push_cast, go_sem, zA, simprocAttr]
  refine callR.pure h3 rfl rfl ?_
  simp (disch := omega) only [push_cast, go_sem, zA, simprocAttr]
  refine callR.pure h5 rfl rfl ?_
  simp (disch := omega) only [push_cast, go_sem, zA, simprocAttr]
  refine callR.pure h6 rfl rfl ?_
  simp (disch := omega) only [push_cast, go_sem, zA, simprocAttr]
end
section
open Go.ChangeShapes Go.WideShapes Go.ChangeAt Go.RowKit
theorem own : ownKnob Tryz.prog.godebug = none := by kernel_rfl
theorem laidOut' : laidOutB Tryz.prog = true := by kernel_rfl
theorem cells8 : Tryz.prog.cellsOf 5 = 1 := by kernel_rfl
theorem code_rp {imm : Nat → Prop} {W : World} {b off len cap : Nat} {zs : List Int} (hlz : len ≤ zs.length) (hl : len ≤ cap) (hi : imm b) (hcell : ∀ i, i < zs.length → W.cell? ⟨b, off + i, none⟩ = some (.int .u8 (zs.getD i 0))) :
  Rp imm W (codeV (zs.take len)) (.slice (some ⟨b, off, none⟩) len cap) := by
 by_cases h0 : len = 0
 ·subst h0; exact .sl0 _ _
 have hc0 := hcell 0 (by omega)
 unfold World.cell? at hc0
 split at hc0
 ·rename_i cur t fr hg
  have hln : (zs.take len).length = len := by rw [List.length_take]; omega
  have e : ((zs.take len).map (V.int .u8)).length = len := by rw [List.length_map]; exact hln
  have get : ∀ (i : Nat) (x : V), ((zs.take len).map (V.int .u8))[i]? = some x → x = .int .u8 (zs.getD i 0) ∧ i < len := by
   intro i x hx
   have hlt : i < len := by have := (List.getElem?_eq_some_iff.1 hx).1; omega
   rw [List.getElem?_map, List.getElem?_take_of_lt hlt] at hx
   obtain ⟨y, hy, rfl⟩ := Option.map_eq_some_iff.1 hx
   exact ⟨by rw [List.getD, hy]; rfl, hlt⟩
  have := Rp.sl (imm := imm) (w := W) ((zs.take len).map (V.int .u8)) b off cap 1 cur t fr (fun i _ => .int .u8 (zs.getD i 0)) hi hg (by omega)
   (fun i x hx => by rw [(get i x hx).1]; rfl)
   (fun i x j c hx hc => by
    obtain ⟨rfl, hlt⟩ := get i x hx
    have hj : j = 0 := by
     cases j with
     | zero => rfl
     | succ j => simp [V.cells] at hc
    subst hj
    have := hcell i (by omega)
    unfold World.cell? at this
    simp only [hg] at this
    simpa using this)
   (fun i x j c hx hc => by
    obtain ⟨rfl, hlt⟩ := get i x hx
    have hj : j = 0 := by
     cases j with
     | zero => rfl
     | succ j => simp [V.cells] at hc
    subst hj
    simp [V.cells] at hc
    subst hc
    exact .int _ _)
  rw [e] at this
  exact this
 ·cases hc0
end
section
open Go.ChangeShapes Go.WideShapes Go.ChangeAt Go.RowKit
theorem laid_tab {H : Type} : (Rows.laid_math_bits_deBruijn64tab : DataW H) = Lib.tabData .u8 (Lib.deBruijn64tab.map fun n : Nat => (n : Int)) := rfl
theorem tabs_of {W : World} {rest : List (String × DataW Unit)} (h : laidMet Tryz.prog (("math/bits.deBruijn64tab", Rows.laid_math_bits_deBruijn64tab) :: rest) W) : ∀ x ∈ globT, Tab x.1 x.2 W := by
 rw [laid_tab] at h
 intro x hx
 simp only [globT, List.mem_cons, List.not_mem_nil, or_false] at hx
 subst hx
 intro j hj
 have hT := Lib.tabIs_of_head (t := 165) (e := 5) (n := 64) (g := (globT.headD (0, [])).1) (by kernel_rfl) (by kernel_rfl) Tryz.underlying165 Tryz.underlying5 cells8 (by kernel_rfl) h
 have := hT.cell (g := (globT.headD (0, [])).1) (by kernel_rfl) j (by rw [List.length_map]; exact hj)
 have e : (Lib.deBruijn64tab.map fun n : Nat => (n : Int)).getD j 0 = ((Lib.deBruijn64tab.getD j 0 : Nat) : Int) := by
  simp only [List.getD, List.getElem?_map]
  cases Lib.deBruijn64tab[j]? <;> rfl
 rw [e] at this
 exact this
theorem glob_of {W : World} {imm : Nat → Prop} (hT : ∀ x ∈ globT, Tab x.1 x.2 W) (hi : ∀ x ∈ globT, imm x.1) : Glob imm W := fun x hx => ⟨hi x hx, hT x hx⟩
theorem glob_lt {W : World} (hT : ∀ x ∈ globT, Tab x.1 x.2 W) : ∀ x ∈ globT, x.1 < W.heap.size := by
 intro x hx
 have h := hT x hx
 simp only [globT, List.mem_cons, List.not_mem_nil, or_false] at hx
 subst hx
 have := h 0 (by decide)
 unfold World.cell? at this
 split at this
 ·rename_i hh; exact (Array.getElem?_eq_some_iff.1 hh).1
 ·cases this
end
section
open Go.ChangeShapes Go.WideShapes Go.ChangeAt Go.RowKit
theorem code_of {H : Type} {enc : TypeId × Value → H} {W : World} {a0 : Option Addr} {len cap : Nat} {d0 : DataW H} {p0 : List MemPlace} (h0 : DataW.Trod enc Tryz.prog W 0 (fun _ => true) true 22 (.slice a0 len cap) d0 p0) :
  ∃ bs : List Int, Code8 bs ∧ ∃ g : Option Nat, (∀ b, g = some b → b < W.heap.size) ∧ ∀ imm : Nat → Prop, (∀ b, g = some b → imm b) → Rp imm W (codeV bs) (.slice a0 len cap) := by
 obtain ⟨fuel, hf⟩ := h0
 rcases open_ints Tryz.underlying22 Tryz.underlying5 cells8 hf with ⟨hcs, hx⟩ | ⟨a, len', cap', zs, hcs, _, hl, hm, hz, hx, hcell, hwz⟩
 ·simp [Value.cells] at hcs
  obtain ⟨rfl, rfl, rfl⟩ := hcs
  exact ⟨[], (fun b hb => by cases hb), none, (fun b hb => by cases hb), (fun imm _ => .sl0 _ _)⟩
 ·simp [Value.cells] at hcs
  obtain ⟨rfl, rfl, rfl⟩ := hcs
  simp only [if_true] at hz
  have hc8 : Code8 (zs.take len) := by
   intro n hn
   have := hwz n (List.mem_of_mem_take hn)
   simp [Lit.wf, IntKind.min, IntKind.max, IntKind.signed, IntKind.bits] at this
   omega
  by_cases hl0 : len = 0
  ·subst hl0
   exact ⟨[], (fun b hb => by cases hb), none, (fun b hb => by cases hb), (fun imm _ => .sl0 _ _)⟩
  ·obtain ⟨b, off, spot⟩ := a
   have hspot : spot = none := by simpa [Addr.add] using World.cell?_spot (hcell 0 (by omega))
   subst hspot
   refine ⟨zs.take len, hc8, some b, fun b' hb => ?_, fun imm hi => code_rp (by omega) hl (hi b rfl) fun i hi => by rw [← add_plain]; exact hcell i hi⟩
   cases hb
   have := hcell 0 (by omega)
   rw [add_plain] at this
   unfold World.cell? at this
   split at this
   ·rename_i hh; exact (Array.getElem?_eq_some_iff.1 hh).1
   ·cases this
theorem law_calls2 {f : FuncId} {W : World} {x y : V} {v u : Value} {imm : Nat → Prop} (h : Fp Tryz.prog f [x, y] (.bool true)) (hG : Glob imm W) (hi : ∀ g, imm g → g < W.heap.size) (hx : Rp imm W x v) (hy : Rp imm W y u) (hk : x.key = none ∧ y.key = none) :
  Calls Tryz.prog f #[v, u] W fun e w' => e = .returned (.bool true) ∧ Below W.heap.size W w' := by
 refine (h.fn imm W #[v, u] hG inv_no hi rfl ?_).mono ?_
 ·intro j c w hj hu
  match j with
  | 0 => simp at hj hu; subst hj; subst hu; exact hx
  | 1 => simp at hj hu; subst hj; subst hu; exact hy
  | j + 2 => simp at hj
 ·rintro e w' ⟨r, r', m, imm', rfl, ⟨rfl, rfl⟩, h3, h4⟩
  rw [h3.bool_inv]
  exact ⟨rfl, h4.os, h4.tape, h4.output, h4.size, fun k hk => (h4.block k hk not_owns_no).1⟩
end
end Go.Proofs.YtfbgabkcjjahiaaGreatDoor
