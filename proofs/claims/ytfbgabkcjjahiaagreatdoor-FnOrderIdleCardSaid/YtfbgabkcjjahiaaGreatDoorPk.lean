/-
 Contracts and plain laws.
-/
import Derived.Test.YtfbgabkcjjahiaaGreatDoorPa
import Derived.Test.YtfbgabkcjjahiaaGreatDoorPb
import Derived.Test.YtfbgabkcjjahiaaGreatDoorPe
import Derived.Test.YtfbgabkcjjahiaaGreatDoorPj
import Derived.Test.YtfbgabkcjjahiaaGreatDoorRows
import Derived.ProofKit
import Derived.OpenShut
import Derived.ChangeSlices
import Derived.JoinedOf
import Derived.JoinedAt
import Derived.Deep.DeepHandedRow
import Derived.Lib.LaidTab
import Derived.Test.YtfbgabkcjjahiaaGreatDoorCards
import Derived.Test.YtfbgabkcjjahiaaGreatDoorTie
set_option linter.unusedSimpArgs false
set_option linter.unusedVariables false
set_option linter.unusedSectionVars false
namespace Go.Proofs.YtfbgabkcjjahiaaGreatDoor
section
open Go.RowKit
end
section
open Go.RowKit
theorem list_eq_drop {α : Type} [BEq α] [LawfulBEq α] {a b : List α} {k : Nat} (hl : a.length = b.length) (h : ∀ (j : Nat) (x y : α), j < k → a[j]? = some x → b[j]? = some y → (x == y) = true) (hk : a.length ≤ k) : a = b := by
 apply List.ext_getElem hl
 intro j h1 h2
 exact beq_iff_eq.1 (h j _ _ (by omega) (List.getElem?_eq_getElem h1) (List.getElem?_eq_getElem h2))
theorem list_ne_at {α : Type} {a b : List α} {k : Nat} {x y : α} (hx : a[k]? = some x) (hy : b[k]? = some y) (h : x ≠ y) : a ≠ b := fun e => by
 rw [e, hy] at hx; cases hx; exact h rfl
theorem lpInts_fn (a b : List Int) (ha : a.length < 2 ^ 40) (hb : b.length < 2 ^ 40) : Fp Tryz.prog 53 [intsV a, intsV b] (.bool (decide (a = b))) := by
  refine Fc.start (S := [8]) Tryz.func53 Tryz.ntmps53 Tryz.results53 rfl (by decide) rfl (by kernel_rfl) ?_
  cases hl : ((a.length : Int) != b.length)
  rotate_left
  · simp (disch := omega) only [push_cast, go_sem, zA, simprocAttr, intsV_eq, hl]
    have : ¬ a = b := fun h => by rw [h] at hl; simp at hl
    simp [this]
  have hl' : a.length = b.length := by have : (a.length : Int) = b.length := by simpa using hl
                                       omega
  simp (disch := omega) only [push_cast, go_sem, zA, simprocAttr, intsV_eq, hl]
  refine Sat.loop (σ := Nat) (fun k => upd (upd (upd noT 0 (.sl (a.map (V.int .i64)))) 1 (.sl (b.map (V.int .i64)))) 5 (.int .i64 k)) (fun _ => noM)
    (fun k => k ≤ a.length ∧ ∀ (j : Nat) (x y : Int), j < k → a[j]? = some x → b[j]? = some y → (x == y) = true) (fun k => a.length - k) 0 (by simp) ?_ ?_
  · (refine zB ?_; repeat (first | exact zC | exact zD | refine zE (by decide) ?_ | refine zF ?_ ?_ | refine zG ?_ ?_)) <;> (try simp (disch := omega) only [push_cast, go_sem, zA, simprocAttr])
  rintro k ⟨hk, hall⟩ J hJ
  refine Sat.of (S := []) (by kernel_rfl) ?_
  rcases Nat.lt_or_ge k a.length with hlt | hge
  · obtain ⟨x, hx⟩ : ∃ x, a[k]? = some x := ⟨_, List.getElem?_eq_getElem hlt⟩
    have hltb : k < b.length := by omega
    obtain ⟨y, hy⟩ : ∃ y, b[k]? = some y := ⟨_, List.getElem?_eq_getElem hltb⟩
    cases hne : (x != y)
    · simp (disch := omega) only [push_cast, go_sem, zA, simprocAttr, hlt]
      refine Sat.drawnE [] [] [3, 7] (fun _ _ _ => none) (by kernel_rfl) (by kernel_rfl) ?_
      simp (disch := omega) only [push_cast, go_sem, zA, simprocAttr, hx, hy, hlt, hltb, hne]
      refine hJ (k + 1) _ _ ⟨by omega, fun j x' y' hj h1 h2 => ?_⟩ (by omega) ?_
      · rcases Nat.lt_or_ge j k with h | h
        · exact hall j x' y' h h1 h2
        · have : j = k := by omega
          subst this; rw [hx] at h1; rw [hy] at h2; cases h1; cases h2
          simpa only [bne, Bool.not_eq_false'] using hne
      · (refine zB ?_; repeat (first | exact zC | exact zD | refine zE (by decide) ?_ | refine zF ?_ ?_ | refine zG ?_ ?_)) <;> (try simp (disch := omega) only [push_cast, go_sem, zA, simprocAttr])
    · simp (disch := omega) only [push_cast, go_sem, zA, simprocAttr, hlt]
      refine Sat.drawnE [] [] [3, 7] (fun _ _ _ => none) (by kernel_rfl) (by kernel_rfl) ?_
      simp (disch := omega) only [push_cast, go_sem, zA, simprocAttr, hx, hy, hlt, hltb, hne]
      have : ¬ a = b := list_ne_at hx hy (by simpa using hne)
      simp [this]
  · have hkl : k = a.length := by omega
    subst hkl
    simp (disch := omega) only [push_cast, go_sem, zA, simprocAttr]
    refine Sat.of (S := []) (by kernel_rfl) ?_
    simp (disch := omega) only [push_cast, go_sem, zA, simprocAttr]
    have : a = b := list_eq_drop hl' hall (Nat.le_refl _)
    simp [this]
instance : DecidableEq Exe := fun x y => decidable_of_iff (x.fr = y.fr ∧ x.od = y.od) (by cases x; cases y; simp)
end
section
open Go.RowKit
end
section
open Go.RowKit
theorem lpSame_fn (s t : Sn) (hs : s.small) (ht : t.small) : Fp Tryz.prog 20 [s.V, t.V] (.bool (decide (s = t))) := by
 have h1 := lpInts_fn s.rd t.rd hs.rd ht.rd
 have h2 := lpInts_fn s.ls t.ls hs.ls ht.ls
 have hst : decide (s = t) = (decide (s.rd = t.rd) && decide (s.ls = t.ls)) := by
  obtain ⟨a, b⟩ := s
  obtain ⟨c, d⟩ := t
  rw [Bool.eq_iff_iff]; simp
 rw [hst]
 rw [intsV_eq, intsV_eq] at h1 h2
 refine Fc.start (S := []) Tryz.func20 Tryz.ntmps20 Tryz.results20 rfl (by decide) rfl (by kernel_rfl) ?_
 simp (disch := omega) only [push_cast, go_sem, zA, simprocAttr, Sn.V_eq]
 intro g2 g3
 refine callR.pure h1 rfl rfl ?_
 cases decide (s.rd = t.rd)
 ·simp (disch := omega) only [push_cast, go_sem, zA, simprocAttr]
 ·simp (disch := omega) only [push_cast, go_sem, zA, simprocAttr]
  refine callR.pure h2 rfl rfl ?_
  simp (disch := omega) only [push_cast, go_sem, zA, simprocAttr]
end
section
open Go.RowKit
theorem pref_all {α : Type} {q : α → Bool} {l : List α} {k : Nat} {x : α} (hx : l[k]? = some x) (h : ∀ y ∈ l.take k, q y = true) (hq : q x = true) : ∀ y ∈ l.take (k + 1), q y = true := fun y hy => by
 rw [take_get hx] at hy
 rcases List.mem_append.1 hy with hy | hy
 ·exact h y hy
 ·simp at hy; rw [hy]; exact hq
theorem lpList_fn (a b : List Sn) (ha : ∀ s ∈ a, s.small) (hb : ∀ s ∈ b, s.small) (hal : a.length < 2 ^ 40) (hbl : b.length < 2 ^ 40) : Fp Tryz.prog 30 [.sl (a.map Sn.V), .sl (b.map Sn.V)] (.bool (decide (a = b))) := by
  refine Fc.start (S := [8]) Tryz.func30 Tryz.ntmps30 Tryz.results30 rfl (by decide) rfl (by kernel_rfl) ?_
  cases hl : ((a.length : Int) != b.length)
  rotate_left
  · simp (disch := omega) only [push_cast, go_sem, zA, simprocAttr, hl]
    have : ¬ a = b := fun h => by rw [h] at hl; simp at hl
    simp [this]
  have hl' : a.length = b.length := by have : (a.length : Int) = b.length := by simpa using hl
                                       omega
  simp (disch := omega) only [push_cast, go_sem, zA, simprocAttr, hl]
  refine Sat.loop (σ := Nat) (fun k => upd (upd (upd noT 0 (.sl (a.map Sn.V))) 1 (.sl (b.map Sn.V))) 5 (.int .i64 k)) (fun _ => noM)
    (fun k => k ≤ a.length ∧ ∀ (j : Nat) (x y : Sn), j < k → a[j]? = some x → b[j]? = some y → (x == y) = true) (fun k => a.length - k) 0 (by simp) ?_ ?_
  · (refine zB ?_; repeat (first | exact zC | exact zD | refine zE (by decide) ?_ | refine zF ?_ ?_ | refine zG ?_ ?_)) <;> (try simp (disch := omega) only [push_cast, go_sem, zA, simprocAttr])
  rintro k ⟨hk, hall⟩ J hJ
  refine Sat.of (S := []) (by kernel_rfl) ?_
  rcases Nat.lt_or_ge k a.length with hlt | hge
  · obtain ⟨x, hx⟩ : ∃ x, a[k]? = some x := ⟨_, List.getElem?_eq_getElem hlt⟩
    have hltb : k < b.length := by omega
    obtain ⟨y, hy⟩ : ∃ y, b[k]? = some y := ⟨_, List.getElem?_eq_getElem hltb⟩
    have hs := lpSame_fn x y (ha x (List.mem_of_getElem? hx)) (hb y (List.mem_of_getElem? hy))
    rw [Sn.V_eq, Sn.V_eq] at hs
    cases he : decide (x = y)
    · rw [he] at hs
      simp (disch := omega) only [push_cast, go_sem, zA, simprocAttr, hlt]
      refine Sat.drawnE [] [] (List.range 10) (pureT [(20, .bool false)]) (by kernel_rfl) (by kernel_rfl) ?_
      simp (disch := omega) only [push_cast, go_sem, zA, simprocAttr, hx, hy, hlt, hltb, Sn.V_eq]
      refine runD_pure rfl hs rfl rfl ?_ ?_
      · rfl
      simp (disch := omega) only [push_cast, go_sem, zA, simprocAttr]
      have : ¬ a = b := list_ne_at hx hy (of_decide_eq_false he)
      simp [this]
    · rw [he] at hs
      simp (disch := omega) only [push_cast, go_sem, zA, simprocAttr, hlt]
      refine Sat.drawnE [] [] (List.range 10) (pureT [(20, .bool true)]) (by kernel_rfl) (by kernel_rfl) ?_
      simp (disch := omega) only [push_cast, go_sem, zA, simprocAttr, hx, hy, hlt, hltb, Sn.V_eq]
      refine runD_pure rfl hs rfl rfl ?_ ?_
      · rfl
      simp (disch := omega) only [push_cast, go_sem, zA, simprocAttr]
      refine hJ (k + 1) _ _ ⟨by omega, fun j x' y' hj h1 h2 => ?_⟩ (by omega) ?_
      · rcases Nat.lt_or_ge j k with h | h
        · exact hall j x' y' h h1 h2
        · have : j = k := by omega
          subst this; rw [hx] at h1; rw [hy] at h2; cases h1; cases h2
          exact beq_iff_eq.2 (of_decide_eq_true he)
      · (refine zB ?_; repeat (first | exact zC | exact zD | refine zE (by decide) ?_ | refine zF ?_ ?_ | refine zG ?_ ?_)) <;> (try simp (disch := omega) only [push_cast, go_sem, zA, simprocAttr])
  · have hkl : k = a.length := by omega
    subst hkl
    simp (disch := omega) only [push_cast, go_sem, zA, simprocAttr]
    refine Sat.of (S := []) (by kernel_rfl) ?_
    simp (disch := omega) only [push_cast, go_sem, zA, simprocAttr]
    have : a = b := list_eq_drop hl' hall (Nat.le_refl _)
    simp [this]
theorem specSeenIn_fn (l : List Sn) (s : Sn) (hls : ∀ t ∈ l, t.small) (hs : s.small) (hl : l.length < 2 ^ 40) : Fp Tryz.prog 69 [.sl (l.map Sn.V), s.V] (.bool (decide (s ∈ l))) := by
 refine Fc.start (S := [6]) Tryz.func69 Tryz.ntmps69 Tryz.results69 rfl (by decide) rfl (by kernel_rfl) ?_
 simp (disch := omega) only [push_cast, go_sem, zA, simprocAttr, Sn.V_eq]
 intro g3
 refine Sat.loop (σ := Nat) (fun k => upd (upd (upd noT 0 (.sl (l.map Sn.V))) 3 (.ptr 3 [] 0 0 g3 2)) 5 (.int .i64 k)) (fun _ => noM.set 3 (.own 28 (some g3) 1 [.agg [.sl (s.rd.map (V.int .i64)), .sl (s.ls.map (V.int .i64))]]))
  (fun k => k ≤ l.length ∧ ∀ y ∈ l.take k, decide (y ≠ s) = true) (fun k => l.length - k) 0 (by simp) ?_ ?_
 ·(refine zB ?_; repeat (first | exact zC | exact zD | refine zE (by decide) ?_ | refine zF ?_ ?_ | refine zG ?_ ?_)) <;> (try simp (disch := omega) only [push_cast, go_sem, zA, simprocAttr])
 rintro k ⟨hk, hall⟩ J hJ
 refine Sat.of (S := [6]) (by kernel_rfl) ?_
 rcases Nat.lt_or_ge k l.length with hlt | hge
 ·obtain ⟨x, hx⟩ : ∃ x, l[k]? = some x := ⟨_, List.getElem?_eq_getElem hlt⟩
  have hcm := l2Seen_fn x s (hls x (List.mem_of_getElem? hx)) hs
  have hz : (cmpS x s == 0) = decide (x = s) := by rw [Bool.eq_iff_iff, beq_iff_eq, decide_eq_true_eq]; exact cmpS_zero
  rw [Sn.V_eq, Sn.V_eq] at hcm
  simp (disch := omega) only [push_cast, go_sem, zA, simprocAttr, hlt]
  refine Sat.drawnE [] [] (List.range 7) (pureT [(45, .int .i64 (cmpS x s))]) (by kernel_rfl) (by kernel_rfl) ?_
  simp (disch := omega) only [push_cast, go_sem, zA, simprocAttr, hx, hlt, Sn.V_eq]
  refine runD_pure rfl hcm rfl rfl ?_ ?_
  ·rfl
  cases he : decide (x = s)
  ·rw [he] at hz
   simp (disch := omega) only [push_cast, go_sem, zA, simprocAttr, hz]
   refine hJ (k + 1) _ _ ⟨by omega, pref_all hx hall (by simpa using he)⟩ (by omega) ?_
   (refine zB ?_; repeat (first | exact zC | exact zD | refine zE (by decide) ?_ | refine zF ?_ ?_ | refine zG ?_ ?_)) <;> (try simp (disch := omega) only [push_cast, go_sem, zA, simprocAttr])
  ·rw [he] at hz
   simp (disch := omega) only [push_cast, go_sem, zA, simprocAttr, hz]
   have : s ∈ l := by rw [← of_decide_eq_true he]; exact List.mem_of_getElem? hx
   simp [this]
 ·have hkl : k = l.length := by omega
  subst hkl
  rw [List.take_length] at hall
  simp (disch := omega) only [push_cast, go_sem, zA, simprocAttr]
  have : s ∉ l := fun h => by simpa using hall s h
  refine Sat.of (S := []) (by kernel_rfl) ?_
  simp (disch := omega) only [push_cast, go_sem, zA, simprocAttr]
  simp [this]
theorem lpWithin_fn (a b : List Sn) (ha : ∀ s ∈ a, s.small) (hb : ∀ s ∈ b, s.small) (hal : a.length < 2 ^ 40) (hbl : b.length < 2 ^ 40) : Fp Tryz.prog 32 [.sl (a.map Sn.V), .sl (b.map Sn.V)] (.bool (a.all fun s => decide (s ∈ b))) := by
 refine Fc.start (S := [6]) Tryz.func32 Tryz.ntmps32 Tryz.results32 rfl (by decide) rfl (by kernel_rfl) ?_
 simp (disch := omega) only [push_cast, go_sem, zA, simprocAttr]
 refine Sat.loop (σ := Nat) (fun k => upd (upd (upd noT 0 (.sl (a.map Sn.V))) 1 (.sl (b.map Sn.V))) 5 (.int .i64 k)) (fun _ => noM)
  (fun k => k ≤ a.length ∧ ∀ y ∈ a.take k, decide (y ∈ b) = true) (fun k => a.length - k) 0 (by simp) ?_ ?_
 ·(refine zB ?_; repeat (first | exact zC | exact zD | refine zE (by decide) ?_ | refine zF ?_ ?_ | refine zG ?_ ?_)) <;> (try simp (disch := omega) only [push_cast, go_sem, zA, simprocAttr])
 rintro k ⟨hk, hall⟩ J hJ
 refine Sat.of (S := [6]) (by kernel_rfl) ?_
 rcases Nat.lt_or_ge k a.length with hlt | hge
 ·obtain ⟨x, hx⟩ : ∃ x, a[k]? = some x := ⟨_, List.getElem?_eq_getElem hlt⟩
  have hs := specSeenIn_fn b x hb (ha x (List.mem_of_getElem? hx)) hbl
  rw [Sn.V_eq] at hs
  simp (disch := omega) only [push_cast, go_sem, zA, simprocAttr, hx, hlt, Sn.V_eq]
  refine callR.pure hs rfl rfl ?_
  cases he : decide (x ∈ b)
  ·simp (disch := omega) only [push_cast, go_sem, zA, simprocAttr]
   have : (a.all fun s => decide (s ∈ b)) = false := by
    rw [List.all_eq_false]; exact ⟨x, List.mem_of_getElem? hx, by rw [he]; simp⟩
   rw [this]
  ·simp (disch := omega) only [push_cast, go_sem, zA, simprocAttr]
   refine hJ (k + 1) _ _ ⟨by omega, pref_all hx hall he⟩ (by omega) ?_
   (refine zB ?_; repeat (first | exact zC | exact zD | refine zE (by decide) ?_ | refine zF ?_ ?_ | refine zG ?_ ?_)) <;> (try simp (disch := omega) only [push_cast, go_sem, zA, simprocAttr])
 ·have hkl : k = a.length := by omega
  subst hkl
  rw [List.take_length] at hall
  simp (disch := omega) only [push_cast, go_sem, zA, simprocAttr]
  refine Sat.of (S := []) (by kernel_rfl) ?_
  simp (disch := omega) only [push_cast, go_sem, zA, simprocAttr]
  rw [List.all_eq_true.2 hall]
end
section
open Go.RowKit
end
section
open Go.RowKit
def DrawnA (r : V) : Prop := ∃ (p : Prog) (kind : Int), r = .tuple [progV p, .int .i64 kind] ∧ p.length ≤ 3 ∧ (∀ l ∈ p, l.length < 2 ^ 11)
theorem DrawOrderAll_fn (bs : List Int) (hb : Code8 bs) (hl : bs.length < 2 ^ 40) : Fc Tryz.prog 29 [codeV bs] noM (fun r m => DrawnA r ∧ m = noM) := by
 refine Fc.start (S := []) Tryz.func29 Tryz.ntmps29 Tryz.results29 rfl (by decide) rfl (by kernel_rfl) ?_
 simp (disch := omega) only [push_cast, go_sem, zA, simprocAttr, codeV_eq]
 intro g2
 refine callR.new (l6Open_fn bs hl) rfl rfl ?_
 rintro r ob ⟨g, rfl, rfl⟩
 simp (disch := omega) only [push_cast, go_sem, zA, simprocAttr]
 refine callR.rd (l71Any_rd (bs.take 2000) hb.take g 0 (by omega)) rfl rfl rfl ?_
 rintro r o' ⟨x, rfl, hx1, hx2, q, hq1, hq2, rfl⟩
 simp (disch := omega) only [push_cast, go_sem, zA, simprocAttr, progV_eq]
 refine callR.rd (l71Kind_pl (bs.take 2000) hb.take g q (by omega)) rfl rfl rfl ?_
 rintro r o' ⟨⟨kind, rfl⟩, q1, hq3, hq4, rfl⟩
 simp (disch := omega) only [push_cast, go_sem, zA, simprocAttr]
 exact ⟨x, kind, rfl, hx1, hx2⟩
theorem ord_late {p : Prog} {s : Sn} (h : s ∈ ordAll p 1) : s ∈ ordAll p 2 := by
 obtain ⟨h1, _, x, hx, hh, he⟩ := mem_ord.1 h
 exact mem_ord.2 ⟨h1, rfl, x, hx, holdsS_late hh, he⟩
theorem ord_loose {p : Prog} {s : Sn} (h : s ∈ ordAll p 2) : s ∈ ordAll p 3 := by
 obtain ⟨h1, _, x, hx, hh, he⟩ := mem_ord.1 h
 exact mem_ord.2 ⟨h1, rfl, x, hx, holdsS_loose hh, he⟩
theorem lawOrderMore_fn (bs : List Int) (hb : Code8 bs) : Fp Tryz.prog 7 [codeV bs] (.bool true) := by
 refine Fc.start (S := []) Tryz.func7 Tryz.ntmps7 Tryz.results7 rfl (by decide) rfl (by kernel_rfl) ?_
 by_cases h : (1048576 : Int) < bs.length
 ·simp (disch := omega) only [push_cast, go_sem, zA, simprocAttr, codeV_eq, h]
 simp (disch := omega) only [push_cast, go_sem, zA, simprocAttr, codeV_eq, h]
 refine callR.ex (DrawOrderAll_fn bs hb (by omega)) rfl rfl ?_
 rintro r ⟨p, kind, rfl, hp, hl⟩
 have hl' : ∀ l ∈ p, l.length < 2 ^ 40 := fun l h => by have := hl l h; omega
 have hn := fun k => (show (ordAll p k).length < 2 ^ 40 by have := ord_len p k; omega)
 have h1 := fun k => implOrderAll_fn p k (by omega) hl'
 have h2 := specOrderAll_fn p kind (by omega)
 simp only [ordI_eq] at h1
 have h3 := lpList_fn (ordAll p kind) (ordAll p kind) ord_small ord_small (hn _) (hn _)
 have h4 := lpWithin_fn (ordAll p 1) (ordAll p 2) ord_small ord_small (hn _) (hn _)
 have h5 := lpWithin_fn (ordAll p 2) (ordAll p 3) ord_small ord_small (hn _) (hn _)
 rw [show decide (ordAll p kind = ordAll p kind) = true by simp] at h3
 rw [show ((ordAll p 1).all fun s => decide (s ∈ ordAll p 2)) = true from List.all_eq_true.2 fun s hs => by simpa using ord_late hs] at h4
 rw [show ((ordAll p 2).all fun s => decide (s ∈ ordAll p 3)) = true from List.all_eq_true.2 fun s hs => by simpa using ord_loose hs] at h5
 rw [progV_eq] at h1 h2
 simp (disch := omega) only [push_cast, go_sem, zA, simprocAttr, progV_eq]
 intro g3
 refine callR.pure (h1 kind) rfl rfl ?_
 simp (disch := omega) only [push_cast, go_sem, zA, simprocAttr]
 refine callR.pure h2 rfl rfl ?_
 simp (disch := omega) only [push_cast, go_sem, zA, simprocAttr]
 refine callR.pure h3 rfl rfl ?_
 simp (disch := omega) only [push_cast, go_sem, zA, simprocAttr]
 refine callR.pure (h1 1) rfl rfl ?_
 simp (disch := omega) only [push_cast, go_sem, zA, simprocAttr]
 refine callR.pure (h1 2) rfl rfl ?_
 simp (disch := omega) only [push_cast, go_sem, zA, simprocAttr]
 refine callR.pure h4 rfl rfl ?_
 simp (disch := omega) only [push_cast, go_sem, zA, simprocAttr]
 refine callR.pure (h1 3) rfl rfl ?_
 simp (disch := omega) only [push_cast, go_sem, zA, simprocAttr]
 refine callR.pure h5 rfl rfl ?_
 simp (disch := omega) only [push_cast, go_sem, zA, simprocAttr]
end
section
open Go.ChangeShapes Go.WideShapes Go.ChangeAt Go.RowKit
theorem own : ownKnob Tryz.prog.godebug = none := by kernel_rfl
theorem laidOut' : laidOutB Tryz.prog = true := by kernel_rfl
theorem cells8 : Tryz.prog.cellsOf 5 = 1 := by kernel_rfl
theorem code_rp {imm : Nat → Prop} {W : World} {b off len cap : Nat} {zs : List Int} (hlz : len ≤ zs.length) (hl : len ≤ cap) (hi : imm b) (hcell : ∀ i, i < zs.length → W.cell? ⟨b, off + i, none⟩ = some (.int .u8 (zs.getD i 0))) :
  Rp imm W (codeV (zs.take len)) (.slice (some ⟨b, off, none⟩) len cap) := by
 by_cases h0 : len = 0
 ·subst h0; exact .sl0 _ _
 have hc0 := hcell 0 (by omega)
 unfold World.cell? at hc0
 split at hc0
 ·rename_i cur t fr hg
  have hln : (zs.take len).length = len := by rw [List.length_take]; omega
  have e : ((zs.take len).map (V.int .u8)).length = len := by rw [List.length_map]; exact hln
  have get : ∀ (i : Nat) (x : V), ((zs.take len).map (V.int .u8))[i]? = some x → x = .int .u8 (zs.getD i 0) ∧ i < len := by
   intro i x hx
   have hlt : i < len := by have := (List.getElem?_eq_some_iff.1 hx).1; omega
   rw [List.getElem?_map, List.getElem?_take_of_lt hlt] at hx
   obtain ⟨y, hy, rfl⟩ := Option.map_eq_some_iff.1 hx
   exact ⟨by rw [List.getD, hy]; rfl, hlt⟩
  have := Rp.sl (imm := imm) (w := W) ((zs.take len).map (V.int .u8)) b off cap 1 cur t fr (fun i _ => .int .u8 (zs.getD i 0)) hi hg (by omega)
   (fun i x hx => by rw [(get i x hx).1]; rfl)
   (fun i x j c hx hc => by
    obtain ⟨rfl, hlt⟩ := get i x hx
    have hj : j = 0 := by
     cases j with
     | zero => rfl
     | succ j => simp [V.cells] at hc
    subst hj
    have := hcell i (by omega)
    unfold World.cell? at this
    simp only [hg] at this
    simpa using this)
   (fun i x j c hx hc => by
    obtain ⟨rfl, hlt⟩ := get i x hx
    have hj : j = 0 := by
     cases j with
     | zero => rfl
     | succ j => simp [V.cells] at hc
    subst hj
    simp [V.cells] at hc
    subst hc
    exact .int _ _)
  rw [e] at this
  exact this
 ·cases hc0
theorem law_calls {f : FuncId} {W : World} {x : V} {v : Value} {imm : Nat → Prop} (h : Fp Tryz.prog f [x] (.bool true)) (hG : Glob imm W) (hi : ∀ g, imm g → g < W.heap.size) (hx : Rp imm W x v) :
  Calls Tryz.prog f #[v] W fun e w' => e = .returned (.bool true) ∧ Below W.heap.size W w' := by
 refine (h.fn imm W #[v] hG inv_no hi rfl ?_).mono ?_
 ·intro j c u hj hu
  cases j with
  | zero => simp at hj hu; subst hj; subst hu; exact hx
  | succ j => simp at hj
 ·rintro e w' ⟨r, r', m, imm', rfl, ⟨rfl, rfl⟩, h3, h4⟩
  rw [h3.bool_inv]
  exact ⟨rfl, h4.os, h4.tape, h4.output, h4.size, fun k hk => (h4.block k hk not_owns_no).1⟩
end
section
open Go.ChangeShapes Go.WideShapes Go.ChangeAt Go.RowKit
theorem laid_tab {H : Type} : (Rows.laid_math_bits_deBruijn64tab : DataW H) = Lib.tabData .u8 (Lib.deBruijn64tab.map fun n : Nat => (n : Int)) := rfl
theorem tabs_of {W : World} {rest : List (String × DataW Unit)} (h : laidMet Tryz.prog (("math/bits.deBruijn64tab", Rows.laid_math_bits_deBruijn64tab) :: rest) W) : ∀ x ∈ globT, Tab x.1 x.2 W := by
 rw [laid_tab] at h
 intro x hx
 simp only [globT, List.mem_cons, List.not_mem_nil, or_false] at hx
 subst hx
 intro j hj
 have hT := Lib.tabIs_of_head (t := 165) (e := 5) (n := 64) (g := (globT.headD (0, [])).1) (by kernel_rfl) (by kernel_rfl) Tryz.underlying165 Tryz.underlying5 cells8 (by kernel_rfl) h
 have := hT.cell (g := (globT.headD (0, [])).1) (by kernel_rfl) j (by rw [List.length_map]; exact hj)
 have e : (Lib.deBruijn64tab.map fun n : Nat => (n : Int)).getD j 0 = ((Lib.deBruijn64tab.getD j 0 : Nat) : Int) := by
  simp only [List.getD, List.getElem?_map]
  cases Lib.deBruijn64tab[j]? <;> rfl
 rw [e] at this
 exact this
theorem glob_of {W : World} {imm : Nat → Prop} (hT : ∀ x ∈ globT, Tab x.1 x.2 W) (hi : ∀ x ∈ globT, imm x.1) : Glob imm W := fun x hx => ⟨hi x hx, hT x hx⟩
theorem glob_lt {W : World} (hT : ∀ x ∈ globT, Tab x.1 x.2 W) : ∀ x ∈ globT, x.1 < W.heap.size := by
 intro x hx
 have h := hT x hx
 simp only [globT, List.mem_cons, List.not_mem_nil, or_false] at hx
 subst hx
 have := h 0 (by decide)
 unfold World.cell? at this
 split at this
 ·rename_i hh; exact (Array.getElem?_eq_some_iff.1 hh).1
 ·cases this
end
section
open Go.RowKit
def Rkd (n : Nat) (R : Nat → Nat → Prop) : Prop := ∃ r : Nat → Nat, ∀ a b, a < n → b < n → R a b → r a < r b
theorem least_of {S : Nat → Prop} (r : Nat → Nat) (h : ∃ b, S b) : ∃ b, S b ∧ ∀ a, S a → r b ≤ r a := by
 obtain ⟨b0, h0⟩ := h
 have key : ∀ m b, r b = m → S b → ∃ b, S b ∧ ∀ a, S a → r b ≤ r a := by
  intro m
  induction m using Nat.strongRecOn with
  | ind m ih =>
   intro b hb hS
   by_cases hx : ∃ a, S a ∧ r a < r b
   ·obtain ⟨a, h1, h2⟩ := hx
    exact ih (r a) (by omega) a rfl h1
   ·exact ⟨b, hS, fun a ha => by
     rcases Nat.lt_or_ge (r a) (r b) with h | h
     ·exact absurd ⟨a, ha, h⟩ hx
     ·exact h⟩
 exact key _ b0 rfl h0
theorem Rkd.min {n : Nat} {R : Nat → Nat → Prop} (h : Rkd n R) (S : Nat → Prop) (hS : ∃ b, b < n ∧ S b) : ∃ b, b < n ∧ S b ∧ ∀ a, a < n → S a → ¬ R a b := by
 obtain ⟨r, hr⟩ := h
 obtain ⟨b, ⟨h1, h2⟩, h3⟩ := least_of (S := fun b => b < n ∧ S b) r hS
 refine ⟨b, h1, h2, fun a ha hSa hR => ?_⟩
 have := hr a b ha h1 hR
 have := h3 a ⟨ha, hSa⟩
 omega
theorem Rkd.of_min {n : Nat} {R : Nat → Nat → Prop} (h : ∀ S : Nat → Prop, (∃ b, b < n ∧ S b) → ∃ b, b < n ∧ S b ∧ ∀ a, a < n → S a → ¬ R a b) : Rkd n R := by
 have key : ∀ m (S : Nat → Bool), cntE n S = m → ∃ r : Nat → Nat, ∀ a b, a < n → b < n → S a = true → S b = true → R a b → r a < r b := by
  intro m
  induction m with
  | zero =>
   intro S hc
   refine ⟨fun _ => 0, fun a b ha hb hSa => ?_⟩
   have := cnt_pos ha hSa
   omega
  | succ m ih =>
   intro S hc
   by_cases hne : ∃ b, b < n ∧ S b = true
   ·obtain ⟨b, h1, h2, h3⟩ := h (fun b => S b = true) hne
    have := cnt_rem h2 h1
    obtain ⟨r, hr⟩ := ih (fun x => S x && !(x == b)) (by omega)
    refine ⟨fun x => if x = b then 0 else r x + 1, fun x y hx hy hSx hSy hR => ?_⟩
    have hyb : y ≠ b := fun e => h3 x hx hSx (e ▸ hR)
    simp only [if_neg hyb]
    by_cases hxb : x = b
    ·simp only [if_pos hxb]; omega
    ·simp only [if_neg hxb]
     have := hr x y hx hy (by simp [hSx, hxb]) (by simp [hSy, hyb]) hR
     omega
   ·exact ⟨fun _ => 0, fun a b ha hb hSa => absurd ⟨a, ha, hSa⟩ hne⟩
 obtain ⟨r, hr⟩ := key _ (fun _ => true) rfl
 exact ⟨r, fun a b ha hb => hr a b ha hb rfl rfl⟩
theorem acy_rkd {n : Nat} {R : Nat → Nat → Bool} : Acy R n ↔ Rkd n (fun a b => R a b = true) := by
 constructor
 ·intro h
  refine Rkd.of_min fun S hS => ?_
  obtain ⟨b, hb, hSb⟩ := hS
  obtain ⟨b, h1, h2, h3⟩ := h (fun x => @decide (S x) (Classical.propDecidable _)) ⟨b, hb, by simpa using hSb⟩
  exact ⟨b, h1, by simpa using h2, fun a ha hSa => by rw [h3 a ha (by simpa using hSa)]; simp⟩
 ·intro h S hS
  obtain ⟨b, h1, h2, h3⟩ := h.min (fun x => S x = true) hS
  exact ⟨b, h1, h2, fun a ha hSa => by simpa using h3 a ha hSa⟩
theorem Rkd.less {n : Nat} {R R' : Nat → Nat → Prop} (h : Rkd n R) (hs : ∀ a b, a < n → b < n → R' a b → R a b) : Rkd n R' := by
 obtain ⟨r, hr⟩ := h
 exact ⟨r, fun a b ha hb hR => hr a b ha hb (hs a b ha hb hR)⟩
theorem Rkd.pull {n m : Nat} {R R' : Nat → Nat → Prop} {f : Nat → Nat} (h : Rkd m R) (hf : ∀ a, a < n → f a < m) (hs : ∀ a b, a < n → b < n → R' a b → R (f a) (f b) ∨ ∃ v, v < m ∧ R (f a) v ∧ R v (f b)) : Rkd n R' := by
 obtain ⟨r, hr⟩ := h
 refine ⟨fun a => r (f a), fun a b ha hb hR => ?_⟩
 rcases hs a b ha hb hR with h1 | ⟨v, hv, h1, h2⟩
 ·exact hr _ _ (hf a ha) (hf b hb) h1
 ·have := hr _ _ (hf a ha) hv h1
  have := hr _ _ hv (hf b hb) h2
  dsimp only
  omega
theorem rkd_ends {n : Nat} {R : Nat → Nat → Prop} {src snk : Nat → Prop} {r : Nat → Nat}
  (h : ∀ a b, a < n → b < n → ¬ src a → ¬ snk a → ¬ src b → ¬ snk b → R a b → r a < r b)
  (h1 : ∀ a b, a < n → b < n → src b → ¬ R a b) (h2 : ∀ a b, a < n → b < n → snk a → ¬ R a b) : Rkd n R := by
 refine Rkd.of_min fun S hS => ?_
 by_cases hs : ∃ b, b < n ∧ S b ∧ src b
 ·obtain ⟨b, hb, hSb, hsb⟩ := hs
  exact ⟨b, hb, hSb, fun a ha _ => h1 a b ha hb hsb⟩
 ·by_cases hr : ∃ b, (b < n ∧ S b) ∧ ¬ snk b
  ·obtain ⟨b, ⟨⟨hb, hSb⟩, hnb⟩, hm⟩ := least_of (S := fun b => (b < n ∧ S b) ∧ ¬ snk b) r hr
   refine ⟨b, hb, hSb, fun a ha hSa hR => ?_⟩
   by_cases hka : snk a
   ·exact h2 a b ha hb hka hR
   ·have := h a b ha hb (fun e => hs ⟨a, ha, hSa, e⟩) hka (fun e => hs ⟨b, hb, hSb, e⟩) hnb hR
    have := hm a ⟨⟨ha, hSa⟩, hka⟩
    omega
  ·obtain ⟨b, hb, hSb⟩ := hS
   refine ⟨b, hb, hSb, fun a ha hSa hR => ?_⟩
   exact h2 a b ha hb (Classical.byContradiction fun e => hr ⟨a, ⟨ha, hSa⟩, e⟩) hR
def AddL (out : Nat → Nat) (l : List (Nat × Nat)) (σ : Nat → Nat → Bool) (a b : Nat) : Prop :=
 ∃ e i, (e, i) ∈ l ∧ ((σ e i = true ∧ a = out i ∧ b = e) ∨ (σ e i = false ∧ a = e - 1 ∧ b = i))
theorem settle_iff {n : Nat} {out : Nat → Nat} : ∀ {l : List (Nat × Nat)} {R : Nat → Nat → Bool}, (settleR n out l R).isSome = true ↔ ∃ σ, Rkd n fun a b => R a b = true ∨ AddL out l σ a b
 | [], R => by
  have e : (settleR n out [] R).isSome = (lineE R n).isSome := by
   rw [settleR]; cases (lineE R n).isSome <;> rfl
  rw [e, line_acy, acy_rkd]
  constructor
  ·intro h
   exact ⟨fun _ _ => true, h.less fun a b _ _ hh => hh.resolve_right (by rintro ⟨e, i, h, _⟩; cases h)⟩
  ·rintro ⟨σ, h⟩
   exact h.less fun a b _ _ hh => .inl hh
 | (e, i) :: l, R => by
  have hs : (settleR n out ((e, i) :: l) R).isSome = true ↔ (lineE R n).isSome = true ∧ ((settleR n out l (wiR R (out i) e)).isSome = true ∨ (settleR n out l (wiR R (e - 1) i)).isSome = true) := by
   rw [settleR]
   cases (lineE R n).isSome
   ·simp
   ·simp [Option.isSome_or]
  rw [hs, settle_iff, settle_iff, line_acy, acy_rkd]
  have wi : ∀ {x y a b : Nat}, wiR R x y a b = true ↔ R a b = true ∨ (a = x ∧ b = y) := by
   intro x y a b
   simp [wiR]
  constructor
  ·rintro ⟨_, ⟨σ, h⟩ | ⟨σ, h⟩⟩
   ·by_cases hm : (e, i) ∈ l
    ·refine ⟨σ, h.less fun a b _ _ hh => ?_⟩
     rcases hh with hh | ⟨e', i', h1, h2⟩
     ·exact .inl (wi.2 (.inl hh))
     ·rcases List.mem_cons.1 h1 with h1 | h1
      ·cases h1; exact .inr ⟨e, i, hm, h2⟩
      ·exact .inr ⟨e', i', h1, h2⟩
    ·refine ⟨fun x y => if x = e ∧ y = i then true else σ x y, h.less fun a b _ _ hh => ?_⟩
     rcases hh with hh | ⟨e', i', h1, h2⟩
     ·exact .inl (wi.2 (.inl hh))
     ·by_cases hq : e' = e ∧ i' = i
      ·obtain ⟨rfl, rfl⟩ := hq
       simp at h2
       exact .inl (wi.2 (.inr h2))
      ·simp only [hq, if_false] at h2
       rcases List.mem_cons.1 h1 with h1 | h1
       ·cases h1; exact absurd ⟨rfl, rfl⟩ hq
       ·exact .inr ⟨e', i', h1, h2⟩
   ·by_cases hm : (e, i) ∈ l
    ·refine ⟨σ, h.less fun a b _ _ hh => ?_⟩
     rcases hh with hh | ⟨e', i', h1, h2⟩
     ·exact .inl (wi.2 (.inl hh))
     ·rcases List.mem_cons.1 h1 with h1 | h1
      ·cases h1; exact .inr ⟨e, i, hm, h2⟩
      ·exact .inr ⟨e', i', h1, h2⟩
    ·refine ⟨fun x y => if x = e ∧ y = i then false else σ x y, h.less fun a b _ _ hh => ?_⟩
     rcases hh with hh | ⟨e', i', h1, h2⟩
     ·exact .inl (wi.2 (.inl hh))
     ·by_cases hq : e' = e ∧ i' = i
      ·obtain ⟨rfl, rfl⟩ := hq
       simp at h2
       exact .inl (wi.2 (.inr h2))
      ·simp only [hq, if_false] at h2
       rcases List.mem_cons.1 h1 with h1 | h1
       ·cases h1; exact absurd ⟨rfl, rfl⟩ hq
       ·exact .inr ⟨e', i', h1, h2⟩
  ·rintro ⟨σ, h⟩
   refine ⟨h.less fun a b _ _ hh => .inl hh, ?_⟩
   cases hσ : σ e i
   ·right
    refine ⟨σ, h.less fun a b _ _ hh => ?_⟩
    rcases hh with hh | ⟨e', i', h1, h2⟩
    ·rcases wi.1 hh with hh | hq
     ·exact .inl hh
     ·exact .inr ⟨e, i, by simp, .inr ⟨hσ, hq⟩⟩
    ·exact .inr ⟨e', i', by simp [h1], h2⟩
   ·left
    refine ⟨σ, h.less fun a b _ _ hh => ?_⟩
    rcases hh with hh | ⟨e', i', h1, h2⟩
    ·rcases wi.1 hh with hh | hq
     ·exact .inl hh
     ·exact .inr ⟨e, i, by simp, .inl ⟨hσ, hq⟩⟩
    ·exact .inr ⟨e', i', by simp [h1], h2⟩
theorem mem_chIn {ds : List Do} {e : Nat} {q : Nat × Nat} : ∀ {j : Nat}, q ∈ chIn ds e j ↔ q.1 = e ∧ q.2 < j ∧ kd ds q.2 = 7
 | 0 => by simp [chIn]
 | j + 1 => by
  constructor
  ·exact chIn_mem
  ·rintro ⟨h1, h2, h3⟩
   rw [chIn, List.mem_append]
   rcases Nat.lt_or_ge q.2 j with h | h
   ·exact .inl (mem_chIn.2 ⟨h1, h, h3⟩)
   ·have : q.2 = j := by omega
    right
    rw [← this, h3]
    simp [← h1]
structure WtIn (p : Prog) (e i : Nat) : Prop where
 el : e < (events p).length
 late : ltA (events p) e = true
 il : i < (events p).length
 k7 : kd (scene p).ds i = 7
theorem mem_chRef {p : Prog} {e i : Nat} : ∀ {k : Nat}, k ≤ (events p).length → ((e, i) ∈ chRef p k ↔ WtIn p e i ∧ e ≤ k)
 | 0, _ => by
  simp only [chRef, List.not_mem_nil, false_iff]
  rintro ⟨h, h0⟩
  obtain ⟨w, h1, _⟩ := wait_prev h.el h.late
  omega
 | k + 1, hk => by
  have hsl : (scene p).ds.length = (events p).length := by simp [scene]
  rw [chRef, List.mem_append, mem_chRef (by omega)]
  constructor
  ·rintro (⟨h1, h2⟩ | h)
   ·exact ⟨h1, by omega⟩
   ·split at h
    ·rename_i h9
     rw [Bool.and_eq_true, Bool.not_eq_true', beq_iff_eq] at h9
     obtain ⟨rfl, h2, h3⟩ := mem_chIn.1 h
     have := wait_next (by omega) h9.1 h9.2
     exact ⟨⟨this.1, this.2.2, by rw [← hsl]; exact h2, h3⟩, by simp⟩
    ·cases h
  ·rintro ⟨h1, h2⟩
   rcases Nat.lt_or_ge k e with h | h
   ·right
    have hek : e = k + 1 := by omega
    obtain ⟨w, h3, h4, h5⟩ := wait_prev h1.el h1.late
    have hwk : w = k := by omega
    subst hwk
    rw [h4, h5]
    simp only [beq_self_eq_true, Bool.not_false, Bool.and_self, if_true]
    exact mem_chIn.2 ⟨hek, by rw [hsl]; exact h1.il, h1.k7⟩
   ·exact .inl ⟨h1, h⟩
def AddR (p : Prog) (σ : Nat → Nat → Bool) (a b : Nat) : Prop :=
 ∃ e i, WtIn p e i ∧ ((σ e i = true ∧ a = outA p i ∧ b = e) ∨ (σ e i = false ∧ a + 1 = e ∧ b = i))
theorem add_iff {p : Prog} {σ : Nat → Nat → Bool} {a b : Nat} : AddL (outA p) (chRef p (events p).length) σ a b ↔ AddR p σ a b := by
 constructor
 ·rintro ⟨e, i, h, h2⟩
  have hw := ((mem_chRef (Nat.le_refl _)).1 h).1
  obtain ⟨w, h3, _⟩ := wait_prev hw.el hw.late
  refine ⟨e, i, hw, h2.imp id fun ⟨h4, h5, h6⟩ => ⟨h4, by omega, h6⟩⟩
 ·rintro ⟨e, i, h, h2⟩
  have := h.el
  exact ⟨e, i, (mem_chRef (Nat.le_refl _)).2 ⟨h, by omega⟩, h2.imp id fun ⟨h4, h5, h6⟩ => ⟨h4, by omega, h6⟩⟩
structure Hld (p : Prog) (x : Exe) (kind : Int) : Prop where
 pl : Rkd (events p).length fun a b => netR p x 0 a b = true
 ex : ∃ σ, Rkd (events p).length fun a b => netR p x kind a b = true ∨ AddR p σ a b
theorem holds_iff {p : Prog} {x : Exe} {kind : Int} : holdsS p x kind = true ↔ specOk p x = true ∧ inB kind 1 3 = true ∧ Hld p x kind := by
 have e : (settledS p x kind).isSome = true ↔ Hld p x kind := by
  rw [settledS]
  have h1 : (lineE (netR p x 0) (events p).length).isSome = true ↔ Rkd (events p).length fun a b => netR p x 0 a b = true := by rw [line_acy, acy_rkd]
  have h2 : (settleR (events p).length (outA p) (chRef p (events p).length) (netR p x kind)).isSome = true ↔ ∃ σ, Rkd (events p).length fun a b => netR p x kind a b = true ∨ AddR p σ a b := by
   rw [settle_iff]
   simp only [add_iff]
  split
  ·rename_i h
   rw [h2]
   exact ⟨fun hh => ⟨h1.1 h, hh⟩, fun hh => hh.ex⟩
  ·rename_i h
   simp only [Option.isSome_none, Bool.false_eq_true, false_iff]
   exact fun hh => h (h1.2 hh.pl)
 rw [holdsS, Bool.and_eq_true, Bool.and_eq_true, e, and_assoc]
end
section
open Go.RowKit
inductive Val (ds : List Do) (fr : List Int) : Nat → Int → Prop
 | val {i : Nat} {d : Do} : ds[i]? = some d → d.valued = true → Val ds fr i d.v
 | cp {i : Nat} {d : Do} {v : Int} : ds[i]? = some d → d.k = 3 → Val ds fr (lastRd ds i) v → Val ds fr i v
 | no {i : Nat} {d : Do} : ds[i]? = some d → d.reads = true → fr[i]? = some (-1) → Val ds fr i 0
 | rd {i b : Nat} {d : Do} {v : Int} : ds[i]? = some d → d.reads = true → fr[i]? = some (b : Int) → Val ds fr b v → Val ds fr i v
theorem k_valued {d : Do} (h : d.valued = true) : d.writes = true ∧ d.k ≠ 3 ∧ d.reads = false := by
 simp only [Do.valued, Bool.or_eq_true, beq_iff_eq] at h
 rcases h with h | h <;> simp [Do.writes, Do.reads, h]
theorem k_copy {d : Do} (h : d.k = 3) : d.writes = true ∧ d.valued = false ∧ d.reads = false := by simp [Do.writes, Do.reads, Do.valued, h]
theorem k_reads {d : Do} (h : d.reads = true) : d.writes = false ∧ d.valued = false ∧ d.k ≠ 3 := by
 simp only [Do.reads, Bool.or_eq_true, beq_iff_eq] at h
 rcases h with h | h <;> simp [Do.writes, Do.valued, h]
theorem k_writes {d : Do} (h : d.writes = true) (h3 : d.k ≠ 3) : d.valued = true := by
 simp only [Do.writes, Do.valued, Bool.or_eq_true, beq_iff_eq] at *
 omega
theorem uses_or {d : Do} : d.uses = true ↔ d.reads = true ∨ d.writes = true := by simp [Do.uses]
theorem val_I {ds : List Do} {fr : List Int} {i : Nat} {v : Int} (h : Val ds fr i v) : ∃ m, valI ds fr m i = some v := by
 induction h with
 | val hd hv => exact ⟨1, by rw [valI, hd]; simp [hv]⟩
 | cp hd h3 _ ih =>
  obtain ⟨m, hm⟩ := ih
  refine ⟨m + 1, ?_⟩
  rw [valI, hd]
  simp [(k_copy h3).2.1, h3, hm]
 | no hd hr hf => exact ⟨1, by rw [valI, hd]; simp [k_reads hr, hf]⟩
 | @rd i b d v hd hr hf _ ih =>
  obtain ⟨m, hm⟩ := ih
  refine ⟨m + 1, ?_⟩
  rw [valI, hd]
  have : ((b : Int) == -1) = false := beq_eq_false_iff_ne.2 (by omega)
  simp [k_reads hr, hf, this, hm]
theorem val_eqI {ds : List Do} {fr : List Int} {i : Nat} {v : Int} (h : Val ds fr i v) : valI ds fr ds.length i = some v := by
 obtain ⟨m, hm⟩ := val_I h
 exact valI_enough hm
theorem Val.fn {ds : List Do} {fr : List Int} {i : Nat} {v w : Int} (h : Val ds fr i v) (h' : Val ds fr i w) : v = w := by
 have h1 := val_eqI h
 rw [val_eqI h'] at h1
 exact (Option.some.inj h1).symm
theorem val_of {ds : List Do} {fr : List Int} (hc : copyOk ds) (hf : fromOk ds fr) : ∀ {m i : Nat} {d : Do} {v : Int}, ds[i]? = some d → d.uses = true → valI ds fr m i = some v → Val ds fr i v
 | 0, _, _, _, _, _, h => by rw [valI] at h; cases h
 | m + 1, i, d, v, hd, hu, h => by
  rw [valI, hd] at h
  dsimp only at h
  by_cases hv : d.valued = true
  ·rw [if_pos hv] at h
   cases h
   exact .val hd hv
  ·rw [if_neg hv] at h
   by_cases h3 : d.k = 3
   ·rw [if_pos (by simpa using h3)] at h
    obtain ⟨_, ⟨d', k2, k3⟩, _⟩ := lastRd_spec (hc i d hd h3)
    exact .cp hd h3 (val_of hc hf k2 (uses_or.2 (.inl k3)) h)
   ·rw [if_neg (by simpa using h3)] at h
    have hr : d.reads = true := by
     rcases uses_or.1 hu with hr | hw
     ·exact hr
     ·exact absurd (k_writes hw h3) hv
    obtain ⟨f, hfa⟩ : ∃ f, fr[i]? = some f := ⟨_, List.getElem?_eq_getElem (by have := (List.getElem?_eq_some_iff.1 hd).1; have := hf.1; omega)⟩
    rw [hfa] at h
    dsimp only at h
    rcases hf.2 i d f hd hfa hr with rfl | ⟨b, d', rfl, h1, h2⟩
    ·simp at h
     subst h
     exact .no hd hr hfa
    ·rw [if_neg (by simp)] at h
     exact .rd hd hr hfa (val_of hc hf h1 (uses_or.2 (.inr h2)) (by simpa using h))
structure OKW (ds : List Do) (x : Exe) : Prop where
 frl : x.fr.length = ds.length
 odl : x.od.length = 3
 od : ∀ k : Nat, k < 3 → ∃ r, x.od[k]? = some r ∧ r.Nodup ∧ ∀ z : Int, z ∈ r ↔ ∃ (b : Nat) (d : Do), z = b ∧ ds[b]? = some d ∧ d.writes = true ∧ d.p = k
 rd : ∀ (i : Nat) (d : Do) (f : Int), ds[i]? = some d → x.fr[i]? = some f → d.reads = true → f = -1 ∨ ∃ (b : Nat) (d' : Do), f = b ∧ ds[b]? = some d' ∧ d'.writes = true ∧ d'.p = d.p
 nr : ∀ (i : Nat) (d : Do) (f : Int), ds[i]? = some d → x.fr[i]? = some f → d.reads = false → f = -2
 ends : ∀ (i : Nat) (d : Do), ds[i]? = some d → d.uses = true → ∃ v, Val ds x.fr i v
theorem mem_writers {ds : List Do} {pl z : Int} : z ∈ writersOf ds pl ↔ ∃ (b : Nat) (d : Do), z = b ∧ ds[b]? = some d ∧ d.writes = true ∧ d.p = pl := by
 constructor
 ·intro h
  obtain ⟨b, d, _, h1, h2, h3, h4⟩ := mem_wrs h
  exact ⟨b, d, h1, h2, h3, h4⟩
 ·rintro ⟨b, d, rfl, h2, h3, h4⟩
  have key : ∀ k, b < k → (b : Int) ∈ wrs ds pl k := by
   intro k
   induction k with
   | zero => intro h; omega
   | succ k ih =>
    intro h
    rw [wrs, List.mem_append]
    rcases Nat.lt_or_ge b k with h' | h'
    ·exact .inl (ih h')
    ·have : b = k := by omega
     subst this
     right
     rw [h2]
     simp [h3, h4]
  exact key _ (List.getElem?_eq_some_iff.1 h2).1
theorem okw_iff {p : Prog} {x : Exe} (hok : progOk p = true) : specOk p x = true ↔ OKW (scene p).ds x := by
 have hsl : (scene p).ds.length = (events p).length := by simp [scene]
 constructor
 ·intro h
  have hex : execOk p x = true := by rw [ok_eq]; exact h
  have hw := Way.of hex
  simp only [specOk, formS, Bool.and_eq_true, decide_eq_true_eq, List.all_eq_true] at h
  obtain ⟨_, ⟨⟨⟨h1, h2⟩, h3⟩, h4⟩, _⟩ := h
  have hfit : fits (scene p) x = true := by
   simp only [execOk, okX, Bool.and_eq_true] at hex; exact hex.2.1
  have hff := fromOk_of (scene_len p) hfit
  refine ⟨by omega, h2, fun k hk => ?_, fun i d f hd hf hr => ?_, fun i d f hd hf hr => ?_, fun i d hd hu => ?_⟩
  ·have hr : x.od[k]? = some x.od[k] := List.getElem?_eq_getElem (by omega)
   have := h3 k (List.mem_range.2 hk)
   simp only [placeS, hr, Option.getD_some, Bool.and_eq_true, beq_iff_eq, List.all_eq_true, List.contains_iff_mem] at this
   have hp := perm_of (writers_nodup _ _) this.2 (by omega)
   exact ⟨_, hr, (hp.nodup_iff).1 (writers_nodup _ _), fun z => by rw [← hp.mem_iff, mem_writers]⟩
  ·have := hw.from_ i d f hd hf
   simp only [frOk, hr, if_true, Bool.or_eq_true, beq_iff_eq, List.contains_iff_mem] at this
   rcases this with h | h
   ·exact .inl h
   ·obtain ⟨b, d', k1, k2, k3, k4⟩ := mem_writers.1 h
    exact .inr ⟨b, d', k1, k2, k3, k4⟩
  ·have := hw.from_ i d f hd hf
   simpa [frOk, hr] using this
  ·exact ⟨_, val_of (scene_copy hok) hff hd hu (val_some hex hd hu)⟩
 ·intro h
  have hform : formS p x = true := by
   simp only [formS, Bool.and_eq_true, decide_eq_true_eq, List.all_eq_true]
   refine ⟨⟨⟨by have := h.frl; omega, h.odl⟩, fun k hk => ?_⟩, fun q hq => ?_⟩
   ·obtain ⟨r, h1, h2, h3⟩ := h.od k (List.mem_range.1 hk)
    have hp : (writersOf (scene p).ds k).Perm r := (List.perm_ext_iff_of_nodup (writers_nodup _ _) h2).2 fun z => by rw [mem_writers, h3]
    simp only [placeS, h1, Option.getD_some, Bool.and_eq_true, beq_iff_eq, List.all_eq_true, List.contains_iff_mem]
    exact ⟨hp.length_eq, fun z hz => hp.mem_iff.1 hz⟩
   ·obtain ⟨i, hi⟩ := List.getElem?_of_mem hq
    obtain ⟨d, f⟩ := q
    rw [List.getElem?_zip_eq_some] at hi
    obtain ⟨hd, hf⟩ := hi
    simp only [fromS]
    cases hr : d.reads
    ·simp only [Bool.false_eq_true, if_false, beq_iff_eq]
     exact h.nr i d f hd hf hr
    ·simp only [if_true, Bool.or_eq_true, beq_iff_eq, List.contains_iff_mem]
     rcases h.rd i d f hd hf hr with h1 | ⟨b, d', h1, h2, h3, h4⟩
     ·exact .inl h1
     ·right
      have hpl := formed_place (scene_formed hok d (List.mem_of_getElem? hd)) (uses_or.2 (.inl hr))
      obtain ⟨r, k1, k2, k3⟩ := h.od d.p.toNat (by omega)
      rw [k1, Option.getD_some, k3]
      exact ⟨b, d', h1, h2, h3, by omega⟩
  have hfit : fits (scene p) x = true := by rw [fits_form hok]; exact hform
  rw [← ok_eq, execOk, hok, okX, hfit, Bool.true_and, Bool.true_and, List.all_eq_true]
  rintro ⟨d, a⟩ hq
  obtain ⟨i, hi⟩ := List.getElem?_of_mem hq
  simp only [List.getElem?_zipIdx, Option.map_eq_some_iff, Prod.mk.injEq, Nat.zero_add] at hi
  obtain ⟨d', hd, rfl, rfl⟩ := hi
  rw [endOk]
  cases hu : d'.uses
  ·rfl
  ·obtain ⟨v, hv⟩ := h.ends i d' hd hu
   rw [val_eqI hv]; rfl
theorem mem_ordW {p : Prog} {kind : Int} {s : Sn} : s ∈ ordAll p kind ↔ progOk p = true ∧ inB kind 1 3 = true ∧ ∃ x, OKW (scene p).ds x ∧ Hld p x kind ∧ seenF p x = s := by
 rw [mem_ord]
 constructor
 ·rintro ⟨h1, h2, x, _, h3, h4⟩
  obtain ⟨k1, _, k3⟩ := holds_iff.1 h3
  exact ⟨h1, h2, x, (okw_iff h1).1 k1, k3, h4⟩
 ·rintro ⟨h1, h2, x, h3, h4, h5⟩
  have h6 := (okw_iff h1).2 h3
  exact ⟨h1, h2, x, by rw [← all_eq, mem_execAll, ok_eq]; exact h6, holds_iff.2 ⟨h6, h2, h4⟩, h5⟩
end
section
open Go.RowKit
structure Sim (d d' : Do) : Prop where
 r : d'.reads = d.reads
 w : d'.writes = d.writes
 p : d'.p = d.p
 v : d'.v = d.v
 c : d'.k = 3 ↔ d.k = 3
theorem Sim.refl (d : Do) : Sim d d := ⟨rfl, rfl, rfl, rfl, Iff.rfl⟩
theorem Sim.uses {d d' : Do} (h : Sim d d') : d'.uses = d.uses := by simp [Do.uses, h.r, h.w]
theorem Sim.valued {d d' : Do} (h : Sim d d') : d'.valued = d.valued := by
 cases hv : d.valued
 ·cases hv' : d'.valued
  ·rfl
  ·have h1 := k_valued hv'
   have : d.valued = true := k_writes (by rw [← h.w]; exact h1.1) fun e => h1.2.1 (h.c.2 e)
   rw [hv] at this; cases this
 ·have h1 := k_valued hv
  exact k_writes (by rw [h.w]; exact h1.1) fun e => h1.2.1 (h.c.1 e)
structure Emb (F G : List Do) (f : Nat → Nat) : Prop where
 mono : ∀ i j, i < j → j < F.length → f i < f j
 sim : ∀ (i : Nat) (d : Do), F[i]? = some d → ∃ d', G[f i]? = some d' ∧ Sim d d'
 cp : ∀ (i : Nat) (d : Do), F[i]? = some d → d.k = 3 → lastRd G (f i) = f (lastRd F i)
theorem Emb.lt {F G : List Do} {f : Nat → Nat} (h : Emb F G f) {i : Nat} (hi : i < F.length) : f i < G.length := by
 obtain ⟨d', h1, _⟩ := h.sim i _ (List.getElem?_eq_getElem hi)
 exact (List.getElem?_eq_some_iff.1 h1).1
theorem Emb.inj {F G : List Do} {f : Nat → Nat} (h : Emb F G f) {i j : Nat} (hi : i < F.length) (hj : j < F.length) (he : f i = f j) : i = j := by
 rcases Nat.lt_trichotomy i j with h1 | h1 | h1
 ·have := h.mono i j h1 hj; omega
 ·exact h1
 ·have := h.mono j i h1 hi; omega
theorem Emb.lt_iff {F G : List Do} {f : Nat → Nat} (h : Emb F G f) {i j : Nat} (hi : i < F.length) (hj : j < F.length) : f i < f j ↔ i < j := by
 constructor
 ·intro hh
  rcases Nat.lt_trichotomy i j with h1 | h1 | h1
  ·exact h1
  ·rw [h1] at hh; omega
  ·have := h.mono j i h1 hi; omega
 ·exact fun hh => h.mono i j hh hj
def lft (f : Nat → Nat) (z : Int) : Int := if 0 ≤ z then (f z.toNat : Int) else z
theorem lft_nat (f : Nat → Nat) (b : Nat) : lft f (b : Int) = f b := by rw [lft, if_pos (by omega)]; simp
theorem lft_neg (f : Nat → Nat) {z : Int} (h : z < 0) : lft f z = z := by rw [lft, if_neg (by omega)]
theorem lft_isneg {f : Nat → Nat} {z : Int} (h : lft f z < 0) : z < 0 ∧ lft f z = z := by
 rcases (by omega : z < 0 ∨ 0 ≤ z) with h1 | h1
 ·exact ⟨h1, lft_neg f h1⟩
 ·rw [lft, if_pos h1] at h; omega
structure Mat (F : List Do) (f : Nat → Nat) (x y : Exe) : Prop where
 fr : ∀ (i : Nat) (z : Int), i < F.length → x.fr[i]? = some z → y.fr[f i]? = some (lft f z)
 od : ∀ k : Nat, k < 3 → (∃ r, x.od[k]? = some r ∧ y.od[k]? = some (r.map (lft f))) ∨ ∀ d ∈ F, d.uses = true → d.p ≠ k
theorem Mat.val {F G : List Do} {f : Nat → Nat} {x y : Exe} (e : Emb F G f) (m : Mat F f x y) {i : Nat} {v : Int} (h : Val F x.fr i v) : Val G y.fr (f i) v := by
 induction h with
 | @val i d hd hv =>
  obtain ⟨d', h1, h2⟩ := e.sim i d hd
  rw [← h2.v]
  exact .val h1 (by rw [h2.valued]; exact hv)
 | @cp i d v hd h3 _ ih =>
  obtain ⟨d', h1, h2⟩ := e.sim i d hd
  refine .cp h1 (h2.c.2 h3) ?_
  rw [e.cp i d hd h3]; exact ih
 | @no i d hd hr hf =>
  obtain ⟨d', h1, h2⟩ := e.sim i d hd
  refine .no h1 (by rw [h2.r]; exact hr) ?_
  have := m.fr i _ (List.getElem?_eq_some_iff.1 hd).1 hf
  rwa [lft_neg f (by omega)] at this
 | @rd i b d v hd hr hf _ ih =>
  obtain ⟨d', h1, h2⟩ := e.sim i d hd
  refine .rd h1 (by rw [h2.r]; exact hr) ?_ ih
  have := m.fr i _ (List.getElem?_eq_some_iff.1 hd).1 hf
  rwa [lft_nat] at this
theorem Mat.back {F G : List Do} {f : Nat → Nat} {x y : Exe} (e : Emb F G f) (m : Mat F f x y) (hc : copyOk F) (hl : x.fr.length = F.length)
  (hx : ∀ (i : Nat) (d : Do) (z : Int), F[i]? = some d → x.fr[i]? = some z → d.reads = true → z = -1 ∨ ∃ b : Nat, z = b ∧ b < F.length) {j : Nat} {v : Int} (h : Val G y.fr j v) : ∀ i, i < F.length → f i = j → Val F x.fr i v := by
 induction h with
 | @val j d' hd hv =>
  rintro i hi rfl
  obtain ⟨d, hdi⟩ : ∃ d, F[i]? = some d := ⟨_, List.getElem?_eq_getElem hi⟩
  obtain ⟨d2, h1, h2⟩ := e.sim i d hdi
  rw [hd] at h1; cases h1
  rw [h2.v]
  exact .val hdi (by rw [← h2.valued]; exact hv)
 | @cp j d' v hd h3 _ ih =>
  rintro i hi rfl
  obtain ⟨d, hdi⟩ : ∃ d, F[i]? = some d := ⟨_, List.getElem?_eq_getElem hi⟩
  obtain ⟨d2, h1, h2⟩ := e.sim i d hdi
  rw [hd] at h1; cases h1
  have h3' := h2.c.1 h3
  obtain ⟨k1, _⟩ := lastRd_spec (hc i d hdi h3')
  exact .cp hdi h3' (ih _ (by omega) (e.cp i d hdi h3').symm)
 | @no j d' hd hr hf =>
  rintro i hi rfl
  obtain ⟨d, hdi⟩ : ∃ d, F[i]? = some d := ⟨_, List.getElem?_eq_getElem hi⟩
  obtain ⟨d2, h1, h2⟩ := e.sim i d hdi
  rw [hd] at h1; cases h1
  obtain ⟨z, hz⟩ : ∃ z, x.fr[i]? = some z := ⟨_, List.getElem?_eq_getElem (by omega)⟩
  have := m.fr i z hi hz
  rw [hf] at this
  have hz1 : lft f z = -1 := (Option.some.inj this).symm
  have := (lft_isneg (f := f) (z := z) (by omega)).2
  have : z = -1 := by omega
  subst this
  exact .no hdi (by rw [← h2.r]; exact hr) hz
 | @rd j b d' v hd hr hf _ ih =>
  rintro i hi rfl
  obtain ⟨d, hdi⟩ : ∃ d, F[i]? = some d := ⟨_, List.getElem?_eq_getElem hi⟩
  obtain ⟨d2, h1, h2⟩ := e.sim i d hdi
  rw [hd] at h1; cases h1
  have hr' : d.reads = true := by rw [← h2.r]; exact hr
  obtain ⟨z, hz⟩ : ∃ z, x.fr[i]? = some z := ⟨_, List.getElem?_eq_getElem (by omega)⟩
  have := m.fr i z hi hz
  rw [hf] at this
  have hz1 : lft f z = b := (Option.some.inj this).symm
  rcases hx i d z hdi hz hr' with rfl | ⟨b', rfl, hb'⟩
  ·rw [lft_neg f (by omega)] at hz1; omega
  ·rw [lft_nat] at hz1
   exact .rd hdi hr' hz (ih b' hb' (by omega))
theorem rdK_eq (g : Nat → Int) (ds : List Do) : ∀ k, rdK g ds k = ((List.range k).filter fun i => (ds[i]?.getD default).reads).map g
 | 0 => rfl
 | k + 1 => by
  rw [rdK, rdK_eq g ds k, List.range_succ, List.filter_append, List.map_append]
  congr 1
  cases h : ds[k]? with
  | none => simp [h, show (default : Do).reads = false from rfl]
  | some d => cases hr : d.reads <;> simp [h, hr]
theorem sorted_ext {l m : List Nat} (hl : l.Pairwise (· < ·)) (hm : m.Pairwise (· < ·)) (h : ∀ s, s ∈ l ↔ s ∈ m) : l = m := by
 have nd : ∀ {l : List Nat}, l.Pairwise (· < ·) → l.Nodup := fun h => h.imp fun {a b} hab e => by omega
 have hp : l.Perm m := (List.perm_ext_iff_of_nodup (nd hl) (nd hm)).2 h
 exact List.Perm.eq_of_pairwise (le := fun s t => s < t) (fun a b _ _ h1 h2 => by omega) hl hm hp
theorem Emb.rl {F G : List Do} {f : Nat → Nat} (e : Emb F G f) (hr : ∀ (j : Nat) (d' : Do), G[j]? = some d' → d'.reads = true → ∃ i, i < F.length ∧ f i = j) :
  ((List.range G.length).filter fun i => (G[i]?.getD default).reads) = ((List.range F.length).filter fun i => (F[i]?.getD default).reads).map f := by
 refine sorted_ext (List.Pairwise.filter _ List.pairwise_lt_range) ?_ fun s => ?_
 ·rw [List.pairwise_map]
  refine List.Pairwise.imp_of_mem (fun {a b} ha hb hab => ?_) (List.Pairwise.filter _ List.pairwise_lt_range)
  exact e.mono a b hab (List.mem_range.1 (List.mem_filter.1 hb).1)
 ·simp only [List.mem_filter, List.mem_range, List.mem_map]
  constructor
  ·rintro ⟨h1, h2⟩
   rw [List.getElem?_eq_getElem h1, Option.getD_some] at h2
   obtain ⟨i, hi, rfl⟩ := hr s _ (List.getElem?_eq_getElem h1) h2
   obtain ⟨d2, k1, k2⟩ := e.sim i _ (List.getElem?_eq_getElem hi)
   rw [List.getElem?_eq_getElem h1] at k1
   refine ⟨i, ⟨hi, ?_⟩, rfl⟩
   rw [List.getElem?_eq_getElem hi, Option.getD_some, ← k2.r, ← Option.some.inj k1]; exact h2
  ·rintro ⟨i, ⟨hi, h2⟩, rfl⟩
   obtain ⟨d2, k1, k2⟩ := e.sim i _ (List.getElem?_eq_getElem hi)
   refine ⟨e.lt hi, ?_⟩
   rw [k1, Option.getD_some, k2.r]
   rwa [List.getElem?_eq_getElem hi, Option.getD_some] at h2
def vF (ds : List Do) (fr : List Int) (i : Nat) : Int := (valI ds fr ds.length i).getD 0
theorem vF_eq {ds : List Do} {fr : List Int} {i : Nat} {v : Int} (h : Val ds fr i v) : vF ds fr i = v := by rw [vF, val_eqI h]; rfl
theorem Mat.vF {F G : List Do} {f : Nat → Nat} {x y : Exe} (e : Emb F G f) (m : Mat F f x y) (hx : OKW F x) {i : Nat} {d : Do} (hd : F[i]? = some d) (hu : d.uses = true) : vF G y.fr (f i) = vF F x.fr i := by
 obtain ⟨v, hv⟩ := hx.ends i d hd hu
 rw [vF_eq hv, vF_eq (m.val e hv)]
theorem Mat.lsF {F G : List Do} {f : Nat → Nat} {x y : Exe} (e : Emb F G f) (m : Mat F f x y) (hx : OKW F x) {k : Nat} {r : List Int} (hk : k < 3) (hr : x.od[k]? = some r) : Go.Proofs.YtfbgabkcjjahiaaGreatDoor.lsF (Go.Proofs.YtfbgabkcjjahiaaGreatDoor.vF G y.fr) (r.map (lft f)) = Go.Proofs.YtfbgabkcjjahiaaGreatDoor.lsF (Go.Proofs.YtfbgabkcjjahiaaGreatDoor.vF F x.fr) r := by
 rw [Go.Proofs.YtfbgabkcjjahiaaGreatDoor.lsF, Go.Proofs.YtfbgabkcjjahiaaGreatDoor.lsF, List.length_map, List.getElem?_map]
 cases hz : r[r.length - 1]? with
 | none => rfl
 | some z =>
  obtain ⟨r', h1, _, h3⟩ := hx.od k hk
  rw [hr] at h1; cases h1
  obtain ⟨b, d, rfl, hd, hw, _⟩ := (h3 z).1 (List.mem_of_getElem? hz)
  simp only [Option.map_some, lft_nat, Int.toNat_natCast]
  exact m.vF e hx hd (uses_or.2 (.inr hw))
theorem seenF_eq (p : Prog) (x : Exe) : seenF p x = ⟨((List.range (scene p).ds.length).filter fun i => ((scene p).ds[i]?.getD default).reads).map (vF (scene p).ds x.fr), x.od.map (lsF (vF (scene p).ds x.fr))⟩ := by
 rw [seenF, rdK_eq]; rfl
theorem od_map {x : Exe} {α β : Type} {g : List Int → α} {h : List Int → α} {y : Exe} {k : List Int → List Int} (ho : y.od = x.od.map k) (hh : ∀ (i : Nat) r, x.od[i]? = some r → h (k r) = g r) : y.od.map h = x.od.map g := by
 rw [ho, List.map_map]
 apply List.ext_getElem?
 intro i
 rw [List.getElem?_map, List.getElem?_map]
 cases hr : x.od[i]? with
 | none => rfl
 | some r => simp only [Option.map_some, Function.comp]; rw [hh i r hr]
theorem Mat.seen {p q : Prog} {f : Nat → Nat} {x y : Exe} (e : Emb (scene p).ds (scene q).ds f) (m : Mat (scene p).ds f x y) (hx : OKW (scene p).ds x) (ho : y.od = x.od.map (List.map (lft f)))
  (hr : ∀ (j : Nat) (d' : Do), (scene q).ds[j]? = some d' → d'.reads = true → ∃ i, i < (scene p).ds.length ∧ f i = j) : seenF q y = seenF p x := by
 rw [seenF_eq, seenF_eq, e.rl hr, List.map_map]
 congr 1
 ·refine List.map_congr_left fun i hi => ?_
  obtain ⟨h1, h2⟩ := List.mem_filter.1 hi
  obtain ⟨d, hd⟩ : ∃ d, (scene p).ds[i]? = some d := ⟨_, List.getElem?_eq_getElem (List.mem_range.1 h1)⟩
  rw [hd, Option.getD_some] at h2
  exact m.vF e hx hd (uses_or.2 (.inl h2))
 ·refine od_map (β := Nat) ho fun i r hri => ?_
  have hi := (List.getElem?_eq_some_iff.1 hri).1
  exact m.lsF e hx (by have := hx.odl; omega) hri
end
end Go.Proofs.YtfbgabkcjjahiaaGreatDoor
