/-
 Contracts and plain laws.
-/
import Derived.Test.YtfbgabkcjjahiaaGreatDoorOa
import Derived.Test.YtfbgabkcjjahiaaGreatDoorOb
import Derived.Test.YtfbgabkcjjahiaaGreatDoorOe
import Derived.Test.YtfbgabkcjjahiaaGreatDoorOj
import Derived.Test.YtfbgabkcjjahiaaGreatDoorRows
import Derived.ProofKit
import Derived.OpenShut
import Derived.ChangeSlices
import Derived.JoinedOf
import Derived.JoinedAt
import Derived.Deep.DeepHandedRow
import Derived.Lib.LaidTab
import Derived.Test.YtfbgabkcjjahiaaGreatDoorCards
import Derived.Test.YtfbgabkcjjahiaaGreatDoorTie
set_option linter.unusedSimpArgs false
set_option linter.unusedVariables false
set_option linter.unusedSectionVars false
namespace Go.Proofs.YtfbgabkcjjahiaaGreatDoor
section
open Go.RowKit
end
section
open Go.RowKit
instance : DecidableEq Exe := fun x y => decidable_of_iff (x.fr = y.fr ∧ x.od = y.od) (by cases x; cases y; simp)
end
section
open Go.RowKit
theorem few_small {y : Exe} (hy : y.few) : y.small := ⟨by have := hy.fr; omega, by have := hy.od; omega, fun r hr => by have := hy.row r hr; omega⟩
theorem l71Hold_rd (bs : List Int) (hb : Bytes bs) (g p : Nat) (hp : p < 2 ^ 20) : Fr Tryz.prog 56 [] g (rdO bs g p)
  (fun r o' => ∃ (x : Prog) (y : Exe) (kind : Int), r = .tuple [progV x, y.V, .int .i64 kind] ∧ x.length ≤ 3 ∧ (∀ l ∈ x, l.length < 2 ^ 11) ∧ y.few ∧ ∃ q, p ≤ q ∧ q ≤ p + 2 ^ 26 ∧ o' = rdO bs g q) := by
 refine Fc.start (S := []) Tryz.func56 Tryz.ntmps56 Tryz.results56 rfl (by decide) rfl (by kernel_rfl) ?_
 simp (disch := omega) only [push_cast, go_sem, zA, simprocAttr]
 intro g2 g3
 refine callR.rd (l71Exec_rd bs hb g p (by omega)) rfl rfl rfl ?_
 rintro r o' ⟨x, y, rfl, hx1, hx2, hy, q, hq1, hq2, rfl⟩
 simp (disch := omega) only [push_cast, go_sem, zA, simprocAttr, progV_eq, Exe.V_eq]
 intro g5 g6
 refine callR.rd (l71Kind_pl bs hb g q (by omega)) rfl rfl rfl ?_
 rintro r o' ⟨⟨kind, rfl⟩, q1, hq3, hq4, rfl⟩
 simp (disch := omega) only [push_cast, go_sem, zA, simprocAttr]
 refine Sat.loop (σ := Nat × Prog × Exe × Nat) (fun s => upd (upd (upd (upd (upd (upd (upd noT 0 (.ptr 0 [] 0 0 g 2)) 2 (.ptr 2 [] 0 0 g2 1)) 3 (.ptr 3 [] 0 0 g3 2)) 5 (.ptr 5 [] 0 0 g5 1)) 6 (.ptr 6 [] 0 0 g6 2)) 7 (.int .i64 kind)) 8 (.int .i64 s.1))
  (fun s => ((((noM.set 0 (rdO bs g s.2.2.2)).set 2 (.own 25 (some g2) 1 [.agg [.own 0 none 0 []]])).set 3 (.own 33 (some g3) 1 [.agg [.own 0 none 0 [], .own 0 none 0 []]])).set 5 (.own 25 (some g5) 1 [.agg [.sl (s.2.1.map thrV)]])).set 6 (.own 33 (some g6) 1 [.agg [.sl (s.2.2.1.fr.map (V.int .i64)), .sl (s.2.2.1.od.map intsV)]]))
  (fun s => s.1 ≤ 8 ∧ s.2.1.length ≤ 3 ∧ (∀ l ∈ s.2.1, l.length < 2 ^ 11) ∧ s.2.2.1.few ∧ q1 ≤ s.2.2.2 ∧ s.2.2.2 ≤ q1 + s.1 * (2 ^ 22 + 1)) (fun s => 8 - s.1) (0, x, y, q1) ⟨by dsimp only; omega, hx1, hx2, hy, by dsimp only; omega, by dsimp only; omega⟩ ?_ ?_
 ·(refine zB ?_; repeat (first | exact zC | exact zD | refine zE (by decide) ?_ | refine zF ?_ ?_ | refine zG ?_ ?_)) <;> (try simp (disch := omega) only [push_cast, go_sem, zA, simprocAttr])
 rintro ⟨i, x, y, q2⟩ ⟨hi, hx1, hx2, hy, hq5, hq6⟩ J hJ
 simp only at hi hx1 hx2 hy hq5 hq6 hJ
 refine Sat.of (S := []) (by kernel_rfl) ?_
 have hys := few_small hy
 have hyf := hy.fr
 have hh := specOrderHolds_fn x y kind (by omega) hys
 rw [progV_eq, Exe.V_eq] at hh
 by_cases h8 : (i : Int) < 8
 ·simp (disch := omega) only [push_cast, go_sem, zA, simprocAttr, h8]
  refine callR.rd (pick_rd bs hb g q2 (by omega) 8 (by omega)) rfl rfl rfl ?_
  rintro r o' ⟨v, rfl, hv0, hv1, _, rfl⟩
  by_cases hv : (0 : Int) < v
  ·simp (disch := omega) only [push_cast, go_sem, zA, simprocAttr, hv]
   refine callR.pure hh rfl rfl ?_
   cases hho : holdsS x y kind
   ·simp (disch := omega) only [push_cast, go_sem, zA, simprocAttr]
    refine callR.rd (l71Exec_rd bs hb g (q2 + 1) (by omega)) rfl rfl rfl ?_
    rintro r o' ⟨x', y', rfl, hx1', hx2', hy', q3, hq7, hq8, rfl⟩
    simp (disch := omega) only [push_cast, go_sem, zA, simprocAttr, progV_eq, Exe.V_eq]
    refine hJ (i + 1, x', y', q3) _ _ ⟨by dsimp only; omega, hx1', hx2', hy', by dsimp only; omega, by dsimp only; omega⟩ (by dsimp only; omega) ?_
    (refine zB ?_; repeat (first | exact zC | exact zD | refine zE (by decide) ?_ | refine zF ?_ ?_ | refine zG ?_ ?_)) <;> (try simp (disch := omega) only [push_cast, go_sem, zA, simprocAttr])
   ·simp (disch := omega) only [push_cast, go_sem, zA, simprocAttr]
    refine Sat.drawnE [(0, 1), (1, 3)] [] [0, 1] (fun _ _ _ => none) (by kernel_rfl) (by kernel_rfl) ?_
    simp (disch := omega) only [push_cast, go_sem, zA, simprocAttr]
    refine ⟨_, ?_, _, ⟨x, y, kind, rfl, hx1, hx2, hy, q2 + 1, by omega, by omega, rfl⟩, rfl⟩
    ((repeat (first | exact Sub.no | refine Sub.set ?_ ?_)) <;> (try simp (disch := omega) only [push_cast, go_sem, zA, simprocAttr]))
  ·simp (disch := omega) only [push_cast, go_sem, zA, simprocAttr, hv]
   refine Sat.drawnE [(0, 1), (1, 3)] [] [0, 1] (fun _ _ _ => none) (by kernel_rfl) (by kernel_rfl) ?_
   simp (disch := omega) only [push_cast, go_sem, zA, simprocAttr]
   refine ⟨_, ?_, _, ⟨x, y, kind, rfl, hx1, hx2, hy, q2 + 1, by omega, by omega, rfl⟩, rfl⟩
   ((repeat (first | exact Sub.no | refine Sub.set ?_ ?_)) <;> (try simp (disch := omega) only [push_cast, go_sem, zA, simprocAttr]))
 ·simp (disch := omega) only [push_cast, go_sem, zA, simprocAttr, h8]
  refine Sat.drawnE [(0, 1), (1, 3)] [] [0, 1] (fun _ _ _ => none) (by kernel_rfl) (by kernel_rfl) ?_
  simp (disch := omega) only [push_cast, go_sem, zA, simprocAttr]
  refine ⟨_, ?_, _, ⟨x, y, kind, rfl, hx1, hx2, hy, q2, by omega, by omega, rfl⟩, rfl⟩
  ((repeat (first | exact Sub.no | refine Sub.set ?_ ?_)) <;> (try simp (disch := omega) only [push_cast, go_sem, zA, simprocAttr]))
theorem DrawOrderLine_fn (bs : List Int) (hb : Code8 bs) (hl : bs.length < 2 ^ 40) : Fc Tryz.prog 25 [codeV bs] noM (fun r m => DrawnH r ∧ m = noM) := by
 refine Fc.start (S := []) Tryz.func25 Tryz.ntmps25 Tryz.results25 rfl (by decide) rfl (by kernel_rfl) ?_
 simp (disch := omega) only [push_cast, go_sem, zA, simprocAttr, codeV_eq]
 intro g2 g3
 refine callR.new (l6Open_fn bs hl) rfl rfl ?_
 rintro r ob ⟨g, rfl, rfl⟩
 simp (disch := omega) only [push_cast, go_sem, zA, simprocAttr]
 refine callR.rd (l71Hold_rd (bs.take 2000) hb.take g 0 (by omega)) rfl rfl rfl ?_
 rintro r o' ⟨x, y, kind, rfl, hx1, hx2, hy, q, hq1, hq2, rfl⟩
 simp (disch := omega) only [push_cast, go_sem, zA, simprocAttr, progV_eq, Exe.V_eq]
 exact ⟨x, y, kind, rfl, hx1, hx2, few_small hy⟩
end
section
open Go.RowKit
end
section
open Go.RowKit
theorem pref_all {α : Type} {q : α → Bool} {l : List α} {k : Nat} {x : α} (hx : l[k]? = some x) (h : ∀ y ∈ l.take k, q y = true) (hq : q x = true) : ∀ y ∈ l.take (k + 1), q y = true := fun y hy => by
 rw [take_get hx] at hy
 rcases List.mem_append.1 hy with hy | hy
 ·exact h y hy
 ·simp at hy; rw [hy]; exact hq
theorem specSeenIn_fn (l : List Sn) (s : Sn) (hls : ∀ t ∈ l, t.small) (hs : s.small) (hl : l.length < 2 ^ 40) : Fp Tryz.prog 69 [.sl (l.map Sn.V), s.V] (.bool (decide (s ∈ l))) := by
 refine Fc.start (S := [6]) Tryz.func69 Tryz.ntmps69 Tryz.results69 rfl (by decide) rfl (by kernel_rfl) ?_
 simp (disch := omega) only [push_cast, go_sem, zA, simprocAttr, Sn.V_eq]
 intro g3
 refine Sat.loop (σ := Nat) (fun k => upd (upd (upd noT 0 (.sl (l.map Sn.V))) 3 (.ptr 3 [] 0 0 g3 2)) 5 (.int .i64 k)) (fun _ => noM.set 3 (.own 28 (some g3) 1 [.agg [.sl (s.rd.map (V.int .i64)), .sl (s.ls.map (V.int .i64))]]))
  (fun k => k ≤ l.length ∧ ∀ y ∈ l.take k, decide (y ≠ s) = true) (fun k => l.length - k) 0 (by simp) ?_ ?_
 ·(refine zB ?_; repeat (first | exact zC | exact zD | refine zE (by decide) ?_ | refine zF ?_ ?_ | refine zG ?_ ?_)) <;> (try simp (disch := omega) only [push_cast, go_sem, zA, simprocAttr])
 rintro k ⟨hk, hall⟩ J hJ
 refine Sat.of (S := [6]) (by kernel_rfl) ?_
 rcases Nat.lt_or_ge k l.length with hlt | hge
 ·obtain ⟨x, hx⟩ : ∃ x, l[k]? = some x := ⟨_, List.getElem?_eq_getElem hlt⟩
  have hcm := l2Seen_fn x s (hls x (List.mem_of_getElem? hx)) hs
  have hz : (cmpS x s == 0) = decide (x = s) := by rw [Bool.eq_iff_iff, beq_iff_eq, decide_eq_true_eq]; exact cmpS_zero
  rw [Sn.V_eq, Sn.V_eq] at hcm
  simp (disch := omega) only [push_cast, go_sem, zA, simprocAttr, hlt]
  refine Sat.drawnE [] [] (List.range 7) (pureT [(45, .int .i64 (cmpS x s))]) (by kernel_rfl) (by kernel_rfl) ?_
  simp (disch := omega) only [push_cast, go_sem, zA, simprocAttr, hx, hlt, Sn.V_eq]
  refine runD_pure rfl hcm rfl rfl ?_ ?_
  ·rfl
  cases he : decide (x = s)
  ·rw [he] at hz
   simp (disch := omega) only [push_cast, go_sem, zA, simprocAttr, hz]
   refine hJ (k + 1) _ _ ⟨by omega, pref_all hx hall (by simpa using he)⟩ (by omega) ?_
   (refine zB ?_; repeat (first | exact zC | exact zD | refine zE (by decide) ?_ | refine zF ?_ ?_ | refine zG ?_ ?_)) <;> (try simp (disch := omega) only [push_cast, go_sem, zA, simprocAttr])
  ·rw [he] at hz
   simp (disch := omega) only [push_cast, go_sem, zA, simprocAttr, hz]
   have : s ∈ l := by rw [← of_decide_eq_true he]; exact List.mem_of_getElem? hx
   simp [this]
 ·have hkl : k = l.length := by omega
  subst hkl
  rw [List.take_length] at hall
  simp (disch := omega) only [push_cast, go_sem, zA, simprocAttr]
  have : s ∉ l := fun h => by simpa using hall s h
  refine Sat.of (S := []) (by kernel_rfl) ?_
  simp (disch := omega) only [push_cast, go_sem, zA, simprocAttr]
  simp [this]
end
section
open Go.RowKit
theorem indexSame_fn (l : List Sn) (s : Sn) (hls : ∀ t ∈ l, t.small) (hs : s.small) (hl : l.length < 2 ^ 40) : Fc Tryz.prog 109 [.sl (l.map Sn.V), .fn (.func 51) [s.V] []] noM (fun r m => (∃ n : Int, r = .int .i64 n ∧ (0 ≤ n ↔ s ∈ l)) ∧ m = noM) := by
 refine Fc.start (S := [7]) Tryz.func109 Tryz.ntmps109 Tryz.results109 rfl (by decide) rfl (by kernel_rfl) ?_
 simp (disch := omega) only [push_cast, go_sem, zA, simprocAttr, Sn.V_eq]
 refine Sat.loop (σ := Nat) (fun k => upd (upd (upd (upd noT 0 (.sl (l.map Sn.V))) 1 (.fn (.func 51) [.agg [.sl (s.rd.map (V.int .i64)), .sl (s.ls.map (V.int .i64))]] [])) 7 (.int .i64 l.length)) 8 (.int .i64 k)) (fun _ => noM)
  (fun k => k ≤ l.length ∧ ∀ y ∈ l.take k, decide (y ≠ s) = true) (fun k => l.length - k) 0 (by simp) ?_ ?_
 ·(refine zB ?_; repeat (first | exact zC | exact zD | refine zE (by decide) ?_ | refine zF ?_ ?_ | refine zG ?_ ?_)) <;> (try simp (disch := omega) only [push_cast, go_sem, zA, simprocAttr])
 rintro k ⟨hk, hall⟩ J hJ
 refine Sat.of (S := [7]) (by kernel_rfl) ?_
 rcases Nat.lt_or_ge k l.length with hlt | hge
 ·obtain ⟨x, hx⟩ : ∃ x, l[k]? = some x := ⟨_, List.getElem?_eq_getElem hlt⟩
  have hcm := same_fn s x hs (hls x (List.mem_of_getElem? hx))
  rw [Sn.V_eq, Sn.V_eq] at hcm
  simp (disch := omega) only [push_cast, go_sem, zA, simprocAttr, hx, hlt, Sn.V_eq]
  refine callR.pure hcm rfl rfl ?_
  cases he : decide (s = x)
  ·simp (disch := omega) only [push_cast, go_sem, zA, simprocAttr]
   refine hJ (k + 1) _ _ ⟨by omega, pref_all hx hall (by have := of_decide_eq_false he; simpa using fun h => this h.symm)⟩ (by omega) ?_
   (refine zB ?_; repeat (first | exact zC | exact zD | refine zE (by decide) ?_ | refine zF ?_ ?_ | refine zG ?_ ?_)) <;> (try simp (disch := omega) only [push_cast, go_sem, zA, simprocAttr])
  ·simp (disch := omega) only [push_cast, go_sem, zA, simprocAttr]
   have : s ∈ l := by rw [of_decide_eq_true he]; exact List.mem_of_getElem? hx
   exact ⟨(k : Int), rfl, by simp [this]⟩
 ·have hkl : k = l.length := by omega
  subst hkl
  rw [List.take_length] at hall
  have : s ∉ l := fun h => by simpa using hall s h
  simp (disch := omega) only [push_cast, go_sem, zA, simprocAttr]
  refine Sat.of (S := []) (by kernel_rfl) ?_
  simp (disch := omega) only [push_cast, go_sem, zA, simprocAttr]
  exact ⟨-1, rfl, by simp [this]⟩
theorem containsSame_fn (l : List Sn) (s : Sn) (hls : ∀ t ∈ l, t.small) (hs : s.small) (hl : l.length < 2 ^ 40) : Fp Tryz.prog 65 [.sl (l.map Sn.V), .fn (.func 51) [s.V] []] (.bool (decide (s ∈ l))) := by
 have h1 := indexSame_fn l s hls hs hl
 rw [Sn.V_eq] at h1
 refine Fc.start (S := []) Tryz.func65 Tryz.ntmps65 Tryz.results65 rfl (by decide) rfl (by kernel_rfl) ?_
 simp (disch := omega) only [push_cast, go_sem, zA, simprocAttr, Sn.V_eq]
 refine callR.ex h1 rfl rfl ?_
 rintro r ⟨n, rfl, hn⟩
 simp (disch := omega) only [push_cast, go_sem, zA, simprocAttr]
 simp [hn]
theorem implSeenIn_fn (l : List Sn) (s : Sn) (hls : ∀ t ∈ l, t.small) (hs : s.small) (hl : l.length < 2 ^ 40) : Fp Tryz.prog 27 [.sl (l.map Sn.V), s.V] (.bool (decide (s ∈ l))) := by
 have h1 := containsSame_fn l s hls hs hl
 rw [Sn.V_eq] at h1
 refine Fc.start (S := []) Tryz.func27 Tryz.ntmps27 Tryz.results27 rfl (by decide) rfl (by kernel_rfl) ?_
 simp (disch := omega) only [push_cast, go_sem, zA, simprocAttr, Sn.V_eq]
 intro g3
 refine callR.pure h1 rfl rfl ?_
 simp (disch := omega) only [push_cast, go_sem, zA, simprocAttr]
def whyK (p : Prog) (s : Sn) : Int := if s ∈ ordAll p 1 then 1 else if s ∈ ordAll p 2 then 2 else if s ∈ ordAll p 3 then 3 else 0
theorem implWhyOrder_fn (p : Prog) (s : Sn) (hp : p.length < 2 ^ 40) (hl : ∀ l ∈ p, l.length < 2 ^ 40) (hs : s.small) : Fp Tryz.prog 34 [progV p, s.V] (.int .i64 (whyK p s)) := by
 have ho := fun k => implOrderAll_fn p k hp hl
 have hi := fun k => implSeenIn_fn (ordAll p k) s ord_small hs (by have := ord_len p k; omega)
 simp only [ordI_eq] at ho
 rw [progV_eq] at ho
 rw [Sn.V_eq] at hi
 rw [whyK]
 refine Fc.start (S := [6]) Tryz.func34 Tryz.ntmps34 Tryz.results34 rfl (by decide) rfl (by kernel_rfl) ?_
 simp (disch := omega) only [push_cast, go_sem, zA, simprocAttr, progV_eq, Sn.V_eq]
 intro g2 g3
 refine Sat.loop (σ := Nat) (fun k => upd (upd (upd noT 2 (.ptr 2 [] 0 0 g2 1)) 3 (.ptr 3 [] 0 0 g3 2)) 5 (.int .i64 ((k : Int) + 1))) (fun _ => (noM.set 2 (.own 25 (some g2) 1 [.agg [.sl (p.map thrV)]])).set 3 (.own 28 (some g3) 1 [.agg [.sl (s.rd.map (V.int .i64)), .sl (s.ls.map (V.int .i64))]]))
  (fun k => k ≤ 3 ∧ (0 < k → s ∉ ordAll p 1) ∧ (1 < k → s ∉ ordAll p 2) ∧ (2 < k → s ∉ ordAll p 3)) (fun k => 3 - k) 0 (by simp) ?_ ?_
 ·(refine zB ?_; repeat (first | exact zC | exact zD | refine zE (by decide) ?_ | refine zF ?_ ?_ | refine zG ?_ ?_)) <;> (try simp (disch := omega) only [push_cast, go_sem, zA, simprocAttr])
 rintro k ⟨hk, n1, n2, n3⟩ J hJ
 refine Sat.of (S := [6]) (by kernel_rfl) ?_
 rcases Nat.lt_or_ge k 3 with hlt | hge
 ·have hh := ho ((k : Int) + 1)
  have hj := hi ((k : Int) + 1)
  have hle : (k : Int) + 1 ≤ 3 := by omega
  simp (disch := omega) only [push_cast, go_sem, zA, simprocAttr, hle]
  refine Sat.drawnE [] [] (List.range 5) (pureT [(28, .sl ((ordAll p ((k : Int) + 1)).map Sn.V)), (27, .bool (decide (s ∈ ordAll p ((k : Int) + 1))))]) (by kernel_rfl) (by kernel_rfl) ?_
  simp (disch := omega) only [push_cast, go_sem, zA, simprocAttr]
  refine runD_pure rfl hh rfl rfl ?_ ?_
  ·rfl
  simp (disch := omega) only [push_cast, go_sem, zA, simprocAttr]
  refine runD_pure rfl hj rfl rfl ?_ ?_
  ·rfl
  cases he : decide (s ∈ ordAll p ((k : Int) + 1))
  ·have hne := of_decide_eq_false he
   simp (disch := omega) only [push_cast, go_sem, zA, simprocAttr]
   refine hJ (k + 1) _ _ ⟨by omega, fun _ => ?_, fun h => ?_, fun h => ?_⟩ (by omega) ?_
   ·rcases Nat.eq_zero_or_pos k with rfl | h'
    ·exact hne
    ·exact n1 h'
   ·rcases Nat.lt_or_ge 1 k with h' | h'
    ·exact n2 h'
    ·have : k = 1 := by omega
     subst this; exact hne
   ·have : k = 2 := by omega
    subst this; exact hne
   ·(refine zB ?_; repeat (first | exact zC | exact zD | refine zE (by decide) ?_ | refine zF ?_ ?_ | refine zG ?_ ?_)) <;> (try simp (disch := omega) only [push_cast, go_sem, zA, simprocAttr])
  ·have hne := of_decide_eq_true he
   have hval : (if s ∈ ordAll p 1 then (1 : Int) else if s ∈ ordAll p 2 then 2 else if s ∈ ordAll p 3 then 3 else 0) = (k : Int) + 1 := by
    clear hh hj hJ
    rcases (by omega : k = 0 ∨ k = 1 ∨ k = 2) with rfl | rfl | rfl
    ·rw [if_pos (by simpa using hne)]; rfl
    ·rw [if_neg (n1 (by omega)), if_pos (by simpa using hne)]; rfl
    ·rw [if_neg (n1 (by omega)), if_neg (n2 (by omega)), if_pos (by simpa using hne)]; rfl
   simp (disch := omega) only [push_cast, go_sem, zA, simprocAttr]
   rw [hval]
 ·have hkl : k = 3 := by omega
  subst hkl
  simp (disch := omega) only [push_cast, go_sem, zA, simprocAttr]
  refine Sat.of (S := []) (by kernel_rfl) ?_
  simp (disch := omega) only [push_cast, go_sem, zA, simprocAttr]
  rw [if_neg (n1 (by omega)), if_neg (n2 (by omega)), if_neg (n3 (by omega))]
end
section
open Go.RowKit
theorem specWhyOrder_fn (p : Prog) (s : Sn) (hp : p.length < 2 ^ 40) (hs : s.small) : Fp Tryz.prog 35 [progV p, s.V] (.int .i64 (whyK p s)) := by
 have ho := fun k => specOrderAll_fn p k hp
 have hi := fun k => specSeenIn_fn (ordAll p k) s ord_small hs (by have := ord_len p k; omega)
 rw [progV_eq] at ho
 rw [Sn.V_eq] at hi
 rw [whyK]
 refine Fc.start (S := [6]) Tryz.func35 Tryz.ntmps35 Tryz.results35 rfl (by decide) rfl (by kernel_rfl) ?_
 simp (disch := omega) only [push_cast, go_sem, zA, simprocAttr, progV_eq, Sn.V_eq]
 intro g2 g3
 refine Sat.loop (σ := Nat) (fun k => upd (upd (upd noT 2 (.ptr 2 [] 0 0 g2 1)) 3 (.ptr 3 [] 0 0 g3 2)) 5 (.int .i64 ((k : Int) + 1))) (fun _ => (noM.set 2 (.own 25 (some g2) 1 [.agg [.sl (p.map thrV)]])).set 3 (.own 28 (some g3) 1 [.agg [.sl (s.rd.map (V.int .i64)), .sl (s.ls.map (V.int .i64))]]))
  (fun k => k ≤ 3 ∧ (0 < k → s ∉ ordAll p 1) ∧ (1 < k → s ∉ ordAll p 2) ∧ (2 < k → s ∉ ordAll p 3)) (fun k => 3 - k) 0 (by simp) ?_ ?_
 ·(refine zB ?_; repeat (first | exact zC | exact zD | refine zE (by decide) ?_ | refine zF ?_ ?_ | refine zG ?_ ?_)) <;> (try simp (disch := omega) only [push_cast, go_sem, zA, simprocAttr])
 rintro k ⟨hk, n1, n2, n3⟩ J hJ
 refine Sat.of (S := [6]) (by kernel_rfl) ?_
 rcases Nat.lt_or_ge k 3 with hlt | hge
 ·have hh := ho ((k : Int) + 1)
  have hj := hi ((k : Int) + 1)
  have hle : (k : Int) + 1 ≤ 3 := by omega
  simp (disch := omega) only [push_cast, go_sem, zA, simprocAttr, hle]
  refine Sat.drawnE [] [] (List.range 5) (pureT [(31, .sl ((ordAll p ((k : Int) + 1)).map Sn.V)), (69, .bool (decide (s ∈ ordAll p ((k : Int) + 1))))]) (by kernel_rfl) (by kernel_rfl) ?_
  simp (disch := omega) only [push_cast, go_sem, zA, simprocAttr]
  refine runD_pure rfl hh rfl rfl ?_ ?_
  ·rfl
  simp (disch := omega) only [push_cast, go_sem, zA, simprocAttr]
  refine runD_pure rfl hj rfl rfl ?_ ?_
  ·rfl
  cases he : decide (s ∈ ordAll p ((k : Int) + 1))
  ·have hne := of_decide_eq_false he
   simp (disch := omega) only [push_cast, go_sem, zA, simprocAttr]
   refine hJ (k + 1) _ _ ⟨by omega, fun _ => ?_, fun h => ?_, fun h => ?_⟩ (by omega) ?_
   ·rcases Nat.eq_zero_or_pos k with rfl | h'
    ·exact hne
    ·exact n1 h'
   ·rcases Nat.lt_or_ge 1 k with h' | h'
    ·exact n2 h'
    ·have : k = 1 := by omega
     subst this; exact hne
   ·have : k = 2 := by omega
    subst this; exact hne
   ·(refine zB ?_; repeat (first | exact zC | exact zD | refine zE (by decide) ?_ | refine zF ?_ ?_ | refine zG ?_ ?_)) <;> (try simp (disch := omega) only [push_cast, go_sem, zA, simprocAttr])
  ·have hne := of_decide_eq_true he
   have hval : (if s ∈ ordAll p 1 then (1 : Int) else if s ∈ ordAll p 2 then 2 else if s ∈ ordAll p 3 then 3 else 0) = (k : Int) + 1 := by
    clear hh hj hJ
    rcases (by omega : k = 0 ∨ k = 1 ∨ k = 2) with rfl | rfl | rfl
    ·rw [if_pos (by simpa using hne)]; rfl
    ·rw [if_neg (n1 (by omega)), if_pos (by simpa using hne)]; rfl
    ·rw [if_neg (n1 (by omega)), if_neg (n2 (by omega)), if_pos (by simpa using hne)]; rfl
   simp (disch := omega) only [push_cast, go_sem, zA, simprocAttr]
   rw [hval]
 ·have hkl : k = 3 := by omega
  subst hkl
  simp (disch := omega) only [push_cast, go_sem, zA, simprocAttr]
  refine Sat.of (S := []) (by kernel_rfl) ?_
  simp (disch := omega) only [push_cast, go_sem, zA, simprocAttr]
  rw [if_neg (n1 (by omega)), if_neg (n2 (by omega)), if_neg (n3 (by omega))]
theorem ord_late {p : Prog} {s : Sn} (h : s ∈ ordAll p 1) : s ∈ ordAll p 2 := by
 obtain ⟨h1, _, x, hx, hh, he⟩ := mem_ord.1 h
 exact mem_ord.2 ⟨h1, rfl, x, hx, holdsS_late hh, he⟩
theorem ord_loose {p : Prog} {s : Sn} (h : s ∈ ordAll p 2) : s ∈ ordAll p 3 := by
 obtain ⟨h1, _, x, hx, hh, he⟩ := mem_ord.1 h
 exact mem_ord.2 ⟨h1, rfl, x, hx, holdsS_loose hh, he⟩
end
section
open Go.RowKit
def DrawnY (r : V) : Prop := ∃ (p : Prog) (s : Sn), r = .tuple [progV p, s.V] ∧ p.length ≤ 3 ∧ (∀ l ∈ p, l.length < 2 ^ 11) ∧ s.small
theorem DrawWhyOrder_fn (bs : List Int) (hb : Code8 bs) (hl : bs.length < 2 ^ 40) : Fc Tryz.prog 33 [codeV bs] noM (fun r m => DrawnY r ∧ m = noM) := by
 refine Fc.start (S := []) Tryz.func33 Tryz.ntmps33 Tryz.results33 rfl (by decide) rfl (by kernel_rfl) ?_
 simp (disch := omega) only [push_cast, go_sem, zA, simprocAttr, codeV_eq]
 intro g2 g3
 refine callR.new (l6Open_fn bs hl) rfl rfl ?_
 rintro r ob ⟨g, rfl, rfl⟩
 simp (disch := omega) only [push_cast, go_sem, zA, simprocAttr]
 refine callR.rd (pick_rd (bs.take 2000) hb.take g 0 (by omega) 3 (by omega)) rfl rfl rfl ?_
 rintro r o' ⟨v, rfl, hv0, hv1, _, rfl⟩
 simp (disch := omega) only [push_cast, go_sem, zA, simprocAttr]
 refine callR.rd (l71Why_rd (bs.take 2000) hb.take g (0 + 1) (1 + v) (by omega)) rfl rfl rfl ?_
 rintro r o' ⟨⟨x, s, rfl, hx1, hx2, hs⟩, q, hq1, hq2, rfl⟩
 simp (disch := omega) only [push_cast, go_sem, zA, simprocAttr, progV_eq, Sn.V_eq]
 exact ⟨x, s, rfl, hx1, hx2, hs⟩
theorem whyK_at (p : Prog) (s : Sn) (k : Int) (h1 : 1 ≤ k) (h3 : k ≤ 3) : decide (s ∈ ordAll p k) = (decide (0 < whyK p s) && decide (whyK p s ≤ k)) := by
 have l1 := @ord_late p s
 have l2 := @ord_loose p s
 rw [whyK]
 by_cases m1 : s ∈ ordAll p 1
 ·have m2 := l1 m1
  have m3 := l2 m2
  rw [if_pos m1]
  rcases (by omega : k = 1 ∨ k = 2 ∨ k = 3) with rfl | rfl | rfl <;> simp [m1, m2, m3]
 ·rw [if_neg m1]
  by_cases m2 : s ∈ ordAll p 2
  ·have m3 := l2 m2
   rw [if_pos m2]
   rcases (by omega : k = 1 ∨ k = 2 ∨ k = 3) with rfl | rfl | rfl <;> simp [m1, m2, m3]
  ·rw [if_neg m2]
   by_cases m3 : s ∈ ordAll p 3
   ·rw [if_pos m3]
    rcases (by omega : k = 1 ∨ k = 2 ∨ k = 3) with rfl | rfl | rfl <;> simp [m1, m2, m3]
   ·rw [if_neg m3]
    rcases (by omega : k = 1 ∨ k = 2 ∨ k = 3) with rfl | rfl | rfl <;> simp [m1, m2, m3]
theorem lawWhyOrder_fn (bs : List Int) (hb : Code8 bs) : Fp Tryz.prog 8 [codeV bs] (.bool true) := by
 refine Fc.start (S := [12]) Tryz.func8 Tryz.ntmps8 Tryz.results8 rfl (by decide) rfl (by kernel_rfl) ?_
 by_cases h : (1048576 : Int) < bs.length
 ·simp (disch := omega) only [push_cast, go_sem, zA, simprocAttr, codeV_eq, h]
 simp (disch := omega) only [push_cast, go_sem, zA, simprocAttr, codeV_eq, h]
 refine callR.ex (DrawWhyOrder_fn bs hb (by omega)) rfl rfl ?_
 rintro r ⟨p, s, rfl, hp, hl, hs⟩
 have hl' : ∀ l ∈ p, l.length < 2 ^ 40 := fun l h => by have := hl l h; omega
 have h1 := implWhyOrder_fn p s (by omega) hl' hs
 have h2 := specWhyOrder_fn p s (by omega) hs
 have h3 := fun k => implOrderAll_fn p k (by omega) hl'
 simp only [ordI_eq] at h3
 have h4 := fun k => implSeenIn_fn (ordAll p k) s ord_small hs (by have := ord_len p k; omega)
 have hw := whyK_at p s
 obtain ⟨w, hww⟩ : ∃ w, whyK p s = w := ⟨_, rfl⟩
 rw [hww] at h1 h2
 simp only [hww] at hw
 have e0 : (w != w) = false := by simp
 rw [progV_eq, Sn.V_eq] at h1 h2
 rw [progV_eq] at h3
 rw [Sn.V_eq] at h4
 simp (disch := omega) only [push_cast, go_sem, zA, simprocAttr, progV_eq, Sn.V_eq]
 intro g3 g4
 refine callR.pure h1 rfl rfl ?_
 simp (disch := omega) only [push_cast, go_sem, zA, simprocAttr]
 refine callR.pure h2 rfl rfl ?_
 simp (disch := omega) only [push_cast, go_sem, zA, simprocAttr, e0]
 refine Sat.loop (σ := Nat) (fun k => upd (upd (upd (upd noT 3 (.ptr 3 [] 0 0 g3 1)) 4 (.ptr 4 [] 0 0 g4 2)) 5 (.int .i64 w)) 6 (.int .i64 ((k : Int) + 1))) (fun _ => (noM.set 3 (.own 25 (some g3) 1 [.agg [.sl (p.map thrV)]])).set 4 (.own 28 (some g4) 1 [.agg [.sl (s.rd.map (V.int .i64)), .sl (s.ls.map (V.int .i64))]]))
  (fun k => k ≤ 3) (fun k => 3 - k) 0 (by simp) ?_ ?_
 ·(refine zB ?_; repeat (first | exact zC | exact zD | refine zE (by decide) ?_ | refine zF ?_ ?_ | refine zG ?_ ?_)) <;> (try simp (disch := omega) only [push_cast, go_sem, zA, simprocAttr])
 rintro k hk J hJ
 refine Sat.of (S := [12]) (by kernel_rfl) ?_
 rcases Nat.lt_or_ge k 3 with hlt | hge
 ·have hle : (k : Int) + 1 ≤ 3 := by omega
  have h5 := h3 ((k : Int) + 1)
  have h6 := h4 ((k : Int) + 1)
  rw [hw _ (by omega) hle] at h6
  simp (disch := omega) only [push_cast, go_sem, zA, simprocAttr, hle]
  refine Sat.drawnE [] [] (List.range 13) (pureT [(28, .sl ((ordAll p ((k : Int) + 1)).map Sn.V)), (27, .bool (decide (0 < w) && decide (w ≤ (k : Int) + 1)))]) (by kernel_rfl) (by kernel_rfl) ?_
  simp (disch := omega) only [push_cast, go_sem, zA, simprocAttr]
  refine runD_pure rfl h5 rfl rfl ?_ ?_
  ·rfl
  simp (disch := omega) only [push_cast, go_sem, zA, simprocAttr]
  refine runD_pure rfl h6 rfl rfl ?_ ?_
  ·rfl
  by_cases c0 : 0 < w
  ·by_cases c1 : w ≤ (k : Int) + 1
   ·rw [decide_eq_true c0, decide_eq_true c1]
    simp (disch := omega) only [push_cast, go_sem, zA, simprocAttr, c0, c1]
    refine hJ (k + 1) _ _ (by omega) (by omega) ?_
    (refine zB ?_; repeat (first | exact zC | exact zD | refine zE (by decide) ?_ | refine zF ?_ ?_ | refine zG ?_ ?_)) <;> (try simp (disch := omega) only [push_cast, go_sem, zA, simprocAttr])
   ·rw [decide_eq_true c0, decide_eq_false c1]
    simp (disch := omega) only [push_cast, go_sem, zA, simprocAttr, c0, c1]
    refine hJ (k + 1) _ _ (by omega) (by omega) ?_
    (refine zB ?_; repeat (first | exact zC | exact zD | refine zE (by decide) ?_ | refine zF ?_ ?_ | refine zG ?_ ?_)) <;> (try simp (disch := omega) only [push_cast, go_sem, zA, simprocAttr])
  ·rw [decide_eq_false c0, Bool.false_and]
   simp (disch := omega) only [push_cast, go_sem, zA, simprocAttr, c0]
   refine hJ (k + 1) _ _ (by omega) (by omega) ?_
   (refine zB ?_; repeat (first | exact zC | exact zD | refine zE (by decide) ?_ | refine zF ?_ ?_ | refine zG ?_ ?_)) <;> (try simp (disch := omega) only [push_cast, go_sem, zA, simprocAttr])
 ·have hkl : k = 3 := by omega
  subst hkl
  simp (disch := omega) only [push_cast, go_sem, zA, simprocAttr]
  refine Sat.of (S := []) (by kernel_rfl) ?_
  simp (disch := omega) only [push_cast, go_sem, zA, simprocAttr]
theorem lawOrderSeen_fn (bs : List Int) (hb : Code8 bs) : Fp Tryz.prog 6 [codeV bs] (.bool true) := by
 refine Fc.start (S := []) Tryz.func6 Tryz.ntmps6 Tryz.results6 rfl (by decide) rfl (by kernel_rfl) ?_
 by_cases h : (1048576 : Int) < bs.length
 ·simp (disch := omega) only [push_cast, go_sem, zA, simprocAttr, codeV_eq, h]
 simp (disch := omega) only [push_cast, go_sem, zA, simprocAttr, codeV_eq, h]
 refine callR.ex (DrawOrderLine_fn bs hb (by omega)) rfl rfl ?_
 rintro r ⟨p, x, kind, rfl, hp, hl, hx⟩
 have hl' : ∀ l ∈ p, l.length < 2 ^ 40 := fun l h => by have := hl l h; omega
 have h1 := implOrderHolds_fn p x kind (by omega) hl' hx
 have h2 := specOrderHolds_fn p x kind (by omega) hx
 cases hv : holdsS p x kind
 ·rw [hv] at h1 h2
  rw [progV_eq, Exe.V_eq] at h1 h2
  simp (disch := omega) only [push_cast, go_sem, zA, simprocAttr, progV_eq, Exe.V_eq]
  intro g3 g4
  refine callR.pure h1 rfl rfl ?_
  simp (disch := omega) only [push_cast, go_sem, zA, simprocAttr]
  refine callR.pure h2 rfl rfl ?_
  simp (disch := omega) only [push_cast, go_sem, zA, simprocAttr]
  refine callR.pure h2 rfl rfl ?_
  simp (disch := omega) only [push_cast, go_sem, zA, simprocAttr]
 ·have hok : execOk p x = true := by
   have := hv
   simp only [holdsS, Bool.and_eq_true] at this
   rw [ok_eq]; exact this.1.1
  have hpk := (Way.of hok).ok
  have hk : inB kind 1 3 = true := by
   have := hv
   simp only [holdsS, Bool.and_eq_true] at this
   exact this.1.2
  have hin : seenF p x ∈ ordAll p kind := mem_ord.2 ⟨hpk, hk, x, by rw [← all_eq]; exact (mem_execAll p x).2 hok, hv, rfl⟩
  have hsm := rdK_small p x hok
  have h3 := implExecSeen_fn p x (by omega) hl' hx
  have h4 := implOrderAll_fn p kind (by omega) hl'
  have h5 := implSeenIn_fn (ordAll p kind) (seenF p x) ord_small hsm (by have := ord_len p kind; omega)
  rw [ordI_eq] at h4
  rw [exSeenV, hok, if_pos rfl] at h3
  rw [decide_eq_true hin] at h5
  rw [hv] at h1 h2
  rw [progV_eq, Exe.V_eq] at h1 h2
  rw [progV_eq, Exe.V_eq, Sn.V_eq] at h3
  rw [progV_eq] at h4
  rw [Sn.V_eq] at h5
  simp (disch := omega) only [push_cast, go_sem, zA, simprocAttr, progV_eq, Exe.V_eq]
  intro g3 g4
  refine callR.pure h1 rfl rfl ?_
  simp (disch := omega) only [push_cast, go_sem, zA, simprocAttr]
  refine callR.pure h2 rfl rfl ?_
  simp (disch := omega) only [push_cast, go_sem, zA, simprocAttr]
  refine callR.pure h3 rfl rfl ?_
  simp (disch := omega) only [push_cast, go_sem, zA, simprocAttr]
  intro g7
  refine Sat.drawnE [] [] (List.range 9) (pureT [(28, .sl ((ordAll p kind).map Sn.V)), (27, .bool true)]) (by kernel_rfl) (by kernel_rfl) ?_
  simp (disch := omega) only [push_cast, go_sem, zA, simprocAttr]
  refine runD_pure rfl h4 rfl rfl ?_ ?_
  ·rfl
  simp (disch := omega) only [push_cast, go_sem, zA, simprocAttr]
  refine runD_pure rfl h5 rfl rfl ?_ ?_
  ·rfl
  simp (disch := omega) only [push_cast, go_sem, zA, simprocAttr]
end
section
open Go.ChangeShapes Go.WideShapes Go.ChangeAt Go.RowKit
theorem own : ownKnob Tryz.prog.godebug = none := by kernel_rfl
theorem laidOut' : laidOutB Tryz.prog = true := by kernel_rfl
theorem cells8 : Tryz.prog.cellsOf 5 = 1 := by kernel_rfl
theorem code_rp {imm : Nat → Prop} {W : World} {b off len cap : Nat} {zs : List Int} (hlz : len ≤ zs.length) (hl : len ≤ cap) (hi : imm b) (hcell : ∀ i, i < zs.length → W.cell? ⟨b, off + i, none⟩ = some (.int .u8 (zs.getD i 0))) :
  Rp imm W (codeV (zs.take len)) (.slice (some ⟨b, off, none⟩) len cap) := by
 by_cases h0 : len = 0
 ·subst h0; exact .sl0 _ _
 have hc0 := hcell 0 (by omega)
 unfold World.cell? at hc0
 split at hc0
 ·rename_i cur t fr hg
  have hln : (zs.take len).length = len := by rw [List.length_take]; omega
  have e : ((zs.take len).map (V.int .u8)).length = len := by rw [List.length_map]; exact hln
  have get : ∀ (i : Nat) (x : V), ((zs.take len).map (V.int .u8))[i]? = some x → x = .int .u8 (zs.getD i 0) ∧ i < len := by
   intro i x hx
   have hlt : i < len := by have := (List.getElem?_eq_some_iff.1 hx).1; omega
   rw [List.getElem?_map, List.getElem?_take_of_lt hlt] at hx
   obtain ⟨y, hy, rfl⟩ := Option.map_eq_some_iff.1 hx
   exact ⟨by rw [List.getD, hy]; rfl, hlt⟩
  have := Rp.sl (imm := imm) (w := W) ((zs.take len).map (V.int .u8)) b off cap 1 cur t fr (fun i _ => .int .u8 (zs.getD i 0)) hi hg (by omega)
   (fun i x hx => by rw [(get i x hx).1]; rfl)
   (fun i x j c hx hc => by
    obtain ⟨rfl, hlt⟩ := get i x hx
    have hj : j = 0 := by
     cases j with
     | zero => rfl
     | succ j => simp [V.cells] at hc
    subst hj
    have := hcell i (by omega)
    unfold World.cell? at this
    simp only [hg] at this
    simpa using this)
   (fun i x j c hx hc => by
    obtain ⟨rfl, hlt⟩ := get i x hx
    have hj : j = 0 := by
     cases j with
     | zero => rfl
     | succ j => simp [V.cells] at hc
    subst hj
    simp [V.cells] at hc
    subst hc
    exact .int _ _)
  rw [e] at this
  exact this
 ·cases hc0
theorem law_calls {f : FuncId} {W : World} {x : V} {v : Value} {imm : Nat → Prop} (h : Fp Tryz.prog f [x] (.bool true)) (hG : Glob imm W) (hi : ∀ g, imm g → g < W.heap.size) (hx : Rp imm W x v) :
  Calls Tryz.prog f #[v] W fun e w' => e = .returned (.bool true) ∧ Below W.heap.size W w' := by
 refine (h.fn imm W #[v] hG inv_no hi rfl ?_).mono ?_
 ·intro j c u hj hu
  cases j with
  | zero => simp at hj hu; subst hj; subst hu; exact hx
  | succ j => simp at hj
 ·rintro e w' ⟨r, r', m, imm', rfl, ⟨rfl, rfl⟩, h3, h4⟩
  rw [h3.bool_inv]
  exact ⟨rfl, h4.os, h4.tape, h4.output, h4.size, fun k hk => (h4.block k hk not_owns_no).1⟩
end
section
open Go.ChangeShapes Go.WideShapes Go.ChangeAt Go.RowKit
theorem laid_tab {H : Type} : (Rows.laid_math_bits_deBruijn64tab : DataW H) = Lib.tabData .u8 (Lib.deBruijn64tab.map fun n : Nat => (n : Int)) := rfl
theorem tabs_of {W : World} {rest : List (String × DataW Unit)} (h : laidMet Tryz.prog (("math/bits.deBruijn64tab", Rows.laid_math_bits_deBruijn64tab) :: rest) W) : ∀ x ∈ globT, Tab x.1 x.2 W := by
 rw [laid_tab] at h
 intro x hx
 simp only [globT, List.mem_cons, List.not_mem_nil, or_false] at hx
 subst hx
 intro j hj
 have hT := Lib.tabIs_of_head (t := 165) (e := 5) (n := 64) (g := (globT.headD (0, [])).1) (by kernel_rfl) (by kernel_rfl) Tryz.underlying165 Tryz.underlying5 cells8 (by kernel_rfl) h
 have := hT.cell (g := (globT.headD (0, [])).1) (by kernel_rfl) j (by rw [List.length_map]; exact hj)
 have e : (Lib.deBruijn64tab.map fun n : Nat => (n : Int)).getD j 0 = ((Lib.deBruijn64tab.getD j 0 : Nat) : Int) := by
  simp only [List.getD, List.getElem?_map]
  cases Lib.deBruijn64tab[j]? <;> rfl
 rw [e] at this
 exact this
theorem glob_of {W : World} {imm : Nat → Prop} (hT : ∀ x ∈ globT, Tab x.1 x.2 W) (hi : ∀ x ∈ globT, imm x.1) : Glob imm W := fun x hx => ⟨hi x hx, hT x hx⟩
theorem glob_lt {W : World} (hT : ∀ x ∈ globT, Tab x.1 x.2 W) : ∀ x ∈ globT, x.1 < W.heap.size := by
 intro x hx
 have h := hT x hx
 simp only [globT, List.mem_cons, List.not_mem_nil, or_false] at hx
 subst hx
 have := h 0 (by decide)
 unfold World.cell? at this
 split at this
 ·rename_i hh; exact (Array.getElem?_eq_some_iff.1 hh).1
 ·cases this
end
end Go.Proofs.YtfbgabkcjjahiaaGreatDoor
