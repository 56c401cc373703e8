/-
 Contracts and plain laws.
-/
import Derived.Test.YtkdolbffabmemaaGreatDoorJa
import Derived.Test.YtkdolbffabmemaaGreatDoorJf
import Derived.Test.YtkdolbffabmemaaGreatDoorJk
import Derived.Test.YtkdolbffabmemaaGreatDoorRows
import Derived.ProofKit
import Derived.OpenShut
import Derived.ChangeSlices
import Derived.JoinedOf
import Derived.JoinedAt
import Derived.Deep.DeepHandedRow
import Derived.Lib.LaidTab
import Derived.Test.YtkdolbffabmemaaGreatDoorCards
import Derived.Test.YtkdolbffabmemaaGreatDoorTie
set_option linter.unusedSimpArgs false
set_option linter.unusedVariables false
set_option linter.unusedSectionVars false
namespace Go.Proofs.YtkdolbffabmemaaGreatDoor
section
open Go.RowKit
def kindB (k : Int) (p : Prog) : Bool := p.any fun l => l.any fun d => d.k == k
theorem kindB_no {k : Int} {p : Prog} (h : kindB k p = false) : ∀ l ∈ p, ∀ d ∈ l, d.k ≠ k := by
 intro l hl d hd e
 have : kindB k p = true := List.any_eq_true.2 ⟨l, hl, List.any_eq_true.2 ⟨d, hd, by simpa using e⟩⟩
 rw [h] at this; cases this
theorem lpReaders_fn (p : Prog) (hp : p.length < 2 ^ 40) (hls : ∀ l ∈ p, l.length < 2 ^ 40) : Fp Tryz.prog 24 [progV p] (.bool (kindB 7 p)) := by
 refine Fc.start (S := []) Tryz.func24 Tryz.ntmps24 Tryz.results24 rfl (by decide) rfl (by kernel_rfl) ?_
 simp (disch := omega) only [push_cast, go_sem, zA, simprocAttr, progV_eq]
 intro g1
 refine Sat.loop (σ := Nat) (fun i => upd (upd noT 1 (.ptr 1 [] 0 0 g1 1)) 3 (.int .i64 i)) (fun _ => noM.set 1 (.own 25 (some g1) 1 [.agg [.sl (p.map thrV)]]))
  (fun i => i ≤ p.length ∧ kindB 7 (p.take i) = false) (fun i => p.length - i) 0 ⟨by omega, rfl⟩ ?_ ?_
 ·(refine zB ?_; repeat (first | exact zC | exact zD | refine zE (by decide) ?_ | refine zF ?_ ?_ | refine zG ?_ ?_)) <;> (try simp (disch := omega) only [push_cast, go_sem, zA, simprocAttr])
 rintro i ⟨hi, hno⟩ J hJ
 refine Sat.of (S := []) (by kernel_rfl) ?_
 rcases Nat.lt_or_ge i p.length with hlt | hge
 ·obtain ⟨l, hl⟩ : ∃ l, p[i]? = some l := ⟨_, List.getElem?_eq_getElem hlt⟩
  have htk := take_get hl
  have hll := hls l (List.mem_of_getElem? hl)
  simp (disch := omega) only [push_cast, go_sem, zA, simprocAttr, hlt]
  refine Sat.loop (σ := Nat) (fun k => upd (upd (upd noT 1 (.ptr 1 [] 0 0 g1 1)) 3 (.int .i64 i)) 4 (.int .i64 k)) (fun _ => noM.set 1 (.own 25 (some g1) 1 [.agg [.sl (p.map thrV)]]))
   (fun k => k ≤ l.length ∧ (l.take k).any (fun d => d.k == 7) = false) (fun k => l.length - k) 0 ⟨by omega, rfl⟩ ?_ ?_
  ·(refine zB ?_; repeat (first | exact zC | exact zD | refine zE (by decide) ?_ | refine zF ?_ ?_ | refine zG ?_ ?_)) <;> (try simp (disch := omega) only [push_cast, go_sem, zA, simprocAttr])
  rintro k ⟨hk, hnk⟩ J2 hJ2
  refine Sat.of (S := []) (by kernel_rfl) ?_
  rcases Nat.lt_or_ge k l.length with hlt2 | hge2
  ·obtain ⟨d, hd⟩ : ∃ d, l[k]? = some d := ⟨_, List.getElem?_eq_getElem hlt2⟩
   have htl := take_get hd
   cases h9 : (d.k == 7)
   ·simp (disch := omega) only [push_cast, go_sem, zA, simprocAttr, hlt, hlt2, hl, hd, thrV_eq, Do.V_eq, h9]
    refine hJ2 (k + 1) _ _ ⟨by omega, by rw [htl, List.any_append, hnk]; simp [h9]⟩ (by omega) ?_
    (refine zB ?_; repeat (first | exact zC | exact zD | refine zE (by decide) ?_ | refine zF ?_ ?_ | refine zG ?_ ?_)) <;> (try simp (disch := omega) only [push_cast, go_sem, zA, simprocAttr])
   ·simp (disch := omega) only [push_cast, go_sem, zA, simprocAttr, hlt, hlt2, hl, hd, thrV_eq, Do.V_eq, h9]
    have : kindB 7 p = true := by
     rw [kindB, List.any_eq_true]
     exact ⟨l, List.mem_of_getElem? hl, List.any_eq_true.2 ⟨d, List.mem_of_getElem? hd, h9⟩⟩
    rw [this]
  ·have : k = l.length := by omega
   subst this
   simp (disch := omega) only [push_cast, go_sem, zA, simprocAttr, hlt, hl, thrV_eq]
   refine hJ (i + 1) _ _ ⟨by omega, ?_⟩ (by omega) ?_
   ·rw [List.take_length] at hnk
    rw [htk, kindB, List.any_append]
    rw [kindB] at hno
    rw [hno]; simp [hnk]
   ·(refine zB ?_; repeat (first | exact zC | exact zD | refine zE (by decide) ?_ | refine zF ?_ ?_ | refine zG ?_ ?_)) <;> (try simp (disch := omega) only [push_cast, go_sem, zA, simprocAttr])
 ·have : i = p.length := by omega
  subst this
  rw [List.take_length] at hno
  simp (disch := omega) only [push_cast, go_sem, zA, simprocAttr]
  rw [hno]
end
section
open Go.RowKit
theorem net_wall {p : Prog} {x : Exe} {k : Int} (hk : inB k 1 3 = true) {a b : Nat} (ho : ownB (events p) a b = true) (hw : wallB (dsA p a) = true ∨ wallB (dsA p b) = true) : netR p x k a b = true := by
 have nouse : ∀ d : Do, wallB d = true → d.writes = false ∧ d.reads = false := by
  intro d h
  simp only [wallB, Bool.or_eq_true, beq_iff_eq] at h
  rcases h with h | h <;> simp [Do.writes, Do.reads, h]
 rw [netR, Bool.or_eq_true]
 left
 have hk' : k = 1 ∨ k = 2 ∨ k = 3 := by simp [inB] at hk; omega
 rcases hk' with rfl | rfl | rfl
 ·exact ho
 ·show (ownB (events p) a b && !((dsA p a).writes && (dsA p b).reads)) = true
  rw [ho]
  rcases hw with h | h
  ·rw [(nouse _ h).1]; rfl
  ·rw [(nouse _ h).2]; simp
 ·show looseS p a b = true
  rw [looseS, ho]
  rcases hw with h | h <;> simp [h]
section
variable {A B : List Fra} {p q : Prog} {t : Int} {d : Do}
def wwF (n i : Nat) : Nat := if i ≤ n then i else i + 1
theorem ww_old (hp : evF 0 p = A ++ ⟨t, d, false⟩ :: B) (hq : evF 0 q = A ++ ⟨t, ⟨9, d.p, d.v⟩, false⟩ :: ⟨t, ⟨9, d.p, d.v⟩, true⟩ :: B) (hd : d.k = 4) {i : Nat} {x : Fra} (h : (evF 0 p)[i]? = some x) :
  ∃ y, (evF 0 q)[wwF A.length i]? = some y ∧ Alk x y ∧ KLe x y ∧ KLe y x ∧ y.t = x.t := by
 rw [hp] at h
 rw [hq, wwF]
 rcases Nat.lt_trichotomy i A.length with h1 | h1 | h1
 ·rw [if_pos (by omega), List.getElem?_append_left h1]
  rw [List.getElem?_append_left h1] at h
  exact ⟨x, h, Alk.refl x, KLe.refl x, KLe.refl x, rfl⟩
 ·rw [if_pos (by omega), List.getElem?_append_right (by omega), h1, Nat.sub_self]
  rw [List.getElem?_append_right (by omega), h1, Nat.sub_self] at h
  simp at h
  subst h
  refine ⟨_, rfl, ⟨rfl, rfl, ⟨?_, ?_, rfl, rfl, ?_⟩, ?_, ?_⟩, ⟨?_, ?_, ?_⟩, ⟨?_, ?_, ?_⟩, rfl⟩ <;> simp [Do.reads, Do.writes, wallB, hd]
 ·rw [if_neg (by omega)]
  obtain ⟨m, hm⟩ : ∃ m, i - A.length = m + 1 := ⟨i - A.length - 1, by omega⟩
  rw [List.getElem?_append_right (by omega), hm, List.getElem?_cons_succ] at h
  rw [List.getElem?_append_right (by omega), show i + 1 - A.length = m + 1 + 1 by omega, List.getElem?_cons_succ, List.getElem?_cons_succ]
  exact ⟨x, h, Alk.refl x, KLe.refl x, KLe.refl x, rfl⟩
theorem ww_cases (hp : evF 0 p = A ++ ⟨t, d, false⟩ :: B) (hq : evF 0 q = A ++ ⟨t, ⟨9, d.p, d.v⟩, false⟩ :: ⟨t, ⟨9, d.p, d.v⟩, true⟩ :: B) {j : Nat} {y : Fra} (h : (evF 0 q)[j]? = some y) :
  (∃ i, i < (evF 0 p).length ∧ wwF A.length i = j) ∨ (j = A.length + 1 ∧ y = ⟨t, ⟨9, d.p, d.v⟩, true⟩) := by
 have hj := (List.getElem?_eq_some_iff.1 h).1
 rw [hq] at h hj
 rw [hp]
 simp only [List.length_append, List.length_cons] at hj ⊢
 rcases Nat.lt_trichotomy j (A.length + 1) with h1 | h1 | h1
 ·exact .inl ⟨j, by omega, by rw [wwF, if_pos (by omega)]⟩
 ·right
  rw [List.getElem?_append_right (by omega), h1, show A.length + 1 - A.length = 0 + 1 by omega, List.getElem?_cons_succ] at h
  simp at h
  exact ⟨h1, h.symm⟩
 ·exact .inl ⟨j - 1, by omega, by rw [wwF, if_neg (by omega)]; omega⟩
theorem ww_ord (okp : progOk p = true) (okq : progOk q = true) (hp : evF 0 p = A ++ ⟨t, d, false⟩ :: B) (hq : evF 0 q = A ++ ⟨t, ⟨9, d.p, d.v⟩, false⟩ :: ⟨t, ⟨9, d.p, d.v⟩, true⟩ :: B) (hd : d.k = 4)
  (hr : ∀ l ∈ p, ∀ d ∈ l, d.k ≠ 7) (k : Int) : ordAll q k = ordAll p k := by
 have h : PE p q (wwF A.length) := by
  refine PE.of okp okq (fun i j h _ => ?_) (fun i x hx => by obtain ⟨y, h1, h2, _⟩ := ww_old hp hq hd hx; exact ⟨y, h1, h2⟩) (fun j y hy hn hr => ?_) (fun j y hy hn hk => ?_) (fun j y hy hn => ?_)
  ·simp only [wwF]
   split <;> split <;> omega
  ·rcases ww_cases hp hq hy with h | ⟨_, rfl⟩
   ·exact absurd h hn
   ·simp [Do.reads] at hr
  ·rcases ww_cases hp hq hy with h | ⟨_, rfl⟩
   ·exact absurd h hn
   ·dsimp only at hk; omega
  ·rcases ww_cases hp hq hy with h | ⟨_, rfl⟩
   ·exact absurd h hn
   ·exact .inr rfl
 have pek : PEk p q (wwF A.length) := PEk.of fun i x hx => by obtain ⟨y, h1, _, h2, _⟩ := ww_old hp hq hd hx; exact ⟨y, h1, h2⟩
 have pek' : PEk' p q (wwF A.length) := PEk'.of fun i x hx => by obtain ⟨y, h1, _, _, h2, _⟩ := ww_old hp hq hd hx; exact ⟨y, h1, h2⟩
 have new : ∀ j, j < (events q).length → (∃ i, i < (events p).length ∧ wwF A.length i = j) ∨ (j = A.length + 1 ∧ th (events q) j = t ∧ (dsA q j).uses = false) := by
  intro j hj
  obtain ⟨y, hy⟩ := F_at hj
  rcases ww_cases hp hq hy with h1 | ⟨h1, rfl⟩
  ·rw [evF_len] at h1; exact .inl h1
  ·exact .inr ⟨h1, (F_get hy).2.2.1, by rw [(F_get hy).2.2.2.2.1]; simp [Do.uses, Do.reads, Do.writes]⟩
 have hnu : ∀ j, j < (events q).length → (∃ i, i < (events p).length ∧ wwF A.length i = j) ∨ (dsA q j).uses = false := fun j hj => (new j hj).imp id fun h => h.2.2
 have hw : (evF 0 p)[A.length]? = some ⟨t, d, false⟩ := by rw [hp, List.getElem?_append_right (Nat.le_refl _), Nat.sub_self]; rfl
 have noin : ∀ e i, ¬ WtIn q e i := by
  intro e i hwi
  have h7 := hwi.k7
  rcases new i hwi.il with ⟨i', hi, rfl⟩ | ⟨rfl, _, _⟩
  ·have := (h.k7 i' hi).1 h7
   obtain ⟨l, h1, h2⟩ := dsA_mem hi
   exact hr l h1 _ h2 this
  ·obtain ⟨y, hy⟩ := F_at hwi.il
   have : (evF 0 q)[A.length + 1]? = some ⟨t, ⟨9, d.p, d.v⟩, true⟩ := by
    rw [hq, List.getElem?_append_right (by omega), show A.length + 1 - A.length = 0 + 1 by omega, List.getElem?_cons_succ]; rfl
   rw [(F_get this).2.2.2.2.2] at h7
   dsimp only at h7
   omega
 have tht : ∀ a, a < (events p).length → th (events q) (wwF A.length a) = th (events p) a := by
  intro a ha
  obtain ⟨x, hx⟩ := F_at ha
  obtain ⟨y, h1, _, _, _, h2⟩ := ww_old hp hq hd hx
  rw [(F_get h1).2.2.1, (F_get hx).2.2.1, h2]
 refine ord_ext fun s => ⟨within_of h pek hnu, fun hs => ?_⟩
 have hk := (mem_ordW.1 hs).2.1
 refine more_of h hnu hk (fun x y hx hy m hh => ?_) hs
 refine Hld.walls h m hx (fun e i hwi => absurd hwi (noin e i)) hnu (fun a b ha hb hR => h.net_ge pek' m hx ha hb hR) (fun r hr a v b ha hb hv hnv o1 o2 => ?_) hh
 obtain ⟨hv1, hv2, _⟩ := (new v hv).resolve_left hnv
 subst hv1
 obtain ⟨o1a, o1b⟩ := own_iff.1 o1
 obtain ⟨o2a, o2b⟩ := own_iff.1 o2
 rw [hv2, tht a ha] at o1b
 rw [hv2, tht b hb] at o2b
 have hwl := (F_get hw).1
 have hwt := (F_get hw).2.2.1
 have hww : wallB (dsA p A.length) = true := by rw [(F_get hw).2.2.2.2.1]; simp [wallB, hd]
 have ea : a ≤ A.length := by
  rw [wwF] at o1a
  split at o1a <;> omega
 have eb : A.length < b := by
  rw [wwF] at o2a
  split at o2a <;> omega
 have n2 := hr A.length b hwl hb (net_wall hk (own_iff.2 ⟨eb, by rw [hwt, o2b]⟩) (.inl hww))
 rcases Nat.lt_or_ge a A.length with h1 | h1
 ·have n1 := hr a A.length ha hwl (net_wall hk (own_iff.2 ⟨h1, by rw [hwt, o1b]⟩) (.inr hww))
  omega
 ·have : a = A.length := by omega
  rw [this]; exact n2
end
theorem ww_frames {p1 p2 : Prog} {l1 l2 : List Do} {d : Do} (hd : d.k = 4) : ∃ A B, evF 0 (p1 ++ (l1 ++ d :: l2) :: p2) = A ++ ⟨p1.length, d, false⟩ :: B ∧ evF 0 (p1 ++ (l1 ++ ⟨9, d.p, d.v⟩ :: l2) :: p2) = A ++ ⟨p1.length, ⟨9, d.p, d.v⟩, false⟩ :: ⟨p1.length, ⟨9, d.p, d.v⟩, true⟩ :: B := by
 refine ⟨evF 0 p1 ++ thF p1.length l1, thF p1.length l2 ++ evF (p1.length + 1) p2, swap_F (by omega), ?_⟩
 rw [evF_app, evF, thF_app, thF_cons, stF]
 simp
theorem lawOrderWaitWall_fn (bs ms : List Int) (hb : Code8 bs) : Fp Tryz.prog 9 [codeV bs, codeV ms] (.bool true) := by
 refine Fc.start (S := []) Tryz.func9 Tryz.ntmps9 Tryz.results9 rfl (by decide) rfl (by kernel_rfl) ?_
 by_cases h : (1048576 : Int) < bs.length
 ·simp (disch := omega) only [push_cast, go_sem, zA, simprocAttr, codeV_eq, h]
 by_cases h' : (1048576 : Int) < ms.length
 ·simp (disch := omega) only [push_cast, go_sem, zA, simprocAttr, codeV_eq, h, h']
 simp (disch := omega) only [push_cast, go_sem, zA, simprocAttr, codeV_eq, h, h']
 refine callR.ex (DrawOrderAll_fn bs hb (by omega)) rfl rfl ?_
 rintro r ⟨p, kind, rfl, hp, hl⟩
 have hl' : ∀ l ∈ p, l.length < 2 ^ 40 := fun l h => by have := hl l h; omega
 have hn := fun p k => (show (ordAll p k).length < 2 ^ 40 by have := ord_len p k; omega)
 have h1 := implOrderAll_fn p kind (by omega) hl'
 have h2 := specOrderAll_fn p kind (by omega)
 rw [ordI_eq] at h1
 have h3 := lpList_fn (ordAll p kind) (ordAll p kind) ord_small ord_small (hn _ _) (hn _ _)
 rw [decide_eq_true rfl] at h3
 have hok := specProgOk_fn p (by omega)
 have hrd := lpReaders_fn p (by omega) hl'
 have h4 := lpSwap_fn p 4 9 ms.length (by omega) hl (by omega) (by omega)
 obtain ⟨q1, q2⟩ := swR_len (k := 4) (to := 9) (n := ms.length) (by omega) hp hl
 rw [progV_eq] at h1 h2 hok hrd
 rw [progV_eq, progV_eq] at h4
 simp (disch := omega) only [push_cast, go_sem, zA, simprocAttr, progV_eq]
 intro g3
 refine callR.pure h1 rfl rfl ?_
 simp (disch := omega) only [push_cast, go_sem, zA, simprocAttr]
 refine callR.pure h2 rfl rfl ?_
 simp (disch := omega) only [push_cast, go_sem, zA, simprocAttr]
 refine callR.pure h3 rfl rfl ?_
 simp (disch := omega) only [push_cast, go_sem, zA, simprocAttr]
 refine callR.pure hok rfl rfl ?_
 cases hpo : progOk p
 ·simp (disch := omega) only [push_cast, go_sem, zA, simprocAttr]
  refine callR.pure h2 rfl rfl ?_
  simp (disch := omega) only [push_cast, go_sem, zA, simprocAttr]
  refine callR.pure h3 rfl rfl ?_
  simp (disch := omega) only [push_cast, go_sem, zA, simprocAttr]
 simp (disch := omega) only [push_cast, go_sem, zA, simprocAttr]
 refine callR.pure hrd rfl rfl ?_
 cases hrp : kindB 7 p
 rotate_left
 ·simp (disch := omega) only [push_cast, go_sem, zA, simprocAttr]
  refine callR.pure h2 rfl rfl ?_
  simp (disch := omega) only [push_cast, go_sem, zA, simprocAttr]
  refine callR.pure h3 rfl rfl ?_
  simp (disch := omega) only [push_cast, go_sem, zA, simprocAttr]
 simp (disch := omega) only [push_cast, go_sem, zA, simprocAttr]
 refine callR.pure h4 rfl rfl ?_
 cases hq : (swR p 4 9 ms.length).2
 ·simp (disch := omega) only [push_cast, go_sem, zA, simprocAttr]
 have heq : ordAll (swR p 4 9 ms.length).1 kind = ordAll p kind := by
  obtain ⟨p1, l1, d, l2, p2, e1, e2, e3, e4⟩ := swR_split (by omega) hq
  obtain ⟨A, B, f1, f2⟩ := ww_frames (p1 := p1) (p2 := p2) (l1 := l1) (l2 := l2) e2
  rw [← e1] at f1
  rw [← e3] at f2
  exact ww_ord hpo e4 f1 f2 e2 (kindB_no hrp) kind
 have h5 := implOrderAll_fn (swR p 4 9 ms.length).1 kind (by omega) (fun l h => by have := q2 l h; omega)
 rw [ordI_eq, heq, progV_eq] at h5
 simp (disch := omega) only [push_cast, go_sem, zA, simprocAttr]
 intro g8
 refine callR.pure h5 rfl rfl ?_
 simp (disch := omega) only [push_cast, go_sem, zA, simprocAttr]
 refine callR.pure h3 rfl rfl ?_
 simp (disch := omega) only [push_cast, go_sem, zA, simprocAttr]
end
section
open Go.ChangeShapes Go.WideShapes Go.ChangeAt Go.RowKit
theorem own : ownKnob Tryz.prog.godebug = none := by kernel_rfl
theorem laidOut' : laidOutB Tryz.prog = true := by kernel_rfl
theorem cells8 : Tryz.prog.cellsOf 5 = 1 := by kernel_rfl
theorem code_rp {imm : Nat → Prop} {W : World} {b off len cap : Nat} {zs : List Int} (hlz : len ≤ zs.length) (hl : len ≤ cap) (hi : imm b) (hcell : ∀ i, i < zs.length → W.cell? ⟨b, off + i, none⟩ = some (.int .u8 (zs.getD i 0))) :
  Rp imm W (codeV (zs.take len)) (.slice (some ⟨b, off, none⟩) len cap) := by
 by_cases h0 : len = 0
 ·subst h0; exact .sl0 _ _
 have hc0 := hcell 0 (by omega)
 unfold World.cell? at hc0
 split at hc0
 ·rename_i cur t fr hg
  have hln : (zs.take len).length = len := by rw [List.length_take]; omega
  have e : ((zs.take len).map (V.int .u8)).length = len := by rw [List.length_map]; exact hln
  have get : ∀ (i : Nat) (x : V), ((zs.take len).map (V.int .u8))[i]? = some x → x = .int .u8 (zs.getD i 0) ∧ i < len := by
   intro i x hx
   have hlt : i < len := by have := (List.getElem?_eq_some_iff.1 hx).1; omega
   rw [List.getElem?_map, List.getElem?_take_of_lt hlt] at hx
   obtain ⟨y, hy, rfl⟩ := Option.map_eq_some_iff.1 hx
   exact ⟨by rw [List.getD, hy]; rfl, hlt⟩
  have := Rp.sl (imm := imm) (w := W) ((zs.take len).map (V.int .u8)) b off cap 1 cur t fr (fun i _ => .int .u8 (zs.getD i 0)) hi hg (by omega)
   (fun i x hx => by rw [(get i x hx).1]; rfl)
   (fun i x j c hx hc => by
    obtain ⟨rfl, hlt⟩ := get i x hx
    have hj : j = 0 := by
     cases j with
     | zero => rfl
     | succ j => simp [V.cells] at hc
    subst hj
    have := hcell i (by omega)
    unfold World.cell? at this
    simp only [hg] at this
    simpa using this)
   (fun i x j c hx hc => by
    obtain ⟨rfl, hlt⟩ := get i x hx
    have hj : j = 0 := by
     cases j with
     | zero => rfl
     | succ j => simp [V.cells] at hc
    subst hj
    simp [V.cells] at hc
    subst hc
    exact .int _ _)
  rw [e] at this
  exact this
 ·cases hc0
end
section
open Go.ChangeShapes Go.WideShapes Go.ChangeAt Go.RowKit
theorem laid_tab {H : Type} : (Rows.laid_math_bits_deBruijn64tab : DataW H) = Lib.tabData .u8 (Lib.deBruijn64tab.map fun n : Nat => (n : Int)) := rfl
theorem tabs_of {W : World} {rest : List (String × DataW Unit)} (h : laidMet Tryz.prog (("math/bits.deBruijn64tab", Rows.laid_math_bits_deBruijn64tab) :: rest) W) : ∀ x ∈ globT, Tab x.1 x.2 W := by
 rw [laid_tab] at h
 intro x hx
 simp only [globT, List.mem_cons, List.not_mem_nil, or_false] at hx
 subst hx
 intro j hj
 have hT := Lib.tabIs_of_head (t := 168) (e := 5) (n := 64) (g := (globT.headD (0, [])).1) (by kernel_rfl) (by kernel_rfl) Tryz.underlying168 Tryz.underlying5 cells8 (by kernel_rfl) h
 have := hT.cell (g := (globT.headD (0, [])).1) (by kernel_rfl) j (by rw [List.length_map]; exact hj)
 have e : (Lib.deBruijn64tab.map fun n : Nat => (n : Int)).getD j 0 = ((Lib.deBruijn64tab.getD j 0 : Nat) : Int) := by
  simp only [List.getD, List.getElem?_map]
  cases Lib.deBruijn64tab[j]? <;> rfl
 rw [e] at this
 exact this
theorem glob_of {W : World} {imm : Nat → Prop} (hT : ∀ x ∈ globT, Tab x.1 x.2 W) (hi : ∀ x ∈ globT, imm x.1) : Glob imm W := fun x hx => ⟨hi x hx, hT x hx⟩
theorem glob_lt {W : World} (hT : ∀ x ∈ globT, Tab x.1 x.2 W) : ∀ x ∈ globT, x.1 < W.heap.size := by
 intro x hx
 have h := hT x hx
 simp only [globT, List.mem_cons, List.not_mem_nil, or_false] at hx
 subst hx
 have := h 0 (by decide)
 unfold World.cell? at this
 split at this
 ·rename_i hh; exact (Array.getElem?_eq_some_iff.1 hh).1
 ·cases this
end
section
open Go.ChangeShapes Go.WideShapes Go.ChangeAt Go.RowKit
theorem code_of {H : Type} {enc : TypeId × Value → H} {W : World} {a0 : Option Addr} {len cap : Nat} {d0 : DataW H} {p0 : List MemPlace} (h0 : DataW.Trod enc Tryz.prog W 0 (fun _ => true) true 22 (.slice a0 len cap) d0 p0) :
  ∃ bs : List Int, Code8 bs ∧ ∃ g : Option Nat, (∀ b, g = some b → b < W.heap.size) ∧ ∀ imm : Nat → Prop, (∀ b, g = some b → imm b) → Rp imm W (codeV bs) (.slice a0 len cap) := by
 obtain ⟨fuel, hf⟩ := h0
 rcases open_ints Tryz.underlying22 Tryz.underlying5 cells8 hf with ⟨hcs, hx⟩ | ⟨a, len', cap', zs, hcs, _, hl, hm, hz, hx, hcell, hwz⟩
 ·simp [Value.cells] at hcs
  obtain ⟨rfl, rfl, rfl⟩ := hcs
  exact ⟨[], (fun b hb => by cases hb), none, (fun b hb => by cases hb), (fun imm _ => .sl0 _ _)⟩
 ·simp [Value.cells] at hcs
  obtain ⟨rfl, rfl, rfl⟩ := hcs
  simp only [if_true] at hz
  have hc8 : Code8 (zs.take len) := by
   intro n hn
   have := hwz n (List.mem_of_mem_take hn)
   simp [Lit.wf, IntKind.min, IntKind.max, IntKind.signed, IntKind.bits] at this
   omega
  by_cases hl0 : len = 0
  ·subst hl0
   exact ⟨[], (fun b hb => by cases hb), none, (fun b hb => by cases hb), (fun imm _ => .sl0 _ _)⟩
  ·obtain ⟨b, off, spot⟩ := a
   have hspot : spot = none := by simpa [Addr.add] using World.cell?_spot (hcell 0 (by omega))
   subst hspot
   refine ⟨zs.take len, hc8, some b, fun b' hb => ?_, fun imm hi => code_rp (by omega) hl (hi b rfl) fun i hi => by rw [← add_plain]; exact hcell i hi⟩
   cases hb
   have := hcell 0 (by omega)
   rw [add_plain] at this
   unfold World.cell? at this
   split at this
   ·rename_i hh; exact (Array.getElem?_eq_some_iff.1 hh).1
   ·cases this
theorem law_calls2 {f : FuncId} {W : World} {x y : V} {v u : Value} {imm : Nat → Prop} (h : Fp Tryz.prog f [x, y] (.bool true)) (hG : Glob imm W) (hi : ∀ g, imm g → g < W.heap.size) (hx : Rp imm W x v) (hy : Rp imm W y u) (hk : x.key = none ∧ y.key = none) :
  Calls Tryz.prog f #[v, u] W fun e w' => e = .returned (.bool true) ∧ Below W.heap.size W w' := by
 refine (h.fn imm W #[v, u] hG inv_no hi rfl ?_).mono ?_
 ·intro j c w hj hu
  match j with
  | 0 => simp at hj hu; subst hj; subst hu; exact hx
  | 1 => simp at hj hu; subst hj; subst hu; exact hy
  | j + 2 => simp at hj
 ·rintro e w' ⟨r, r', m, imm', rfl, ⟨rfl, rfl⟩, h3, h4⟩
  rw [h3.bool_inv]
  exact ⟨rfl, h4.os, h4.tape, h4.output, h4.size, fun k hk => (h4.block k hk not_owns_no).1⟩
end
end Go.Proofs.YtkdolbffabmemaaGreatDoor
