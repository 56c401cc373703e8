/-
 Contracts and plain laws.
-/
import Derived.Test.YtkdolbffabmemaaGreatDoorIa
import Derived.Test.YtkdolbffabmemaaGreatDoorIf
import Derived.Test.YtkdolbffabmemaaGreatDoorIk
import Derived.Test.YtkdolbffabmemaaGreatDoorRows
import Derived.ProofKit
import Derived.OpenShut
import Derived.ChangeSlices
import Derived.JoinedOf
import Derived.JoinedAt
import Derived.Deep.DeepHandedRow
import Derived.Lib.LaidTab
import Derived.Test.YtkdolbffabmemaaGreatDoorCards
import Derived.Test.YtkdolbffabmemaaGreatDoorTie
set_option linter.unusedSimpArgs false
set_option linter.unusedVariables false
set_option linter.unusedSectionVars false
namespace Go.Proofs.YtkdolbffabmemaaGreatDoor
section
open Go.RowKit
def kindB (k : Int) (p : Prog) : Bool := p.any fun l => l.any fun d => d.k == k
theorem kindB_no {k : Int} {p : Prog} (h : kindB k p = false) : ∀ l ∈ p, ∀ d ∈ l, d.k ≠ k := by
 intro l hl d hd e
 have : kindB k p = true := List.any_eq_true.2 ⟨l, hl, List.any_eq_true.2 ⟨d, hd, by simpa using e⟩⟩
 rw [h] at this; cases this
theorem lpWaits_fn (p : Prog) (hp : p.length < 2 ^ 40) (hls : ∀ l ∈ p, l.length < 2 ^ 40) : Fp Tryz.prog 21 [progV p] (.bool (kindB 9 p)) := by
 refine Fc.start (S := []) Tryz.func21 Tryz.ntmps21 Tryz.results21 rfl (by decide) rfl (by kernel_rfl) ?_
 simp (disch := omega) only [push_cast, go_sem, zA, simprocAttr, progV_eq]
 intro g1
 refine Sat.loop (σ := Nat) (fun i => upd (upd noT 1 (.ptr 1 [] 0 0 g1 1)) 3 (.int .i64 i)) (fun _ => noM.set 1 (.own 25 (some g1) 1 [.agg [.sl (p.map thrV)]]))
  (fun i => i ≤ p.length ∧ kindB 9 (p.take i) = false) (fun i => p.length - i) 0 ⟨by omega, rfl⟩ ?_ ?_
 ·(refine zB ?_; repeat (first | exact zC | exact zD | refine zE (by decide) ?_ | refine zF ?_ ?_ | refine zG ?_ ?_)) <;> (try simp (disch := omega) only [push_cast, go_sem, zA, simprocAttr])
 rintro i ⟨hi, hno⟩ J hJ
 refine Sat.of (S := []) (by kernel_rfl) ?_
 rcases Nat.lt_or_ge i p.length with hlt | hge
 ·obtain ⟨l, hl⟩ : ∃ l, p[i]? = some l := ⟨_, List.getElem?_eq_getElem hlt⟩
  have htk := take_get hl
  have hll := hls l (List.mem_of_getElem? hl)
  simp (disch := omega) only [push_cast, go_sem, zA, simprocAttr, hlt]
  refine Sat.loop (σ := Nat) (fun k => upd (upd (upd noT 1 (.ptr 1 [] 0 0 g1 1)) 3 (.int .i64 i)) 4 (.int .i64 k)) (fun _ => noM.set 1 (.own 25 (some g1) 1 [.agg [.sl (p.map thrV)]]))
   (fun k => k ≤ l.length ∧ (l.take k).any (fun d => d.k == 9) = false) (fun k => l.length - k) 0 ⟨by omega, rfl⟩ ?_ ?_
  ·(refine zB ?_; repeat (first | exact zC | exact zD | refine zE (by decide) ?_ | refine zF ?_ ?_ | refine zG ?_ ?_)) <;> (try simp (disch := omega) only [push_cast, go_sem, zA, simprocAttr])
  rintro k ⟨hk, hnk⟩ J2 hJ2
  refine Sat.of (S := []) (by kernel_rfl) ?_
  rcases Nat.lt_or_ge k l.length with hlt2 | hge2
  ·obtain ⟨d, hd⟩ : ∃ d, l[k]? = some d := ⟨_, List.getElem?_eq_getElem hlt2⟩
   have htl := take_get hd
   cases h9 : (d.k == 9)
   ·simp (disch := omega) only [push_cast, go_sem, zA, simprocAttr, hlt, hlt2, hl, hd, thrV_eq, Do.V_eq, h9]
    refine hJ2 (k + 1) _ _ ⟨by omega, by rw [htl, List.any_append, hnk]; simp [h9]⟩ (by omega) ?_
    (refine zB ?_; repeat (first | exact zC | exact zD | refine zE (by decide) ?_ | refine zF ?_ ?_ | refine zG ?_ ?_)) <;> (try simp (disch := omega) only [push_cast, go_sem, zA, simprocAttr])
   ·simp (disch := omega) only [push_cast, go_sem, zA, simprocAttr, hlt, hlt2, hl, hd, thrV_eq, Do.V_eq, h9]
    have : kindB 9 p = true := by
     rw [kindB, List.any_eq_true]
     exact ⟨l, List.mem_of_getElem? hl, List.any_eq_true.2 ⟨d, List.mem_of_getElem? hd, h9⟩⟩
    rw [this]
  ·have : k = l.length := by omega
   subst this
   simp (disch := omega) only [push_cast, go_sem, zA, simprocAttr, hlt, hl, thrV_eq]
   refine hJ (i + 1) _ _ ⟨by omega, ?_⟩ (by omega) ?_
   ·rw [List.take_length] at hnk
    rw [htk, kindB, List.any_append]
    rw [kindB] at hno
    rw [hno]; simp [hnk]
   ·(refine zB ?_; repeat (first | exact zC | exact zD | refine zE (by decide) ?_ | refine zF ?_ ?_ | refine zG ?_ ?_)) <;> (try simp (disch := omega) only [push_cast, go_sem, zA, simprocAttr])
 ·have : i = p.length := by omega
  subst this
  rw [List.take_length] at hno
  simp (disch := omega) only [push_cast, go_sem, zA, simprocAttr]
  rw [hno]
theorem set_mid (p1 p2 : Prog) (l : List Do) (v : V) : ((p1 ++ l :: p2).map thrV).modify p1.length (fun x => x.setC 0 v) = p1.map thrV ++ v :: p2.map thrV := by
 apply List.ext_getElem?
 intro i
 rw [List.getElem?_modify]
 rcases Nat.lt_trichotomy i p1.length with h | h | h
 ·rw [List.map_append, List.getElem?_append_left (by simpa using h), List.getElem?_append_left (by simpa using h)]
  have : ¬ p1.length = i := by omega
  simp [this]
 ·subst h
  rw [List.map_append, List.getElem?_append_right (by simp), List.getElem?_append_right (by simp)]
  simp [thrV, V.setC]
 ·have : ¬ p1.length = i := by omega
  obtain ⟨m, rfl⟩ : ∃ m, i = p1.length + (m + 1) := ⟨i - p1.length - 1, by omega⟩
  rw [List.map_append, List.getElem?_append_right (by simp), List.getElem?_append_right (by simp)]
  simp [this]
theorem fz_mid (e e' : TypeId) (γ γ' : Option Nat) (c c' : Nat) (p1 p2 : Prog) (l : List Do) : (V.own e γ c (p1.map thrV ++ .own e' γ' c' (l.map Do.V) :: p2.map thrV)).fz = .sl ((p1 ++ l :: p2).map thrV) := by
 simp only [V.fz, fzs_map, List.map_append, List.map_cons, List.map_nil, List.map_map, V.sl.injEq]
 congr 1
theorem split_at {p : Prog} {k : Nat} {l : List Do} (h : p[k]? = some l) : ∃ p1 p2, p = p1 ++ l :: p2 ∧ p1.length = k := by
 obtain ⟨hk, hl⟩ := List.getElem?_eq_some_iff.1 h
 refine ⟨p.take k, p.drop (k + 1), ?_, by rw [List.length_take]; omega⟩
 rw [← hl, ← List.drop_eq_getElem_cons hk, List.take_append_drop]
theorem lawOrderInside_fn (bs ms : List Int) (hb : Code8 bs) : Fp Tryz.prog 7 [codeV bs, codeV ms] (.bool true) := by
 refine Fc.start (S := [11]) Tryz.func7 Tryz.ntmps7 Tryz.results7 rfl (by decide) rfl (by kernel_rfl) ?_
 by_cases h : (1048576 : Int) < bs.length
 ·simp (disch := omega) only [push_cast, go_sem, zA, simprocAttr, codeV_eq, h]
 by_cases h' : (1048576 : Int) < ms.length
 ·simp (disch := omega) only [push_cast, go_sem, zA, simprocAttr, codeV_eq, h, h']
 simp (disch := omega) only [push_cast, go_sem, zA, simprocAttr, codeV_eq, h, h']
 refine callR.ex (DrawOrderAll_fn bs hb (by omega)) rfl rfl ?_
 rintro r ⟨p, kind, rfl, hp, hl⟩
 have hl' : ∀ l ∈ p, l.length < 2 ^ 40 := fun l h => by have := hl l h; omega
 have hn := fun p k => (show (ordAll p k).length < 2 ^ 40 by have := ord_len p k; omega)
 have h1 := implOrderAll_fn p kind (by omega) hl'
 have h2 := specOrderAll_fn p kind (by omega)
 rw [ordI_eq] at h1
 have h3 := lpList_fn (ordAll p kind) (ordAll p kind) ord_small ord_small (hn _ _) (hn _ _)
 rw [decide_eq_true rfl] at h3
 have hok := specProgOk_fn p (by omega)
 have hwt := lpWaits_fn p (by omega) hl'
 rw [progV_eq] at h1 h2 hok hwt
 simp (disch := omega) only [push_cast, go_sem, zA, simprocAttr, progV_eq]
 intro g3
 refine callR.pure h1 rfl rfl ?_
 simp (disch := omega) only [push_cast, go_sem, zA, simprocAttr]
 refine callR.pure h2 rfl rfl ?_
 simp (disch := omega) only [push_cast, go_sem, zA, simprocAttr]
 refine callR.pure h3 rfl rfl ?_
 simp (disch := omega) only [push_cast, go_sem, zA, simprocAttr]
 refine callR.pure hok rfl rfl ?_
 cases hpo : progOk p
 ·simp (disch := omega) only [push_cast, go_sem, zA, simprocAttr]
  refine callR.pure h2 rfl rfl ?_
  simp (disch := omega) only [push_cast, go_sem, zA, simprocAttr]
  refine callR.pure h3 rfl rfl ?_
  simp (disch := omega) only [push_cast, go_sem, zA, simprocAttr]
 cases hn0 : ((p.length : Int) == 0)
 rotate_left
 ·simp (disch := omega) only [push_cast, go_sem, zA, simprocAttr, hn0]
  refine callR.pure h2 rfl rfl ?_
  simp (disch := omega) only [push_cast, go_sem, zA, simprocAttr]
  refine callR.pure h3 rfl rfl ?_
  simp (disch := omega) only [push_cast, go_sem, zA, simprocAttr]
 simp (disch := omega) only [push_cast, go_sem, zA, simprocAttr, hn0]
 refine callR.pure hwt rfl rfl ?_
 cases hwp : kindB 9 p
 rotate_left
 ·simp (disch := omega) only [push_cast, go_sem, zA, simprocAttr]
  refine callR.pure h2 rfl rfl ?_
  simp (disch := omega) only [push_cast, go_sem, zA, simprocAttr]
  refine callR.pure h3 rfl rfl ?_
  simp (disch := omega) only [push_cast, go_sem, zA, simprocAttr]
 cases hk2 : (kind == 2)
 rotate_left
 ·simp (disch := omega) only [push_cast, go_sem, zA, simprocAttr, hk2]
  refine callR.pure h2 rfl rfl ?_
  simp (disch := omega) only [push_cast, go_sem, zA, simprocAttr]
  refine callR.pure h3 rfl rfl ?_
  simp (disch := omega) only [push_cast, go_sem, zA, simprocAttr]
 have hz : ¬ ((p.length : Nat) : Int) = 0 := by simpa using hn0
 have hpos : (0 : Int) < ((p.length : Nat) : Int) := by omega
 obtain ⟨k, hk⟩ : ∃ k : Nat, ((ms.length : Nat) : Int).tmod (p.length : Nat) = k := ⟨_, (Int.toNat_of_nonneg (Int.tmod_nonneg _ (by omega))).symm⟩
 have hkl : k < p.length := by have := Int.tmod_lt_of_pos ((ms.length : Nat) : Int) hpos; omega
 obtain ⟨l, he⟩ : ∃ l, p[k]? = some l := ⟨_, List.getElem?_eq_getElem hkl⟩
 have hll := hl l (List.mem_of_getElem? he)
 simp (disch := omega) only [push_cast, go_sem, zA, simprocAttr, hk2, hz, hk, he, hkl, thrV_eq]
 refine fun g64 => ⟨by omega, fun γ c hγ g71 => ⟨by omega, fun γ' c' hγ' g10 => ?_⟩⟩
 cases γ with
 | none => exact (hγ rfl).elim
 | some gl =>
 obtain ⟨p1, p2, rfl, hp1⟩ := split_at he
 cases γ' with
 | none => have := hγ' rfl; simp at this
 | some gq =>
 refine Sat.drawnE [(1, 5), (1, 6)] [] [0, 1, 2, 3, 4, 7] (fun _ _ _ => none) (by kernel_rfl) (by kernel_rfl) ?_
 simp (disch := omega) only [push_cast, go_sem, zA, simprocAttr, he, hkl, thrV_eq]
 refine fun g81 => ⟨⟨by omega, by omega⟩, fun γ2 c2 hγ2 => ⟨by omega, ?_⟩⟩
 have hkind : kind ≠ 2 := by simpa using hk2
 obtain ⟨lq, hlq⟩ : ∃ lq : List Do, lq = [⟨7, 0, 0⟩] ++ l ++ [⟨8, 0, 0⟩] := ⟨_, rfl⟩
 refine Sat.less (t' := upd (upd (upd (upd (upd noT 4 (.bool false)) 5 (.ptr 5 [] 0 0 g3 1)) 6 (.int .i64 kind)) 7 (.sl ((ordAll (p1 ++ l :: p2) kind).map Sn.V))) 10 (.ptr 10 [] 0 0 g10 1))
  (M' := (noM.set 5 (boxP (p1 ++ l :: p2) g3)).set 10 (.own 25 (some g10) 1 [.agg [.own 38 (some gq) c' (p1.map thrV ++ .own 40 γ2 c2 (lq.map Do.V) :: p2.map thrV)]])) ?_ ?_
 rotate_left
 ·(refine zB ?_; repeat (first | exact zC | exact zD | refine zE (by decide) ?_ | refine zF ?_ ?_ | refine zG ?_ ?_)) <;> (try simp (disch := omega) only [push_cast, go_sem, zA, simprocAttr])
  ·rfl
  ·rw [← hp1, set_mid, hlq]; simp [Do.V]
 refine Sat.freezeC 10 [] 0 0 (n0 := .own 25 (some g10) 1 [.agg [.own 38 (some gq) c' (p1.map thrV ++ .own 40 γ2 c2 (lq.map Do.V) :: p2.map thrV)]]) (d := .own 38 (some gq) c' (p1.map thrV ++ .own 40 γ2 c2 (lq.map Do.V) :: p2.map thrV)) rfl rfl rfl ?_
 rw [fz_mid]
 obtain ⟨q, hq⟩ : ∃ q, p1 ++ lq :: p2 = q := ⟨_, rfl⟩
 have hql : q.length = (p1 ++ l :: p2).length := by rw [← hq]; simp
 have hqo := specProgOk_fn q (by omega)
 have hqi := implOrderAll_fn q kind (by omega) (fun m hm => by
  rw [← hq] at hm
  rcases List.mem_append.1 hm with h | h
  ·exact hl' m (List.mem_append_left _ h)
  ·rcases List.mem_cons.1 h with rfl | h
   ·rw [hlq]; simp; omega
   ·exact hl' m (by simp [h]))
 rw [ordI_eq] at hqi
 rw [progV_eq] at hqo hqi
 rw [hq]
 refine Sat.of (S := []) (by kernel_rfl) ?_
 simp (disch := omega) only [push_cast, go_sem, zA, simprocAttr, boxP_eq]
 refine callR.pure hqo rfl rfl ?_
 cases hqk : progOk q
 ·simp (disch := omega) only [push_cast, go_sem, zA, simprocAttr]
 have hin : inside p1 l p2 = q := by rw [← hq, hlq]; rfl
 have heq := inside_ord hpo (by rw [hin]; exact hqk) (kindB_no hwp) kind
 rw [hin] at heq
 rw [heq] at hqi
 simp (disch := omega) only [push_cast, go_sem, zA, simprocAttr]
 refine callR.pure hqi rfl rfl ?_
 simp (disch := omega) only [push_cast, go_sem, zA, simprocAttr]
 refine callR.pure h3 rfl rfl ?_
 simp (disch := omega) only [push_cast, go_sem, zA, simprocAttr]
end
section
open Go.ChangeShapes Go.WideShapes Go.ChangeAt Go.RowKit
theorem own : ownKnob Tryz.prog.godebug = none := by kernel_rfl
theorem laidOut' : laidOutB Tryz.prog = true := by kernel_rfl
theorem cells8 : Tryz.prog.cellsOf 5 = 1 := by kernel_rfl
theorem code_rp {imm : Nat → Prop} {W : World} {b off len cap : Nat} {zs : List Int} (hlz : len ≤ zs.length) (hl : len ≤ cap) (hi : imm b) (hcell : ∀ i, i < zs.length → W.cell? ⟨b, off + i, none⟩ = some (.int .u8 (zs.getD i 0))) :
  Rp imm W (codeV (zs.take len)) (.slice (some ⟨b, off, none⟩) len cap) := by
 by_cases h0 : len = 0
 ·subst h0; exact .sl0 _ _
 have hc0 := hcell 0 (by omega)
 unfold World.cell? at hc0
 split at hc0
 ·rename_i cur t fr hg
  have hln : (zs.take len).length = len := by rw [List.length_take]; omega
  have e : ((zs.take len).map (V.int .u8)).length = len := by rw [List.length_map]; exact hln
  have get : ∀ (i : Nat) (x : V), ((zs.take len).map (V.int .u8))[i]? = some x → x = .int .u8 (zs.getD i 0) ∧ i < len := by
   intro i x hx
   have hlt : i < len := by have := (List.getElem?_eq_some_iff.1 hx).1; omega
   rw [List.getElem?_map, List.getElem?_take_of_lt hlt] at hx
   obtain ⟨y, hy, rfl⟩ := Option.map_eq_some_iff.1 hx
   exact ⟨by rw [List.getD, hy]; rfl, hlt⟩
  have := Rp.sl (imm := imm) (w := W) ((zs.take len).map (V.int .u8)) b off cap 1 cur t fr (fun i _ => .int .u8 (zs.getD i 0)) hi hg (by omega)
   (fun i x hx => by rw [(get i x hx).1]; rfl)
   (fun i x j c hx hc => by
    obtain ⟨rfl, hlt⟩ := get i x hx
    have hj : j = 0 := by
     cases j with
     | zero => rfl
     | succ j => simp [V.cells] at hc
    subst hj
    have := hcell i (by omega)
    unfold World.cell? at this
    simp only [hg] at this
    simpa using this)
   (fun i x j c hx hc => by
    obtain ⟨rfl, hlt⟩ := get i x hx
    have hj : j = 0 := by
     cases j with
     | zero => rfl
     | succ j => simp [V.cells] at hc
    subst hj
    simp [V.cells] at hc
    subst hc
    exact .int _ _)
  rw [e] at this
  exact this
 ·cases hc0
end
section
open Go.ChangeShapes Go.WideShapes Go.ChangeAt Go.RowKit
theorem laid_tab {H : Type} : (Rows.laid_math_bits_deBruijn64tab : DataW H) = Lib.tabData .u8 (Lib.deBruijn64tab.map fun n : Nat => (n : Int)) := rfl
theorem tabs_of {W : World} {rest : List (String × DataW Unit)} (h : laidMet Tryz.prog (("math/bits.deBruijn64tab", Rows.laid_math_bits_deBruijn64tab) :: rest) W) : ∀ x ∈ globT, Tab x.1 x.2 W := by
 rw [laid_tab] at h
 intro x hx
 simp only [globT, List.mem_cons, List.not_mem_nil, or_false] at hx
 subst hx
 intro j hj
 have hT := Lib.tabIs_of_head (t := 168) (e := 5) (n := 64) (g := (globT.headD (0, [])).1) (by kernel_rfl) (by kernel_rfl) Tryz.underlying168 Tryz.underlying5 cells8 (by kernel_rfl) h
 have := hT.cell (g := (globT.headD (0, [])).1) (by kernel_rfl) j (by rw [List.length_map]; exact hj)
 have e : (Lib.deBruijn64tab.map fun n : Nat => (n : Int)).getD j 0 = ((Lib.deBruijn64tab.getD j 0 : Nat) : Int) := by
  simp only [List.getD, List.getElem?_map]
  cases Lib.deBruijn64tab[j]? <;> rfl
 rw [e] at this
 exact this
theorem glob_of {W : World} {imm : Nat → Prop} (hT : ∀ x ∈ globT, Tab x.1 x.2 W) (hi : ∀ x ∈ globT, imm x.1) : Glob imm W := fun x hx => ⟨hi x hx, hT x hx⟩
theorem glob_lt {W : World} (hT : ∀ x ∈ globT, Tab x.1 x.2 W) : ∀ x ∈ globT, x.1 < W.heap.size := by
 intro x hx
 have h := hT x hx
 simp only [globT, List.mem_cons, List.not_mem_nil, or_false] at hx
 subst hx
 have := h 0 (by decide)
 unfold World.cell? at this
 split at this
 ·rename_i hh; exact (Array.getElem?_eq_some_iff.1 hh).1
 ·cases this
end
section
open Go.ChangeShapes Go.WideShapes Go.ChangeAt Go.RowKit
theorem code_of {H : Type} {enc : TypeId × Value → H} {W : World} {a0 : Option Addr} {len cap : Nat} {d0 : DataW H} {p0 : List MemPlace} (h0 : DataW.Trod enc Tryz.prog W 0 (fun _ => true) true 22 (.slice a0 len cap) d0 p0) :
  ∃ bs : List Int, Code8 bs ∧ ∃ g : Option Nat, (∀ b, g = some b → b < W.heap.size) ∧ ∀ imm : Nat → Prop, (∀ b, g = some b → imm b) → Rp imm W (codeV bs) (.slice a0 len cap) := by
 obtain ⟨fuel, hf⟩ := h0
 rcases open_ints Tryz.underlying22 Tryz.underlying5 cells8 hf with ⟨hcs, hx⟩ | ⟨a, len', cap', zs, hcs, _, hl, hm, hz, hx, hcell, hwz⟩
 ·simp [Value.cells] at hcs
  obtain ⟨rfl, rfl, rfl⟩ := hcs
  exact ⟨[], (fun b hb => by cases hb), none, (fun b hb => by cases hb), (fun imm _ => .sl0 _ _)⟩
 ·simp [Value.cells] at hcs
  obtain ⟨rfl, rfl, rfl⟩ := hcs
  simp only [if_true] at hz
  have hc8 : Code8 (zs.take len) := by
   intro n hn
   have := hwz n (List.mem_of_mem_take hn)
   simp [Lit.wf, IntKind.min, IntKind.max, IntKind.signed, IntKind.bits] at this
   omega
  by_cases hl0 : len = 0
  ·subst hl0
   exact ⟨[], (fun b hb => by cases hb), none, (fun b hb => by cases hb), (fun imm _ => .sl0 _ _)⟩
  ·obtain ⟨b, off, spot⟩ := a
   have hspot : spot = none := by simpa [Addr.add] using World.cell?_spot (hcell 0 (by omega))
   subst hspot
   refine ⟨zs.take len, hc8, some b, fun b' hb => ?_, fun imm hi => code_rp (by omega) hl (hi b rfl) fun i hi => by rw [← add_plain]; exact hcell i hi⟩
   cases hb
   have := hcell 0 (by omega)
   rw [add_plain] at this
   unfold World.cell? at this
   split at this
   ·rename_i hh; exact (Array.getElem?_eq_some_iff.1 hh).1
   ·cases this
theorem law_calls2 {f : FuncId} {W : World} {x y : V} {v u : Value} {imm : Nat → Prop} (h : Fp Tryz.prog f [x, y] (.bool true)) (hG : Glob imm W) (hi : ∀ g, imm g → g < W.heap.size) (hx : Rp imm W x v) (hy : Rp imm W y u) (hk : x.key = none ∧ y.key = none) :
  Calls Tryz.prog f #[v, u] W fun e w' => e = .returned (.bool true) ∧ Below W.heap.size W w' := by
 refine (h.fn imm W #[v, u] hG inv_no hi rfl ?_).mono ?_
 ·intro j c w hj hu
  match j with
  | 0 => simp at hj hu; subst hj; subst hu; exact hx
  | 1 => simp at hj hu; subst hj; subst hu; exact hy
  | j + 2 => simp at hj
 ·rintro e w' ⟨r, r', m, imm', rfl, ⟨rfl, rfl⟩, h3, h4⟩
  rw [h3.bool_inv]
  exact ⟨rfl, h4.os, h4.tape, h4.output, h4.size, fun k hk => (h4.block k hk not_owns_no).1⟩
end
end Go.Proofs.YtkdolbffabmemaaGreatDoor
