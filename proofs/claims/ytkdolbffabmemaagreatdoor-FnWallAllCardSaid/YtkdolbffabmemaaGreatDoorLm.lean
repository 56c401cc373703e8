/-
 Contracts and plain laws.
-/
import Derived.Test.YtkdolbffabmemaaGreatDoorLa
import Derived.Test.YtkdolbffabmemaaGreatDoorLf
import Derived.Test.YtkdolbffabmemaaGreatDoorLl
import Derived.Test.YtkdolbffabmemaaGreatDoorRows
import Derived.ProofKit
import Derived.OpenShut
import Derived.ChangeSlices
import Derived.JoinedOf
import Derived.JoinedAt
import Derived.Deep.DeepHandedRow
import Derived.Lib.LaidTab
import Derived.Test.YtkdolbffabmemaaGreatDoorCards
import Derived.Test.YtkdolbffabmemaaGreatDoorTie
set_option linter.unusedSimpArgs false
set_option linter.unusedVariables false
set_option linter.unusedSectionVars false
namespace Go.Proofs.YtkdolbffabmemaaGreatDoor
section
open Go.RowKit
theorem wall_all {p : Prog} {kind : Int} (h : wallOk p (upTo (gapsN p)) = true) (hk : inB kind 1 3 = true) : ordAll (wallR p (upTo (gapsN p))) kind = ordAll p 1 := by
 rw [wallR, if_pos h]
 simp only [wallOk, Bool.and_eq_true] at h
 refine wall_strict (wlP_wi _ p 0) h.1.1 h.2 (wlP_all fun k hk => ?_) hk
 rw [Int.zero_add]
 refine upTo_has ?_
 unfold gapsN gapsV
 rw [h.1.1, if_pos rfl]
 omega
theorem lawWallAll_fn (bs : List Int) (hb : Code8 bs) : Fp Tryz.prog 10 [codeV bs] (.bool true) := by
 refine Fc.start (S := []) Tryz.func10 Tryz.ntmps10 Tryz.results10 rfl (by decide) rfl (by kernel_rfl) ?_
 by_cases h : (1048576 : Int) < bs.length
 ·simp (disch := omega) only [push_cast, go_sem, zA, simprocAttr, codeV_eq, h]
 simp (disch := omega) only [push_cast, go_sem, zA, simprocAttr, codeV_eq, h]
 refine callR.ex (DrawWallAll_fn bs hb (by omega)) rfl rfl ?_
 rintro r ⟨p, rfl, hp, hl⟩
 have hn := fun p k => (show (ordAll p k).length < 2 ^ 40 by have := ord_len p k; omega)
 have h1 := implWallAll_fn p (by omega) hl
 have h2 := specWallAll_fn p (by omega) hl
 have h3 := implOrderAll_fn p 1 (by omega) (fun l h => by have := hl l h; omega)
 have hwl : (wallR p (upTo (gapsN p))).length ≤ 3 ∧ ∀ l ∈ wallR p (upTo (gapsN p)), l.length < 2 ^ 40 := by
  unfold wallR
  split
  ·refine ⟨by rw [wlP_len]; exact hp, fun l h => ?_⟩
   have := wlP_rows _ p 0 (n := 2 ^ 11) (fun l h => by have := hl l h; omega) l h
   omega
  ·exact ⟨by simp, fun l h => by cases h⟩
 have hall := fun k hk h => wall_all (p := p) (kind := k) h hk
 obtain ⟨q, hq⟩ : ∃ q, wallR p (upTo (gapsN p)) = q := ⟨_, rfl⟩
 obtain ⟨b, hbb⟩ : ∃ b, wallOk p (upTo (gapsN p)) = b := ⟨_, rfl⟩
 rw [hq, hbb] at h1 h2
 rw [hq] at hwl hall
 rw [hbb] at hall
 have h4 := fun k => implOrderAll_fn q k (by omega) hwl.2
 simp only [ordI_eq] at h3 h4
 rw [progV_eq, progV_eq] at h1 h2
 rw [progV_eq] at h3 h4
 simp (disch := omega) only [push_cast, go_sem, zA, simprocAttr, progV_eq]
 intro g3
 refine callR.pure h1 rfl rfl ?_
 simp (disch := omega) only [push_cast, go_sem, zA, simprocAttr, progV_eq]
 intro g4
 refine callR.pure h2 rfl rfl ?_
 simp (disch := omega) only [push_cast, go_sem, zA, simprocAttr, progV_eq]
 intro g6
 cases b
 ·simp (disch := omega) only [push_cast, go_sem, zA, simprocAttr]
 have h5 := lpList_fn (ordAll p 1) (ordAll p 1) ord_small ord_small (hn _ _) (hn _ _)
 rw [show decide (ordAll p 1 = ordAll p 1) = true by simp] at h5
 have e3 := h4 3
 have e2 := h4 2
 have e1 := h4 1
 rw [hall 3 (by decide) rfl] at e3
 rw [hall 2 (by decide) rfl] at e2
 rw [hall 1 (by decide) rfl] at e1
 simp (disch := omega) only [push_cast, go_sem, zA, simprocAttr]
 refine callR.pure h3 rfl rfl ?_
 simp (disch := omega) only [push_cast, go_sem, zA, simprocAttr]
 refine callR.pure e3 rfl rfl ?_
 simp (disch := omega) only [push_cast, go_sem, zA, simprocAttr]
 refine callR.pure h5 rfl rfl ?_
 simp (disch := omega) only [push_cast, go_sem, zA, simprocAttr]
 refine callR.pure e2 rfl rfl ?_
 simp (disch := omega) only [push_cast, go_sem, zA, simprocAttr]
 refine callR.pure h5 rfl rfl ?_
 simp (disch := omega) only [push_cast, go_sem, zA, simprocAttr]
 refine callR.pure e1 rfl rfl ?_
 simp (disch := omega) only [push_cast, go_sem, zA, simprocAttr]
 refine callR.pure h5 rfl rfl ?_
 simp (disch := omega) only [push_cast, go_sem, zA, simprocAttr]
end
section
open Go.ChangeShapes Go.WideShapes Go.ChangeAt Go.RowKit
theorem own : ownKnob Tryz.prog.godebug = none := by kernel_rfl
theorem laidOut' : laidOutB Tryz.prog = true := by kernel_rfl
theorem cells8 : Tryz.prog.cellsOf 5 = 1 := by kernel_rfl
theorem code_rp {imm : Nat → Prop} {W : World} {b off len cap : Nat} {zs : List Int} (hlz : len ≤ zs.length) (hl : len ≤ cap) (hi : imm b) (hcell : ∀ i, i < zs.length → W.cell? ⟨b, off + i, none⟩ = some (.int .u8 (zs.getD i 0))) :
  Rp imm W (codeV (zs.take len)) (.slice (some ⟨b, off, none⟩) len cap) := by
 by_cases h0 : len = 0
 ·subst h0; exact .sl0 _ _
 have hc0 := hcell 0 (by omega)
 unfold World.cell? at hc0
 split at hc0
 ·rename_i cur t fr hg
  have hln : (zs.take len).length = len := by rw [List.length_take]; omega
  have e : ((zs.take len).map (V.int .u8)).length = len := by rw [List.length_map]; exact hln
  have get : ∀ (i : Nat) (x : V), ((zs.take len).map (V.int .u8))[i]? = some x → x = .int .u8 (zs.getD i 0) ∧ i < len := by
   intro i x hx
   have hlt : i < len := by have := (List.getElem?_eq_some_iff.1 hx).1; omega
   rw [List.getElem?_map, List.getElem?_take_of_lt hlt] at hx
   obtain ⟨y, hy, rfl⟩ := Option.map_eq_some_iff.1 hx
   exact ⟨by rw [List.getD, hy]; rfl, hlt⟩
  have := Rp.sl (imm := imm) (w := W) ((zs.take len).map (V.int .u8)) b off cap 1 cur t fr (fun i _ => .int .u8 (zs.getD i 0)) hi hg (by omega)
   (fun i x hx => by rw [(get i x hx).1]; rfl)
   (fun i x j c hx hc => by
    obtain ⟨rfl, hlt⟩ := get i x hx
    have hj : j = 0 := by
     cases j with
     | zero => rfl
     | succ j => simp [V.cells] at hc
    subst hj
    have := hcell i (by omega)
    unfold World.cell? at this
    simp only [hg] at this
    simpa using this)
   (fun i x j c hx hc => by
    obtain ⟨rfl, hlt⟩ := get i x hx
    have hj : j = 0 := by
     cases j with
     | zero => rfl
     | succ j => simp [V.cells] at hc
    subst hj
    simp [V.cells] at hc
    subst hc
    exact .int _ _)
  rw [e] at this
  exact this
 ·cases hc0
theorem law_calls {f : FuncId} {W : World} {x : V} {v : Value} {imm : Nat → Prop} (h : Fp Tryz.prog f [x] (.bool true)) (hG : Glob imm W) (hi : ∀ g, imm g → g < W.heap.size) (hx : Rp imm W x v) :
  Calls Tryz.prog f #[v] W fun e w' => e = .returned (.bool true) ∧ Below W.heap.size W w' := by
 refine (h.fn imm W #[v] hG inv_no hi rfl ?_).mono ?_
 ·intro j c u hj hu
  cases j with
  | zero => simp at hj hu; subst hj; subst hu; exact hx
  | succ j => simp at hj
 ·rintro e w' ⟨r, r', m, imm', rfl, ⟨rfl, rfl⟩, h3, h4⟩
  rw [h3.bool_inv]
  exact ⟨rfl, h4.os, h4.tape, h4.output, h4.size, fun k hk => (h4.block k hk not_owns_no).1⟩
end
section
open Go.ChangeShapes Go.WideShapes Go.ChangeAt Go.RowKit
theorem laid_tab {H : Type} : (Rows.laid_math_bits_deBruijn64tab : DataW H) = Lib.tabData .u8 (Lib.deBruijn64tab.map fun n : Nat => (n : Int)) := rfl
theorem tabs_of {W : World} {rest : List (String × DataW Unit)} (h : laidMet Tryz.prog (("math/bits.deBruijn64tab", Rows.laid_math_bits_deBruijn64tab) :: rest) W) : ∀ x ∈ globT, Tab x.1 x.2 W := by
 rw [laid_tab] at h
 intro x hx
 simp only [globT, List.mem_cons, List.not_mem_nil, or_false] at hx
 subst hx
 intro j hj
 have hT := Lib.tabIs_of_head (t := 168) (e := 5) (n := 64) (g := (globT.headD (0, [])).1) (by kernel_rfl) (by kernel_rfl) Tryz.underlying168 Tryz.underlying5 cells8 (by kernel_rfl) h
 have := hT.cell (g := (globT.headD (0, [])).1) (by kernel_rfl) j (by rw [List.length_map]; exact hj)
 have e : (Lib.deBruijn64tab.map fun n : Nat => (n : Int)).getD j 0 = ((Lib.deBruijn64tab.getD j 0 : Nat) : Int) := by
  simp only [List.getD, List.getElem?_map]
  cases Lib.deBruijn64tab[j]? <;> rfl
 rw [e] at this
 exact this
theorem glob_of {W : World} {imm : Nat → Prop} (hT : ∀ x ∈ globT, Tab x.1 x.2 W) (hi : ∀ x ∈ globT, imm x.1) : Glob imm W := fun x hx => ⟨hi x hx, hT x hx⟩
theorem glob_lt {W : World} (hT : ∀ x ∈ globT, Tab x.1 x.2 W) : ∀ x ∈ globT, x.1 < W.heap.size := by
 intro x hx
 have h := hT x hx
 simp only [globT, List.mem_cons, List.not_mem_nil, or_false] at hx
 subst hx
 have := h 0 (by decide)
 unfold World.cell? at this
 split at this
 ·rename_i hh; exact (Array.getElem?_eq_some_iff.1 hh).1
 ·cases this
end
end Go.Proofs.YtkdolbffabmemaaGreatDoor
