/-
 Contracts: what a step is.
-/
import Derived.Test.YtkdolbffabmemaaGreatDoorLvy
import Derived.Test.YtkdolbffabmemaaGreatDoorLvp
namespace Go.Proofs.YtkdolbffabmemaaGreatDoor
open Go.RowKit
set_option linter.unusedSimpArgs false
set_option linter.unusedVariables false
structure Do where
 k : Int
 p : Int
 v : Int
deriving DecidableEq, Inhabited
abbrev Prog := List (List Do)
def Do.V (d : Do) : V := .agg [.int .i64 d.k, .int .i64 d.p, .int .i64 d.v]
theorem Do.V_eq (d : Do) : d.V = .agg [.int .i64 d.k, .int .i64 d.p, .int .i64 d.v] := rfl
theorem fz_Do (d : Do) : d.V.fz = d.V := by simp [Do.V, V.fz, V.fz.fzs]
@[push_cast] theorem fzs_Do (l : List Do) : (l.map Do.V).map V.fz = l.map Do.V := by rw [List.map_map]; exact List.map_congr_left fun d _ => fz_Do d
@[push_cast] theorem flatL_Do (l : List Do) : flatL (l.map Do.V) = true := by simp [flatL, Do.V, V.cells, V.flatC]
@[push_cast] theorem okY_Do (l : List Do) : okY Tryz.prog 40 (l.map Do.V) = True := by
 simp only [okY, List.mem_map, eq_iff_iff, iff_true]
 rintro y ⟨d, _, rfl⟩
 exact ⟨by rw [szT_40]; rfl, by simp [Do.V, V.cells, V.one]⟩
def Do.reads (d : Do) : Bool := d.k == 2 || d.k == 5
def Do.writes (d : Do) : Bool := d.k == 1 || d.k == 3 || d.k == 6
def Do.uses (d : Do) : Bool := d.reads || d.writes
def Do.valued (d : Do) : Bool := d.k == 1 || d.k == 6
def inB (n lo hi : Int) : Bool := decide (lo ≤ n) && decide (n ≤ hi)
def Do.formed (d : Do) : Bool :=
 inB d.k 1 9 && (if d.uses then inB d.p 0 2 else d.p == 0) && (if d.valued then inB d.v 1 3 else d.v == 0)
def Do.wrong (d : Do) (r i : Bool) : Bool := (d.k == 3 && !r) || (i && (d.k == 7 || d.k == 9)) || (!i && d.k == 8)
def thrGo : List Do → Bool → Bool → Bool
 | [], _, i => !i
 | d :: l, r, i => if !d.formed || d.wrong r i then false else thrGo l (r || d.reads) (d.k == 7 || (i && !(d.k == 8)))
def threadOk (l : List Do) : Bool := thrGo l false false && decide (l.length ≤ 7)
def usesOf (l : List Do) : Nat := (l.filter Do.uses).length
def stepsP (p : Prog) : Nat := (p.map List.length).sum
def usesP (p : Prog) : Nat := (p.map usesOf).sum
def progOk (p : Prog) : Bool := decide (p.length ≤ 3) && p.all threadOk && decide (stepsP p ≤ 14) && decide (usesP p ≤ 6)
theorem take_get {α : Type} {l : List α} {i : Nat} {d : α} (h : l[i]? = some d) : l.take (i + 1) = l.take i ++ [d] := by
 rw [List.take_add_one, h]; rfl
theorem drop_get {α : Type} {l : List α} {k : Nat} {x : α} (h : l[k]? = some x) : l.drop k = x :: l.drop (k + 1) := by
 obtain ⟨hk, rfl⟩ := List.getElem?_eq_some_iff.1 h
 exact List.drop_eq_getElem_cons hk
theorem in_fn (n lo hi : Int) : Fp Tryz.prog 62 [.int .i64 n, .int .i64 lo, .int .i64 hi] (.bool (inB n lo hi)) := by
 refine Fc.start (S := []) Tryz.func62 Tryz.ntmps62 Tryz.results62 rfl (by decide) rfl (by kernel_rfl) ?_
 simp (disch := omega) only [push_cast, go_sem, zA, simprocAttr]
 refine ⟨fun h => ?_, fun h => ?_⟩ <;> simp [inB, h] <;> omega
theorem reads_fn (d : Do) : Fp Tryz.prog 76 [d.V] (.bool d.reads) := by
 refine Fc.start (S := []) Tryz.func76 Tryz.ntmps76 Tryz.results76 rfl (by decide) rfl (by kernel_rfl) ?_
 simp (disch := omega) only [push_cast, go_sem, zA, simprocAttr, Do.V_eq]
 refine ⟨fun h => ?_, fun h => ?_⟩ <;> simp [Do.reads, h]
theorem writes_fn (d : Do) : Fp Tryz.prog 111 [d.V] (.bool d.writes) := by
 refine Fc.start (S := []) Tryz.func111 Tryz.ntmps111 Tryz.results111 rfl (by decide) rfl (by kernel_rfl) ?_
 simp (disch := omega) only [push_cast, go_sem, zA, simprocAttr, Do.V_eq]
 cases h1 : (d.k == 1) <;> cases h3 : (d.k == 3) <;> cases h6 : (d.k == 6) <;> simp_all [Do.writes]
theorem valued_fn (d : Do) : Fp Tryz.prog 121 [d.V] (.bool d.valued) := by
 refine Fc.start (S := []) Tryz.func121 Tryz.ntmps121 Tryz.results121 rfl (by decide) rfl (by kernel_rfl) ?_
 simp (disch := omega) only [push_cast, go_sem, zA, simprocAttr, Do.V_eq]
 refine ⟨fun h => ?_, fun h => ?_⟩ <;> simp [Do.valued, h]
theorem l1Reads_fn (d : Do) : Fp Tryz.prog 44 [d.V] (.bool d.reads) := by
 refine Fc.start (S := []) Tryz.func44 Tryz.ntmps44 Tryz.results44 rfl (by decide) rfl (by kernel_rfl) ?_
 simp (disch := omega) only [push_cast, go_sem, zA, simprocAttr, Do.V_eq]
 refine ⟨fun h => ?_, fun h => ?_⟩ <;> simp [Do.reads, h]
theorem l1Writes_fn (d : Do) : Fp Tryz.prog 45 [d.V] (.bool d.writes) := by
 refine Fc.start (S := []) Tryz.func45 Tryz.ntmps45 Tryz.results45 rfl (by decide) rfl (by kernel_rfl) ?_
 simp (disch := omega) only [push_cast, go_sem, zA, simprocAttr, Do.V_eq]
 cases h1 : (d.k == 1) <;> cases h3 : (d.k == 3) <;> cases h6 : (d.k == 6) <;> simp_all [Do.writes]
theorem uses_fn (d : Do) : Fp Tryz.prog 61 [d.V] (.bool d.uses) := by
 refine Fc.start (S := []) Tryz.func61 Tryz.ntmps61 Tryz.results61 rfl (by decide) rfl (by kernel_rfl) ?_
 simp (disch := omega) only [push_cast, go_sem, zA, simprocAttr, Do.V_eq]
 intro g
 refine callR.pure (reads_fn d) rfl rfl ?_
 simp (disch := omega) only [push_cast, go_sem, zA, simprocAttr]
 refine ⟨fun h => ?_, fun h => ?_⟩
 ·refine callR.pure (writes_fn d) rfl rfl ?_
  simp (disch := omega) only [push_cast, go_sem, zA, simprocAttr]
  simp [Do.uses, h]
 ·simp [Do.uses, h]
end Go.Proofs.YtkdolbffabmemaaGreatDoor
