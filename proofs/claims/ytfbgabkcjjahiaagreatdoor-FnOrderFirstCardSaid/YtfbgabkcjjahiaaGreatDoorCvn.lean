/-
 Contracts: what a step is.
-/
import Derived.Test.YtfbgabkcjjahiaaGreatDoorCvy
import Derived.Test.YtfbgabkcjjahiaaGreatDoorCvp
namespace Go.Proofs.YtfbgabkcjjahiaaGreatDoor
open Go.RowKit
set_option linter.unusedSimpArgs false
set_option linter.unusedVariables false
structure Do where
 k : Int
 p : Int
 v : Int
deriving DecidableEq, Inhabited
abbrev Prog := List (List Do)
def Do.V (d : Do) : V := .agg [.int .i64 d.k, .int .i64 d.p, .int .i64 d.v]
theorem Do.V_eq (d : Do) : d.V = .agg [.int .i64 d.k, .int .i64 d.p, .int .i64 d.v] := rfl
theorem fz_Do (d : Do) : d.V.fz = d.V := by simp [Do.V, V.fz, V.fz.fzs]
@[push_cast] theorem fzs_Do (l : List Do) : (l.map Do.V).map V.fz = l.map Do.V := by rw [List.map_map]; exact List.map_congr_left fun d _ => fz_Do d
@[push_cast] theorem flatL_Do (l : List Do) : flatL (l.map Do.V) = true := by simp [flatL, Do.V, V.cells, V.flatC]
@[push_cast] theorem okY_Do (l : List Do) : okY Tryz.prog 62 (l.map Do.V) = True := by
 simp only [okY, List.mem_map, eq_iff_iff, iff_true]
 rintro y ⟨d, _, rfl⟩
 exact ⟨by rw [szT_62]; rfl, by simp [Do.V, V.cells, V.one]⟩
def Do.reads (d : Do) : Bool := d.k == 2 || d.k == 5
def Do.writes (d : Do) : Bool := d.k == 1 || d.k == 3 || d.k == 6
def Do.uses (d : Do) : Bool := d.reads || d.writes
def Do.valued (d : Do) : Bool := d.k == 1 || d.k == 6
def inB (n lo hi : Int) : Bool := decide (lo ≤ n) && decide (n ≤ hi)
def Do.formed (d : Do) : Bool :=
 inB d.k 1 9 && (if d.uses then inB d.p 0 2 else d.p == 0) && (if d.valued then inB d.v 1 3 else d.v == 0)
def Do.wrong (d : Do) (r i : Bool) : Bool := (d.k == 3 && !r) || (i && (d.k == 7 || d.k == 9)) || (!i && d.k == 8)
def thrGo : List Do → Bool → Bool → Bool
 | [], _, i => !i
 | d :: l, r, i => if !d.formed || d.wrong r i then false else thrGo l (r || d.reads) (d.k == 7 || (i && !(d.k == 8)))
def threadOk (l : List Do) : Bool := thrGo l false false && decide (l.length ≤ 7)
def usesOf (l : List Do) : Nat := (l.filter Do.uses).length
def stepsP (p : Prog) : Nat := (p.map List.length).sum
def usesP (p : Prog) : Nat := (p.map usesOf).sum
def progOk (p : Prog) : Bool := decide (p.length ≤ 3) && p.all threadOk && decide (stepsP p ≤ 14) && decide (usesP p ≤ 6)
theorem take_get {α : Type} {l : List α} {i : Nat} {d : α} (h : l[i]? = some d) : l.take (i + 1) = l.take i ++ [d] := by
 rw [List.take_add_one, h]; rfl
theorem drop_get {α : Type} {l : List α} {k : Nat} {x : α} (h : l[k]? = some x) : l.drop k = x :: l.drop (k + 1) := by
 obtain ⟨hk, rfl⟩ := List.getElem?_eq_some_iff.1 h
 exact List.drop_eq_getElem_cons hk
theorem in_fn (n lo hi : Int) : Fp Tryz.prog 83 [.int .i64 n, .int .i64 lo, .int .i64 hi] (.bool (inB n lo hi)) := by
 refine Fc.start (S := []) Tryz.func83 Tryz.ntmps83 Tryz.results83 rfl (by decide) rfl (by kernel_rfl) ?_
 simp (disch := omega) only [push_cast, go_sem, zA, simprocAttr]
 refine ⟨fun h => ?_, fun h => ?_⟩ <;> simp [inB, h] <;> omega
theorem reads_fn (d : Do) : Fp Tryz.prog 88 [d.V] (.bool d.reads) := by
 refine Fc.start (S := []) Tryz.func88 Tryz.ntmps88 Tryz.results88 rfl (by decide) rfl (by kernel_rfl) ?_
 simp (disch := omega) only [push_cast, go_sem, zA, simprocAttr, Do.V_eq]
 refine ⟨fun h => ?_, fun h => ?_⟩ <;> simp [Do.reads, h]
theorem writes_fn (d : Do) : Fp Tryz.prog 123 [d.V] (.bool d.writes) := by
 refine Fc.start (S := []) Tryz.func123 Tryz.ntmps123 Tryz.results123 rfl (by decide) rfl (by kernel_rfl) ?_
 simp (disch := omega) only [push_cast, go_sem, zA, simprocAttr, Do.V_eq]
 cases h1 : (d.k == 1) <;> cases h3 : (d.k == 3) <;> cases h6 : (d.k == 6) <;> simp_all [Do.writes]
theorem valued_fn (d : Do) : Fp Tryz.prog 128 [d.V] (.bool d.valued) := by
 refine Fc.start (S := []) Tryz.func128 Tryz.ntmps128 Tryz.results128 rfl (by decide) rfl (by kernel_rfl) ?_
 simp (disch := omega) only [push_cast, go_sem, zA, simprocAttr, Do.V_eq]
 refine ⟨fun h => ?_, fun h => ?_⟩ <;> simp [Do.valued, h]
theorem l1Reads_fn (d : Do) : Fp Tryz.prog 72 [d.V] (.bool d.reads) := by
 refine Fc.start (S := []) Tryz.func72 Tryz.ntmps72 Tryz.results72 rfl (by decide) rfl (by kernel_rfl) ?_
 simp (disch := omega) only [push_cast, go_sem, zA, simprocAttr, Do.V_eq]
 refine ⟨fun h => ?_, fun h => ?_⟩ <;> simp [Do.reads, h]
theorem l1Writes_fn (d : Do) : Fp Tryz.prog 73 [d.V] (.bool d.writes) := by
 refine Fc.start (S := []) Tryz.func73 Tryz.ntmps73 Tryz.results73 rfl (by decide) rfl (by kernel_rfl) ?_
 simp (disch := omega) only [push_cast, go_sem, zA, simprocAttr, Do.V_eq]
 cases h1 : (d.k == 1) <;> cases h3 : (d.k == 3) <;> cases h6 : (d.k == 6) <;> simp_all [Do.writes]
theorem uses_fn (d : Do) : Fp Tryz.prog 82 [d.V] (.bool d.uses) := by
 refine Fc.start (S := []) Tryz.func82 Tryz.ntmps82 Tryz.results82 rfl (by decide) rfl (by kernel_rfl) ?_
 simp (disch := omega) only [push_cast, go_sem, zA, simprocAttr, Do.V_eq]
 intro g
 refine callR.pure (reads_fn d) rfl rfl ?_
 simp (disch := omega) only [push_cast, go_sem, zA, simprocAttr]
 refine ⟨fun h => ?_, fun h => ?_⟩
 ·refine callR.pure (writes_fn d) rfl rfl ?_
  simp (disch := omega) only [push_cast, go_sem, zA, simprocAttr]
  simp [Do.uses, h]
 ·simp [Do.uses, h]
end Go.Proofs.YtfbgabkcjjahiaaGreatDoor
