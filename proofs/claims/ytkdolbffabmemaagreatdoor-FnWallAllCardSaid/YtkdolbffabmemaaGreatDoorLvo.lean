/-
 The machine of values: what each operation comes to, shape by shape.
-/
import Derived.Test.YtkdolbffabmemaaGreatDoorLvm
namespace Go.Proofs.YtkdolbffabmemaaGreatDoor
open Go.RowKit
set_option linter.unusedSimpArgs false
set_option linter.unusedVariables false
def ob {α β : Type} (x : Option α) (f : α → Option β) (u : Lk f) : Option β := match x with | some a => f a | none => none
@[push_cast] theorem ob_some {α β : Type} {x : α} {f : α → Option β} : ob (some x) f .mk = f x := Eq.trans rfl rfl
def okc (c : V) : Bool := c.laid && c.one
def asK (x : Option V) (d s : Nat) (v : V) (M : Mem) : Option (Prop × Post) := match x with | some ob => some (True, det v ((M.era s).set d ob)) | none => some (True, det .undef M)
def ldC (c : Option V) (p : Path) (s : Nat) (pr : Prop) (M : Mem) : Option (Prop × Post) := match c with
 | some (.own _ γ cap' es') => some (pr, det (.msl s p γ es'.length cap') M)
 | some c => some (pr, det c M)
 | none => none
def ldG (P : Program) (ty e : TypeId) (x : Option V) (j k : Nat) (pr : Prop) (M : Mem) : Option (Prop × Post) := match x with
 | some x => if (x.cells.drop j).take (szT P ty) |>.all fun c => !c.isOwn then some (pr ∧ k = szT P e ∧ j + szT P ty ≤ x.cells.length, det (.agg ((x.cells.drop j).take (szT P ty))) M) else none
 | none => none
def ldX (x : Option V) (j : Nat) : Option V := match x with | some x => x.cells[j]? | none => none
def ldA (P : Program) (ty : TypeId) (ag : Option Bool) (n : Option V) (s : Nat) (q : Path) (i j g k : Nat) (M : Mem) : Option (Prop × Post) := match n, ag with
 | some (.own e (some g') cap es), some true => ldG P ty e es[i]? j k (g' = g) M
 | some (.own e (some g') cap es), some false => ldC (ldX es[i]? j) (q ++ [(i, j)]) s (g' = g ∧ k = szT P e) M
 | _, _ => none
def ldE (P : Program) (ty : TypeId) (ag : Option Bool) (cs : List V) (M : Mem) : Option (Prop × Post) := match ag with
 | some true => some (szT P ty ≤ cs.length, det (.agg (cs.take (szT P ty))) M)
 | some false => match cs[0]? with | some c => some (True, det c M) | none => none
 | none => none
def cellsOk (v : V) (i j : Nat) : Nat → Bool
 | 0 => true
 | n + 1 => (v.cellAt i j).isSome && cellsOk v i (j + 1) n
def stB (P : Program) (ty e : TypeId) (v : V) (i j g g' k : Nat) (x : V) (M' : Option Mem) : Option (Prop × Post) := match M' with
 | some M' => some (g' = g ∧ k = szT P e ∧ x.cells.length = szT P ty ∧ (x.cells.all okc) = true ∧ 0 < szT P ty ∧ cellsOk v i j (szT P ty) = true, det (.tuple []) M')
 | none => none
def stA (P : Program) (ty : TypeId) (n : Option V) (s : Nat) (q : Path) (i j g k : Nat) (x : V) (M : Mem) : Option (Prop × Post) := match n with
 | some (.own e (some g') cap es) => stB P ty e (.own e (some g') cap es) i j g g' k x (putAll s q M (x.cells.mapIdx fun l c => (i, j + l, c)))
 | _ => none
def alN (ok : Bool) (f : Nat → V) (F : Nat → Option Mem) : Option (Prop × Post) := if ok && (F 0).isSome then some (True, fun r m => ∃ g, r = f g ∧ F g = some m) else none
def bsN (ok : Bool) (f : Nat → V) (F : Nat → Option Mem) : Option (Prop × Post) := if ok && (F 0).isSome then some (True, fun r m => ∃ g, r = f g ∧ F g = some m) else none
def fdC (c : Option V) (M : Mem) : Option (Prop × Post) := match c with | some c => some (True, det c M) | none => none
def fdB (ag : Option Bool) (sz off : Nat) (cs : List V) (M : Mem) : Option (Prop × Post) := match ag with
 | some true => some (off + sz ≤ cs.length, det (.agg ((cs.drop off).take sz)) M)
 | some false => fdC cs[off]? M
 | none => none
def setN (x : Option V) (M : Mem) (o : Nat) (q : Path) (i j : Nat) (c : V) : Mem := match x with | some v => M.set o (v.setP q i j c) | none => M
def gp (c : Option V) (q : Path) : Option V := match c with | some c => c.getP q | none => none
def setPx (c : Option V) (v : V) (a b : Nat) (p : Path) (i j : Nat) (x : V) : V := match c with | some y => v.setIJ a b (y.setP p i j x) | none => v
def putR (x : Option V) (M : Mem) (d o : Nat) (q : Path) (i j : Nat) (γ : Option Nat) (l cap : Nat) : Option Mem := match x with
 | some (.own e γ' cap' es) => if d ≠ o ∧ γ' = γ ∧ cap' = cap ∧ es.length = l then some ((M.era d).setP o q i j (.own e γ' cap' es)) else none
 | _ => none
def mkB (P : Program) (z : Option V) (d : Nat) (e : TypeId) (n c : Int) (M : Mem) : Option (Prop × Post) := match z with
 | some z => if okE P e [z] && (movesE 0 [z]).isEmpty then some (n = c ∧ 0 ≤ n ∧ n * byT P e ≤ 140737488355328 ∧ 0 < szT P e ∧ 0 < byT P e, fun r m => ∃ g, r = .msl d [] (some g) n.toNat n.toNat ∧ m = M.set d (.own e (some g) n.toNat (List.replicate n.toNat z.thinE))) else none
 | none => none
def apB (P : Program) (d : Nat) (e : TypeId) (x : V) (r : Option (Prop × List V × Mem)) : Option (Prop × Post) := match r with
 | some (c1, es, M1) => match srcV M1 x with
  | some (c2, ys, M2) => some (c1 ∧ c2 ∧ (es.length + ys.length) * byT P e ≤ 140737488355328 ∧ 0 < byT P e ∧ okY P e ys, AppR d e es ys M2)
  | none => none
 | none => none
def apC (P : Program) (d : Nat) (e : TypeId) (c1 : Prop) (es : List V) (y : Option (Prop × List V × Mem)) : Option (Prop × Post) := match y with
 | some (c2, ys, M2) => some (c1 ∧ c2 ∧ (es.length + ys.length) * byT P e ≤ 140737488355328 ∧ 0 < byT P e ∧ okY P e ys, AppR d e es ys M2)
 | none => none
def rwA (x : Option V) (e : TypeId) (s : Nat) (γ : Option Nat) (l cap : Nat) (M : Mem) : Option (Prop × List V × Mem) := match x with
 | some (.own e' γ' cap' es) => some (γ' = γ ∧ cap' = cap ∧ es.length = l ∧ (γ' = none ∨ e' = e), es, M.era s)
 | _ => none
def rwQ (x : Option V) (d : Nat) (e : TypeId) (s : Nat) (q : Path) (i j : Nat) (γ : Option Nat) (l cap : Nat) (M : Mem) : Option (Prop × List V × Mem) := match x with
 | some (.own e' γ' cap' es) => if d ≠ s then some (γ' = γ ∧ cap' = cap ∧ es.length = l ∧ (γ' = none ∨ e' = e), es, (M.setP s q i j .undef).era d) else none
 | _ => none
def apO (ok : Bool) (x : Option (Prop × Post)) : Option (Prop × Post) := if ok then x else none
def flatL (cs : List V) : Bool := cs.all fun x => x.cells.all V.flatC
def srF (b : Bool) (pr : Prop) (cs : List V) (M M' : Mem) : Option (Prop × List V × Mem) := if b then some (pr, cs, M) else some (pr, cs, M')
def srA (x : Option V) (o : Nat) (γ : Option Nat) (l : Nat) (M : Mem) : Option (Prop × List V × Mem) := match x with
 | some (.own _ γ' _ es) => srF (flatL es) (γ' = γ ∧ es.length = l) es M (M.era o)
 | _ => none
def srP (x : Option V) (γ : Option Nat) (l : Nat) (M : Mem) : Option (Prop × List V × Mem) := match x with
 | some (.own _ γ' _ es) => if flatL es then some (γ' = γ ∧ es.length = l, es, M) else none
 | _ => none
def rsA (x : Option (Prop × V)) (y : Option (Prop × List V)) : Option (Prop × List V) := match x, y with | some (p, v), some (p', vs) => some (p ∧ p', v :: vs) | _, _ => none
def zAgg (v : V) : Option (List V) := match v with | .agg cs => some cs | _ => none
@[push_cast] theorem zAgg_agg {cs : List V} : zAgg (.agg cs) = some cs := Eq.trans rfl rfl
def okYb (P : Program) (e : TypeId) (ys : List V) : Prop := okY P e ys
def MemU (M : Mem) (k : Nat) (o : Option V) : Mem := match o with | some v => M.set k v | none => M.era k
def mg : Nat → List (Option Nat) → Mem → Mem → Mem
 | _, [], M, _ => M
 | i, none :: ks, M, Mf => mg (i + 1) ks M Mf
 | i, some k :: ks, M, Mf => MemU (mg (i + 1) ks M Mf) k (Mf i)
def mgD (d : Option Nat) (x : Option V) (M : Mem) : Mem := match d, x with | some d, some v => M.set d v | _, _ => M
section
variable {P : Program} {M M' Mf : Mem} {d : Option Nat} {k : IntKind} {n m : Int} {b : Bool} {s : ByteArray} {cs cs' vs : List V} {o l cap i j g k' a c x y : Nat} {q p : Path} {a0 : Nat × Nat} {q' : Path} {γ : Option Nat} {fn : Go.Fn} {e ty tx : TypeId} {pr : Prop} {v u : V}
@[push_cast] theorem cells_int : (V.int k n).cells = [(V.int k n)] := Eq.trans rfl rfl
@[push_cast] theorem isOwn_int : (V.int k n).isOwn = false := Eq.trans rfl rfl
@[push_cast] theorem okc_int : okc (V.int k n) = true := Eq.trans rfl rfl
@[push_cast] theorem one_int : (V.int k n).one = true := Eq.trans rfl rfl
@[push_cast] theorem part_int : (V.int k n).part = true := Eq.trans rfl rfl
@[push_cast] theorem thin_int : (V.int k n).thin = (V.int k n) := Eq.trans rfl rfl
@[push_cast] theorem thinE_int : (V.int k n).thinE = (V.int k n) := Eq.trans rfl rfl
@[push_cast] theorem mov_int : moves a x ((V.int k n) :: vs) = moves a (x + 1) vs := Eq.trans rfl rfl
@[push_cast] theorem key_int : (V.int k n).key = none := Eq.trans rfl rfl
@[push_cast] theorem ren_int : (V.int k n).ren a = (V.int k n) := Eq.trans rfl rfl
@[push_cast] theorem resN_int : resN d (V.int k n) = (V.int k n) := by cases d <;> rfl
@[push_cast] theorem as_int : assignV d (V.int k n) M = some (True, det (V.int k n) M) := by cases d <;> rfl
@[push_cast] theorem put_int : Mem.put M a p x y (V.int k n) = some (M.setP a p x y (V.int k n)) := Eq.trans rfl rfl
@[push_cast] theorem ldC_int : ldC (some (V.int k n)) p a pr M = some (pr, det (V.int k n) M) := Eq.trans rfl rfl
@[push_cast] theorem cells_bool : (V.bool b).cells = [(V.bool b)] := Eq.trans rfl rfl
@[push_cast] theorem isOwn_bool : (V.bool b).isOwn = false := Eq.trans rfl rfl
@[push_cast] theorem okc_bool : okc (V.bool b) = true := Eq.trans rfl rfl
@[push_cast] theorem one_bool : (V.bool b).one = true := Eq.trans rfl rfl
@[push_cast] theorem part_bool : (V.bool b).part = true := Eq.trans rfl rfl
@[push_cast] theorem thin_bool : (V.bool b).thin = (V.bool b) := Eq.trans rfl rfl
@[push_cast] theorem thinE_bool : (V.bool b).thinE = (V.bool b) := Eq.trans rfl rfl
@[push_cast] theorem mov_bool : moves a x ((V.bool b) :: vs) = moves a (x + 1) vs := Eq.trans rfl rfl
@[push_cast] theorem key_bool : (V.bool b).key = none := Eq.trans rfl rfl
@[push_cast] theorem ren_bool : (V.bool b).ren a = (V.bool b) := Eq.trans rfl rfl
@[push_cast] theorem resN_bool : resN d (V.bool b) = (V.bool b) := by cases d <;> rfl
@[push_cast] theorem as_bool : assignV d (V.bool b) M = some (True, det (V.bool b) M) := by cases d <;> rfl
@[push_cast] theorem put_bool : Mem.put M a p x y (V.bool b) = some (M.setP a p x y (V.bool b)) := Eq.trans rfl rfl
@[push_cast] theorem ldC_bool : ldC (some (V.bool b)) p a pr M = some (pr, det (V.bool b) M) := Eq.trans rfl rfl
@[push_cast] theorem cells_str : (V.str s).cells = [(V.str s)] := Eq.trans rfl rfl
@[push_cast] theorem isOwn_str : (V.str s).isOwn = false := Eq.trans rfl rfl
@[push_cast] theorem okc_str : okc (V.str s) = true := Eq.trans rfl rfl
@[push_cast] theorem one_str : (V.str s).one = true := Eq.trans rfl rfl
@[push_cast] theorem part_str : (V.str s).part = true := Eq.trans rfl rfl
@[push_cast] theorem thin_str : (V.str s).thin = (V.str s) := Eq.trans rfl rfl
@[push_cast] theorem thinE_str : (V.str s).thinE = (V.str s) := Eq.trans rfl rfl
@[push_cast] theorem mov_str : moves a x ((V.str s) :: vs) = moves a (x + 1) vs := Eq.trans rfl rfl
@[push_cast] theorem key_str : (V.str s).key = none := Eq.trans rfl rfl
@[push_cast] theorem ren_str : (V.str s).ren a = (V.str s) := Eq.trans rfl rfl
@[push_cast] theorem resN_str : resN d (V.str s) = (V.str s) := by cases d <;> rfl
@[push_cast] theorem as_str : assignV d (V.str s) M = some (True, det (V.str s) M) := by cases d <;> rfl
@[push_cast] theorem put_str : Mem.put M a p x y (V.str s) = some (M.setP a p x y (V.str s)) := Eq.trans rfl rfl
@[push_cast] theorem ldC_str : ldC (some (V.str s)) p a pr M = some (pr, det (V.str s) M) := Eq.trans rfl rfl
@[push_cast] theorem cells_agg : (V.agg cs).cells = cs := Eq.trans rfl rfl
@[push_cast] theorem isOwn_agg : (V.agg cs).isOwn = false := Eq.trans rfl rfl
@[push_cast] theorem okc_agg : okc (V.agg cs) = false := Eq.trans rfl rfl
@[push_cast] theorem one_agg : (V.agg cs).one = false := Eq.trans rfl rfl
@[push_cast] theorem part_agg : (V.agg cs).part = true := Eq.trans rfl rfl
@[push_cast] theorem thin_agg : (V.agg cs).thin = (V.agg cs) := Eq.trans rfl rfl
@[push_cast] theorem thinE_agg : (V.agg cs).thinE = .agg (cs.map V.thin) := Eq.trans rfl rfl
@[push_cast] theorem mov_agg : moves a x ((V.agg cs) :: vs) = moves a (x + 1) vs := Eq.trans rfl rfl
@[push_cast] theorem key_agg : (V.agg cs).key = none := Eq.trans rfl rfl
@[push_cast] theorem ren_agg : (V.agg cs).ren a = (V.agg cs) := Eq.trans rfl rfl
@[push_cast] theorem resN_agg : resN d (V.agg cs) = (V.agg cs) := by cases d <;> rfl
@[push_cast] theorem as_agg : assignV d (V.agg cs) M = some (True, det (V.agg cs) M) := by cases d <;> rfl
@[push_cast] theorem ldC_agg : ldC (some (V.agg cs)) p a pr M = some (pr, det (V.agg cs) M) := Eq.trans rfl rfl
@[push_cast] theorem cells_sl : (V.sl cs).cells = [(V.sl cs)] := Eq.trans rfl rfl
@[push_cast] theorem isOwn_sl : (V.sl cs).isOwn = false := Eq.trans rfl rfl
@[push_cast] theorem okc_sl : okc (V.sl cs) = true := Eq.trans rfl rfl
@[push_cast] theorem one_sl : (V.sl cs).one = true := Eq.trans rfl rfl
@[push_cast] theorem part_sl : (V.sl cs).part = true := Eq.trans rfl rfl
@[push_cast] theorem thin_sl : (V.sl cs).thin = (V.sl cs) := Eq.trans rfl rfl
@[push_cast] theorem thinE_sl : (V.sl cs).thinE = (V.sl cs) := Eq.trans rfl rfl
@[push_cast] theorem mov_sl : moves a x ((V.sl cs) :: vs) = moves a (x + 1) vs := Eq.trans rfl rfl
@[push_cast] theorem key_sl : (V.sl cs).key = none := Eq.trans rfl rfl
@[push_cast] theorem ren_sl : (V.sl cs).ren a = (V.sl cs) := Eq.trans rfl rfl
@[push_cast] theorem resN_sl : resN d (V.sl cs) = (V.sl cs) := by cases d <;> rfl
@[push_cast] theorem as_sl : assignV d (V.sl cs) M = some (True, det (V.sl cs) M) := by cases d <;> rfl
@[push_cast] theorem put_sl : Mem.put M a p x y (V.sl cs) = some (M.setP a p x y (V.sl cs)) := Eq.trans rfl rfl
@[push_cast] theorem ldC_sl : ldC (some (V.sl cs)) p a pr M = some (pr, det (V.sl cs) M) := Eq.trans rfl rfl
@[push_cast] theorem cells_nilsl : V.nilsl.cells = [V.nilsl] := Eq.trans rfl rfl
@[push_cast] theorem isOwn_nilsl : V.nilsl.isOwn = false := Eq.trans rfl rfl
@[push_cast] theorem okc_nilsl : okc V.nilsl = true := Eq.trans rfl rfl
@[push_cast] theorem one_nilsl : V.nilsl.one = true := Eq.trans rfl rfl
@[push_cast] theorem part_nilsl : V.nilsl.part = true := Eq.trans rfl rfl
@[push_cast] theorem thin_nilsl : V.nilsl.thin = .own 0 none 0 [] := Eq.trans rfl rfl
@[push_cast] theorem thinE_nilsl : V.nilsl.thinE = .own 0 none 0 [] := Eq.trans rfl rfl
@[push_cast] theorem mov_nilsl : moves a x (V.nilsl :: vs) = moves a (x + 1) vs := Eq.trans rfl rfl
@[push_cast] theorem key_nilsl : V.nilsl.key = none := Eq.trans rfl rfl
@[push_cast] theorem ren_nilsl : V.nilsl.ren a = V.nilsl := Eq.trans rfl rfl
@[push_cast] theorem resN_nilsl : resN d V.nilsl = V.nilsl := by cases d <;> rfl
@[push_cast] theorem ldC_nilsl : ldC (some V.nilsl) p a pr M = some (pr, det V.nilsl M) := Eq.trans rfl rfl
@[push_cast] theorem cells_msl : (V.msl o q γ l cap).cells = [(V.msl o q γ l cap)] := Eq.trans rfl rfl
@[push_cast] theorem isOwn_msl : (V.msl o q γ l cap).isOwn = false := Eq.trans rfl rfl
@[push_cast] theorem okc_msl : okc (V.msl o q γ l cap) = true := Eq.trans rfl rfl
@[push_cast] theorem one_msl : (V.msl o q γ l cap).one = true := Eq.trans rfl rfl
@[push_cast] theorem part_msl : (V.msl o q γ l cap).part = true := Eq.trans rfl rfl
@[push_cast] theorem thin_msl : (V.msl o q γ l cap).thin = .undef := Eq.trans rfl rfl
@[push_cast] theorem thinE_msl : (V.msl o q γ l cap).thinE = .undef := Eq.trans rfl rfl
@[push_cast] theorem mov_msl : moves a x ((V.msl o q γ l cap) :: vs) = (a, x, (V.msl o q γ l cap)) :: moves a (x + 1) vs := Eq.trans rfl rfl
@[push_cast] theorem key_msl : (V.msl o q γ l cap).key = some o := Eq.trans rfl rfl
@[push_cast] theorem ren_msl : (V.msl o q γ l cap).ren a = .msl a q γ l cap := Eq.trans rfl rfl
@[push_cast] theorem ldC_msl : ldC (some (V.msl o q γ l cap)) p a pr M = some (pr, det (V.msl o q γ l cap) M) := Eq.trans rfl rfl
@[push_cast] theorem cells_ptr : (V.ptr o q i j g k').cells = [(V.ptr o q i j g k')] := Eq.trans rfl rfl
@[push_cast] theorem isOwn_ptr : (V.ptr o q i j g k').isOwn = false := Eq.trans rfl rfl
@[push_cast] theorem okc_ptr : okc (V.ptr o q i j g k') = true := Eq.trans rfl rfl
@[push_cast] theorem one_ptr : (V.ptr o q i j g k').one = true := Eq.trans rfl rfl
@[push_cast] theorem part_ptr : (V.ptr o q i j g k').part = true := Eq.trans rfl rfl
@[push_cast] theorem thin_ptr : (V.ptr o q i j g k').thin = (V.ptr o q i j g k') := Eq.trans rfl rfl
@[push_cast] theorem thinE_ptr : (V.ptr o q i j g k').thinE = (V.ptr o q i j g k') := Eq.trans rfl rfl
@[push_cast] theorem mov_ptr : moves a x ((V.ptr o q i j g k') :: vs) = moves a (x + 1) vs := Eq.trans rfl rfl
@[push_cast] theorem key_ptr : (V.ptr o q i j g k').key = some o := Eq.trans rfl rfl
@[push_cast] theorem ren_ptr : (V.ptr o q i j g k').ren a = .ptr a q i j g k' := Eq.trans rfl rfl
@[push_cast] theorem put_ptr : Mem.put M a p x y (V.ptr o q i j g k') = some (M.setP a p x y (V.ptr o q i j g k')) := Eq.trans rfl rfl
@[push_cast] theorem ldC_ptr : ldC (some (V.ptr o q i j g k')) p a pr M = some (pr, det (V.ptr o q i j g k') M) := Eq.trans rfl rfl
@[push_cast] theorem cells_eptr : (V.eptr cs).cells = [(V.eptr cs)] := Eq.trans rfl rfl
@[push_cast] theorem isOwn_eptr : (V.eptr cs).isOwn = false := Eq.trans rfl rfl
@[push_cast] theorem okc_eptr : okc (V.eptr cs) = true := Eq.trans rfl rfl
@[push_cast] theorem one_eptr : (V.eptr cs).one = true := Eq.trans rfl rfl
@[push_cast] theorem part_eptr : (V.eptr cs).part = true := Eq.trans rfl rfl
@[push_cast] theorem thin_eptr : (V.eptr cs).thin = (V.eptr cs) := Eq.trans rfl rfl
@[push_cast] theorem thinE_eptr : (V.eptr cs).thinE = (V.eptr cs) := Eq.trans rfl rfl
@[push_cast] theorem mov_eptr : moves a x ((V.eptr cs) :: vs) = moves a (x + 1) vs := Eq.trans rfl rfl
@[push_cast] theorem key_eptr : (V.eptr cs).key = none := Eq.trans rfl rfl
@[push_cast] theorem ren_eptr : (V.eptr cs).ren a = (V.eptr cs) := Eq.trans rfl rfl
@[push_cast] theorem resN_eptr : resN d (V.eptr cs) = (V.eptr cs) := by cases d <;> rfl
@[push_cast] theorem as_eptr : assignV d (V.eptr cs) M = some (True, det (V.eptr cs) M) := by cases d <;> rfl
@[push_cast] theorem put_eptr : Mem.put M a p x y (V.eptr cs) = some (M.setP a p x y (V.eptr cs)) := Eq.trans rfl rfl
@[push_cast] theorem ldC_eptr : ldC (some (V.eptr cs)) p a pr M = some (pr, det (V.eptr cs) M) := Eq.trans rfl rfl
@[push_cast] theorem cells_nilp : V.nilp.cells = [V.nilp] := Eq.trans rfl rfl
@[push_cast] theorem isOwn_nilp : V.nilp.isOwn = false := Eq.trans rfl rfl
@[push_cast] theorem okc_nilp : okc V.nilp = true := Eq.trans rfl rfl
@[push_cast] theorem one_nilp : V.nilp.one = true := Eq.trans rfl rfl
@[push_cast] theorem part_nilp : V.nilp.part = true := Eq.trans rfl rfl
@[push_cast] theorem thin_nilp : V.nilp.thin = V.nilp := Eq.trans rfl rfl
@[push_cast] theorem thinE_nilp : V.nilp.thinE = V.nilp := Eq.trans rfl rfl
@[push_cast] theorem mov_nilp : moves a x (V.nilp :: vs) = moves a (x + 1) vs := Eq.trans rfl rfl
@[push_cast] theorem key_nilp : V.nilp.key = none := Eq.trans rfl rfl
@[push_cast] theorem ren_nilp : V.nilp.ren a = V.nilp := Eq.trans rfl rfl
@[push_cast] theorem resN_nilp : resN d V.nilp = V.nilp := by cases d <;> rfl
@[push_cast] theorem as_nilp : assignV d V.nilp M = some (True, det V.nilp M) := by cases d <;> rfl
@[push_cast] theorem put_nilp : Mem.put M a p x y V.nilp = some (M.setP a p x y V.nilp) := Eq.trans rfl rfl
@[push_cast] theorem ldC_nilp : ldC (some V.nilp) p a pr M = some (pr, det V.nilp M) := Eq.trans rfl rfl
@[push_cast] theorem cells_fn : (V.fn fn cs cs').cells = [(V.fn fn cs cs')] := Eq.trans rfl rfl
@[push_cast] theorem isOwn_fn : (V.fn fn cs cs').isOwn = false := Eq.trans rfl rfl
@[push_cast] theorem okc_fn : okc (V.fn fn cs cs') = true := Eq.trans rfl rfl
@[push_cast] theorem one_fn : (V.fn fn cs cs').one = true := Eq.trans rfl rfl
@[push_cast] theorem part_fn : (V.fn fn cs cs').part = true := Eq.trans rfl rfl
@[push_cast] theorem thin_fn : (V.fn fn cs cs').thin = (V.fn fn cs cs') := Eq.trans rfl rfl
@[push_cast] theorem thinE_fn : (V.fn fn cs cs').thinE = (V.fn fn cs cs') := Eq.trans rfl rfl
@[push_cast] theorem mov_fn : moves a x ((V.fn fn cs cs') :: vs) = moves a (x + 1) vs := Eq.trans rfl rfl
@[push_cast] theorem key_fn : (V.fn fn cs cs').key = none := Eq.trans rfl rfl
@[push_cast] theorem ren_fn : (V.fn fn cs cs').ren a = (V.fn fn cs cs') := Eq.trans rfl rfl
@[push_cast] theorem resN_fn : resN d (V.fn fn cs cs') = (V.fn fn cs cs') := by cases d <;> rfl
@[push_cast] theorem as_fn : assignV d (V.fn fn cs cs') M = some (True, det (V.fn fn cs cs') M) := by cases d <;> rfl
@[push_cast] theorem put_fn : Mem.put M a p x y (V.fn fn cs cs') = some (M.setP a p x y (V.fn fn cs cs')) := Eq.trans rfl rfl
@[push_cast] theorem ldC_fn : ldC (some (V.fn fn cs cs')) p a pr M = some (pr, det (V.fn fn cs cs') M) := Eq.trans rfl rfl
@[push_cast] theorem cells_nilfn : V.nilfn.cells = [V.nilfn] := Eq.trans rfl rfl
@[push_cast] theorem isOwn_nilfn : V.nilfn.isOwn = false := Eq.trans rfl rfl
@[push_cast] theorem okc_nilfn : okc V.nilfn = true := Eq.trans rfl rfl
@[push_cast] theorem one_nilfn : V.nilfn.one = true := Eq.trans rfl rfl
@[push_cast] theorem part_nilfn : V.nilfn.part = true := Eq.trans rfl rfl
@[push_cast] theorem thin_nilfn : V.nilfn.thin = V.nilfn := Eq.trans rfl rfl
@[push_cast] theorem thinE_nilfn : V.nilfn.thinE = V.nilfn := Eq.trans rfl rfl
@[push_cast] theorem mov_nilfn : moves a x (V.nilfn :: vs) = moves a (x + 1) vs := Eq.trans rfl rfl
@[push_cast] theorem key_nilfn : V.nilfn.key = none := Eq.trans rfl rfl
@[push_cast] theorem ren_nilfn : V.nilfn.ren a = V.nilfn := Eq.trans rfl rfl
@[push_cast] theorem resN_nilfn : resN d V.nilfn = V.nilfn := by cases d <;> rfl
@[push_cast] theorem as_nilfn : assignV d V.nilfn M = some (True, det V.nilfn M) := by cases d <;> rfl
@[push_cast] theorem put_nilfn : Mem.put M a p x y V.nilfn = some (M.setP a p x y V.nilfn) := Eq.trans rfl rfl
@[push_cast] theorem ldC_nilfn : ldC (some V.nilfn) p a pr M = some (pr, det V.nilfn M) := Eq.trans rfl rfl
@[push_cast] theorem cells_own : (V.own e γ cap cs).cells = [(V.own e γ cap cs)] := Eq.trans rfl rfl
@[push_cast] theorem isOwn_own : (V.own e γ cap cs).isOwn = true := Eq.trans rfl rfl
@[push_cast] theorem okc_own : okc (V.own e γ cap cs) = false := Eq.trans rfl rfl
@[push_cast] theorem one_own : (V.own e γ cap cs).one = true := Eq.trans rfl rfl
@[push_cast] theorem part_own : (V.own e γ cap cs).part = true := Eq.trans rfl rfl
@[push_cast] theorem thin_own : (V.own e γ cap cs).thin = (V.own e γ cap cs) := Eq.trans rfl rfl
@[push_cast] theorem thinE_own : (V.own e γ cap cs).thinE = (V.own e γ cap cs) := Eq.trans rfl rfl
@[push_cast] theorem mov_own : moves a x ((V.own e γ cap cs) :: vs) = moves a (x + 1) vs := Eq.trans rfl rfl
@[push_cast] theorem key_own : (V.own e γ cap cs).key = none := Eq.trans rfl rfl
@[push_cast] theorem ren_own : (V.own e γ cap cs).ren a = (V.own e γ cap cs) := Eq.trans rfl rfl
@[push_cast] theorem resN_own : resN d (V.own e γ cap cs) = (V.own e γ cap cs) := by cases d <;> rfl
@[push_cast] theorem as_own : assignV d (V.own e γ cap cs) M = some (True, det (V.own e γ cap cs) M) := by cases d <;> rfl
@[push_cast] theorem cells_tuple : (V.tuple cs).cells = [(V.tuple cs)] := Eq.trans rfl rfl
@[push_cast] theorem isOwn_tuple : (V.tuple cs).isOwn = false := Eq.trans rfl rfl
@[push_cast] theorem okc_tuple : okc (V.tuple cs) = false := Eq.trans rfl rfl
@[push_cast] theorem one_tuple : (V.tuple cs).one = false := Eq.trans rfl rfl
@[push_cast] theorem part_tuple : (V.tuple cs).part = false := Eq.trans rfl rfl
@[push_cast] theorem thin_tuple : (V.tuple cs).thin = (V.tuple cs) := Eq.trans rfl rfl
@[push_cast] theorem thinE_tuple : (V.tuple cs).thinE = (V.tuple cs) := Eq.trans rfl rfl
@[push_cast] theorem mov_tuple : moves a x ((V.tuple cs) :: vs) = moves a (x + 1) vs := Eq.trans rfl rfl
@[push_cast] theorem key_tuple : (V.tuple cs).key = none := Eq.trans rfl rfl
@[push_cast] theorem ren_tuple : (V.tuple cs).ren a = (V.tuple cs) := Eq.trans rfl rfl
@[push_cast] theorem resN_tuple : resN d (V.tuple cs) = (V.tuple cs) := by cases d <;> rfl
@[push_cast] theorem as_tuple : assignV d (V.tuple cs) M = some (True, det (V.tuple cs) M) := by cases d <;> rfl
@[push_cast] theorem ldC_tuple : ldC (some (V.tuple cs)) p a pr M = some (pr, det (V.tuple cs) M) := Eq.trans rfl rfl
@[push_cast] theorem cells_undef : V.undef.cells = [V.undef] := Eq.trans rfl rfl
@[push_cast] theorem isOwn_undef : V.undef.isOwn = false := Eq.trans rfl rfl
@[push_cast] theorem okc_undef : okc V.undef = false := Eq.trans rfl rfl
@[push_cast] theorem one_undef : V.undef.one = false := Eq.trans rfl rfl
@[push_cast] theorem part_undef : V.undef.part = false := Eq.trans rfl rfl
@[push_cast] theorem thin_undef : V.undef.thin = V.undef := Eq.trans rfl rfl
@[push_cast] theorem thinE_undef : V.undef.thinE = V.undef := Eq.trans rfl rfl
@[push_cast] theorem mov_undef : moves a x (V.undef :: vs) = moves a (x + 1) vs := Eq.trans rfl rfl
@[push_cast] theorem key_undef : V.undef.key = none := Eq.trans rfl rfl
@[push_cast] theorem ren_undef : V.undef.ren a = V.undef := Eq.trans rfl rfl
@[push_cast] theorem resN_undef : resN d V.undef = V.undef := by cases d <;> rfl
@[push_cast] theorem as_undef : assignV d V.undef M = some (True, det V.undef M) := by cases d <;> rfl
@[push_cast] theorem ldC_undef : ldC (some V.undef) p a pr M = some (pr, det V.undef M) := Eq.trans rfl rfl
@[push_cast] theorem set_set {a : Nat} : (M.set a v).set a u = M.set a u := by funext k; simp only [Mem.set]; split <;> rfl
@[push_cast] theorem as_msl {d : Nat} : assignV (some d) (.msl o [] γ l cap) M = asK (M o) d o (.msl d [] γ l cap) M := by simp only [assignV, asK]; cases M o <;> rfl
@[push_cast] theorem as_ptr {d : Nat} : assignV (some d) (.ptr o [] 0 0 g k') M = asK (M o) d o (.ptr d [] 0 0 g k') M := by simp only [assignV, asK]; cases M o <;> rfl
@[push_cast] theorem as_nilsl {d : Nat} : assignV (some d) .nilsl M = some (True, det (.msl d [] none 0 0) (M.set d (.own 0 none 0 []))) := Eq.trans rfl rfl
@[push_cast] theorem asK_some {d : Nat} : asK (some u) d a v M = some (True, det v ((M.era a).set d u)) := Eq.trans rfl rfl
@[push_cast] theorem pick_t : pickV (.bool true) u v M = some (True, det u M) := Eq.trans rfl rfl
@[push_cast] theorem pick_f : pickV (.bool false) u v M = some (True, det v M) := Eq.trans rfl rfl
@[push_cast] theorem getP_nil : M.getP a [] = M a := by simp [Mem.getP, V.getP]
@[push_cast] theorem getP_cons : M.getP a ((i, j) :: q) = gp ((M a).bind fun v => v.cellAt i j) q := by
 simp only [Mem.getP, V.getP, gp]; cases M a <;> simp
 rename_i v; cases v.cellAt i j <;> rfl
@[push_cast] theorem gp_nil : gp (some v) [] = some v := Eq.trans rfl rfl
@[push_cast] theorem gp_cons : gp (some v) ((i, j) :: q) = gp (v.cellAt i j) q := by simp only [gp, V.getP]; cases v.cellAt i j <;> rfl
@[push_cast] theorem cellAt_ow : (V.own e γ cap cs).cellAt i j = ldX cs[i]? j := by simp only [V.cellAt, ldX]; cases cs[i]? <;> rfl
@[push_cast] theorem ldX_some : ldX (some v) j = v.cells[j]? := Eq.trans rfl rfl
@[push_cast] theorem setP_nil : M.setP a [] i j v = setN (M a) M a [] i j v := Eq.trans rfl rfl
@[push_cast] theorem setP_cons {f : Nat × Nat} : M.setP a (f :: q) i j v = setN (M a) M a (f :: q) i j v := Eq.trans rfl rfl
@[push_cast] theorem setN_some : setN (some u) M a q i j v = M.set a (u.setP q i j v) := Eq.trans rfl rfl
@[push_cast] theorem VsetP_nil : (V.own e γ cap cs).setP [] i j v = .own e γ cap (cs.modify i fun x => x.setC j v) := Eq.trans rfl rfl
@[push_cast] theorem VsetP_cons : (V.own e γ cap cs).setP ((x, y) :: q) i j v = setPx (ldX cs[x]? y) (.own e γ cap cs) x y q i j v := by
 rw [← cellAt_ow (e := e) (γ := γ) (cap := cap)]; rfl
@[push_cast] theorem setPx_some : setPx (some u) (.own e γ cap cs) x y q i j v = .own e γ cap (cs.modify x fun z => z.setC y (u.setP q i j v)) := Eq.trans rfl rfl
@[push_cast] theorem setC_agg : (V.agg cs).setC j v = .agg (cs.set j v) := Eq.trans rfl rfl
@[push_cast] theorem setC_int : (V.int k n).setC j v = v := Eq.trans rfl rfl
@[push_cast] theorem setC_bool : (V.bool b).setC j v = v := Eq.trans rfl rfl
@[push_cast] theorem setC_str : (V.str s).setC j v = v := Eq.trans rfl rfl
@[push_cast] theorem setC_own : (V.own e γ cap cs).setC j v = v := Eq.trans rfl rfl
@[push_cast] theorem setC_sl : (V.sl cs).setC j v = v := Eq.trans rfl rfl
@[push_cast] theorem setC_fn : (V.fn fn cs cs').setC j v = v := Eq.trans rfl rfl
@[push_cast] theorem setC_undef : V.undef.setC j v = v := Eq.trans rfl rfl
@[push_cast] theorem setC_nilp : V.nilp.setC j v = v := Eq.trans rfl rfl
@[push_cast] theorem setC_nilfn : V.nilfn.setC j v = v := Eq.trans rfl rfl
@[push_cast] theorem put_msl {d : Nat} : M.put a p x y (.msl d [] γ l cap) = putR (M d) M d a p x y γ l cap := by
 simp only [Mem.put, putR]
 cases M d with
 | none => rfl
 | some v => cases v <;> rfl
@[push_cast] theorem put_nilsl : M.put a p x y .nilsl = some (M.setP a p x y (.own 0 none 0 [])) := Eq.trans rfl rfl
@[push_cast] theorem putR_some {d : Nat} {γ' : Option Nat} {cap' : Nat} : putR (some (.own e γ' cap' cs)) M d a p x y γ l cap = if d ≠ a ∧ γ' = γ ∧ cap' = cap ∧ cs.length = l then some ((M.era d).setP a p x y (.own e γ' cap' cs)) else none := Eq.trans rfl rfl
@[push_cast] theorem putAll_nil : putAll a q M [] = some M := Eq.trans rfl rfl
@[push_cast] theorem putAll_cons {f : List (Nat × Nat × V)} : putAll a q M ((i, j, v) :: f) = (M.put a q i j v).bind fun M' => putAll a q M' f := Eq.trans rfl rfl
@[push_cast] theorem moves_nil : moves a j [] = [] := Eq.trans rfl rfl
@[push_cast] theorem movesE_nil : movesE a [] = [] := Eq.trans rfl rfl
@[push_cast] theorem movesE_cons : movesE a (v :: vs) = moves a 0 v.cells ++ movesE (a + 1) vs := Eq.trans rfl rfl
@[push_cast] theorem newO_eq : newO P M a e g cap vs = putAll a [] (M.set a (.own e (some g) cap (vs.map V.thinE))) (movesE 0 vs) := Eq.trans rfl rfl
@[push_cast] theorem okE_nil : okE P e [] = true := Eq.trans rfl rfl
@[push_cast] theorem okE_cons : okE P e (v :: vs) = (v.cells.length == szT P e && v.cells.all okc && okE P e vs) := Eq.trans rfl rfl
@[push_cast] theorem alloc_eq {d : Nat} : allocV P (some d) e M = ob (zeroT P e) (fun z => alN (okE P e [z]) (fun g => .ptr d [] 0 0 g (szT P e)) (fun g => newO P M d e g 1 [z])) .mk := by simp only [allocV, ob, alN]; cases zeroT P e <;> rfl
@[push_cast] theorem box_eq {d : Nat} : boxV P (some d) e v M = alN (okE P e [v]) (fun g => .ptr d [] 0 0 g (szT P e)) (fun g => newO P M d e g 1 [v]) := by simp only [boxV, alN]
@[push_cast] theorem alN_some {f : Nat → V} {F : Nat → Mem} : alN true f (fun g => some (F g)) = some (True, fun r m => ∃ g, r = f g ∧ some (F g) = some m) := Eq.trans rfl rfl
@[push_cast] theorem build_eq {ps : List (Nat × V)} : buildV P e ps M = ob (zeroT P e) (fun z => ob (placesT P e) (fun pl => ob (ob (zAgg z) (fun z => fillV pl z ps) .mk) (fun cs => some (True, det (.agg cs) M)) .mk) .mk) .mk := by
 simp only [buildV, ob, zAgg]
 cases zeroT P e with
 | none => rfl
 | some z =>
  cases placesT P e with
  | none => cases z <;> rfl
  | some pl => cases z <;> first | rfl | (simp only; cases fillV pl _ ps <;> rfl)
@[push_cast] theorem buildSlice_eq {d : Nat} {m : Nat} {ps : List (Nat × V)} : buildSliceV P (some d) ty m ps M = ob (elT P ty) (fun e => ob (zeroT P e) (fun z => bsN
  (okE P e (setL ps (List.replicate m z)) && okE P e (ps.map fun p => p.2) && ps.all (fun p => p.1 < m) && decide (m * szT P e ≤ 2 ^ 24) && decide (0 < szT P e) && decide (z.cells.length = szT P e) && (decide (m = 0) || z.cells.all okc))
  (fun g => .msl d [] (some g) m m) (fun g => newO P M d e g m (setL ps (List.replicate m z)))) .mk) .mk := by
 simp only [buildSliceV, ob, bsN]
 cases elT P ty with
 | none => rfl
 | some e => simp only; cases zeroT P e <;> rfl
@[push_cast] theorem bsN_some {f : Nat → V} {F : Nat → Mem} : bsN true f (fun g => some (F g)) = some (True, fun r m => ∃ g, r = f g ∧ some (F g) = some m) := Eq.trans rfl rfl
@[push_cast] theorem ld_ptr : loadV P ty (.ptr o q i j g k') M = ldA P ty (aggT P ty) (M.getP o q) o q i j g k' M := by
 cases hag : aggT P ty with
 | none =>
  simp only [loadV, ldA, hag]
  cases M.getP o q with
  | none => rfl
  | some v => cases v <;> first | rfl | (rename_i γ _ _; cases γ <;> rfl)
 | some ag =>
  cases hM : M.getP o q with
  | none => simp only [loadV, ldA, hag, hM]
  | some v =>
   cases v <;> first | (simp only [loadV, ldA, hag, hM]; done) | skip
   rename_i e γ cap es
   cases γ with
   | none => simp only [loadV, ldA, hag, hM]
   | some g' =>
    cases ag
    ·simp only [loadV, ldA, hag, hM, ldX, ldC, Bool.false_eq_true, if_false]
     cases es[i]? with
     | none => rfl
     | some x =>
      simp only
      cases x.cells[j]? with
      | none => rfl
      | some c => cases c <;> rfl
    ·simp only [loadV, ldA, hag, hM, ldG, if_true]
     cases es[i]? with
     | none => rfl
     | some x => simp
@[push_cast] theorem ldA_t {g' : Nat} : ldA P ty (some true) (some (.own e (some g') cap cs)) a q i j g k' M = ldG P ty e cs[i]? j k' (g' = g) M := Eq.trans rfl rfl
@[push_cast] theorem ldA_f {g' : Nat} : ldA P ty (some false) (some (.own e (some g') cap cs)) a q i j g k' M = ldC (ldX cs[i]? j) (q ++ [(i, j)]) a (g' = g ∧ k' = szT P e) M := Eq.trans rfl rfl
@[push_cast] theorem ldC_own : ldC (some (.own e γ cap cs)) q a pr M = some (pr, det (.msl a q γ cs.length cap) M) := Eq.trans rfl rfl
@[push_cast] theorem ldG_some : ldG P ty e (some v) j k' pr M = if (v.cells.drop j).take (szT P ty) |>.all fun c => !c.isOwn then some (pr ∧ k' = szT P e ∧ j + szT P ty ≤ v.cells.length, det (.agg ((v.cells.drop j).take (szT P ty))) M) else none := Eq.trans rfl rfl
@[push_cast] theorem ld_eptr : loadV P ty (.eptr cs) M = ldE P ty (aggT P ty) cs M := by
 unfold loadV ldE; cases aggT P ty with | none => rfl | some ag => cases ag <;> rfl
@[push_cast] theorem ldE_t : ldE P ty (some true) cs M = some (szT P ty ≤ cs.length, det (.agg (cs.take (szT P ty))) M) := Eq.trans rfl rfl
@[push_cast] theorem ldE_f : ldE P ty (some false) cs M = fdC cs[0]? M := by unfold ldE fdC; simp only
@[push_cast] theorem fdC_some : fdC (some v) M = some (True, det v M) := Eq.trans rfl rfl
theorem cellsOk_iff : ∀ (n j : Nat), (∀ l, l < n → (v.cellAt i (j + l)).isSome = true) ↔ cellsOk v i j n = true
 | 0, _ => by simp [cellsOk]
 | n + 1, j => by
  rw [cellsOk, Bool.and_eq_true, ← cellsOk_iff n (j + 1)]
  refine ⟨fun h => ⟨h 0 (by omega), fun l hl => ?_⟩, fun h l hl => ?_⟩
  ·have := h (l + 1) (by omega)
   rwa [show j + (l + 1) = j + 1 + l by omega] at this
  ·cases l with
   | zero => exact h.1
   | succ l => have := h.2 l (by omega); rwa [show j + (l + 1) = j + 1 + l by omega]
@[push_cast] theorem st_ptr : storeV P ty (.ptr o q i j g k') u M = stA P ty (M.getP o q) o q i j g k' u M := by
 cases hM : M.getP o q with
 | none => simp only [storeV, stA, hM]
 | some v =>
  cases v <;> first | (simp only [storeV, stA, hM]; done) | skip
  rename_i e γ cap es
  cases γ with
  | none => simp only [storeV, stA, hM]
  | some g' =>
   simp only [storeV, stA, hM, stB]
   cases putAll o q M (u.cells.mapIdx fun l c => (i, j + l, c)) with
   | none => rfl
   | some M' => simp only [cellsOk_iff]; rfl
@[push_cast] theorem stA_some {g' : Nat} : stA P ty (some (.own e (some g') cap cs)) a q i j g k' u M = stB P ty e (.own e (some g') cap cs) i j g g' k' u (putAll a q M (u.cells.mapIdx fun l c => (i, j + l, c))) := Eq.trans rfl rfl
@[push_cast] theorem stB_some {g' : Nat} : stB P ty e v i j g g' k' u (some M) = some (g' = g ∧ k' = szT P e ∧ u.cells.length = szT P ty ∧ (u.cells.all okc) = true ∧ 0 < szT P ty ∧ cellsOk v i j (szT P ty) = true, det (.tuple []) M) := Eq.trans rfl rfl
@[push_cast] theorem cellsOk_zero : cellsOk v i j 0 = true := Eq.trans rfl rfl
@[push_cast] theorem cellsOk_succ : cellsOk v i j (a + 1) = ((v.cellAt i j).isSome && cellsOk v i (j + 1) a) := Eq.trans rfl rfl
@[push_cast] theorem nc_ptr : nilCheckV (.ptr o q i j g k') M = some (True, det (.ptr o q i j g k') M) := Eq.trans rfl rfl
@[push_cast] theorem nc_eptr : nilCheckV (.eptr cs) M = some (True, det (.eptr cs) M) := Eq.trans rfl rfl
@[push_cast] theorem fa_ptr {f : Nat} : fieldAddrV P e (.ptr o q i j g k') f M = ob (offT P e f) (fun x => some (True, det (.ptr o q i (j + x.1) g k') M)) .mk := by simp only [fieldAddrV, ob]; cases offT P e f <;> rfl
@[push_cast] theorem fa_eptr {f : Nat} : fieldAddrV P e (.eptr cs) f M = ob (offT P e f) (fun x => some (True, det (.eptr (cs.drop x.1)) M)) .mk := by simp only [fieldAddrV, ob]; cases offT P e f <;> rfl
@[push_cast] theorem fd_agg {f : Nat} : fieldV P e (.agg cs) f M = ob (offT P e f) (fun x => fdB (aggT P x.2) (szT P x.2) x.1 cs M) .mk := by
 simp only [fieldV, fdB, fdC, ob]
 cases offT P e f with
 | none => rfl
 | some x =>
  obtain ⟨off, ft⟩ := x
  simp only
  cases aggT P ft with
  | none => rfl
  | some ag => cases ag <;> rfl
@[push_cast] theorem fdB_t : fdB (some true) a x cs M = some (x + a ≤ cs.length, det (.agg ((cs.drop x).take a)) M) := Eq.trans rfl rfl
@[push_cast] theorem fdB_f : fdB (some false) a x cs M = fdC cs[x]? M := Eq.trans rfl rfl
@[push_cast] theorem ia_sl : indexAddrV P ty (.sl cs) (.int k n) M = ob (elT P ty) (fun e => some (0 ≤ n ∧ n < cs.length ∧ (cs[n.toNat]?.getD .undef).cells.length = szT P e ∧ 0 < szT P e, det (.eptr ((cs[n.toNat]?.getD .undef).cells)) M)) .mk := by
 simp only [indexAddrV, ob, lenV, Option.map_some, Option.getD_some, Option.getD_none]
 cases elT P ty <;> cases strT P ty <;> cases arrT P ty <;> rfl
@[push_cast] theorem ia_msl : indexAddrV P ty (.msl o q (some g) l cap) (.int k n) M = ob (elT P ty) (fun e => some (0 ≤ n ∧ n < l ∧ 0 < szT P e, det (.ptr o q n.toNat 0 g (szT P e)) M)) .mk := by
 simp only [indexAddrV, ob, lenV, Option.map_some, Option.getD_some, Option.getD_none]
 cases elT P ty <;> cases strT P ty <;> cases arrT P ty <;> rfl
@[push_cast] theorem ia_ptr : indexAddrV P ty (.ptr o q i j g k') (.int k n) M = ob (arrT P ty) (fun x => some (0 ≤ n ∧ n < x.1 ∧ 0 < szT P x.2, det (.ptr o q i (j + n.toNat * szT P x.2) g k') M)) .mk := by
 simp only [indexAddrV, ob]
 cases elT P ty <;> cases arrT P ty <;> rfl
@[push_cast] theorem ia_eptr : indexAddrV P ty (.eptr cs) (.int k n) M = ob (arrT P ty) (fun x => some (0 ≤ n ∧ n < x.1 ∧ 0 < szT P x.2, det (.eptr (cs.drop (n.toNat * szT P x.2))) M)) .mk := by
 simp only [indexAddrV, ob]
 cases elT P ty <;> cases arrT P ty <;> rfl
@[push_cast] theorem ix_str (h : strT P ty = true) : indexV P ty (.str s) (.int k n) M = some (0 ≤ n ∧ n < s.size, det (.int .u8 ((s[n.toNat]?.getD 0).toNat)) M) := by
 simp only [indexV, h]
@[push_cast] theorem ix_agg : indexV P ty (.agg cs) (.int k n) M = ob (arrT P ty) (fun x => ixB P x.1 x.2 n cs M (aggT P x.2)) .mk := by
 simp only [indexV, ob]
 cases strT P ty <;> cases arrT P ty <;> rfl
@[push_cast] theorem ixB_t {e : TypeId} {len : Nat} {n : Int} : ixB P len e n cs M (some true) = some (0 ≤ n ∧ n < len ∧ n.toNat * szT P e + szT P e ≤ cs.length ∧ 0 < szT P e, det (.agg ((cs.drop (n.toNat * szT P e)).take (szT P e))) M) := Eq.trans rfl rfl
@[push_cast] theorem ixB_f {e : TypeId} {len : Nat} {n : Int} : ixB P len e n cs M (some false) = some (0 ≤ n ∧ n < len ∧ n.toNat * szT P e < cs.length ∧ 0 < szT P e, det (cs[n.toNat * szT P e]?.getD .undef) M) := Eq.trans rfl rfl
@[push_cast] theorem sl_both {k2 : IntKind} : sliceV P ty (.sl cs) (some (.int k n)) (some (.int k2 m)) M = ob (elT P ty) (fun e => some (0 ≤ n ∧ n ≤ m ∧ m ≤ cs.length ∧ (∀ x ∈ cs, x.cells.length = szT P e) ∧ 0 < szT P e, det (.sl ((cs.take m.toNat).drop n.toNat)) M)) .mk := by
 simp only [sliceV, ob, lenV, Option.map_some, Option.getD_some, Option.getD_none]
 cases elT P ty <;> cases strT P ty <;> cases arrT P ty <;> rfl
@[push_cast] theorem sl_lo : sliceV P ty (.sl cs) (some (.int k n)) none M = ob (elT P ty) (fun e => some (0 ≤ n ∧ n ≤ cs.length ∧ (cs.length : Int) ≤ cs.length ∧ (∀ x ∈ cs, x.cells.length = szT P e) ∧ 0 < szT P e, det (.sl ((cs.take ((cs.length : Int).toNat)).drop n.toNat)) M)) .mk := by
 simp only [sliceV, ob, lenV, Option.map_some, Option.getD_some, Option.getD_none]
 cases elT P ty <;> cases strT P ty <;> cases arrT P ty <;> rfl
@[push_cast] theorem sl_hi : sliceV P ty (.sl cs) none (some (.int k m)) M = ob (elT P ty) (fun e => some ((0 : Int) ≤ 0 ∧ 0 ≤ m ∧ m ≤ cs.length ∧ (∀ x ∈ cs, x.cells.length = szT P e) ∧ 0 < szT P e, det (.sl ((cs.take m.toNat).drop (0 : Int).toNat)) M)) .mk := by
 simp only [sliceV, ob, lenV, Option.map_some, Option.getD_some, Option.getD_none]
 cases elT P ty <;> cases strT P ty <;> cases arrT P ty <;> rfl
@[push_cast] theorem mk_eq {d : Nat} {k2 : IntKind} : makeSliceV P (some d) ty (.int k n) (.int k2 m) M = ob (elT P ty) (fun e => mkB P (zeroT P e) d e n m M) .mk := by
 simp only [makeSliceV, ob, lenV, Option.map_some, Option.getD_some, Option.getD_none, mkB]
 cases elT P ty <;> cases strT P ty <;> cases arrT P ty <;> rfl
@[push_cast] theorem mkB_some {d : Nat} : mkB P (some v) d e n m M = if okE P e [v] && (movesE 0 [v]).isEmpty then some (n = m ∧ 0 ≤ n ∧ n * byT P e ≤ 140737488355328 ∧ 0 < szT P e ∧ 0 < byT P e, fun r m => ∃ g, r = .msl d [] (some g) n.toNat n.toNat ∧ m = M.set d (.own e (some g) n.toNat (List.replicate n.toNat v.thinE))) else none := Eq.trans rfl rfl
@[push_cast] theorem ex_eq : extractV (.tuple cs) i M = fdC cs[i]? M := by simp only [extractV, fdC]; cases cs[i]? <;> rfl
@[push_cast] theorem detO_some : detO M (some v) = some (True, det v M) := Eq.trans rfl rfl
@[push_cast] theorem cv_eq {t1 t2 : TypeId} : convertV P t1 t2 (.int k n) M = ob (intT P t1) (fun _ => ob (intT P t2) (fun k2 => some (True, det (.int k2 (k2.wrap n)) M)) .mk) .mk := by simp only [convertV, ob]; cases intT P t1 <;> cases intT P t2 <;> rfl
@[push_cast] theorem len_sl : lenOpV P ty (.sl cs) M = ob (elT P ty) (fun e => some (True, det (.int .i64 cs.length) M)) .mk := by
 simp only [lenOpV, ob, lenV, Option.map_some, Option.getD_some, Option.getD_none]
 cases elT P ty <;> cases strT P ty <;> cases arrT P ty <;> rfl
@[push_cast] theorem len_nilsl : lenOpV P ty .nilsl M = ob (elT P ty) (fun e => some (True, det (.int .i64 (0 : Nat)) M)) .mk := by
 simp only [lenOpV, ob, lenV, Option.map_some, Option.getD_some, Option.getD_none]
 cases elT P ty <;> cases strT P ty <;> cases arrT P ty <;> rfl
@[push_cast] theorem len_msl : lenOpV P ty (.msl o q γ l cap) M = ob (elT P ty) (fun e => some (True, det (.int .i64 l) M)) .mk := by
 simp only [lenOpV, ob, lenV, Option.map_some, Option.getD_some, Option.getD_none]
 cases elT P ty <;> cases strT P ty <;> cases arrT P ty <;> rfl
@[push_cast] theorem len_str (h : strT P ty = true) : lenOpV P ty (.str s) M = some (True, det (.int .i64 s.size) M) := by simp only [lenOpV, h]
@[push_cast] theorem app_eq {d : Nat} : appendV P (some d) ty ty u v M = ob (elT P ty) (fun e => ob (zeroT P e) (fun z => apO (Nat.blt 0 (szT P e) && Nat.beq z.cells.length (szT P e)) (apB P d e v (rowV d e M u))) .mk) .mk := by
 simp only [appendV, ob, apO]
 cases elT P ty with
 | none => rfl
 | some e =>
  simp only
  cases hz : zeroT P e with
  | none => simp
  | some z =>
   simp only [Option.any_some, true_and, Nat.blt_eq, Bool.and_eq_true, beq_iff_eq]
   by_cases h1 : 0 < szT P e <;> by_cases h2 : z.cells.length = szT P e <;> simp [h1, h2, apB, Nat.blt] <;> (cases rowV d e M u with
    | none => rfl
    | some x => obtain ⟨_, _, _⟩ := x; simp only; cases srcV _ v <;> rfl)
@[push_cast] theorem natblt_z {n : Nat} : Nat.blt 0 (n + 1) = true := by simp [Nat.blt]
@[push_cast] theorem natbeq_s {n : Nat} : Nat.beq n n = true := by simp
@[push_cast] theorem apO_t {x : Option (Prop × Post)} : apO true x = x := Eq.trans rfl rfl
@[push_cast] theorem apB_some {d : Nat} : apB P d e v (some (pr, cs, M)) = apC P d e pr cs (srcV M v) := by simp only [apB, apC]
@[push_cast] theorem apC_some {d : Nat} {pr' : Prop} : apC P d e pr cs (some (pr', cs', M)) = some (pr ∧ pr' ∧ (cs.length + cs'.length) * byT P e ≤ 140737488355328 ∧ 0 < byT P e ∧ okY P e cs', AppR d e cs cs' M) := Eq.trans rfl rfl
@[push_cast] theorem row_nil : rowV a e M .nilsl = some (True, [], M) := Eq.trans rfl rfl
@[push_cast] theorem row_msl : rowV a e M (.msl o [] γ l cap) = rwA (M o) e o γ l cap M := by
 simp only [rowV, rwA]
 cases M o with
 | none => rfl
 | some v => cases v <;> rfl
@[push_cast] theorem row_msl1 : rowV a e M (.msl o [(x, y)] γ l cap) = rwQ (M.getP o [(x, y)]) a e o [] x y γ l cap M := by
 simp only [rowV, rwQ, List.getLast?_singleton, List.dropLast_singleton]
 cases M.getP o [(x, y)] with
 | none => rfl
 | some v => cases v <;> rfl
@[push_cast] theorem row_msl2 : rowV a e M (.msl o [(i, j), (x, y)] γ l cap) = rwQ (M.getP o [(i, j), (x, y)]) a e o [(i, j)] x y γ l cap M := by
 have h1 : ([(i, j), (x, y)] : Path).getLast? = some (x, y) := rfl
 have h2 : ([(i, j), (x, y)] : Path).dropLast = [(i, j)] := rfl
 simp only [rowV, rwQ, h1, h2]
 cases M.getP o [(i, j), (x, y)] with
 | none => rfl
 | some v => cases v <;> rfl
@[push_cast] theorem rwQ_some {e' : TypeId} {γ' : Option Nat} {cap' : Nat} : rwQ (some (.own e' γ' cap' cs)) a e o q i j γ l cap M = if a ≠ o then some (γ' = γ ∧ cap' = cap ∧ cs.length = l ∧ (γ' = none ∨ e' = e), cs, (M.setP o q i j .undef).era a) else none := Eq.trans rfl rfl
@[push_cast] theorem rwA_some {e' : TypeId} {γ' : Option Nat} {cap' : Nat} : rwA (some (.own e' γ' cap' cs)) e a γ l cap M = some (γ' = γ ∧ cap' = cap ∧ cs.length = l ∧ (γ' = none ∨ e' = e), cs, M.era a) := Eq.trans rfl rfl
@[push_cast] theorem src_sl : srcV M (.sl cs) = some (True, cs, M) := Eq.trans rfl rfl
@[push_cast] theorem src_nilsl : srcV M .nilsl = some (True, [], M) := Eq.trans rfl rfl
@[push_cast] theorem src_msl : srcV M (.msl o [] γ l cap) = srA (M o) o γ l M := by
 have e : M.getP o [] = M o := by simp only [Mem.getP]; cases M o <;> rfl
 simp only [srcV, e, srA, srF, flatL]
 cases M o with
 | none => rfl
 | some v => cases v <;> simp
@[push_cast] theorem src_mslp : srcV M (.msl o (a0 :: q') γ l cap) = srP (M.getP o (a0 :: q')) γ l M := by
 simp only [srcV, srP, flatL]
 cases M.getP o (a0 :: q') with
 | none => rfl
 | some v => cases v <;> simp
@[push_cast] theorem srA_some {e' : TypeId} {γ' : Option Nat} {cap' : Nat} : srA (some (.own e' γ' cap' cs)) o γ l M = srF (flatL cs) (γ' = γ ∧ cs.length = l) cs M (M.era o) := Eq.trans rfl rfl
@[push_cast] theorem srP_some {e' : TypeId} {γ' : Option Nat} {cap' : Nat} : srP (some (.own e' γ' cap' cs)) γ l M = if flatL cs = true then some (γ' = γ ∧ cs.length = l, cs, M) else none := Eq.trans rfl rfl
@[push_cast] theorem srF_t : srF true pr cs M M' = some (pr, cs, M) := Eq.trans rfl rfl
@[push_cast] theorem srF_f : srF false pr cs M M' = some (pr, cs, M') := Eq.trans rfl rfl
@[push_cast] theorem flatL_nil : flatL [] = true := Eq.trans rfl rfl
@[push_cast] theorem flatL_cons : flatL (v :: cs) = (v.cells.all V.flatC && flatL cs) := Eq.trans rfl rfl
@[push_cast] theorem flatL_app : flatL (cs ++ cs') = (flatL cs && flatL cs') := by simp [flatL]
@[push_cast] theorem flatC_int : (V.int k n).flatC = true := Eq.trans rfl rfl
@[push_cast] theorem flatC_bool : (V.bool b).flatC = true := Eq.trans rfl rfl
@[push_cast] theorem flatC_str : (V.str s).flatC = true := Eq.trans rfl rfl
@[push_cast] theorem flatC_sl : (V.sl cs).flatC = true := Eq.trans rfl rfl
@[push_cast] theorem flatC_own {e' : TypeId} {g' : Nat} : (V.own e' (some g') cap cs).flatC = false := by cases cs <;> cases cap <;> rfl
@[push_cast] theorem flatC_own_nil {e' : TypeId} : (V.own e' none 0 []).flatC = true := Eq.trans rfl rfl
@[push_cast] theorem okY_app : okY P e (cs ++ cs') = (okY P e cs ∧ okY P e cs') := by
 simp only [okY, List.mem_append, eq_iff_iff]
 exact ⟨fun h => ⟨fun y hy => h y (.inl hy), fun y hy => h y (.inr hy)⟩, fun h y hy => hy.elim (h.1 y) (h.2 y)⟩
@[push_cast] theorem setL_nil : setL [] vs = vs := Eq.trans rfl rfl
@[push_cast] theorem setL_cons {f : List (Nat × V)} : setL ((a, v) :: f) vs = setL f (vs.set a v) := Eq.trans rfl rfl
@[push_cast] theorem ofVal_agg {f : List Value} : ofVal (.agg ⟨f⟩) = .agg (ofVal.go f) := Eq.trans rfl rfl
@[push_cast] theorem ofVal_go_nil : ofVal.go [] = [] := Eq.trans rfl rfl
@[push_cast] theorem ofVal_go_cons {f : List Value} {z : Value} : ofVal.go (z :: f) = ofVal z :: ofVal.go f := Eq.trans rfl rfl
@[push_cast] theorem ofVal_str : ofVal (.string s) = .str s := Eq.trans rfl rfl
@[push_cast] theorem resL_nil {t : Nat → V} : resL P t M [] = some (True, []) := Eq.trans rfl rfl
@[push_cast] theorem resL_cons {t : Nat → V} {r : ResultVar} {rs : List ResultVar} : resL P t M (r :: rs) = rsA (resV P t M r) (resL P t M rs) := by
 simp only [resL, rsA]
 cases resV P t M r with
 | none => rfl
 | some x => cases resL P t M rs <;> rfl
@[push_cast] theorem rsA_some {pr' : Prop} : rsA (some (pr, v)) (some (pr', vs)) = some (pr ∧ pr', v :: vs) := Eq.trans rfl rfl
@[push_cast] theorem resV_tmp {t : Nat → V} : resV P t M (.tmp i) = some (True, t i) := Eq.trans rfl rfl
@[push_cast] theorem okY_nil : okY P e [] = True := by simp [okY]
@[push_cast] theorem okY_cons : okY P e (v :: vs) = ((v.cells.length = szT P e ∧ v.cells.all V.one = true) ∧ okY P e vs) := by simp [okY]
@[push_cast] theorem bin_add {f : Int} : binV .add (.int k n) (.int k f) = some (.int k (k.wrap (n + f))) := by simp [binV, intOp]
@[push_cast] theorem bin_sub {f : Int} : binV .sub (.int k n) (.int k f) = some (.int k (k.wrap (n - f))) := by simp [binV, intOp]
@[push_cast] theorem bin_mul {f : Int} : binV .mul (.int k n) (.int k f) = some (.int k (k.wrap (n * f))) := by simp [binV, intOp]
@[push_cast] theorem bin_quo {f : Int} : binV .quo (.int k n) (.int k f) = if f = 0 then none else some (.int k (k.wrap (n.tdiv f))) := by simp [binV, intOp]
@[push_cast] theorem bin_rem {f : Int} : binV .rem (.int k n) (.int k f) = if f = 0 then none else some (.int k (n.tmod f)) := by simp [binV, intOp]
@[push_cast] theorem bin_eql {f : Int} : binV .eql (.int k n) (.int k f) = some (.bool (n == f)) := by simp [binV, intOp]
@[push_cast] theorem bin_neq {f : Int} : binV .neq (.int k n) (.int k f) = some (.bool (n != f)) := by simp [binV, intOp]
@[push_cast] theorem bin_lss {f : Int} : binV .lss (.int k n) (.int k f) = some (.bool (decide (n < f))) := by simp [binV, intOp]
@[push_cast] theorem bin_leq {f : Int} : binV .leq (.int k n) (.int k f) = some (.bool (decide (n ≤ f))) := by simp [binV, intOp]
@[push_cast] theorem bin_gtr {f : Int} : binV .gtr (.int k n) (.int k f) = some (.bool (decide (f < n))) := by simp [binV, intOp]
@[push_cast] theorem bin_geq {f : Int} : binV .geq (.int k n) (.int k f) = some (.bool (decide (f ≤ n))) := by simp [binV, intOp]
def xorI (a b : Int) : Int := IntKind.i64.wrap (BitVec.ofInt 64 a ^^^ BitVec.ofInt 64 b).toNat
@[push_cast] theorem bin_xor {f : Int} : binV .xor (.int .i64 n) (.int .i64 f) = some (.int .i64 (xorI n f)) := by simp only [binV, intOp, if_true]; rfl
@[push_cast] theorem bin_seql {s' : ByteArray} : binV .eql (.str s) (.str s') = some (.bool (s.toList == s'.toList)) := Eq.trans rfl rfl
@[push_cast] theorem bin_sneq {s' : ByteArray} : binV .neq (.str s) (.str s') = some (.bool !(s.toList == s'.toList)) := Eq.trans rfl rfl
@[push_cast] theorem binE_int {op : BinOp} {ty : TypeId} {k k' : IntKind} {a b : Int} : binE P op ty (.int k a) (.int k' b) = binV op (.int k a) (.int k' b) := Eq.trans rfl rfl
@[push_cast] theorem binE_str {op : BinOp} {ty : TypeId} {s' : ByteArray} : binE P op ty (.str s) (.str s') = binV op (.str s) (.str s') := Eq.trans rfl rfl
@[push_cast] theorem binE_eql {ty : TypeId} {a b : Bool} : binE P .eql ty (.bool a) (.bool b) = if boolT P ty = true then some (.bool (a == b)) else none := Eq.trans rfl rfl
@[push_cast] theorem binE_neq {ty : TypeId} {a b : Bool} : binE P .neq ty (.bool a) (.bool b) = if boolT P ty = true then some (.bool !(a == b)) else none := Eq.trans rfl rfl
@[push_cast] theorem un_not : unV .not (.bool b) = some (.bool !b) := Eq.trans rfl rfl
@[push_cast] theorem un_neg : unV .neg (.int k n) = some (.int k (k.wrap (0 - n))) := Eq.trans rfl rfl
@[push_cast] theorem fill_nil {pl : Nat → Option (Nat × Nat)} : fillV pl cs [] = some cs := Eq.trans rfl rfl
@[push_cast] theorem resN_msl {d : Nat} : resN (some d) (.msl 100 q γ l cap) = .msl d q γ l cap := Eq.trans rfl rfl
@[push_cast] theorem resN_ptr {d : Nat} : resN (some d) (.ptr 100 q i j g k') = .ptr d q i j g k' := Eq.trans rfl rfl
@[push_cast] theorem renArgs_nil : renArgs a [] = [] := Eq.trans rfl rfl
@[push_cast] theorem renArgs_cons : renArgs a (v :: vs) = v.ren a :: renArgs (a + 1) vs := Eq.trans rfl rfl
@[push_cast] theorem MemU_some : MemU M a (some v) = M.set a v := Eq.trans rfl rfl
@[push_cast] theorem MemU_none : MemU M a none = M.era a := Eq.trans rfl rfl
@[push_cast] theorem mg_nil : mg a [] M Mf = M := Eq.trans rfl rfl
@[push_cast] theorem mg_none {ks : List (Option Nat)} : mg a (none :: ks) M Mf = mg (a + 1) ks M Mf := Eq.trans rfl rfl
@[push_cast] theorem mg_some {ks : List (Option Nat)} : mg a (some c :: ks) M Mf = MemU (mg (a + 1) ks M Mf) c (Mf a) := Eq.trans rfl rfl
@[push_cast] theorem mgD_none {x : Option V} : mgD none x M = M := Eq.trans rfl rfl
@[push_cast] theorem mgD_none' : mgD d none M = M := by cases d <;> rfl
@[push_cast] theorem mgD_some {d : Nat} : mgD (some d) (some v) M = M.set d v := Eq.trans rfl rfl
theorem mg_at : ∀ (ks : List (Option Nat)) (i k : Nat), mg i ks M Mf k = match ks.idxOf? (some k) with | some j => Mf (i + j) | none => M k
 | [], i, k => rfl
 | none :: ks, i, k => by
  rw [mg, mg_at ks (i + 1) k, List.idxOf?_cons]
  cases ks.idxOf? (some k) <;> simp [Nat.add_assoc, Nat.add_comm 1]
 | some k' :: ks, i, k => by
  rw [mg, List.idxOf?_cons]
  by_cases hk : k = k'
  ·subst hk
   simp only [beq_self_eq_true, if_true, Nat.add_zero]
   cases h : Mf i <;> simp [MemU, Mem.set, Mem.era]
  ·have : MemU (mg (i + 1) ks M Mf) k' (Mf i) k = mg (i + 1) ks M Mf k := by
    cases h : Mf i <;> simp [MemU, Mem.set, Mem.era, hk]
   rw [this, mg_at ks (i + 1) k]
   have hk' : ¬ k' = k := fun h => hk h.symm
   cases ks.idxOf? (some k) <;> simp [hk', Nat.add_assoc, Nat.add_comm 1]
@[push_cast] theorem merge_eq {ks : List (Option Nat)} : mergeM M ks d Mf = mgD d (Mf 100) (mg 0 ks M Mf) := by
 funext k
 unfold mergeM
 cases hd : d with
 | none => simp only [mgD, reduceCtorEq, false_and, if_false]; rw [mg_at]; cases ks.idxOf? (some k) <;> simp
 | some d' =>
  cases h1 : Mf 100 with
  | none => simp only [mgD, Option.isSome_none, Bool.false_eq_true, and_false, if_false]; rw [mg_at]; cases ks.idxOf? (some k) <;> simp
  | some v =>
   simp only [mgD, Option.isSome_some, and_true, Option.some.injEq, Mem.set]
   by_cases hk : k = d'
   ·subst hk; simp
   ·have hk' : ¬ d' = k := fun h => hk h.symm
    simp only [hk, hk', if_false]; rw [mg_at]; cases ks.idxOf? (some k) <;> simp
@[push_cast] theorem footM_at {ks : List (Option Nat)} : footM M ks a = ((ks[a]?).bind id).bind M := Eq.trans rfl rfl
theorem renArgs_none : ∀ {vs : List V} {i : Nat}, (vs.all fun v => v.key.isNone) = true → renArgs i vs = vs
 | [], _, _ => rfl
 | v :: vs, i, h => by
  simp only [List.all_cons, Bool.and_eq_true] at h
  rw [renArgs, renArgs_none h.2]
  cases v <;> first | rfl | (simp [V.key] at h)
theorem mg_all_none : ∀ {ks : List (Option Nat)} {i : Nat}, (ks.all fun x => x.isNone) = true → mg i ks M Mf = M
 | [], _, _ => rfl
 | none :: ks, i, h => by simp only [List.all_cons, Bool.and_eq_true] at h; rw [mg]; exact mg_all_none h.2
 | some k :: ks, i, h => by simp at h
theorem keys_none : ∀ {ks : List (Option Nat)}, (ks.all fun x => x.isNone) = true → ks.filterMap id = []
 | [], _ => rfl
 | none :: ks, h => by simp only [List.all_cons, Bool.and_eq_true] at h; rw [List.filterMap_cons]; exact keys_none h.2
 | some k :: ks, h => by simp at h
abbrev Fp (P : Program) (f : FuncId) (args : List V) (v : V) : Prop := Fc P f args noM fun r m => r = v ∧ m = noM
theorem callR.pure {f : FuncId} {args : List V} {k : V → Mem → Prop} (h : Fp P f args v) (hk : (args.all fun v => v.key.isNone) = true) (h9 : Nat.ble args.length 90 = true) (h' : runV (some (True, det (resN d v) M)) k .mk) : callR P f args d M k .mk := by
 replace h' := (runV_det.1 h').2
 have hk' : ((args.map V.key).all fun x => x.isNone) = true := by rw [List.all_map]; exact hk
 refine callR.intro (F := noM) (R := fun r m => r = v ∧ m = noM) (by rw [renArgs_none hk]; exact h) (by rw [keys_none hk']; exact List.nodup_nil) (Nat.le_of_ble_eq_true h9) Sub.no ?_
 rintro r0 Mf ⟨rfl, rfl⟩
 rw [merge_eq, mg_all_none hk']
 cases d <;> exact h'
theorem wrap_ok {n : Int} (h : -9223372036854775808 ≤ n) (h2 : n < 9223372036854775808) : IntKind.i64.wrap n = n := by
 unfold IntKind.wrap
 have e1 : (2 : Int) ^ IntKind.i64.bits = 18446744073709551616 := by decide
 have e2 : (2 : Int) ^ (IntKind.i64.bits - 1) = 9223372036854775808 := by decide
 have e3 : IntKind.i64.signed = true := rfl
 simp only [e1, e2, e3, Bool.true_and, decide_eq_true_eq, ge_iff_le]
 split <;> omega
theorem Sub.set {F : Mem} (h : Sub F M) (hv : M a = some v) : Sub (F.set a v) M := by
 intro k u hk
 simp only [Mem.set] at hk
 split at hk
 ·cases hk; subst_vars; exact hv
 ·exact h k u hk
end
end Go.Proofs.YtkdolbffabmemaaGreatDoor
