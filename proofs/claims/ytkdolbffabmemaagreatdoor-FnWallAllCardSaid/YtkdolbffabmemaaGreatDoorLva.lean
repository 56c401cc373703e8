/-
 A machine of values: data as values, slices that are never written again as lists, objects that are written as trees that own their blocks. No program text here.
-/
import Derived.WalkKit
import Derived.Orders
import Derived.Laws.AppendOwn
import Derived.Laws.OwnMore
import Derived.Laws.AppendOwnNone
import Derived.WalkLawsBesides
import Derived.Lib.Hide
namespace Go.Proofs.YtkdolbffabmemaaGreatDoor
open Go.RowKit
set_option linter.unusedSimpArgs false
set_option linter.unusedVariables false
inductive V where
 | int (k : IntKind) (n : Int)
 | bool (b : Bool)
 | str (s : ByteArray)
 | agg (cs : List V)
 | sl (es : List V)
 | nilsl
 | msl (o : Nat) (q : List (Nat × Nat)) (γ : Option Nat) (len cap : Nat)
 | ptr (o : Nat) (q : List (Nat × Nat)) (i j g k : Nat)
 | eptr (cs : List V)
 | nilp
 | fn (f : Fn) (first cap : List V)
 | nilfn
 | own (e : TypeId) (γ : Option Nat) (cap : Nat) (es : List V)
 | tuple (vs : List V)
 | undef
deriving Inhabited
abbrev Path := List (Nat × Nat)
abbrev Mem := Nat → Option V
def V.cells : V → List V
 | .agg cs => cs
 | v => [v]
def V.one : V → Bool
 | .agg _ | .tuple _ | .undef => false
 | _ => true
def V.isOwn : V → Bool
 | .own .. => true
 | _ => false
def V.cellAt (v : V) (i j : Nat) : Option V :=
 match v with
 | .own _ _ _ es => (es[i]?).bind fun x => x.cells[j]?
 | _ => none
def V.getP : V → Path → Option V
 | v, [] => some v
 | v, (i, j) :: p => (v.cellAt i j).bind fun c => c.getP p
def V.setC (x : V) (j : Nat) (c : V) : V :=
 match x with
 | .agg cs => .agg (cs.set j c)
 | _ => c
def V.setIJ (v : V) (i j : Nat) (c : V) : V :=
 match v with
 | .own e γ cap es => .own e γ cap (es.modify i fun x => x.setC j c)
 | v => v
def V.setP : V → Path → Nat → Nat → V → V
 | v, [], i, j, c => v.setIJ i j c
 | v, (a, b) :: p, i, j, c =>
  match v.cellAt a b with
  | some x => v.setIJ a b (x.setP p i j c)
  | none => v
def Mem.set (M : Mem) (o : Nat) (v : V) : Mem := fun k => if k = o then some v else M k
def Mem.era (M : Mem) (o : Nat) : Mem := fun k => if k = o then none else M k
def Mem.getP (M : Mem) (o : Nat) (q : Path) : Option V := (M o).bind fun v => v.getP q
def Mem.setP (M : Mem) (o : Nat) (q : Path) (i j : Nat) (c : V) : Mem :=
 match M o with
 | some v => M.set o (v.setP q i j c)
 | none => M
def V.fz : V → V
 | .own _ _ _ es => .sl (fzs es)
 | .agg cs => .agg (fzs cs)
 | v => v
where fzs : List V → List V
 | [] => []
 | x :: xs => x.fz :: fzs xs
theorem fzs_map (l : List V) : V.fz.fzs l = l.map V.fz := by
 induction l with
 | nil => rfl
 | cons x l ih => simp [V.fz.fzs, ih]
inductive Rp (imm : Nat → Prop) (w : World) : V → Value → Prop
 | int (k n) : Rp imm w (.int k n) (.int k n)
 | bool (b) : Rp imm w (.bool b) (.bool b)
 | str (s) : Rp imm w (.str s) (.string s)
 | agg (cs : List V) (arr : Array Value) (hl : arr.size = cs.length) (h : ∀ (j : Nat) (c : V) (u : Value), cs[j]? = some c → arr[j]? = some u → Rp imm w c u) : Rp imm w (.agg cs) (.agg arr)
 | sl0 (A c) : Rp imm w (.sl []) (.slice A 0 c)
 | sl (es : List V) (g off cap k : Nat) (cur : Array Value) (t : TypeId) (fr : Nat × Nat) (f : Nat → Nat → Value) (hi : imm g) (hg : w.heap[g]? = some (.cells cur t fr)) (hk : es.length ≤ cap)
   (hl : ∀ (i : Nat) (x : V), es[i]? = some x → x.cells.length = k)
   (hc : ∀ (i : Nat) (x : V) (j : Nat) (c : V), es[i]? = some x → x.cells[j]? = some c → cur[off + i * k + j]? = some (f i j))
   (h : ∀ (i : Nat) (x : V) (j : Nat) (c : V), es[i]? = some x → x.cells[j]? = some c → Rp imm w c (f i j)) : Rp imm w (.sl es) (.slice (some ⟨g, off, none⟩) es.length cap)
 | nilsl : Rp imm w .nilsl (.slice none 0 0)
 | msl (o q γ len cap) : Rp imm w (.msl o q γ len cap) (.slice (γ.map fun g => ⟨g, 0, none⟩) len cap)
 | ptr (o q i j g k) : Rp imm w (.ptr o q i j g k) (.pointer (some ⟨g, i * k + j, none⟩))
 | eptr (cs : List V) (g off : Nat) (cur : Array Value) (t : TypeId) (fr : Nat × Nat) (f : Nat → Value) (hi : imm g) (hg : w.heap[g]? = some (.cells cur t fr))
   (hc : ∀ (j : Nat) (c : V), cs[j]? = some c → cur[off + j]? = some (f j)) (h : ∀ (j : Nat) (c : V), cs[j]? = some c → Rp imm w c (f j)) : Rp imm w (.eptr cs) (.pointer (some ⟨g, off, none⟩))
 | nilp : Rp imm w .nilp (.pointer none)
 | fn (f : Fn) (as bs : List V) (ar br : Array Value) (ha : ar.size = as.length) (hb : br.size = bs.length) (h : ∀ (j : Nat) (c : V) (u : Value), as[j]? = some c → ar[j]? = some u → Rp imm w c u)
   (h' : ∀ (j : Nat) (c : V) (u : Value), bs[j]? = some c → br[j]? = some u → Rp imm w c u) : Rp imm w (.fn f as bs) (.func f ar br)
 | nilfn : Rp imm w .nilfn .nilFunc
 | tuple (cs : List V) (arr : Array Value) (hl : arr.size = cs.length) (h : ∀ (j : Nat) (c : V) (u : Value), cs[j]? = some c → arr[j]? = some u → Rp imm w c u) : Rp imm w (.tuple cs) (.tuple arr)
 | undef (v) : Rp imm w .undef v
def Ev (imm : Nat → Prop) (w : World) (imm' : Nat → Prop) (w' : World) : Prop := ∀ g, imm g → imm' g ∧ w'.heap[g]? = w.heap[g]?
theorem Rp.ev {imm imm' : Nat → Prop} {w w' : World} (he : Ev imm w imm' w') {v : V} {x : Value} (h : Rp imm w v x) : Rp imm' w' v x := by
 induction h with
 | int k n => exact .int k n
 | bool b => exact .bool b
 | str s => exact .str s
 | agg cs arr hl h ih => exact .agg cs arr hl ih
 | sl0 A c => exact .sl0 A c
 | sl es g off cap k cur t fr f hi hg hk hl hc h ih => exact .sl es g off cap k cur t fr f (he g hi).1 ((he g hi).2.trans hg) hk hl hc ih
 | nilsl => exact .nilsl
 | msl o q γ len cap => exact .msl ..
 | ptr o q i j g k => exact .ptr ..
 | eptr cs g off cur t fr f hi hg hc h ih => exact .eptr cs g off cur t fr f (he g hi).1 ((he g hi).2.trans hg) hc ih
 | nilp => exact .nilp
 | fn f as bs ar br ha hb h h' ih ih' => exact .fn f as bs ar br ha hb ih ih'
 | nilfn => exact .nilfn
 | tuple cs arr hl h ih => exact .tuple cs arr hl ih
 | undef v => exact .undef v
def Rc (imm : Nat → Prop) (w : World) (c : V) (u : Value) : Prop :=
 match c with
 | .own _ γ cap es => u = .slice (γ.map fun g => ⟨g, 0, none⟩) es.length cap
 | c => Rp imm w c u
def Nd (sz : TypeId → Nat) (imm : Nat → Prop) (w : World) : V → Prop
 | .own _ none cap es => es = [] ∧ cap = 0
 | .own e (some g) cap es => ¬ imm g ∧ es.length ≤ cap ∧ cap ≤ maxLen ∧ ∃ cur, w.heap[g]? = some (.cells cur e (0, 0)) ∧ cur.size = cap * sz e ∧
   ∀ i x, es[i]? = some x → x.cells.length = sz e ∧ ∀ j c, x.cells[j]? = some c → ∃ u, cur[i * sz e + j]? = some u ∧ u.oneCell' = true ∧ Rc imm w c u
 | _ => True
structure Inv (sz : TypeId → Nat) (imm : Nat → Prop) (w : World) (M : Mem) : Prop where
 nd : ∀ o q v, M.getP o q = some v → Nd sz imm w v
 top : ∀ o v, M o = some v → v.isOwn = true
 inj : ∀ o q o' q' g e cap es e' cap' es', M.getP o q = some (.own e (some g) cap es) → M.getP o' q' = some (.own e' (some g) cap' es') → o = o' ∧ q = q'
def Mem.owns (M : Mem) (g : Nat) : Prop := ∃ o q e cap es, M.getP o q = some (.own e (some g) cap es)
def Same (d d' : V) : Prop := d = d' ∨ ∃ e γ cap l l', d = .own e γ cap l ∧ d' = .own e γ cap l' ∧ l.length = l'.length
def Up (here : Nat → Nat → Prop) (c : V) (n n' : V) : Prop :=
 n = n' ∨ ∃ e γ cap es es', n = .own e γ cap es ∧ n' = .own e γ cap es' ∧ es'.length = es.length ∧
  ∀ (i : Nat) x', es'[i]? = some x' → ∃ x, es[i]? = some x ∧ x'.cells.length = x.cells.length ∧
   ∀ (j : Nat) d', x'.cells[j]? = some d' → ∃ d, x.cells[j]? = some d ∧ (Same d d' ∨ (here i j ∧ d' = c))
theorem cells_setC {x : V} {j : Nat} {c : V} (hc : c.cells = [c]) (hj : j < x.cells.length) : (x.setC j c).cells = x.cells.set j c := by
 cases x <;> simp [V.cells] at hj ⊢ <;> (try subst hj) <;> simp_all [V.setC, V.cells]
theorem setIJ_up {v : V} {i j : Nat} {c d0 : V} {here : Nat → Nat → Prop} (hc : c.cells = [c]) (h : v.cellAt i j = some d0) (hh : Same d0 c ∨ here i j) :
  Up here c v (v.setIJ i j c) := by
 cases v <;> simp [V.cellAt, Option.bind_eq_some_iff] at h
 rename_i e γ cap es
 obtain ⟨x, hx, hd⟩ := h
 refine .inr ⟨e, γ, cap, es, _, rfl, rfl, by simp, fun i' x' hx' => ?_⟩
 rw [List.getElem?_modify] at hx'
 by_cases hi : i = i'
 ·subst hi
  simp only [if_true, hx, Option.map_eq_map, Option.map_some, Option.some.injEq] at hx'
  have hj : j < x.cells.length := (List.getElem?_eq_some_iff.1 hd).1
  have hcs := cells_setC (x := x) hc hj
  subst hx'
  refine ⟨x, hx, by rw [hcs]; simp, fun j' d' hd' => ?_⟩
  rw [hcs, List.getElem?_set] at hd'
  by_cases hjj : j = j'
  ·subst hjj
   simp [hj] at hd'
   subst hd'
   exact ⟨d0, hd, hh.imp id (fun h => ⟨h, rfl⟩)⟩
  ·simp [hjj] at hd'
   exact ⟨d', hd', .inl (.inl rfl)⟩
 ·simp only [hi, if_false, Option.map_id] at hx'
  have hx'' : es[i']? = some x' := by simpa using hx'
  exact ⟨x', hx'', rfl, fun j' d' hd' => ⟨d', hd', .inl (.inl rfl)⟩⟩
theorem setIJ_cellAt {v : V} {i j i' j' : Nat} {c d0 : V} (hc : c.cells = [c]) (h : v.cellAt i j = some d0) :
  (v.setIJ i j c).cellAt i' j' = if i' = i ∧ j' = j then some c else v.cellAt i' j' := by
 cases v <;> simp [V.cellAt, Option.bind_eq_some_iff] at h
 rename_i e γ cap es
 obtain ⟨x, hx, hd⟩ := h
 have hj : j < x.cells.length := (List.getElem?_eq_some_iff.1 hd).1
 simp only [V.setIJ, V.cellAt, List.getElem?_modify]
 by_cases hi : i = i'
 ·subst hi
  simp only [hx, Option.map_eq_map, Option.map_some, if_true, Option.bind_some, true_and]
  rw [cells_setC hc hj, List.getElem?_set]
  by_cases hjj : j = j'
  ·subst hjj; simp [hj]
  ·have : ¬ j' = j := fun e => hjj e.symm
   simp [hjj, this]
 ·have : ¬ i' = i := fun e => hi e.symm
  simp [hi, this]
theorem cellAt_own {v : V} {i j : Nat} {c : V} (h : v.cellAt i j = some c) : v.isOwn = true := by
 cases v <;> simp [V.cellAt, V.isOwn] at h ⊢
theorem getP_nonown {v : V} (h : v.isOwn = false) {p : Path} {n : V} (hp : v.getP p = some n) : p = [] ∧ n = v := by
 cases p with
 | nil => simpa [V.getP, eq_comm] using hp
 | cons a p =>
  obtain ⟨i, j⟩ := a
  simp only [V.getP] at hp
  cases hc : v.cellAt i j with
  | none => simp [hc] at hp
  | some c => rw [cellAt_own hc] at h; cases h
theorem setP_hdr {q : Path} : ∀ {v : V} {i j : Nat} {c : V}, v.isOwn = true → ∃ e γ cap l l', v = .own e γ cap l ∧ v.setP q i j c = .own e γ cap l' ∧ l.length = l'.length := by
 induction q with
 | nil =>
  intro v i j c h
  cases v <;> simp [V.isOwn] at h
  exact ⟨_, _, _, _, _, rfl, rfl, by simp⟩
 | cons a q ih =>
  intro v i j c h
  obtain ⟨a, b⟩ := a
  cases v <;> simp [V.isOwn] at h
  rename_i e γ cap es
  simp only [V.setP]
  split
  ·exact ⟨_, _, _, _, _, rfl, rfl, by simp⟩
  ·exact ⟨_, _, _, _, _, rfl, rfl, rfl⟩
theorem one_of_own {v : V} (h : v.isOwn = true) : v.cells = [v] := by cases v <;> simp_all [V.isOwn, V.cells]
theorem setP_own {q : Path} {v : V} {i j : Nat} {c : V} (h : v.isOwn = true) : (v.setP q i j c).isOwn = true := by
 obtain ⟨_, _, _, _, _, _, h2, _⟩ := setP_hdr (q := q) (i := i) (j := j) (c := c) h
 rw [h2]; rfl
theorem getP_setP {q : Path} : ∀ {v n0 d0 : V} {i j : Nat} {c : V}, c.cells = [c] → v.getP q = some n0 → n0.cellAt i j = some d0 → ∀ {p : Path} {n' : V}, (v.setP q i j c).getP p = some n' →
  (∃ r, p = q ++ (i, j) :: r ∧ c.getP r = some n') ∨
  ((¬ ∃ r, p = q ++ (i, j) :: r) ∧ ∃ n, v.getP p = some n ∧ Up (fun i' j' => p = q ∧ i' = i ∧ j' = j) c n n') := by
 induction q with
 | nil =>
  intro v n0 d0 i j c hc hv hd p n' hp
  simp [V.getP] at hv
  subst hv
  simp only [V.setP] at hp
  cases p with
  | nil =>
   simp [V.getP] at hp
   subst hp
   exact .inr ⟨by simp, v, rfl, setIJ_up hc hd (.inr ⟨rfl, rfl, rfl⟩)⟩
  | cons a p =>
   obtain ⟨a, b⟩ := a
   simp only [V.getP] at hp
   rw [setIJ_cellAt hc hd] at hp
   by_cases hab : a = i ∧ b = j
   ·obtain ⟨rfl, rfl⟩ := hab
    simp at hp
    exact .inl ⟨p, rfl, hp⟩
   ·simp only [hab, if_false] at hp
    refine .inr ⟨by simpa using hab, n', ?_, .inl rfl⟩
    simpa [V.getP] using hp
 | cons a q ih =>
  intro v n0 d0 i j c hc hv hd p n' hp
  obtain ⟨a, b⟩ := a
  simp only [V.getP] at hv
  cases hx : v.cellAt a b with
  | none => simp [hx] at hv
  | some x =>
   simp only [hx, Option.bind_some] at hv
   simp only [V.setP, hx] at hp
   have hxo : x.isOwn = true := by
    cases q with
    | nil => simp [V.getP] at hv; subst hv; exact cellAt_own hd
    | cons b' q' =>
     obtain ⟨a', b'⟩ := b'
     simp only [V.getP] at hv
     cases hy : x.cellAt a' b' with
     | none => simp [hy] at hv
     | some y => exact cellAt_own hy
   have hs1 : (x.setP q i j c).cells = [x.setP q i j c] := one_of_own (setP_own hxo)
   have hsame : Same x (x.setP q i j c) := .inr (setP_hdr hxo)
   cases p with
   | nil =>
    simp [V.getP] at hp
    subst hp
    refine .inr ⟨by simp, v, rfl, ?_⟩
    rcases setIJ_up (here := fun _ _ => False) (v := v) (i := a) (j := b) (c := x.setP q i j c) hs1 hx (.inl hsame) with h | ⟨e, γ, cap, es, es', h1, h2, h3, h4⟩
    ·exact .inl h
    ·refine .inr ⟨e, γ, cap, es, es', h1, h2, h3, fun i' x' hx' => ?_⟩
     obtain ⟨y, hy, hl, hcs⟩ := h4 i' x' hx'
     refine ⟨y, hy, hl, fun j' d' hd' => ?_⟩
     obtain ⟨d, hd1, hd2⟩ := hcs j' d' hd'
     exact ⟨d, hd1, .inl (hd2.resolve_right (fun h => h.1))⟩
   | cons a2 p =>
    obtain ⟨a2, b2⟩ := a2
    simp only [V.getP] at hp
    rw [setIJ_cellAt hs1 hx] at hp
    by_cases hab : a2 = a ∧ b2 = b
    ·obtain ⟨rfl, rfl⟩ := hab
     simp at hp
     rcases ih hc hv hd hp with ⟨r, hr, hcr⟩ | ⟨hn, n, hn1, hn2⟩
     ·exact .inl ⟨r, by rw [hr]; rfl, hcr⟩
     ·refine .inr ⟨by simpa using hn, n, ?_, ?_⟩
      ·simp [V.getP, hx, hn1]
      ·simpa using hn2
    ·simp only [hab, if_false] at hp
     refine .inr ⟨fun ⟨r, hr⟩ => hab (by simp at hr; exact hr.1), n', ?_, .inl rfl⟩
     simpa [V.getP] using hp
end Go.Proofs.YtkdolbffabmemaaGreatDoor
