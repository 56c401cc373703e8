/-
 The machine of values: reckoning through a region that draws its order.
-/
import Derived.Test.YtkdolbffabmemaaGreatDoorLvu
namespace Go.Proofs.YtkdolbffabmemaaGreatDoor
open Go.RowKit
set_option linter.unusedSimpArgs false
set_option linter.unusedVariables false
section
variable {P : Program} {Φ : Table} {N : Nat} {M M' Mf : Mem} {t : Nat → V} {K : (Nat → V) → Mem → Prop} {k : V → Mem → Prop} {ds : List (Option Nat)} {l : List (Nat × Oper)} {D E : List (Nat × Nat)} {rc : List Nat} {tr : List Tr}
open Classical in
noncomputable def specT (P : Program) (spec : Table) : Table := fun f args F => match spec f args F with
 | some R => if Fc P f args F R then some R else none
 | none => none
theorem specT_sound (spec : Table) : Sound P (specT P spec) := by
 intro f args F R h
 unfold specT at h
 split at h
 ·split at h
  ·rename_i hc; cases h; exact ⟨hc.fn, hc.go⟩
  ·cases h
 ·cases h
theorem specT_at {spec : Table} {f : FuncId} {args : List V} {F F' : Mem} {R : Post} (h : spec f args F' = some R) (hc : Fc P f args F R) (hs : Sub F F') : specT P spec f args F' = some R := by
 unfold specT
 rw [h]
 simp only
 rw [if_pos ⟨hc.fn.less hs, hc.go⟩]
def zKc (z : Option V) : List Nat := match z with | some z => kC z | none => []
def disjB (a b : List Nat) : Bool := a.all fun k => !b.contains k
def chk (D : List (Nat × Nat)) (tr : List Tr) (i : Nat) (T : List Nat) : Bool := D.all fun p => p.2 != i || tr.all fun x => x.1 != p.1 || disjB x.2.1 T
theorem chk_ok {i : Nat} {T : List Nat} (h : chk D tr i T = true) : ∀ x ∈ tr, (x.1, i) ∈ D → ∀ k ∈ x.2.1, k ∉ T := by
 intro x hx hD k hk
 have h1 := List.all_eq_true.1 h _ hD
 simp only [bne_self_eq_false, Bool.false_or] at h1
 have h2 := List.all_eq_true.1 h1 x hx
 simp only [bne_self_eq_false, Bool.false_or] at h2
 have h3 := List.all_eq_true.1 h2 k hk
 simpa using h3
def chkT (tr : List Tr) (a : Nat) (T : List Nat) (m : Mem) : Prop := match tr with
 | [] => True
 | x :: tr => (if x.1 = a then (x.2.1.all fun k => T.contains k) = true ∧ x.2.2 m else True) ∧ chkT tr a T m
def chkE (E : List (Nat × Nat)) (tr : List Tr) (i : Nat) (ro : Bool) (T : List Nat) (m : Mem) : Prop := match E with
 | [] => True
 | p :: E => (if p.2 = i then ro = false ∧ chkT tr p.1 T m else True) ∧ chkE E tr i ro T m
theorem chkT_ok {a : Nat} {T : List Nat} {m : Mem} : ∀ {tr : List Tr}, chkT tr a T m → ∀ x ∈ tr, x.1 = a → (∀ k ∈ x.2.1, k ∈ T) ∧ x.2.2 m
 | [], _, x, hx, _ => by cases hx
 | y :: tr, h, x, hx, ha => by
  rcases List.mem_cons.1 hx with rfl | hx
  ·have h1 := h.1
   rw [if_pos ha] at h1
   refine ⟨fun k hk => ?_, h1.2⟩
   have := List.all_eq_true.1 h1.1 k hk
   simpa using this
  ·exact chkT_ok h.2 x hx ha
theorem chkE_ok {i : Nat} {ro : Bool} {T : List Nat} {m : Mem} : ∀ {E : List (Nat × Nat)}, chkE E tr i ro T m → ∀ x ∈ tr, (x.1, i) ∈ E → ro = false ∧ (∀ k ∈ x.2.1, k ∈ T) ∧ x.2.2 m
 | [], _, x, _, hE => by cases hE
 | p :: E, h, x, hx, hE => by
  rcases List.mem_cons.1 hE with rfl | hE
  ·have h1 := h.1
   rw [if_pos rfl] at h1
   exact ⟨h1.1, chkT_ok h1.2 x hx rfl⟩
  ·exact chkE_ok h.2 x hx hE
def lateE (x y : Option (Prop × Post)) (M m : Mem) : Prop := ∃ pre v, x = some (pre, det v M) ∧ y = some (pre, det v m)
def runD (x : Option (Prop × Post)) (ro : Bool) (M : Mem) (c : Bool) (k : V → Mem → Prop) (u : Lk (M, k)) : Prop :=
 ∃ pre Q, x = some (pre, Q) ∧ pre ∧ (∃ r m, Q r m) ∧ (ro = true → ∀ r m, Q r m → m = M) ∧ c = true ∧ ∀ r m, Q r m → k r m
def wpE (D E : List (Nat × Nat)) (rc : List Nat) (Φ : Table) (P : Program) (ds : List (Option Nat)) : List (Nat × Oper) → List Tr → (Nat → V) → Mem → ((Nat → V) → Mem → Prop) → Prop
 | [], tr, t, M, K => K t M
 | (i, o) :: l, tr, t, M, K => match o.guard with
  | none => runD (opV Φ P o t M) (rc.contains i) M (chk D tr i (touch P o t)) (fun r m => chkE E tr i (rc.contains i) (touch P o t) m ∧ wpE D E rc Φ P ds l ((i, touch P o t, fun m => lateE (opV Φ P o t M) (opV Φ P o t m) M m) :: tr) (putT t o.dst r) m K) .mk
  | some (j, want) => wpS (t (gd ds j)) t (gd ds j) want
    (fun t => runD (opV Φ P o t M) (rc.contains i) M (chk D tr i (touch P o t)) (fun r m => chkE E tr i (rc.contains i) (touch P o t) m ∧ wpE D E rc Φ P ds l ((i, touch P o t, fun m => lateE (opV Φ P o t M) (opV Φ P o t m) M m) :: tr) (putT t o.dst r) m K) .mk)
    (fun t => chk D tr i (touch P o t) = true ∧ chkE E tr i (rc.contains i) (touch P o t) M ∧ wpE D E rc Φ P ds l ((i, touch P o t, fun _ => True) :: tr) (putT t o.dst (.tuple [])) M K) .mk
theorem trLe.cons' {tr tr' : List Tr} {i : Nat} {T : List Nat} {L L' : Mem → Prop} (h : trLe tr' tr) (hL : ∀ m, L m → L' m) : trLe ((i, T, L') :: tr') ((i, T, L) :: tr) := by
 intro y hy
 rcases List.mem_cons.1 hy with rfl | hy
 ·exact ⟨_, List.mem_cons_self, rfl, rfl, hL⟩
 ·obtain ⟨z, h1, h2⟩ := h y hy
  exact ⟨z, List.mem_cons_of_mem _ h1, h2⟩
theorem wpE_wpD : ∀ {l : List (Nat × Oper)} {tr tr' : List Tr} {t : Nat → V} {M : Mem}, trLe tr' tr → trLe tr tr' ∨ True → wpE D E rc Φ P ds l tr t M K → wpD D E rc Φ P ds l tr' t M K
 | [], _, _, _, _, _, _, h => h
 | (i, o) :: l, tr, tr', t, M, hle, _, h => by
  unfold wpE at h
  have dd : chk D tr i (touch P o t) = true → ∀ x ∈ tr', (x.1, i) ∈ D → ∀ k ∈ x.2.1, k ∉ touch P o t := by
   intro h5 x hx hD
   obtain ⟨y, y1, y2, y3, _⟩ := hle x hx
   rw [← y3]; exact chk_ok h5 y y1 (by rw [y2]; exact hD)
  have ee : ∀ m, chkE E tr i (rc.contains i) (touch P o t) m → ∀ x ∈ tr', (x.1, i) ∈ E → i ∉ rc ∧ (∀ k ∈ x.2.1, k ∈ touch P o t) ∧ x.2.2 m := by
   intro m h5 x hx hE
   obtain ⟨y, y1, y2, y3, y4⟩ := hle x hx
   obtain ⟨k1, k2, k3⟩ := chkE_ok h5 y y1 (by rw [y2]; exact hE)
   exact ⟨by simpa using k1, by rw [← y3]; exact k2, y4 m k3⟩
  have run : runD (opV Φ P o t M) (rc.contains i) M (chk D tr i (touch P o t)) (fun r m => chkE E tr i (rc.contains i) (touch P o t) m ∧ wpE D E rc Φ P ds l ((i, touch P o t, fun m => lateE (opV Φ P o t M) (opV Φ P o t m) M m) :: tr) (putT t o.dst r) m K) .mk → ∀ (hx : ∀ m, outV Φ P ds o t m = opV Φ P o t m), wpD D E rc Φ P ds ((i, o) :: l) tr' t M K := by
   rintro ⟨pre, Q, h1, h2, ⟨r0, m0, h3⟩, h4, h5, h6⟩ hx
   refine ⟨pre, Q, (hx M).trans h1, h2, ⟨r0, m0, h3⟩, fun hi => h4 (by simpa using hi), dd h5, fun x hx' hE => ?_, fun r m hr => wpE_wpD (hle.cons' fun m hm => ?_) (.inr trivial) (h6 r m hr).2⟩
   ·obtain ⟨k1, k2, _⟩ := ee m0 (h6 r0 m0 h3).1 x hx' hE
    exact ⟨k1, k2, fun r m hr => (ee m (h6 r m hr).1 x hx' hE).2.2⟩
   ·obtain ⟨p1, v1, q1, q2⟩ := hm
    exact ⟨p1, v1, (hx M).trans q1, (hx m).trans q2⟩
  have skip : chk D tr i (touch P o t) = true ∧ chkE E tr i (rc.contains i) (touch P o t) M ∧ wpE D E rc Φ P ds l ((i, touch P o t, fun _ => True) :: tr) (putT t o.dst (.tuple [])) M K → ∀ (hx : ∀ m, outV Φ P ds o t m = some (True, det (.tuple []) m)), wpD D E rc Φ P ds ((i, o) :: l) tr' t M K := by
   rintro ⟨h5, h5', h6⟩ hx
   refine ⟨_, _, hx M, trivial, ⟨_, _, rfl, rfl⟩, fun _ => by rintro r m ⟨_, rfl⟩; rfl, dd h5, fun x hx' hE => ?_, ?_⟩
   ·obtain ⟨k1, k2, k3⟩ := ee M h5' x hx' hE
    exact ⟨k1, k2, by rintro r m ⟨_, rfl⟩; exact k3⟩
   ·rintro r m ⟨rfl, rfl⟩
    exact wpE_wpD (hle.cons' fun m' _ => ⟨True, .tuple [], hx m, hx m'⟩) (.inr trivial) h6
  cases hg : o.guard with
  | none => simp only [hg] at h; exact run h (fun m => by simp only [outV, hg])
  | some jw =>
   obtain ⟨j, want⟩ := jw
   simp only [hg] at h
   unfold wpS at h
   split at h
   ·rename_i b hb
    rw [← hb, upd_self] at h
    split at h
    ·rename_i hbw; exact run h (fun m => by simp only [outV, hg, hb, hbw, if_true])
    ·rename_i hbw; exact skip h (fun m => by simp only [outV, hg, hb]; rw [if_neg hbw])
   ·rename_i hb
    exact skip h (fun m => by simp only [outV, hg, hb])
   ·exact h.elim
theorem Sat.drawnE {id : Nat} {ops : List Oper} {C : Kont} (D E : List (Nat × Nat)) (rc : List Nat) (spec : Table) (hm : P.follows .mixedOrders = true) (hB : drawOk N ⟨ops⟩ D E rc (mkTab ops) = true)
  (h : wpE D E rc (specT P spec) P (ops.map (·.dst)) (numb 0 ops) [] t M (C .normal)) : Sat P N (.region id ⟨ops⟩ true) t M C :=
 Sat.drawn hm D E rc hB (specT_sound spec) (wpE_wpD (fun x hx => by cases hx) (.inr trivial) h)
variable {o : Oper} {dst : Option Nat} {ty : TypeId} {pos : String} {aft : Array Edge} {g : Option (Nat × Bool)} {i : Nat} {op : Op} {pr : Prop} {v : V} {c : Bool} {ro : Bool} {x y z : Operand} {e f : Nat} {T : List Nat}
@[push_cast] theorem numb_nil : numb i [] = [] := Eq.trans rfl rfl
@[push_cast] theorem numb_cons {l : List Oper} : numb i (o :: l) = (i, o) :: numb (i + 1) l := Eq.trans rfl rfl
@[push_cast] theorem wpE_nil : wpE D E rc Φ P ds [] tr t M K = K t M := Eq.trans rfl rfl
@[push_cast] theorem wpE_cons : wpE D E rc Φ P ds ((i, ⟨dst, op, ty, pos, aft, none⟩) :: l) tr t M K =
  runD (opV Φ P ⟨dst, op, ty, pos, aft, none⟩ t M) (rc.contains i) M (chk D tr i (touch P ⟨dst, op, ty, pos, aft, none⟩ t)) (fun r m => chkE E tr i (rc.contains i) (touch P ⟨dst, op, ty, pos, aft, none⟩ t) m ∧ wpE D E rc Φ P ds l ((i, touch P ⟨dst, op, ty, pos, aft, none⟩ t, fun m => lateE (opV Φ P ⟨dst, op, ty, pos, aft, none⟩ t M) (opV Φ P ⟨dst, op, ty, pos, aft, none⟩ t m) M m) :: tr) (putT t dst r) m K) .mk := Eq.trans rfl rfl
@[push_cast] theorem wpE_guard {j : Nat} {b : Bool} : wpE D E rc Φ P ds ((i, ⟨dst, op, ty, pos, aft, some (j, b)⟩) :: l) tr t M K = wpS (t (gd ds j)) t (gd ds j) b
  (fun t => runD (opV Φ P ⟨dst, op, ty, pos, aft, some (j, b)⟩ t M) (rc.contains i) M (chk D tr i (touch P ⟨dst, op, ty, pos, aft, some (j, b)⟩ t)) (fun r m => chkE E tr i (rc.contains i) (touch P ⟨dst, op, ty, pos, aft, some (j, b)⟩ t) m ∧ wpE D E rc Φ P ds l ((i, touch P ⟨dst, op, ty, pos, aft, some (j, b)⟩ t, fun m => lateE (opV Φ P ⟨dst, op, ty, pos, aft, some (j, b)⟩ t M) (opV Φ P ⟨dst, op, ty, pos, aft, some (j, b)⟩ t m) M m) :: tr) (putT t dst r) m K) .mk)
  (fun t => chk D tr i (touch P ⟨dst, op, ty, pos, aft, some (j, b)⟩ t) = true ∧ chkE E tr i (rc.contains i) (touch P ⟨dst, op, ty, pos, aft, some (j, b)⟩ t) M ∧ wpE D E rc Φ P ds l ((i, touch P ⟨dst, op, ty, pos, aft, some (j, b)⟩ t, fun _ => True) :: tr) (putT t dst (.tuple [])) M K) .mk := Eq.trans rfl rfl
@[push_cast] theorem chkE_nil {m : Mem} : chkE [] tr i ro T m = True := Eq.trans rfl rfl
@[push_cast] theorem chkE_cons {a b : Nat} {m : Mem} : chkE ((a, b) :: E) tr i ro T m = ((if b = i then ro = false ∧ chkT tr a T m else True) ∧ chkE E tr i ro T m) := Eq.trans rfl rfl
@[push_cast] theorem chkT_nil {a : Nat} {m : Mem} : chkT [] a T m = True := Eq.trans rfl rfl
@[push_cast] theorem chkT_cons {a j : Nat} {T' : List Nat} {L : Mem → Prop} {m : Mem} : chkT ((j, T', L) :: tr) a T m = ((if j = a then (T'.all fun k => T.contains k) = true ∧ L m else True) ∧ chkT tr a T m) := Eq.trans rfl rfl
@[push_cast] theorem lateE_det {p p' : Prop} {v v' : V} {M m : Mem} : lateE (some (p, det v M)) (some (p', det v' m)) M m ↔ ((p ↔ p') ∧ v = v') := by
 constructor
 ·rintro ⟨q, u, h1, h2⟩
  have e1 := Prod.mk.inj (Option.some.inj h1)
  have e2 := Prod.mk.inj (Option.some.inj h2)
  have e3 := (det_inj e1.2).1
  have e4 := (det_inj e2.2).1
  exact ⟨by rw [e1.1, e2.1], e3.trans e4.symm⟩
 ·rintro ⟨h1, rfl⟩
  obtain rfl := propext h1
  exact ⟨_, _, rfl, rfl⟩
@[push_cast] theorem chk_nil : chk [] tr i T = true := Eq.trans rfl rfl
@[push_cast] theorem chk_cons {p q : Nat} : chk ((p, q) :: D) tr i T = ((q != i || tr.all fun x => x.1 != p || disjB x.2.1 T) && chk D tr i T) := Eq.trans rfl rfl
@[push_cast] theorem kV_msl {o : Nat} {q : Path} {γ : Option Nat} {a b : Nat} : kV (.msl o q γ a b) = [o] := Eq.trans rfl rfl
@[push_cast] theorem kV_ptr {o : Nat} {q : Path} {a b c d : Nat} : kV (.ptr o q a b c d) = [o] := Eq.trans rfl rfl
@[push_cast] theorem kV_eptr {cs : List V} : kV (.eptr cs) = [] := Eq.trans rfl rfl
@[push_cast] theorem kV_sl {cs : List V} : kV (.sl cs) = [] := Eq.trans rfl rfl
@[push_cast] theorem kV_agg {cs : List V} : kV (.agg cs) = [] := Eq.trans rfl rfl
@[push_cast] theorem kV_int {a : IntKind} {b : Int} : kV (.int a b) = [] := Eq.trans rfl rfl
@[push_cast] theorem kV_bool {b : Bool} : kV (.bool b) = [] := Eq.trans rfl rfl
@[push_cast] theorem kV_str {b : ByteArray} : kV (.str b) = [] := Eq.trans rfl rfl
@[push_cast] theorem kV_nilsl : kV .nilsl = [] := Eq.trans rfl rfl
@[push_cast] theorem kV_nilp : kV .nilp = [] := Eq.trans rfl rfl
@[push_cast] theorem kV_fn {f : Go.Fn} {b c : List V} : kV (.fn f b c) = [] := Eq.trans rfl rfl
@[push_cast] theorem touch_load : touch P ⟨dst, .load e x, ty, pos, aft, g⟩ t = kV (evV t x) := Eq.trans rfl rfl
@[push_cast] theorem touch_assign : touch P ⟨dst, .assign x, ty, pos, aft, g⟩ t = dst.toList ++ kV (evV t x) := Eq.trans rfl rfl
@[push_cast] theorem touch_alloc : touch P ⟨dst, .alloc e, ty, pos, aft, g⟩ t = dst.toList ++ zK P e := Eq.trans rfl rfl
@[push_cast] theorem touch_buildSlice {n : Nat} {ps : Array (Nat × Operand)} : touch P ⟨dst, .buildSlice e n ps, ty, pos, aft, g⟩ t = dst.toList ++ ((elT P e).map (zK P)).getD [] ++ ps.toList.flatMap fun p => kC (evV t p.2) := Eq.trans rfl rfl
@[push_cast] theorem touch_append {args : Array Operand} {tys : Array TypeId} : touch P ⟨dst, .call ⟨.builtin .append, args, tys⟩, ty, pos, aft, g⟩ t = dst.toList ++ args.toList.flatMap fun x => kV (evV t x) := Eq.trans rfl rfl
def tchC (d : Option Nat) (f : V) (args : List V) : List Nat := match f with | .fn _ first cap => d.toList ++ (first ++ args ++ cap).flatMap kV | _ => []
@[push_cast] theorem tchC_fn {d : Option Nat} {f : Go.Fn} {first cap args : List V} : tchC d (.fn f first cap) args = d.toList ++ (first ++ args ++ cap).flatMap kV := Eq.trans rfl rfl
@[push_cast] theorem touch_call {args : Array Operand} {tys : Array TypeId} : touch P ⟨dst, .call ⟨.value x, args, tys⟩, ty, pos, aft, g⟩ t = tchC dst (evV t x) (args.toList.map (evV t)) := by
 simp only [touch, pureOp, tchC]; cases evV t x <;> rfl
@[push_cast] theorem zK_eq : zK P e = zKc (zeroT P e) := by simp only [zK, zKc]; cases zeroT P e <;> rfl
@[push_cast] theorem zKc_some {v : V} : zKc (some v) = kC v := Eq.trans rfl rfl
@[push_cast] theorem kC_eq {v : V} : kC v = v.cells.flatMap kV := Eq.trans rfl rfl
@[push_cast] theorem touch_box : touch P ⟨dst, .box e x, ty, pos, aft, g⟩ t = dst.toList ++ kC (evV t x) := Eq.trans rfl rfl
@[push_cast] theorem touch_makeSlice : touch P ⟨dst, .makeSlice e x y, ty, pos, aft, g⟩ t = dst.toList := Eq.trans rfl rfl
@[push_cast] theorem touch_store : touch P ⟨dst, .store e x y, ty, pos, aft, g⟩ t = kV (evV t x) ++ kC (evV t y) := Eq.trans rfl rfl
@[push_cast] theorem disj_nil {b : List Nat} : disjB [] b = true := Eq.trans rfl rfl
@[push_cast] theorem disj_cons {a : Nat} {b s : List Nat} : disjB (a :: s) b = (!b.contains a && disjB s b) := Eq.trans rfl rfl
@[push_cast] theorem runD_ro : runD (some (pr, det v M)) ro M c k .mk ↔ pr ∧ c = true ∧ k v M := by
 constructor
 ·rintro ⟨_, _, h, h1, h2, h3, h4, h5⟩; cases h; exact ⟨h1, h4, h5 _ _ ⟨rfl, rfl⟩⟩
 ·rintro ⟨h1, h4, h5⟩; exact ⟨_, _, rfl, h1, ⟨_, _, rfl, rfl⟩, (fun _ => by rintro r m ⟨_, rfl⟩; rfl), h4, by rintro r m ⟨rfl, rfl⟩; exact h5⟩
@[push_cast] theorem runD_det : runD (some (pr, det v M')) false M c k .mk ↔ pr ∧ c = true ∧ k v M' := by
 constructor
 ·rintro ⟨_, _, h, h1, h2, h3, h4, h5⟩; cases h; exact ⟨h1, h4, h5 _ _ ⟨rfl, rfl⟩⟩
 ·rintro ⟨h1, h4, h5⟩; exact ⟨_, _, rfl, h1, ⟨_, _, rfl, rfl⟩, nofun, h4, by rintro r m ⟨rfl, rfl⟩; exact h5⟩
@[push_cast] theorem runD_new {f : Nat → V} {F : Nat → Mem} : runD (some (pr, fun r m => ∃ g, r = f g ∧ some (F g) = some m)) false M c k .mk ↔ pr ∧ c = true ∧ ∀ g, k (f g) (F g) := by
 constructor
 ·rintro ⟨_, _, h, h1, h2, h3, h4, h5⟩; cases h; exact ⟨h1, h4, fun g => h5 _ _ ⟨g, rfl, rfl⟩⟩
 ·rintro ⟨h1, h4, h5⟩; exact ⟨_, _, rfl, h1, ⟨_, _, 0, rfl, rfl⟩, nofun, h4, by rintro r m ⟨g, rfl, h⟩; cases h; exact h5 g⟩
@[push_cast] theorem runD_make {f : Nat → V} {F : Nat → Mem} : runD (some (pr, fun r m => ∃ g, r = f g ∧ m = F g)) false M c k .mk ↔ pr ∧ c = true ∧ ∀ g, k (f g) (F g) := by
 constructor
 ·rintro ⟨_, _, h, h1, h2, h3, h4, h5⟩; cases h; exact ⟨h1, h4, fun g => h5 _ _ ⟨g, rfl, rfl⟩⟩
 ·rintro ⟨h1, h4, h5⟩; exact ⟨_, _, rfl, h1, ⟨_, _, 0, rfl, rfl⟩, nofun, h4, by rintro r m ⟨g, rfl, rfl⟩; exact h5 g⟩
@[push_cast] theorem runD_app {d : Nat} {es ys : List V} : runD (some (pr, AppR d e es ys M')) false M c k .mk ↔
  pr ∧ c = true ∧ ∀ γ cap, (γ = none → es ++ ys = []) → k (.msl d [] γ (es.length + ys.length) cap) (M'.set d (.own e γ cap (es ++ ys))) := by
 constructor
 ·rintro ⟨_, _, h, h1, h2, h3, h4, h5⟩; cases h; exact ⟨h1, h4, fun γ cap hn => h5 _ _ ⟨γ, cap, hn, rfl, rfl⟩⟩
 ·rintro ⟨h1, h4, h5⟩; exact ⟨_, _, rfl, h1, ⟨_, _, some 0, 0, nofun, rfl, rfl⟩, nofun, h4, by rintro r m ⟨γ, cap, hn, rfl, rfl⟩; exact h5 γ cap hn⟩
theorem runD_call {spec : Table} {fn : FuncId} {args : List V} {d : Option Nat} {F : Mem} {R : Post} (h : spec fn (renArgs 0 args) (footM M (args.map V.key)) = some R) (hc : Fc P fn (renArgs 0 args) F R) (hs : Sub F (footM M (args.map V.key)))
  (hn : ((args.map V.key).filterMap id).Nodup) (h9 : args.length ≤ 90) (hne : ∃ r m, R r m) (hro : ro = true → ∀ r0 Mf, R r0 Mf → mergeM M (args.map V.key) d Mf = M) (hchk : c = true)
  (hk : ∀ r0 r Mf, R r0 Mf → (∀ d', d = some d' → r = r0.ren100 d') → k r (mergeM M (args.map V.key) d Mf)) : runD (callV (specT P spec) fn args d M) ro M c k .mk := by
 unfold callV
 simp only
 rw [if_pos ⟨hn, h9⟩, specT_at h hc hs]
 obtain ⟨r1, m1, h1⟩ := hne
 refine ⟨_, _, rfl, trivial, ⟨resN d r1, _, r1, m1, h1, ?_, rfl⟩, ?_, hchk, ?_⟩
 ·cases d <;> trivial
 ·rintro hr r m ⟨r0, Mf, k1, _, rfl⟩; exact hro hr r0 Mf k1
 ·rintro r m ⟨r0, Mf, k1, k2, rfl⟩
  exact hk r0 r Mf k1 (fun d' hd => by subst hd; exact k2)
theorem runD_pure {spec : Table} {fn : FuncId} {args : List V} {d : Nat} (h : spec fn args noM = some fun r m => r = v ∧ m = noM) (hc : Fp P fn args v) (hk : (args.all fun v => v.key.isNone) = true) (h9 : Nat.ble args.length 90 = true) (hchk : c = true) (hv : runV (some (True, det (resN (some d) v) M)) k .mk) :
  runD (callV (specT P spec) fn args (some d) M) ro M c k .mk := by
 have hk' : ((args.map V.key).all fun x => x.isNone) = true := by rw [List.all_map]; exact hk
 have hf : footM M (args.map V.key) = noM := by
  funext i
  simp only [footM, noM]
  cases hi : (args.map V.key)[i]? with
  | none => rfl
  | some x =>
   have := List.all_eq_true.1 hk' x (List.mem_of_getElem? hi)
   cases x with
   | none => rfl
   | some _ => cases this
 have hm : mergeM M (args.map V.key) (some d) noM = M := by rw [merge_eq, mg_all_none hk']; rfl
 refine runD_call (F := noM) (R := fun r m => r = v ∧ m = noM) (by rw [renArgs_none hk, hf]; exact h) (by rw [renArgs_none hk]; exact hc) Sub.no (by rw [keys_none hk']; exact List.nodup_nil) (Nat.le_of_ble_eq_true h9) ⟨v, noM, rfl, rfl⟩ (fun _ r0 Mf hr => by rw [hr.2]; exact hm) hchk ?_
 rintro r0 r Mf ⟨rfl, rfl⟩ h2
 rw [h2 d rfl, hm]
 exact (runV_det.1 hv).2
@[push_cast] theorem op_move : opV Φ P ⟨dst, .move x, ty, pos, aft, g⟩ t M = some (True, det (evV t x) M) := Eq.trans rfl rfl
@[push_cast] theorem op_assign : opV Φ P ⟨dst, .assign x, ty, pos, aft, g⟩ t M = assignV dst (evV t x) M := Eq.trans rfl rfl
@[push_cast] theorem op_pick : opV Φ P ⟨dst, .pick x y z, ty, pos, aft, g⟩ t M = pickV (evV t x) (evV t y) (evV t z) M := Eq.trans rfl rfl
@[push_cast] theorem op_alloc : opV Φ P ⟨dst, .alloc e, ty, pos, aft, g⟩ t M = allocV P dst e M := Eq.trans rfl rfl
@[push_cast] theorem op_box : opV Φ P ⟨dst, .box e x, ty, pos, aft, g⟩ t M = boxV P dst e (evV t x) M := Eq.trans rfl rfl
@[push_cast] theorem op_build {ps : Array (Nat × Operand)} : opV Φ P ⟨dst, .build e ps, ty, pos, aft, g⟩ t M = buildV P e (ps.toList.map fun p => (p.1, evV t p.2)) M := Eq.trans rfl rfl
@[push_cast] theorem op_buildSlice {n : Nat} {ps : Array (Nat × Operand)} : opV Φ P ⟨dst, .buildSlice e n ps, ty, pos, aft, g⟩ t M = buildSliceV P dst e n (ps.toList.map fun p => (p.1, evV t p.2)) M := Eq.trans rfl rfl
@[push_cast] theorem op_load : opV Φ P ⟨dst, .load e x, ty, pos, aft, g⟩ t M = loadV P e (evV t x) M := Eq.trans rfl rfl
@[push_cast] theorem op_store : opV Φ P ⟨dst, .store e x y, ty, pos, aft, g⟩ t M = storeV P e (evV t x) (evV t y) M := Eq.trans rfl rfl
@[push_cast] theorem op_nilCheck : opV Φ P ⟨dst, .nilCheck x, ty, pos, aft, g⟩ t M = nilCheckV (evV t x) M := Eq.trans rfl rfl
@[push_cast] theorem op_fieldAddr : opV Φ P ⟨dst, .fieldAddr e x f, ty, pos, aft, g⟩ t M = fieldAddrV P e (evV t x) f M := Eq.trans rfl rfl
@[push_cast] theorem op_field : opV Φ P ⟨dst, .field e x f, ty, pos, aft, g⟩ t M = fieldV P e (evV t x) f M := Eq.trans rfl rfl
@[push_cast] theorem op_indexAddr : opV Φ P ⟨dst, .indexAddr e x y, ty, pos, aft, g⟩ t M = indexAddrV P e (evV t x) (evV t y) M := Eq.trans rfl rfl
@[push_cast] theorem op_index : opV Φ P ⟨dst, .index e x y, ty, pos, aft, g⟩ t M = indexV P e (evV t x) (evV t y) M := Eq.trans rfl rfl
@[push_cast] theorem op_slice {lo hi : Option Operand} : opV Φ P ⟨dst, .slice e x lo hi none, ty, pos, aft, g⟩ t M = sliceV P e (evV t x) (lo.map (evV t)) (hi.map (evV t)) M := Eq.trans rfl rfl
@[push_cast] theorem op_makeSlice : opV Φ P ⟨dst, .makeSlice e x y, ty, pos, aft, g⟩ t M = makeSliceV P dst e (evV t x) (evV t y) M := Eq.trans rfl rfl
@[push_cast] theorem op_makeFunc {fn : Go.Fn} {first cap : Array Operand} : opV Φ P ⟨dst, .makeFunc fn first cap, ty, pos, aft, g⟩ t M = some (True, det (.fn fn (first.toList.map (evV t)) (cap.toList.map (evV t))) M) := Eq.trans rfl rfl
@[push_cast] theorem op_extract : opV Φ P ⟨dst, .extract x f, ty, pos, aft, g⟩ t M = extractV (evV t x) f M := Eq.trans rfl rfl
@[push_cast] theorem op_binOp {op : BinOp} : opV Φ P ⟨dst, .binOp op e x y f, ty, pos, aft, g⟩ t M = detO M (binE P op e (evV t x) (evV t y)) := Eq.trans rfl rfl
@[push_cast] theorem op_unOp {op : UnOp} : opV Φ P ⟨dst, .unOp op e x, ty, pos, aft, g⟩ t M = detO M (unV op (evV t x)) := Eq.trans rfl rfl
@[push_cast] theorem op_convert : opV Φ P ⟨dst, .convert e f x, ty, pos, aft, g⟩ t M = convertV P e f (evV t x) M := Eq.trans rfl rfl
@[push_cast] theorem op_len : opV Φ P ⟨dst, .call ⟨.builtin .len, #[x], #[e]⟩, ty, pos, aft, g⟩ t M = lenOpV P e (evV t x) M := Eq.trans rfl rfl
@[push_cast] theorem op_append : opV Φ P ⟨dst, .call ⟨.builtin .append, #[x, y], #[e, f]⟩, ty, pos, aft, g⟩ t M = appendV P dst e f (evV t x) (evV t y) M := Eq.trans rfl rfl
@[push_cast] theorem op_max {tys : Array TypeId} : opV Φ P ⟨dst, .call ⟨.builtin .max, #[x, y], tys⟩, ty, pos, aft, g⟩ t M = detO M (maxV true (evV t x) (evV t y)) := Eq.trans rfl rfl
@[push_cast] theorem op_min {tys : Array TypeId} : opV Φ P ⟨dst, .call ⟨.builtin .min, #[x, y], tys⟩, ty, pos, aft, g⟩ t M = detO M (maxV false (evV t x) (evV t y)) := Eq.trans rfl rfl
@[push_cast] theorem op_call {args : Array Operand} {tys : Array TypeId} : opV Φ P ⟨dst, .call ⟨.value x, args, tys⟩, ty, pos, aft, g⟩ t M = callOpV Φ (evV t x) (args.toList.map (evV t)) dst M := Eq.trans rfl rfl
@[push_cast] theorem callOp_fn {fn : FuncId} {first cap args : List V} : callOpV Φ (.fn (.func fn) first cap) args dst M = callV Φ fn (first ++ args ++ cap) dst M := Eq.trans rfl rfl
@[congr] theorem callV_congr (Φ : Table) (fn : FuncId) {args args' : List V} (h : args = args') (d : Option Nat) (M : Mem) : callV Φ fn args d M = callV Φ fn args' d M := by rw [h]
end
end Go.Proofs.YtkdolbffabmemaaGreatDoor
