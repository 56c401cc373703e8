/-
 The machine of values: a region that draws its order.
-/
import Derived.Test.YtkdolbffabmemaaGreatDoorLvr
import Derived.Orders
namespace Go.Proofs.YtkdolbffabmemaaGreatDoor
open Go.RowKit
set_option linter.unusedSimpArgs false
set_option linter.unusedVariables false
section
variable {P : Program} {Φ : Table} {N : Nat} {imm imm' imm0 : Nat → Prop} {w w' w0 : World} {M M0 M' m : Mem} {t t' : Nat → V} {a : Act} {o : Oper} {ops : Array Oper} {ds : List (Option Nat)}
theorem opV_congr (h : ∀ x ∈ o.op.operands, evV t x = evV t' x) : opV Φ P o t M = opV Φ P o t' M ∧ touch P o t = touch P o t' := by
 unfold opV touch
 cases ho : o.op <;> rw [ho] at h <;> simp only [Op.operands] at h
 case call c =>
  obtain ⟨callee, args, tys⟩ := c
  have hargs : ∀ x ∈ args, evV t x = evV t' x := fun x hx => h x (by simp [Call.operands, hx])
  have hmap : args.toList.map (evV t) = args.toList.map (evV t') := List.map_congr_left (fun x hx => hargs x (by simpa using hx))
  have hfl : (args.toList.flatMap fun x => kV (evV t x)) = args.toList.flatMap fun x => kV (evV t' x) := by
   rw [← List.flatMap_map (f := evV t) (g := kV), ← List.flatMap_map (f := evV t') (g := kV), hmap]
  cases callee with
  | invoke _ _ => exact ⟨rfl, by simp only [hfl]⟩
  | value f =>
   have hf : evV t f = evV t' f := h f (by simp [Call.operands])
   simp only [callBV, hf, hmap, and_self]
  | builtin b =>
   refine ⟨?_, by simp only [hfl]⟩
   simp only [callBV]
   cases hx : args.toList with
   | nil => cases b <;> rfl
   | cons x l =>
    have h1 := hargs x (by rw [← Array.mem_toList_iff, hx]; simp)
    cases l with
    | nil => cases tys.toList with
     | nil => cases b <;> rfl
     | cons ty ts => cases ts <;> cases b <;> first | rfl | (simp only [h1]; done)
    | cons y l =>
     have h2 := hargs y (by rw [← Array.mem_toList_iff, hx]; simp)
     cases tys.toList with
     | nil => cases l <;> cases b <;> first | rfl | (simp only [h1, h2]; done)
     | cons ty ts =>
      cases ts with
      | nil => cases l <;> cases b <;> first | rfl | (simp only [h1, h2]; done)
      | cons tx ts => cases l <;> cases ts <;> cases b <;> first | rfl | (simp only [h1, h2]; done)
 case build ty ps =>
  have : (ps.toList.map fun p => (p.1, evV t p.2)) = ps.toList.map fun p => (p.1, evV t' p.2) := List.map_congr_left (fun p hp => by rw [h p.2 (by simp; exact ⟨p.1, by simpa using hp⟩)])
  simp only [this, and_self]
 case buildSlice ty n ps =>
  have e : ∀ p ∈ ps.toList, evV t p.2 = evV t' p.2 := fun p hp => h p.2 (by simp; exact ⟨p.1, by simpa using hp⟩)
  have h1 : (ps.toList.map fun p => (p.1, evV t p.2)) = ps.toList.map fun p => (p.1, evV t' p.2) := List.map_congr_left (fun p hp => by rw [e p hp])
  have h2 : (ps.toList.flatMap fun p => kC (evV t p.2)) = ps.toList.flatMap fun p => kC (evV t' p.2) := by
   rw [← List.flatMap_map (f := fun p : Nat × Operand => evV t p.2) (g := kC), ← List.flatMap_map (f := fun p : Nat × Operand => evV t' p.2) (g := kC), List.map_congr_left e]
  simp only [h1, h2, and_self]
 case makeFunc f first cap =>
  have h1 : first.toList.map (evV t) = first.toList.map (evV t') := List.map_congr_left (fun x hx => h x (by simp; exact .inl (by simpa using hx)))
  have h2 : cap.toList.map (evV t) = cap.toList.map (evV t') := List.map_congr_left (fun x hx => h x (by simp; exact .inr (by simpa using hx)))
  simp only [h1, h2, and_self]
 case slice ty x lo hi mx =>
  have h0 : evV t x = evV t' x := h x (by simp)
  have h1 : lo.map (evV t) = lo.map (evV t') := by cases lo with | none => rfl | some y => simp [h y (by simp)]
  have h2 : hi.map (evV t) = hi.map (evV t') := by cases hi with | none => rfl | some y => simp [h y (by simp)]
  cases mx <;> simp only [h0, h1, h2, and_self]
 all_goals first | exact ⟨rfl, rfl⟩ | (simp at h; simp [h])
def outV (Φ : Table) (P : Program) (ds : List (Option Nat)) (o : Oper) (t : Nat → V) (M : Mem) : Option (Prop × Post) :=
 match o.guard with
 | none => opV Φ P o t M
 | some (j, want) => match t (gd ds j) with
  | .bool b => if b = want then opV Φ P o t M else some (True, det (.tuple []) M)
  | .tuple [] => some (True, det (.tuple []) M)
  | _ => none
def opT : Operand → Option Nat
 | .tmp i => some i
 | _ => none
def uses (ds : List (Option Nat)) (o : Oper) : List Nat := o.op.operands.toList.filterMap opT ++ (match o.guard with | some (j, _) => [gd ds j] | none => [])
theorem outV_congr (h : ∀ i ∈ uses ds o, t i = t' i) : outV Φ P ds o t M = outV Φ P ds o t' M ∧ touch P o t = touch P o t' := by
 have h1 : ∀ x ∈ o.op.operands, evV t x = evV t' x := by
  intro x hx
  cases x with
  | tmp i => exact h i (by simp only [uses, List.mem_append, List.mem_filterMap]; exact .inl ⟨_, by simpa using hx, rfl⟩)
  | _ => rfl
 obtain ⟨h2, h3⟩ := opV_congr (Φ := Φ) (P := P) (M := M) h1
 refine ⟨?_, h3⟩
 unfold outV
 cases hg : o.guard with
 | none => exact h2
 | some jw =>
  have := h (gd ds jw.1) (by simp [uses, hg])
  simp only [this, h2]
theorem loc_out : LocF (touch P o t) fun M => outV Φ P ds o t M := by
 have hdet : LocF (touch P o t) fun M => some (True, det (.tuple []) M) := LocF.pure (x := some (True, .tuple []))
 unfold outV
 cases o.guard with
 | none => exact loc_op
 | some jw =>
  simp only
  split
  ·split
   ·exact loc_op
   ·exact hdet
  ·exact hdet
  ·exact LocF.none
theorem out_pure (hp : pureOp o.op = true) {pre : Prop} {Q : Post} (h : outV Φ P ds o t M = some (pre, Q)) : touch P o t = [] ∧ ∀ r m, Q r m → m = M := by
 refine ⟨by simp [touch, hp], ?_⟩
 have hop : ∀ {Q}, opV Φ P o t M = some (pre, Q) → ∀ r m, Q r m → m = M := by
  intro Q h
  obtain ⟨x, hx⟩ := loc_pure (Φ := Φ) (P := P) (t := t) hp
  rw [hx, Option.map_eq_some_iff] at h
  obtain ⟨y, _, h⟩ := h
  cases h
  rintro r m ⟨_, rfl⟩; rfl
 unfold outV at h
 split at h
 ·exact hop h
 ·split at h
  ·split at h
   ·exact hop h
   ·cases h; rintro r m ⟨_, rfl⟩; rfl
  ·cases h; rintro r m ⟨_, rfl⟩; rfl
  ·cases h
abbrev Tr := Nat × List Nat × (Mem → Prop)
def LateV (Φ : Table) (P : Program) (ds : List (Option Nat)) (o : Oper) (t : Nat → V) (M : Mem) : Mem → Prop := fun m => ∃ pre v, outV Φ P ds o t M = some (pre, det v M) ∧ outV Φ P ds o t m = some (pre, det v m)
def trOk (tr : List Tr) : Prop := ∀ x ∈ tr, ∀ m m', Agr x.2.1 m m' → x.2.2 m → x.2.2 m'
theorem det_inj {v v' : V} {M M' : Mem} (h : det v M = det v' M') : v = v' ∧ M = M' := by
 have : det v' M' v M := h ▸ ⟨rfl, rfl⟩
 exact this
theorem late_loc {pre : Prop} {v : V} (ha : Agr (touch P o t) M M') (h : outV Φ P ds o t M = some (pre, det v M)) : outV Φ P ds o t M' = some (pre, det v M') := by
 have loc : LocF (touch P o t) fun M => outV Φ P ds o t M := loc_out
 obtain ⟨Q', h1, h2⟩ := loc M M' pre _ ha h
 have hs : ∀ r m', Q' r m' → r = v ∧ m' = M' := by
  intro r m' hr
  obtain ⟨d1, m, ⟨rfl, rfl⟩, d3⟩ := h2 r m' hr
  refine ⟨rfl, ?_⟩
  funext k
  by_cases hk : k ∈ touch P o t
  ·have := congrFun d3 k
   simp only [gl, hk, if_true] at this
   rw [← this]; exact (ha k hk).symm
  ·exact d1 k hk
 obtain ⟨Q2, e1, e2⟩ := loc M' M pre Q' ha.symm h1
 simp only at h h1 e1
 rw [h] at e1; cases e1
 obtain ⟨_, m4, e3, _⟩ := e2 v M ⟨rfl, rfl⟩
 have : Q' = det v M' := by
  funext r m'
  refine propext ⟨fun hr => hs r m' hr, ?_⟩
  rintro ⟨rfl, rfl⟩
  obtain ⟨_, rfl⟩ := hs _ _ e3
  exact e3
 rw [← this]; exact h1
theorem LateV.loc {m m' : Mem} (ha : Agr (touch P o t) m m') (h : LateV Φ P ds o t M m) : LateV Φ P ds o t M m' := by
 obtain ⟨pre, v, h1, h2⟩ := h
 exact ⟨pre, v, h1, late_loc ha h2⟩
theorem LateV.at_ {m : Mem} (ha : Agr (touch P o t) M M') (h : LateV Φ P ds o t M m) : LateV Φ P ds o t M' m := by
 obtain ⟨pre, v, h1, h2⟩ := h
 exact ⟨pre, v, late_loc ha h1, h2⟩
theorem LateV.to {m : Mem} (h : LateV Φ P ds o t M M') (h' : LateV Φ P ds o t M m) : LateV Φ P ds o t M' m := by
 obtain ⟨pre, v, h1, h2⟩ := h
 obtain ⟨pre', v', h3, h4⟩ := h'
 rw [h1] at h3
 have e : pre = pre' ∧ det v M = det v' M := Prod.mk.inj (Option.some.inj h3)
 obtain ⟨rfl, e⟩ := e
 obtain ⟨rfl, _⟩ := det_inj e
 exact ⟨pre, v, h2, h4⟩
def wpD (D E : List (Nat × Nat)) (rc : List Nat) (Φ : Table) (P : Program) (ds : List (Option Nat)) : List (Nat × Oper) → List Tr → (Nat → V) → Mem → ((Nat → V) → Mem → Prop) → Prop
 | [], _, t, M, K => K t M
 | (i, o) :: l, tr, t, M, K => ∃ pre Q, outV Φ P ds o t M = some (pre, Q) ∧ pre ∧ (∃ r m, Q r m) ∧ (i ∈ rc → ∀ r m, Q r m → m = M) ∧ (∀ x ∈ tr, (x.1, i) ∈ D → ∀ k ∈ x.2.1, k ∉ touch P o t) ∧
   (∀ x ∈ tr, (x.1, i) ∈ E → i ∉ rc ∧ (∀ k ∈ x.2.1, k ∈ touch P o t) ∧ ∀ r m, Q r m → x.2.2 m) ∧
   ∀ r m, Q r m → wpD D E rc Φ P ds l ((i, touch P o t, LateV Φ P ds o t M) :: tr) (putT t o.dst r) m K
variable {D E : List (Nat × Nat)} {rc : List Nat} {K : (Nat → V) → Mem → Prop}
def trLe (tr' tr : List Tr) : Prop := ∀ x ∈ tr', ∃ y ∈ tr, y.1 = x.1 ∧ y.2.1 = x.2.1 ∧ ∀ m, y.2.2 m → x.2.2 m
theorem trLe.cons {tr tr' : List Tr} {x : Tr} (h : trLe tr' tr) : trLe (x :: tr') (x :: tr) := by
 intro y hy
 rcases List.mem_cons.1 hy with rfl | hy
 ·exact ⟨_, List.mem_cons_self, rfl, rfl, fun _ h => h⟩
 ·obtain ⟨z, h1, h2⟩ := h y hy
  exact ⟨z, List.mem_cons_of_mem _ h1, h2⟩
theorem wpD_tr : ∀ {l : List (Nat × Oper)} {tr tr' : List Tr} {t : Nat → V} {M : Mem}, trLe tr' tr → wpD D E rc Φ P ds l tr t M K → wpD D E rc Φ P ds l tr' t M K
 | [], _, _, _, _, _, h => h
 | (i, o) :: l, tr, tr', t, M, hs, ⟨pre, Q, h1, h2, h3, h4, h5, h5', h6⟩ => ⟨pre, Q, h1, h2, h3, h4, fun x hx hD => by
   obtain ⟨y, y1, y2, y3, y4⟩ := hs x hx
   rw [← y3]; exact h5 y y1 (by rw [y2]; exact hD), fun x hx hE => by
   obtain ⟨y, y1, y2, y3, y4⟩ := hs x hx
   obtain ⟨k1, k2, k3⟩ := h5' y y1 (by rw [y2]; exact hE)
   exact ⟨k1, by rw [← y3]; exact k2, fun r m hr => y4 m (k3 r m hr)⟩, fun r m hr => wpD_tr hs.cons (h6 r m hr)⟩
structure Sep (D E : List (Nat × Nat)) (rc : List Nat) (ds : List (Option Nat)) (a b : Nat × Oper) : Prop where
 d1 : ∀ x, a.2.dst = some x → x ∉ uses ds b.2
 d2 : ∀ x, b.2.dst = some x → x ∉ uses ds a.2
 dd : ∀ x, a.2.dst = some x → b.2.dst ≠ some x
 nd : (b.1, a.1) ∉ D
 ne : (b.1, a.1) ∉ E
 mem : pureOp a.2.op = true ∨ pureOp b.2.op = true ∨ (a.1 ∈ rc ∧ b.1 ∈ rc) ∨ (a.1, b.1) ∈ D ∨ (a.1 ∈ rc ∧ (a.1, b.1) ∈ E)
theorem putT_off {d : Option Nat} {r : V} {i : Nat} (h : d ≠ some i) : putT t d r i = t i := by
 cases d with
 | none => rfl
 | some d => simp only [putT, upd]; rw [if_neg (fun e => h (by rw [e]))]
theorem putT_comm {d d' : Option Nat} {r r' : V} (h : ∀ x, d = some x → d' ≠ some x) : putT (putT t d r) d' r' = putT (putT t d' r') d r := by
 cases d with
 | none => rfl
 | some d =>
  cases d' with
  | none => rfl
  | some d' =>
   have : d ≠ d' := fun e => h d rfl (by rw [e])
   funext i
   simp only [putT, upd]
   by_cases h1 : i = d <;> by_cases h2 : i = d' <;> simp [h1, h2] <;> (intros; omega)
theorem LocF.frame {T : List Nat} {f : Mem → Option (Prop × Post)} (h : LocF T f) {pre : Prop} {Q : Post} (hf : f M = some (pre, Q)) {r : V} (hq : Q r m) {k : Nat} (hk : k ∉ T) : m k = M k := by
 obtain ⟨Q', h1, h2⟩ := h M M pre Q (fun _ _ => rfl) hf
 rw [hf] at h1; cases h1
 exact (h2 r m hq).1 k hk
theorem front {i : Nat} {o : Oper} : ∀ (l1 : List (Nat × Oper)) (l2 : List (Nat × Oper)) (tr : List Tr) (t : Nat → V) (M : Mem), trOk tr → (∀ a ∈ l1, Sep D E rc ds a (i, o)) → wpD D E rc Φ P ds (l1 ++ (i, o) :: l2) tr t M K →
  ∃ pre Q, outV Φ P ds o t M = some (pre, Q) ∧ pre ∧ (∃ r m, Q r m) ∧ (i ∈ rc → ∀ r m, Q r m → m = M) ∧ (∀ x ∈ tr, (x.1, i) ∈ D → ∀ k ∈ x.2.1, k ∉ touch P o t) ∧
   (∀ x ∈ tr, (x.1, i) ∈ E → i ∉ rc ∧ (∀ k ∈ x.2.1, k ∈ touch P o t) ∧ ∀ r m, Q r m → x.2.2 m) ∧
   ∀ r m, Q r m → wpD D E rc Φ P ds (l1 ++ l2) ((i, touch P o t, LateV Φ P ds o t M) :: tr) (putT t o.dst r) m K
 | [], l2, tr, t, M, _, _, h => h
 | a :: l1, l2, tr, t, M, htr, hs, h => by
  obtain ⟨ia, oa⟩ := a
  obtain ⟨preA, QA, a1, a2, ⟨r0, m0, a3⟩, a4, a5, a5', a6⟩ := h
  have sep := hs (ia, oa) (by simp)
  have locI : LocF (touch P o t) fun M => outV Φ P ds o t M := loc_out
  have locA : LocF (touch P oa t) fun M => outV Φ P ds oa t M := loc_out
  have htr' : trOk ((ia, touch P oa t, LateV Φ P ds oa t M) :: tr) := by
   intro x hx m m' ha hl
   rcases List.mem_cons.1 hx with rfl | hx
   ·exact LateV.loc ha hl
   ·exact htr x hx m m' ha hl
  have ih : ∀ r m, QA r m → _ := fun r m hr => front l1 l2 ((ia, touch P oa t, LateV Φ P ds oa t M) :: tr) (putT t oa.dst r) m htr' (fun a ha => hs a (by simp [ha])) (a6 r m hr)
  -- operands do not move
  have cgI : ∀ r m, outV Φ P ds o (putT t oa.dst r) m = outV Φ P ds o t m ∧ touch P o (putT t oa.dst r) = touch P o t := fun r m => outV_congr fun x hx => putT_off fun e => sep.d1 x e hx
  have cgA : ∀ r m, outV Φ P ds oa (putT t o.dst r) m = outV Φ P ds oa t m ∧ touch P oa (putT t o.dst r) = touch P oa t := fun r m => outV_congr fun x hx => putT_off fun e => sep.d2 x e hx
  have lgI : ∀ r m, LateV Φ P ds o (putT t oa.dst r) m = LateV Φ P ds o t m := fun r m => by
   funext m'; simp only [LateV]; rw [(cgI r m).1, (cgI r m').1]
  have lgA : ∀ r m, LateV Φ P ds oa (putT t o.dst r) m = LateV Φ P ds oa t m := fun r m => by
   funext m'; simp only [LateV]; rw [(cgA r m).1, (cgA r m').1]
  -- the first at m0
  obtain ⟨pre, Q0, b1, b2, ⟨ri, mi, b3⟩, b4, b5, b5', _⟩ := ih r0 m0 a3
  rw [(cgI r0 m0).1] at b1
  rw [(cgI r0 m0).2] at b5 b5'
  have hsep : pureOp oa.op = true ∨ pureOp o.op = true ∨ (ia ∈ rc ∧ i ∈ rc) ∨ (∀ k ∈ touch P oa t, k ∉ touch P o t) ∨ (ia ∈ rc ∧ (ia, i) ∈ E) := by
   rcases sep.mem with h | h | h | h | h
   ·exact .inl h
   ·exact .inr (.inl h)
   ·exact .inr (.inr (.inl h))
   ·exact .inr (.inr (.inr (.inl (b5 _ List.mem_cons_self h))))
   ·exact .inr (.inr (.inr (.inr h)))
  have agI : ∀ r m, QA r m → Agr (touch P o t) m M := by
   intro r m hr k hk
   rcases hsep with h | h | h | h | h
   ·rw [(out_pure h a1).2 r m hr]
   ·rw [show touch P o t = [] by simp [touch, h]] at hk; cases hk
   ·rw [a4 h.1 r m hr]
   ·exact (locA.frame a1 hr (fun hk' => h k hk' hk)).symm
   ·rw [a4 h.1 r m hr]
  obtain ⟨Q, c1, c2⟩ := locI m0 M pre Q0 (agI r0 m0 a3) b1
  have roI : i ∈ rc → ∀ r m, Q r m → m = M := by
   intro hi r m hr
   obtain ⟨d1, m1, d2, d3⟩ := c2 r m hr
   have e := b4 hi r m1 d2
   funext k
   by_cases hk : k ∈ touch P o t
   ·have := congrFun (e.symm.trans d3) k
    simp only [gl, hk, if_true] at this
    rw [← this]; exact (agI r0 m0 a3 k hk).symm
   ·exact d1 k hk
  have back : ∀ r m, QA r m → ∀ Qm, outV Φ P ds o t m = some (pre, Qm) → ∀ r2 m2, Q r2 m2 → ∃ m4, Qm r2 m4 ∧ m4 = gl (touch P o t) m2 m := by
   intro r m hr Qm hQm r2 m2 h2
   obtain ⟨Q', e1, e2⟩ := locI m M pre Qm (agI r m hr) hQm
   cases c1.symm.trans e1
   obtain ⟨_, m4, e3, e4⟩ := e2 r2 m2 h2
   exact ⟨m4, e3, e4⟩
  have ne : ∃ r m, Q r m := by
   obtain ⟨Q', e1, e2⟩ := locI M m0 pre Q (agI r0 m0 a3).symm c1
   cases b1.symm.trans e1
   obtain ⟨_, m4, e3, _⟩ := e2 ri mi b3
   exact ⟨ri, m4, e3⟩
  have late : ∀ x ∈ (ia, touch P oa t, LateV Φ P ds oa t M) :: tr, (x.1, i) ∈ E → i ∉ rc ∧ (∀ k ∈ x.2.1, k ∈ touch P o t) ∧ ∀ r m, Q r m → x.2.2 m := by
   intro x hx hE
   obtain ⟨k1, k2, k3⟩ := b5' x hx hE
   refine ⟨k1, k2, fun r m hr => ?_⟩
   obtain ⟨_, m1, d2, d3⟩ := c2 r m hr
   refine htr' x hx m1 m (fun k hk => ?_) (k3 r m1 d2)
   rw [d3]; simp only [gl, k2 k hk, if_true]
  refine ⟨pre, Q, c1, b2, ne, roI, fun x hx => b5 x (List.mem_cons_of_mem _ hx), fun x hx => late x (List.mem_cons_of_mem _ hx), fun r2 m2 h2 => ?_⟩
  have fr2 : ∀ k, k ∉ touch P o t → m2 k = M k := fun k hk => locI.frame c1 h2 hk
  have same2 : (pureOp o.op = true ∨ (ia ∈ rc ∧ i ∈ rc)) → m2 = M := fun h => h.elim (fun h => (out_pure h c1).2 r2 m2 h2) (fun h => roI h.2 r2 m2 h2)
  -- the trace behind both
  have last : ∀ r m1 m3, QA r m1 → LateV Φ P ds oa t M = LateV Φ P ds oa t m2 → (wpD D E rc Φ P ds (l1 ++ l2) ((i, touch P o t, LateV Φ P ds o t m1) :: (ia, touch P oa t, LateV Φ P ds oa t M) :: tr) (putT (putT t oa.dst r) o.dst r2) m3 K) →
    wpD D E rc Φ P ds (l1 ++ l2) ((ia, touch P oa (putT t o.dst r2), LateV Φ P ds oa (putT t o.dst r2) m2) :: (i, touch P o t, LateV Φ P ds o t M) :: tr) (putT (putT t o.dst r2) oa.dst r) m3 K := by
   intro r m1 m3 hr hl h
   rw [(cgA r2 m2).2, lgA, ← putT_comm sep.dd]
   refine wpD_tr (fun x hx => ?_) h
   rcases List.mem_cons.1 hx with rfl | hx
   ·exact ⟨_, List.mem_cons_of_mem _ List.mem_cons_self, rfl, rfl, fun m h => by rw [← hl]; exact h⟩
   ·rcases List.mem_cons.1 hx with rfl | hx
    ·exact ⟨_, List.mem_cons_self, rfl, rfl, fun m h => h.at_ (agI r m1 hr)⟩
    ·exact ⟨x, List.mem_cons_of_mem _ (List.mem_cons_of_mem _ hx), rfl, rfl, fun _ h => h⟩
  by_cases hE : ia ∈ rc ∧ (ia, i) ∈ E ∧ i ∉ rc
  ·-- a load that may come late
   obtain ⟨hrc, hEi, _⟩ := hE
   obtain ⟨_, _, k3⟩ := late _ List.mem_cons_self hEi
   have hl : LateV Φ P ds oa t M m2 := k3 r2 m2 h2
   obtain ⟨preA', v, l1', l2'⟩ := id hl
   rw [a1] at l1'
   have e : preA = preA' ∧ QA = det v M := by cases l1'; exact ⟨rfl, rfl⟩
   obtain ⟨rfl, rfl⟩ := e
   obtain ⟨rfl, rfl⟩ := a3
   refine ⟨preA, det r0 m2, by rw [(cgA r2 m2).1]; exact l2', a2, ⟨_, _, rfl, rfl⟩, fun _ => by rintro r m ⟨_, rfl⟩; rfl, fun x hx hD => ?_, fun x hx hEx => ?_, ?_⟩
   ·rw [(cgA r2 m2).2]
    rcases List.mem_cons.1 hx with rfl | hx
    ·exact absurd hD sep.nd
    ·exact a5 x hx hD
   ·rcases List.mem_cons.1 hx with rfl | hx
    ·exact absurd hEx sep.ne
    ·exact absurd hrc (a5' x hx hEx).1
   ·rintro r m ⟨rfl, rfl⟩
    obtain ⟨pre', Qm, e1, e2, _, _, _, _, e6⟩ := ih r m0 ⟨rfl, rfl⟩
    rw [(cgI r m0).1] at e1
    cases c1.symm.trans e1
    have hfin := e6 r2 m h2
    rw [(cgI r m0).2, lgI] at hfin
    have hll : LateV Φ P ds oa t m0 = LateV Φ P ds oa t m := by
     funext mm
     refine propext ⟨fun h => hl.to h, fun h => ?_⟩
     obtain ⟨p1, v1, q1, q2⟩ := h
     rw [l2'] at q1
     have e : preA = p1 ∧ det r m = det v1 m := Prod.mk.inj (Option.some.inj q1)
     obtain ⟨rfl, e⟩ := e
     obtain ⟨rfl, _⟩ := det_inj e
     exact ⟨preA, r, a1, q2⟩
    exact last r m0 m ⟨rfl, rfl⟩ hll hfin
  have hsep4 : pureOp oa.op = true ∨ pureOp o.op = true ∨ (ia ∈ rc ∧ i ∈ rc) ∨ (∀ k ∈ touch P oa t, k ∉ touch P o t) := by
   rcases hsep with h | h | h | h | h
   ·exact .inl h
   ·exact .inr (.inl h)
   ·exact .inr (.inr (.inl h))
   ·exact .inr (.inr (.inr h))
   ·by_cases hi : i ∈ rc
    ·exact .inr (.inr (.inl ⟨h.1, hi⟩))
    ·exact absurd ⟨h.1, h.2, hi⟩ hE
  have agA : Agr (touch P oa t) M m2 := by
   intro k hk
   rcases hsep4 with h | h | h | h
   ·rw [(out_pure h a1).1] at hk; cases hk
   ·rw [same2 (.inl h)]
   ·rw [same2 (.inr h)]
   ·exact fr2 k (h k hk)
  obtain ⟨QA', g1, g2⟩ := locA M m2 preA QA agA a1
  have neA : ∃ r m, QA' r m := by
   obtain ⟨Q', e1, e2⟩ := locA m2 M preA QA' agA.symm g1
   cases a1.symm.trans e1
   obtain ⟨_, m4, e3, _⟩ := e2 r0 m0 a3
   exact ⟨r0, m4, e3⟩
  refine ⟨preA, QA', by rw [(cgA r2 m2).1]; exact g1, a2, neA, fun hi r m hr => ?_, fun x hx hD => ?_, fun x hx hEx => ?_, fun r m3 hr => ?_⟩
  ·obtain ⟨d1, m1, d2, d3⟩ := g2 r m hr
   have e := a4 hi r m1 d2
   funext k
   by_cases hk : k ∈ touch P oa t
   ·have := congrFun (e.symm.trans d3) k
    simp only [gl, hk, if_true] at this
    rw [← this]; exact (agA k hk).symm
   ·exact d1 k hk
  ·rw [(cgA r2 m2).2]
   rcases List.mem_cons.1 hx with rfl | hx
   ·exact absurd hD sep.nd
   ·exact a5 x hx hD
  ·rw [(cgA r2 m2).2]
   rcases List.mem_cons.1 hx with rfl | hx
   ·exact absurd hEx sep.ne
   ·obtain ⟨k1, k2, k3⟩ := a5' x hx hEx
    refine ⟨k1, k2, fun r m hr => ?_⟩
    obtain ⟨_, m1, d2, d3⟩ := g2 r m hr
    refine htr x hx m1 m (fun k hk => ?_) (k3 r m1 d2)
    rw [d3]; simp only [gl, k2 k hk, if_true]
  ·obtain ⟨d1, m1, d2, d3⟩ := g2 r m3 hr
   obtain ⟨pre', Qm, e1, e2, _, _, _, _, e6⟩ := ih r m1 d2
   rw [(cgI r m1).1] at e1
   have hpre : pre' = pre := by
    obtain ⟨Q', e1', _⟩ := locI m1 M pre' Qm (agI r m1 d2) e1
    cases c1.symm.trans e1'; rfl
   subst hpre
   obtain ⟨m4, f1, f2⟩ := back r m1 d2 Qm e1 r2 m2 h2
   have hfin := e6 r2 m4 f1
   have hm : m4 = m3 := by
    funext k
    have hm1 := congrFun d3 k
    rw [f2]
    simp only [gl] at hm1 ⊢
    by_cases hi : k ∈ touch P o t <;> by_cases ha : k ∈ touch P oa t
    ·simp only [hi, ha, if_true] at hm1 ⊢
     rcases hsep4 with h | h | h | h
     ·rw [(out_pure h a1).1] at ha; cases ha
     ·rw [show touch P o t = [] by simp [touch, h]] at hi; cases hi
     ·rw [← hm1, a4 h.1 r m1 d2, same2 (.inr h)]
     ·exact absurd hi (h k ha)
    ·simp only [hi, ha, if_true, if_false] at hm1 ⊢
     exact (d1 k ha).symm
    ·simp only [hi, ha, if_true, if_false] at hm1 ⊢
     exact hm1
    ·simp only [hi, ha, if_false] at hm1 ⊢
     rw [hm1, d1 k ha, fr2 k hi]
   rw [hm, (cgI r m1).2, lgI] at hfin
   refine last r m1 m3 d2 ?_ hfin
   funext mm
   exact propext ⟨fun h => h.at_ agA, fun h => h.at_ agA.symm⟩
end
end Go.Proofs.YtkdolbffabmemaaGreatDoor
