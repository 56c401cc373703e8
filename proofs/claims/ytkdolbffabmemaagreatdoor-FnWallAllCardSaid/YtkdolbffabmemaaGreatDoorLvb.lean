/-
 Memory of the machine of values: what a store, a new object, a dropped one, a moved one and a frozen one do.
-/
import Derived.Test.YtkdolbffabmemaaGreatDoorLva
namespace Go.Proofs.YtkdolbffabmemaaGreatDoor
open Go.RowKit
set_option linter.unusedSimpArgs false
set_option linter.unusedVariables false
def Mem.put (M : Mem) (o : Nat) (q : Path) (i j : Nat) (c : V) : Option Mem :=
 match c with
 | .msl d [] γ l cap =>
  match M d with
  | some (.own e γ' cap' es) => if d ≠ o ∧ γ' = γ ∧ cap' = cap ∧ es.length = l then some ((M.era d).setP o q i j (.own e γ' cap' es)) else none
  | _ => none
 | .msl _ _ _ _ _ => none
 | .nilsl => some (M.setP o q i j (.own 0 none 0 []))
 | .own .. | .agg _ | .tuple _ | .undef => none
 | c => some (M.setP o q i j c)
theorem Mem.getP_set {M : Mem} {o : Nat} {v : V} {o' : Nat} {q : Path} : (M.set o v).getP o' q = if o' = o then v.getP q else M.getP o' q := by
 simp only [Mem.getP, Mem.set]
 split <;> simp_all
theorem Mem.getP_era {M : Mem} {o : Nat} {o' : Nat} {q : Path} : (M.era o).getP o' q = if o' = o then none else M.getP o' q := by
 simp only [Mem.getP, Mem.era]
 split <;> simp_all
theorem Mem.getP_setP {M : Mem} {o : Nat} {q : Path} {i j : Nat} {c n0 d0 : V} (hc : c.cells = [c]) (h : M.getP o q = some n0) (hd : n0.cellAt i j = some d0) {o' : Nat} {p : Path} {n' : V}
  (hp : (M.setP o q i j c).getP o' p = some n') :
  (o' = o ∧ ∃ r, p = q ++ (i, j) :: r ∧ c.getP r = some n') ∨
  ((¬ (o' = o ∧ ∃ r, p = q ++ (i, j) :: r)) ∧ ∃ n, M.getP o' p = some n ∧ Up (fun i' j' => o' = o ∧ p = q ∧ i' = i ∧ j' = j) c n n') := by
 unfold Mem.setP at hp
 cases hv : M o with
 | none => simp [Mem.getP, hv] at h
 | some v =>
  simp only [Mem.getP, hv, Option.bind_some] at h
  simp only [hv] at hp
  rw [Mem.getP_set] at hp
  by_cases ho : o' = o
  ·subst ho
   simp only [if_true] at hp
   rcases Go.Proofs.YtkdolbffabmemaaGreatDoor.getP_setP hc h hd hp with ⟨r, h1, h2⟩ | ⟨h1, n, h2, h3⟩
   ·exact .inl ⟨rfl, r, h1, h2⟩
   ·refine .inr ⟨by simpa using h1, n, by simpa [Mem.getP, hv] using h2, by simpa using h3⟩
  ·simp only [ho, if_false] at hp
   exact .inr ⟨by simp [ho], n', hp, .inl rfl⟩
theorem Mem.getP_top {M : Mem} {o : Nat} {q : Path} {v : V} (h : M.getP o q = some v) : ∃ t, M o = some t := by
 cases ht : M o with
 | none => simp [Mem.getP, ht] at h
 | some t => exact ⟨t, rfl⟩
section
variable {sz : TypeId → Nat} {imm imm' : Nat → Prop} {w w' : World} {M M' : Mem}
theorem Rc.same {d d' : V} {u : Value} (he : Ev imm w imm' w') (h : Rc imm w d u) (hs : Same d d') : Rc imm' w' d' u := by
 rcases hs with rfl | ⟨e, γ, cap, l, l', rfl, rfl, hl⟩
 ·cases d <;> first | exact Rp.ev he h | exact h
 ·simpa [Rc, hl] using h
theorem Nd.up {n n' : V} {here : Nat → Nat → Prop} {c : V} (he : Ev imm w imm' w') (h : Nd sz imm w n) (hu : Up here c n n') (hh : ∀ i j, ¬ here i j)
  (hb : ∀ e g cap es, n = .own e (some g) cap es → w'.heap[g]? = w.heap[g]? ∧ ¬ imm' g) : Nd sz imm' w' n' := by
 rcases hu with rfl | ⟨e, γ, cap, es, es', rfl, rfl, hl, hx⟩
 ·cases n with
  | own e γ cap es =>
   cases γ with
   | none => exact h
   | some g =>
    obtain ⟨h1, h2, h3, cur, h4, h5, h6⟩ := h
    obtain ⟨hb1, hb2⟩ := hb _ _ _ _ rfl
    refine ⟨hb2, h2, h3, cur, hb1.trans h4, h5, fun i x hx => ⟨(h6 i x hx).1, fun j c hc => ?_⟩⟩
    obtain ⟨u, hu1, hu2, hu3⟩ := (h6 i x hx).2 j c hc
    exact ⟨u, hu1, hu2, Rc.same he hu3 (.inl rfl)⟩
  | _ => trivial
 ·cases γ with
  | none =>
   obtain ⟨rfl, rfl⟩ := h
   exact ⟨List.eq_nil_of_length_eq_zero (by simpa using hl), rfl⟩
  | some g =>
   obtain ⟨h1, h2, h3, cur, h4, h5, h6⟩ := h
   obtain ⟨hb1, hb2⟩ := hb _ _ _ _ rfl
   refine ⟨hb2, by omega, h3, cur, hb1.trans h4, h5, fun i x' hx' => ?_⟩
   obtain ⟨x, hx1, hx2, hx3⟩ := hx i x' hx'
   refine ⟨hx2.trans (h6 i x hx1).1, fun j d' hd' => ?_⟩
   obtain ⟨d, hd1, hd2⟩ := hx3 j d' hd'
   have hs := hd2.resolve_right (fun h => hh _ _ h.1)
   obtain ⟨u, hu1, hu2, hu3⟩ := (h6 i x hx1).2 j d hd1
   exact ⟨u, hu1, hu2, Rc.same he hu3 hs⟩
theorem place_inj {k i i' j j' : Nat} (hj : j < k) (hj' : j' < k) (h : i * k + j = i' * k + j') : i = i' ∧ j = j' := by
 have h1 : (i * k + j) / k = i := by rw [Nat.mul_comm, Nat.mul_add_div (by omega), Nat.div_eq_of_lt hj]; simp
 have h2 : (i' * k + j') / k = i' := by rw [Nat.mul_comm, Nat.mul_add_div (by omega), Nat.div_eq_of_lt hj']; simp
 rw [h] at h1
 have : i = i' := h1.symm.trans h2
 subst this
 exact ⟨rfl, by omega⟩
theorem Ev.refl (imm : Nat → Prop) (w : World) : Ev imm w imm w := fun _ h => ⟨h, rfl⟩
theorem Ev.trans {imm'' : Nat → Prop} {w'' : World} (h : Ev imm w imm' w') (h' : Ev imm' w' imm'' w'') : Ev imm w imm'' w'' :=
 fun g hg => ⟨(h' g (h g hg).1).1, (h' g (h g hg).1).2.trans (h g hg).2⟩
theorem Nd.place {e : TypeId} {g cap : Nat} {es : List V} (h : Nd sz imm w (.own e (some g) cap es)) {i j : Nat} {d : V} (hd : (V.own e (some g) cap es).cellAt i j = some d) :
  ∃ cur u, w.heap[g]? = some (.cells cur e (0, 0)) ∧ cur[i * sz e + j]? = some u ∧ u.oneCell' = true ∧ Rc imm w d u ∧ j < sz e := by
 obtain ⟨h1, h2, h3, cur, h4, h5, h6⟩ := h
 simp [V.cellAt, Option.bind_eq_some_iff] at hd
 obtain ⟨x, hx, hd⟩ := hd
 obtain ⟨u, hu1, hu2, hu3⟩ := (h6 i x hx).2 j d hd
 exact ⟨cur, u, h4, hu1, hu2, hu3, (h6 i x hx).1 ▸ (List.getElem?_eq_some_iff.1 hd).1⟩
theorem heap_setCell_at (w : World) (g : Nat) (p : Nat) (cur : Array Value) (e : TypeId) (u : Value) (h : w.heap[g]? = some (.cells cur e (0, 0))) :
  (w.setCell ⟨g, p, none⟩ u).heap[g]? = some (.cells (cur.setIfInBounds p u) e (0, 0)) := by
 simp [World.setCell, Array.getElem?_modify, h]
theorem Ev.setCell {g p : Nat} {u : Value} (h : ¬ imm g) : Ev imm w imm (w.setCell ⟨g, p, none⟩ u) :=
 fun k hk => ⟨hk, Below.heap_setCell w _ u k (fun e => h (by subst e; exact hk))⟩
theorem Nd.here {e : TypeId} {g cap : Nat} {es : List V} {n' c : V} {i j : Nat} {here : Nat → Nat → Prop} {d0 : V} {u : Value} (h : Nd sz imm w (.own e (some g) cap es))
  (hd : (V.own e (some g) cap es).cellAt i j = some d0) (hu : Up here c (.own e (some g) cap es) n') (hh : ∀ i' j', here i' j' → i' = i ∧ j' = j)
  (hn : ∀ d', n'.cellAt i j = some d' → d' = c) (hc : Rc imm (w.setCell ⟨g, i * sz e + j, none⟩ u) c u) (h1 : u.oneCell' = true) :
  Nd sz imm (w.setCell ⟨g, i * sz e + j, none⟩ u) n' := by
 obtain ⟨cur0, u0, hg0, hu0, _, _, hjk⟩ := h.place hd
 obtain ⟨k1, k2, k3, cur, k4, k5, k6⟩ := h
 rw [k4] at hg0
 injection hg0 with hg0
 injection hg0 with hg0
 subst hg0
 have he : Ev imm w imm (w.setCell ⟨g, i * sz e + j, none⟩ u) := Ev.setCell k1
 have key : ∀ es', es'.length = es.length → (∀ (i' : Nat) x', es'[i']? = some x' → ∃ x, es[i']? = some x ∧ x'.cells.length = x.cells.length ∧
   ∀ (j' : Nat) d', x'.cells[j']? = some d' → ∃ d, x.cells[j']? = some d ∧ (Same d d' ∨ (here i' j' ∧ d' = c))) →
   (∀ d', (V.own e (some g) cap es').cellAt i j = some d' → d' = c) →
   Nd sz imm (w.setCell ⟨g, i * sz e + j, none⟩ u) (.own e (some g) cap es') := by
  intro es' hl hx hn'
  refine ⟨k1, by omega, k3, _, heap_setCell_at w g _ cur e u k4, by simp [k5], fun i' x' hx' => ?_⟩
  obtain ⟨x, hx1, hx2, hx3⟩ := hx i' x' hx'
  refine ⟨hx2.trans (k6 i' x hx1).1, fun j' d' hd' => ?_⟩
  obtain ⟨d, hd1, hd2⟩ := hx3 j' d' hd'
  have hj' : j' < sz e := (k6 i' x hx1).1 ▸ (List.getElem?_eq_some_iff.1 hd1).1
  by_cases hij : i' = i ∧ j' = j
  ·obtain ⟨rfl, rfl⟩ := hij
   have : d' = c := hn' d' (by simp [V.cellAt, hx', hd'])
   subst this
   exact ⟨u, by rw [Array.getElem?_setIfInBounds]; simp; exact (Array.getElem?_eq_some_iff.1 hu0).1, h1, hc⟩
  ·have hs := hd2.resolve_right (fun h => hij (hh _ _ h.1))
   obtain ⟨v, hv1, hv2, hv3⟩ := (k6 i' x hx1).2 j' d hd1
   refine ⟨v, ?_, hv2, Rc.same he hv3 hs⟩
   rw [Array.getElem?_setIfInBounds_ne (fun hp => hij ?_)]
   ·exact hv1
   ·obtain ⟨a, b⟩ := place_inj hjk hj' hp
    exact ⟨a.symm, b.symm⟩
 rcases hu with rfl | ⟨e', γ', cap', es1, es', heq, rfl, hl, hx⟩
 ·exact key es rfl (fun i' x' hx' => ⟨x', hx', rfl, fun j' d' hd' => ⟨d', hd', .inl (.inl rfl)⟩⟩) hn
 ·cases heq
  exact key es' hl hx hn
theorem V.getP_append {v : V} {p r : Path} : v.getP (p ++ r) = (v.getP p).bind fun x => x.getP r := by
 induction p generalizing v with
 | nil => rfl
 | cons a p ih =>
  obtain ⟨a, b⟩ := a
  simp only [List.cons_append, V.getP]
  cases v.cellAt a b with
  | none => rfl
  | some c => simp [ih]
theorem Mem.getP_snoc {o : Nat} {q : Path} {i j : Nat} {n : V} (h : M.getP o q = some n) : M.getP o (q ++ [(i, j)]) = n.cellAt i j := by
 cases ho : M o with
 | none => simp [Mem.getP, ho] at h
 | some v =>
  simp only [Mem.getP, ho, Option.bind_some] at h ⊢
  rw [V.getP_append, h]
  simp only [Option.bind_some, V.getP]
  cases n.cellAt i j <;> rfl
theorem Up.block {n n' c : V} {here : Nat → Nat → Prop} (h : Up here c n n') {e : TypeId} {g cap : Nat} {es : List V} (hn : n' = .own e (some g) cap es) : ∃ es0, n = .own e (some g) cap es0 := by
 rcases h with rfl | ⟨e', γ, cap', es1, es2, h1, h2, _⟩
 ·exact ⟨es, hn⟩
 ·rw [h2] at hn; cases hn; exact ⟨es1, h1⟩
theorem Inv.setP {M1 : Mem} {o : Nat} {q : Path} {i j : Nat} {e : TypeId} {g cap : Nat} {es : List V} {d0 c : V} {u : Value} (h : Inv sz imm w M)
  (hsub : ∀ o' q' v, M1.getP o' q' = some v → M.getP o' q' = some v) (hc1 : c.cells = [c])
  (hn : M1.getP o q = some (.own e (some g) cap es)) (hd : (V.own e (some g) cap es).cellAt i j = some d0)
  (hc : Rc imm (w.setCell ⟨g, i * sz e + j, none⟩ u) c u) (h1 : u.oneCell' = true)
  (hm : (∀ r n, c.getP r = some n → (∀ imm w, Nd sz imm w n) ∧ ∀ e' g' cap' es', n ≠ .own e' (some g') cap' es') ∨ ∃ d, M1 d = none ∧ ∀ r n, c.getP r = some n → M.getP d r = some n) :
  Inv sz imm (w.setCell ⟨g, i * sz e + j, none⟩ u) (M1.setP o q i j c) := by
 have hnM := hsub _ _ _ hn
 have hnd := h.nd _ _ _ hnM
 have hng : ¬ imm g := hnd.1
 have he : Ev imm w imm (w.setCell ⟨g, i * sz e + j, none⟩ u) := Ev.setCell hng
 refine ⟨fun o' p n' hp => ?_, fun o' v hv => ?_, ?_⟩
 ·rcases Mem.getP_setP hc1 hn hd hp with ⟨rfl, r, hr, hcr⟩ | ⟨hno, n, hn1, hu⟩
  ·rcases hm with hm | ⟨d, hd1, hd2⟩
   ·exact (hm r n' hcr).1 _ _
   ·have hM := hd2 r n' hcr
    refine Nd.up (here := fun _ _ => False) (c := c) he (h.nd _ _ _ hM) (.inl rfl) (fun _ _ h => h) (fun e2 g2 cap2 es2 hq => ?_)
    subst hq
    have hne : g2 ≠ g := by
     rintro rfl
     obtain ⟨rfl, rfl⟩ := h.inj _ _ _ _ _ _ _ _ _ _ _ hM hnM
     simp [Mem.getP, hd1] at hn
    have hnd2 := h.nd _ _ _ hM
    exact ⟨Below.heap_setCell _ _ _ _ hne, hnd2.1⟩
  ·have hM := hsub _ _ _ hn1
   by_cases hop : o' = o ∧ p = q
   ·obtain ⟨rfl, rfl⟩ := hop
    rw [hn] at hn1
    cases hn1
    refine Nd.here hnd hd hu (fun i' j' h => ⟨h.2.2.1, h.2.2.2⟩) (fun d' hd' => ?_) hc h1
    have hs := Mem.getP_snoc (i := i) (j := j) hp
    rw [hd'] at hs
    rcases Mem.getP_setP hc1 hn hd hs with ⟨_, r, hr, hcr⟩ | ⟨hno', _⟩
    ·have : r = [] := by simpa using hr
     subst this
     simpa [V.getP, eq_comm] using hcr
    ·exact (hno' ⟨rfl, [], rfl⟩).elim
   ·refine Nd.up he (h.nd _ _ _ hM) hu (fun i' j' hh => hop ⟨hh.1, hh.2.1⟩) (fun e2 g2 cap2 es2 hq => ?_)
    subst hq
    have hne : g2 ≠ g := by
     rintro rfl
     exact hop (h.inj _ _ _ _ _ _ _ _ _ _ _ hM hnM)
    exact ⟨Below.heap_setCell _ _ _ _ hne, (h.nd _ _ _ hM).1⟩
 ·have hv0 : (M1.setP o q i j c).getP o' [] = some v := by simp [Mem.getP, hv, V.getP]
  unfold Mem.setP at hv
  obtain ⟨t, ht⟩ := Mem.getP_top hn
  simp only [ht, Mem.set] at hv
  split at hv
  ·cases hv
   have := h.top o t (by simpa [Mem.getP, V.getP] using hsub o [] t (by simp [Mem.getP, ht, V.getP]))
   exact setP_own this
  ·have := hsub o' [] v (by simp [Mem.getP, hv, V.getP])
   exact h.top o' v (by
    cases hM : M o' with
    | none => simp [Mem.getP, hM] at this
    | some x => simp [Mem.getP, hM, V.getP] at this; rw [this])
 ·intro o1 q1 o2 q2 g' e1 cap1 es1 e2 cap2 es2 hp1 hp2
  have key : ∀ o' p e' cap' es', (M1.setP o q i j c).getP o' p = some (.own e' (some g') cap' es') →
    (∃ d r, M1 d = none ∧ (o' = o ∧ p = q ++ (i, j) :: r) ∧ (∀ r n, c.getP r = some n → M.getP d r = some n) ∧ ∃ es0, M.getP d r = some (.own e' (some g') cap' es0)) ∨
    ((¬ (o' = o ∧ ∃ r, p = q ++ (i, j) :: r)) ∧ ∃ es0, M1.getP o' p = some (.own e' (some g') cap' es0)) := by
   intro o' p e' cap' es' hp
   rcases Mem.getP_setP hc1 hn hd hp with ⟨rfl, r, hr, hcr⟩ | ⟨hno, n, hn1, hu⟩
   ·rcases hm with hm | ⟨d, hd1, hd2⟩
    ·exact absurd rfl ((hm r _ hcr).2 _ _ _ _)
    ·exact .inl ⟨d, r, hd1, ⟨rfl, hr⟩, hd2, _, hd2 r _ hcr⟩
   ·obtain ⟨es0, rfl⟩ := hu.block rfl
    exact .inr ⟨hno, es0, hn1⟩
  rcases key _ _ _ _ _ hp1 with ⟨d, r, k1, ⟨rfl, rfl⟩, k3, es3, k4⟩ | ⟨k1, es3, k2⟩ <;> rcases key _ _ _ _ _ hp2 with ⟨d', r', l1, ⟨rfl, rfl⟩, l3, es4, l4⟩ | ⟨l1, es4, l2⟩
  ·have hone : d = d' := by
    have h1 := k3 [] c rfl
    have h2 := l3 [] c rfl
    have e1 := h.inj _ _ _ _ _ _ _ _ _ _ _ k4 l4
    exact e1.1
   subst hone
   obtain ⟨_, rfl⟩ := h.inj _ _ _ _ _ _ _ _ _ _ _ k4 l4
   exact ⟨rfl, rfl⟩
  ·obtain ⟨rfl, rfl⟩ := h.inj _ _ _ _ _ _ _ _ _ _ _ k4 (hsub _ _ _ l2)
   simp [Mem.getP, k1] at l2
  ·obtain ⟨rfl, rfl⟩ := h.inj _ _ _ _ _ _ _ _ _ _ _ l4 (hsub _ _ _ k2)
   simp [Mem.getP, l1] at k2
  ·exact h.inj _ _ _ _ _ _ _ _ _ _ _ (hsub _ _ _ k2) (hsub _ _ _ l2)
theorem getP_plain {c : V} (h : c.isOwn = false) : ∀ r n, c.getP r = some n → (∀ imm w, Nd sz imm w n) ∧ ∀ e' g' cap' es', n ≠ .own e' (some g') cap' es' := by
 intro r n hr
 obtain ⟨rfl, rfl⟩ := getP_nonown h hr
 refine ⟨fun imm w => ?_, fun _ _ _ _ e => ?_⟩
 ·cases n <;> first | trivial | simp [V.isOwn] at h
 ·subst e; simp [V.isOwn] at h
theorem getP_none {e : TypeId} : ∀ r n, (V.own e none 0 []).getP r = some n → (∀ imm w, Nd sz imm w n) ∧ ∀ e' g' cap' es', n ≠ .own e' (some g') cap' es' := by
 intro r n hr
 cases r with
 | nil =>
  simp [V.getP] at hr
  subst hr
  exact ⟨fun _ _ => ⟨rfl, rfl⟩, by simp⟩
 | cons a r => obtain ⟨a, b⟩ := a; simp [V.getP, V.cellAt] at hr
theorem Inv.put {o : Nat} {q : Path} {i j : Nat} {e : TypeId} {g cap : Nat} {es : List V} {d0 c : V} {u : Value} (h : Inv sz imm w M)
  (hn : M.getP o q = some (.own e (some g) cap es)) (hd : (V.own e (some g) cap es).cellAt i j = some d0) (hp : M.put o q i j c = some M')
  (hc : Rp imm w c u) (h1 : u.oneCell' = true) : Inv sz imm (w.setCell ⟨g, i * sz e + j, none⟩ u) M' := by
 have hng : ¬ imm g := (h.nd _ _ _ hn).1
 have he : Ev imm w imm (w.setCell ⟨g, i * sz e + j, none⟩ u) := Ev.setCell hng
 have plain : c.cells = [c] → c.isOwn = false → M' = M.setP o q i j c → Inv sz imm (w.setCell ⟨g, i * sz e + j, none⟩ u) M' := by
  rintro k1 k2 rfl
  refine h.setP (fun _ _ _ h => h) k1 hn hd ?_ h1 (.inl (getP_plain k2))
  cases c <;> first | exact hc.ev he | simp [V.isOwn] at k2
 cases c <;> simp only [Mem.put, Option.some.injEq, reduceCtorEq] at hp <;> try exact plain rfl rfl hp.symm
 case nilsl =>
  subst hp
  cases hc
  exact h.setP (fun _ _ _ h => h) rfl hn hd rfl h1 (.inl getP_none)
 case msl d q' γ l cp =>
  cases q' with
  | cons a q' => simp at hp
  | nil =>
   simp only at hp
   split at hp
   ·rename_i e' γ' cap' es' hMd
    split at hp
    ·rename_i hcond
     obtain ⟨k1, rfl, rfl, rfl⟩ := hcond
     cases hp
     cases hc
     refine h.setP (M1 := M.era d) (fun o' q' v hv => ?_) rfl ?_ hd rfl h1 (.inr ⟨d, by simp [Mem.era], fun r n hr => ?_⟩)
     ·rw [Mem.getP_era] at hv
      split at hv
      ·cases hv
      ·exact hv
     ·rw [Mem.getP_era, if_neg (fun e => k1 e.symm)]
      exact hn
     ·simpa [Mem.getP, hMd] using hr
    ·cases hp
   ·cases hp
theorem Inv.sub (h : Inv sz imm w M) (hs : ∀ o v, M' o = some v → M o = some v) : Inv sz imm w M' := by
 have hg : ∀ o q v, M'.getP o q = some v → M.getP o q = some v := by
  intro o q v hv
  cases ho : M' o with
  | none => simp [Mem.getP, ho] at hv
  | some t => simpa [Mem.getP, ho, hs o t ho] using hv
 exact ⟨fun o q v hv => h.nd o q v (hg _ _ _ hv), fun o v hv => h.top o v (hs _ _ hv), fun o q o' q' g e cap es e' cap' es' h1 h2 => h.inj o q o' q' g e cap es e' cap' es' (hg _ _ _ h1) (hg _ _ _ h2)⟩
theorem Inv.era (h : Inv sz imm w M) (o : Nat) : Inv sz imm w (M.era o) := h.sub fun k v hv => by
 simp only [Mem.era] at hv
 split at hv
 ·cases hv
 ·exact hv
theorem Inv.rekey (h : Inv sz imm w M) {o d : Nat} {v : V} (ho : M o = some v) : Inv sz imm w ((M.era o).set d v) := by
 have hg : ∀ o' q v', ((M.era o).set d v).getP o' q = some v' → (o' = d ∧ M.getP o q = some v') ∨ (o' ≠ d ∧ o' ≠ o ∧ M.getP o' q = some v') := by
  intro o' q v' hv
  rw [Mem.getP_set] at hv
  split at hv
  ·exact .inl ⟨‹_›, by simpa [Mem.getP, ho] using hv⟩
  ·rw [Mem.getP_era] at hv
   split at hv
   ·cases hv
   ·exact .inr ⟨‹_›, ‹_›, hv⟩
 refine ⟨fun o' q v' hv => ?_, fun o' v' hv => ?_, ?_⟩
 ·rcases hg _ _ _ hv with ⟨_, h1⟩ | ⟨_, _, h1⟩ <;> exact h.nd _ _ _ h1
 ·rcases hg o' [] v' (by simp [Mem.getP, hv, V.getP]) with ⟨_, h1⟩ | ⟨_, _, h1⟩
  ·simp [Mem.getP, ho, V.getP] at h1; subst h1; exact h.top _ _ ho
  ·cases hM : M o' with
   | none => simp [Mem.getP, hM] at h1
   | some t => simp [Mem.getP, hM, V.getP] at h1; subst h1; exact h.top _ _ hM
 ·intro o1 q1 o2 q2 g e1 c1 es1 e2 c2 es2 h1 h2
  rcases hg _ _ _ h1 with ⟨rfl, k1⟩ | ⟨k0, k0', k1⟩ <;> rcases hg _ _ _ h2 with ⟨rfl, l1⟩ | ⟨l0, l0', l1⟩
  ·exact ⟨rfl, (h.inj _ _ _ _ _ _ _ _ _ _ _ k1 l1).2⟩
  ·exact absurd (h.inj _ _ _ _ _ _ _ _ _ _ _ k1 l1).1.symm l0'
  ·exact absurd (h.inj _ _ _ _ _ _ _ _ _ _ _ k1 l1).1 k0'
  ·exact h.inj _ _ _ _ _ _ _ _ _ _ _ k1 l1
theorem Nd.lt {e : TypeId} {g cap : Nat} {es : List V} (h : Nd sz imm w (.own e (some g) cap es)) : g < w.heap.size := by
 obtain ⟨_, _, _, cur, h4, _⟩ := h
 exact (Array.getElem?_eq_some_iff.1 h4).1
theorem Inv.regroup {M1 : Mem} {d : Nat} {e : TypeId} {g cap : Nat} {es : List V} (h : Inv sz imm w M) (hsub : ∀ o v, M1 o = some v → M o = some v) (he : Ev imm w imm' w')
  (hT : Nd sz imm' w' (.own e (some g) cap es))
  (hother : ∀ g2, g2 ≠ g → g2 < w.heap.size → w'.heap[g2]? = w.heap[g2]? ∧ (imm' g2 → imm g2))
  (hfresh : ∀ o q e2 cap2 es2, M.getP o q = some (.own e2 (some g) cap2 es2) → M1 o = none ∧ q = [])
  (φ : Path → Nat × Path) (hφ : ∀ i j r n, (V.own e (some g) cap es).getP ((i, j) :: r) = some n →
   ((∀ imm w, Nd sz imm w n) ∧ ∀ e' g' cap' es', n ≠ .own e' (some g') cap' es') ∨
   (M1 (φ ((i, j) :: r)).1 = none ∧ (φ ((i, j) :: r)).2 ≠ [] ∧ M.getP (φ ((i, j) :: r)).1 (φ ((i, j) :: r)).2 = some n))
  (hinj : ∀ p p', p ≠ [] → p' ≠ [] → φ p = φ p' → (∃ e' g' cap' es', (V.own e (some g) cap es).getP p = some (.own e' (some g') cap' es')) → (∃ e' g' cap' es', (V.own e (some g) cap es).getP p' = some (.own e' (some g') cap' es')) → p = p') :
  Inv sz imm' w' (M1.set d (.own e (some g) cap es)) := by
 have hg : ∀ o q v, M1.getP o q = some v → M.getP o q = some v := by
  intro o q v hv
  cases ho : M1 o with
  | none => simp [Mem.getP, ho] at hv
  | some t => simpa [Mem.getP, ho, hsub o t ho] using hv
 have old : ∀ {n : V}, Nd sz imm w n → (∀ e2 g2 cap2 es2, n = .own e2 (some g2) cap2 es2 → g2 ≠ g) → Nd sz imm' w' n := by
  intro n hn hne
  refine Nd.up (here := fun _ _ => False) (c := .undef) he hn (.inl rfl) (fun _ _ h => h) (fun e2 g2 cap2 es2 hq => ?_)
  have h1 := hne _ _ _ _ hq
  subst hq
  exact ⟨(hother g2 h1 hn.lt).1, fun hi => hn.1 ((hother g2 h1 hn.lt).2 hi)⟩
 refine ⟨fun o q v hv => ?_, fun o v hv => ?_, ?_⟩
 ·rw [Mem.getP_set] at hv
  split at hv
  ·cases q with
   | nil => simp [V.getP] at hv; subst hv; exact hT
   | cons a r =>
    obtain ⟨i, j⟩ := a
    rcases hφ i j r v hv with h1 | ⟨h1, h2, h3⟩
    ·exact h1.1 _ _
    ·refine old (h.nd _ _ _ h3) (fun e2 g2 cap2 es2 hq hgg => ?_)
     subst hq
     rw [hgg] at h3
     exact h2 (hfresh _ _ _ _ _ h3).2
  ·refine old (h.nd _ _ _ (hg _ _ _ hv)) (fun e2 g2 cap2 es2 hq hgg => ?_)
   subst hq
   rw [hgg] at hv
   have := (hfresh _ _ _ _ _ (hg _ _ _ hv)).1
   simp [Mem.getP, this] at hv
 ·simp only [Mem.set] at hv
  split at hv
  ·cases hv; rfl
  ·exact h.top _ _ (hsub _ _ hv)
 ·intro o1 q1 o2 q2 g' e1 c1 es1 e2 c2 es2 h1 h2
  have key : ∀ o q e' cap' es', (M1.set d (V.own e (some g) cap es)).getP o q = some (.own e' (some g') cap' es') →
    (o = d ∧ q = [] ∧ g' = g) ∨ (o = d ∧ q ≠ [] ∧ g' ≠ g ∧ (∃ e' g' cap' es', (V.own e (some g) cap es).getP q = some (.own e' (some g') cap' es')) ∧ M1 (φ q).1 = none ∧ M.getP (φ q).1 (φ q).2 = some (.own e' (some g') cap' es')) ∨
    (o ≠ d ∧ g' ≠ g ∧ M1.getP o q = some (.own e' (some g') cap' es')) := by
   intro o q e' cap' es' hv
   rw [Mem.getP_set] at hv
   split at hv
   ·cases q with
    | nil => simp [V.getP] at hv; exact .inl ⟨‹_›, rfl, hv.2.1.symm⟩
    | cons a r =>
     obtain ⟨i, j⟩ := a
     rcases hφ i j r _ hv with h1 | ⟨h1, h2, h3⟩
     ·exact absurd rfl (h1.2 _ _ _ _)
     ·refine .inr (.inl ⟨‹_›, by simp, fun hgg => ?_, ⟨_, _, _, _, hv⟩, h1, h3⟩)
      rw [hgg] at h3
      exact h2 (hfresh _ _ _ _ _ h3).2
   ·refine .inr (.inr ⟨‹_›, fun hgg => ?_, hv⟩)
    rw [hgg] at hv
    have := (hfresh _ _ _ _ _ (hg _ _ _ hv)).1
    simp [Mem.getP, this] at hv
  rcases key _ _ _ _ _ h1 with ⟨rfl, rfl, k⟩ | ⟨rfl, k1, k2, k3, k4, k5⟩ | ⟨k1, k2, k3⟩ <;> rcases key _ _ _ _ _ h2 with ⟨l0, l1, l⟩ | ⟨l0, l1, l2, l3, l4, l5⟩ | ⟨l1, l2, l3⟩
  ·exact ⟨l0.symm, l1.symm⟩
  ·exact absurd k l2
  ·exact absurd k l2
  ·exact absurd l k2
  ·have := h.inj _ _ _ _ _ _ _ _ _ _ _ k5 l5
   exact ⟨l0.symm, hinj _ _ k1 l1 (Prod.ext this.1 this.2) k3 l3⟩
  ·have := h.inj _ _ _ _ _ _ _ _ _ _ _ k5 (hg _ _ _ l3)
   rw [← this.1] at l3
   simp [Mem.getP, k4] at l3
  ·exact absurd l k2
  ·have := h.inj _ _ _ _ _ _ _ _ _ _ _ l5 (hg _ _ _ k3)
   rw [← this.1] at k3
   simp [Mem.getP, l4] at k3
  ·exact h.inj _ _ _ _ _ _ _ _ _ _ _ (hg _ _ _ k3) (hg _ _ _ l3)
def V.flatC : V → Bool
 | .own _ none 0 [] => true
 | .own .. => false
 | _ => true
theorem getP_flat {c : V} (h : c.flatC = true) : ∀ r n, c.getP r = some n → (∀ imm w, Nd sz imm w n) ∧ ∀ e' g' cap' es', n ≠ .own e' (some g') cap' es' := by
 by_cases hc : c.isOwn = true
 ·cases c <;> simp [V.isOwn] at hc
  rename_i e γ cap es
  cases γ <;> cases cap <;> cases es <;> simp [V.flatC] at h
  exact getP_none
 ·exact getP_plain (by simpa using hc)
theorem Inv.new {d : Nat} {e : TypeId} {cap : Nat} {es : List V} {cur : Array Value} (h : Inv sz imm w M) (hi : ∀ g, imm g → g < w.heap.size) (hs : cur.size = cap * sz e) (hcm : cap ≤ maxLen)
  (hl : es.length ≤ cap) (hx : ∀ i x, es[i]? = some x → x.cells.length = sz e ∧ ∀ j c, x.cells[j]? = some c → c.flatC = true ∧ ∃ u, cur[i * sz e + j]? = some u ∧ u.oneCell' = true ∧ Rc imm w c u) :
  Inv sz imm (w.alloc (.cells cur e)) (M.set d (.own e (some w.heap.size) cap es)) := by
 have he : Ev imm w imm (w.alloc (.cells cur e)) := fun g hg => ⟨hg, Below.heap_alloc w _ g (hi g hg)⟩
 refine h.regroup (M1 := M) (fun _ _ h => h) he ?_ (fun g2 _ hlt => ⟨Below.heap_alloc w _ g2 hlt, id⟩) (fun o q e2 cap2 es2 hq => absurd (h.nd _ _ _ hq).lt (by omega)) (fun p => (0, p)) (fun i j r n hn => .inl ?_)
  (fun p p' _ _ hp _ _ => by simpa using hp)
 ·refine ⟨fun hh => absurd (hi _ hh) (by omega), hl, hcm, cur, heap_alloc_new w _, hs, fun i x hix => ⟨(hx i x hix).1, fun j c hc => ?_⟩⟩
  obtain ⟨hf, u, hu1, hu2, hu3⟩ := (hx i x hix).2 j c hc
  exact ⟨u, hu1, hu2, Rc.same he hu3 (.inl rfl)⟩
 ·simp only [V.getP] at hn
  cases hc : (V.own e (some w.heap.size) cap es).cellAt i j with
  | none => simp [hc] at hn
  | some c =>
   simp only [hc, Option.bind_some] at hn
   simp [V.cellAt, Option.bind_eq_some_iff] at hc
   obtain ⟨x, hx1, hx2⟩ := hc
   exact getP_flat ((hx i x hx1).2 j c hx2).1 r n hn
def V.blocks (v : V) (g : Nat) : Prop := ∃ q e cap es, v.getP q = some (.own e (some g) cap es)
theorem cells_fz (x : V) : x.fz.cells = x.cells.map V.fz := by
 cases x <;> simp [V.fz, V.cells, fzs_map]
theorem Rc.fz : ∀ (n : Nat) {c : V} {u : Value}, SizeOf.sizeOf c ≤ n → (∀ r v, c.getP r = some v → Nd sz imm w v) → (∀ g, imm g ∨ c.blocks g → imm' g) → Rc imm w c u → Rp imm' w c.fz u := by
 intro n
 induction n with
 | zero => intro c u hs; cases c <;> simp at hs
 | succ n ih =>
  intro c u hs hnd hi hc
  have he : Ev imm w imm' w := fun g hg => ⟨hi g (.inl hg), rfl⟩
  cases c with
  | own e γ cap es =>
   simp only [Rc] at hc
   subst hc
   have h0 := hnd [] _ rfl
   simp only [V.fz, fzs_map]
   cases γ with
   | none =>
    obtain ⟨rfl, rfl⟩ := h0
    exact .sl0 _ _
   | some g =>
    obtain ⟨h1, h2, h3, cur, h4, h5, h6⟩ := h0
    have hcell : ∀ (i : Nat) (x : V) (j : Nat) (c : V), es[i]? = some x → x.cells[j]? = some c → Rp imm' w c.fz (cur.getD (i * sz e + j) undef) ∧ cur[i * sz e + j]? = some (cur.getD (i * sz e + j) undef) := by
     intro i x j c hx hc
     obtain ⟨u, hu1, hu2, hu3⟩ := (h6 i x hx).2 j c hc
     have hu : cur.getD (i * sz e + j) undef = u := by simp [Array.getD_eq_getD_getElem?, hu1]
     rw [hu]
     have hsx : SizeOf.sizeOf x < SizeOf.sizeOf es := List.sizeOf_lt_of_mem (List.mem_of_getElem? hx)
     have hsc : SizeOf.sizeOf c ≤ SizeOf.sizeOf x := by
      have hm := List.mem_of_getElem? hc
      cases x <;> simp [V.cells] at hm <;> first | (subst hm; exact Nat.le_refl _) | skip
      have := List.sizeOf_lt_of_mem hm
      simp; omega
     have hcat : (V.own e (some g) cap es).cellAt i j = some c := by simp [V.cellAt, hx, hc]
     refine ⟨ih (by simp at hs; omega) (fun r v hr => hnd ((i, j) :: r) v (by simp [V.getP, hcat, hr])) (fun g' hg' => hi g' (hg'.imp id ?_)) hu3, hu1⟩
     rintro ⟨q, e', cap', es', hq⟩
     exact ⟨(i, j) :: q, e', cap', es', by simp [V.getP, hcat, hq]⟩
    have hlen : es.length = (es.map V.fz).length := by simp
    rw [hlen]
    refine Rp.sl (es.map V.fz) g 0 cap (sz e) cur e (0, 0) (fun i j => cur.getD (i * sz e + j) undef) (hi g (.inr ⟨[], _, _, _, rfl⟩)) h4 (by simpa using h2) ?_ ?_ ?_
    ·intro i x hx
     simp [List.getElem?_map, Option.map_eq_some_iff] at hx
     obtain ⟨y, hy, rfl⟩ := hx
     rw [cells_fz, List.length_map]
     exact (h6 i y hy).1
    ·intro i x j c hx hc
     simp [List.getElem?_map, Option.map_eq_some_iff] at hx
     obtain ⟨y, hy, rfl⟩ := hx
     rw [cells_fz, List.getElem?_map, Option.map_eq_some_iff] at hc
     obtain ⟨d, hd, rfl⟩ := hc
     simpa using (hcell i y j d hy hd).2
    ·intro i x j c hx hc
     simp [List.getElem?_map, Option.map_eq_some_iff] at hx
     obtain ⟨y, hy, rfl⟩ := hx
     rw [cells_fz, List.getElem?_map, Option.map_eq_some_iff] at hc
     obtain ⟨d, hd, rfl⟩ := hc
     exact (hcell i y j d hy hd).1
  | agg cs =>
   cases hc with
   | agg cs arr hl h =>
    simp only [V.fz, fzs_map]
    refine .agg _ arr (by simpa using hl) (fun j c u hj hu => ?_)
    rw [List.getElem?_map, Option.map_eq_some_iff] at hj
    obtain ⟨d, hd, rfl⟩ := hj
    have hsd := List.sizeOf_lt_of_mem (List.mem_of_getElem? hd)
    have hrd := h j d u hd hu
    refine ih (by simp at hs; omega) (fun r v hr => ?_) (fun g' hg' => hi g' (.inl (hg'.resolve_right ?_))) (by cases d <;> first | exact hrd | cases hrd)
    ·have := getP_nonown (v := d) (by cases d <;> first | rfl | cases hrd) hr
     obtain ⟨rfl, rfl⟩ := this
     cases v <;> first | trivial | cases hrd
    ·rintro ⟨q, e', cap', es', hq⟩
     have := getP_nonown (v := d) (by cases d <;> first | rfl | cases hrd) hq
     obtain ⟨rfl, rfl⟩ := this
     cases hrd
  | _ => exact Rp.ev he hc
theorem Nd.up2 {n n' : V} {here : Nat → Nat → Prop} {c : V} (he : Ev imm w imm' w) (h : Nd sz imm w n) (hu : Up here c n n')
  (hh : ∀ i j d u, here i j → n.cellAt i j = some d → Rc imm w d u → Rc imm' w c u)
  (hb : ∀ e g cap es, n = .own e (some g) cap es → ¬ imm' g) : Nd sz imm' w n' := by
 rcases hu with rfl | ⟨e, γ, cap, es, es', rfl, rfl, hl, hx⟩
 ·exact Nd.up (here := fun _ _ => False) (c := c) he h (.inl rfl) (fun _ _ h => h) (fun e g cap es hq => ⟨rfl, hb e g cap es hq⟩)
 ·cases γ with
  | none =>
   obtain ⟨rfl, rfl⟩ := h
   exact ⟨List.eq_nil_of_length_eq_zero (by simpa using hl), rfl⟩
  | some g =>
   obtain ⟨h1, h2, h3, cur, h4, h5, h6⟩ := h
   refine ⟨hb _ _ _ _ rfl, by omega, h3, cur, h4, h5, fun i x' hx' => ?_⟩
   obtain ⟨x, hx1, hx2, hx3⟩ := hx i x' hx'
   refine ⟨hx2.trans (h6 i x hx1).1, fun j d' hd' => ?_⟩
   obtain ⟨d, hd1, hd2⟩ := hx3 j d' hd'
   obtain ⟨u, hu1, hu2, hu3⟩ := (h6 i x hx1).2 j d hd1
   rcases hd2 with hs | ⟨hhere, rfl⟩
   ·exact ⟨u, hu1, hu2, Rc.same he hu3 hs⟩
   ·exact ⟨u, hu1, hu2, hh i j d u hhere (by simp [V.cellAt, hx1, hd1]) hu3⟩
theorem Inv.freeze (h : Inv sz imm w M) {o : Nat} {e : TypeId} {γ : Option Nat} {cap : Nat} {es : List V} (ho : M o = some (.own e γ cap es)) :
  Inv sz (fun g => imm g ∨ (V.own e γ cap es).blocks g) w (M.era o) ∧
  Rp (fun g => imm g ∨ (V.own e γ cap es).blocks g) w (.sl (es.map V.fz)) (.slice (γ.map fun g => ⟨g, 0, none⟩) es.length cap) ∧ (∀ g, (V.own e γ cap es).blocks g → g < w.heap.size ∧ M.owns g) := by
 have hgo : ∀ q, M.getP o q = (V.own e γ cap es).getP q := fun q => by simp [Mem.getP, ho]
 have he : Ev imm w (fun g => imm g ∨ (V.own e γ cap es).blocks g) w := fun g hg => ⟨.inl hg, rfl⟩
 refine ⟨⟨fun o' q v hv => ?_, fun o' v hv => ?_, ?_⟩, ?_, ?_⟩
 ·rw [Mem.getP_era] at hv
  split at hv
  ·cases hv
  ·refine Nd.up (here := fun _ _ => False) (c := .undef) he (h.nd _ _ _ hv) (.inl rfl) (fun _ _ h => h) (fun e2 g2 cap2 es2 hq => ⟨rfl, ?_⟩)
   subst hq
   rintro (h1 | ⟨q', e', cap', es', h1⟩)
   ·exact (h.nd _ _ _ hv).1 h1
   ·rw [← hgo] at h1
    exact absurd (h.inj _ _ _ _ _ _ _ _ _ _ _ hv h1).1 ‹_›
 ·exact (h.era o).top o' v hv
 ·exact (h.era o).inj
 ·have := Rc.fz (imm' := fun g => imm g ∨ (V.own e γ cap es).blocks g) _ (Nat.le_refl (SizeOf.sizeOf (V.own e γ cap es))) (fun r v hr => h.nd o r v (by rw [hgo]; exact hr)) (fun g hg => hg) (u := .slice (γ.map fun g => ⟨g, 0, none⟩) es.length cap) rfl
  simpa [V.fz, fzs_map] using this
 ·rintro g ⟨q, e', cap', es', hq⟩
  rw [← hgo] at hq
  exact ⟨(h.nd _ _ _ hq).lt, o, q, e', cap', es', hq⟩
theorem fz_one {c : V} (h : c.isOwn = true) : c.fz.cells = [c.fz] := by cases c <;> simp_all [V.isOwn, V.fz, V.cells]
theorem fz_isOwn (c : V) : c.fz.isOwn = false := by cases c <;> simp [V.fz, V.isOwn]
theorem Inv.freezeC (h : Inv sz imm w M) {o : Nat} {q : Path} {i j : Nat} {n0 c : V} (hn : M.getP o q = some n0) (hc : n0.cellAt i j = some c) (ho : c.isOwn = true) :
  Inv sz (fun g => imm g ∨ c.blocks g) w (M.setP o q i j c.fz) ∧ (∀ g, c.blocks g → g < w.heap.size ∧ M.owns g) := by
 have hgc : ∀ r, M.getP o (q ++ (i, j) :: r) = c.getP r := by
  intro r
  obtain ⟨t, ht⟩ := Mem.getP_top hn
  simp only [Mem.getP, ht, Option.bind_some] at hn ⊢
  rw [V.getP_append, hn]
  simp [V.getP, hc]
 have he : Ev imm w (fun g => imm g ∨ c.blocks g) w := fun g hg => ⟨.inl hg, rfl⟩
 have notin : ∀ o' p e g cap es, (¬ (o' = o ∧ ∃ r, p = q ++ (i, j) :: r)) → M.getP o' p = some (.own e (some g) cap es) → ¬ (imm g ∨ c.blocks g) := by
  rintro o' p e g cap es hno hp (h1 | ⟨r, e', cap', es', h1⟩)
  ·exact (h.nd _ _ _ hp).1 h1
  ·rw [← hgc] at h1
   obtain ⟨rfl, rfl⟩ := h.inj _ _ _ _ _ _ _ _ _ _ _ hp h1
   exact hno ⟨rfl, r, rfl⟩
 refine ⟨⟨fun o' p n' hp => ?_, fun o' v hv => ?_, ?_⟩, ?_⟩
 ·rcases Mem.getP_setP (fz_one ho) hn hc hp with ⟨rfl, r, hr, hcr⟩ | ⟨hno, n, hn1, hu⟩
  ·exact (getP_plain (fz_isOwn c) r n' hcr).1 _ _
  ·refine Nd.up2 he (h.nd _ _ _ hn1) hu (fun i' j' d u hh hd hrc => ?_) (fun e g cap es hq => ?_)
   ·obtain ⟨rfl, rfl, rfl, rfl⟩ := hh
    rw [hn] at hn1
    cases hn1
    rw [hc] at hd
    cases hd
    have := Rc.fz (imm' := fun g => imm g ∨ c.blocks g) _ (Nat.le_refl (SizeOf.sizeOf c)) (fun r v hr => h.nd _ _ _ (by rw [hgc]; exact hr)) (fun g hg => hg) hrc
    have ho' := fz_isOwn c
    cases hcf : c.fz <;> first | (rw [hcf] at this; exact this) | (rw [hcf] at ho'; cases ho')
   ·subst hq
    exact notin _ _ _ _ _ _ hno hn1
 ·unfold Mem.setP at hv
  obtain ⟨t, ht⟩ := Mem.getP_top hn
  simp only [ht, Mem.set] at hv
  split at hv
  ·cases hv
   exact setP_own (h.top o t ht)
  ·exact h.top o' v hv
 ·intro o1 q1 o2 q2 g e1 c1 es1 e2 c2 es2 h1 h2
  have key : ∀ o' p e' cap' es', (M.setP o q i j c.fz).getP o' p = some (.own e' (some g) cap' es') → ∃ es0, M.getP o' p = some (.own e' (some g) cap' es0) := by
   intro o' p e' cap' es' hp
   rcases Mem.getP_setP (fz_one ho) hn hc hp with ⟨rfl, r, hr, hcr⟩ | ⟨hno, n, hn1, hu⟩
   ·exact absurd rfl ((getP_plain (sz := sz) (fz_isOwn c) r _ hcr).2 _ _ _ _)
   ·obtain ⟨es0, rfl⟩ := hu.block rfl
    exact ⟨es0, hn1⟩
  obtain ⟨_, k1⟩ := key _ _ _ _ _ h1
  obtain ⟨_, k2⟩ := key _ _ _ _ _ h2
  exact h.inj _ _ _ _ _ _ _ _ _ _ _ k1 k2
 ·rintro g ⟨r, e', cap', es', hr⟩
  rw [← hgc] at hr
  exact ⟨(h.nd _ _ _ hr).lt, o, _, e', cap', es', hr⟩
end
end Go.Proofs.YtkdolbffabmemaaGreatDoor
