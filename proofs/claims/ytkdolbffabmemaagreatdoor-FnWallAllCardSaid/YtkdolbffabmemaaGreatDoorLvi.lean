/-
 The machine of values against the model: append, make, build, slices of slices, variables.
-/
import Derived.Test.YtkdolbffabmemaaGreatDoorLvh
namespace Go.Proofs.YtkdolbffabmemaaGreatDoor
open Go.RowKit
set_option linter.unusedSimpArgs false
set_option linter.unusedVariables false
section
variable {P : Program} {imm imm0 : Nat → Prop} {w w0 : World} {M M0 M' : Mem} {t : Nat → V} {a : Act} {o : Oper}
def HoldsC (k : Nat) (imm : Nat → Prop) (w : World) (xs : List V) (cur : List Value) : Prop :=
 ∀ (i : Nat) x, xs[i]? = some x → x.cells.length = k ∧ ∀ (j : Nat) c, x.cells[j]? = some c → ∃ u, cur[i * k + j]? = some u ∧ u.oneCell' = true ∧ Rc imm w c u
theorem HoldsC.append {k : Nat} {xs ys : List V} {l m : List Value} (h : HoldsC k imm w xs l) (h' : HoldsC k imm w ys m) (hl : l.length = xs.length * k) : HoldsC k imm w (xs ++ ys) (l ++ m) := by
 intro i x hx
 rw [List.getElem?_append] at hx
 split at hx
 ·rename_i hi
  refine ⟨(h i x hx).1, fun j c hc => ?_⟩
  obtain ⟨u, h1, h2, h3⟩ := (h i x hx).2 j c hc
  refine ⟨u, ?_, h2, h3⟩
  have : i * k + j < l.length := (List.getElem?_eq_some_iff.1 h1).1
  rw [List.getElem?_append_left this]; exact h1
 ·rename_i hi
  refine ⟨(h' _ x hx).1, fun j c hc => ?_⟩
  obtain ⟨u, h1, h2, h3⟩ := (h' _ x hx).2 j c hc
  refine ⟨u, ?_, h2, h3⟩
  have e : i * k + j = l.length + ((i - xs.length) * k + j) := by
   rw [hl]
   have : i * k = xs.length * k + (i - xs.length) * k := by rw [← Nat.add_mul]; congr 1; omega
   omega
  rw [e, List.getElem?_append_right (by omega)]
  simpa using h1
theorem HoldsC.ev {k : Nat} {imm' : Nat → Prop} {w' : World} {xs : List V} {l : List Value} (h : HoldsC k imm w xs l) (he : Ev imm w imm' w') : HoldsC k imm' w' xs l := by
 intro i x hx
 refine ⟨(h i x hx).1, fun j c hc => ?_⟩
 obtain ⟨u, h1, h2, h3⟩ := (h i x hx).2 j c hc
 exact ⟨u, h1, h2, Rc.same he h3 (.inl rfl)⟩
structure Src (P : Program) (imm : Nat → Prop) (w : World) (e : TypeId) (x : Value) (ys : List V) : Prop where
 read : ∃ A c, x = .slice A ys.length c ∧ (ys = [] ∨ ∃ g off news, A = some ⟨g, off, none⟩ ∧ news.length = ys.length * szT P e ∧ (∀ j u, news[j]? = some u → w.cell? ((⟨g, off, none⟩ : Addr).add j) = some u) ∧
  (∀ u ∈ news, u.oneCell' = true) ∧ HoldsC (szT P e) imm w ys news)
theorem news_of {k g off : Nat} {ys : List V} (hk : 0 < k) (h : ∀ (i : Nat) y, ys[i]? = some y → y.cells.length = k ∧ ∀ (j : Nat) c, y.cells[j]? = some c → ∃ u, w.cell? ⟨g, off + i * k + j, none⟩ = some u ∧ u.oneCell' = true ∧ Rc imm w c u) :
  ∃ news : List Value, news.length = ys.length * k ∧ (∀ j u, news[j]? = some u → w.cell? ((⟨g, off, none⟩ : Addr).add j) = some u) ∧ (∀ u ∈ news, u.oneCell' = true) ∧ HoldsC k imm w ys news := by
 refine ⟨(List.range (ys.length * k)).map fun p => (w.cell? ⟨g, off + p, none⟩).getD undef, by simp, ?_, ?_, ?_⟩
 ·intro j u hu
  rw [List.getElem?_map, Option.map_eq_some_iff] at hu
  obtain ⟨p, hp, rfl⟩ := hu
  have hlt : j < ys.length * k := by have := (List.getElem?_eq_some_iff.1 hp).1; simpa using this
  have : p = j := by rw [List.getElem?_range (by simpa using hlt)] at hp; exact (Option.some.inj hp).symm
  subst this
  have hi : p / k < ys.length := Nat.div_lt_of_lt_mul (by rw [Nat.mul_comm]; exact hlt)
  obtain ⟨h1, h2⟩ := h (p / k) ys[p / k] (by simp [hi])
  have hj : p % k < (ys[p / k]).cells.length := by rw [h1]; exact Nat.mod_lt _ hk
  obtain ⟨u, u1, _⟩ := h2 (p % k) _ (by simp [hj]; rfl)
  have e : off + p / k * k + p % k = off + p := by rw [Nat.mul_comm]; have := Nat.div_add_mod p k; omega
  rw [e] at u1
  rw [add_off, u1]; rfl
 ·intro u hu
  simp only [List.mem_map, List.mem_range] at hu
  obtain ⟨p, hlt, rfl⟩ := hu
  have hi : p / k < ys.length := Nat.div_lt_of_lt_mul (by rw [Nat.mul_comm]; exact hlt)
  obtain ⟨h1, h2⟩ := h (p / k) ys[p / k] (by simp [hi])
  have hj : p % k < (ys[p / k]).cells.length := by rw [h1]; exact Nat.mod_lt _ hk
  obtain ⟨u, u1, u2, _⟩ := h2 (p % k) _ (by simp [hj]; rfl)
  have e : off + p / k * k + p % k = off + p := by rw [Nat.mul_comm]; have := Nat.div_add_mod p k; omega
  rw [e] at u1
  rw [u1]; exact u2
 ·intro i y hy
  obtain ⟨h1, h2⟩ := h i y hy
  refine ⟨h1, fun j c hc => ?_⟩
  obtain ⟨u, u1, u2, u3⟩ := h2 j c hc
  refine ⟨u, ?_, u2, u3⟩
  have hj : j < k := by rw [← h1]; exact (List.getElem?_eq_some_iff.1 hc).1
  have hi : i < ys.length := (List.getElem?_eq_some_iff.1 hy).1
  have hlt : i * k + j < ys.length * k := by
   have : i * k + k ≤ ys.length * k := by rw [← Nat.succ_mul]; exact Nat.mul_le_mul_right _ hi
   omega
  rw [List.getElem?_map, List.getElem?_range (by simpa using hlt)]
  simp only [Option.map_some]
  rw [← Nat.add_assoc, u1]; rfl
theorem srcV_ok {M1 M2 : Mem} {e : TypeId} {x : V} {xv : Value} {c2 : Prop} {ys : List V} (hpos : 0 < szT P e) (h : srcV M1 x = some (c2, ys, M2)) (hc : c2) (hy : okY P e ys) (hsub : ∀ o q v, M1.getP o q = some v → M.getP o q = some v) (hI : Inv (szT P) imm w M) (hx : Rp imm w x xv) :
  Src P imm w e xv ys ∧ ((M2 = M1 ∧ (∀ y ∈ ys, ∀ c ∈ y.cells, c.flatC = true)) ∨ (∃ s e' γ cap, M1 s = some (.own e' γ cap ys) ∧ M2 = M1.era s)) := by
 unfold srcV at h
 split at h
 ·rename_i ys'
  cases h
  refine ⟨⟨?_⟩, .inl ⟨rfl, ?_⟩⟩
  ·cases hx with
   | sl0 A c => exact ⟨A, c, rfl, .inl rfl⟩
   | sl es g off cap k cur t' fr f hi hg hkk hl hcc hh =>
    refine ⟨_, cap, rfl, .inr ?_⟩
    cases ys with
    | nil => exact ⟨g, off, [], rfl, by simp, by simp, by simp, fun i x hx => by simp at hx⟩
    | cons y0 ys0 =>
     have hk : k = szT P e := by rw [← hl 0 y0 rfl]; exact (hy y0 (by simp)).1
     subst hk
     obtain ⟨news, n1, n2, n3, n4⟩ := news_of (imm := imm) (w := w) (g := g) (off := off) (ys := y0 :: ys0) hpos (fun i y hiy => ⟨hl i y hiy, fun j c hjc => ⟨f i j, by rw [cell_of_row w g _ cur t' fr hg]; exact hcc i y j c hiy hjc, by
      have hr := hh i y j c hiy hjc
      exact ⟨hr.one ((hy y (List.mem_of_getElem? hiy)).2 c (List.mem_of_getElem? hjc)), by cases c <;> first | exact hr | cases hr⟩⟩⟩)
     exact ⟨g, off, news, rfl, n1, n2, n3, n4⟩
  ·intro y hym c hcm
   obtain ⟨i, hi⟩ := List.getElem?_of_mem hym
   obtain ⟨j, hj⟩ := List.getElem?_of_mem hcm
   cases hx with
   | sl0 A c => simp at hi
   | sl es g off cap k cur t' fr f hi' hg hkk hl hcc hh =>
    have hr := hh i y j c hi hj
    cases c <;> first | rfl | cases hr
 ·cases h
  cases hx
  exact ⟨⟨_, _, rfl, .inl rfl⟩, .inl ⟨rfl, by simp⟩⟩
 ·rename_i s q γ l cp
  split at h
  ·rename_i e' γ' cap' es hn
   have rd : ∀ (c2' : Prop) (M2' : Mem), c2' = (γ' = γ ∧ es.length = l) → c2' → okY P e es → Src P imm w e xv es := by
    rintro _ _ rfl ⟨rfl, rfl⟩ hy'
    cases hx
    refine ⟨_, _, rfl, ?_⟩
    have hnd := hI.nd _ _ _ (hsub _ _ _ hn)
    cases γ' with
    | none => exact .inl hnd.1
    | some g =>
     right
     by_cases hes : es = []
     ·subst hes; exact ⟨g, 0, [], rfl, by simp, by simp, by simp, fun i x hx => by simp at hx⟩
     obtain ⟨k1, k2, k3, cur, k4, k5, k6⟩ := hnd
     have hek : szT P e' = szT P e := by
      cases es with
      | nil => exact absurd rfl hes
      | cons y0 ys0 => rw [← (k6 0 y0 rfl).1]; exact (hy' y0 (by simp)).1
     obtain ⟨news, n1, n2, n3, n4⟩ := news_of (imm := imm) (w := w) (g := g) (off := 0) (ys := es) hpos (fun i y hiy => by
      obtain ⟨a1, a2⟩ := k6 i y hiy
      refine ⟨a1.trans hek, fun j c hjc => ?_⟩
      obtain ⟨u, u1, u2, u3⟩ := a2 j c hjc
      exact ⟨u, by rw [cell_of_row w g _ cur e' (0, 0) k4, Nat.zero_add, ← hek]; exact u1, u2, u3⟩)
     exact ⟨g, 0, news, rfl, n1, n2, n3, n4⟩
   split at h
   ·rename_i hflat
    cases h
    refine ⟨rd _ M1 rfl hc hy, .inl ⟨rfl, fun y hym c hcm => ?_⟩⟩
    have := List.all_eq_true.1 hflat y hym
    exact List.all_eq_true.1 this c hcm
   ·split at h
    ·rename_i hq
     subst hq
     cases h
     refine ⟨rd _ M1 rfl hc hy, .inr ⟨s, e', γ', cap', ?_, rfl⟩⟩
     cases hs : M1 s with
     | none => simp [Mem.getP, hs] at hn
     | some v => simp [Mem.getP, hs, V.getP] at hn; rw [hn]
    ·cases h
  ·cases h
 ·cases h
theorem Inv.take {sz : TypeId → Nat} (h : Inv sz imm w M) {s : Nat} {q : Path} {i j d : Nat} {n0 c : V} (hn : M.getP s q = some n0) (hc : n0.cellAt i j = some c) (ho : c.isOwn = true) (hds : d ≠ s) :
  Inv sz imm w ((M.setP s q i j .undef).set d c) ∧ ∀ g, ((M.setP s q i j .undef).set d c).owns g → M.owns g := by
 have hgc : ∀ r, M.getP s (q ++ (i, j) :: r) = c.getP r := by
  intro r
  obtain ⟨t, ht⟩ := Mem.getP_top hn
  simp only [Mem.getP, ht, Option.bind_some] at hn ⊢
  rw [V.getP_append, hn]
  simp [V.getP, hc]
 have key : ∀ o' p v, ((M.setP s q i j .undef).set d c).getP o' p = some v →
   (o' = d ∧ M.getP s (q ++ (i, j) :: p) = some v) ∨ (o' ≠ d ∧ v = .undef) ∨
   (o' ≠ d ∧ (¬ (o' = s ∧ ∃ r, p = q ++ (i, j) :: r)) ∧ ∃ n, M.getP o' p = some n ∧ Up (fun i' j' => o' = s ∧ p = q ∧ i' = i ∧ j' = j) .undef n v) := by
  intro o' p v hv
  rw [Mem.getP_set] at hv
  split at hv
  ·exact .inl ⟨‹_›, by rw [hgc]; exact hv⟩
  ·rcases Mem.getP_setP (c := .undef) rfl hn hc hv with ⟨rfl, r, hr, hcr⟩ | ⟨hno, n, hn1, hu⟩
   ·obtain ⟨rfl, rfl⟩ := getP_nonown (v := .undef) rfl hcr
    exact .inr (.inl ⟨‹_›, rfl⟩)
   ·exact .inr (.inr ⟨‹_›, hno, n, hn1, hu⟩)
 have blk : ∀ o' p e g cap es, ((M.setP s q i j .undef).set d c).getP o' p = some (.own e (some g) cap es) → (o' = d ∧ M.getP s (q ++ (i, j) :: p) = some (.own e (some g) cap es)) ∨
   (o' ≠ d ∧ (¬ (o' = s ∧ ∃ r, p = q ++ (i, j) :: r)) ∧ ∃ es0, M.getP o' p = some (.own e (some g) cap es0)) := by
  intro o' p e g cap es hv
  rcases key _ _ _ hv with h1 | ⟨_, h1⟩ | ⟨h1, h2, n, h3, h4⟩
  ·exact .inl h1
  ·cases h1
  ·obtain ⟨es0, rfl⟩ := h4.block rfl
   exact .inr ⟨h1, h2, es0, h3⟩
 refine ⟨⟨fun o' p v hv => ?_, fun o' v hv => ?_, ?_⟩, ?_⟩
 ·rcases key _ _ _ hv with ⟨_, h1⟩ | ⟨_, rfl⟩ | ⟨_, _, n, h1, h2⟩
  ·exact h.nd _ _ _ h1
  ·trivial
  ·refine Nd.up2 (Ev.refl _ _) (h.nd _ _ _ h1) h2 (fun _ _ _ _ _ _ _ => Rp.undef _) (fun e g cap es hq => ?_)
   subst hq
   exact (h.nd _ _ _ h1).1
 ·simp only [Mem.set] at hv
  split at hv
  ·cases hv; exact ho
  ·unfold Mem.setP at hv
   obtain ⟨t, ht⟩ := Mem.getP_top hn
   simp only [ht, Mem.set] at hv
   split at hv
   ·cases hv; exact setP_own (h.top s t ht)
   ·exact h.top o' v hv
 ·intro o1 q1 o2 q2 g e1 c1 es1 e2 c2 es2 h1 h2
  rcases blk _ _ _ _ _ _ h1 with ⟨rfl, k1⟩ | ⟨k0, k1, es3, k2⟩ <;> rcases blk _ _ _ _ _ _ h2 with ⟨rfl, l1⟩ | ⟨l0, l1, es4, l2⟩
  ·have := (h.inj _ _ _ _ _ _ _ _ _ _ _ k1 l1).2
   simp at this
   exact ⟨rfl, this⟩
  ·obtain ⟨rfl, rfl⟩ := h.inj _ _ _ _ _ _ _ _ _ _ _ k1 l2
   exact absurd ⟨rfl, _, rfl⟩ l1
  ·obtain ⟨rfl, rfl⟩ := h.inj _ _ _ _ _ _ _ _ _ _ _ l1 k2
   exact absurd ⟨rfl, _, rfl⟩ k1
  ·exact h.inj _ _ _ _ _ _ _ _ _ _ _ k2 l2
 ·rintro g ⟨o', p, e, cap, es, hv⟩
  rcases blk _ _ _ _ _ _ hv with ⟨_, h1⟩ | ⟨_, _, es0, h1⟩ <;> exact ⟨_, _, _, _, _, h1⟩
theorem rowV_ok {d : Nat} {e : TypeId} {x : V} {xv : Value} {c1 : Prop} {es : List V} {M1 : Mem} (h : rowV d e M x = some (c1, es, M1)) (hc : c1) (hI : Inv (szT P) imm w M) (hx : Rp imm w x xv) :
  ∃ γ cap, xv = .slice (γ.map fun g => ⟨g, 0, none⟩) es.length cap ∧ ∃ Mt, Inv (szT P) imm w Mt ∧ (∀ g, Mt.owns g → M.owns g) ∧
   ((γ = none ∧ cap = 0 ∧ es = [] ∧ (∀ o v, M1 o = some v → Mt o = some v)) ∨ (∃ κ g, γ = some g ∧ Mt κ = some (.own e (some g) cap es) ∧ M1 = Mt.era κ)) := by
 have fin : ∀ (κ : Nat) (e' : TypeId) (γ' : Option Nat) (cap' : Nat) (Mt : Mem), Inv (szT P) imm w Mt → Mt κ = some (.own e' γ' cap' es) → (γ' = none ∨ e' = e) → M1 = Mt.era κ →
   (γ' = none ∧ cap' = 0 ∧ es = [] ∧ (∀ o v, M1 o = some v → Mt o = some v)) ∨ (∃ κ g, γ' = some g ∧ Mt κ = some (.own e (some g) cap' es) ∧ M1 = Mt.era κ) := by
  intro κ e' γ' cap' Mt hIt hκ he hM1
  have hnd := hIt.nd κ [] (.own e' γ' cap' es) (by simp [Mem.getP, hκ, V.getP])
  cases γ' with
  | none =>
   obtain ⟨h1, h2⟩ := hnd
   exact .inl ⟨rfl, h2, h1, fun o v hv => by rw [hM1] at hv; exact era_sub o v hv⟩
  | some g =>
   rcases he with he | rfl
   ·cases he
   ·exact .inr ⟨κ, g, rfl, hκ, hM1⟩
 unfold rowV at h
 split at h
 ·cases h
  cases hx
  exact ⟨none, 0, rfl, M, hI, fun _ h => h, .inl ⟨rfl, rfl, rfl, fun _ _ h => h⟩⟩
 ·rename_i s γ l cap
  split at h
  ·rename_i e' γ' cap' es' hs
   cases h
   obtain ⟨rfl, rfl, rfl, he⟩ := hc
   cases hx
   exact ⟨γ', cap', rfl, M, hI, fun _ h => h, fin s e' γ' cap' M hI hs he rfl⟩
  ·cases h
 ·rename_i s q γ l cap hq0
  split at h
  ·rename_i i j e' γ' cap' es' hlast hn
   split at h
   ·rename_i hds
    cases h
    obtain ⟨rfl, rfl, rfl, he⟩ := hc
    cases hx
    have hq : q = q.dropLast ++ [(i, j)] := by
     have hne : q ≠ [] := by rintro rfl; simp at hlast
     have := List.dropLast_concat_getLast hne
     rw [List.getLast?_eq_some_getLast hne] at hlast
     rw [Option.some.inj hlast] at this
     exact this.symm
    obtain ⟨tt, ht⟩ := Mem.getP_top hn
    have hnode : ∃ n0, M.getP s q.dropLast = some n0 ∧ n0.cellAt i j = some (.own e' γ' cap' es) := by
     rw [hq] at hn
     simp only [Mem.getP, ht, Option.bind_some, V.getP_append] at hn ⊢
     cases hd : tt.getP q.dropLast with
     | none => simp [hd] at hn
     | some n0 =>
      refine ⟨n0, rfl, ?_⟩
      simp only [hd, Option.bind_some, V.getP] at hn
      cases hcc : n0.cellAt i j with
      | none => simp [hcc] at hn
      | some c => simpa [hcc] using hn
    obtain ⟨n0, hn0, hc0⟩ := hnode
    obtain ⟨hIt, hot⟩ := hI.take hn0 hc0 rfl hds
    refine ⟨γ', cap', rfl, _, hIt, hot, fin d e' γ' cap' _ hIt (by simp [Mem.set]) he ?_⟩
    funext k
    simp only [Mem.era, Mem.set]
    split <;> rfl
   ·cases h
  ·cases h
 ·cases h
theorem run_append_zero (ty ty' e : TypeId) (hu : P.underlying ty = some (.slice e)) {i : TypeInfo} (hi : P.info? e = some i) (b A : Option Addr) (n cap c : Nat) (h : n ≤ cap) :
  (Builtin.append_ #[ty, ty] ty' #[.slice b n cap, .slice A 0 c]).run P w = .ok (.slice b n cap) w := by
 cases A <;> cases b <;> simp [Builtin.append_, run_underlying hu, Go.sizeOf, typeInfo, hi, Builtin.lenOf, h, Builtin.firstCells, loadCells, loadCellsFrom, storeCells, Result.andThen]
theorem getP_sub {M1 : Mem} (hs : ∀ o v, M1 o = some v → M o = some v) : ∀ o q v, M1.getP o q = some v → M.getP o q = some v := by
 intro o q v hv
 cases ho : M1 o with
 | none => simp [Mem.getP, ho] at hv
 | some t => simpa [Mem.getP, ho, hs o t ho] using hv
theorem Inv.appended0 {w' : World} {Mt M2 : Mem} {e : TypeId} {d g' cap' : Nat} {es ys : List V} {cur : Array Value} (κ σ : Nat) (hI : Inv (szT P) imm w Mt) (he : Ev imm w imm w')
  (hM2 : ∀ o v, M2 o = some v → Mt o = some v)
  (h1 : es = [] ∨ ∃ g cap, Mt κ = some (.own e (some g) cap es) ∧ M2 κ = none)
  (h2 : (∀ y ∈ ys, ∀ c ∈ y.cells, c.flatC = true) ∨ (∃ e' γ cap, Mt σ = some (.own e' γ cap ys) ∧ M2 σ = none ∧ (es = [] ∨ σ ≠ κ)))
  (hg : (∃ cap, Mt κ = some (.own e (some g') cap es) ∧ M2 κ = none) ∨ w.heap.size ≤ g') (hng : ¬ imm g') (hcap : es.length + ys.length ≤ cap') (hcm : cap' ≤ maxLen) (hh : w'.heap[g']? = some (.cells cur e (0, 0))) (hs : cur.size = cap' * szT P e)
  (hc : HoldsC (szT P e) imm w' (es ++ ys) cur.toList) (hother : ∀ g2, g2 ≠ g' → g2 < w.heap.size → w'.heap[g2]? = w.heap[g2]?) :
  Inv (szT P) imm w' (M2.set d (.own e (some g') cap' (es ++ ys))) ∧ ∀ g2, (M2.set d (.own e (some g') cap' (es ++ ys))).owns g2 → g2 = g' ∨ Mt.owns g2 := by
 have hφ : ∀ i j r n, (V.own e (some g') cap' (es ++ ys)).getP ((i, j) :: r) = some n →
   ((∀ imm w, Nd (szT P) imm w n) ∧ ∀ e' g' cap' es', n ≠ .own e' (some g') cap' es') ∨
   (i < es.length ∧ M2 κ = none ∧ Mt.getP κ ((i, j) :: r) = some n) ∨ (¬ i < es.length ∧ M2 σ = none ∧ Mt.getP σ ((i - es.length, j) :: r) = some n ∧ (es = [] ∨ σ ≠ κ)) := by
  intro i j r n hn
  simp only [V.getP] at hn
  cases hcell : (V.own e (some g') cap' (es ++ ys)).cellAt i j with
  | none => simp [hcell] at hn
  | some c =>
   simp only [hcell, Option.bind_some] at hn
   simp only [V.cellAt, Option.bind_eq_some_iff] at hcell
   obtain ⟨x, hx, hxc⟩ := hcell
   rw [List.getElem?_append] at hx
   by_cases hi : i < es.length
   ·simp only [hi, if_true] at hx
    rcases h1 with rfl | ⟨g, cap, k2, k3⟩
    ·simp at hi
    ·exact .inr (.inl ⟨hi, k3, by simp [Mem.getP, k2, V.getP, V.cellAt, hx, hxc, hn]⟩)
   ·simp only [hi, if_false] at hx
    rcases h2 with hflat | ⟨e', γ, cap, k1, k2, k3⟩
    ·exact .inl (getP_flat (hflat x (List.mem_of_getElem? hx) c (List.mem_of_getElem? hxc)) r n hn)
    ·exact .inr (.inr ⟨hi, k2, by simp [Mem.getP, k1, V.getP, V.cellAt, hx, hxc, hn], k3⟩)
 constructor
 rotate_left
 ·rintro g2 ⟨o, q, e2, cap2, es2, hq⟩
  rw [Mem.getP_set] at hq
  split at hq
  ·cases q with
   | nil => simp [V.getP] at hq; exact .inl hq.2.1.symm
   | cons a r =>
    obtain ⟨i, j⟩ := a
    rcases hφ i j r _ hq with h | ⟨_, _, k2⟩ | ⟨_, _, k2, _⟩
    ·exact absurd rfl (h.2 _ _ _ _)
    ·exact .inr ⟨_, _, _, _, _, k2⟩
    ·exact .inr ⟨_, _, _, _, _, k2⟩
  ·exact .inr ⟨_, _, _, _, _, getP_sub hM2 _ _ _ hq⟩
 refine hI.regroup (M1 := M2) hM2 he ?_ (fun g2 h1 h2 => ⟨hother g2 h1 h2, id⟩) ?_
  (fun p => match p with | [] => (0, []) | (i, j) :: r => if i < es.length then (κ, (i, j) :: r) else (σ, (i - es.length, j) :: r)) ?_ ?_
 ·refine ⟨hng, by simpa using hcap, hcm, cur, hh, hs, fun i x hix => ⟨(hc i x hix).1, fun j c hjc => ?_⟩⟩
  obtain ⟨u, u1, u2, u3⟩ := (hc i x hix).2 j c hjc
  exact ⟨u, by simpa using u1, u2, u3⟩
 ·intro o q e2 cap2 es2 hq
  rcases hg with ⟨cap, k1, k2⟩ | hg
  ·obtain ⟨rfl, rfl⟩ := hI.inj _ _ _ _ _ _ _ _ _ _ _ hq (show Mt.getP κ [] = some (.own e (some g') cap es) by simp [Mem.getP, k1, V.getP])
   exact ⟨k2, rfl⟩
  ·have := (hI.nd _ _ _ hq).lt
   omega
 ·intro i j r n hn
  rcases hφ i j r n hn with h | ⟨h, k1, k2⟩ | ⟨h, k1, k2, _⟩
  ·exact .inl h
  ·right; simp only [h, if_true]; exact ⟨k1, by simp, k2⟩
  ·right; simp only [h, if_false]; exact ⟨k1, by simp, k2⟩
 ·rintro p p' hp hp' heq ⟨e1, g1, c1, es1, hn⟩ ⟨e2, g2, c2, es2, hn'⟩
  cases p with
  | nil => exact absurd rfl hp
  | cons a r =>
   cases p' with
   | nil => exact absurd rfl hp'
   | cons a' r' =>
    obtain ⟨i, j⟩ := a
    obtain ⟨i', j'⟩ := a'
    simp only at heq
    rcases hφ i j r _ hn with h | ⟨h, _, _⟩ | ⟨h, _, _, k⟩
    ·exact absurd rfl (h.2 _ _ _ _)
    ·rcases hφ i' j' r' _ hn' with h' | ⟨h', _, _⟩ | ⟨h', _, _, k'⟩
     ·exact absurd rfl (h'.2 _ _ _ _)
     ·simpa [h, h'] using heq
     ·simp only [h, h', if_true, if_false, Prod.mk.injEq] at heq
      rcases k' with rfl | k'
      ·simp at h
      ·exact absurd heq.1.symm k'
    ·rcases hφ i' j' r' _ hn' with h' | ⟨h', _, _⟩ | ⟨h', _, _, k'⟩
     ·exact absurd rfl (h'.2 _ _ _ _)
     ·simp only [h, h', if_true, if_false, Prod.mk.injEq] at heq
      rcases k with rfl | k
      ·simp at h'
      ·exact absurd heq.1 k
     ·simp only [h, h', if_false, Prod.mk.injEq, List.cons.injEq] at heq
      obtain ⟨_, ⟨h5, rfl⟩, rfl⟩ := heq
      have : i = i' := by omega
      subst this; rfl
theorem Inv.appended {w' : World} {Mt M1 M2 : Mem} {e : TypeId} {d g' cap' : Nat} {es ys : List V} {γ : Option Nat} {cap : Nat} {cur : Array Value} (hI : Inv (szT P) imm w Mt) (he : Ev imm w imm w')
  (hrow : (γ = none ∧ cap = 0 ∧ es = [] ∧ (∀ o v, M1 o = some v → Mt o = some v)) ∨ (∃ κ g, γ = some g ∧ Mt κ = some (.own e (some g) cap es) ∧ M1 = Mt.era κ))
  (hsrc : (M2 = M1 ∧ (∀ y ∈ ys, ∀ c ∈ y.cells, c.flatC = true)) ∨ (∃ s e' γ cap, M1 s = some (.own e' γ cap ys) ∧ M2 = M1.era s))
  (hg : γ = some g' ∨ w.heap.size ≤ g') (hng : ¬ imm g') (hcap : es.length + ys.length ≤ cap') (hcm : cap' ≤ maxLen) (hh : w'.heap[g']? = some (.cells cur e (0, 0))) (hs : cur.size = cap' * szT P e)
  (hc : HoldsC (szT P e) imm w' (es ++ ys) cur.toList) (hother : ∀ g2, g2 ≠ g' → g2 < w.heap.size → w'.heap[g2]? = w.heap[g2]?) :
  (Inv (szT P) imm w' (M2.set d (.own e (some g') cap' (es ++ ys))) ∧ ∀ g2, (M2.set d (.own e (some g') cap' (es ++ ys))).owns g2 → g2 = g' ∨ Mt.owns g2) ∧ ∀ o v, M2 o = some v → Mt o = some v := by
 have hM1 : ∀ o v, M1 o = some v → Mt o = some v := by
  rcases hrow with ⟨_, _, _, h⟩ | ⟨κ, g, _, _, rfl⟩
  ·exact h
  ·exact era_sub
 have hM21 : ∀ o v, M2 o = some v → M1 o = some v := by
  rcases hsrc with ⟨rfl, _⟩ | ⟨s, e', γ2, cap2, _, rfl⟩
  ·exact fun _ _ h => h
  ·exact era_sub
 have hM2 : ∀ o v, M2 o = some v → Mt o = some v := fun o v hv => hM1 o v (hM21 o v hv)
 refine ⟨?_, hM2⟩
 have hnone : ∀ k, M1 k = none → M2 k = none := by
  intro k hk
  cases h : M2 k with
  | none => rfl
  | some v => have := hM21 k v h; rw [hk] at this; cases this
 rcases hrow with ⟨h1, _, h2, _⟩ | ⟨κ, g, h1, h2, h3⟩
 ·have hgg : w.heap.size ≤ g' := hg.resolve_left (by rw [h1]; simp)
  rcases hsrc with ⟨h5, hflat⟩ | ⟨s, e', γ2, cap2, k1, k2⟩
  ·exact hI.appended0 0 0 he hM2 (.inl h2) (.inl hflat) (.inr hgg) hng hcap hcm hh hs hc hother
  ·exact hI.appended0 0 s he hM2 (.inl h2) (.inr ⟨e', γ2, cap2, hM1 _ _ k1, by rw [k2]; simp [Mem.era], .inl h2⟩) (.inr hgg) hng hcap hcm hh hs hc hother
 ·have hκ : M1 κ = none := by rw [h3]; simp [Mem.era]
  have hgg : (∃ cap, Mt κ = some (.own e (some g') cap es) ∧ M2 κ = none) ∨ w.heap.size ≤ g' := by
   rcases hg with hg | hg
   ·rw [h1] at hg; cases hg; exact .inl ⟨cap, h2, hnone κ hκ⟩
   ·exact .inr hg
  rcases hsrc with ⟨h5, hflat⟩ | ⟨s, e', γ2, cap2, k1, k2⟩
  ·exact hI.appended0 κ 0 he hM2 (.inr ⟨g, cap, h2, hnone κ hκ⟩) (.inl hflat) hgg hng hcap hcm hh hs hc hother
  ·exact hI.appended0 κ s he hM2 (.inr ⟨g, cap, h2, hnone κ hκ⟩) (.inr ⟨e', γ2, cap2, hM1 _ _ k1, by rw [k2]; simp [Mem.era], .inr (fun e => by rw [e, hκ] at k1; cases k1)⟩) hgg hng hcap hcm hh hs hc hother
theorem ofVal_cells (v : Value) : (ofVal v).cells.length = v.cells.size := by
 have hgo : ∀ l : List Value, (ofVal.go l).length = l.length := by
  intro l; induction l with
  | nil => rfl
  | cons x l ih => simp [ofVal.go, ih]
 unfold ofVal
 split <;> first | rfl | simp [V.cells, Value.cells, hgo] | skip
 rename_i h1 h2 h3 h4 h5 h6 h7 h8
 cases v <;> first | rfl | (rename_i cs; cases cs; exact absurd rfl (h7 _))
theorem holds_take {e : TypeId} {g cap : Nat} {es : List V} (h : Nd (szT P) imm w (.own e (some g) cap es)) : ∃ cur, w.heap[g]? = some (.cells cur e (0, 0)) ∧ cur.size = cap * szT P e ∧ es.length ≤ cap ∧ cap ≤ maxLen ∧
  HoldsC (szT P e) imm w es (cur.toList.take (es.length * szT P e)) := by
 obtain ⟨h1, h2, h3, cur, h4, h5, h6⟩ := h
 refine ⟨cur, h4, h5, h2, h3, fun i x hx => ⟨(h6 i x hx).1, fun j c hc => ?_⟩⟩
 obtain ⟨u, u1, u2, u3⟩ := (h6 i x hx).2 j c hc
 refine ⟨u, ?_, u2, u3⟩
 have hj : j < szT P e := by rw [← (h6 i x hx).1]; exact (List.getElem?_eq_some_iff.1 hc).1
 have hi : i < es.length := (List.getElem?_eq_some_iff.1 hx).1
 have : i * szT P e + szT P e ≤ es.length * szT P e := by rw [← Nat.succ_mul]; exact Nat.mul_le_mul_right _ hi
 rw [List.getElem?_take, if_pos (by omega)]
 simpa using u1
theorem HoldsC.more {k : Nat} {xs : List V} {l m : List Value} (h : HoldsC k imm w xs l) : HoldsC k imm w xs (l ++ m) := by
 intro i x hx
 refine ⟨(h i x hx).1, fun j c hc => ?_⟩
 obtain ⟨u, u1, u2, u3⟩ := (h i x hx).2 j c hc
 exact ⟨u, by rw [List.getElem?_append_left (List.getElem?_eq_some_iff.1 u1).1]; exact u1, u2, u3⟩
theorem opOk_append (c : Call) (s x : Operand) (ty e : TypeId) (ho : o.op = .call c) (hcal : c.callee = .builtin .append) (ha : c.args.toList = [s, x]) (hty : c.argTypes.toList = [ty, ty]) {d : Nat} (he : elT P ty = some e) (hpos : 0 < szT P e)
  (hz : (zeroT P e).any (fun z => z.cells.length == szT P e) = true) {c1 c2 : Prop} {es ys : List V} {M1 M2 : Mem} (h1 : rowV d e M (evV t s) = some (c1, es, M1)) (h2 : srcV M1 (evV t x) = some (c2, ys, M2)) (hc1 : c1) (hc2 : c2)
  (hb : (es.length + ys.length) * byT P e ≤ 140737488355328) (hb0 : 0 < byT P e) (hy : okY P e ys) (hI : Inv (szT P) imm w M) (hi : ∀ g, imm g → g < w.heap.size) (ht : Tm imm w t a) :
  Ok P (AppR d e es ys M2) o a imm w M := by
 have ha' : c.args = #[s, x] := by apply Array.toList_inj.1; simpa using ha
 have hty' : c.argTypes = #[ty, ty] := by apply Array.toList_inj.1; simpa using hty
 have hu := elT_und he
 obtain ⟨γ, cap, hs, Mt, hIt, hown, hrow⟩ := rowV_ok h1 hc1 hI (ht.eval s)
 have hM1 : ∀ o v, M1 o = some v → Mt o = some v := by
  rcases hrow with ⟨_, _, _, h⟩ | ⟨κ, g, _, _, rfl⟩
  ·exact h
  ·exact era_sub
 obtain ⟨⟨A, cp, hx, hread⟩, hsrc⟩ := srcV_ok (M := Mt) hpos h2 hc2 hy (getP_sub hM1) hIt (ht.eval x)
 cases hzt : zeroT P e with
 | none => simp [hzt] at hz
 | some z =>
 simp [hzt] at hz
 obtain ⟨ti, zv, hti, hzv, rfl⟩ := zeroT_info hzt
 have hzs : zv.cells.size = szT P e := by rw [← ofVal_cells]; exact hz
 have hisz : ti.size = szT P e := by simp [szT, hti]
 have hiby : ti.bytes = byT P e := by simp [byT, hti]
 have hsmall : es.length + ys.length ≤ 140737488355328 := Nat.le_trans (Nat.le_mul_of_pos_right _ hb0) hb
 have hexec : ∀ v w', (Builtin.append_ #[ty, ty] o.type #[a.eval s, a.eval x]).run P w = .ok v w' → (execOp a.eval o).run P w = .ok (.value v) w' := by
  intro v w' hr
  simp [execOp, ho, resolve, hcal, ha', hty', invoke, builtin, hr, Result.andThen]
 have fin : ∀ (g' cap' : Nat) (cur : Array Value) (w' : World), (Builtin.append_ #[ty, ty] o.type #[a.eval s, a.eval x]).run P w = .ok (.slice (some ⟨g', 0, none⟩) (es.length + ys.length) cap') w' →
   (γ = some g' ∨ w.heap.size ≤ g') → es.length + ys.length ≤ cap' → cap' ≤ maxLen → w'.heap[g']? = some (.cells cur e (0, 0)) → cur.size = cap' * szT P e → HoldsC (szT P e) imm w (es ++ ys) cur.toList →
   (∀ g2, g2 ≠ g' → g2 < w.heap.size → w'.heap[g2]? = w.heap[g2]?) → w'.os = w.os → w'.tape = w.tape → w'.output = w.output → w.heap.size ≤ w'.heap.size → Ok P (AppR d e es ys M2) o a imm w M := by
  intro g' cap' cur w' hr hg hcap hcm hh hsz hc hother k1 k2 k3 k4
  have hgown : w.heap.size ≤ g' ∨ M.owns g' := by
   rcases hg with hg | hg
   ·rcases hrow with ⟨h, _⟩ | ⟨κ, g, h, hκ, _⟩
    ·rw [h] at hg; cases hg
    ·rw [h] at hg; cases hg; exact .inr (hown _ ⟨κ, [], e, cap, es, by simp [Mem.getP, hκ, V.getP]⟩)
   ·exact .inl hg
  have hng : ¬ imm g' := by
   rcases hgown with h | h
   ·intro hh; have := hi _ hh; omega
   ·exact fun hh => hI.notOwn hh h
  have hev : Ev imm w imm w' := fun g hg => ⟨hg, hother g (fun e => hng (e ▸ hg)) (hi g hg)⟩
  obtain ⟨⟨a1, a2⟩, a3⟩ := hIt.appended (d := d) hev hrow hsrc hg hng hcap hcm hh hsz (hc.ev hev) hother
  refine ⟨_, _, .msl d [] (some g') (es.length + ys.length) cap', _, imm, w', hexec _ _ hr, .inl rfl, ⟨some g', cap', by simp, rfl, rfl⟩, .msl .., ⟨a1, fun g hg => by have := hi g hg; omega, k4, k1, k2, k3, fun g hg hno => ⟨?_, Iff.rfl⟩, fun g hg => ?_⟩⟩
  ·refine hother g (fun e => ?_) hg
   subst e
   rcases hgown with h | h
   ·omega
   ·exact hno h
  ·rcases a2 g hg with rfl | h
   ·exact hgown.symm
   ·exact .inl (hown g h)
 by_cases hys : ys = []
 ·subst hys
  have hle : es.length ≤ cap := by
   rcases hrow with ⟨_, _, h, _⟩ | ⟨κ, g, _, hκ, _⟩
   ·rw [h]; simp
   ·have := hIt.nd κ [] _ (by simp [Mem.getP, hκ, V.getP]; rfl)
    exact this.2.1
  have hr := run_append_zero (P := P) (w := w) ty o.type e hu hti (γ.map fun g => ⟨g, 0, none⟩) A es.length cap cp hle
  have hr' : (Builtin.append_ #[ty, ty] o.type #[a.eval s, a.eval x]).run P w = .ok (.slice (γ.map fun g => ⟨g, 0, none⟩) (es.length + ([] : List V).length) cap) w := by rw [hs, hx]; simpa using hr
  rcases hrow with ⟨r1, r2, r3, r4⟩ | ⟨κ, g, r1, r2, r3⟩
  ·subst r3
   have hM2 : ∀ o v, M2 o = some v → Mt o = some v := by
    rcases hsrc with ⟨rfl, _⟩ | ⟨s', e', γ2, cap2, _, rfl⟩
    ·exact r4
    ·exact fun o v hv => r4 o v (era_sub o v hv)
   refine ⟨_, _, .msl d [] none 0 cap, _, imm, w, hexec _ _ hr', .inl rfl, ⟨none, cap, by simp, by simp, by rfl⟩, by rw [r1]; exact .msl .., ?_⟩
   rw [r2]
   refine ⟨(hIt.sub hM2).nilrow d e, hi, Nat.le_refl _, rfl, rfl, rfl, fun _ _ _ => ⟨rfl, Iff.rfl⟩, fun g hg => .inl (hown g (owns_sub hM2 (owns_nilrow hg)))⟩
  ·have hnd := hIt.nd κ [] (.own e (some g) cap es) (by simp [Mem.getP, r2, V.getP])
   obtain ⟨cur, q1, q2, q3, q4, q5⟩ := holds_take hnd
   subst r1
   exact fin g cap cur w hr' (.inl rfl) (by simpa using q3) q4 q1 q2 (by
    have := q5.more (m := cur.toList.drop (es.length * szT P e))
    rw [List.take_append_drop] at this
    simpa using this) (fun _ _ _ => rfl) rfl rfl rfl (Nat.le_refl _)
 ·obtain ⟨ga, off, news, hA, n1, n2, n3, n4⟩ := hread.resolve_left hys
  have hm : 0 < ys.length := List.length_pos_iff.2 hys
  have hn1' : news.length = ys.length * ti.size := by rw [hisz]; exact n1
  have h63 : ((es.length + ys.length : Nat) : Int) ≤ 9223372036854775807 := by omega
  have newfin : ∀ (olds : List Value) (old : Nat), olds.length = es.length * szT P e → HoldsC (szT P e) imm w es olds → old < es.length + ys.length →
    (Builtin.append_ #[ty, ty] o.type #[a.eval s, a.eval x]).run P w = .ok (.slice (some ⟨w.heap.size, 0, none⟩) (es.length + ys.length) (grownCap w (es.length + ys.length) old e))
     (w.drew.alloc (.cells (olds.toArray ++ news.toArray ++ Builtin.zeroCells zv.cells (grownCap w (es.length + ys.length) old e - (es.length + ys.length))) e)) → Ok P (AppR d e es ys M2) o a imm w M := by
   intro olds old ol oh _ hr
   have hge := grownCap_ge w (es.length + ys.length) old e
   refine fin w.heap.size _ _ _ hr (.inr (Nat.le_refl _)) hge (grownCap_le_maxLen w _ old e (by simp only [maxLen]; omega)) (heap_alloc_new w.drew _) ?_ ?_ (fun g2 _ hlt => Below.heap_alloc w.drew _ g2 hlt) rfl rfl rfl (by simp)
   ·simp only [Array.size_append, List.size_toArray, size_zeroCells, hzs, ol, n1, ← Nat.add_mul]
    congr 1; omega
   ·simp only [Array.toList_append]
    exact (oh.append n4 ol).more
  rcases hrow with ⟨r1, r2, r3, r4⟩ | ⟨κ, g, r1, r2, r3⟩
  ·subst r3
   have hr := run_append_nil (P := P) w ty o.type e ti zv hu hti hzv ⟨ga, off, none⟩ ys.length cp news hn1' n2 hm (by simpa using h63) (by rw [hiby]; simp at hb; omega)
   refine newfin [] 0 (by simp) (fun i x hx => by simp at hx) (by simpa using hm) ?_
   rw [hs, hx, r1, r2, hA]
   simpa using hr
  ·have hnd := hIt.nd κ [] (.own e (some g) cap es) (by simp [Mem.getP, r2, V.getP])
   obtain ⟨cur, q1, q2, q3, q4, q5⟩ := holds_take hnd
   subst r1
   by_cases hroom : es.length + ys.length ≤ cap
   ·have hfit : es.length * szT P e + news.length ≤ cur.size := by rw [n1, q2, ← Nat.add_mul]; exact Nat.mul_le_mul_right _ hroom
    have hr := run_append_room (P := P) w ty o.type e ti hu hti g es.length cap cur q1 ⟨ga, off, none⟩ ys.length cp news hn1' n2 n3 hroom (by rw [hisz]; exact hfit)
    rw [hisz] at hr
    refine fin g cap _ _ (by rw [hs, hx, hA]; exact hr) (.inl rfl) hroom q4 (setRow_heap w g cur _ e _ q1) ?_ ?_ (fun g2 h1 _ => setRow_other w g g2 _ h1) rfl rfl rfl (by simp [World.setRow])
    ·simp only [List.size_toArray, List.length_append, List.length_take, List.length_drop, Array.length_toList]
     omega
    ·simp only []
     exact (q5.append n4 (by rw [List.length_take, Array.length_toList (xs := cur)]; omega)).more
   ·have hlen : (cur.toList.take (es.length * szT P e)).length = es.length * szT P e := by
     rw [List.length_take, Array.length_toList (xs := cur), q2]
     exact Nat.min_eq_left (Nat.mul_le_mul_right _ q3)
    have hr := run_append_grow (P := P) w ty o.type e ti zv hu hti hzv ⟨g, 0, none⟩ es.length cap (cur.toList.take (es.length * szT P e)) (by rw [hisz]; exact hlen) (fun j v hv => by
     rw [add_off, Nat.zero_add, cell_of_row w g j cur e (0, 0) q1]
     rw [List.getElem?_take] at hv
     split at hv
     ·simpa using hv
     ·cases hv) ⟨ga, off, none⟩ ys.length cp news hn1' n2 (by omega) h63 (growslice_fits (by omega) (by rw [hiby]; exact hb))
    exact newfin _ cap hlen q5 (by omega) (by rw [hs, hx, hA]; exact hr)
end
end Go.Proofs.YtkdolbffabmemaaGreatDoor
