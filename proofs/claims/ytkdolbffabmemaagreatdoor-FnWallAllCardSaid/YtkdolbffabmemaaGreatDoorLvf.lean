/-
 The machine of values against the model: loads, stores, new objects.
-/
import Derived.Test.YtkdolbffabmemaaGreatDoorLve
namespace Go.Proofs.YtkdolbffabmemaaGreatDoor
open Go.RowKit
set_option linter.unusedSimpArgs false
set_option linter.unusedVariables false
section
variable {P : Program} {imm : Nat → Prop} {w : World} {M : Mem} {t : Nat → V} {a : Act} {o : Oper}
theorem run_load_one {ty : TypeId} (hb : aggT P ty = some false) {ad : Addr} {u : Value} (hc : w.cell? ad = some u) : (Instr.loadAt ty (.pointer (some ad))).run P w = .ok u w := by
 simp [Instr.loadAt, Instr.sureAddr, loadVar, run_isAgg hb, load, Sem.run, hc, Result.andThen]
theorem run_load_agg {ty : TypeId} (hb : aggT P ty = some true) {g off : Nat} (f : Nat → Value) (hc : ∀ j, j < szT P ty → w.cell? ⟨g, off + j, none⟩ = some (f j)) :
  (Instr.loadAt ty (.pointer (some ⟨g, off, none⟩))).run P w = .ok (.agg ((List.range (szT P ty)).map f).toArray) w := by
 have hu : ∃ d, P.underlying ty = some d := by
  unfold aggT at hb
  cases h : P.underlying ty with
  | none => simp [h] at hb
  | some d => exact ⟨d, rfl⟩
 obtain ⟨d, hu⟩ := hu
 have := run_loadCells (P := P) w ⟨g, off, none⟩ (szT P ty) f (fun j hj => by rw [add_off]; exact hc j hj)
 simp [Instr.loadAt, Instr.sureAddr, loadVar, run_isAgg hb, run_sizeOf_und hu, this, Result.andThen]
theorem rp_range {cs : List V} {f : Nat → Value} (h : ∀ j c, cs[j]? = some c → Rp imm w c (f j)) : Rp imm w (.agg cs) (.agg ((List.range cs.length).map f).toArray) := by
 refine .agg cs _ (by simp) (fun j c u hj hu => ?_)
 have hlt := (List.getElem?_eq_some_iff.1 hj).1
 have h1 : ((List.range cs.length).map f)[j]? = some u := by simpa using hu
 rw [List.getElem?_map] at h1
 have h2 : (List.range cs.length)[j]? = some j := by simp [hlt]
 rw [h2] at h1
 cases h1
 exact h j c hj
theorem opOk_load_eptr (ty : TypeId) (x : Operand) (ho : o.op = .load ty x) {cs : List V} (hx : evV t x = .eptr cs) {b : Bool} (hb : aggT P ty = some b) {r : V}
  (hr : (b = true ∧ szT P ty ≤ cs.length ∧ r = .agg (cs.take (szT P ty))) ∨ (b = false ∧ cs[0]? = some r)) (hI : Inv (szT P) imm w M) (hi : ∀ g, imm g → g < w.heap.size) (ht : Tm imm w t a) : Ok P (det r M) o a imm w M := by
 have h1 := (hx ▸ ht.eval x : Rp imm w (.eptr cs) _)
 generalize hax : a.eval x = v at h1
 cases h1 with
 | eptr cs g off cur t' fr f hi' hg hc h =>
 rcases hr with ⟨rfl, hle, rfl⟩ | ⟨rfl, hr⟩
 ·have hrun := run_load_agg (P := P) (w := w) hb (g := g) (off := off) f (fun j hj => by
   have hjl : j < cs.length := by omega
   rw [cell_of_row w g _ cur t' fr hg]
   exact hc j cs[j] (by simp [hjl]))
  refine Ok.quiet hI hi (v := .agg ((List.range (szT P ty)).map f).toArray) (by simp [execOp, ho, hax, hrun]) ⟨rfl, rfl⟩ ?_
  have hlen : (cs.take (szT P ty)).length = szT P ty := by simp; omega
  have := rp_range (imm := imm) (w := w) (cs := cs.take (szT P ty)) (f := f) (fun j c hj => by
   rw [List.getElem?_take] at hj
   split at hj
   ·exact h j c hj
   ·cases hj)
  rw [hlen] at this
  exact this
 ·have hrun := run_load_one (P := P) (w := w) hb (ad := ⟨g, off, none⟩) (u := f 0) (by rw [cell_of_row w g _ cur t' fr hg]; exact hc 0 r hr)
  exact Ok.quiet hI hi (v := f 0) (by simp [execOp, ho, hax, hrun]) ⟨rfl, rfl⟩ (h 0 r hr)
theorem loadPtr_run (ty : TypeId) {s : Nat} {q : Path} {i j g k : Nat} {b : Bool} (hb : aggT P ty = some b)
  {e : TypeId} {cap : Nat} {es : List V} {y : V} (hn : M.getP s q = some (.own e (some g) cap es)) (hk : k = szT P e) (hy : es[i]? = some y) {r : V}
  (hr : (b = true ∧ j + szT P ty ≤ y.cells.length ∧ ((y.cells.drop j).take (szT P ty)).all (fun c => !c.isOwn) = true ∧ r = .agg ((y.cells.drop j).take (szT P ty))) ∨
   (b = false ∧ ∃ c, y.cells[j]? = some c ∧ ((c.isOwn = false ∧ r = c) ∨ (∃ e' γ cap' es', c = .own e' γ cap' es' ∧ r = .msl s (q ++ [(i, j)]) γ es'.length cap'))))
  (hI : Inv (szT P) imm w M) : ∃ v, (Instr.loadAt ty (.pointer (some ⟨g, i * k + j, none⟩))).run P w = .ok v w ∧ Rp imm w r v := by
 subst hk
 have hnd := hI.nd _ _ _ hn
 have place : ∀ j' c, y.cells[j']? = some c → ∃ u, w.cell? ⟨g, i * szT P e + j', none⟩ = some u ∧ Rc imm w c u := by
  intro j' c hc
  obtain ⟨cur, u, p1, p2, p3, p4, p5⟩ := hnd.place (i := i) (j := j') (d := c) (by simp [V.cellAt, hy, hc])
  exact ⟨u, by rw [cell_of_row w g _ cur e (0, 0) p1]; exact p2, p4⟩
 rcases hr with ⟨rfl, hle, hall, rfl⟩ | ⟨rfl, c, hc, hr⟩
 ·have hcell : ∀ j', j' < szT P ty → w.cell? ⟨g, i * szT P e + j + j', none⟩ = some ((w.cell? ⟨g, i * szT P e + j + j', none⟩).getD undef) := by
   intro j' hj'
   have hlt : j + j' < y.cells.length := by omega
   obtain ⟨u, hu, _⟩ := place (j + j') y.cells[j + j'] (by simp [hlt])
   rw [Nat.add_assoc, hu]; rfl
  have hrun := run_load_agg (P := P) (w := w) hb (g := g) (off := i * szT P e + j) _ hcell
  refine ⟨_, hrun, ?_⟩
  have hlen : ((y.cells.drop j).take (szT P ty)).length = szT P ty := by simp; omega
  have := rp_range (imm := imm) (w := w) (cs := (y.cells.drop j).take (szT P ty)) (f := fun j' => (w.cell? ⟨g, i * szT P e + j + j', none⟩).getD undef) (fun j' c hj' => by
   have hm := List.mem_of_getElem? hj'
   have hno := List.all_eq_true.1 hall _ hm
   rw [List.getElem?_take] at hj'
   split at hj'
   ·rw [List.getElem?_drop] at hj'
    obtain ⟨u, hu, hrc⟩ := place (j + j') c hj'
    rw [Nat.add_assoc, hu]
    cases c <;> first | exact hrc | simp [V.isOwn] at hno
   ·cases hj')
  rw [hlen] at this
  exact this
 ·obtain ⟨u, hu, hrc⟩ := place j c hc
  refine ⟨u, run_load_one (P := P) (w := w) hb hu, ?_⟩
  rcases hr with ⟨hno, rfl⟩ | ⟨e', γ, cap', es', rfl, rfl⟩
  ·cases r <;> first | exact hrc | simp [V.isOwn] at hno
  ·simp only [Rc] at hrc
   subst hrc
   exact .msl ..
theorem opOk_load_ptr (ty : TypeId) (x : Operand) (ho : o.op = .load ty x) {s : Nat} {q : Path} {i j g k : Nat} (hx : evV t x = .ptr s q i j g k) {b : Bool} (hb : aggT P ty = some b)
  {e : TypeId} {cap : Nat} {es : List V} {y : V} (hn : M.getP s q = some (.own e (some g) cap es)) (hk : k = szT P e) (hy : es[i]? = some y) {r : V}
  (hr : (b = true ∧ j + szT P ty ≤ y.cells.length ∧ ((y.cells.drop j).take (szT P ty)).all (fun c => !c.isOwn) = true ∧ r = .agg ((y.cells.drop j).take (szT P ty))) ∨
   (b = false ∧ ∃ c, y.cells[j]? = some c ∧ ((c.isOwn = false ∧ r = c) ∨ (∃ e' γ cap' es', c = .own e' γ cap' es' ∧ r = .msl s (q ++ [(i, j)]) γ es'.length cap'))))
  (hI : Inv (szT P) imm w M) (hi : ∀ g, imm g → g < w.heap.size) (ht : Tm imm w t a) : Ok P (det r M) o a imm w M := by
 have h1 := (hx ▸ ht.eval x : Rp imm w (.ptr s q i j g k) _).ptr_inv
 obtain ⟨v, hrun, hv⟩ := loadPtr_run (P := P) (imm := imm) (w := w) (M := M) ty hb hn hk hy hr hI
 exact Ok.quiet hI hi (by simp only [execOp, ho, h1, Sem.run_bind, hrun]; rfl) ⟨rfl, rfl⟩ hv
theorem owns_setP {M1 : Mem} {o : Nat} {q : Path} {i j : Nat} {c n0 d0 : V} (hc : c.cells = [c]) (h : M1.getP o q = some n0) (hd : n0.cellAt i j = some d0)
  (hs : ∀ o' q' v, M1.getP o' q' = some v → M.getP o' q' = some v) (hm : ∀ r e g cap es, c.getP r = some (.own e (some g) cap es) → M.owns g) {g : Nat} (hg : (M1.setP o q i j c).owns g) : M.owns g := by
 obtain ⟨o', p, e, cap, es, hp⟩ := hg
 rcases Mem.getP_setP hc h hd hp with ⟨rfl, r, hr, hcr⟩ | ⟨hno, n, hn1, hu⟩
 ·exact hm r _ _ _ _ hcr
 ·obtain ⟨es0, rfl⟩ := hu.block rfl
  exact ⟨o', p, e, cap, es0, hs _ _ _ hn1⟩
theorem owns_put {M' : Mem} {o : Nat} {q : Path} {i j : Nat} {c n0 d0 : V} (h : M.getP o q = some n0) (hd : n0.cellAt i j = some d0) (hp : M.put o q i j c = some M') {g : Nat} (hg : M'.owns g) : M.owns g := by
 have plain : c.cells = [c] → c.isOwn = false → M' = M.setP o q i j c → M.owns g := by
  rintro k1 k2 rfl
  exact owns_setP k1 h hd (fun _ _ _ h => h) (fun r e g cap es hr => by obtain ⟨rfl, rfl⟩ := getP_nonown k2 hr; cases k2) hg
 cases c <;> simp only [Mem.put, Option.some.injEq, reduceCtorEq] at hp <;> try exact plain rfl rfl hp.symm
 case nilsl =>
  subst hp
  refine owns_setP rfl h hd (fun _ _ _ h => h) (fun r e g cap es hr => ?_) hg
  cases r with
  | nil => simp [V.getP] at hr
  | cons a r => obtain ⟨x, y⟩ := a; simp [V.getP, V.cellAt] at hr
 case msl d q' γ l cp =>
  cases q' with
  | cons a q' => simp at hp
  | nil =>
   simp only at hp
   split at hp
   ·rename_i e' γ' cap' es' hMd
    split at hp
    ·rename_i hcond
     obtain ⟨k1, rfl, rfl, rfl⟩ := hcond
     cases hp
     refine owns_setP (M := M) rfl (M1 := M.era d) (n0 := n0) ?_ hd (fun o' q' v hv => ?_) (fun r e g cap es hr => ⟨d, r, e, cap, es, by simpa [Mem.getP, hMd] using hr⟩) hg
     ·rw [Mem.getP_era, if_neg (fun e => k1 e.symm)]; exact h
     ·rw [Mem.getP_era] at hv
      split at hv
      ·cases hv
      ·exact hv
    ·cases hp
   ·cases hp
theorem Step.put {imm0 : Nat → Prop} {w0 : World} {M0 M' : Mem} (h : Step (szT P) imm0 w0 M0 imm w M) {o : Nat} {q : Path} {i j : Nat} {e : TypeId} {g cap : Nat} {es : List V} {d0 c : V} {u : Value}
  (hn : M.getP o q = some (.own e (some g) cap es)) (hd : (V.own e (some g) cap es).cellAt i j = some d0) (hp : M.put o q i j c = some M') (hc : Rp imm w c u) (h1 : u.oneCell' = true) :
  Step (szT P) imm0 w0 M0 imm (w.setCell ⟨g, i * szT P e + j, none⟩ u) M' := by
 have hI := h.inv
 have hown : M.owns g := ⟨o, q, e, cap, es, hn⟩
 refine ⟨hI.put hn hd hp hc h1, fun g' hg' => by simpa [World.setCell] using h.lt g' hg', by simpa [World.setCell] using h.size, h.os, h.tape, h.output, fun g' hg' hno => ?_, fun g' hg' => h.owns g' (owns_put hn hd hp hg')⟩
 have hne : g' ≠ g := by
  rintro rfl
  exact (h.owns g' hown).elim hno (by omega)
 exact ⟨(Below.heap_setCell w _ u g' hne).trans (h.block g' hg' hno).1, (h.block g' hg' hno).2⟩
theorem getP_put_node {M' : Mem} {o : Nat} {q : Path} {i j : Nat} {e : TypeId} {γ : Option Nat} {cap : Nat} {es : List V} {c d0 : V} (h : M.getP o q = some (.own e γ cap es)) (hd : (V.own e γ cap es).cellAt i j = some d0)
  (hp : M.put o q i j c = some M') : ∃ c', c'.cells = [c'] ∧ M'.getP o q = some ((V.own e γ cap es).setIJ i j c') := by
 have gen : ∀ (M1 : Mem) (c' : V), c'.cells = [c'] → M1.getP o q = some (.own e γ cap es) → (M1.setP o q i j c').getP o q = some ((V.own e γ cap es).setIJ i j c') := by
  intro M1 c' hc' h1
  have recq : ∀ (q : Path) (v : V), v.getP q = some (.own e γ cap es) → (v.setP q i j c').getP q = some ((V.own e γ cap es).setIJ i j c') := by
   intro q
   induction q with
   | nil => intro v hv; simp [V.getP] at hv; subst hv; rfl
   | cons a q ih =>
    intro v hv
    obtain ⟨x, y⟩ := a
    simp only [V.getP] at hv
    cases hx : v.cellAt x y with
    | none => simp [hx] at hv
    | some z =>
     simp only [hx, Option.bind_some] at hv
     have hzo : z.isOwn = true := by
      cases q with
      | nil => simp [V.getP] at hv; subst hv; rfl
      | cons b' q' =>
       obtain ⟨x', y'⟩ := b'
       simp only [V.getP] at hv
       cases hy : z.cellAt x' y' with
       | none => simp [hy] at hv
       | some _ => exact cellAt_own hy
     simp only [V.setP, hx, V.getP]
     rw [setIJ_cellAt (one_of_own (setP_own hzo)) hx]
     simp [ih z hv]
  obtain ⟨v, hv⟩ := Mem.getP_top h1
  simp only [Mem.getP, hv, Option.bind_some] at h1
  simp only [Mem.setP, hv, Mem.getP_set, if_true]
  exact recq q v h1
 have plain : c.cells = [c] → M' = M.setP o q i j c → ∃ c', c'.cells = [c'] ∧ M'.getP o q = some ((V.own e γ cap es).setIJ i j c') := by
  rintro k1 rfl
  exact ⟨c, k1, gen M c k1 h⟩
 cases c <;> simp only [Mem.put, Option.some.injEq, reduceCtorEq] at hp <;> try exact plain rfl hp.symm
 case nilsl => subst hp; exact ⟨_, rfl, gen M _ rfl h⟩
 case msl d q' γ2 l cp =>
  cases q' with
  | cons a q' => simp at hp
  | nil =>
   simp only at hp
   split at hp
   ·split at hp
    ·rename_i hcond
     cases hp
     refine ⟨_, rfl, gen (M.era d) _ rfl ?_⟩
     rw [Mem.getP_era, if_neg (fun e => hcond.1 e.symm)]; exact h
    ·cases hp
   ·cases hp
theorem cellAt_setIJ_some {v : V} {i j i' j' : Nat} {c d0 d : V} (hc : c.cells = [c]) (h : v.cellAt i j = some d0) (h' : v.cellAt i' j' = some d) : ∃ d', (v.setIJ i j c).cellAt i' j' = some d' := by
 rw [setIJ_cellAt hc h]
 split
 ·exact ⟨_, rfl⟩
 ·exact ⟨d, h'⟩
theorem run_storeAll {imm0 : Nat → Prop} {w0 : World} {M0 : Mem} {o : Nat} {q : Path} {i : Nat} {e : TypeId} {g cap : Nat} : ∀ (cs : List V) (us : List Value) (j l : Nat) (es : List V) (M M' : Mem) (w : World),
  Step (szT P) imm0 w0 M0 imm w M → M.getP o q = some (.own e (some g) cap es) → (∀ l, l < cs.length → ∃ d, (V.own e (some g) cap es).cellAt i (j + l) = some d) →
  putAll o q M (cs.mapIdx fun l c => (i, j + l, c)) = some M' → us.length = cs.length → (∀ (l : Nat) c u, cs[l]? = some c → us[l]? = some u → Rp imm w c u ∧ u.oneCell' = true) →
  ∀ off, off + l = i * szT P e + j → ∃ w', (storeCells ⟨g, off, none⟩ us l).run P w = .ok () w' ∧ Step (szT P) imm0 w0 M0 imm w' M'
 | [], us, j, l, es, M, M', w, hS, hn, hd, hp, hl, hc, off, ho => by
  simp at hl
  subst hl
  simp [putAll] at hp
  subst hp
  exact ⟨w, by simp [storeCells], hS⟩
 | c :: cs, us, j, l, es, M, M', w, hS, hn, hd, hp, hl, hc, off, ho => by
  cases us with
  | nil => simp at hl
  | cons u us =>
   simp only [List.mapIdx_cons, putAll, Nat.add_zero] at hp
   cases hp1 : M.put o q i j c with
   | none => simp [hp1] at hp
   | some M1 =>
    simp only [hp1, Option.bind_some] at hp
    obtain ⟨d, hd0⟩ := hd 0 (by simp)
    rw [Nat.add_zero] at hd0
    obtain ⟨hcu, hcu1⟩ := hc 0 c u rfl rfl
    have hS1 := hS.put hn hd0 hp1 hcu hcu1
    obtain ⟨c', hc'1, hn1⟩ := getP_put_node hn hd0 hp1
    have hnd := hS.inv.nd _ _ _ hn
    obtain ⟨cur, u0, p1, p2, p3, p4, p5⟩ := hnd.place hd0
    have hplace : off + l = i * szT P e + j := by omega
    have hcell : w.cell? ⟨g, off + l, none⟩ = some u0 := by rw [cell_of_row w g _ cur e (0, 0) p1, hplace]; exact p2
    have hfr : w.frozen? ⟨g, off + l, none⟩ = false := frozen_of_row w g _ cur e p1
    obtain ⟨γ2, hstep⟩ : ∃ es', (V.own e (some g) cap es).setIJ i j c' = .own e (some g) cap es' := ⟨_, rfl⟩
    rw [hstep] at hn1
    have hev : Ev imm w imm (w.setCell ⟨g, i * szT P e + j, none⟩ u) := Ev.setCell hnd.1
    obtain ⟨w', hr, hS'⟩ := run_storeAll cs us (j + 1) (l + 1) γ2 M1 M' _ hS1 hn1 (fun l' hl' => by
      obtain ⟨d', hd'⟩ := hd (l' + 1) (by simpa using hl')
      have := cellAt_setIJ_some hc'1 hd0 hd'
      rw [hstep] at this
      rw [show j + 1 + l' = j + (l' + 1) from by omega]
      exact this)
     (by rw [← hp]; congr 1; apply List.ext_getElem? ; intro n; simp [List.getElem?_mapIdx]; cases cs[n]? <;> simp; omega) (by simpa using hl)
     (fun l' c2 u2 h1 h2 => ⟨((hc (l' + 1) c2 u2 h1 h2).1).ev hev, (hc (l' + 1) c2 u2 h1 h2).2⟩) off (by omega)
    refine ⟨w', ?_, hS'⟩
    simp only [storeCells, Sem.run_bind, add_off]
    rw [run_store P w ⟨g, off + l, none⟩ u .plain hcu1]
    simp only [hcell, hfr, Sem.run, Result.andThen, Bool.false_eq_true, if_false]
    rw [hplace]
    exact hr
end
end Go.Proofs.YtkdolbffabmemaaGreatDoor
