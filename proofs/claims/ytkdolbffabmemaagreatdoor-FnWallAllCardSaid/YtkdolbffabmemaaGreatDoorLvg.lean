/-
 The machine of values against the model: what is made anew.
-/
import Derived.Test.YtkdolbffabmemaaGreatDoorLvf
namespace Go.Proofs.YtkdolbffabmemaaGreatDoor
open Go.RowKit
set_option linter.unusedSimpArgs false
set_option linter.unusedVariables false
theorem setCell_same {w : World} {g p : Nat} {cur : Array Value} {e : TypeId} {u : Value} (h : w.heap[g]? = some (.cells cur e (0, 0))) (hu : cur[p]? = some u) : w.setCell ⟨g, p, none⟩ u = w := by
 obtain ⟨hlt, hp⟩ := Array.getElem?_eq_some_iff.1 hu
 obtain ⟨hg, hgg⟩ := Array.getElem?_eq_some_iff.1 h
 have hcur : cur.setIfInBounds p u = cur := by
  apply Array.ext (by simp)
  intro j h3 h4
  rw [Array.getElem_setIfInBounds]
  split
  ·subst_vars; rfl
  ·rfl
 have hh : (w.setCell ⟨g, p, none⟩ u).heap = w.heap := by
  apply Array.ext_getElem?
  intro i
  by_cases hig : i = g
  ·subst hig
   rw [heap_setCell_at w i p cur e u h, hcur, h]
  ·exact Below.heap_setCell w _ u i hig
 calc w.setCell ⟨g, p, none⟩ u = { w with heap := (w.setCell ⟨g, p, none⟩ u).heap } := rfl
  _ = w := by rw [hh]
theorem mem_moves {i : Nat} : ∀ {cs : List V} {j i' j' : Nat} {c : V}, (i', j', c) ∈ moves i j cs → i' = i ∧ ∃ l, j' = j + l ∧ cs[l]? = some c
 | [], _, _, _, _, h => by simp [moves] at h
 | x :: cs, j, i', j', c, h => by
  have tail : (i', j', c) ∈ moves i (j + 1) cs → i' = i ∧ ∃ l, j' = j + l ∧ (x :: cs)[l]? = some c := by
   intro h
   obtain ⟨h1, l, h2, h3⟩ := mem_moves h
   exact ⟨h1, l + 1, by omega, by simpa using h3⟩
  cases x <;> simp only [moves] at h <;> try exact tail h
  rcases List.mem_cons.1 h with h | h
  ·cases h; exact ⟨rfl, 0, rfl, rfl⟩
  ·exact tail h
theorem mem_movesE : ∀ {xs : List V} {i i' j' : Nat} {c : V}, (i', j', c) ∈ movesE i xs → ∃ l x, i' = i + l ∧ xs[l]? = some x ∧ x.cells[j']? = some c
 | [], _, _, _, _, h => by simp [movesE] at h
 | x :: xs, i, i', j', c, h => by
  simp only [movesE, List.mem_append] at h
  rcases h with h | h
  ·obtain ⟨rfl, l, h1, h2⟩ := mem_moves h
   exact ⟨0, x, rfl, rfl, by rw [h1]; simpa using h2⟩
  ·obtain ⟨l, y, h1, h2, h3⟩ := mem_movesE h
   exact ⟨l + 1, y, by omega, by simpa using h2, h3⟩
theorem cells_thinE (x : V) (h : x.cells.all (fun c => c.laid && c.one) = true) : x.thinE.cells = x.cells.map V.thin := by
 cases x <;> simp [V.thinE, V.cells, V.thin]
theorem thin_flat {c : V} (h : c.laid = true) : c.thin.flatC = true := by cases c <;> simp_all [V.thin, V.flatC, V.laid]
section
variable {P : Program} {imm imm0 : Nat → Prop} {w w0 : World} {M M0 M' : Mem} {t : Nat → V} {a : Act} {o : Oper}
def Holds (P : Program) (imm : Nat → Prop) (w : World) (e : TypeId) (xs : List V) (cur : Array Value) : Prop :=
 ∀ (i : Nat) x, xs[i]? = some x → x.cells.length = szT P e ∧ ∀ (j : Nat) c, x.cells[j]? = some c → ∃ u, cur[i * szT P e + j]? = some u ∧ u.oneCell' = true ∧ Rp imm w c u
theorem Step.putAll {o : Nat} {q : Path} {e : TypeId} {g cap : Nat} {cur : Array Value} : ∀ (l : List (Nat × Nat × V)) (es : List V) (M M' : Mem),
  Step (szT P) imm0 w0 M0 imm w M → M.getP o q = some (.own e (some g) cap es) → w.heap[g]? = some (.cells cur e (0, 0)) →
  (∀ i j c, (i, j, c) ∈ l → (∃ d, (V.own e (some g) cap es).cellAt i j = some d) ∧ ∃ u, cur[i * szT P e + j]? = some u ∧ u.oneCell' = true ∧ Rp imm w c u) →
  Go.Proofs.YtkdolbffabmemaaGreatDoor.putAll o q M l = some M' → Step (szT P) imm0 w0 M0 imm w M'
 | [], es, M, M', hS, _, _, _, hp => by simp [Go.Proofs.YtkdolbffabmemaaGreatDoor.putAll] at hp; subst hp; exact hS
 | (i, j, c) :: l, es, M, M', hS, hn, hg, hl, hp => by
  simp only [Go.Proofs.YtkdolbffabmemaaGreatDoor.putAll] at hp
  cases hp1 : M.put o q i j c with
  | none => simp [hp1] at hp
  | some M1 =>
   simp only [hp1, Option.bind_some] at hp
   obtain ⟨⟨d, hd⟩, u, hu, hu1, hcu⟩ := hl i j c (by simp)
   have hS1 := hS.put hn hd hp1 hcu hu1
   rw [setCell_same hg hu] at hS1
   obtain ⟨c', hc'1, hn1⟩ := getP_put_node hn hd hp1
   obtain ⟨es', hes'⟩ : ∃ es', (V.own e (some g) cap es).setIJ i j c' = .own e (some g) cap es' := ⟨_, rfl⟩
   rw [hes'] at hn1
   refine Step.putAll l es' M1 M' hS1 hn1 hg (fun i' j' c2 hm => ?_) hp
   obtain ⟨⟨d', hd'⟩, h2⟩ := hl i' j' c2 (by simp [hm])
   have := cellAt_setIJ_some hc'1 hd hd'
   rw [hes'] at this
   exact ⟨this, h2⟩
theorem Step.newO (h : Step (szT P) imm0 w0 M0 imm w M) {d : Nat} {e : TypeId} {cap : Nat} {xs : List V} {cur : Array Value} (hok : okE P e xs = true) (hs : cur.size = cap * szT P e) (hcm : cap ≤ maxLen) (hl : xs.length ≤ cap)
  (hx : Holds P imm w e xs cur) (hp : Go.Proofs.YtkdolbffabmemaaGreatDoor.newO P M d e w.heap.size cap xs = some M') : Step (szT P) imm0 w0 M0 imm (w.alloc (.cells cur e)) M' := by
 have hI := h.inv
 have hev : Ev imm w imm (w.alloc (.cells cur e)) := fun g hg => ⟨hg, Below.heap_alloc w _ g (h.lt g hg)⟩
 have hcells : ∀ (i : Nat) x, xs[i]? = some x → x.thinE.cells = x.cells.map V.thin ∧ ∀ c ∈ x.cells, c.laid = true := by
  intro i x hix
  have hm := List.all_eq_true.1 hok x (List.mem_of_getElem? hix)
  simp only [Bool.and_eq_true] at hm
  refine ⟨cells_thinE x hm.2, fun c hc => ?_⟩
  have := List.all_eq_true.1 hm.2 c hc
  simp only [Bool.and_eq_true] at this
  exact this.1
 have hnew : Inv (szT P) imm (w.alloc (.cells cur e)) (M.set d (.own e (some w.heap.size) cap (xs.map V.thinE))) := by
  refine hI.new h.lt hs hcm (by simpa using hl) (fun i x' hix => ?_)
  simp [List.getElem?_map, Option.map_eq_some_iff] at hix
  obtain ⟨x, hix, rfl⟩ := hix
  obtain ⟨h1, h2⟩ := hcells i x hix
  obtain ⟨h3, h4⟩ := hx i x hix
  rw [h1, List.length_map]
  refine ⟨h3, fun j c' hc' => ?_⟩
  rw [List.getElem?_map, Option.map_eq_some_iff] at hc'
  obtain ⟨c, hc, rfl⟩ := hc'
  have hlaid := h2 c (List.mem_of_getElem? hc)
  obtain ⟨u, hu1, hu2, hu3⟩ := h4 j c hc
  refine ⟨thin_flat hlaid, u, hu1, hu2, ?_⟩
  cases c <;> first | exact hu3 | (exact Rp.undef _) | (cases hu3; rfl) | simp [V.laid] at hlaid
 have hS1 : Step (szT P) imm0 w0 M0 imm (w.alloc (.cells cur e)) (M.set d (.own e (some w.heap.size) cap (xs.map V.thinE))) := by
  refine ⟨hnew, fun g hg => by have := h.lt g hg; simp; omega, by have := h.size; simp; omega, h.os, h.tape, h.output, fun g hg hno => ?_, fun g hg => ?_⟩
  ·have hlt : g < w.heap.size := Nat.lt_of_lt_of_le hg h.size
   exact ⟨(Below.heap_alloc w _ g hlt).trans (h.block g hg hno).1, (h.block g hg hno).2⟩
  ·obtain ⟨o', q, e', cap', es', hq⟩ := hg
   by_cases hgs : g = w.heap.size
   ·subst hgs; exact .inr h.size
   ·rw [Mem.getP_set] at hq
    split at hq
    ·cases q with
     | nil => simp [V.getP] at hq; exact absurd hq.2.1.symm hgs
     | cons ab q =>
      obtain ⟨i, j⟩ := ab
      simp only [V.getP] at hq
      cases hc : (V.own e (some w.heap.size) cap (xs.map V.thinE)).cellAt i j with
      | none => simp [hc] at hq
      | some c =>
       simp only [hc, Option.bind_some] at hq
       simp [V.cellAt, Option.bind_eq_some_iff] at hc
       obtain ⟨x', ⟨x, hix, rfl⟩, hxc⟩ := hc
       obtain ⟨h1, h2⟩ := hcells i x hix
       rw [h1, List.getElem?_map, Option.map_eq_some_iff] at hxc
       obtain ⟨c0, hc0, rfl⟩ := hxc
       exact absurd rfl ((getP_flat (sz := szT P) (thin_flat (h2 c0 (List.mem_of_getElem? hc0))) q _ hq).2 _ _ _ _)
    ·exact h.owns g ⟨o', q, e', cap', es', hq⟩
 unfold Go.Proofs.YtkdolbffabmemaaGreatDoor.newO at hp
 refine hS1.putAll (cap := cap) (e := e) (g := w.heap.size) (movesE 0 xs) (xs.map V.thinE) _ M' (by simp [Mem.getP_set, V.getP]) (heap_alloc_new w _) (fun i j c hm => ?_) hp
 obtain ⟨l, x, h1, h2, h3⟩ := mem_movesE hm
 have : i = l := by omega
 subst this
 obtain ⟨h4, h5⟩ := hcells i x h2
 obtain ⟨u, hu1, hu2, hu3⟩ := (hx i x h2).2 j c h3
 refine ⟨⟨c.thin, ?_⟩, u, hu1, hu2, hu3.ev hev⟩
 simp [V.cellAt, List.getElem?_map, h2, h4, h3]
theorem putAll_same {o : Nat} {q : Path} : ∀ (l : List (Nat × Nat × V)) (M1 M2 : Mem), (∀ k, k ≠ o → M1 k = M2 k) → (∃ v1, M1 o = some v1) → (∃ v2, M2 o = some v2) →
  (Go.Proofs.YtkdolbffabmemaaGreatDoor.putAll o q M1 l).isSome = (Go.Proofs.YtkdolbffabmemaaGreatDoor.putAll o q M2 l).isSome
 | [], _, _, _, _, _ => rfl
 | (i, j, c) :: l, M1, M2, h, ⟨v1, h1⟩, ⟨v2, h2⟩ => by
  simp only [Go.Proofs.YtkdolbffabmemaaGreatDoor.putAll]
  have setp : ∀ (N1 N2 : Mem) (c' : V) (u1 u2 : V), (∀ k, k ≠ o → N1 k = N2 k) → N1 o = some u1 → N2 o = some u2 →
    (Go.Proofs.YtkdolbffabmemaaGreatDoor.putAll o q (N1.setP o q i j c') l).isSome = (Go.Proofs.YtkdolbffabmemaaGreatDoor.putAll o q (N2.setP o q i j c') l).isSome := by
   intro N1 N2 c' u1 u2 hN hu1 hu2
   refine putAll_same l _ _ (fun k hk => ?_) ?_ ?_
   ·simp [Mem.setP, hu1, hu2, Mem.set, hk, hN k hk]
   ·simp [Mem.setP, hu1, Mem.set]
   ·simp [Mem.setP, hu2, Mem.set]
  cases c <;> simp only [Mem.put, Option.bind_some, Option.bind_none] <;> try exact setp M1 M2 _ v1 v2 h h1 h2
  rename_i d q' γ ln cp
  cases q' with
  | cons a q' => rfl
  | nil =>
   simp only
   by_cases hd : d = o
   ·subst hd
    simp only [h1, h2]
    cases v1 <;> cases v2 <;> simp
   ·rw [h d hd]
    cases hMd : M2 d with
    | none => rfl
    | some v =>
     cases v <;> try rfl
     simp only
     split
     ·simp only [Option.bind_some]
      refine setp _ _ _ v1 v2 (fun k hk => ?_) ?_ ?_
      ·simp only [Mem.era]; split <;> simp [h k hk]
      ·simp only [Mem.era, h1, if_neg (fun e : o = d => hd e.symm)]
      ·simp only [Mem.era, h2, if_neg (fun e : o = d => hd e.symm)]
     ·rfl
theorem newO_some {d : Nat} {e : TypeId} {cap : Nat} {xs : List V} (h : (Go.Proofs.YtkdolbffabmemaaGreatDoor.newO P M d e 0 cap xs).isSome = true) (g : Nat) : ∃ M', Go.Proofs.YtkdolbffabmemaaGreatDoor.newO P M d e g cap xs = some M' := by
 have : (Go.Proofs.YtkdolbffabmemaaGreatDoor.newO P M d e g cap xs).isSome = true := by
  rw [← h]
  unfold Go.Proofs.YtkdolbffabmemaaGreatDoor.newO
  exact putAll_same _ _ _ (fun k hk => by simp [Mem.set, hk]) ⟨_, by simp [Mem.set]; rfl⟩ ⟨_, by simp [Mem.set]; rfl⟩
 exact Option.isSome_iff_exists.1 this
theorem run_newVar (e : TypeId) (v : Value) : (newVar e v).run P w = .ok ⟨w.heap.size, 0, none⟩ (w.alloc (.cells v.cells e)) := by
 simp [newVar, newRow, newObj, Sem.run, Result.andThen]
theorem Rp.cells_of {x : V} {v : Value} (h : Rp imm w x v) (hall : x.cells.all (fun c => c.laid && c.one) = true) : v.cells.size = x.cells.length ∧
  ∀ (j : Nat) c, x.cells[j]? = some c → ∃ u, v.cells[j]? = some u ∧ u.oneCell' = true ∧ Rp imm w c u := by
 have fin : ∀ (arr : Array Value) (cs : List V), arr.size = cs.length → (∀ (j : Nat) c u, cs[j]? = some c → arr[j]? = some u → Rp imm w c u) → cs.all (fun c => c.laid && c.one) = true →
   ∀ (j : Nat) c, cs[j]? = some c → ∃ u, arr[j]? = some u ∧ u.oneCell' = true ∧ Rp imm w c u := by
  intro arr cs hl h hall j c hc
  have hlt : j < arr.size := by rw [hl]; exact (List.getElem?_eq_some_iff.1 hc).1
  have hr := h j c arr[j] hc (by simp [hlt])
  have := List.all_eq_true.1 hall c (List.mem_of_getElem? hc)
  simp only [Bool.and_eq_true] at this
  exact ⟨arr[j], by simp [hlt], hr.one this.2, hr⟩
 by_cases hx : ∃ cs, x = .agg cs
 ·obtain ⟨cs, rfl⟩ := hx
  obtain ⟨arr, rfl, hl, hc⟩ := h.agg_inv
  exact ⟨hl, fin arr cs hl hc hall⟩
 ·have hc1 : x.cells = [x] := by cases x <;> first | rfl | exact absurd ⟨_, rfl⟩ hx
  rw [hc1] at hall ⊢
  simp at hall
  have ho := h.one hall.2
  have hv : v.cells = #[v] := by cases v <;> first | rfl | simp [Value.oneCell'] at ho
  rw [hv]
  refine ⟨rfl, fun j c hj => ?_⟩
  cases j with
  | zero => simp at hj; subst hj; exact ⟨v, rfl, ho, h⟩
  | succ j => simp at hj
theorem opOk_new1 {d : Nat} {e : TypeId} {x : V} {v : Value} (hrun : (execOp a.eval o).run P w = .ok (.value (.pointer (some ⟨w.heap.size, 0, none⟩))) (w.alloc (.cells v.cells e))) (hrp : Rp imm w x v)
  (hok : okE P e [x] = true) (hsome : ∃ M', newO P M d e w.heap.size 1 [x] = some M') (hI : Inv (szT P) imm w M) (hi : ∀ g, imm g → g < w.heap.size) :
  Ok P (fun r m => ∃ g, r = .ptr d [] 0 0 g (szT P e) ∧ newO P M d e g 1 [x] = some m) o a imm w M := by
 obtain ⟨M', hM'⟩ := hsome
 have hok' := hok
 simp only [okE, List.all_cons, List.all_nil, Bool.and_true, Bool.and_eq_true, beq_iff_eq] at hok
 obtain ⟨hsz, hall⟩ := hrp.cells_of (by simpa using hok.2)
 have hS := (Step.refl hI hi).newO (d := d) (e := e) (cap := 1) (xs := [x]) (cur := v.cells) hok' (by rw [hsz, hok.1]; simp) (by simp [maxLen]) (by simp) (fun i y hy => by
  cases i with
  | zero => simp at hy; subst hy; exact ⟨hok.1, fun j c hc => by simpa using hall j c hc⟩
  | succ i => simp at hy) hM'
 have hp := Rp.ptr (imm := imm) (w := w.alloc (.cells v.cells e)) d [] 0 0 w.heap.size (szT P e)
 exact ⟨_, _, _, M', imm, _, hrun, .inl rfl, ⟨w.heap.size, rfl, hM'⟩, by simpa using hp, hS⟩
theorem opOk_box (e : TypeId) (x : Operand) (ho : o.op = .box e x) {d : Nat} (hok : okE P e [evV t x] = true) (hsome : (newO P M d e 0 1 [evV t x]).isSome = true) (hI : Inv (szT P) imm w M) (hi : ∀ g, imm g → g < w.heap.size) (ht : Tm imm w t a) :
  Ok P (fun r m => ∃ g, r = .ptr d [] 0 0 g (szT P e) ∧ newO P M d e g 1 [evV t x] = some m) o a imm w M :=
 opOk_new1 (v := a.eval x) (by simp [execOp, ho, Instr.box, run_newVar, Result.andThen]) (ht.eval x) hok (newO_some hsome _) hI hi
theorem zeroT_info {e : TypeId} {z : V} (h : zeroT P e = some z) : ∃ i zv, P.info? e = some i ∧ i.zero = some zv ∧ z = ofVal zv := by
 unfold zeroT at h
 cases hi : P.info? e with
 | none => simp [hi] at h
 | some i =>
  simp only [hi, Option.bind_some] at h
  cases hz : i.zero with
  | none => simp [hz] at h
  | some zv => simp [hz] at h; exact ⟨i, zv, rfl, hz, h.symm⟩
theorem run_zero {e : TypeId} {i : TypeInfo} {zv : Value} (h : P.info? e = some i) (hz : i.zero = some zv) : (zeroValue e).run P w = .ok zv w := by
 simp [zeroValue, typeInfo, h, hz]
theorem opOk_alloc (e : TypeId) (ho : o.op = .alloc e) {d : Nat} {z : V} (hz : zeroT P e = some z) (hok : okE P e [z] = true) (hsome : (newO P M d e 0 1 [z]).isSome = true) (hI : Inv (szT P) imm w M) (hi : ∀ g, imm g → g < w.heap.size) :
  Ok P (fun r m => ∃ g, r = .ptr d [] 0 0 g (szT P e) ∧ newO P M d e g 1 [z] = some m) o a imm w M := by
 obtain ⟨i, zv, h1, h2, rfl⟩ := zeroT_info hz
 exact opOk_new1 (v := zv) (by simp [execOp, ho, Instr.alloc, run_zero h1 h2, run_newVar, Result.andThen]) (ofVal_rp _ zv (Nat.le_refl _)) hok (newO_some hsome _) hI hi
end
end Go.Proofs.YtkdolbffabmemaaGreatDoor
