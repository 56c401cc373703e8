/-
 The machine of values against the model: build, make, slices of slices, variables; calls.
-/
import Derived.Test.YtkdolbffabmemaaGreatDoorLvi
namespace Go.Proofs.YtkdolbffabmemaaGreatDoor
open Go.RowKit
set_option linter.unusedSimpArgs false
set_option linter.unusedVariables false
section
variable {P : Program} {imm imm0 : Nat → Prop} {w w0 : World} {M M0 M' : Mem} {t : Nat → V} {a : Act} {o : Oper}
def Cells (imm : Nat → Prop) (w : World) (cs : List V) (arr : Array Value) : Prop := arr.size = cs.length ∧ ∀ (j : Nat) c u, cs[j]? = some c → arr[j]? = some u → Rp imm w c u
theorem Rp.part_cells {x : V} {v : Value} (h : Rp imm w x v) (hp : x.part = true) : Cells imm w x.cells v.cells := by
 by_cases hx : ∃ cs, x = .agg cs
 ·obtain ⟨cs, rfl⟩ := hx
  obtain ⟨arr, rfl, hl, hc⟩ := h.agg_inv
  exact ⟨hl, hc⟩
 ·have hc1 : x.cells = [x] := by cases x <;> first | rfl | exact absurd ⟨_, rfl⟩ hx
  have ho : x.one = true := by cases x <;> first | exact hp | exact absurd ⟨_, rfl⟩ hx
  have hv1 := h.one ho
  have hv : v.cells = #[v] := by cases v <;> first | rfl | simp [Value.oneCell'] at hv1
  rw [hc1, hv]
  refine ⟨rfl, fun j c u hj hu => ?_⟩
  cases j with
  | zero => simp at hj hu; subst hj; subst hu; exact h
  | succ j => simp at hj
theorem fill_cells {pl : Nat → Option (Nat × Nat)} : ∀ (parts : List (Nat × Operand)) (cs cs' : List V) (arr : Array Value), Cells imm w cs arr → Tm imm w t a → fillV pl cs (parts.map fun p => (p.1, evV t p.2)) = some cs' →
  ∃ arr', Instr.fill pl arr (parts.map fun p => (p.1, a.eval p.2)) = some arr' ∧ Cells imm w cs' arr'
 | [], cs, cs', arr, h, _, hf => by simp [fillV] at hf; subst hf; exact ⟨arr, rfl, h⟩
 | (i, x) :: parts, cs, cs', arr, h, ht, hf => by
  simp only [List.map_cons, fillV] at hf
  cases hpl : pl i with
  | none => simp [hpl] at hf
  | some os =>
   obtain ⟨off, size⟩ := os
   simp only [hpl] at hf
   split at hf
   ·rename_i hc
    obtain ⟨h1, h2, h3⟩ := hc
    obtain ⟨k1, k2⟩ := (ht.eval x).part_cells h3
    obtain ⟨f1, f2⟩ := foldl_cells' (a.eval x) off arr
    have hstep : Cells imm w (setCells cs off (evV t x).cells) ((a.eval x).cells.zipIdx.foldl (fun cs (c, j) => cs.setIfInBounds (off + j) c) arr) := by
     refine ⟨by rw [f1, h.1]; simp [setCells]; omega, fun j c u hj hu => ?_⟩
     rw [f2] at hu
     simp only [setCells, List.append_assoc] at hj
     by_cases hlt : j < off
     ·rw [List.getElem?_append_left (by simp; omega), List.getElem?_take, if_pos hlt] at hj
      rw [if_neg (by omega)] at hu
      exact h.2 j c u hj hu
     ·rw [List.getElem?_append_right (by simp; omega)] at hj
      have hmin : (cs.take off).length = off := by simp; omega
      rw [hmin] at hj
      by_cases hlt2 : j < off + size
      ·rw [List.getElem?_append_left (by omega)] at hj
       rw [if_pos ⟨by omega, by omega, by rw [h.1]; omega⟩] at hu
       exact k2 _ c u hj hu
      ·rw [List.getElem?_append_right (by omega), List.getElem?_drop] at hj
       rw [if_neg (by omega)] at hu
       refine h.2 j c u ?_ hu
       rw [← hj]; congr 1; omega
    obtain ⟨arr', r1, r2⟩ := fill_cells parts _ cs' _ hstep ht hf
    refine ⟨arr', ?_, r2⟩
    simp only [List.map_cons, Instr.fill, hpl]
    rw [if_neg]
    ·exact r1
    ·rw [k1, h1, h.1]; simp; omega
   ·cases hf
theorem opOk_build (ty : TypeId) (parts : Array (Nat × Operand)) (ho : o.op = .build ty parts) {z cs : List V} {pl : Nat → Option (Nat × Nat)} (hz : zeroT P ty = some (.agg z)) (hpl : placesT P ty = some pl)
  (hf : fillV pl z (parts.toList.map fun p => (p.1, evV t p.2)) = some cs) (hI : Inv (szT P) imm w M) (hi : ∀ g, imm g → g < w.heap.size) (ht : Tm imm w t a) : Ok P (det (.agg cs) M) o a imm w M := by
 obtain ⟨ti, zv, hti, hzv, hzz⟩ := zeroT_info hz
 have hrp := ofVal_rp (imm := imm) (w := w) _ zv (Nat.le_refl _)
 rw [← hzz] at hrp
 obtain ⟨arr0, rfl, k1, k2⟩ := hrp.agg_inv
 obtain ⟨arr', r1, r2⟩ := fill_cells (imm := imm) (w := w) parts.toList z cs arr0 ⟨k1, k2⟩ ht hf
 have hb : P.built ty (parts.map fun (i, x) => (i, a.eval x)).toList = some arr' := by
  unfold Program.built
  unfold placesT at hpl
  have hl : (parts.map fun (i, x) => (i, a.eval x)).toList = parts.toList.map fun p => (p.1, a.eval p.2) := by simp
  rw [hl]
  cases hu : P.underlying ty with
  | none => simp [hu] at hpl
  | some d =>
   simp only [hu] at hpl
   cases d <;> try (cases hpl; done)
   case struct fs =>
    simp only [Option.map_eq_some_iff] at hpl
    obtain ⟨l, hl1, rfl⟩ := hpl
    simp only [hti, hzv]
    rw [hl1]
    simpa [Value.cells] using r1
   case array n e =>
    simp only [Option.map_eq_some_iff] at hpl
    obtain ⟨ie, hie, rfl⟩ := hpl
    simp only [hti, hzv, hie]
    simpa [Value.cells] using r1
 exact Ok.quiet hI hi (v := .agg arr') (by simp only [execOp, ho, Sem.run_bind, run_build w ty _ arr' hb, Result.andThen_ok, Sem.run_pure]) ⟨rfl, rfl⟩ (.agg _ _ r2.1 r2.2)
theorem made_holds {e : TypeId} {zv : Value} (n : Nat) (hpos : 0 < szT P e) (hzl : (ofVal zv).cells.length = szT P e) (hzall : ((ofVal zv).cells.all fun c => c.laid && c.one) = true) :
  Holds P imm w e (List.replicate n (ofVal zv)) (madeCells zv.cells (n * szT P e)) := by
 obtain ⟨s1, s2⟩ := (ofVal_rp (imm := imm) (w := w) _ zv (Nat.le_refl _)).cells_of hzall
 rw [hzl] at s1
 intro i x hx
 have hin : i < n := by
  have := (List.getElem?_eq_some_iff.1 hx).1
  simpa using this
 have : x = ofVal zv := by
  rw [List.getElem?_replicate] at hx
  simp [hin] at hx; exact hx.symm
 subst this
 refine ⟨hzl, fun j c hc => ?_⟩
 obtain ⟨u, u1, u2, u3⟩ := s2 j c hc
 have hj : j < szT P e := by rw [← hzl]; exact (List.getElem?_eq_some_iff.1 hc).1
 have hroom : i * szT P e + szT P e ≤ n * szT P e := by rw [← Nat.succ_mul]; exact Nat.mul_le_mul_right _ hin
 refine ⟨u, ?_, u2, u3⟩
 have hmod : (i * szT P e + j) % zv.cells.size = j := by rw [s1, Nat.mul_comm, Nat.mul_add_mod, Nat.mod_eq_of_lt hj]
 unfold madeCells
 rw [Array.getElem?_map, Array.getElem?_range]
 rw [if_pos (by omega)]
 simp only [Option.map_some, hmod]
 have hj2 : j < zv.cells.size := by omega
 rw [Array.getElem?_eq_getElem hj2] at u1
 cases u1
 simp [hj2]
theorem moves_any : ∀ (cs : List V) (i i' j j' : Nat), (moves i j cs).isEmpty = (moves i' j' cs).isEmpty
 | [], _, _, _, _ => rfl
 | c :: cs, i, i', j, j' => by cases c <;> simp only [moves] <;> first | rfl | exact moves_any cs i i' _ _
theorem movesE_rep {z : V} (h : (movesE 0 [z]).isEmpty = true) : ∀ n i, movesE i (List.replicate n z) = []
 | 0, _ => rfl
 | n + 1, i => by
  simp only [List.replicate_succ, movesE, movesE_rep h n, List.append_nil]
  have h1 : (moves 0 0 z.cells).isEmpty = true := by simpa [movesE] using h
  rw [moves_any z.cells 0 i 0 0] at h1
  simpa using h1
theorem opOk_makeSlice (ty : TypeId) (len cap : Operand) (ho : o.op = .makeSlice ty len cap) {d : Nat} {e : TypeId} {z : V} {k k' : IntKind} {n c : Int} (he : elT P ty = some e) (hz : zeroT P e = some z) (hn : evV t len = .int k n) (hc : evV t cap = .int k' c)
  (hok : okE P e [z] = true) (hmv : (movesE 0 [z]).isEmpty = true) (hnc : n = c) (h0 : 0 ≤ n) (hb : n * byT P e ≤ 140737488355328) (hpos : 0 < szT P e) (hb0 : 0 < byT P e) (hI : Inv (szT P) imm w M) (hi : ∀ g, imm g → g < w.heap.size) (ht : Tm imm w t a) :
  Ok P (fun r m => ∃ g, r = .msl d [] (some g) n.toNat n.toNat ∧ m = M.set d (.own e (some g) n.toNat (List.replicate n.toNat z.thinE))) o a imm w M := by
 subst hnc
 obtain ⟨ti, zv, hti, hzv, rfl⟩ := zeroT_info hz
 have e1 := (hn ▸ ht.eval len : Rp imm w (.int k n) _).int_inv
 have e2 := (hc ▸ ht.eval cap : Rp imm w (.int k' n) _).int_inv
 have hisz : ti.size = szT P e := by simp [szT, hti]
 have hiby : ti.bytes = byT P e := by simp [byT, hti]
 have hb' : (ti.bytes : Int) * n ≤ 140737488355328 := by rw [hiby, Int.mul_comm]; exact hb
 have hn63 : n ≤ 140737488355328 := by
  have h1 : n * 1 ≤ n * (byT P e : Int) := Int.mul_le_mul_of_nonneg_left (by omega) h0
  omega
 have hr := run_make (P := P) w ty e ti zv (elT_und he) hti hzv k k' n n h0 (Int.le_refl _) (by omega) (by omega)
 rw [hisz] at hr
 simp only [okE, List.all_cons, List.all_nil, Bool.and_true, Bool.and_eq_true, beq_iff_eq] at hok
 have hh := made_holds (P := P) (imm := imm) (w := w) (e := e) (zv := zv) n.toNat hpos hok.1 (by simpa using hok.2)
 have hokr : okE P e (List.replicate n.toNat (ofVal zv)) = true := by
  rw [okE, List.all_eq_true]
  intro x hx
  rw [List.mem_replicate] at hx
  rw [hx.2]; simpa using hok
 have hnew : newO P M d e w.heap.size n.toNat (List.replicate n.toNat (ofVal zv)) = some (M.set d (.own e (some w.heap.size) n.toNat (List.replicate n.toNat (ofVal zv).thinE))) := by
  simp only [newO, movesE_rep hmv, putAll, List.map_replicate]
 have hS := (Step.refl hI hi).newO (d := d) (e := e) (cap := n.toNat) (cur := madeCells zv.cells (n.toNat * szT P e)) hokr (size_madeCells _ _) (by simp only [maxLen]; omega) (by simp) hh hnew
 refine ⟨_, _, .msl d [] (some w.heap.size) n.toNat n.toNat, _, imm, _, ?_, .inl rfl, ⟨w.heap.size, rfl, rfl⟩, .msl .., hS⟩
 simp only [execOp, ho, e1, e2, Sem.run_bind, hr, Result.andThen_ok, Sem.run_pure]; rfl
theorem run_slice_of {ty e : TypeId} (he : elT P ty = some e) {ti : TypeInfo} (hti : P.info? e = some ti) {A : Option Addr} {len cap : Nat} {lo hi : Option Value} {l h : Int} (hlo : lo = none ∧ l = 0 ∨ ∃ k, lo = some (.int k l)) (hhi : hi = none ∧ h = len ∨ ∃ k, hi = some (.int k h))
  (h0 : 0 ≤ l) (h1 : l ≤ h) (h2 : h ≤ len) (h3 : len ≤ cap) :
  (Instr.sliceAt ty (.slice A len cap) lo hi none).run P w = .ok (.slice (if cap = l.toNat then A else A.map (·.add (l.toNat * szT P e))) (h.toNat - l.toNat) (cap - l.toNat)) w := by
 have hu := elT_und he
 have hb : (Instr.sliceBounds true len cap lo hi none).run P w = .ok (l.toNat, h.toNat, cap) w := by
  rcases hlo with ⟨rfl, rfl⟩ | ⟨k, rfl⟩ <;> rcases hhi with ⟨rfl, rfl⟩ | ⟨k2, rfl⟩ <;>
   simp [Instr.sliceBounds, Instr.sliceBound, asIntOf, Result.andThen] <;> (repeat rw [if_pos (by omega)]) <;> simp
  all_goals (first | (rw [if_pos (by omega)]; simp) | (rw [show (max h 0) = h from by omega, if_pos (by omega)]) | (constructor <;> omega))
 simp [Instr.sliceAt, run_underlying hu, Instr.slice, hb, run_sizeOf_of hti, Result.andThen]
theorem opOk_slice_sl (ty : TypeId) (x : Operand) (lo hi : Option Operand) (ho : o.op = .slice ty x lo hi none) {es : List V} {k1 k2 : IntKind} {l h : Int} {e : TypeId} (hx : evV t x = .sl es) (hlo : (lo.map (evV t)).getD (.int .i64 0) = .int k1 l) (hhi : (hi.map (evV t)).getD (.int .i64 es.length) = .int k2 h)
  (he : elT P ty = some e) (h0 : 0 ≤ l) (h1 : l ≤ h) (h2 : h ≤ es.length) (hsz : ∀ x ∈ es, x.cells.length = szT P e) (hpos : 0 < szT P e) (hI : Inv (szT P) imm w M) (him : ∀ g, imm g → g < w.heap.size) (ht : Tm imm w t a) :
  Ok P (det (.sl ((es.take h.toNat).drop l.toNat)) M) o a imm w M := by
 obtain ⟨ti, hti⟩ := info_of_szT (P := P) (ft := e) (by omega)
 have hlo' : lo.map a.eval = none ∧ l = 0 ∨ ∃ k, lo.map a.eval = some (.int k l) := by
  cases lo with
  | none => simp at hlo; exact .inl ⟨rfl, hlo.2.symm⟩
  | some y => simp at hlo; exact .inr ⟨k1, by simp; exact (hlo ▸ ht.eval y : Rp imm w (.int k1 l) _).int_inv⟩
 have hhi' : hi.map a.eval = none ∧ h = es.length ∨ ∃ k, hi.map a.eval = some (.int k h) := by
  cases hi with
  | none => simp at hhi; exact .inl ⟨rfl, hhi.2.symm⟩
  | some y => simp at hhi; exact .inr ⟨k2, by simp; exact (hhi ▸ ht.eval y : Rp imm w (.int k2 h) _).int_inv⟩
 have hr := hx ▸ ht.eval x
 generalize hax : a.eval x = v at hr
 have hexec : ∀ A cap, v = .slice A es.length cap → es.length ≤ cap → (execOp a.eval o).run P w = .ok (.value (.slice (if cap = l.toNat then A else A.map (·.add (l.toNat * szT P e))) (h.toNat - l.toNat) (cap - l.toNat))) w := by
  intro A cap hv hcap
  simp only [execOp, ho, hax, hv, Sem.run_bind, Option.map_none, run_slice_of he hti hlo' hhi' h0 h1 h2 hcap, Result.andThen_ok, Sem.run_pure]
 have hlen : ((es.take h.toNat).drop l.toNat).length = h.toNat - l.toNat := by simp; omega
 cases hr with
 | sl0 A c =>
  simp at h2
  have : (([] : List V).take h.toNat).drop l.toNat = [] := by simp
  rw [this]
  refine Ok.quiet hI him (hexec A c rfl (by simp)) ⟨rfl, rfl⟩ ?_
  have : h.toNat - l.toNat = 0 := by omega
  rw [this]; exact .sl0 _ _
 | sl es g off cap k cur t' fr f hi' hg hcap hl hc hh =>
  refine Ok.quiet hI him (hexec _ cap rfl hcap) ⟨rfl, rfl⟩ ?_
  by_cases hemp : h.toNat - l.toNat = 0
  ·have hnil : (es.take h.toNat).drop l.toNat = [] := List.eq_nil_of_length_eq_zero (by rw [hlen]; exact hemp)
   rw [hnil, hemp]; exact .sl0 _ _
  ·have hkk : k = szT P e := by
    cases es with
    | nil => simp at h2; omega
    | cons y ys => rw [← hl 0 y rfl]; exact hsz y (by simp)
   subst hkk
   rw [if_neg (by omega), ← hlen]
   simp only [Option.map_some, add_off]
   have hget : ∀ i x, ((es.take h.toNat).drop l.toNat)[i]? = some x → es[l.toNat + i]? = some x := by
    intro i x hx
    rw [List.getElem?_drop, List.getElem?_take] at hx
    split at hx
    ·exact hx
    ·cases hx
   refine .sl _ g (off + l.toNat * szT P e) (cap - l.toNat) (szT P e) cur t' fr (fun i j => f (l.toNat + i) j) hi' hg (by rw [hlen]; omega) (fun i x hx => hl _ x (hget i x hx)) (fun i x j c hx hjc => ?_) (fun i x j c hx hjc => hh _ x j c (hget i x hx) hjc)
   rw [← hc _ x j c (hget i x hx) hjc]
   congr 1
   rw [Nat.add_mul]; omega
theorem opOk_assign_key (x : Operand) (ho : o.op = .assign x) {s d : Nat} {ob r : V} (hs : M s = some ob) (hr : (∃ γ l cap, evV t x = .msl s [] γ l cap ∧ r = .msl d [] γ l cap) ∨ (∃ i j g k, evV t x = .ptr s [] i j g k ∧ r = .ptr d [] i j g k))
  (hI : Inv (szT P) imm w M) (hi : ∀ g, imm g → g < w.heap.size) (ht : Tm imm w t a) : Ok P (det r ((M.era s).set d ob)) o a imm w M := by
 refine ⟨.value (a.eval x), a.eval x, r, _, imm, w, by simp [execOp, ho], .inl rfl, ⟨rfl, rfl⟩, ?_, (Step.refl hI hi).rekey hs⟩
 rcases hr with ⟨γ, l, cap, hx, rfl⟩ | ⟨i, j, g, k, hx, rfl⟩
 ·exact (hx ▸ ht.eval x : Rp imm w (.msl s [] γ l cap) _).msl_any
 ·exact (hx ▸ ht.eval x : Rp imm w (.ptr s [] i j g k) _).ptr_any
theorem opOk_assign (x : Operand) (ho : o.op = .assign x) (hI : Inv (szT P) imm w M) (hi : ∀ g, imm g → g < w.heap.size) (ht : Tm imm w t a) : Ok P (det (evV t x) M) o a imm w M :=
 Ok.quiet hI hi (v := a.eval x) (by simp [execOp, ho]) ⟨rfl, rfl⟩ (ht.eval x)
theorem opOk_assign_undef (x : Operand) (ho : o.op = .assign x) (hI : Inv (szT P) imm w M) (hi : ∀ g, imm g → g < w.heap.size) (ht : Tm imm w t a) : Ok P (det .undef M) o a imm w M :=
 Ok.quiet hI hi (v := a.eval x) (by simp [execOp, ho]) ⟨rfl, rfl⟩ (.undef _)
theorem opOk_assign_nil (x : Operand) (ho : o.op = .assign x) {d : Nat} (hx : evV t x = .nilsl) (hI : Inv (szT P) imm w M) (hi : ∀ g, imm g → g < w.heap.size) (ht : Tm imm w t a) :
  Ok P (det (.msl d [] none 0 0) (M.set d (.own 0 none 0 []))) o a imm w M := by
 have h1 : a.eval x = .slice none 0 0 := by
  have := hx ▸ ht.eval x
  generalize a.eval x = v at this
  cases this; rfl
 exact ⟨.value (a.eval x), a.eval x, _, _, imm, w, by simp [execOp, ho], .inl rfl, ⟨rfl, rfl⟩, by rw [h1]; exact .msl .., (Step.refl hI hi).mem (hI.nilrow d 0) (fun g hg => .inl (owns_nilrow hg))⟩
end
end Go.Proofs.YtkdolbffabmemaaGreatDoor
