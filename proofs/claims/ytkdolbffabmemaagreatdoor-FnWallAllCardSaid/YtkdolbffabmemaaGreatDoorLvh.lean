/-
 The machine of values against the model: stores of values, literals.
-/
import Derived.Test.YtkdolbffabmemaaGreatDoorLvg
namespace Go.Proofs.YtkdolbffabmemaaGreatDoor
open Go.RowKit
set_option linter.unusedSimpArgs false
set_option linter.unusedVariables false
section
variable {P : Program} {imm imm0 : Nat → Prop} {w w0 : World} {M M0 M' : Mem} {t : Nat → V} {a : Act} {o : Oper}
theorem opOk_store (ty : TypeId) (x y : Operand) (ho : o.op = .store ty x y) {s : Nat} {q : Path} {i j g k : Nat} (hx : evV t x = .ptr s q i j g k) {e : TypeId} {cap : Nat} {es : List V}
  (hn : M.getP s q = some (.own e (some g) cap es)) (hk : k = szT P e) (hp : putAll s q M ((evV t y).cells.mapIdx fun l c => (i, j + l, c)) = some M') (hl : (evV t y).cells.length = szT P ty)
  (hall : ((evV t y).cells.all fun c => c.laid && c.one) = true) (hpos : 0 < szT P ty) (hd : ∀ l, l < szT P ty → ((V.own e (some g) cap es).cellAt i (j + l)).isSome) (hI : Inv (szT P) imm w M) (hi : ∀ g, imm g → g < w.heap.size) (ht : Tm imm w t a) :
  Ok P (det (.tuple []) M') o a imm w M := by
 have h1 := (hx ▸ ht.eval x : Rp imm w (.ptr s q i j g k) _).ptr_inv
 subst hk
 obtain ⟨hsz, hcs⟩ := (ht.eval y).cells_of hall
 obtain ⟨w', hr, hS⟩ := run_storeAll (P := P) (imm0 := imm) (w0 := w) (M0 := M) (o := s) (q := q) (i := i) (e := e) (g := g) (cap := cap) (evV t y).cells (a.eval y).cells.toList j 0 es M M' w (Step.refl hI hi) hn
  (fun l hl' => Option.isSome_iff_exists.1 (hd l (by omega))) hp (by simpa using hsz) (fun l c u hc hu => by
   obtain ⟨u', hu', h1, h2⟩ := hcs l c hc
   have hu2 : (a.eval y).cells[l]? = some u := by simpa using hu
   rw [hu2] at hu'; cases hu'
   exact ⟨h2, h1⟩) (i * szT P e + j) rfl
 obtain ⟨ti, hti⟩ := info_of_szT (P := P) (ft := ty) (by omega)
 refine ⟨.skip, undef, .tuple [], M', imm, w', ?_, .inr ⟨rfl, rfl⟩, ⟨rfl, rfl⟩, .tuple [] #[] rfl (by simp), hS⟩
 simp only [execOp, ho, h1, Instr.storeAt, Instr.sureAddr, storeVar, Sem.run_bind, Sem.run_pure, Result.andThen_ok, run_sizeOf_of hti]
 have : ¬ (a.eval y).cells.size ≠ szT P ty := by rw [hsz, hl]; simp
 simp only [this, if_false, Sem.run_bind, hr, Result.andThen_ok, Sem.run_pure]
theorem foldl_cells : ∀ (l : List Value) (off s : Nat) (cells : Array Value),
  ((l.zipIdx s).foldl (fun cs (p : Value × Nat) => cs.setIfInBounds (off + p.2) p.1) cells).size = cells.size ∧
  ∀ p, ((l.zipIdx s).foldl (fun cs (p : Value × Nat) => cs.setIfInBounds (off + p.2) p.1) cells)[p]? = if off + s ≤ p ∧ p < off + s + l.length ∧ p < cells.size then l[p - (off + s)]? else cells[p]?
 | [], off, s, cells => ⟨rfl, fun p => by simp; intro h1 h2; omega⟩
 | x :: l, off, s, cells => by
  obtain ⟨h1, h2⟩ := foldl_cells l off (s + 1) (cells.setIfInBounds (off + s) x)
  simp only [List.zipIdx_cons, List.foldl_cons]
  refine ⟨by rw [h1]; simp, fun p => ?_⟩
  rw [h2 p]
  simp only [Array.size_setIfInBounds, List.length_cons]
  by_cases hp : p = off + s
  ·subst hp
   rw [if_neg (by omega)]
   by_cases hlt : off + s < cells.size
   ·rw [if_pos (by omega)]
    simp [hlt]
   ·rw [if_neg (by omega)]
    simp [Array.getElem?_setIfInBounds, hlt]
  ·by_cases hc : off + (s + 1) ≤ p ∧ p < off + (s + 1) + l.length ∧ p < cells.size
   ·rw [if_pos hc, if_pos (by omega)]
    rw [show p - (off + s) = (p - (off + (s + 1))) + 1 from by omega]
    simp
   ·rw [if_neg hc, Array.getElem?_setIfInBounds_ne (by omega)]
    by_cases h3 : off + s ≤ p ∧ p < off + s + (l.length + 1) ∧ p < cells.size
    ·omega
    ·rw [if_neg h3]
theorem foldl_cells' (v : Value) (off : Nat) (cells : Array Value) :
  (v.cells.zipIdx.foldl (fun cs (c, j) => cs.setIfInBounds (off + j) c) cells).size = cells.size ∧
  ∀ p, (v.cells.zipIdx.foldl (fun cs (c, j) => cs.setIfInBounds (off + j) c) cells)[p]? = if off ≤ p ∧ p < off + v.cells.size ∧ p < cells.size then v.cells[p - off]? else cells[p]? := by
 have h := foldl_cells v.cells.toList off 0 cells
 simp only [Nat.add_zero] at h
 have e : (v.cells.zipIdx.foldl (fun cs (c, j) => cs.setIfInBounds (off + j) c) cells) = (v.cells.toList.zipIdx 0).foldl (fun cs (p : Value × Nat) => cs.setIfInBounds (off + p.2) p.1) cells := by
  rw [← Array.foldl_toList]
  simp
 rw [e]
 refine ⟨h.1, fun p => ?_⟩
 rw [h.2 p]
 simp
theorem fill_holds {e : TypeId} {n : Nat} : ∀ (parts : List (Nat × Operand)) (xs : List V) (cells : Array Value), xs.length = n → cells.size = n * szT P e → Holds P imm w e xs cells → Tm imm w t a →
  (∀ p ∈ parts, p.1 < n) → okE P e (parts.map fun p => evV t p.2) = true →
  ∃ cells', Instr.fill (fun i => some (i * szT P e, szT P e)) cells (parts.map fun p => (p.1, a.eval p.2)) = some cells' ∧ cells'.size = n * szT P e ∧
   Holds P imm w e ((parts.map fun p => (p.1, evV t p.2)).foldl (fun (l : List V) p => l.set p.1 p.2) xs) cells'
 | [], xs, cells, hl, hs, hh, ht, _, _ => ⟨cells, rfl, hs, hh⟩
 | (i, x) :: parts, xs, cells, hl, hs, hh, ht, hlt, hok => by
  simp only [List.map_cons, okE, List.all_cons, Bool.and_eq_true, beq_iff_eq] at hok
  obtain ⟨⟨hk, hall⟩, hok'⟩ := hok
  obtain ⟨hsz, hcs⟩ := (ht.eval x).cells_of hall
  have hin : i < n := hlt (i, x) (by simp)
  have hroom : i * szT P e + szT P e ≤ n * szT P e := by
   rw [← Nat.succ_mul]; exact Nat.mul_le_mul_right _ hin
  obtain ⟨f1, f2⟩ := foldl_cells' (a.eval x) (i * szT P e) cells
  have hstep : Holds P imm w e (xs.set i (evV t x)) (((a.eval x).cells.zipIdx.foldl (fun cs (c, j) => cs.setIfInBounds (i * szT P e + j) c) cells)) := by
   intro i' y hy
   rw [List.getElem?_set] at hy
   by_cases hii : i = i'
   ·subst hii
    have : i < xs.length := by omega
    simp [this] at hy
    subst hy
    refine ⟨hk, fun j c hc => ?_⟩
    obtain ⟨u, hu1, hu2, hu3⟩ := hcs j c hc
    have hj : j < szT P e := by rw [← hk]; exact (List.getElem?_eq_some_iff.1 hc).1
    refine ⟨u, ?_, hu2, hu3⟩
    rw [f2, if_pos ⟨by omega, by rw [hsz, hk]; omega, by omega⟩]
    simpa using hu1
   ·simp [hii] at hy
    refine ⟨(hh i' y hy).1, fun j c hc => ?_⟩
    obtain ⟨u, hu1, hu2, hu3⟩ := (hh i' y hy).2 j c hc
    have hj : j < szT P e := by rw [← (hh i' y hy).1]; exact (List.getElem?_eq_some_iff.1 hc).1
    refine ⟨u, ?_, hu2, hu3⟩
    rw [f2, if_neg]
    ·exact hu1
    ·rintro ⟨k1, k2, k3⟩
     rw [hsz, hk] at k2
     have := place_inj (k := szT P e) (i := i) (i' := i') (j := i' * szT P e + j - i * szT P e) (j' := j) (by omega) hj (by omega)
     exact hii this.1
  obtain ⟨cells', h1, h2, h3⟩ := fill_holds parts (xs.set i (evV t x)) _ (by simpa using hl) (f1.trans hs) hstep ht (fun p hp => hlt p (by simp [hp])) hok'
  refine ⟨cells', ?_, h2, h3⟩
  simp only [List.map_cons, Instr.fill]
  rw [if_neg]
  ·exact h1
  ·rw [hsz, hk]; simp; omega
theorem opOk_buildSlice (ty : TypeId) (n : Nat) (parts : Array (Nat × Operand)) (ho : o.op = .buildSlice ty n parts) {d : Nat} {e : TypeId} {z : V} (he : elT P ty = some e) (hz : zeroT P e = some z)
  (hok : okE P e ((parts.toList.map fun (i, x) => (i, evV t x)).foldl (fun (l : List V) p => l.set p.1 p.2) (List.replicate n z)) = true) (hokp : okE P e (parts.toList.map fun p => evV t p.2) = true)
  (hlt : parts.all (fun p => decide (p.1 < n)) = true) (hn24 : n * szT P e ≤ 2 ^ 24) (hpos : 0 < szT P e) (hzl : z.cells.length = szT P e)
  (hsome : (newO P M d e 0 n ((parts.toList.map fun (i, x) => (i, evV t x)).foldl (fun (l : List V) p => l.set p.1 p.2) (List.replicate n z))).isSome = true)
  (hzall : n = 0 ∨ (z.cells.all fun c => c.laid && c.one) = true)
  (hI : Inv (szT P) imm w M) (hi : ∀ g, imm g → g < w.heap.size) (ht : Tm imm w t a) :
  Ok P (fun r m => ∃ g, r = .msl d [] (some g) n n ∧ newO P M d e g n ((parts.toList.map fun (i, x) => (i, evV t x)).foldl (fun (l : List V) p => l.set p.1 p.2) (List.replicate n z)) = some m) o a imm w M := by
 obtain ⟨ti, zv, hti, hzv, rfl⟩ := zeroT_info hz
 have hu := elT_und he
 have hz1 : n = 0 ∨ (zv.cells.size = szT P e ∧ Holds P imm w e (List.replicate n (ofVal zv)) ((Array.range (n * szT P e)).map (zv.cells[· % zv.cells.size]!))) := by
  rcases hzall with h | hzall
  ·exact .inl h
  ·right
   obtain ⟨s1, s2⟩ := (ofVal_rp (imm := imm) (w := w) _ zv (Nat.le_refl _)).cells_of hzall
   rw [hzl] at s1
   refine ⟨s1, fun i x hx => ?_⟩
   have hin : i < n := by
    have := (List.getElem?_eq_some_iff.1 hx).1
    simpa using this
   have : x = ofVal zv := by
    rw [List.getElem?_replicate] at hx
    simp [hin] at hx; exact hx.symm
   subst this
   refine ⟨hzl, fun j c hc => ?_⟩
   obtain ⟨u, u1, u2, u3⟩ := s2 j c hc
   have hj : j < szT P e := by rw [← hzl]; exact (List.getElem?_eq_some_iff.1 hc).1
   have hroom : i * szT P e + szT P e ≤ n * szT P e := by rw [← Nat.succ_mul]; exact Nat.mul_le_mul_right _ hin
   refine ⟨u, ?_, u2, u3⟩
   have hmod : (i * szT P e + j) % zv.cells.size = j := by rw [s1, Nat.mul_comm, Nat.mul_add_mod, Nat.mod_eq_of_lt hj]
   rw [Array.getElem?_map, Array.getElem?_range]
   rw [if_pos (by omega)]
   simp only [Option.map_some, hmod]
   have hj2 : j < zv.cells.size := by omega
   rw [Array.getElem?_eq_getElem hj2] at u1
   cases u1
   simp [hj2]
 have hpl : parts.toList.map (fun p : Nat × Operand => (p.1, a.eval p.2)) = (parts.map fun p => (p.1, a.eval p.2)).toList := by simp
 have hlt' : ∀ p ∈ parts.toList, p.1 < n := by
  intro p hp
  have := Array.all_eq_true'.1 hlt p (by simpa using hp)
  simpa using this
 have hbase : Holds P imm w e (List.replicate n (ofVal zv)) ((Array.range (n * szT P e)).map ((if n * szT P e = 0 then #[] else zv.cells)[· % (if n * szT P e = 0 then #[] else zv.cells).size]!)) := by
  rcases hz1 with rfl | ⟨_, h2⟩
  ·intro i x hx; simp at hx
  ·by_cases hn0 : n * szT P e = 0
   ·have : n = 0 := by
     rcases Nat.mul_eq_zero.1 hn0 with h | h
     ·exact h
     ·omega
    subst this
    intro i x hx; simp at hx
   ·simpa [hn0] using h2
 obtain ⟨cells', hf, hs, hh⟩ := fill_holds (P := P) (e := e) (n := n) parts.toList (List.replicate n (ofVal zv)) _ (by simp) (by simp) hbase ht hlt' hokp
 rw [hpl] at hf
 obtain ⟨M', hM'⟩ := newO_some hsome w.heap.size
 have hcap : n ≤ maxLen := by
  have : n ≤ n * szT P e := Nat.le_mul_of_pos_right _ hpos
  simp only [maxLen]; omega
 have hS := (Step.refl hI hi).newO (d := d) (e := e) (cap := n) (cur := cells') hok hs hcap (by
  have : ∀ (l : List (Nat × V)) (xs : List V), (l.foldl (fun (l : List V) p => l.set p.1 p.2) xs).length = xs.length := by
   intro l; induction l with
   | nil => intro xs; rfl
   | cons x l ih => intro xs; simp [List.foldl_cons, ih]
  rw [this]; simp) hh hM'
 have hlen : ((parts.toList.map fun (i, x) => (i, evV t x)).foldl (fun (l : List V) p => l.set p.1 p.2) (List.replicate n (ofVal zv))).length = n := by
  have : ∀ (l : List (Nat × V)) (xs : List V), (l.foldl (fun (l : List V) p => l.set p.1 p.2) xs).length = xs.length := by
   intro l; induction l with
   | nil => intro xs; rfl
   | cons x l ih => intro xs; simp [List.foldl_cons, ih]
  rw [this]; simp
 refine ⟨.value (.slice (some ⟨w.heap.size, 0, none⟩) n n), _, .msl d [] (some w.heap.size) n n, M', imm, w.alloc (.cells cells' e), ?_, .inl rfl, ⟨w.heap.size, rfl, hM'⟩, .msl .., hS⟩
 have hbig : ¬ n * szT P e > 2 ^ 24 := by omega
 simp only [execOp, ho, Instr.buildSlice, Sem.run_bind, run_underlying hu, Result.andThen_ok, run_sizeOf_of hti, hbig, if_false, Sem.run_pure]
 split
 ·rename_i h0
  simp only [if_pos h0] at hf
  simp only [Sem.run_bind, Sem.run_pure, Result.andThen_ok]
  rw [hf]
  simp [newRow, newObj, Sem.run, Result.andThen]
 ·rename_i h0
  simp only [if_neg h0] at hf
  simp only [Sem.run_bind, Sem.run_pure, Result.andThen_ok, run_zero hti hzv]
  rw [hf]
  simp [newRow, newObj, Sem.run, Result.andThen]
end
end Go.Proofs.YtkdolbffabmemaaGreatDoor
