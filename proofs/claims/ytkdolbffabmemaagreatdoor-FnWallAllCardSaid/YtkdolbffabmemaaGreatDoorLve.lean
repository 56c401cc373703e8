/-
 The machine of values against the model: operations that leave memory as it is.
-/
import Derived.Test.YtkdolbffabmemaaGreatDoorLvd
namespace Go.Proofs.YtkdolbffabmemaaGreatDoor
open Go.RowKit
set_option linter.unusedSimpArgs false
set_option linter.unusedVariables false
section
variable {P : Program} {imm : Nat → Prop} {w : World} {M : Mem} {t : Nat → V} {a : Act} {o : Oper}
theorem opOk_move (x : Operand) (ho : o.op = .move x) (hI : Inv (szT P) imm w M) (hi : ∀ g, imm g → g < w.heap.size) (ht : Tm imm w t a) : Ok P (det (evV t x) M) o a imm w M :=
 Ok.quiet hI hi (v := a.eval x) (by simp [execOp, ho]) ⟨rfl, rfl⟩ (ht.eval x)
theorem Rp.bool_inv {b : Bool} {v : Value} (h : Rp imm w (.bool b) v) : v = .bool b := by cases h; rfl
theorem Rp.int_inv {k : IntKind} {n : Int} {v : Value} (h : Rp imm w (.int k n) v) : v = .int k n := by cases h; rfl
theorem Rp.str_inv {s : ByteArray} {v : Value} (h : Rp imm w (.str s) v) : v = .string s := by cases h; rfl
theorem Rp.ptr_inv {s : Nat} {q : Path} {i j g k : Nat} {v : Value} (h : Rp imm w (.ptr s q i j g k) v) : v = .pointer (some ⟨g, i * k + j, none⟩) := by cases h; rfl
theorem Rp.msl_inv {s : Nat} {q : Path} {γ : Option Nat} {l cap : Nat} {v : Value} (h : Rp imm w (.msl s q γ l cap) v) : v = .slice (γ.map fun g => ⟨g, 0, none⟩) l cap := by cases h; rfl
theorem Rp.msl_any {s s' : Nat} {q q' : Path} {γ : Option Nat} {l cap : Nat} {v : Value} (h : Rp imm w (.msl s q γ l cap) v) : Rp imm w (.msl s' q' γ l cap) v := by cases h; exact .msl ..
theorem Rp.ptr_any {s s' : Nat} {q q' : Path} {i j g k : Nat} {v : Value} (h : Rp imm w (.ptr s q i j g k) v) : Rp imm w (.ptr s' q' i j g k) v := by cases h; exact .ptr ..
theorem opOk_pick (c x y : Operand) (ho : o.op = .pick c x y) {b : Bool} (hc : evV t c = .bool b) (hI : Inv (szT P) imm w M) (hi : ∀ g, imm g → g < w.heap.size) (ht : Tm imm w t a) :
  Ok P (det (if b then evV t x else evV t y) M) o a imm w M := by
 have h1 := (hc ▸ ht.eval c : Rp imm w (.bool b) _).bool_inv
 refine Ok.quiet hI hi (v := if b then a.eval x else a.eval y) (by cases b <;> simp [execOp, ho, h1, asBool]) ⟨rfl, rfl⟩ ?_
 cases b
 ·exact ht.eval y
 ·exact ht.eval x
theorem opOk_nilCheck_ptr (x : Operand) (ho : o.op = .nilCheck x) {s : Nat} {q : Path} {i j g k : Nat} (hx : evV t x = .ptr s q i j g k) (hI : Inv (szT P) imm w M) (hi : ∀ g, imm g → g < w.heap.size) (ht : Tm imm w t a) :
  Ok P (det (.ptr s q i j g k) M) o a imm w M := by
 have h1 := (hx ▸ ht.eval x : Rp imm w (.ptr s q i j g k) _)
 exact Ok.quiet hI hi (v := a.eval x) (by rw [h1.ptr_inv]; simp [execOp, ho, h1.ptr_inv]) ⟨rfl, rfl⟩ h1
theorem opOk_nilCheck_eptr (x : Operand) (ho : o.op = .nilCheck x) {cs : List V} (hx : evV t x = .eptr cs) (hI : Inv (szT P) imm w M) (hi : ∀ g, imm g → g < w.heap.size) (ht : Tm imm w t a) :
  Ok P (det (.eptr cs) M) o a imm w M := by
 have h1 := (hx ▸ ht.eval x : Rp imm w (.eptr cs) _)
 refine Ok.quiet hI hi (v := a.eval x) ?_ ⟨rfl, rfl⟩ h1
 cases he : a.eval x with
 | pointer p =>
  rw [he] at h1
  cases h1
  simp [execOp, ho, he]
 | _ => rw [he] at h1; cases h1
theorem Rp.eptr_drop {cs : List V} {v : Value} (h : Rp imm w (.eptr cs) v) (n : Nat) : ∃ g off, v = .pointer (some ⟨g, off, none⟩) ∧ Rp imm w (.eptr (cs.drop n)) (.pointer (some ⟨g, off + n, none⟩)) := by
 cases h with
 | eptr cs g off cur t fr f hi hg hc h =>
  refine ⟨g, off, rfl, .eptr _ g (off + n) cur t fr (fun j => f (n + j)) hi hg (fun j c hj => ?_) (fun j c hj => ?_)⟩
  ·rw [List.getElem?_drop] at hj
   rw [Nat.add_assoc]; exact hc _ c hj
  ·rw [List.getElem?_drop] at hj
   exact h _ c hj
theorem add_off (g off n : Nat) : (⟨g, off, none⟩ : Addr).add n = ⟨g, off + n, none⟩ := by
 unfold Addr.add; split <;> simp_all
theorem offT_und {s : TypeId} {f off : Nat} {ft : TypeId} (h : offT P s f = some (off, ft)) :
  ∃ fs x, P.underlying s = some (.struct fs) ∧ fs[f]? = some x ∧ x.offset = off ∧ x.type = ft ∧ szT P x.type ≠ 0 := by
 unfold offT at h
 split at h
 ·rename_i fs hu
  cases hx : fs[f]? with
  | none => simp [hx] at h
  | some x =>
   simp only [hx, Option.bind_some] at h
   split at h
   ·cases h
   ·simp at h; exact ⟨fs, x, hu, hx, h.1, h.2, ‹_›⟩
 ·cases h
theorem info_of_szT {ft : TypeId} (h : szT P ft ≠ 0) : ∃ i, P.info? ft = some i := by
 unfold szT at h
 cases hi : P.info? ft with
 | none => simp [hi] at h
 | some i => exact ⟨i, rfl⟩
theorem opOk_fieldAddr (s : TypeId) (x : Operand) (f : Nat) (ho : o.op = .fieldAddr s x f) {off : Nat} {ft : TypeId} (hf : offT P s f = some (off, ft)) (hI : Inv (szT P) imm w M) (hi : ∀ g, imm g → g < w.heap.size) (ht : Tm imm w t a)
  {r : V} (hr : (∃ s' q i j g k, evV t x = .ptr s' q i j g k ∧ r = .ptr s' q i (j + off) g k) ∨ (∃ cs, evV t x = .eptr cs ∧ r = .eptr (cs.drop off))) : Ok P (det r M) o a imm w M := by
 obtain ⟨fs, y, hu, hy, hoff, hty, hsz⟩ := offT_und hf
 obtain ⟨i', hi'⟩ := info_of_szT hsz
 have hrun : ∀ g n, a.eval x = .pointer (some ⟨g, n, none⟩) → (execOp a.eval o).run P w = .ok (.value (.pointer (some ⟨g, n + off, none⟩))) w := by
  intro g n hx
  simp [execOp, ho, hx, Instr.fieldAt, run_underlying hu, hy, Instr.sureAddr, fieldPlace, run_sizeOf_of hi', hsz, add_off, hoff, Result.andThen]
 rcases hr with ⟨s', q, i, j, g, k, hx, rfl⟩ | ⟨cs, hx, rfl⟩
 ·have h1 := (hx ▸ ht.eval x : Rp imm w (.ptr s' q i j g k) _).ptr_inv
  refine Ok.quiet hI hi (hrun _ _ h1) ⟨rfl, rfl⟩ ?_
  rw [Nat.add_assoc]; exact .ptr ..
 ·obtain ⟨g, n, h1, h2⟩ := (hx ▸ ht.eval x : Rp imm w (.eptr cs) _).eptr_drop off
  exact Ok.quiet hI hi (hrun _ _ h1) ⟨rfl, rfl⟩ h2
theorem Rp.agg_inv {cs : List V} {v : Value} (h : Rp imm w (.agg cs) v) : ∃ arr, v = .agg arr ∧ arr.size = cs.length ∧ ∀ (j : Nat) (c : V) (u : Value), cs[j]? = some c → arr[j]? = some u → Rp imm w c u := by
 cases h with
 | agg cs arr hl h => exact ⟨arr, rfl, hl, h⟩
theorem opOk_field (s : TypeId) (x : Operand) (f : Nat) (ho : o.op = .field s x f) {off : Nat} {ft : TypeId} (hf : offT P s f = some (off, ft)) (hI : Inv (szT P) imm w M) (hi : ∀ g, imm g → g < w.heap.size) (ht : Tm imm w t a)
  {cs : List V} (hx : evV t x = .agg cs) {b : Bool} (hb : aggT P ft = some b) {r : V} (hr : (b = true ∧ off + szT P ft ≤ cs.length ∧ r = .agg ((cs.drop off).take (szT P ft))) ∨ (b = false ∧ cs[off]? = some r)) : Ok P (det r M) o a imm w M := by
 obtain ⟨fs, y, hu, hy, hoff, hty, hsz⟩ := offT_und hf
 subst hty; subst hoff
 obtain ⟨arr, ha, hl, hc⟩ := (hx ▸ ht.eval x : Rp imm w (.agg cs) _).agg_inv
 have hagg := run_isAgg (t := y.type) hb
 obtain ⟨i', hi'⟩ := info_of_szT hsz
 rcases hr with ⟨rfl, hle, rfl⟩ | ⟨rfl, hr⟩
 ·refine Ok.quiet hI hi (v := .agg (arr.extract y.offset (y.offset + szT P y.type))) ?_ ⟨rfl, rfl⟩ (.agg _ _ (by simp; omega) (fun j c u hj hu' => ?_))
  ·simp [execOp, ho, ha, Instr.field, run_underlying hu, hy, asAgg, part, hagg, run_sizeOf_of hi', Result.andThen]
  ·have hjl : j < szT P y.type := by
    have := (List.getElem?_eq_some_iff.1 hj).1
    simp at this; omega
   rw [List.getElem?_take_of_lt hjl, List.getElem?_drop] at hj
   have : arr[y.offset + j]? = some u := by
    rw [Array.getElem?_extract] at hu'
    split at hu'
    ·simpa [Nat.add_comm] using hu'
    ·cases hu'
   exact hc _ c u hj this
 ·have hlt : y.offset < arr.size := by rw [hl]; exact (List.getElem?_eq_some_iff.1 hr).1
  refine Ok.quiet hI hi (v := arr[y.offset]) ?_ ⟨rfl, rfl⟩ (hc _ _ _ hr (by simp [hlt]))
  simp [execOp, ho, ha, Instr.field, run_underlying hu, hy, asAgg, part, hagg, hlt, Result.andThen]
theorem Rp.sl_at {es : List V} {v : Value} (h : Rp imm w (.sl es) v) {n : Nat} {x : V} (hn : es[n]? = some x) :
  ∃ g off cap, v = .slice (some ⟨g, off, none⟩) es.length cap ∧ Rp imm w (.eptr x.cells) (.pointer (some ⟨g, off + n * x.cells.length, none⟩)) := by
 cases h with
 | sl0 A c => simp at hn
 | sl es g off cap k cur t fr f hi hg hk hl hc h =>
  refine ⟨g, off, cap, rfl, ?_⟩
  rw [hl n x hn]
  exact .eptr _ g (off + n * k) cur t fr (fun j => f n j) hi hg (fun j c hj => by rw [show off + n * k + j = off + n * k + j from rfl]; exact hc n x j c hn hj) (fun j c hj => h n x j c hn hj)
theorem run_indexAt_slice {ty e : TypeId} (he : elT P ty = some e) {k : IntKind} {n : Int} {g off len cap : Nat} {i : TypeInfo} (hi : P.info? e = some i) (h0 : 0 ≤ n) (hlt : n < len) :
  (Instr.indexAt ty (.slice (some ⟨g, off, none⟩) len cap) (.int k n)).run P w = .ok (.pointer (some ⟨g, off + n.toNat * szT P e, none⟩)) w := by
 have hu := elT_und he
 simp [Instr.indexAt, asIntOf, run_underlying hu, h0, hlt, run_sizeOf_of hi, add_off, Result.andThen]
theorem run_indexAt_array {ty e : TypeId} {m : Nat} (he : arrT P ty = some (m, e)) {k : IntKind} {n : Int} {g off : Nat} {i : TypeInfo} (hi : P.info? e = some i) (h0 : 0 ≤ n) (hlt : n < m) :
  (Instr.indexAt ty (.pointer (some ⟨g, off, none⟩)) (.int k n)).run P w = .ok (.pointer (some ⟨g, off + n.toNat * szT P e, none⟩)) w := by
 have hu := arrT_und he
 simp [Instr.indexAt, asIntOf, run_underlying hu, h0, hlt, run_sizeOf_of hi, add_off, Instr.sureAddr, Result.andThen]
theorem opOk_index_sl (ty : TypeId) (x ix : Operand) (ho : o.op = .indexAddr ty x ix) {k : IntKind} {n : Int} {es : List V} {e : TypeId} (hn : evV t ix = .int k n) (hx : evV t x = .sl es) (he : elT P ty = some e)
  (h0 : 0 ≤ n) (hlt : n < es.length) (hs : (es[n.toNat]?.getD .undef).cells.length = szT P e) (hpos : 0 < szT P e) (hI : Inv (szT P) imm w M) (hi : ∀ g, imm g → g < w.heap.size) (ht : Tm imm w t a) :
  Ok P (det (.eptr ((es[n.toNat]?.getD .undef).cells)) M) o a imm w M := by
 have h1 := (hn ▸ ht.eval ix : Rp imm w (.int k n) _).int_inv
 have hl : n.toNat < es.length := by omega
 have hget : es[n.toNat]? = some es[n.toNat] := by simp [hl]
 obtain ⟨g, off, cap, h2, h3⟩ := (hx ▸ ht.eval x : Rp imm w (.sl es) _).sl_at hget
 rw [hget] at hs
 simp only [Option.getD_some] at hs
 obtain ⟨ti, hti⟩ := info_of_szT (P := P) (ft := e) (by omega)
 refine Ok.quiet hI hi (v := .pointer (some ⟨g, off + n.toNat * szT P e, none⟩)) ?_ ⟨rfl, rfl⟩ ?_
 ·simp only [execOp, ho, h1, h2, Sem.run_bind, run_indexAt_slice he hti h0 hlt]; rfl
 ·rw [hget]; simp only [Option.getD_some]; rw [← hs]; exact h3
theorem opOk_index_msl (ty : TypeId) (x ix : Operand) (ho : o.op = .indexAddr ty x ix) {k : IntKind} {n : Int} {s : Nat} {q : Path} {g l cap : Nat} {e : TypeId} (hn : evV t ix = .int k n) (hx : evV t x = .msl s q (some g) l cap) (he : elT P ty = some e)
  (h0 : 0 ≤ n) (hlt : n < l) (hpos : 0 < szT P e) (hI : Inv (szT P) imm w M) (hi : ∀ g, imm g → g < w.heap.size) (ht : Tm imm w t a) : Ok P (det (.ptr s q n.toNat 0 g (szT P e)) M) o a imm w M := by
 have h1 := (hn ▸ ht.eval ix : Rp imm w (.int k n) _).int_inv
 have h2 : a.eval x = .slice (some ⟨g, 0, none⟩) l cap := by
  exact (hx ▸ ht.eval x : Rp imm w (.msl s q (some g) l cap) _).msl_inv
 obtain ⟨ti, hti⟩ := info_of_szT (P := P) (ft := e) (by omega)
 refine Ok.quiet hI hi (v := .pointer (some ⟨g, 0 + n.toNat * szT P e, none⟩)) ?_ ⟨rfl, rfl⟩ ?_
 ·simp only [execOp, ho, h1, h2, Sem.run_bind, run_indexAt_slice he hti h0 hlt]; rfl
 ·have := Rp.ptr (imm := imm) (w := w) s q n.toNat 0 g (szT P e)
  simpa using this
theorem opOk_index_arr (ty : TypeId) (x ix : Operand) (ho : o.op = .indexAddr ty x ix) {k : IntKind} {n : Int} {m : Nat} {e : TypeId} (hn : evV t ix = .int k n) (he : arrT P ty = some (m, e))
  (h0 : 0 ≤ n) (hlt : n < m) (hpos : 0 < szT P e) (hI : Inv (szT P) imm w M) (hi : ∀ g, imm g → g < w.heap.size) (ht : Tm imm w t a)
  {r : V} (hr : (∃ s' q i j g k, evV t x = .ptr s' q i j g k ∧ r = .ptr s' q i (j + n.toNat * szT P e) g k) ∨ (∃ cs, evV t x = .eptr cs ∧ r = .eptr (cs.drop (n.toNat * szT P e)))) : Ok P (det r M) o a imm w M := by
 have h1 := (hn ▸ ht.eval ix : Rp imm w (.int k n) _).int_inv
 obtain ⟨ti, hti⟩ := info_of_szT (P := P) (ft := e) (by omega)
 have hrun : ∀ g p, a.eval x = .pointer (some ⟨g, p, none⟩) → (execOp a.eval o).run P w = .ok (.value (.pointer (some ⟨g, p + n.toNat * szT P e, none⟩))) w := by
  intro g p hx
  simp only [execOp, ho, h1, hx, Sem.run_bind, run_indexAt_array he hti h0 hlt]; rfl
 rcases hr with ⟨s', q, i, j, g, k', hx, rfl⟩ | ⟨cs, hx, rfl⟩
 ·have h2 := (hx ▸ ht.eval x : Rp imm w (.ptr s' q i j g k') _).ptr_inv
  refine Ok.quiet hI hi (hrun _ _ h2) ⟨rfl, rfl⟩ ?_
  rw [Nat.add_assoc]; exact .ptr ..
 ·obtain ⟨g, p, h2, h3⟩ := (hx ▸ ht.eval x : Rp imm w (.eptr cs) _).eptr_drop (n.toNat * szT P e)
  exact Ok.quiet hI hi (hrun _ _ h2) ⟨rfl, rfl⟩ h3
theorem opOk_index_str (ty : TypeId) (x ix : Operand) (ho : o.op = .index ty x ix) {k : IntKind} {n : Int} {s : ByteArray} (hn : evV t ix = .int k n) (hx : evV t x = .str s) (he : strT P ty = true)
  (h0 : 0 ≤ n) (hlt : n < s.size) (hI : Inv (szT P) imm w M) (hi : ∀ g, imm g → g < w.heap.size) (ht : Tm imm w t a) : Ok P (det (.int .u8 ((s[n.toNat]?.getD 0).toNat)) M) o a imm w M := by
 have h1 := (hn ▸ ht.eval ix : Rp imm w (.int k n) _).int_inv
 have h2 := (hx ▸ ht.eval x : Rp imm w (.str s) _).str_inv
 have hu := strT_und he
 have hl : n.toNat < s.size := by omega
 have hg : s[n.toNat]? = some s[n.toNat] := by simp [hl]
 refine Ok.quiet hI hi (v := .int .u8 s[n.toNat].toNat) ?_ ⟨rfl, rfl⟩ (by rw [hg]; exact .int ..)
 simp [execOp, ho, h1, h2, Instr.index, asIntOf, run_underlying hu, h0, hg, Result.andThen]
theorem opOk_index_agg (ty : TypeId) (x ix : Operand) (ho : o.op = .index ty x ix) {k : IntKind} {n : Int} {cs : List V} {len : Nat} {e : TypeId} (hn : evV t ix = .int k n) (hx : evV t x = .agg cs) (he : arrT P ty = some (len, e))
  (h0 : 0 ≤ n) (hlt : n < len) (hpos : 0 < szT P e) {b : Bool} (hb : aggT P e = some b) (hI : Inv (szT P) imm w M) (hi : ∀ g, imm g → g < w.heap.size) (ht : Tm imm w t a) {r : V}
  (hr : (b = true ∧ n.toNat * szT P e + szT P e ≤ cs.length ∧ r = .agg ((cs.drop (n.toNat * szT P e)).take (szT P e))) ∨ (b = false ∧ cs[n.toNat * szT P e]? = some r)) : Ok P (det r M) o a imm w M := by
 have h1 := (hn ▸ ht.eval ix : Rp imm w (.int k n) _).int_inv
 obtain ⟨arr, ha, hl, hc⟩ := (hx ▸ ht.eval x : Rp imm w (.agg cs) _).agg_inv
 have hu := arrT_und he
 have hagg := run_isAgg (t := e) hb
 obtain ⟨i', hi'⟩ := info_of_szT (P := P) (ft := e) (by omega)
 rcases hr with ⟨rfl, hle, rfl⟩ | ⟨rfl, hr⟩
 ·refine Ok.quiet hI hi (v := .agg (arr.extract (n.toNat * szT P e) (n.toNat * szT P e + szT P e))) ?_ ⟨rfl, rfl⟩ (.agg _ _ (by simp; omega) (fun j c u hj hu' => ?_))
  ·simp [execOp, ho, h1, ha, Instr.index, asIntOf, run_underlying hu, h0, hlt, part, hagg, run_sizeOf_of hi', Result.andThen]
  ·have hjl : j < szT P e := by
    have := (List.getElem?_eq_some_iff.1 hj).1
    simp at this; omega
   rw [List.getElem?_take_of_lt hjl, List.getElem?_drop] at hj
   have : arr[n.toNat * szT P e + j]? = some u := by
    rw [Array.getElem?_extract] at hu'
    split at hu'
    ·simpa [Nat.add_comm] using hu'
    ·cases hu'
   exact hc _ c u hj this
 ·have hlt' : n.toNat * szT P e < arr.size := by rw [hl]; exact (List.getElem?_eq_some_iff.1 hr).1
  refine Ok.quiet hI hi (v := arr[n.toNat * szT P e]) ?_ ⟨rfl, rfl⟩ (hc _ _ _ hr (by simp [hlt']))
  simp [execOp, ho, h1, ha, Instr.index, asIntOf, run_underlying hu, h0, hlt, part, hagg, run_sizeOf_of hi', hlt', Result.andThen]
theorem opOk_makeFunc (f : Fn) (first cap : Array Operand) (ho : o.op = .makeFunc f first cap) (hI : Inv (szT P) imm w M) (hi : ∀ g, imm g → g < w.heap.size) (ht : Tm imm w t a) :
  Ok P (det (.fn f (first.toList.map (evV t)) (cap.toList.map (evV t))) M) o a imm w M := by
 have key : ∀ (xs : Array Operand) (j : Nat) (c : V) (u : Value), (xs.toList.map (evV t))[j]? = some c → (xs.map a.eval)[j]? = some u → Rp imm w c u := by
  intro xs j c u hc hu
  simp [Option.map_eq_some_iff] at hc hu
  obtain ⟨x, hx, rfl⟩ := hc
  obtain ⟨y, hy, rfl⟩ := hu
  rw [hx] at hy; cases hy
  exact ht.eval x
 exact Ok.quiet hI hi (v := .func f (first.map a.eval) (cap.map a.eval)) (by simp [execOp, ho, Instr.makeFunc]) ⟨rfl, rfl⟩ (.fn _ _ _ _ _ (by simp) (by simp) (key first) (key cap))
theorem Rp.tuple_inv {cs : List V} {v : Value} (h : Rp imm w (.tuple cs) v) : ∃ arr, v = .tuple arr ∧ arr.size = cs.length ∧ ∀ (j : Nat) (c : V) (u : Value), cs[j]? = some c → arr[j]? = some u → Rp imm w c u := by
 cases h with
 | tuple cs arr hl h => exact ⟨arr, rfl, hl, h⟩
theorem opOk_extract (x : Operand) (n : Nat) (ho : o.op = .extract x n) {vs : List V} {v : V} (hx : evV t x = .tuple vs) (hv : vs[n]? = some v) (hI : Inv (szT P) imm w M) (hi : ∀ g, imm g → g < w.heap.size) (ht : Tm imm w t a) :
  Ok P (det v M) o a imm w M := by
 obtain ⟨arr, ha, hl, hc⟩ := (hx ▸ ht.eval x : Rp imm w (.tuple vs) _).tuple_inv
 have hlt : n < arr.size := by rw [hl]; exact (List.getElem?_eq_some_iff.1 hv).1
 refine Ok.quiet hI hi (v := arr[n]) ?_ ⟨rfl, rfl⟩ (hc n v _ hv (by simp [hlt]))
 simp [execOp, ho, ha, Instr.extract, hlt]
theorem opOk_unOp (op : UnOp) (ty : TypeId) (x : Operand) (ho : o.op = .unOp op ty x) {v : V} (hv : unV op (evV t x) = some v) (hI : Inv (szT P) imm w M) (hi : ∀ g, imm g → g < w.heap.size) (ht : Tm imm w t a) :
  Ok P (det v M) o a imm w M := by
 have hx := ht.eval x
 unfold unV at hv
 split at hv
 ·rename_i b hb
  rw [hb] at hx
  cases hv
  exact Ok.quiet hI hi (v := .bool !b) (by simp [execOp, ho, hx.bool_inv, Op.unary]) ⟨rfl, rfl⟩ (.bool _)
 ·rename_i k n hb
  rw [hb] at hx
  cases hv
  exact Ok.quiet hI hi (v := .int k (k.wrap (0 - n))) (by simp [execOp, ho, hx.int_inv, Op.unary, Op.intArith]) ⟨rfl, rfl⟩ (.int ..)
 ·cases hv
theorem opOk_convert (s d : TypeId) (x : Operand) (ho : o.op = .convert s d x) {k k' k2 : IntKind} {n : Int} (hx : evV t x = .int k n) (hd : intT P d = some k') (hs : intT P s = some k2) (hI : Inv (szT P) imm w M) (hi : ∀ g, imm g → g < w.heap.size) (ht : Tm imm w t a) :
  Ok P (det (.int k' (k'.wrap n)) M) o a imm w M := by
 have h1 := (hx ▸ ht.eval x : Rp imm w (.int k n) _).int_inv
 have hu := intT_und hd
 have hu2 := intT_und hs
 exact Ok.quiet hI hi (v := .int k' (k'.wrap n)) (by simp [execOp, ho, h1, convert, run_underlying hu, run_underlying hu2, Conv.intToInt, Result.andThen]) ⟨rfl, rfl⟩ (.int ..)
theorem opOk_binOp (op : BinOp) (ty ty2 : TypeId) (x y : Operand) (ho : o.op = .binOp op ty x y ty2) {v : V} (hv : binV op (evV t x) (evV t y) = some v) (hI : Inv (szT P) imm w M) (hi : ∀ g, imm g → g < w.heap.size) (ht : Tm imm w t a) :
  Ok P (det v M) o a imm w M := by
 have hx := ht.eval x
 have hy := ht.eval y
 unfold binV at hv
 split at hv
 ·rename_i k n k' m h1 h2
  rw [h1] at hx
  rw [h2] at hy
  have e1 := hx.int_inv
  have e2 := hy.int_inv
  have hguard : (eqGuard op ty x y (.int k n) (.int k' m)).run P w = .ok () w := by cases op <;> simp [eqGuard]
  split at hv
  ·split at hv
   ·cases hv
    rename_i hm
    refine Ok.quiet hI hi (v := .int k (k.wrap (n * 2 ^ (min m.toNat k.bits)))) ?_ ⟨rfl, rfl⟩ (.int ..)
    simp [execOp, ho, e1, e2, hguard, binOp, Op.shift, Int.not_lt.2 hm, Result.andThen]
   ·cases hv
  ·split at hv
   ·cases hv
    rename_i hm
    refine Ok.quiet hI hi (v := .int k (n.fdiv (2 ^ (min m.toNat k.bits)))) ?_ ⟨rfl, rfl⟩ (.int ..)
    simp [execOp, ho, e1, e2, hguard, binOp, Op.shift, Int.not_lt.2 hm, Result.andThen]
   ·cases hv
  ·split at hv
   ·rename_i hs1 hs2 hk
    subst hk
    cases op <;> simp [intOp] at hv <;> (try exact absurd rfl hs1) <;> (try exact absurd rfl hs2)
    case quo => obtain ⟨h0, rfl⟩ := hv; exact Ok.quiet hI hi (v := .int k _) (by simp [execOp, ho, e1, e2, hguard, binOp, Op.intDiv, h0, Result.andThen]) ⟨rfl, rfl⟩ (.int ..)
    case rem => obtain ⟨h0, rfl⟩ := hv; exact Ok.quiet hI hi (v := .int k _) (by simp [execOp, ho, e1, e2, hguard, binOp, Op.intDiv, h0, Result.andThen]) ⟨rfl, rfl⟩ (.int ..)
    all_goals subst hv
    case add => exact Ok.quiet hI hi (v := .int k _) (by simp [execOp, ho, e1, e2, hguard, binOp, Op.intArith, Result.andThen]) ⟨rfl, rfl⟩ (.int ..)
    case sub => exact Ok.quiet hI hi (v := .int k _) (by simp [execOp, ho, e1, e2, hguard, binOp, Op.intArith, Result.andThen]) ⟨rfl, rfl⟩ (.int ..)
    case mul => exact Ok.quiet hI hi (v := .int k _) (by simp [execOp, ho, e1, e2, hguard, binOp, Op.intArith, Result.andThen]) ⟨rfl, rfl⟩ (.int ..)
    case and => exact Ok.quiet hI hi (v := .int k _) (by simp only [execOp, ho, e1, e2, hguard, binOp, Op.intBits, Result.andThen, Sem.run_bind]; simp) ⟨rfl, rfl⟩ (.int ..)
    case or => exact Ok.quiet hI hi (v := .int k _) (by simp only [execOp, ho, e1, e2, hguard, binOp, Op.intBits, Result.andThen, Sem.run_bind]; simp) ⟨rfl, rfl⟩ (.int ..)
    case xor => exact Ok.quiet hI hi (v := .int k _) (by simp only [execOp, ho, e1, e2, hguard, binOp, Op.intBits, Result.andThen, Sem.run_bind]; simp) ⟨rfl, rfl⟩ (.int ..)
    case andNot => exact Ok.quiet hI hi (v := .int k _) (by simp only [execOp, ho, e1, e2, hguard, binOp, Op.intBits, Result.andThen, Sem.run_bind]; simp) ⟨rfl, rfl⟩ (.int ..)
    case eql => exact Ok.quiet hI hi (v := .bool _) (by simp only [execOp, ho, e1, e2, hguard, binOp, Op.intCmp, Result.andThen, Sem.run_bind]; simp) ⟨rfl, rfl⟩ (.bool ..)
    case neq => exact Ok.quiet hI hi (v := .bool _) (by simp only [execOp, ho, e1, e2, hguard, binOp, Op.intCmp, Result.andThen, Sem.run_bind]; simp) ⟨rfl, rfl⟩ (.bool ..)
    case lss => exact Ok.quiet hI hi (v := .bool _) (by simp only [execOp, ho, e1, e2, hguard, binOp, Op.intCmp, Result.andThen, Sem.run_bind]; simp) ⟨rfl, rfl⟩ (.bool ..)
    case leq => exact Ok.quiet hI hi (v := .bool _) (by simp only [execOp, ho, e1, e2, hguard, binOp, Op.intCmp, Result.andThen, Sem.run_bind]; simp) ⟨rfl, rfl⟩ (.bool ..)
    case gtr => exact Ok.quiet hI hi (v := .bool _) (by simp only [execOp, ho, e1, e2, hguard, binOp, Op.intCmp, Result.andThen, Sem.run_bind]; simp) ⟨rfl, rfl⟩ (.bool ..)
    case geq => exact Ok.quiet hI hi (v := .bool _) (by simp only [execOp, ho, e1, e2, hguard, binOp, Op.intCmp, Result.andThen, Sem.run_bind]; simp) ⟨rfl, rfl⟩ (.bool ..)
   ·cases hv
 ·rename_i s1 s2 h1 h2
  rw [h1] at hx
  rw [h2] at hy
  have e1 := hx.str_inv
  have e2 := hy.str_inv
  have hguard : (eqGuard op ty x y (.string s1) (.string s2)).run P w = .ok () w := by cases op <;> simp [eqGuard]
  split at hv
  ·cases hv
   exact Ok.quiet hI hi (v := .bool _) (by simp only [execOp, ho, e1, e2, hguard, binOp, Op.stringOp, Result.andThen, Sem.run_bind]; simp) ⟨rfl, rfl⟩ (.bool ..)
  ·cases hv
   exact Ok.quiet hI hi (v := .bool _) (by simp only [execOp, ho, e1, e2, hguard, binOp, Op.stringOp, Result.andThen, Sem.run_bind]; simp) ⟨rfl, rfl⟩ (.bool ..)
  ·cases hv
 ·cases hv
theorem boolT_und {P : Program} {t : TypeId} (h : boolT P t = true) : P.underlying t = some .bool := by
 unfold boolT at h
 split at h <;> simp_all
theorem opOk_binE (op : BinOp) (ty ty2 : TypeId) (x y : Operand) (ho : o.op = .binOp op ty x y ty2) {v : V} (hv : binE P op ty (evV t x) (evV t y) = some v) (hI : Inv (szT P) imm w M) (hi : ∀ g, imm g → g < w.heap.size) (ht : Tm imm w t a) :
  Ok P (det v M) o a imm w M := by
 unfold binE at hv
 split at hv
 ·rename_i b1 b2 h1 h2
  have e1 := (h1 ▸ ht.eval x : Rp imm w (.bool b1) _).bool_inv
  have e2 := (h2 ▸ ht.eval y : Rp imm w (.bool b2) _).bool_inv
  have hguard : (eqGuard op ty x y (.bool b1) (.bool b2)).run P w = .ok () w := by cases op <;> simp [eqGuard]
  split at hv
  ·rename_i hb
   have hu := boolT_und hb
   split at hv
   ·cases hv
    refine Ok.quiet hI hi (v := .bool _) ?_ ⟨rfl, rfl⟩ (.bool _)
    simp only [execOp, ho, e1, e2, hguard, Result.andThen, Sem.run_bind]
    rw [run_eql_bool w ty b1 b2 hu]
    simp
   ·cases hv
    refine Ok.quiet hI hi (v := .bool _) ?_ ⟨rfl, rfl⟩ (.bool _)
    simp only [execOp, ho, e1, e2, hguard, Result.andThen, Sem.run_bind, binOp]
    rw [run_equal_bool w ty b1 b2 hu]
    simp
   ·cases hv
  ·cases hv
 ·exact opOk_binOp op ty ty2 x y ho hv hI hi ht
theorem opOk_len (c : Call) (ty : TypeId) (x : Operand) (ho : o.op = .call c) (hc : c.callee = .builtin .len) (ha : c.args.toList = [x]) (hty : c.argTypes.toList = [ty]) {n : Nat}
  (hn : (∃ s, evV t x = .str s ∧ strT P ty = true ∧ n = s.size) ∨ (∃ e, elT P ty = some e ∧ (∀ s, evV t x ≠ .str s) ∧ lenV M (evV t x) = some n)) (hI : Inv (szT P) imm w M) (hi : ∀ g, imm g → g < w.heap.size) (ht : Tm imm w t a) :
  Ok P (det (.int .i64 n) M) o a imm w M := by
 have ha' : c.args = #[x] := by apply Array.toList_inj.1; simpa using ha
 have hty' : c.argTypes = #[ty] := by apply Array.toList_inj.1; simpa using hty
 have hx := ht.eval x
 refine Ok.quiet hI hi (v := .int .i64 n) ?_ ⟨rfl, rfl⟩ (.int ..)
 rcases hn with ⟨s, h1, h2, rfl⟩ | ⟨e, h1, h2, h3⟩
 ·rw [h1] at hx
  simp [execOp, ho, resolve, hc, ha', hty', invoke, builtin, Builtin.len_, hx.str_inv, run_underlying (strT_und h2), goInt, Result.andThen]
 ·have hu := elT_und h1
  cases hv : evV t x <;> rw [hv] at h3 hx h2 <;> simp [lenV] at h3
  case str s => exact absurd rfl (h2 s)
  case sl es =>
   subst h3
   cases hxx : a.eval x <;> rw [hxx] at hx <;> cases hx <;> simp [execOp, ho, resolve, hc, ha', hty', invoke, builtin, Builtin.len_, hxx, run_underlying hu, goInt, Result.andThen]
  case nilsl =>
   subst h3
   cases hxx : a.eval x <;> rw [hxx] at hx <;> cases hx <;> simp [execOp, ho, resolve, hc, ha', hty', invoke, builtin, Builtin.len_, hxx, run_underlying hu, goInt, Result.andThen]
  case msl s q γ l cap =>
   subst h3
   cases hxx : a.eval x <;> rw [hxx] at hx <;> cases hx <;> simp [execOp, ho, resolve, hc, ha', hty', invoke, builtin, Builtin.len_, hxx, run_underlying hu, goInt, Result.andThen]
theorem opOk_max (c : Call) (hi' : Bool) (x y : Operand) (ho : o.op = .call c) (hc : c.callee = .builtin (if hi' then .max else .min)) (ha : c.args.toList = [x, y]) {v : V} (hv : maxV hi' (evV t x) (evV t y) = some v)
  (hI : Inv (szT P) imm w M) (hi : ∀ g, imm g → g < w.heap.size) (ht : Tm imm w t a) : Ok P (det v M) o a imm w M := by
 have ha' : c.args = #[x, y] := by apply Array.toList_inj.1; simpa using ha
 have hx := ht.eval x
 have hy := ht.eval y
 cases hex : evV t x <;> rw [hex] at hv hx <;> try (simp [maxV] at hv; done)
 cases hey : evV t y <;> rw [hey] at hv hy <;> try (simp [maxV] at hv; done)
 rename_i k n k' m
 simp only [maxV, Option.some.injEq] at hv
 subst hv
 have ex := hx.int_inv
 have ey := hy.int_inv
 refine Ok.quiet hI hi (v := .int k (if hi' then (if m > n then m else n) else (if m < n then m else n))) ?_ ⟨rfl, rfl⟩ (.int ..)
 cases hi'
 ·simp only [Bool.false_eq_true, if_false] at hc ⊢
  simp [execOp, ho, resolve, hc, ha', invoke, builtin, Builtin.min_, Builtin.min2, ex, ey, Result.andThen]
 ·simp only [if_true] at hc ⊢
  simp [execOp, ho, resolve, hc, ha', invoke, builtin, Builtin.max_, Builtin.max2, ex, ey, Result.andThen]
end
end Go.Proofs.YtkdolbffabmemaaGreatDoor
