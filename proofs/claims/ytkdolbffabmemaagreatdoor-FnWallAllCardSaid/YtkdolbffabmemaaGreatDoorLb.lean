/-
 Contracts and plain laws.
-/
import Derived.Test.YtkdolbffabmemaaGreatDoorLa
import Derived.Test.YtkdolbffabmemaaGreatDoorLvx
set_option linter.unusedSimpArgs false
set_option linter.unusedVariables false
set_option linter.unusedSectionVars false
namespace Go.Proofs.YtkdolbffabmemaaGreatDoor
section
open Go.RowKit
section
variable {P : Program} {imm : Nat → Prop} {w w' : World}
theorem Fc.frozen {f : FuncId} {args : List V} {e : TypeId} {n : Nat} {es : List V} (h : Fc P f args noM fun r m => ∃ γ cap, r = .msl 100 [] γ n cap ∧ m = noM.set 100 (.own e γ cap es)) (hn : n = es.length) : Fp P f args (.sl (es.map V.fz)) := by
 subst hn
 refine ⟨fun imm w vals hG hI hi hs hv => (h.fn imm w vals hG hI hi hs hv).mono ?_, h.go⟩
 rintro e' w' ⟨v, r, m, imm', rfl, ⟨γ, cap, rfl, rfl⟩, hr, hS⟩
 cases hr
 obtain ⟨h1, h2, h3⟩ := hS.inv.freeze (o := 100) (e := e) (γ := γ) (cap := cap) (es := es) (by simp [Mem.set])
 refine ⟨_, _, noM, _, rfl, ⟨rfl, rfl⟩, h2, ⟨inv_no, fun g hg => hg.elim (hS.lt g) (fun hb => (h3 g hb).1), hS.size, hS.os, hS.tape, hS.output, fun g hg hno => ⟨(hS.block g hg hno).1, ?_⟩, fun g hg => absurd hg not_owns_no⟩⟩
 constructor
 ·rintro (h | h)
  ·exact (hS.block g hg hno).2.1 h
  ·rcases hS.owns g (h3 g h).2 with h | h
   ·exact absurd h not_owns_no
   ·omega
 ·exact fun h => .inl ((hS.block g hg hno).2.2 h)
end
def pureT (l : List (FuncId × V)) : Table := fun f _ _ => (l.lookup f).map fun v r m => r = v ∧ m = noM
theorem allp_take {α : Type} {p : α → Bool} {l : List α} {k : Nat} {a : α} (h : l[k]? = some a) (hk : (l.take k).all p = true) (ha : p a = true) : (l.take (k + 1)).all p = true := by
 rw [take_get h, List.all_append, hk]; simp [ha]
theorem sorted_fp (zs : List Int) (hl : zs.length < 2 ^ 40) : Fp Tryz.prog 142 [valuesV zs] (intsV (sorted zs)) := by
 have := (sorted_fn zs hl).frozen (by simp [sorted])
 rwa [fzs_int] at this
structure Exe where
 fr : List Int
 od : List (List Int)
def Exe.V (x : Exe) : V := .agg [.sl (x.fr.map (V.int .i64)), .sl (x.od.map intsV)]
theorem Exe.V_eq (x : Exe) : x.V = .agg [.sl (x.fr.map (V.int .i64)), .sl (x.od.map intsV)] := rfl
structure Exe.small (x : Exe) : Prop where
 fr : x.fr.length < 2 ^ 40
 od : x.od.length < 2 ^ 40
 row : ∀ r ∈ x.od, r.length < 2 ^ 40
def frOk (ds : List Do) (q : Do × Int) : Bool := if q.1.reads then q.2 == -1 || (writersOf ds q.1.p).contains q.2 else q.2 == -2
def odOk (ds : List Do) (q : List Int × Nat) : Bool := sorted q.1 == writersOf ds q.2
def fits (s : Sc) (x : Exe) : Bool := decide (x.fr.length = s.es.length) && decide (x.od.length = 3) && (s.ds.zip x.fr).all (frOk s.ds) && x.od.zipIdx.all (odOk s.ds)
theorem allp_no {α : Type} {p : α → Bool} {l : List α} {k : Nat} {a : α} (h : l[k]? = some a) (ha : p a = false) : l.all p = false := by
 rw [List.all_eq_false]; exact ⟨a, List.mem_of_getElem? h, by rw [ha]; simp⟩
theorem fits_fn (s : Sc) (x : Exe) (hs : s.ds.length < 2 ^ 20) (he : s.es.length = s.ds.length) (hx : x.small) : Fp Tryz.prog 115 [s.V, x.V] (.bool (fits s x)) := by
  obtain ⟨h1, h2, h3⟩ := hx
  refine Fc.start (S := [13, 19]) Tryz.func115 Tryz.ntmps115 Tryz.results115 rfl (by decide) rfl (by kernel_rfl) ?_
  cases hl : ((x.fr.length : Int) != s.es.length)
  rotate_left
  · simp (disch := omega) only [push_cast, go_sem, zA, simprocAttr, Sc.V_eq, Exe.V_eq, hl]
    have : ¬ x.fr.length = s.es.length := fun h => by rw [h] at hl; simp at hl
    simp [fits, this]
  cases ho : ((x.od.length : Int) != 3)
  rotate_left
  · simp (disch := omega) only [push_cast, go_sem, zA, simprocAttr, Sc.V_eq, Exe.V_eq, hl, ho]
    have : ¬ x.od.length = 3 := fun h => by rw [h] at ho; simp at ho
    simp [fits, this]
  have hl' : x.fr.length = s.ds.length := by have : (x.fr.length : Int) = s.es.length := by simpa using hl
                                             omega
  have ho' : x.od.length = 3 := by have : (x.od.length : Int) = 3 := by simpa using ho
                                   omega
  have hfit : fits s x = ((s.ds.zip x.fr).all (frOk s.ds) && x.od.zipIdx.all (odOk s.ds)) := by simp [fits, hl', he, ho']
  simp (disch := omega) only [push_cast, go_sem, zA, simprocAttr, Sc.V_eq, Exe.V_eq, hl, ho]
  intro g1 g2
  refine Sat.loop (σ := Nat) (fun k => upd (upd (upd (upd (upd noT 2 (.ptr 2 [] 0 0 g1 3)) 3 (.ptr 3 [] 0 0 g2 2)) 24 (.sl (x.fr.map (V.int .i64)))) 25 (.int .i64 x.fr.length)) 26 (.int .i64 k))
    (fun _ => (noM.set 2 (.own 55 (some g1) 1 [.agg [.sl (s.p.map thrV), .sl (s.es.map Evt.V), .sl (s.ds.map Do.V)]])).set 3 (.own 61 (some g2) 1 [.agg [.sl (x.fr.map (V.int .i64)), .sl (x.od.map intsV)]]))
    (fun k => k ≤ x.fr.length ∧ ((s.ds.zip x.fr).take k).all (frOk s.ds) = true) (fun k => x.fr.length - k) 0 (by simp) ?_ ?_
  · (refine zB ?_; repeat (first | exact zC | exact zD | refine zE (by decide) ?_ | refine zF ?_ ?_ | refine zG ?_ ?_)) <;> (try simp (disch := omega) only [push_cast, go_sem, zA, simprocAttr])
  rintro k ⟨hk, hall⟩ J hJ
  refine Sat.of (S := [19]) (by kernel_rfl) ?_
  rcases Nat.lt_or_ge k x.fr.length with hlt | hge
  · obtain ⟨d, hd⟩ : ∃ d, s.ds[k]? = some d := ⟨_, List.getElem?_eq_getElem (by omega)⟩
    obtain ⟨f, hf⟩ : ∃ f, x.fr[k]? = some f := ⟨_, List.getElem?_eq_getElem hlt⟩
    have hz : (s.ds.zip x.fr)[k]? = some (d, f) := by simp [List.getElem?_zip_eq_some, hd, hf]
    have hkd : k < s.ds.length := by omega
    have bad : frOk s.ds (d, f) = false → fits s x = false := fun h => by rw [hfit, allp_no hz h]; rfl
    simp (disch := omega) only [push_cast, go_sem, zA, simprocAttr, hd, hf, hlt, hkd, Do.V_eq]
    intro g3
    refine callR.pure (reads_fn d) rfl rfl ?_
    have next : frOk s.ds (d, f) = true → ((s.ds.zip x.fr).take (k + 1)).all (frOk s.ds) = true := allp_take hz hall
    have hn : k + 1 ≤ x.fr.length := by omega
    have hm : x.fr.length - (k + 1) < x.fr.length - k := by omega
    cases hr : d.reads
    · cases hf2 : (f != -2)
      · simp (disch := omega) only [push_cast, go_sem, zA, simprocAttr, hf2]
        refine hJ (k + 1) _ _ ⟨hn, next (by simp only [bne, Bool.not_eq_false'] at hf2; simp [frOk, hr, hf2])⟩ hm ?_
        (refine zB ?_; repeat (first | exact zC | exact zD | refine zE (by decide) ?_ | refine zF ?_ ?_ | refine zG ?_ ?_)) <;> (try simp (disch := omega) only [push_cast, go_sem, zA, simprocAttr])
      · simp (disch := omega) only [push_cast, go_sem, zA, simprocAttr, hf2]
        rw [bad (by simp only [bne, Bool.not_eq_true'] at hf2; simp [frOk, hr, hf2])]
    · cases hf1 : (f != -1)
      · simp (disch := omega) only [push_cast, go_sem, zA, simprocAttr, hf1]
        refine hJ (k + 1) _ _ ⟨hn, next (by simp only [bne, Bool.not_eq_false'] at hf1; simp [frOk, hr, hf1])⟩ hm ?_
        (refine zB ?_; repeat (first | exact zC | exact zD | refine zE (by decide) ?_ | refine zF ?_ ?_ | refine zG ?_ ?_)) <;> (try simp (disch := omega) only [push_cast, go_sem, zA, simprocAttr])
      · simp (disch := omega) only [push_cast, go_sem, zA, simprocAttr, hf1]
        refine callR.pure (writers_fn s d.p hs) rfl rfl ?_
        simp (disch := omega) only [push_cast, go_sem, zA, simprocAttr]
        refine callR.pure (contains_fn _ f (by have := wrs_le s.ds d.p s.ds.length; unfold writersOf; omega)) rfl rfl ?_
        cases hc : (writersOf s.ds d.p).contains f
        · simp (disch := omega) only [push_cast, go_sem, zA, simprocAttr]
          rw [bad (by simp only [bne, Bool.not_eq_true'] at hf1; simp only [frOk, hr, hf1, hc, if_true]; rfl)]
        · simp (disch := omega) only [push_cast, go_sem, zA, simprocAttr]
          refine hJ (k + 1) _ _ ⟨hn, next (by simp only [frOk, hr, hc, if_true, Bool.or_true])⟩ hm ?_
          (refine zB ?_; repeat (first | exact zC | exact zD | refine zE (by decide) ?_ | refine zF ?_ ?_ | refine zG ?_ ?_)) <;> (try simp (disch := omega) only [push_cast, go_sem, zA, simprocAttr])
  · have : k = x.fr.length := by omega
    subst this
    have hall1 : (s.ds.zip x.fr).all (frOk s.ds) = true := by rwa [List.take_of_length_le (by simp; omega)] at hall
    simp (disch := omega) only [push_cast, go_sem, zA, simprocAttr]
    refine Sat.of (S := [19]) (by kernel_rfl) ?_
    simp (disch := omega) only [push_cast, go_sem, zA, simprocAttr]
    refine Sat.loop (σ := Nat) (fun k => upd (upd (upd (upd (upd noT 2 (.ptr 2 [] 0 0 g1 3)) 3 (.ptr 3 [] 0 0 g2 2)) 56 (.sl (x.od.map intsV))) 57 (.int .i64 x.od.length)) 58 (.int .i64 k))
      (fun _ => (noM.set 2 (.own 55 (some g1) 1 [.agg [.sl (s.p.map thrV), .sl (s.es.map Evt.V), .sl (s.ds.map Do.V)]])).set 3 (.own 61 (some g2) 1 [.agg [.sl (x.fr.map (V.int .i64)), .sl (x.od.map intsV)]]))
      (fun k => k ≤ x.od.length ∧ (x.od.zipIdx.take k).all (odOk s.ds) = true) (fun k => x.od.length - k) 0 (by simp) ?_ ?_
    · (refine zB ?_; repeat (first | exact zC | exact zD | refine zE (by decide) ?_ | refine zF ?_ ?_ | refine zG ?_ ?_)) <;> (try simp (disch := omega) only [push_cast, go_sem, zA, simprocAttr])
    clear hJ
    rintro k ⟨hk, hall⟩ J hJ
    refine Sat.of (S := []) (by kernel_rfl) ?_
    rcases Nat.lt_or_ge k x.od.length with hlt | hge
    · obtain ⟨row, hd⟩ : ∃ d, x.od[k]? = some d := ⟨_, List.getElem?_eq_getElem hlt⟩
      have hz : x.od.zipIdx[k]? = some (row, k) := by simp [hd]
      have hrow := h3 row (List.mem_of_getElem? hd)
      have hn : k + 1 ≤ x.od.length := by omega
      have hm : x.od.length - (k + 1) < x.od.length - k := by omega
      simp (disch := omega) only [push_cast, go_sem, zA, simprocAttr, hd, hlt, intsV_eq]
      refine Sat.drawnE [] [] [1, 2, 3, 5, 6] (pureT [(143, valuesV row), (142, intsV (sorted row)), (113, intsV (writersOf s.ds k)), (141, .bool (sorted row == writersOf s.ds k))]) (by kernel_rfl) (by kernel_rfl) ?_
      simp (disch := omega) only [push_cast, go_sem, zA, simprocAttr]
      refine runD_pure rfl (values_fn row) rfl rfl ?_ ?_
      · rfl
      simp (disch := omega) only [push_cast, go_sem, zA, simprocAttr]
      refine runD_pure rfl (sorted_fp row hrow) rfl rfl ?_ ?_
      · rfl
      simp (disch := omega) only [push_cast, go_sem, zA, simprocAttr]
      refine runD_pure rfl (writers_fn s k hs) rfl rfl ?_ ?_
      · rfl
      simp (disch := omega) only [push_cast, go_sem, zA, simprocAttr]
      refine runD_pure rfl (equal_fn _ _ (by simp only [sorted, List.length_mergeSort]; exact hrow) (by have := wrs_le s.ds k s.ds.length; unfold writersOf; omega)) rfl rfl ?_ ?_
      · rfl
      cases hc : (sorted row == writersOf s.ds k)
      · simp (disch := omega) only [push_cast, go_sem, zA, simprocAttr]
        rw [hfit, allp_no hz (show odOk s.ds (row, k) = false from hc), Bool.and_false]
      · simp (disch := omega) only [push_cast, go_sem, zA, simprocAttr]
        refine hJ (k + 1) _ _ ⟨hn, allp_take hz hall (show odOk s.ds (row, k) = true from hc)⟩ hm ?_
        (refine zB ?_; repeat (first | exact zC | exact zD | refine zE (by decide) ?_ | refine zF ?_ ?_ | refine zG ?_ ?_)) <;> (try simp (disch := omega) only [push_cast, go_sem, zA, simprocAttr])
    · have : k = x.od.length := by omega
      subst this
      have hall2 : x.od.zipIdx.all (odOk s.ds) = true := by rwa [List.take_of_length_le (by simp)] at hall
      simp (disch := omega) only [push_cast, go_sem, zA, simprocAttr]
      refine Sat.of (S := []) (by kernel_rfl) ?_
      simp (disch := omega) only [push_cast, go_sem, zA, simprocAttr]
      rw [hfit, hall1, hall2]; rfl
end
section
open Go.RowKit
def lastRd (ds : List Do) : Nat → Nat
 | 0 => 0
 | a + 1 => match ds[a]? with | some d => if d.reads then a else lastRd ds a | none => lastRd ds a
theorem lastRd_spec {ds : List Do} : ∀ {a : Nat}, (∃ r d, r < a ∧ ds[r]? = some d ∧ d.reads = true) → lastRd ds a < a ∧ (∃ d, ds[lastRd ds a]? = some d ∧ d.reads = true) ∧ ∀ j d, lastRd ds a < j → j < a → ds[j]? = some d → d.reads = false
 | 0, ⟨r, d, h, _⟩ => absurd h (by omega)
 | a + 1, ⟨r, d, h1, h2, h3⟩ => by
  unfold lastRd
  cases ha : ds[a]? with
  | none =>
   have hra : r < a := by
    rcases Nat.lt_or_ge r a with h | h
    ·exact h
    ·have : r = a := by omega
     subst this; rw [ha] at h2; cases h2
   obtain ⟨k1, k2, k3⟩ := lastRd_spec ⟨r, d, hra, h2, h3⟩
   refine ⟨by dsimp only; omega, k2, fun j d' h4 h5 h6 => ?_⟩
   rcases Nat.lt_or_ge j a with h | h
   ·exact k3 j d' h4 h h6
   ·have : j = a := by omega
    subst this; rw [ha] at h6; cases h6
  | some d1 =>
   dsimp only
   cases hr : d1.reads
   ·have hra : r < a := by
     rcases Nat.lt_or_ge r a with h | h
     ·exact h
     ·have : r = a := by omega
      subst this; rw [ha] at h2; cases h2; rw [hr] at h3; cases h3
    obtain ⟨k1, k2, k3⟩ := lastRd_spec ⟨r, d, hra, h2, h3⟩
    simp only [Bool.false_eq_true, if_false]
    refine ⟨by omega, k2, fun j d' h4 h5 h6 => ?_⟩
    rcases Nat.lt_or_ge j a with h | h
    ·exact k3 j d' h4 h h6
    ·have : j = a := by omega
     subst this; rw [ha] at h6; cases h6; exact hr
   ·simp only [if_true]
    exact ⟨by omega, ⟨d1, ha, hr⟩, fun j d' h4 h5 => by omega⟩
def valI (ds : List Do) (fr : List Int) : Nat → Nat → Option Int
 | 0, _ => none
 | m + 1, a => match ds[a]? with
  | none => none
  | some d => if d.valued then some d.v else if d.k == 3 then valI ds fr m (lastRd ds a) else match fr[a]? with
   | none => none
   | some f => if f == -1 then some 0 else valI ds fr m f.toNat
def valR : Option Int → V
 | some v => .tuple [.int .i64 v, .bool true]
 | none => .tuple [.int .i64 0, .bool false]
def copyOk (ds : List Do) : Prop := ∀ (a : Nat) (d : Do), ds[a]? = some d → d.k = 3 → ∃ (r : Nat) (d' : Do), r < a ∧ ds[r]? = some d' ∧ d'.reads = true
def fromOk (ds : List Do) (fr : List Int) : Prop := ds.length ≤ fr.length ∧ ∀ (a : Nat) d (f : Int), ds[a]? = some d → fr[a]? = some f → d.reads = true → f = -1 ∨ ∃ (b : Nat) (d' : Do), f = b ∧ ds[b]? = some d' ∧ d'.writes = true
theorem value_fn (s : Sc) (x : Exe) (a : Nat) (hs : s.ds.length < 2 ^ 20) (he : s.es.length = s.ds.length) (hx : x.fr.length < 2 ^ 40) (hc : copyOk s.ds) (hf : fromOk s.ds x.fr) (ha : ∃ d, s.ds[a]? = some d ∧ d.uses = true) :
  Fp Tryz.prog 77 [s.V, x.V, .int .i64 a] (valR (valI s.ds x.fr s.ds.length a)) := by
 refine Fc.start (S := [12]) Tryz.func77 Tryz.ntmps77 Tryz.results77 rfl (by decide) rfl (by kernel_rfl) ?_
 simp (disch := omega) only [push_cast, go_sem, zA, simprocAttr, Sc.V_eq, Exe.V_eq]
 intro g1 g2
 refine Sat.loop (σ := Nat × Nat) (fun k => upd (upd (upd (upd (upd noT 3 (.ptr 3 [] 0 0 g1 3)) 4 (.ptr 4 [] 0 0 g2 2)) 11 (.int .i64 s.es.length)) 12 (.int .i64 k.1)) 2 (.int .i64 k.2))
  (fun _ => (noM.set 3 (.own 55 (some g1) 1 [.agg [.sl (s.p.map thrV), .sl (s.es.map Evt.V), .sl (s.ds.map Do.V)]])).set 4 (.own 61 (some g2) 1 [.agg [.sl (x.fr.map (V.int .i64)), .sl (x.od.map intsV)]]))
  (fun k => k.1 ≤ s.ds.length ∧ (∃ d, s.ds[k.2]? = some d ∧ d.uses = true) ∧ valI s.ds x.fr (s.ds.length - k.1) k.2 = valI s.ds x.fr s.ds.length a) (fun k => s.ds.length - k.1) (0, a) ⟨by simp, ha, rfl⟩ ?_ ?_
 ·(refine zB ?_; repeat (first | exact zC | exact zD | refine zE (by decide) ?_ | refine zF ?_ ?_ | refine zG ?_ ?_)) <;> (try simp (disch := omega) only [push_cast, go_sem, zA, simprocAttr])
 rintro ⟨k, b⟩ ⟨hk, ⟨d, hd, hu⟩, hv⟩ J hJ
 refine Sat.of (S := []) (by kernel_rfl) ?_
 simp only at hk hd hv hJ
 have hb := (List.getElem?_eq_some_iff.1 hd).1
 have hbf : b < x.fr.length := by have := hf.1; omega
 obtain ⟨f, hfb⟩ : ∃ f, x.fr[b]? = some f := ⟨_, List.getElem?_eq_getElem hbf⟩
 rcases Nat.lt_or_ge k s.ds.length with hlt | hge
 ·have hke : k < s.es.length := by omega
  obtain ⟨m, hm⟩ : ∃ m, s.ds.length - k = m + 1 := ⟨s.ds.length - k - 1, by omega⟩
  have hm2 : s.ds.length - (k + 1) = m := by omega
  rw [hm, valI, hd] at hv
  dsimp only at hv
  simp (disch := omega) only [push_cast, go_sem, zA, simprocAttr, hd, hke, hb, Do.V_eq]
  intro g3
  refine callR.pure (valued_fn d) rfl rfl ?_
  cases hvd : d.valued
  rotate_left
  ·simp (disch := omega) only [push_cast, go_sem, zA, simprocAttr, Do.V_eq]
   rw [← hv, hvd]; rfl
  rw [hvd] at hv
  simp only [Bool.false_eq_true, if_false] at hv
  cases h3 : (d.k == 3)
  rotate_left
  ·rw [h3] at hv
   simp only [if_true] at hv
   have h3' : d.k = 3 := by simpa using h3
   obtain ⟨r1, r2, r3⟩ := lastRd_spec (hc b d hd h3')
   simp (disch := omega) only [push_cast, go_sem, zA, simprocAttr, h3, Do.V_eq]
   refine callR.pure (lastRead_fn s b _ hs (by omega) r1 r2 r3) rfl rfl ?_
   simp (disch := omega) only [push_cast, go_sem, zA, simprocAttr]
   refine hJ (k + 1, lastRd s.ds b) _ _ ⟨by dsimp only; omega, ?_, by dsimp only; rw [hm2]; exact hv⟩ (by dsimp only; omega) ?_
   ·obtain ⟨d', h1, h2⟩ := r2
    exact ⟨d', h1, by simp [Do.uses, h2]⟩
   (refine zB ?_; repeat (first | exact zC | exact zD | refine zE (by decide) ?_ | refine zF ?_ ?_ | refine zG ?_ ?_)) <;> (try simp (disch := omega) only [push_cast, go_sem, zA, simprocAttr])
  ·rw [h3] at hv
   simp only [Bool.false_eq_true, if_false, hfb] at hv
   have hrd : d.reads = true := by
    revert hu hvd h3
    simp only [Do.uses, Do.reads, Do.writes, Do.valued]
    cases d.k == 1 <;> cases d.k == 2 <;> cases d.k == 3 <;> cases d.k == 5 <;> cases d.k == 6 <;> decide
   cases hf1 : (f == -1)
   ·rw [hf1] at hv
    simp only [Bool.false_eq_true, if_false] at hv
    rcases hf.2 b d f hd hfb hrd with h | ⟨c, d', rfl, h1, h2⟩
    ·rw [h] at hf1; simp at hf1
    simp (disch := omega) only [push_cast, go_sem, zA, simprocAttr, h3, hf1, hbf, hfb, Do.V_eq]
    refine hJ (k + 1, c) _ _ ⟨by dsimp only; omega, ⟨d', h1, by simp [Do.uses, h2]⟩, by dsimp only; rw [hm2, ← hv]; simp⟩ (by dsimp only; omega) ?_
    (refine zB ?_; repeat (first | exact zC | exact zD | refine zE (by decide) ?_ | refine zF ?_ ?_ | refine zG ?_ ?_)) <;> (try simp (disch := omega) only [push_cast, go_sem, zA, simprocAttr])
   ·rw [hf1] at hv
    simp (disch := omega) only [push_cast, go_sem, zA, simprocAttr, h3, hf1, hbf, hfb, Do.V_eq]
    rw [← hv]; rfl
 ·have : k = s.ds.length := by omega
  subst this
  have hke : ¬ s.ds.length < s.es.length := by omega
  simp (disch := omega) only [push_cast, go_sem, zA, simprocAttr, hke]
  refine Sat.of (S := []) (by kernel_rfl) ?_
  simp (disch := omega) only [push_cast, go_sem, zA, simprocAttr]
  rw [← hv, Nat.sub_self]; rfl
theorem mem_wrs {ds : List Do} {pl f : Int} : ∀ {k : Nat}, f ∈ wrs ds pl k → ∃ (b : Nat) (d : Do), b < k ∧ f = b ∧ ds[b]? = some d ∧ d.writes = true ∧ d.p = pl
 | 0, h => by simp [wrs] at h
 | k + 1, h => by
  simp only [wrs, List.mem_append] at h
  rcases h with h | h
  ·obtain ⟨b, d, h1, h2⟩ := mem_wrs h
   exact ⟨b, d, by omega, h2⟩
  ·split at h
   ·rename_i d hd
    split at h
    ·rename_i hw
     simp at h
     simp only [Bool.and_eq_true, beq_iff_eq] at hw
     exact ⟨k, d, by omega, h, hd, hw.1, hw.2⟩
    ·cases h
   ·cases h
theorem fromOk_of {s : Sc} {x : Exe} (he : s.es.length = s.ds.length) (h : fits s x = true) : fromOk s.ds x.fr := by
 simp only [fits, Bool.and_eq_true, decide_eq_true_eq, List.all_eq_true] at h
 obtain ⟨⟨⟨h1, _⟩, h2⟩, _⟩ := h
 refine ⟨by omega, fun a d f hd hf hr => ?_⟩
 have := h2 (d, f) (List.mem_of_getElem? (i := a) (by simp [List.getElem?_zip_eq_some, hd, hf]))
 simp only [frOk, hr, if_true, Bool.or_eq_true, beq_iff_eq, List.contains_iff_mem] at this
 rcases this with h | h
 ·exact .inl h
 ·obtain ⟨b, d', _, h3, h4, h5, _⟩ := mem_wrs h
  exact .inr ⟨b, d', h3, h4, h5⟩
def endOk (ds : List Do) (fr : List Int) (q : Do × Nat) : Bool := !q.1.uses || (valI ds fr ds.length q.2).isSome
def okX (s : Sc) (x : Exe) : Bool := fits s x && s.ds.zipIdx.all (endOk s.ds x.fr)
theorem ok_fn (s : Sc) (x : Exe) (hs : s.ds.length < 2 ^ 20) (he : s.es.length = s.ds.length) (hx : x.small) (hc : copyOk s.ds) : Fp Tryz.prog 66 [s.V, x.V] (.bool (okX s x)) := by
 refine Fc.start (S := [11]) Tryz.func66 Tryz.ntmps66 Tryz.results66 rfl (by decide) rfl (by kernel_rfl) ?_
 simp (disch := omega) only [push_cast, go_sem, zA, simprocAttr, Sc.V_eq, Exe.V_eq]
 intro g1 g2
 refine callR.pure (fits_fn s x hs he hx) rfl rfl ?_
 cases hfit : fits s x
 ·simp (disch := omega) only [push_cast, go_sem, zA, simprocAttr]
  simp [okX, hfit]
 have hf := fromOk_of he hfit
 simp (disch := omega) only [push_cast, go_sem, zA, simprocAttr]
 refine Sat.loop (σ := Nat) (fun k => upd (upd (upd (upd (upd noT 2 (.ptr 2 [] 0 0 g1 3)) 3 (.ptr 3 [] 0 0 g2 2)) 14 (.sl (s.ds.map Do.V))) 15 (.int .i64 s.ds.length)) 16 (.int .i64 k))
  (fun _ => (noM.set 2 (.own 55 (some g1) 1 [.agg [.sl (s.p.map thrV), .sl (s.es.map Evt.V), .sl (s.ds.map Do.V)]])).set 3 (.own 61 (some g2) 1 [.agg [.sl (x.fr.map (V.int .i64)), .sl (x.od.map intsV)]]))
  (fun k => k ≤ s.ds.length ∧ (s.ds.zipIdx.take k).all (endOk s.ds x.fr) = true) (fun k => s.ds.length - k) 0 (by simp) ?_ ?_
 ·(refine zB ?_; repeat (first | exact zC | exact zD | refine zE (by decide) ?_ | refine zF ?_ ?_ | refine zG ?_ ?_)) <;> (try simp (disch := omega) only [push_cast, go_sem, zA, simprocAttr])
 rintro k ⟨hk, hall⟩ J hJ
 refine Sat.of (S := []) (by kernel_rfl) ?_
 rcases Nat.lt_or_ge k s.ds.length with hlt | hge
 ·obtain ⟨d, hd⟩ : ∃ d, s.ds[k]? = some d := ⟨_, List.getElem?_eq_getElem hlt⟩
  have hz : s.ds.zipIdx[k]? = some (d, k) := by simp [hd]
  have hn : k + 1 ≤ s.ds.length := by omega
  have hm : s.ds.length - (k + 1) < s.ds.length - k := by omega
  simp (disch := omega) only [push_cast, go_sem, zA, simprocAttr, hd, hlt, Do.V_eq]
  intro g3
  refine callR.pure (uses_fn d) rfl rfl ?_
  cases hu : d.uses
  ·simp (disch := omega) only [push_cast, go_sem, zA, simprocAttr]
   refine hJ (k + 1) _ _ ⟨hn, allp_take hz hall (by simp [endOk, hu])⟩ hm ?_
   (refine zB ?_; repeat (first | exact zC | exact zD | refine zE (by decide) ?_ | refine zF ?_ ?_ | refine zG ?_ ?_)) <;> (try simp (disch := omega) only [push_cast, go_sem, zA, simprocAttr])
  ·simp (disch := omega) only [push_cast, go_sem, zA, simprocAttr]
   refine callR.pure (value_fn s x k hs he hx.fr hc hf ⟨d, hd, hu⟩) rfl rfl ?_
   cases hv : valI s.ds x.fr s.ds.length k with
   | none =>
    simp (disch := omega) only [push_cast, go_sem, zA, simprocAttr, valR]
    rw [okX, allp_no hz (show endOk s.ds x.fr (d, k) = false by simp [endOk, hu, hv]), Bool.and_false]
   | some v =>
    simp (disch := omega) only [push_cast, go_sem, zA, simprocAttr, valR]
    refine hJ (k + 1) _ _ ⟨hn, allp_take hz hall (by simp [endOk, hv])⟩ hm ?_
    (refine zB ?_; repeat (first | exact zC | exact zD | refine zE (by decide) ?_ | refine zF ?_ ?_ | refine zG ?_ ?_)) <;> (try simp (disch := omega) only [push_cast, go_sem, zA, simprocAttr])
 ·have : k = s.ds.length := by omega
  subst this
  have hall2 : s.ds.zipIdx.all (endOk s.ds x.fr) = true := by rwa [List.take_of_length_le (by simp)] at hall
  simp (disch := omega) only [push_cast, go_sem, zA, simprocAttr]
  refine Sat.of (S := []) (by kernel_rfl) ?_
  simp (disch := omega) only [push_cast, go_sem, zA, simprocAttr]
  rw [okX, hfit, hall2]; rfl
theorem thrGo_copy : ∀ {l : List Do} {r i : Bool} {j : Nat} {d : Do}, thrGo l r i = true → l[j]? = some d → d.k = 3 → r = true ∨ ∃ (j' : Nat) (d' : Do), j' < j ∧ l[j']? = some d' ∧ d'.reads = true
 | [], _, _, _, _, _, h, _ => by simp at h
 | d0 :: l, r, i, j, d, h, hd, h3 => by
  rw [thrGo] at h
  split at h
  ·cases h
  ·rename_i hw
   cases j with
   | zero =>
    simp at hd; subst hd
    left
    cases r
    ·simp [Do.wrong, h3] at hw
    ·rfl
   | succ j =>
    simp at hd
    rcases thrGo_copy h hd h3 with h1 | ⟨j', d', h1, h2, h3⟩
    ·rw [Bool.or_eq_true] at h1
     rcases h1 with h1 | h1
     ·exact .inl h1
     ·exact .inr ⟨0, d0, by omega, rfl, h1⟩
    ·exact .inr ⟨j' + 1, d', by omega, by simpa using h2, h3⟩
theorem evThr_get {t : Nat} {l : List Do} {e : Evt} : ∀ {k a : Nat}, (evThr t l k)[a]? = some e → ∃ j d, j < k ∧ l[j]? = some d ∧ e.t = t ∧ e.s = j ∧ (evThr t l j).length ≤ a
 | 0, a, h => by simp [evThr] at h
 | k + 1, a, h => by
  rw [evThr, List.getElem?_append] at h
  split at h
  ·obtain ⟨j, d, h1, h2⟩ := evThr_get h
   exact ⟨j, d, by omega, h2⟩
  ·rename_i hle
   cases hd : l[k]? with
   | none => rw [hd] at h; simp at h
   | some d =>
    rw [hd] at h
    dsimp only at h
    have hm := List.mem_of_getElem? h
    have : e.t = t ∧ e.s = k := by
     unfold evsOf at hm
     split at hm
     ·simp at hm; rcases hm with rfl | rfl <;> exact ⟨rfl, rfl⟩
     ·simp at hm; subst hm; exact ⟨rfl, rfl⟩
    exact ⟨k, d, by omega, hd, this.1, this.2, by omega⟩
theorem evPro_get {p : Prog} {e : Evt} : ∀ {i a : Nat}, (evPro p i)[a]? = some e → ∃ j l, j < i ∧ p[j]? = some l ∧ (evPro p j).length ≤ a ∧ (evThr j l l.length)[a - (evPro p j).length]? = some e
 | 0, a, h => by simp [evPro] at h
 | i + 1, a, h => by
  rw [evPro, List.getElem?_append] at h
  split at h
  ·obtain ⟨j, l, h1, h2⟩ := evPro_get h
   exact ⟨j, l, by omega, h2⟩
  ·rename_i hle
   cases hd : p[i]? with
   | none => rw [hd] at h; simp at h
   | some l =>
    rw [hd] at h
    exact ⟨i, l, by omega, hd, by omega, h⟩
theorem evThr_at {t : Nat} {l : List Do} {d : Do} : ∀ {k j : Nat}, j < k → l[j]? = some d → (evThr t l k)[(evThr t l j).length]? = some ⟨t, j, false⟩
 | 0, j, h, _ => absurd h (by omega)
 | k + 1, j, h, hd => by
  rw [evThr]
  rcases Nat.lt_or_ge j k with hj | hj
  ·have := evThr_at (t := t) hj hd
   rw [List.getElem?_append_left (List.getElem?_eq_some_iff.1 this).1]; exact this
  ·have : j = k := by omega
   subst this
   rw [List.getElem?_append_right (Nat.le_refl _), hd, Nat.sub_self]
   dsimp only [evsOf]
   split <;> rfl
theorem evPro_at {p : Prog} {l : List Do} {b : Nat} {e : Evt} : ∀ {i j : Nat}, j < i → p[j]? = some l → (evThr j l l.length)[b]? = some e → (evPro p i)[(evPro p j).length + b]? = some e
 | 0, j, h, _, _ => absurd h (by omega)
 | i + 1, j, h, hl, hb => by
  rw [evPro]
  rcases Nat.lt_or_ge j i with hj | hj
  ·have := evPro_at hj hl hb
   rw [List.getElem?_append_left (List.getElem?_eq_some_iff.1 this).1]; exact this
  ·have : j = i := by omega
   subst this
   rw [List.getElem?_append_right (by omega), hl, Nat.add_sub_cancel_left]
   exact hb
theorem events_get {p : Prog} {e : Evt} {a : Nat} (h : (events p)[a]? = some e) : ∃ i l j d, p[i]? = some l ∧ l[j]? = some d ∧ e.t = (i : Nat) ∧ e.s = (j : Nat) ∧ stepAt p e = d ∧ (evPro p i).length + (evThr i l j).length ≤ a := by
 obtain ⟨i, l, _, hl, h1, h2⟩ := evPro_get h
 obtain ⟨j, d, _, hd, h3, h4, h5⟩ := evThr_get h2
 exact ⟨i, l, j, d, hl, hd, h3, h4, by simp [stepAt, h3, h4, hl, hd], by omega⟩
theorem events_at {p : Prog} {l : List Do} {d : Do} {i j : Nat} (hl : p[i]? = some l) (hd : l[j]? = some d) : (events p)[(evPro p i).length + (evThr i l j).length]? = some ⟨i, j, false⟩ :=
 evPro_at (List.getElem?_eq_some_iff.1 hl).1 hl (evThr_at (List.getElem?_eq_some_iff.1 hd).1 hd)
theorem evThr_mono {t : Nat} {l : List Do} {d : Do} {j : Nat} (hd : l[j]? = some d) : ∀ {k : Nat}, j < k → (evThr t l j).length < (evThr t l k).length
 | 0, h => absurd h (by omega)
 | k + 1, h => by
  have : (evThr t l (j + 1)).length = (evThr t l j).length + (evsOf t j d).length := by rw [evThr, hd, List.length_append]
  have h1 : 0 < (evsOf t j d).length := by unfold evsOf; split <;> simp
  rcases Nat.lt_or_ge j k with hj | hj
  ·have h2 := evThr_mono (t := t) hd hj
   have : (evThr t l k).length ≤ (evThr t l (k + 1)).length := by rw [evThr, List.length_append]; exact Nat.le_add_right _ _
   omega
  ·have : j = k := by omega
   subst this
   omega
theorem scene_len (p : Prog) : (scene p).es.length = (scene p).ds.length := by simp [scene]
theorem scene_copy {p : Prog} (h : progOk p = true) : copyOk (scene p).ds := by
 intro a d hd h3
 have hth : ∀ l ∈ p, threadOk l = true := by
  simp only [progOk, Bool.and_eq_true, List.all_eq_true] at h
  exact h.1.1.2
 simp only [scene, List.getElem?_map, Option.map_eq_some_iff] at hd
 obtain ⟨e, he, rfl⟩ := hd
 obtain ⟨i, l, j, d, hl, hd, h1, h2, hst, hpos⟩ := events_get he
 rw [hst] at h3
 have hok := hth l (List.mem_of_getElem? hl)
 simp only [threadOk, Bool.and_eq_true] at hok
 rcases thrGo_copy hok.1 hd h3 with hf | ⟨j', d', k1, k2, k3⟩
 ·cases hf
 ·refine ⟨(evPro p i).length + (evThr i l j').length, d', ?_, ?_, k3⟩
  ·have := evThr_mono (t := i) k2 k1; omega
  ·simp only [scene, List.getElem?_map, events_at hl k2, Option.map_some]
   simp [stepAt, hl, k2]
def execOk (p : Prog) (x : Exe) : Bool := progOk p && okX (scene p) x
end
section
open Go.RowKit
def ownB (es : List Evt) (a b : Nat) : Bool := decide (a < b) && (es[a]?.getD default).t == (es[b]?.getD default).t
theorem own_fn (s : Sc) (a b : Nat) (ha : a < s.es.length) (hb : b < s.es.length) : Fp Tryz.prog 69 [s.V, .int .i64 a, .int .i64 b] (.bool (ownB s.es a b)) := by
 obtain ⟨ea, hea⟩ : ∃ e, s.es[a]? = some e := ⟨_, List.getElem?_eq_getElem ha⟩
 obtain ⟨eb, heb⟩ : ∃ e, s.es[b]? = some e := ⟨_, List.getElem?_eq_getElem hb⟩
 refine Fc.start (S := []) Tryz.func69 Tryz.ntmps69 Tryz.results69 rfl (by decide) rfl (by kernel_rfl) ?_
 simp (disch := omega) only [push_cast, go_sem, zA, simprocAttr, Sc.V_eq]
 intro g
 refine Sat.drawnE [] [] (List.range 19) (fun _ _ _ => none) (by kernel_rfl) (by kernel_rfl) ?_
 by_cases h : a < b <;> simp (disch := omega) only [push_cast, go_sem, zA, simprocAttr, h, hea, heb, ha, hb, Evt.V_eq] <;> simp [ownB, h, hea, heb]
def overB (ds : List Do) (x : Exe) (a b : Nat) : Bool :=
 !(a == b) && (ds[a]?.getD default).uses && (ds[b]?.getD default).writes && (ds[a]?.getD default).p == (ds[b]?.getD default).p &&
  decide (Lib.idxOf (x.od[(ds[b]?.getD default).p.toNat]?.getD []) (if (ds[a]?.getD default).reads then x.fr[a]?.getD 0 else a) < Lib.idxOf (x.od[(ds[b]?.getD default).p.toNat]?.getD []) b)
structure Fit (ds : List Do) (x : Exe) : Prop where
 fr : x.fr.length = ds.length
 od : x.od.length = 3
 row : ∀ r ∈ x.od, r.length < 2 ^ 40
 p : ∀ d ∈ ds, d.uses = true → 0 ≤ d.p ∧ d.p < 3
theorem over_fn (s : Sc) (x : Exe) (a b : Nat) (ha : a < s.ds.length) (hb : b < s.ds.length) (hx : Fit s.ds x) : Fp Tryz.prog 70 [s.V, x.V, .int .i64 a, .int .i64 b] (.bool (overB s.ds x a b)) := by
 obtain ⟨hfr, hod, hrow, hp⟩ := hx
 obtain ⟨da, hda⟩ : ∃ e, s.ds[a]? = some e := ⟨_, List.getElem?_eq_getElem ha⟩
 obtain ⟨db, hdb⟩ : ∃ e, s.ds[b]? = some e := ⟨_, List.getElem?_eq_getElem hb⟩
 have e1 : s.ds[a]?.getD default = da := by rw [hda]; rfl
 have e2 : s.ds[b]?.getD default = db := by rw [hdb]; rfl
 unfold overB
 rw [e1, e2]
 refine Fc.start (S := [2]) Tryz.func70 Tryz.ntmps70 Tryz.results70 rfl (by decide) rfl (by kernel_rfl) ?_
 simp (disch := omega) only [push_cast, go_sem, zA, simprocAttr, Sc.V_eq, Exe.V_eq]
 intro g4 g5
 refine Sat.drawnE [(1, 10), (4, 10), (6, 10), (9, 10), (1, 11), (4, 11), (6, 11), (9, 11), (10, 11), (6, 12), (9, 12)] [] [1, 4, 6, 9] (fun _ _ _ => none) (by kernel_rfl) (by kernel_rfl) ?_
 simp (disch := omega) only [push_cast, go_sem, zA, simprocAttr, hda, hdb, ha, hb, Do.V_eq]
 intro g9 g10
 refine Sat.of (S := []) (by kernel_rfl) ?_
 by_cases hab : a = b
 ·subst hab
  simp (disch := omega) only [push_cast, go_sem, zA, simprocAttr]
 have hab' : ((a : Int) == b) = false := by simp; omega
 have hab2 : (a == b) = false := by simp; omega
 simp (disch := omega) only [push_cast, go_sem, zA, simprocAttr, hab', Do.V_eq]
 refine callR.pure (uses_fn da) rfl rfl ?_
 cases hu : da.uses
 ·simp (disch := omega) only [push_cast, go_sem, zA, simprocAttr, hu]
 simp (disch := omega) only [push_cast, go_sem, zA, simprocAttr, hu]
 refine callR.pure (writes_fn db) rfl rfl ?_
 cases hw : db.writes
 ·simp (disch := omega) only [push_cast, go_sem, zA, simprocAttr, hw]
 cases hpp : (da.p == db.p)
 ·have hpn : (da.p != db.p) = true := by simp [bne, hpp]
  simp (disch := omega) only [push_cast, go_sem, zA, simprocAttr, hw, hpn]
 have hpn : (da.p != db.p) = false := by simp [bne, hpp]
 have hub : db.uses = true := by simp [Do.uses, hw]
 obtain ⟨p0, p1⟩ := hp db (List.mem_of_getElem? hdb) hub
 obtain ⟨pl, hpl⟩ := Int.eq_ofNat_of_zero_le p0
 obtain ⟨row, hrw⟩ : ∃ row, x.od[pl]? = some row := ⟨_, List.getElem?_eq_getElem (by omega)⟩
 have hrl := hrow row (List.mem_of_getElem? hrw)
 have hpl3 : (pl : Int) < 3 := by omega
 have hpq : (da.p != (pl : Int)) = false := by rw [← hpl]; exact hpn
 obtain ⟨z, hz⟩ : ∃ z, x.fr[a]? = some z := ⟨_, List.getElem?_eq_getElem (by omega)⟩
 have haf : a < x.fr.length := by omega
 simp (disch := omega) only [push_cast, go_sem, zA, simprocAttr, hw, hpq, hpl, hrw, hod, hpl3, intsV_eq]
 refine callR.pure (reads_fn da) rfl rfl ?_
 have hi1 := index_fn row b hrl
 cases hr : da.reads
 ·have hi2 := index_fn row a hrl
  rw [intsV_eq] at hi1 hi2
  simp (disch := omega) only [push_cast, go_sem, zA, simprocAttr, hr]
  refine callR.pure hi2 rfl rfl ?_
  simp (disch := omega) only [push_cast, go_sem, zA, simprocAttr]
  refine callR.pure hi1 rfl rfl ?_
  simp (disch := omega) only [push_cast, go_sem, zA, simprocAttr]
  simp [hab2, hpl, hrw]
 ·have hi2 := index_fn row z hrl
  rw [intsV_eq] at hi1 hi2
  simp (disch := omega) only [push_cast, go_sem, zA, simprocAttr, hr, hz, haf]
  refine callR.pure hi2 rfl rfl ?_
  simp (disch := omega) only [push_cast, go_sem, zA, simprocAttr]
  refine callR.pure hi1 rfl rfl ?_
  simp (disch := omega) only [push_cast, go_sem, zA, simprocAttr, hz]
  simp [hab2, hpl, hrw]
def looseB (da db : Do) (a b lr : Nat) (f t : Int) (ok : Bool) : Bool :=
 (da.k == 4 || da.k == 9 || db.k == 4 || db.k == 9) || (da.k == 5 || db.k == 6) || (db.k == 3 && lr == a) || ((da.k == 7 || db.k == 8) && ok && decide (f ≤ a) && decide ((b : Int) ≤ t) && (da.k == 7 || (b : Int) == t))
theorem loose_fn (s : Sc) (a b : Nat) (ha : a < s.ds.length) (hb : b < s.ds.length) (lr : Nat) (f t : Int) (ok : Bool) (da db : Do) (hda : s.ds[a]? = some da) (hdb : s.ds[b]? = some db)
  (hlr : db.k = 3 → Fp Tryz.prog 122 [s.V, .int .i64 b] (.int .i64 lr)) (hin : Fp Tryz.prog 120 [s.V, .int .i64 a] (.tuple [.int .i64 f, .int .i64 t, .bool ok])) :
  Fp Tryz.prog 118 [s.V, .int .i64 a, .int .i64 b] (.bool (looseB da db a b lr f t ok)) := by
 unfold looseB
 rw [Sc.V_eq] at hlr hin
 refine Fc.start (S := [1000]) Tryz.func118 Tryz.ntmps118 Tryz.results118 rfl (by decide) rfl (by kernel_rfl) ?_
 simp (disch := omega) only [push_cast, go_sem, zA, simprocAttr, Sc.V_eq]
 intro g3
 refine Sat.drawnE [(1, 10), (4, 10), (6, 10), (9, 10), (1, 11), (4, 11), (6, 11), (9, 11), (10, 11), (6, 12), (9, 12)] [] [1, 4, 6, 9] (fun _ _ _ => none) (by kernel_rfl) (by kernel_rfl) ?_
 simp (disch := omega) only [push_cast, go_sem, zA, simprocAttr, hda, hdb, ha, hb, Do.V_eq]
 intro g7 g8
 refine Sat.cutP (upd (upd (upd (upd (upd noT 1 (.int .i64 a)) 2 (.int .i64 b)) 3 (.ptr 3 [] 0 0 g3 3)) 7 (.ptr 7 [] 0 0 g7 3)) 8 (.ptr 8 [] 0 0 g8 3))
  (((noM.set 3 (.own 55 (some g3) 1 [.agg [.sl (s.p.map thrV), .sl (s.es.map Evt.V), .sl (s.ds.map Do.V)]])).set 7 (.own 40 (some g7) 1 [.agg [.int .i64 da.k, .int .i64 da.p, .int .i64 da.v]])).set 8 (.own 40 (some g8) 1 [.agg [.int .i64 db.k, .int .i64 db.p, .int .i64 db.v]]))
  (((da.k == 4 || da.k == 9 || db.k == 4 || db.k == 9) || (da.k == 5 || db.k == 6) || (db.k == 3 && lr == a)) = false) ?_ ?_
 ·refine Sat.of (S := []) (by kernel_rfl) ?_
  cases h1 : (da.k == 4)
  rotate_left
  ·simp (disch := omega) only [push_cast, go_sem, zA, simprocAttr, h1]
  cases h2 : (da.k == 9)
  rotate_left
  ·simp (disch := omega) only [push_cast, go_sem, zA, simprocAttr, h1, h2]
  cases h3 : (db.k == 4)
  rotate_left
  ·simp (disch := omega) only [push_cast, go_sem, zA, simprocAttr, h1, h2, h3]
  cases h4 : (db.k == 9)
  rotate_left
  ·simp (disch := omega) only [push_cast, go_sem, zA, simprocAttr, h1, h2, h3, h4]
  cases h5 : (da.k == 5)
  rotate_left
  ·simp (disch := omega) only [push_cast, go_sem, zA, simprocAttr, h1, h2, h3, h4, h5]
  cases h6 : (db.k == 6)
  rotate_left
  ·simp (disch := omega) only [push_cast, go_sem, zA, simprocAttr, h1, h2, h3, h4, h5, h6]
  cases h7 : (db.k == 3)
  ·simp (disch := omega) only [push_cast, go_sem, zA, simprocAttr, h1, h2, h3, h4, h5, h6, h7]
   (refine zB ?_; repeat (first | exact zC | exact zD | refine zE (by decide) ?_ | refine zF ?_ ?_ | refine zG ?_ ?_)) <;> (try simp (disch := omega) only [push_cast, go_sem, zA, simprocAttr])
  ·simp (disch := omega) only [push_cast, go_sem, zA, simprocAttr, h1, h2, h3, h4, h5, h6, h7]
   refine callR.pure (hlr (by simpa using h7)) rfl rfl ?_
   cases h8 : (lr == a)
   ·have h8' : ((lr : Int) == a) = false := by simp at h8 ⊢; omega
    simp (disch := omega) only [push_cast, go_sem, zA, simprocAttr, h8']
    (refine zB ?_; repeat (first | exact zC | exact zD | refine zE (by decide) ?_ | refine zF ?_ ?_ | refine zG ?_ ?_)) <;> (try simp (disch := omega) only [push_cast, go_sem, zA, simprocAttr])
   ·have h8' : ((lr : Int) == a) = true := by simp at h8 ⊢; omega
    simp (disch := omega) only [push_cast, go_sem, zA, simprocAttr, h8']
 intro he
 rw [he, Bool.false_or]
 refine Sat.of (S := []) (by kernel_rfl) ?_
 ·cases h1 : (da.k == 7) <;> cases h2 : (db.k == 8)
  ·have n1 : (da.k != 7) = true := by simp [bne, h1]
   have n2 : (db.k != 8) = true := by simp [bne, h2]
   simp (disch := omega) only [push_cast, go_sem, zA, simprocAttr, n1, n2]
  ·have n1 : (da.k != 7) = true := by simp [bne, h1]
   have n2 : (db.k != 8) = false := by simp [bne, h2]
   simp (disch := omega) only [push_cast, go_sem, zA, simprocAttr, n1, n2]
   refine callR.pure hin rfl rfl ?_
   cases ok
   ·simp (disch := omega) only [push_cast, go_sem, zA, simprocAttr]
   by_cases h3 : f ≤ a
   ·by_cases h4 : (b : Int) ≤ t
    ·simp (disch := omega) only [push_cast, go_sem, zA, simprocAttr, h1, h3, h4]
    ·simp (disch := omega) only [push_cast, go_sem, zA, simprocAttr, h1, h3, h4]
   ·simp (disch := omega) only [push_cast, go_sem, zA, simprocAttr, h3]
  all_goals
   have n1 : (da.k != 7) = false := by simp [bne, h1]
   simp (disch := omega) only [push_cast, go_sem, zA, simprocAttr, n1]
   refine callR.pure hin rfl rfl ?_
   cases ok
   ·simp (disch := omega) only [push_cast, go_sem, zA, simprocAttr]
   by_cases h3 : f ≤ a
   ·by_cases h4 : (b : Int) ≤ t
    ·simp (disch := omega) only [push_cast, go_sem, zA, simprocAttr, h1, h3, h4]
    ·simp (disch := omega) only [push_cast, go_sem, zA, simprocAttr, h1, h3, h4]
   ·simp (disch := omega) only [push_cast, go_sem, zA, simprocAttr, h3]
end
section
open Go.RowKit
def kd (ds : List Do) (k : Nat) : Int := (ds[k]?.getD default).k
def th (es : List Evt) (k : Nat) : Int := (es[k]?.getD default).t
def bkI (es : List Evt) (ds : List Do) (a : Nat) : Nat → Option Nat
 | 0 => if kd ds 0 == 7 then some 0 else none
 | k + 1 => if kd ds (k + 1) == 7 then some (k + 1) else if !(k + 1 == a) && kd ds (k + 1) == 8 then none else if th es k != th es a then none else bkI es ds a k
structure IsOut (ds : List Do) (f t : Nat) : Prop where
 le : f ≤ t
 lt : t < ds.length
 out : kd ds t = 8
 no : ∀ j, f ≤ j → j < t → kd ds j ≠ 8
def insR (a : Nat) (t : Nat) : Option Nat → V
 | none => .tuple [.int .i64 0, .int .i64 0, .bool false]
 | some f => .tuple [.int .i64 f, .int .i64 t, .bool (decide (a ≤ t))]
theorem inside_fn (s : Sc) (a t : Nat) (ha : a < s.ds.length) (hl : s.ds.length < 2 ^ 20) (hes : s.es.length = s.ds.length) (ho : ∀ f, bkI s.es s.ds a a = some f → IsOut s.ds f t) :
  Fp Tryz.prog 120 [s.V, .int .i64 a] (insR a t (bkI s.es s.ds a a)) := by
 obtain ⟨ea, hea⟩ : ∃ e, s.es[a]? = some e := ⟨_, List.getElem?_eq_getElem (by omega)⟩
 have hae : a < s.es.length := by omega
 obtain ⟨R, hR⟩ : ∃ R, bkI s.es s.ds a a = R := ⟨_, rfl⟩
 rw [hR]
 have hta : th s.es a = ea.t := by rw [th, hea]; rfl
 refine Fc.start (S := [9]) Tryz.func120 Tryz.ntmps120 Tryz.results120 rfl (by decide) rfl (by kernel_rfl) ?_
 simp (disch := omega) only [push_cast, go_sem, zA, simprocAttr, Sc.V_eq]
 intro g2
 simp (disch := omega) only [push_cast, go_sem, zA, simprocAttr, hea, hae, Evt.V_eq]
 refine Sat.loop (σ := Nat) (fun k => upd (upd (upd (upd noT 1 (.int .i64 a)) 2 (.ptr 2 [] 0 0 g2 3)) 4 (.int .i64 k)) 7 (.int .i64 ea.t)) (fun _ => noM.set 2 (.own 55 (some g2) 1 [.agg [.sl (s.p.map thrV), .sl (s.es.map Evt.V), .sl (s.ds.map Do.V)]]))
  (fun k => k ≤ a ∧ bkI s.es s.ds a k = R) (fun k => k) a ⟨Nat.le_refl _, hR⟩ ?_ ?_
 ·(refine zB ?_; repeat (first | exact zC | exact zD | refine zE (by decide) ?_ | refine zF ?_ ?_ | refine zG ?_ ?_)) <;> (try simp (disch := omega) only [push_cast, go_sem, zA, simprocAttr])
 rintro k ⟨hk, hb⟩ J hJ
 refine Sat.of (S := []) (by kernel_rfl) ?_
 obtain ⟨d, hd⟩ : ∃ d, s.ds[k]? = some d := ⟨_, List.getElem?_eq_getElem (by omega)⟩
 have hlt : k < s.ds.length := by omega
 have hkd : kd s.ds k = d.k := by rw [kd, hd]; rfl
 cases h7 : (d.k == 7)
 rotate_left
 ·have n7 : (d.k != 7) = false := by simp [bne, h7]
  have hRk : R = some k := by
   rw [← hb]
   cases k with
   | zero => rw [bkI, hkd, h7]; rfl
   | succ k => rw [bkI, hkd, h7]; rfl
  obtain ⟨o1, o2, o3, o4⟩ := ho k (hR.trans hRk)
  subst hRk
  simp (disch := omega) only [push_cast, go_sem, zA, simprocAttr, hd, hlt, Do.V_eq, n7]
  refine Sat.of (S := []) (by kernel_rfl) ?_
  simp (disch := omega) only [push_cast, go_sem, zA, simprocAttr]
  refine Sat.loop (σ := Nat) (fun j => upd (upd (upd (upd noT 1 (.int .i64 a)) 2 (.ptr 2 [] 0 0 g2 3)) 4 (.int .i64 k)) 5 (.int .i64 j)) (fun _ => noM.set 2 (.own 55 (some g2) 1 [.agg [.sl (s.p.map thrV), .sl (s.es.map Evt.V), .sl (s.ds.map Do.V)]]))
   (fun j => k ≤ j ∧ j ≤ t) (fun j => t - j) k ⟨Nat.le_refl _, o1⟩ ?_ ?_
  ·(refine zB ?_; repeat (first | exact zC | exact zD | refine zE (by decide) ?_ | refine zF ?_ ?_ | refine zG ?_ ?_)) <;> (try simp (disch := omega) only [push_cast, go_sem, zA, simprocAttr])
  rintro j ⟨hj1, hj2⟩ J2 hJ2
  refine Sat.of (S := []) (by kernel_rfl) ?_
  obtain ⟨dj, hdj⟩ : ∃ d, s.ds[j]? = some d := ⟨_, List.getElem?_eq_getElem (by omega)⟩
  have hltj : j < s.ds.length := by omega
  have hkj : kd s.ds j = dj.k := by rw [kd, hdj]; rfl
  by_cases hjt : j = t
  ·subst hjt
   have n8 : (dj.k != 8) = false := by rw [← hkj, o3]; rfl
   simp (disch := omega) only [push_cast, go_sem, zA, simprocAttr, hdj, hltj, Do.V_eq, n8, insR]
   simp
  ·have n8 : (dj.k != 8) = true := by have := o4 j hj1 (by omega); rw [hkj] at this; simpa [bne] using this
   simp (disch := omega) only [push_cast, go_sem, zA, simprocAttr, hdj, hltj, Do.V_eq, n8]
   refine hJ2 (j + 1) _ _ ⟨by omega, by omega⟩ (by omega) ?_
   (refine zB ?_; repeat (first | exact zC | exact zD | refine zE (by decide) ?_ | refine zF ?_ ?_ | refine zG ?_ ?_)) <;> (try simp (disch := omega) only [push_cast, go_sem, zA, simprocAttr])
 have n7 : (d.k != 7) = true := by simp [bne, h7]
 cases h8 : (!(k == a) && d.k == 8)
 rotate_left
 ·have hRk : R = none := by
   rw [← hb]
   cases k with
   | zero => rw [bkI, hkd, h7]; rfl
   | succ k => rw [bkI, hkd, h7, h8]; rfl
  rw [Bool.and_eq_true] at h8
  have na : ((k : Int) != a) = true := by have := h8.1; simp at this ⊢; omega
  have h88 := h8.2
  subst hRk
  simp (disch := omega) only [push_cast, go_sem, zA, simprocAttr, hd, hlt, Do.V_eq, n7, na, h88, insR]
 ·have hbr : ∀ (K : Prop), (((k : Int) != a) = false → K) → (((k : Int) != a) = true → (d.k == 8) = false → K) → K := fun K k1 k2 => by
   cases hna : ((k : Int) != a)
   ·exact k1 hna
   ·refine k2 hna ?_
    have : (!(k == a)) = true := by simp at hna ⊢; omega
    rw [this, Bool.true_and] at h8; exact h8
  rcases Nat.eq_zero_or_pos k with hk0 | hk0
  ·have hRk : R = none := by subst hk0; rw [← hb, bkI, hkd, h7]; rfl
   subst hRk
   subst hk0
   refine hbr _ (fun na => ?_) (fun na n8 => ?_)
   all_goals
    first | simp (disch := omega) only [push_cast, go_sem, zA, simprocAttr, hd, hlt, Do.V_eq, n7, na, insR] | simp (disch := omega) only [push_cast, go_sem, zA, simprocAttr, hd, hlt, Do.V_eq, n7, na, n8, insR]
    exact ⟨by omega, fun _ => by omega⟩
  obtain ⟨k1, hk1⟩ : ∃ k1, k = k1 + 1 := ⟨k - 1, by omega⟩
  obtain ⟨ek, hek⟩ : ∃ e, s.es[k1]? = some e := ⟨_, List.getElem?_eq_getElem (by omega)⟩
  have hke : k1 < s.es.length := by omega
  have hthk : th s.es k1 = ek.t := by rw [th, hek]; rfl
  have hkm : (k : Int) - 1 = (k1 : Int) := by omega
  have hge0 : ¬ ((k1 : Int) < 0) := by omega
  have hb' : (if (ek.t != ea.t) = true then none else bkI s.es s.ds a k1) = R := by
   rw [hk1] at hb hkd h8
   rw [bkI, hkd, h7, h8, hthk, hta] at hb
   simpa using hb
  cases hth : (ek.t != ea.t)
  ·rw [hth] at hb'
   simp only [Bool.false_eq_true, if_false] at hb'
   refine hbr _ (fun na => ?_) (fun na n8 => ?_)
   ·simp (disch := omega) only [push_cast, go_sem, zA, simprocAttr, hd, hlt, Do.V_eq, Evt.V_eq, n7, na, hkm, hek, hke, hth, hge0]
    refine hJ k1 _ _ ⟨by omega, hb'⟩ (by omega) ?_
    (refine zB ?_; repeat (first | exact zC | exact zD | refine zE (by decide) ?_ | refine zF ?_ ?_ | refine zG ?_ ?_)) <;> (try simp (disch := omega) only [push_cast, go_sem, zA, simprocAttr])
   ·simp (disch := omega) only [push_cast, go_sem, zA, simprocAttr, hd, hlt, Do.V_eq, Evt.V_eq, n7, na, n8, hkm, hek, hke, hth, hge0]
    refine hJ k1 _ _ ⟨by omega, hb'⟩ (by omega) ?_
    (refine zB ?_; repeat (first | exact zC | exact zD | refine zE (by decide) ?_ | refine zF ?_ ?_ | refine zG ?_ ?_)) <;> (try simp (disch := omega) only [push_cast, go_sem, zA, simprocAttr])
  ·rw [hth] at hb'
   simp only [if_true] at hb'
   subst hb'
   refine hbr _ (fun na => ?_) (fun na n8 => ?_)
   ·simp (disch := omega) only [push_cast, go_sem, zA, simprocAttr, hd, hlt, Do.V_eq, Evt.V_eq, n7, na, hkm, hek, hke, hth, hge0, insR]
   ·simp (disch := omega) only [push_cast, go_sem, zA, simprocAttr, hd, hlt, Do.V_eq, Evt.V_eq, n7, na, n8, hkm, hek, hke, hth, hge0, insR]
def hasB (own read over apart wa rb lo : Bool) (kind : Int) : Bool :=
 if kind == 1 then own || read || over else if kind == 2 then (own && !(wa && rb)) || (read && apart) || over else (own && lo) || ((read || over) && apart)
theorem has_fn (s : Sc) (x : Exe) (kind : Int) (a b : Nat) (ha : a < s.ds.length) (hb : b < s.ds.length) (hes : s.es.length = s.ds.length) (hx : Fit s.ds x) (lo : Bool)
  (hlo : Fp Tryz.prog 118 [s.V, .int .i64 a, .int .i64 b] (.bool lo)) : Fp Tryz.prog 73 [s.V, x.V, .int .i64 kind, .int .i64 a, .int .i64 b]
   (.bool (hasB (ownB s.es a b) (x.fr[b]?.getD 0 == a) (overB s.ds x a b) (th s.es a != th s.es b) (s.ds[a]?.getD default).writes (s.ds[b]?.getD default).reads lo kind)) := by
 obtain ⟨da, hda⟩ : ∃ e, s.ds[a]? = some e := ⟨_, List.getElem?_eq_getElem ha⟩
 obtain ⟨db, hdb⟩ : ∃ e, s.ds[b]? = some e := ⟨_, List.getElem?_eq_getElem hb⟩
 obtain ⟨ea, hea⟩ : ∃ e, s.es[a]? = some e := ⟨_, List.getElem?_eq_getElem (by omega)⟩
 obtain ⟨eb, heb⟩ : ∃ e, s.es[b]? = some e := ⟨_, List.getElem?_eq_getElem (by omega)⟩
 obtain ⟨z, hz⟩ : ∃ z, x.fr[b]? = some z := ⟨_, List.getElem?_eq_getElem (by rw [hx.fr]; exact hb)⟩
 have hbf : b < x.fr.length := by rw [hx.fr]; exact hb
 have hae : a < s.es.length := by omega
 have hbe : b < s.es.length := by omega
 have hown := own_fn s a b (by omega) (by omega)
 have hover := over_fn s x a b ha hb hx
 obtain ⟨ow, how⟩ : ∃ v, ownB s.es a b = v := ⟨_, rfl⟩
 obtain ⟨ov, hov⟩ : ∃ v, overB s.ds x a b = v := ⟨_, rfl⟩
 obtain ⟨ap, hap⟩ : ∃ v, (ea.t != eb.t) = v := ⟨_, rfl⟩
 obtain ⟨rd, hrd⟩ : ∃ v, (z == (a : Int)) = v := ⟨_, rfl⟩
 have e1 : s.ds[a]?.getD default = da := by rw [hda]; rfl
 have e2 : s.ds[b]?.getD default = db := by rw [hdb]; rfl
 have e3 : th s.es a = ea.t := by rw [th, hea]; rfl
 have e4 : th s.es b = eb.t := by rw [th, heb]; rfl
 have e5 : x.fr[b]?.getD 0 = z := by rw [hz]; rfl
 rw [e1, e2, e3, e4, e5, how, hov, hap, hrd]
 rw [how] at hown
 rw [hov] at hover
 rw [Sc.V_eq] at hown hover hlo
 rw [Exe.V_eq] at hover
 refine Fc.start (S := [3]) Tryz.func73 Tryz.ntmps73 Tryz.results73 rfl (by decide) rfl (by kernel_rfl) ?_
 simp (disch := omega) only [push_cast, go_sem, zA, simprocAttr, Sc.V_eq, Exe.V_eq]
 intro g5 g6
 refine Sat.drawnE [] [] (List.range 19) (pureT [(69, .bool ow), (70, .bool ov)]) (by kernel_rfl) (by kernel_rfl) ?_
 simp (disch := omega) only [push_cast, go_sem, zA, simprocAttr]
 refine runD_pure rfl hown rfl rfl ?_ ?_
 ·rfl
 simp (disch := omega) only [push_cast, go_sem, zA, simprocAttr, hz, hbf, hrd]
 refine runD_pure rfl hover rfl rfl ?_ ?_
 ·rfl
 simp (disch := omega) only [push_cast, go_sem, zA, simprocAttr]
 refine Sat.drawnE [] [] (List.range 14) (fun _ _ _ => none) (by kernel_rfl) (by kernel_rfl) ?_
 simp (disch := omega) only [push_cast, go_sem, zA, simprocAttr, hea, heb, hae, hbe, Evt.V_eq, hap]
 refine Sat.of (S := []) (by kernel_rfl) ?_
 have hlo' : ow = ow := rfl
 cases hk1 : (kind == 1)
 rotate_left
 ·cases ow <;> cases rd <;> cases ov <;> simp (disch := omega) only [push_cast, go_sem, zA, simprocAttr, hk1, hasB]
 cases hk2 : (kind == 2)
 rotate_left
 ·cases ow
  ·cases rd <;> cases ap <;> cases ov <;> simp (disch := omega) only [push_cast, go_sem, zA, simprocAttr, hk1, hk2, hasB]
  ·simp (disch := omega) only [push_cast, go_sem, zA, simprocAttr, hk1, hk2, hda, ha, Do.V_eq]
   refine callR.pure (writes_fn da) rfl rfl ?_
   cases hw : da.writes
   ·cases rd <;> cases ap <;> cases ov <;> simp (disch := omega) only [push_cast, go_sem, zA, simprocAttr, hk1, hk2, hw, hasB]
   ·simp (disch := omega) only [push_cast, go_sem, zA, simprocAttr, hk1, hk2, hw, hdb, hb, Do.V_eq]
    refine callR.pure (reads_fn db) rfl rfl ?_
    cases hr : db.reads <;> cases rd <;> cases ap <;> cases ov <;> simp (disch := omega) only [push_cast, go_sem, zA, simprocAttr, hk1, hk2, hw, hr, hasB]
 cases ow
 ·cases rd <;> cases ap <;> cases ov <;> simp (disch := omega) only [push_cast, go_sem, zA, simprocAttr, hk1, hk2, hasB]
 ·simp (disch := omega) only [push_cast, go_sem, zA, simprocAttr, hk1, hk2]
  refine callR.pure hlo rfl rfl ?_
  cases lo <;> cases rd <;> cases ap <;> cases ov <;> simp (disch := omega) only [push_cast, go_sem, zA, simprocAttr, hk1, hk2, hasB]
end
section
open Go.RowKit
section
variable {P : Program} {M : Mem} {k : V → Mem → Prop}
theorem Fc.fzRow {f : FuncId} {args X : List V} {R' : Post} (h : Fc P f args noM R') (hR : ∀ r m, R' r m → ∃ s γ cap e es, r = .msl s [] γ es.length cap ∧ m s = some (.own e γ cap es) ∧ es.map V.fz = X) : Fp P f args (.sl X) := by
 refine ⟨fun imm w vals hG hI hi hs hv => (h.fn imm w vals hG hI hi hs hv).mono ?_, h.go⟩
 rintro e' w' ⟨v, r, m, imm', rfl, hq, hr, hS⟩
 obtain ⟨s, γ, cap, e, es, rfl, hm, rfl⟩ := hR r m hq
 cases hr
 obtain ⟨h1, h2, h3⟩ := hS.inv.freeze (o := s) (e := e) (γ := γ) (cap := cap) (es := es) hm
 refine ⟨_, _, noM, _, rfl, ⟨rfl, rfl⟩, h2, ⟨inv_no, fun g hg => hg.elim (hS.lt g) (fun hb => (h3 g hb).1), hS.size, hS.os, hS.tape, hS.output, fun g hg hno => ⟨(hS.block g hg hno).1, ?_⟩, fun g hg => absurd hg not_owns_no⟩⟩
 constructor
 ·rintro (h | h)
  ·exact (hS.block g hg hno).2.1 h
  ·rcases hS.owns g (h3 g h).2 with h | h
   ·exact absurd h not_owns_no
   ·omega
 ·exact fun h => .inl ((hS.block g hg hno).2.2 h)
theorem callR.row {f : FuncId} {xs : List V} {d n : Nat} {e : TypeId} {es : List V} (h : Fc P f xs noM fun r m => ∃ γ cap, r = .msl 100 [] γ n cap ∧ m = noM.set 100 (.own e γ cap es)) (hk : (xs.all fun v => v.key.isNone) = true) (h9 : Nat.ble xs.length 90 = true)
  (hK : ∀ γ cap, runV (some (True, det (.msl d [] γ n cap) (M.set d (.own e γ cap es)))) k .mk) : callR P f xs (some d) M k .mk := by
 refine callR.new (Q := fun r ob => ∃ γ cap, r = .msl 100 [] γ n cap ∧ ob = .own e γ cap es) ⟨fun imm w vals hG hI hi hs hv => (h.fn imm w vals hG hI hi hs hv).mono ?_, h.go⟩ hk h9 ?_
 ·rintro e' w' ⟨v, r, m, imm', h1, ⟨γ, cap, h2, h3⟩, h4, h5⟩
  exact ⟨v, r, m, imm', h1, ⟨_, ⟨γ, cap, h2, rfl⟩, h3⟩, h4, h5⟩
 ·rintro r ob ⟨γ, cap, rfl, rfl⟩
  exact hK γ cap
theorem callR.take {f : FuncId} {bs : List V} {a d l cap l' cap' : Nat} {γ γ' : Option Nat} {o o' : V} (h : Fc P f (.msl 0 [] γ l cap :: bs) (noM.set 0 o) fun r m => r = .msl 100 [] γ' l' cap' ∧ m = noM.set 100 o') (hM : M a = some o) (hk : (bs.all fun v => v.key.isNone) = true) (h9 : Nat.ble (bs.length + 1) 90 = true)
  (hK : runV (some (True, det (.msl d [] γ' l' cap') ((M.era a).set d o'))) k .mk) : callR P f (.msl a [] γ l cap :: bs) (some d) M k .mk := by
 have hk' : ((bs.map V.key).all fun x => x.isNone) = true := by rw [List.all_map]; exact hk
 refine callR.intro (F := noM.set 0 o) (R := fun r m => r = .msl 100 [] γ' l' cap' ∧ m = noM.set 100 o') (by rw [renArgs_cons, renArgs_none hk]; exact h) ?_ (Nat.le_of_ble_eq_true h9) ?_ ?_
 ·rw [List.map_cons, List.filterMap_cons]
  show (a :: (bs.map V.key).filterMap id).Nodup
  rw [keys_none hk']; simp
 ·exact Sub.set Sub.no (by simp [footM, V.key, hM])
 ·rintro r0 Mf ⟨rfl, rfl⟩
  have : mergeM M ((V.msl a [] γ l cap :: bs).map V.key) (some d) (noM.set 100 o') = (M.era a).set d o' := by
   rw [merge_eq, List.map_cons]
   have e1 : (noM.set 100 o') 100 = some o' := rfl
   have e2 : (noM.set 100 o') 0 = none := rfl
   rw [e1, mgD_some, key_msl, mg_some, e2, mg_all_none hk', MemU_none]
  rw [this]
  exact (runV_det.1 hK).2
end
@[push_cast] theorem flatC_cons {e : TypeId} {γ : Option Nat} {c : Nat} {x : V} {xs : List V} : (V.own e γ c (x :: xs)).flatC = false := by cases γ <;> cases c <;> rfl
@[push_cast] theorem flatC_snoc {e : TypeId} {γ : Option Nat} {c : Nat} {x : V} {xs : List V} : (V.own e γ c (xs ++ [x])).flatC = false := by cases xs <;> exact flatC_cons
structure RowI where
 γ : Option Nat
 c : Nat
 l : List Int
def RowI.V (x : RowI) : V := .own 3 x.γ x.c (x.l.map (V.int .i64))
theorem RowI.V_eq (x : RowI) : x.V = .own 3 x.γ x.c (x.l.map (V.int .i64)) := rfl
theorem fz_rowI (x : RowI) : x.V.fz = intsV x.l := by simp only [RowI.V, V.fz, fzs_map, fzs_int, intsV]
theorem fz_rowsI (xs : List RowI) : (xs.map RowI.V).map V.fz = (xs.map RowI.l).map intsV := by
 rw [List.map_map, List.map_map]; exact List.map_congr_left fun d _ => fz_rowI d
def perms : Nat → List Int → List (List Int)
 | 0, _ => [[]]
 | n + 1, l => (List.range l.length).flatMap fun i => (perms n (l.eraseIdx i)).map (l.getD i 0 :: ·)
def permsK (n : Nat) (l : List Int) (k : Nat) : List (List Int) := (List.range k).flatMap fun i => (perms n (l.eraseIdx i)).map (l.getD i 0 :: ·)
theorem permsK_succ (n : Nat) (l : List Int) (k : Nat) : permsK n l (k + 1) = permsK n l k ++ (perms n (l.eraseIdx k)).map (l.getD k 0 :: ·) := by
 simp [permsK, List.range_succ]
def fac : Nat → Nat
 | 0 => 1
 | n + 1 => (n + 1) * fac n
theorem perms_len : ∀ {n : Nat} {l : List Int}, l.length = n → (perms n l).length = fac n
 | 0, l, h => rfl
 | n + 1, l, h => by
  have key : ∀ k, k ≤ l.length → (permsK n l k).length = k * fac n := by
   intro k hk
   induction k with
   | zero => simp [permsK]
   | succ k ih =>
    rw [permsK_succ, List.length_append, List.length_map, ih (by omega), perms_len (n := n) (by rw [List.length_eraseIdx_of_lt (by omega)]; omega), Nat.succ_mul]
  have := key l.length (Nat.le_refl _)
  rw [h] at this
  simpa [perms, permsK, h, fac] using this
theorem permsK_len {n : Nat} {l : List Int} (h : l.length = n + 1) {k : Nat} (hk : k ≤ l.length) : (permsK n l k).length = k * fac n := by
 induction k with
 | zero => simp [permsK]
 | succ k ih =>
  rw [permsK_succ, List.length_append, List.length_map, ih (by omega), perms_len (n := n) (by rw [List.length_eraseIdx_of_lt (by omega)]; omega), Nat.succ_mul]
theorem perms_row : ∀ {n : Nat} {l row : List Int}, l.length = n → row ∈ perms n l → row.length = n
 | 0, l, row, _, h => by simp [perms] at h; subst h; rfl
 | n + 1, l, row, hl, h => by
  simp only [perms, List.mem_flatMap, List.mem_range, List.mem_map] at h
  obtain ⟨i, hi, r, hr, rfl⟩ := h
  rw [List.length_cons, perms_row (n := n) (by rw [List.length_eraseIdx_of_lt hi]; omega) hr]
theorem fac_le : ∀ {n : Nat}, n ≤ 6 → fac n ≤ 720 := by decide
theorem perms_fn : ∀ (n : Nat) (l : List Int), l.length = n → n ≤ 6 → Fp Tryz.prog 112 [intsV l] (.sl ((perms n l).map intsV)) := by
 intro n
 induction n with
 | zero =>
  intro l hl _
  obtain rfl := List.eq_nil_of_length_eq_zero hl
  refine Fc.fzRow (R' := fun r m => ∃ s γ cap e es, r = .msl s [] γ es.length cap ∧ m s = some (.own e γ cap es) ∧ es.map V.fz = [intsV []]) ?_ (fun r m h => h)
  refine Fc.start (S := [3]) Tryz.func112 Tryz.ntmps112 Tryz.results112 rfl (by decide) rfl (by kernel_rfl) ?_
  simp (disch := omega) only [push_cast, go_sem, zA, simprocAttr, intsV_eq]
  intro g
  exact ⟨_, fun _ _ h => h, 2, some g, 1, 32, [.own 0 none 0 []], rfl, by simp [Mem.set], rfl⟩
 | succ n ih =>
  intro l hl hn
  have hf6 := fac_le (n := n) (by omega)
  have hf7 : (n + 1) * fac n ≤ 720 := fac_le (n := n + 1) hn
  refine Fc.fzRow (R' := fun r m => ∃ s γ cap e es, r = .msl s [] γ es.length cap ∧ m s = some (.own e γ cap es) ∧ es.map V.fz = (perms (n + 1) l).map intsV) ?_ (fun r m h => h)
  refine Fc.start (S := [3, 14]) Tryz.func112 Tryz.ntmps112 Tryz.results112 rfl (by decide) rfl (by kernel_rfl) ?_
  have hne : ¬ ((l.length : Int) = 0) := by omega
  have hne2 : ((l.length : Int) == 0) = false := by simpa using hne
  simp (disch := omega) only [push_cast, go_sem, zA, simprocAttr, intsV_eq, hne, hne2]
  refine Sat.of (S := [14]) (by kernel_rfl) ?_
  simp (disch := omega) only [push_cast, go_sem, zA, simprocAttr]
  refine Sat.loop (σ := EvS × List RowI) (fun x => upd (upd (upd (upd (upd noT 0 (.sl (l.map (V.int .i64)))) 13 (.sl (l.map (V.int .i64)))) 14 (.int .i64 l.length)) 15 (.int .i64 x.1.k)) 3 (.msl 3 [] x.1.γ x.2.length x.1.c))
   (fun x => noM.set 3 (.own x.1.e x.1.γ x.1.c (x.2.map RowI.V)))
   (fun x => x.1.k ≤ l.length ∧ (x.1.γ = none ∨ x.1.e = 32) ∧ x.2.map RowI.l = permsK n l x.1.k) (fun x => l.length - x.1.k) (⟨0, 0, none, 0⟩, []) (by simp [permsK]) ?_ ?_
  ·(refine zB ?_; repeat (first | exact zC | exact zD | refine zE (by decide) ?_ | refine zF ?_ ?_ | refine zG ?_ ?_)) <;> (try simp (disch := omega) only [push_cast, go_sem, zA, simprocAttr])
   all_goals rfl
  rintro ⟨⟨k, e, γ, c⟩, xs⟩ ⟨hk, hγ, hxs⟩ J hJ
  refine Sat.of (S := [8]) (by kernel_rfl) ?_
  simp only at hk hγ hxs hJ
  rcases Nat.lt_or_ge k l.length with hlt | hge
  ·obtain ⟨z, hz⟩ : ∃ z, l[k]? = some z := ⟨_, List.getElem?_eq_getElem hlt⟩
   simp (disch := omega) only [push_cast, go_sem, zA, simprocAttr, hz, hlt]
   refine callR.row (clone_fn l (by omega)) rfl rfl ?_
   intro γ1 c1
   simp (disch := omega) only [push_cast, go_sem, zA, simprocAttr]
   have hdel := delete_fn l γ1 k c1 (by omega) hlt
   rw [show (((k + 1 : Nat) : Int)) = (k : Int) + 1 from rfl] at hdel
   refine callR.take hdel rfl rfl rfl ?_
   have hle : (l.eraseIdx k).length = n := by rw [List.length_eraseIdx_of_lt hlt]; omega
   rw [show l.length - 1 = (l.eraseIdx k).length by omega]
   simp (disch := omega) only [push_cast, go_sem, zA, simprocAttr]
   refine Sat.freezeT (upd (upd (upd (upd (upd (upd (upd noT 0 (.sl (l.map (V.int .i64)))) 13 (.sl (l.map (V.int .i64)))) 14 (.int .i64 l.length)) 15 (.int .i64 k)) 3 (.msl 3 [] γ xs.length c)) 5 (.int .i64 z)) 6 (.sl ((l.eraseIdx k).map (V.int .i64)))) (noM.set 3 (.own e γ c (xs.map RowI.V))) 6 (e := 3) (γ := γ1) (cap := c1) (es := (l.eraseIdx k).map (V.int .i64)) rfl ?_ ?_
   ·(refine zB ?_; repeat (first | exact zC | exact zD | refine zE (by decide) ?_ | refine zF ?_ ?_ | refine zG ?_ ?_)) <;> (try simp (disch := omega) only [push_cast, go_sem, zA, simprocAttr])
    simp only [false_and, if_false]
   refine Sat.of (S := []) (by kernel_rfl) ?_
   simp (disch := omega) only [push_cast, go_sem, zA, simprocAttr]
   refine callR.pure (ih (l.eraseIdx k) hle (by omega)) rfl rfl ?_
   simp (disch := omega) only [push_cast, go_sem, zA, simprocAttr]
   refine Sat.loop (σ := EvS × List RowI) (fun x => upd (upd (upd (upd (upd (upd (upd (upd (upd noT 0 (.sl (l.map (V.int .i64)))) 13 (.sl (l.map (V.int .i64)))) 14 (.int .i64 l.length)) 15 (.int .i64 k)) 3 (.msl 3 [] x.1.γ x.2.length x.1.c)) 5 (.int .i64 z)) 27 (.sl ((perms n (l.eraseIdx k)).map intsV))) 28 (.int .i64 (perms n (l.eraseIdx k)).length)) 29 (.int .i64 x.1.k))
    (fun x => noM.set 3 (.own x.1.e x.1.γ x.1.c (x.2.map RowI.V)))
    (fun x => x.1.k ≤ (perms n (l.eraseIdx k)).length ∧ (x.1.γ = none ∨ x.1.e = 32) ∧ x.2.map RowI.l = permsK n l k ++ ((perms n (l.eraseIdx k)).take x.1.k).map (z :: ·)) (fun x => (perms n (l.eraseIdx k)).length - x.1.k) (⟨0, e, γ, c⟩, xs) (by simp [hγ, hxs]) ?_ ?_
   ·(refine zB ?_; repeat (first | exact zC | exact zD | refine zE (by decide) ?_ | refine zF ?_ ?_ | refine zG ?_ ?_)) <;> (try simp (disch := omega) only [push_cast, go_sem, zA, simprocAttr])
   rintro ⟨⟨m, e2, γ2, c2⟩, ys⟩ ⟨hm, hγ2, hys⟩ J2 hJ2
   refine Sat.of (S := []) (by kernel_rfl) ?_
   simp only at hm hγ2 hys hJ2
   rcases Nat.lt_or_ge m (perms n (l.eraseIdx k)).length with hlt2 | hge2
   ·obtain ⟨row, hr⟩ : ∃ row, (perms n (l.eraseIdx k))[m]? = some row := ⟨_, List.getElem?_eq_getElem hlt2⟩
    have hγ2' : (γ2 = none ∨ e2 = 32) = True := by simp only [hγ2]
    have hrow := perms_row hle (List.mem_of_getElem? hr)
    have hcm : (row.length + 1 = 1 + row.length) = True := by simp [Nat.add_comm]
    have hyl : ys.length = k * fac n + m := by
     have := congrArg List.length hys
     rw [List.length_map, List.length_append, permsK_len (by omega) (by omega), List.length_map, List.length_take] at this
     omega
    have hpl : (perms n (l.eraseIdx k)).length = fac n := perms_len hle
    have hmul : k * fac n ≤ n * fac n := Nat.mul_le_mul_right _ (by omega)
    have hmul2 : (n + 1) * fac n = n * fac n + fac n := Nat.succ_mul n (fac n)
    have hyb : ys.length + 1 ≤ 720 := by generalize k * fac n = A at *; generalize n * fac n = B at *; omega
    simp (disch := omega) only [push_cast, go_sem, zA, simprocAttr, hr, hlt2, intsV_eq, hγ2', hcm]
    intro g1
    refine ⟨by omega, fun γ3 c3 _ => ?_⟩
    intro g2
    refine ⟨by omega, fun γ4 c4 _ => ?_⟩
    refine hJ2 (⟨m + 1, 32, γ4, c4⟩, ys ++ [⟨γ3, c3, z :: row⟩]) _ _ ⟨by dsimp only; omega, .inr rfl, ?_⟩ (by dsimp only; omega) ?_
    ·dsimp only
     rw [List.map_append, hys, take_get hr, List.map_append, List.append_assoc]
     rfl
    ·(refine zB ?_; repeat (first | exact zC | exact zD | refine zE (by decide) ?_ | refine zF ?_ ?_ | refine zG ?_ ?_)) <;> (try simp (disch := omega) only [push_cast, go_sem, zA, simprocAttr])
     all_goals simp [RowI.V]
   ·have : m = (perms n (l.eraseIdx k)).length := by omega
    subst this
    simp (disch := omega) only [push_cast, go_sem, zA, simprocAttr]
    refine hJ (⟨k + 1, e2, γ2, c2⟩, ys) _ _ ⟨by dsimp only; omega, hγ2, ?_⟩ (by dsimp only; omega) ?_
    ·dsimp only
     rw [hys, List.take_length, permsK_succ]
     simp [List.getD, hz]
    ·(refine zB ?_; repeat (first | exact zC | exact zD | refine zE (by decide) ?_ | refine zF ?_ ?_ | refine zG ?_ ?_)) <;> (try simp (disch := omega) only [push_cast, go_sem, zA, simprocAttr])
  ·have : k = l.length := by omega
   subst this
   simp (disch := omega) only [push_cast, go_sem, zA, simprocAttr]
   refine Sat.of (S := []) (by kernel_rfl) ?_
   simp (disch := omega) only [push_cast, go_sem, zA, simprocAttr]
   refine ⟨_, fun _ _ h => h, 2, γ, c, e, xs.map RowI.V, by rw [List.length_map], by simp [Mem.set], ?_⟩
   rw [fz_rowsI, hxs]; rfl
end
section
open Go.RowKit
def choicesOf (ds : List Do) (d : Do) : List Int := if d.reads then -1 :: writersOf ds d.p else [-2]
def fromsK (ds : List Do) : Nat → List (List Int)
 | 0 => [[]]
 | k + 1 => match ds[k]? with
  | some d => (fromsK ds k).flatMap fun h => (choicesOf ds d).map fun c => h ++ [c]
  | none => fromsK ds k
def fromsOf (ds : List Do) : List (List Int) := fromsK ds ds.length
theorem fromsK_row {ds : List Do} : ∀ {k : Nat} {r : List Int}, r ∈ fromsK ds k → r.length ≤ k
 | 0, r, h => by simp [fromsK] at h; subst h; simp
 | k + 1, r, h => by
  unfold fromsK at h
  split at h
  ·simp only [List.mem_flatMap, List.mem_map] at h
   obtain ⟨h0, h1, c, _, rfl⟩ := h
   have := fromsK_row h1
   simp; omega
  ·have := fromsK_row h; omega
theorem flatMap_len {α β : Type} {f : α → List β} {n : Nat} (hf : ∀ a, (f a).length = n) : ∀ l : List α, (l.flatMap f).length = l.length * n
 | [] => by simp
 | a :: l => by simp only [List.flatMap_cons, List.length_append, hf, flatMap_len hf l, List.length_cons, Nat.succ_mul]; omega
theorem froms_fn (s : Sc) (hs : s.ds.length < 2 ^ 20) (hB : ∀ k, k ≤ s.ds.length → (fromsK s.ds k).length < 2 ^ 30) : Fp Tryz.prog 65 [s.V] (.sl ((fromsOf s.ds).map intsV)) := by
 refine Fc.fzRow (R' := fun r m => ∃ s1 γ cap e es, r = .msl s1 [] γ es.length cap ∧ m s1 = some (.own e γ cap es) ∧ es.map V.fz = (fromsOf s.ds).map intsV) ?_ (fun r m h => h)
 refine Fc.start (S := [20]) Tryz.func65 Tryz.ntmps65 Tryz.results65 rfl (by decide) rfl (by kernel_rfl) ?_
 simp (disch := omega) only [push_cast, go_sem, zA, simprocAttr, Sc.V_eq]
 intro g1 g2
 refine Sat.loop (σ := EvS × List V) (fun x => upd (upd (upd (upd (upd noT 1 (.ptr 1 [] 0 0 g1 3)) 3 (.msl 3 [] x.1.γ x.2.length x.1.c)) 14 (.sl (s.ds.map Do.V))) 15 (.int .i64 s.ds.length)) 16 (.int .i64 x.1.k))
  (fun x => (noM.set 1 (.own 55 (some g1) 1 [.agg [.sl (s.p.map thrV), .sl (s.es.map Evt.V), .sl (s.ds.map Do.V)]])).set 3 (.own x.1.e x.1.γ x.1.c x.2))
  (fun x => x.1.k ≤ s.ds.length ∧ x.2.map V.fz = (fromsK s.ds x.1.k).map intsV) (fun x => s.ds.length - x.1.k) (⟨0, 32, some g2, 1⟩, [.own 0 none 0 []]) (by simp; rfl) ?_ ?_
 ·(refine zB ?_; repeat (first | exact zC | exact zD | refine zE (by decide) ?_ | refine zF ?_ ?_ | refine zG ?_ ?_)) <;> (try simp (disch := omega) only [push_cast, go_sem, zA, simprocAttr])
  all_goals rfl
 rintro ⟨⟨k, e0, γ9, c9⟩, vs⟩ ⟨hk, hvs⟩ J hJ
 simp only at hk hvs hJ
 rcases Nat.lt_or_ge k s.ds.length with hlt | hge
 ·refine Sat.freezeT (upd (upd (upd (upd (upd noT 1 (.ptr 1 [] 0 0 g1 3)) 3 (.sl ((fromsK s.ds k).map intsV))) 14 (.sl (s.ds.map Do.V))) 15 (.int .i64 s.ds.length)) 16 (.int .i64 k)) (noM.set 1 (.own 55 (some g1) 1 [.agg [.sl (s.p.map thrV), .sl (s.es.map Evt.V), .sl (s.ds.map Do.V)]])) 3 (e := e0) (γ := γ9) (cap := c9) (es := vs) rfl ?_ ?_
  ·(refine zB ?_; repeat (first | exact zC | exact zD | refine zE (by decide) ?_ | refine zF ?_ ?_ | refine zG ?_ ?_)) <;> (try simp (disch := omega) only [push_cast, go_sem, zA, simprocAttr])
   rw [hvs]
  refine Sat.of (S := [2006]) (by kernel_rfl) ?_
  obtain ⟨d, hd⟩ : ∃ d, s.ds[k]? = some d := ⟨_, List.getElem?_eq_getElem hlt⟩
  simp (disch := omega) only [push_cast, go_sem, zA, simprocAttr, hd, hlt, Do.V_eq]
  intro g3 g4
  have hwl : (writersOf s.ds d.p).length ≤ s.ds.length := wrs_le _ _ _
  refine Sat.cut (σ := RowI) [] (fun x => upd (upd (upd (upd (upd (upd noT 1 (.ptr 1 [] 0 0 g1 3)) 3 (.sl ((fromsK s.ds k).map intsV))) 14 (.sl (s.ds.map Do.V))) 15 (.int .i64 s.ds.length)) 16 (.int .i64 k)) 6 (.msl 6 [] x.γ x.l.length x.c))
   (fun x => (noM.set 1 (.own 55 (some g1) 1 [.agg [.sl (s.p.map thrV), .sl (s.es.map Evt.V), .sl (s.ds.map Do.V)]])).set 6 x.V) (fun x => x.l = choicesOf s.ds d) (by kernel_rfl) ?_ ?_
  ·simp (disch := omega) only [push_cast, go_sem, zA, simprocAttr, Do.V_eq]
   refine callR.pure (reads_fn d) rfl rfl ?_
   cases hr : d.reads
   ·simp (disch := omega) only [push_cast, go_sem, zA, simprocAttr]
    refine ⟨⟨some g4, 1, [-2]⟩, by simp [choicesOf, hr], ?_⟩
    (refine zB ?_; repeat (first | exact zC | exact zD | refine zE (by decide) ?_ | refine zF ?_ ?_ | refine zG ?_ ?_)) <;> (try simp (disch := omega) only [push_cast, go_sem, zA, simprocAttr])
    all_goals rfl
   ·simp (disch := omega) only [push_cast, go_sem, zA, simprocAttr, Do.V_eq]
    intro g5
    refine callR.pure (writers_fn s d.p hs) rfl rfl ?_
    simp (disch := omega) only [push_cast, go_sem, zA, simprocAttr, intsV_eq]
    refine ⟨by omega, fun γ c _ => ⟨⟨γ, c, -1 :: writersOf s.ds d.p⟩, by simp [choicesOf, hr], ?_⟩⟩
    (refine zB ?_; repeat (first | exact zC | exact zD | refine zE (by decide) ?_ | refine zF ?_ ?_ | refine zG ?_ ?_)) <;> (try simp (disch := omega) only [push_cast, go_sem, zA, simprocAttr])
    all_goals simp [RowI.V, Nat.add_comm]
  rintro ⟨γ0, c0, cs⟩ hcs
  simp only at hcs
  have hcl : cs.length ≤ s.ds.length + 1 := by
   rw [hcs]; unfold choicesOf; split <;> simp <;> omega
  rw [RowI.V_eq]
  dsimp only
  refine Sat.freezeT (upd (upd (upd (upd (upd (upd noT 1 (.ptr 1 [] 0 0 g1 3)) 3 (.sl ((fromsK s.ds k).map intsV))) 14 (.sl (s.ds.map Do.V))) 15 (.int .i64 s.ds.length)) 16 (.int .i64 k)) 6 (.sl (cs.map (V.int .i64))))
   (noM.set 1 (.own 55 (some g1) 1 [.agg [.sl (s.p.map thrV), .sl (s.es.map Evt.V), .sl (s.ds.map Do.V)]])) 6 (e := 3) (γ := γ0) (cap := c0) (es := cs.map (V.int .i64)) rfl ?_ ?_
  ·(refine zB ?_; repeat (first | exact zC | exact zD | refine zE (by decide) ?_ | refine zF ?_ ?_ | refine zG ?_ ?_)) <;> (try simp (disch := omega) only [push_cast, go_sem, zA, simprocAttr])
  refine Sat.of (S := []) (by kernel_rfl) ?_
  simp (disch := omega) only [push_cast, go_sem, zA, simprocAttr]
  have hfk : fromsK s.ds (k + 1) = (fromsK s.ds k).flatMap (fun h => cs.map fun c => h ++ [c]) := by rw [fromsK, hd, hcs]
  have hbK := hB k hk
  have hbk : (fromsK s.ds k).length * cs.length < 2 ^ 30 := by
   have := hB (k + 1) (by omega)
   rw [hfk, flatMap_len (n := cs.length) (by simp)] at this
   exact this
  refine Sat.loop (σ := EvS × List RowI) (fun x => upd (upd (upd (upd (upd (upd (upd (upd (upd noT 1 (.ptr 1 [] 0 0 g1 3)) 14 (.sl (s.ds.map Do.V))) 15 (.int .i64 s.ds.length)) 16 (.int .i64 k)) 6 (.sl (cs.map (V.int .i64)))) 29 (.sl ((fromsK s.ds k).map intsV))) 30 (.int .i64 (fromsK s.ds k).length)) 31 (.int .i64 x.1.k)) 7 (.msl 7 [] x.1.γ x.2.length x.1.c)) (fun x => (noM.set 1 (.own 55 (some g1) 1 [.agg [.sl (s.p.map thrV), .sl (s.es.map Evt.V), .sl (s.ds.map Do.V)]])).set 7 (.own x.1.e x.1.γ x.1.c (x.2.map RowI.V)))
   (fun x => x.1.k ≤ (fromsK s.ds k).length ∧ (x.1.γ = none ∨ x.1.e = 32) ∧ x.2.map RowI.l = ((fromsK s.ds k).take x.1.k).flatMap (fun h => cs.map fun c => h ++ [c])) (fun x => (fromsK s.ds k).length - x.1.k) (⟨0, 0, none, 0⟩, []) (by simp) ?_ ?_
  ·(refine zB ?_; repeat (first | exact zC | exact zD | refine zE (by decide) ?_ | refine zF ?_ ?_ | refine zG ?_ ?_)) <;> (try simp (disch := omega) only [push_cast, go_sem, zA, simprocAttr])
   all_goals rfl
  rintro ⟨⟨i, e, γ, c⟩, ys⟩ ⟨hi, hγ, hys⟩ J2 hJ2
  refine Sat.of (S := []) (by kernel_rfl) ?_
  simp only at hi hγ hys hJ2
  rcases Nat.lt_or_ge i (fromsK s.ds k).length with hlt2 | hge2
  ·obtain ⟨h, hh⟩ : ∃ h, (fromsK s.ds k)[i]? = some h := ⟨_, List.getElem?_eq_getElem hlt2⟩
   have hhl := fromsK_row (List.mem_of_getElem? hh)
   simp (disch := omega) only [push_cast, go_sem, zA, simprocAttr, hh, hlt2, intsV_eq]
   refine Sat.loop (σ := EvS × List RowI) (fun x => upd (upd (upd (upd (upd (upd (upd (upd (upd (upd (upd (upd (upd noT 1 (.ptr 1 [] 0 0 g1 3)) 14 (.sl (s.ds.map Do.V))) 15 (.int .i64 s.ds.length)) 16 (.int .i64 k)) 6 (.sl (cs.map (V.int .i64)))) 29 (.sl ((fromsK s.ds k).map intsV))) 30 (.int .i64 (fromsK s.ds k).length)) 31 (.int .i64 i)) 7 (.msl 7 [] x.1.γ x.2.length x.1.c)) 9 (.sl (h.map (V.int .i64)))) 35 (.sl (cs.map (V.int .i64)))) 36 (.int .i64 cs.length)) 37 (.int .i64 x.1.k)) (fun x => (noM.set 1 (.own 55 (some g1) 1 [.agg [.sl (s.p.map thrV), .sl (s.es.map Evt.V), .sl (s.ds.map Do.V)]])).set 7 (.own x.1.e x.1.γ x.1.c (x.2.map RowI.V)))
    (fun x => x.1.k ≤ cs.length ∧ (x.1.γ = none ∨ x.1.e = 32) ∧ x.2.map RowI.l = ((fromsK s.ds k).take i).flatMap (fun h => cs.map fun c => h ++ [c]) ++ (cs.take x.1.k).map fun c => h ++ [c]) (fun x => cs.length - x.1.k) (⟨0, e, γ, c⟩, ys) (by simp [hγ, hys]) ?_ ?_
   ·(refine zB ?_; repeat (first | exact zC | exact zD | refine zE (by decide) ?_ | refine zF ?_ ?_ | refine zG ?_ ?_)) <;> (try simp (disch := omega) only [push_cast, go_sem, zA, simprocAttr])
   rintro ⟨⟨j, e2, γ2, c2⟩, zs⟩ ⟨hj, hγ2, hzs⟩ J3 hJ3
   refine Sat.of (S := []) (by kernel_rfl) ?_
   simp only at hj hγ2 hzs hJ3
   rcases Nat.lt_or_ge j cs.length with hlt3 | hge3
   ·obtain ⟨z, hz⟩ : ∃ z, cs[j]? = some z := ⟨_, List.getElem?_eq_getElem hlt3⟩
    have hγ2' : (γ2 = none ∨ e2 = 32) = True := by simp only [hγ2]
    have hzl : zs.length = i * cs.length + j := by
     have := congrArg List.length hzs
     rw [List.length_map, List.length_append, flatMap_len (n := cs.length) (by simp), List.length_take, List.length_map, List.length_take, Nat.min_eq_left hi, Nat.min_eq_left hj] at this
     exact this
    have hm1 : (i + 1) * cs.length ≤ (fromsK s.ds k).length * cs.length := Nat.mul_le_mul_right _ (by omega)
    rw [Nat.succ_mul] at hm1
    have hzb : zs.length + 1 < 2 ^ 30 := by generalize i * cs.length = A at *; generalize (fromsK s.ds k).length * cs.length = B at *; omega
    simp (disch := omega) only [push_cast, go_sem, zA, simprocAttr, hz, hlt3]
    refine callR.row (clone_fn h (by omega)) rfl rfl ?_
    intro γ3 c3
    simp (disch := omega) only [push_cast, go_sem, zA, simprocAttr, hγ2']
    intro g5
    refine ⟨by omega, fun γ4 c4 _ => ?_⟩
    intro g6
    refine ⟨by omega, fun γ5 c5 _ => ?_⟩
    refine hJ3 (⟨j + 1, 32, γ5, c5⟩, zs ++ [⟨γ4, c4, h ++ [z]⟩]) _ _ ⟨by dsimp only; omega, .inr rfl, ?_⟩ (by dsimp only; omega) ?_
    ·dsimp only
     rw [List.map_append, hzs, take_get hz, List.map_append, List.append_assoc]
     rfl
    ·(refine zB ?_; repeat (first | exact zC | exact zD | refine zE (by decide) ?_ | refine zF ?_ ?_ | refine zG ?_ ?_)) <;> (try simp (disch := omega) only [push_cast, go_sem, zA, simprocAttr])
     all_goals simp [RowI.V]
   ·have : j = cs.length := by omega
    subst this
    simp (disch := omega) only [push_cast, go_sem, zA, simprocAttr]
    refine hJ2 (⟨i + 1, e2, γ2, c2⟩, zs) _ _ ⟨by dsimp only; omega, hγ2, ?_⟩ (by dsimp only; omega) ?_
    ·dsimp only
     rw [hzs, List.take_length, take_get hh, List.flatMap_append]
     simp
    ·(refine zB ?_; repeat (first | exact zC | exact zD | refine zE (by decide) ?_ | refine zF ?_ ?_ | refine zG ?_ ?_)) <;> (try simp (disch := omega) only [push_cast, go_sem, zA, simprocAttr])
  ·have : i = (fromsK s.ds k).length := by omega
   subst this
   rw [List.take_length, ← hfk] at hys
   simp (disch := omega) only [push_cast, go_sem, zA, simprocAttr]
   refine hJ (⟨k + 1, e, γ, c⟩, ys.map RowI.V) _ _ ⟨by dsimp only; omega, ?_⟩ (by dsimp only; omega) ?_
   ·dsimp only
    rw [fz_rowsI, hys]
   ·(refine zB ?_; repeat (first | exact zC | exact zD | refine zE (by decide) ?_ | refine zF ?_ ?_ | refine zG ?_ ?_)) <;> (try simp (disch := omega) only [push_cast, go_sem, zA, simprocAttr])
    all_goals simp
 ·have : k = s.ds.length := by omega
  subst this
  refine Sat.of (S := [20]) (by kernel_rfl) ?_
  simp (disch := omega) only [push_cast, go_sem, zA, simprocAttr]
  refine Sat.of (S := []) (by kernel_rfl) ?_
  simp (disch := omega) only [push_cast, go_sem, zA, simprocAttr]
  refine ⟨_, fun _ _ h => h, 2, γ9, c9, e0, vs, rfl, by simp [Mem.set], hvs⟩
end
section
open Go.RowKit
theorem infoR : (Tryz.prog.info? 32).map (fun i => (i.zero, i.size, i.bytes)) = some (some (.slice none 0 0), 1, 24) := by kernel_rfl
theorem clone2_zero (a : Addr) (c : Nat) (w : World) :
  Calls Tryz.prog 114 #[.slice (some a) 0 c] w fun e w' => ∃ v', e = .returned v' ∧ w'.ownsRow w.heap.size 32 1 v' 0 [] ∧ Below w.heap.size w w' := by
 obtain ⟨i0, hi, hz0, hz1, hz2⟩ := info_parts infoR
 have q22 : ∀ (w : World) (a : Option Addr) (n c n' c' : Nat), (binOp .eql 59 (.slice a n c) (.slice none n' c')).run Tryz.prog w = .ok (.bool a.isNone) w := fun w a n c n' c' => Lib.run_eql_slice_nil w _ _ a n c n' c' Tryz.underlying59
 go_enter Tryz.func114, Tryz.ntmps114
 go_wp2_with (at_builtin; refine wpList_append_own _ rfl _ _ 59 rfl w.heap.size 32 i0 (.slice none 0 0) 1 24 Tryz.underlying59 hi hz0 hz1 hz2 rfl (by decide) _ _ _ rfl (World.ownsRow_made w #[] 0 (Nat.le_refl _) (Nat.zero_le _) rfl) a 0 c [] rfl rfl (by intro j u hj; simp at hj) (by intro u hu; cases hu) (by unfold maxLen; omega) (by omega) (by simp) ?_)
 intro v' w1 hown hgrow hnil
 go_wp2
 go_ret
 exact ⟨v', rfl, by simpa using hown, ((Below.refl _ w).alloc (Nat.le_refl _) _).grown hgrow (by simp) (by intro k hk; simp [Value.ownBlock] at hk; omega)⟩
section
variable {P : Program} {imm : Nat → Prop} {w : World}
theorem Rp.plain_inv {es : List V} {v : Value} (hp : ∀ x ∈ es, plainE x) (h : Rp imm w (.sl es) v) : ∃ A c, v = .slice A es.length c ∧
  (es ≠ [] → ∃ (g off : Nat) (us : List Value), A = some ⟨g, off, none⟩ ∧ us.length = es.length ∧ (∀ (j : Nat) (u : Value), us[j]? = some u → w.cell? ⟨g, off + j, none⟩ = some u) ∧ ∀ (i : Nat) (x : V), es[i]? = some x → ∃ u, us[i]? = some u ∧ Rp imm w x u) := by
 cases h with
 | sl0 A c => exact ⟨A, c, rfl, fun h => absurd rfl h⟩
 | sl _ g off cap n cur t fr f hi hg hk hl hc hv =>
  refine ⟨_, cap, rfl, fun hne => ⟨g, off, (List.range es.length).map fun j => f j 0, rfl, by simp, fun j u hu => ?_, fun i x hx => ?_⟩⟩
  ·rw [List.getElem?_map, Option.map_eq_some_iff] at hu
   obtain ⟨j', hj', rfl⟩ := hu
   obtain ⟨hjl, rfl⟩ : j < es.length ∧ j' = j := by
    have := List.getElem?_eq_some_iff.1 hj'
    obtain ⟨h1, h2⟩ := this
    simp at h1 h2
    exact ⟨h1, h2.symm⟩
   have hx : es[j']? = some es[j'] := List.getElem?_eq_getElem hjl
   have hpx := hp _ (List.mem_of_getElem? hx)
   have hn : n = 1 := by have := hl j' _ hx; rw [hpx.1] at this; simpa using this.symm
   subst hn
   have := hc j' _ 0 es[j'] hx (by rw [hpx.1]; rfl)
   unfold World.cell?
   simp only [hg]
   simpa using this
  ·have hpx := hp _ (List.mem_of_getElem? hx)
   have hlt := (List.getElem?_eq_some_iff.1 hx).1
   exact ⟨f i 0, by rw [List.getElem?_map, List.getElem?_range hlt]; rfl, hv i x 0 x hx (by rw [hpx.1]; rfl)⟩
end
theorem plain_intsV (rows : List (List Int)) : ∀ x ∈ rows.map intsV, plainE x := by
 intro x hx; obtain ⟨z, _, rfl⟩ := List.mem_map.1 hx; exact plain_sl _
theorem clone2_fn (rows : List (List Int)) (hl : rows.length < 2 ^ 40) : Fc Tryz.prog 114 [.sl (rows.map intsV)] noM fun r m => ∃ γ cap, r = .msl 100 [] γ rows.length cap ∧ m = noM.set 100 (.own 32 γ cap (rows.map intsV)) := by
 have h0 := Fc.of_row (P := Tryz.prog) (f := 114) (args := [.sl (rows.map intsV)]) (e := 32) (es := rows.map intsV) (plain_intsV rows) szT_32 (by kernel_rfl) fun imm w vals hi hs hv => ?_
 ·rw [List.length_map] at h0; exact h0
 obtain ⟨a, rfl, ha⟩ := vals1 (P := Tryz.prog) hs hv
 obtain ⟨A, c, rfl, h⟩ := ha.plain_inv (plain_intsV rows)
 rw [List.length_map] at *
 obtain ⟨i0, hi0, hz0, hz1, hz2⟩ := info_parts infoR
 cases A with
 | none =>
  have hz : rows.map intsV = [] := by
   by_cases hz : rows.map intsV = []
   ·exact hz
   ·obtain ⟨g, off, us, h1, _⟩ := h hz; cases h1
  rw [hz]
  have hz' : rows = [] := by simpa using hz
  subst hz'
  refine (Tryz.slices_Clone_nil_f114 0 c w).mono ?_
  rintro e w' ⟨rfl, rfl⟩
  exact ⟨_, [], rfl, ⟨rfl, .inl ⟨rfl, rfl⟩⟩, by simp, Below.refl _ _⟩
 | some a =>
  by_cases hz : rows.map intsV = []
  ·have hz' : rows = [] := by simpa using hz
   subst hz'
   refine (clone2_zero a c w).mono ?_
   rintro e w' ⟨v', rfl, h1, h2⟩
   exact ⟨_, [], rfl, h1, by simp, h2⟩
  ·obtain ⟨g, off, us, h1, hu1, hu2, hu3⟩ := h hz
   cases h1
   refine (Tryz.slices_Clone_f114 i0 (.slice none 0 0) 1 24 hi0 hz0 hz1 hz2 rfl (by decide) Tryz.sizeOf32 g off rows.length c us w (by simpa using hu1) (by unfold maxLen; omega) (by omega) hu2 ?_).mono ?_
   ·intro u hu
    obtain ⟨i, hi, rfl⟩ := List.mem_iff_getElem.1 hu
    have hil : i < (rows.map intsV).length := by rw [List.length_map]; omega
    obtain ⟨u', k1, k2⟩ := hu3 i _ (List.getElem?_eq_getElem hil)
    rw [List.getElem?_eq_getElem hi] at k1
    cases k1
    exact k2.one (plain_intsV rows _ (List.getElem_mem hil)).2.2
   ·rintro e w' ⟨v', rfl, k1, _, k2⟩
    exact ⟨_, _, rfl, k1, hu3, k2⟩
end
section
open Go.RowKit
def rowsV (l : List (List Int)) : V := .sl (l.map intsV)
theorem rowsV_eq (l : List (List Int)) : rowsV l = .sl (l.map intsV) := rfl
def permsOf (l : List Int) : List (List Int) := perms l.length l
def ordersK (ds : List Do) : Nat → List (List (List Int))
 | 0 => [[]]
 | k + 1 => (ordersK ds k).flatMap fun h => (permsOf (writersOf ds k)).map fun r => h ++ [r]
def ordersOf (ds : List Do) : List (List (List Int)) := ordersK ds 3
theorem ordersK_row {ds : List Do} : ∀ {k : Nat} {r : List (List Int)}, r ∈ ordersK ds k → r.length = k
 | 0, r, h => by simp [ordersK] at h; subst h; simp
 | k + 1, r, h => by
  simp only [ordersK, List.mem_flatMap, List.mem_map] at h
  obtain ⟨h0, h1, c, _, rfl⟩ := h
  have := ordersK_row h1
  simp; omega
structure RowR where
 γ : Option Nat
 c : Nat
 l : List (List Int)
def RowR.V (x : RowR) : V := .own 32 x.γ x.c (x.l.map intsV)
theorem RowR.V_eq (x : RowR) : x.V = .own 32 x.γ x.c (x.l.map intsV) := rfl
@[push_cast] theorem fz_intsV (l : List Int) : (intsV l).fz = intsV l := by simp only [intsV, V.fz]
@[push_cast] theorem fzs_rows (l : List (List Int)) : (l.map intsV).map V.fz = l.map intsV := by rw [List.map_map]; exact List.map_congr_left fun d _ => fz_intsV d
theorem fz_rowR (x : RowR) : x.V.fz = rowsV x.l := by simp only [RowR.V, V.fz, fzs_map, fzs_rows, rowsV]
theorem fz_rowsR (xs : List RowR) : (xs.map RowR.V).map V.fz = (xs.map RowR.l).map rowsV := by
 rw [List.map_map, List.map_map]; exact List.map_congr_left fun d _ => fz_rowR d
theorem orders_fn (s : Sc) (hs : s.ds.length < 2 ^ 20) (hw : ∀ k : Nat, k < 3 → (writersOf s.ds k).length ≤ 6) (hB : ∀ k, k ≤ 3 → (ordersK s.ds k).length < 2 ^ 30) : Fp Tryz.prog 64 [s.V] (.sl ((ordersOf s.ds).map rowsV)) := by
 refine Fc.fzRow (R' := fun r m => ∃ s1 γ cap e es, r = .msl s1 [] γ es.length cap ∧ m s1 = some (.own e γ cap es) ∧ es.map V.fz = (ordersOf s.ds).map rowsV) ?_ (fun r m h => h)
 refine Fc.start (S := [17]) Tryz.func64 Tryz.ntmps64 Tryz.results64 rfl (by decide) rfl (by kernel_rfl) ?_
 simp (disch := omega) only [push_cast, go_sem, zA, simprocAttr, Sc.V_eq]
 intro g1 g2
 refine Sat.loop (σ := EvS × List V) (fun x => upd (upd (upd noT 1 (.ptr 1 [] 0 0 g1 3)) 3 (.msl 3 [] x.1.γ x.2.length x.1.c)) 11 (.int .i64 x.1.k))
  (fun x => (noM.set 1 (.own 55 (some g1) 1 [.agg [.sl (s.p.map thrV), .sl (s.es.map Evt.V), .sl (s.ds.map Do.V)]])).set 3 (.own x.1.e x.1.γ x.1.c x.2))
  (fun x => x.1.k ≤ 3 ∧ x.2.map V.fz = (ordersK s.ds x.1.k).map rowsV) (fun x => 3 - x.1.k) (⟨0, 59, some g2, 1⟩, [.own 0 none 0 []]) (by simp; rfl) ?_ ?_
 ·(refine zB ?_; repeat (first | exact zC | exact zD | refine zE (by decide) ?_ | refine zF ?_ ?_ | refine zG ?_ ?_)) <;> (try simp (disch := omega) only [push_cast, go_sem, zA, simprocAttr])
  all_goals rfl
 rintro ⟨⟨k, e0, γ9, c9⟩, vs⟩ ⟨hk, hvs⟩ J hJ
 simp only at hk hvs hJ
 rcases Nat.lt_or_ge k 3 with hlt | hge
 ·refine Sat.freezeT (upd (upd (upd noT 1 (.ptr 1 [] 0 0 g1 3)) 3 (.sl ((ordersK s.ds k).map rowsV))) 11 (.int .i64 k)) (noM.set 1 (.own 55 (some g1) 1 [.agg [.sl (s.p.map thrV), .sl (s.es.map Evt.V), .sl (s.ds.map Do.V)]])) 3 (e := e0) (γ := γ9) (cap := c9) (es := vs) rfl ?_ ?_
  ·(refine zB ?_; repeat (first | exact zC | exact zD | refine zE (by decide) ?_ | refine zF ?_ ?_ | refine zG ?_ ?_)) <;> (try simp (disch := omega) only [push_cast, go_sem, zA, simprocAttr])
   rw [hvs]
  refine Sat.of (S := []) (by kernel_rfl) ?_
  obtain ⟨rs, hrs⟩ : ∃ rs, permsOf (writersOf s.ds k) = rs := ⟨_, rfl⟩
  have hwk := hw k hlt
  have hrl : rs.length ≤ 720 := by rw [← hrs]; unfold permsOf; rw [perms_len rfl]; exact fac_le hwk
  have hk3 : (k : Int) < 3 := by omega
  simp (disch := omega) only [push_cast, go_sem, zA, simprocAttr, hk3]
  have hfk : ordersK s.ds (k + 1) = (ordersK s.ds k).flatMap (fun h => rs.map fun r => h ++ [r]) := by rw [ordersK, hrs]
  have hbK := hB k hk
  have hbk : (ordersK s.ds k).length * rs.length < 2 ^ 30 := by
   have := hB (k + 1) (by omega)
   rw [hfk, flatMap_len (n := rs.length) (by simp)] at this
   exact this
  refine Sat.loop (σ := EvS × List RowR) (fun x => upd (upd (upd (upd (upd (upd (upd noT 1 (.ptr 1 [] 0 0 g1 3)) 11 (.int .i64 k)) 4 (.int .i64 k)) 14 (.sl ((ordersK s.ds k).map rowsV))) 15 (.int .i64 (ordersK s.ds k).length)) 16 (.int .i64 x.1.k)) 5 (.msl 5 [] x.1.γ x.2.length x.1.c)) (fun x => (noM.set 1 (.own 55 (some g1) 1 [.agg [.sl (s.p.map thrV), .sl (s.es.map Evt.V), .sl (s.ds.map Do.V)]])).set 5 (.own x.1.e x.1.γ x.1.c (x.2.map RowR.V)))
   (fun x => x.1.k ≤ (ordersK s.ds k).length ∧ (x.1.γ = none ∨ x.1.e = 59) ∧ x.2.map RowR.l = ((ordersK s.ds k).take x.1.k).flatMap (fun h => rs.map fun r => h ++ [r])) (fun x => (ordersK s.ds k).length - x.1.k) (⟨0, 0, none, 0⟩, []) (by simp) ?_ ?_
  ·(refine zB ?_; repeat (first | exact zC | exact zD | refine zE (by decide) ?_ | refine zF ?_ ?_ | refine zG ?_ ?_)) <;> (try simp (disch := omega) only [push_cast, go_sem, zA, simprocAttr])
   all_goals rfl
  rintro ⟨⟨i, e, γ, c⟩, ys⟩ ⟨hi, hγ, hys⟩ J2 hJ2
  refine Sat.of (S := []) (by kernel_rfl) ?_
  simp only at hi hγ hys hJ2
  rcases Nat.lt_or_ge i (ordersK s.ds k).length with hlt2 | hge2
  ·obtain ⟨h, hh⟩ : ∃ h, (ordersK s.ds k)[i]? = some h := ⟨_, List.getElem?_eq_getElem hlt2⟩
   have hhl := ordersK_row (List.mem_of_getElem? hh)
   simp (disch := omega) only [push_cast, go_sem, zA, simprocAttr, hh, hlt2, rowsV_eq]
   refine callR.pure (writers_fn s k hs) rfl rfl ?_
   simp (disch := omega) only [push_cast, go_sem, zA, simprocAttr]
   refine callR.pure (perms_fn _ (writersOf s.ds k) rfl hwk) rfl rfl ?_
   rw [show perms (writersOf s.ds k).length (writersOf s.ds k) = rs from hrs]
   simp (disch := omega) only [push_cast, go_sem, zA, simprocAttr]
   refine Sat.loop (σ := EvS × List RowR) (fun x => upd (upd (upd (upd (upd (upd (upd (upd (upd (upd (upd noT 1 (.ptr 1 [] 0 0 g1 3)) 11 (.int .i64 k)) 4 (.int .i64 k)) 14 (.sl ((ordersK s.ds k).map rowsV))) 15 (.int .i64 (ordersK s.ds k).length)) 16 (.int .i64 i)) 5 (.msl 5 [] x.1.γ x.2.length x.1.c)) 7 (.sl (h.map intsV))) 23 (.sl (rs.map intsV))) 24 (.int .i64 rs.length)) 25 (.int .i64 x.1.k)) (fun x => (noM.set 1 (.own 55 (some g1) 1 [.agg [.sl (s.p.map thrV), .sl (s.es.map Evt.V), .sl (s.ds.map Do.V)]])).set 5 (.own x.1.e x.1.γ x.1.c (x.2.map RowR.V)))
    (fun x => x.1.k ≤ rs.length ∧ (x.1.γ = none ∨ x.1.e = 59) ∧ x.2.map RowR.l = ((ordersK s.ds k).take i).flatMap (fun h => rs.map fun r => h ++ [r]) ++ (rs.take x.1.k).map fun r => h ++ [r]) (fun x => rs.length - x.1.k) (⟨0, e, γ, c⟩, ys) (by simp [hγ, hys]) ?_ ?_
   ·(refine zB ?_; repeat (first | exact zC | exact zD | refine zE (by decide) ?_ | refine zF ?_ ?_ | refine zG ?_ ?_)) <;> (try simp (disch := omega) only [push_cast, go_sem, zA, simprocAttr])
    all_goals rfl
   rintro ⟨⟨j, e2, γ2, c2⟩, zs⟩ ⟨hj, hγ2, hzs⟩ J3 hJ3
   refine Sat.of (S := []) (by kernel_rfl) ?_
   simp only at hj hγ2 hzs hJ3
   rcases Nat.lt_or_ge j rs.length with hlt3 | hge3
   ·obtain ⟨z, hz⟩ : ∃ z, rs[j]? = some z := ⟨_, List.getElem?_eq_getElem hlt3⟩
    have hγ2' : (γ2 = none ∨ e2 = 59) = True := by simp only [hγ2]
    have hzl : zs.length = i * rs.length + j := by
     have := congrArg List.length hzs
     rw [List.length_map, List.length_append, flatMap_len (n := rs.length) (by simp), List.length_take, List.length_map, List.length_take, Nat.min_eq_left hi, Nat.min_eq_left hj] at this
     exact this
    have hm1 : (i + 1) * rs.length ≤ (ordersK s.ds k).length * rs.length := Nat.mul_le_mul_right _ (by omega)
    rw [Nat.succ_mul] at hm1
    have hzb : zs.length + 1 < 2 ^ 30 := by generalize i * rs.length = A at *; generalize (ordersK s.ds k).length * rs.length = B at *; omega
    simp (disch := omega) only [push_cast, go_sem, zA, simprocAttr, hz, hlt3, intsV_eq]
    refine callR.row (clone2_fn h (by omega)) rfl rfl ?_
    intro γ3 c3
    simp (disch := omega) only [push_cast, go_sem, zA, simprocAttr, hγ2']
    intro g5
    refine ⟨by omega, fun γ4 c4 _ => ?_⟩
    intro g6
    refine ⟨by omega, fun γ5 c5 _ => ?_⟩
    refine hJ3 (⟨j + 1, 59, γ5, c5⟩, zs ++ [⟨γ4, c4, h ++ [z]⟩]) _ _ ⟨by dsimp only; omega, .inr rfl, ?_⟩ (by dsimp only; omega) ?_
    ·dsimp only
     rw [List.map_append, hzs, take_get hz, List.map_append, List.append_assoc]
     rfl
    ·(refine zB ?_; repeat (first | exact zC | exact zD | refine zE (by decide) ?_ | refine zF ?_ ?_ | refine zG ?_ ?_)) <;> (try simp (disch := omega) only [push_cast, go_sem, zA, simprocAttr])
     all_goals simp [RowR.V, rowsV, intsV]
   ·have : j = rs.length := by omega
    subst this
    simp (disch := omega) only [push_cast, go_sem, zA, simprocAttr]
    refine hJ2 (⟨i + 1, e2, γ2, c2⟩, zs) _ _ ⟨by dsimp only; omega, hγ2, ?_⟩ (by dsimp only; omega) ?_
    ·dsimp only
     rw [hzs, List.take_length, take_get hh, List.flatMap_append]
     simp
    ·(refine zB ?_; repeat (first | exact zC | exact zD | refine zE (by decide) ?_ | refine zF ?_ ?_ | refine zG ?_ ?_)) <;> (try simp (disch := omega) only [push_cast, go_sem, zA, simprocAttr])
  ·have : i = (ordersK s.ds k).length := by omega
   subst this
   rw [List.take_length, ← hfk] at hys
   simp (disch := omega) only [push_cast, go_sem, zA, simprocAttr]
   refine hJ (⟨k + 1, e, γ, c⟩, ys.map RowR.V) _ _ ⟨by dsimp only; omega, ?_⟩ (by dsimp only; omega) ?_
   ·dsimp only
    rw [fz_rowsR, hys]
   ·(refine zB ?_; repeat (first | exact zC | exact zD | refine zE (by decide) ?_ | refine zF ?_ ?_ | refine zG ?_ ?_)) <;> (try simp (disch := omega) only [push_cast, go_sem, zA, simprocAttr])
    all_goals simp
 ·have : k = 3 := by omega
  subst this
  refine Sat.of (S := [17]) (by kernel_rfl) ?_
  simp (disch := omega) only [push_cast, go_sem, zA, simprocAttr]
  refine Sat.of (S := []) (by kernel_rfl) ?_
  simp (disch := omega) only [push_cast, go_sem, zA, simprocAttr]
  refine ⟨_, fun _ _ h => h, 2, γ9, c9, e0, vs, rfl, by simp [Mem.set], hvs⟩
end
end Go.Proofs.YtkdolbffabmemaaGreatDoor
