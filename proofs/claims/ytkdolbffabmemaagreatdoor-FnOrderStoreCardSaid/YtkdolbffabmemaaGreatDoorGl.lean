/-
 Contracts and plain laws.
-/
import Derived.Test.YtkdolbffabmemaaGreatDoorGa
import Derived.Test.YtkdolbffabmemaaGreatDoorGf
import Derived.Test.YtkdolbffabmemaaGreatDoorGk
import Derived.Test.YtkdolbffabmemaaGreatDoorRows
import Derived.ProofKit
import Derived.OpenShut
import Derived.ChangeSlices
import Derived.JoinedOf
import Derived.JoinedAt
import Derived.Deep.DeepHandedRow
import Derived.Lib.LaidTab
import Derived.Test.YtkdolbffabmemaaGreatDoorCards
import Derived.Test.YtkdolbffabmemaaGreatDoorTie
set_option linter.unusedSimpArgs false
set_option linter.unusedVariables false
set_option linter.unusedSectionVars false
namespace Go.Proofs.YtkdolbffabmemaaGreatDoor
section
open Go.RowKit
structure Snoc (p q : Prog) (t : Nat) (d : Do) : Prop where
 okp : progOk p = true
 okq : progOk q = true
 ev : evF 0 q = evF 0 p ++ [⟨t, d, false⟩]
 k : d.k = 1 ∨ d.k = 2
section
variable {p q : Prog} {t : Nat} {d : Do}
theorem Snoc.ds (h : Snoc p q t d) : (scene q).ds = (scene p).ds ++ [d] := by rw [ds_F, ds_F, h.ev]; simp
theorem Snoc.n (h : Snoc p q t d) : (events q).length = (events p).length + 1 := by rw [← evF_len, h.ev, List.length_append, evF_len]; rfl
theorem Snoc.old (h : Snoc p q t d) {i : Nat} {x : Fra} (hx : (evF 0 p)[i]? = some x) : (evF 0 q)[i]? = some x := by
 rw [h.ev, List.getElem?_append_left (List.getElem?_eq_some_iff.1 hx).1]; exact hx
theorem Snoc.cases (h : Snoc p q t d) {j : Nat} {y : Fra} (hy : (evF 0 q)[j]? = some y) : (j < (events p).length ∧ (evF 0 p)[j]? = some y) ∨ (j = (events p).length ∧ y = ⟨t, d, false⟩) := by
 rw [h.ev] at hy
 rcases Nat.lt_or_ge j (evF 0 p).length with h1 | h1
 ·rw [List.getElem?_append_left h1] at hy
  exact .inl ⟨by rw [← evF_len]; exact h1, hy⟩
 ·rw [List.getElem?_append_right h1] at hy
  have := (List.getElem?_eq_some_iff.1 hy).1
  simp at this
  have e : j - (evF 0 p).length = 0 := by omega
  rw [e] at hy
  simp at hy
  exact .inr ⟨by rw [← evF_len]; omega, hy.symm⟩
theorem Snoc.last (h : Snoc p q t d) : (evF 0 q)[(events p).length]? = some ⟨t, d, false⟩ := by
 rw [h.ev, ← evF_len, List.getElem?_append_right (Nat.le_refl _), Nat.sub_self]; rfl
theorem Snoc.pe (h : Snoc p q t d) : PE p q fun i => i := by
 have hn := evF_len p
 have new : ∀ j y, (evF 0 q)[j]? = some y → (¬ ∃ i, i < (evF 0 p).length ∧ i = j) → j = (events p).length ∧ y = ⟨t, d, false⟩ := by
  intro j y hy hnx
  rcases h.cases hy with ⟨h1, _⟩ | h1
  ·exact absurd ⟨j, by omega, rfl⟩ hnx
  ·exact h1
 refine PE.of h.okp h.okq (fun i j h _ => h) (fun i x hx => ⟨x, h.old hx, Alk.refl x⟩) (fun j y hy hnx hr i hi => ?_) (fun j y hy hnx hk => ?_) (fun j y hy hnx => ?_)
 ·have := (new j y hy hnx).1; omega
 ·obtain ⟨_, rfl⟩ := new j y hy hnx
  have := h.k
  dsimp only at hk
  omega
 ·obtain ⟨_, rfl⟩ := new j y hy hnx
  have := h.k
  left; dsimp only; omega
theorem Snoc.pek (h : Snoc p q t d) : PEk p q fun i => i := PEk.of fun i x hx => ⟨x, h.old hx, KLe.refl x⟩
theorem Snoc.pek' (h : Snoc p q t d) : PEk' p q fun i => i := PEk'.of fun i x hx => ⟨x, h.old hx, KLe.refl x⟩
theorem Snoc.wtin (h : Snoc p q t d) : ∀ e i, WtIn q e i → (∃ e', e' < (events p).length ∧ e' = e) ∧ ∃ i', i' < (events p).length ∧ i' = i := by
 intro e i hw
 have hn := h.n
 have hl := (F_get h.last)
 refine ⟨⟨e, ?_, rfl⟩, ⟨i, ?_, rfl⟩⟩
 ·rcases Nat.lt_or_ge e (events p).length with h1 | h1
  ·exact h1
  ·have he := hw.el
   have e1 : e = (events p).length := by omega
   have := hw.late
   rw [e1, hl.2.2.2.1] at this; cases this
 ·rcases Nat.lt_or_ge i (events p).length with h1 | h1
  ·exact h1
  ·have he := hw.il
   have e1 : i = (events p).length := by omega
   have := hw.k7
   rw [e1, hl.2.2.2.2.2] at this
   have := h.k
   dsimp only at *
   omega
theorem lft_map (r : List Int) : r.map (lft fun i => i) = r := by
 have : r.map (lft fun i => i) = r.map id := List.map_congr_left fun z _ => lft_id z
 rw [this, List.map_id]
theorem Snoc.hld (h : Snoc p q t d) {x y : Exe} (m : Mat (scene p).ds (fun i => i) x y) (hx : OKW (scene p).ds x) {kind : Int} (hh : Hld p x kind)
  (hs : ∀ b, b < (events q).length → readS q y (events p).length b = false ∧ overS q y (events p).length b = false) : Hld q y kind := by
 have hn := h.n
 refine Hld.ends h.pe h.pek' m hx (src := fun _ => False) (snk := fun j => j = (events p).length) h.wtin (fun j hj => ?_) (fun i hi => ⟨id, by omega⟩) (fun k hk a b ha hb hf => hf.elim) (fun k hk a b ha hb he => ?_) hh
 ·rcases Nat.lt_or_ge j (events p).length with h1 | h1
  ·exact .inl ⟨j, h1, rfl⟩
  ·exact .inr (.inr (by omega))
 ·subst he
  obtain ⟨h1, h2⟩ := hs b hb
  have ho : ownB (events q) (events p).length b = false := by
   rw [Bool.eq_false_iff]
   intro ho
   have := (own_iff.1 ho).1
   omega
  have ht : toldS q y k (events p).length b = false := by rw [toldS, h1, h2]; simp
  rw [netR, ht, Bool.or_false]
  rcases stays_cases q k (events p).length b with ⟨_, e⟩ | ⟨_, e⟩ | ⟨_, e⟩ | ⟨_, _, _, e⟩
  ·rw [e, ho]
  ·rw [e, ho]; rfl
  ·rw [e, looseS, ho]; rfl
  ·rw [e, ho]; rfl
end
def rlD (ds : List Do) : List Nat := (List.range ds.length).filter fun i => (ds[i]?.getD default).reads
theorem rlD_snoc (ds : List Do) (d : Do) : rlD (ds ++ [d]) = rlD ds ++ (if d.reads then [ds.length] else []) := by
 rw [rlD, List.length_append, List.length_cons, List.length_nil, Nat.zero_add, List.range_succ, List.filter_append]
 congr 1
 ·refine List.filter_congr fun i hi => ?_
  rw [List.getElem?_append_left (List.mem_range.1 hi)]
 ·simp only [List.filter_cons, List.filter_nil, List.getElem?_append_right (Nat.le_refl _), Nat.sub_self]
  rfl
theorem rlD_mem {ds : List Do} {i : Nat} (h : i ∈ rlD ds) : ∃ d, ds[i]? = some d ∧ d.uses = true := by
 obtain ⟨h1, h2⟩ := List.mem_filter.1 h
 have hd := List.getElem?_eq_getElem (List.mem_range.1 h1)
 rw [hd, Option.getD_some] at h2
 exact ⟨_, hd, uses_or.2 (.inl h2)⟩
theorem seenF_rl (p : Prog) (x : Exe) : seenF p x = ⟨(rlD (scene p).ds).map (vF (scene p).ds x.fr), x.od.map (lsF (vF (scene p).ds x.fr))⟩ := seenF_eq p x
def cutS (s : Sn) : Sn := ⟨s.rd.take (s.rd.length - 1), s.ls⟩
section
variable {p q : Prog} {t : Nat} {d : Do}
end
end
section
open Go.RowKit
def putS3 (v : Int) (s : Sn) : Sn := ⟨s.rd, [s.ls.getD 0 0, s.ls.getD 1 0, v]⟩
section
variable {p q : Prog} {t : Nat}
theorem Snoc.gold {d : Do} (h : Snoc p q t d) {i : Nat} {d' : Do} (h1 : (scene p).ds[i]? = some d') : (scene q).ds[i]? = some d' := by
 rw [h.ds, List.getElem?_append_left (List.getElem?_eq_some_iff.1 h1).1]; exact h1
theorem Snoc.gcases {d : Do} (h : Snoc p q t d) {i : Nat} {d' : Do} (h1 : (scene q).ds[i]? = some d') : (scene p).ds[i]? = some d' ∨ (i = (scene p).ds.length ∧ d' = d) := by
 rw [h.ds] at h1
 rcases Nat.lt_or_ge i (scene p).ds.length with h2 | h2
 ·rw [List.getElem?_append_left h2] at h1; exact .inl h1
 ·rw [List.getElem?_append_right h2] at h1
  have := (List.getElem?_eq_some_iff.1 h1).1
  simp at this
  have e0 : i - (scene p).ds.length = 0 := by omega
  rw [e0] at h1
  simp at h1
  exact .inr ⟨by omega, h1.symm⟩
theorem ls3 {ds : List Do} {x : Exe} (hx : OKW ds x) (hu : ∀ d ∈ ds, d.uses = true → d.p ≠ 2) : ∃ r0 r1, x.od = [r0, r1, []] := by
 obtain ⟨r0, h0, _⟩ := hx.od 0 (by omega)
 obtain ⟨r1, h1, _⟩ := hx.od 1 (by omega)
 obtain ⟨r2, h2, _, h3⟩ := hx.od 2 (by omega)
 have e2 : r2 = [] := by
  rw [List.eq_nil_iff_forall_not_mem]
  intro z hz
  obtain ⟨b, d, _, hd, hw, hp⟩ := (h3 z).1 hz
  exact hu d (List.mem_of_getElem? hd) (uses_or.2 (.inr hw)) hp
 refine ⟨r0, r1, ?_⟩
 apply List.ext_getElem?
 intro k
 match k with
 | 0 => rw [h0]; rfl
 | 1 => rw [h1]; rfl
 | 2 => rw [h2, e2]; rfl
 | k + 3 => rw [List.getElem?_eq_none (by rw [hx.odl]; omega)]; simp
theorem store_seen {d : Do} (h : Snoc p q t d) (hd : d = ⟨1, 2, 3⟩) (hu : ∀ d ∈ (scene p).ds, d.uses = true → d.p ≠ 2) {x y : Exe} (m : Mat (scene p).ds (fun i => i) x y) (hx : OKW (scene p).ds x) {r0 r1 : List Int} (ho : x.od = [r0, r1, []]) (hoy : y.od = [r0, r1, [((scene p).ds.length : Int)]]) :
  seenF q y = putS3 3 (seenF p x) := by
 have e := h.pe.e
 have hdr : d.reads = false := by rw [hd]; rfl
 have lsf : ∀ k, k < 3 → ∀ r, x.od[k]? = some r → lsF (vF (scene q).ds y.fr) r = lsF (vF (scene p).ds x.fr) r := by
  intro k hk r hr
  have := m.lsF e hx hk hr
  rw [lft_map] at this; exact this
 have hlast : (scene q).ds[(scene p).ds.length]? = some d := by
  rw [h.ds, List.getElem?_append_right (Nat.le_refl _), Nat.sub_self]; rfl
 have hv : vF (scene q).ds y.fr (scene p).ds.length = 3 := by
  rw [vF_eq (Val.val hlast (by rw [hd]; rfl)), hd]
 rw [seenF_rl, seenF_rl, putS3]
 congr 1
 ·rw [h.ds, rlD_snoc, hdr, ← h.ds]
  simp only [Bool.false_eq_true, if_false, List.append_nil]
  refine List.map_congr_left fun i hi => ?_
  obtain ⟨d', hd', hu'⟩ := rlD_mem hi
  exact m.vF e hx hd' hu'
 ·rw [hoy, ho]
  simp only [List.map_cons, List.map_nil, List.getD_cons_zero, List.getD_cons_succ]
  rw [lsf 0 (by omega) r0 (by rw [ho]; rfl), lsf 1 (by omega) r1 (by rw [ho]; rfl)]
  congr 3
theorem store_ord {d : Do} (h : Snoc p q t d) (hd : d = ⟨1, 2, 3⟩) (hu : ∀ d ∈ (scene p).ds, d.uses = true → d.p ≠ 2) {k : Int} (hk : inB k 1 3 = true) : ∀ s, s ∈ ordAll q k ↔ ∃ s' ∈ ordAll p k, putS3 3 s' = s := by
 have hn := h.n
 have hsl := scene_n p
 have fq := F_get h.last
 have hlast : (scene q).ds[(scene p).ds.length]? = some d := by
  rw [h.ds, List.getElem?_append_right (Nat.le_refl _), Nat.sub_self]; rfl
 have hdr : d.reads = false := by rw [hd]; rfl
 have hdw : d.writes = true := by rw [hd]; rfl
 have hdp : d.p = 2 := by rw [hd]
 intro s
 constructor
 ·intro hs
  obtain ⟨_, _, y, hy, hh, rfl⟩ := mem_ordW.1 hs
  obtain ⟨x, hx, m, _⟩ := restrict h.pe.e (scene_copy h.okp) hy (places h.okp) fun j d' hd' hw => by
   rcases h.gcases hd' with h1 | ⟨_, rfl⟩
   ·exact .inl ⟨j, (List.getElem?_eq_some_iff.1 h1).1, rfl⟩
   ·right
    intro d2 h2 h3
    rw [hdp]; exact hu d2 h2 h3
  obtain ⟨r0, r1, ho⟩ := ls3 hx hu
  have hoy : y.od = [r0, r1, [((scene p).ds.length : Int)]] := by
   have old : ∀ k, k < 2 → ∀ r, x.od[k]? = some r → y.od[k]? = some r := by
    intro k hk r hr
    rcases m.od k (by omega) with ⟨r', h1, h2⟩ | h1
    ·rw [hr] at h1; cases h1
     rw [lft_map] at h2; exact h2
    ·obtain ⟨r', h2, _, h3⟩ := hx.od k (by omega)
     rw [hr] at h2; cases h2
     obtain ⟨ry, h4, _, h5⟩ := hy.od k (by omega)
     have e1 : r = [] := by
      rw [List.eq_nil_iff_forall_not_mem]
      intro z hz
      obtain ⟨b, d', _, k1, k2, k3⟩ := (h3 z).1 hz
      exact h1 d' (List.mem_of_getElem? k1) (uses_or.2 (.inr k2)) k3
     have e2 : ry = [] := by
      rw [List.eq_nil_iff_forall_not_mem]
      intro z hz
      obtain ⟨b, d', _, k1, k2, k3⟩ := (h5 z).1 hz
      rcases h.gcases k1 with k4 | ⟨_, rfl⟩
      ·exact h1 d' (List.mem_of_getElem? k4) (uses_or.2 (.inr k2)) k3
      ·rw [hdp] at k3; omega
     rw [h4, e1, e2]
   obtain ⟨r2, h2, h3, h4⟩ := hy.od 2 (by omega)
   have e2 : r2 = [((scene p).ds.length : Int)] := by
    have hm : ∀ z, z ∈ r2 ↔ z = ((scene p).ds.length : Int) := by
     intro z
     rw [h4]
     constructor
     ·rintro ⟨b, d', rfl, k1, k2, k3⟩
      rcases h.gcases k1 with k4 | ⟨rfl, _⟩
      ·exact absurd k3 (hu d' (List.mem_of_getElem? k4) (uses_or.2 (.inr k2)))
      ·rfl
     ·rintro rfl
      exact ⟨_, d, rfl, hlast, hdw, by rw [hdp]; rfl⟩
    have hp : r2.Perm [((scene p).ds.length : Int)] := (List.perm_ext_iff_of_nodup h3 (by simp)).2 fun z => by rw [hm]; simp
    exact List.perm_singleton.1 hp
   apply List.ext_getElem?
   intro k
   match k with
   | 0 => rw [old 0 (by omega) r0 (by rw [ho]; rfl)]; rfl
   | 1 => rw [old 1 (by omega) r1 (by rw [ho]; rfl)]; rfl
   | 2 => rw [h2, e2]; rfl
   | k + 3 => rw [List.getElem?_eq_none (by rw [hy.odl]; omega)]; simp
  exact ⟨_, mem_ordW.2 ⟨h.okp, hk, x, hx, hh.back h.pe h.pek m hx, rfl⟩, (store_seen h hd hu m hx ho hoy).symm⟩
 ·rintro ⟨s', hs, rfl⟩
  obtain ⟨_, _, x, hx, hh, rfl⟩ := mem_ordW.1 hs
  obtain ⟨r0, r1, ho⟩ := ls3 hx hu
  obtain ⟨y, hy⟩ : ∃ y : Exe, y = ⟨x.fr ++ [-2], [r0, r1, [((scene p).ds.length : Int)]]⟩ := ⟨_, rfl⟩
  have yold : ∀ i z', i < (scene p).ds.length → x.fr[i]? = some z' → y.fr[i]? = some z' := by
   intro i z' hi h1
   rw [hy]
   dsimp only
   rw [List.getElem?_append_left (by rw [hx.frl]; exact hi)]; exact h1
  have ynew : y.fr[(scene p).ds.length]? = some (-2) := by
   rw [hy]
   dsimp only
   rw [List.getElem?_append_right (by rw [hx.frl]; omega), hx.frl, Nat.sub_self]; rfl
  have yod : ∀ k, k < 2 → y.od[k]? = x.od[k]? := by
   intro k hk
   rw [hy, ho]
   match k with
   | 0 => rfl
   | 1 => rfl
  have m : Mat (scene p).ds (fun i => i) x y := by
   refine ⟨fun i z' hi h1 => by rw [lft_id]; exact yold i z' hi h1, fun k hk => ?_⟩
   rcases Nat.lt_or_ge k 2 with h2 | h2
   ·obtain ⟨r, h1, _⟩ := hx.od k hk
    exact .inl ⟨r, h1, by rw [lft_map, yod k h2]; exact h1⟩
   ·right
    intro d' hd' hu'
    have := hu d' hd' hu'
    have e : k = 2 := by omega
    rw [e]; exact this
  have hok : OKW (scene q).ds y := by
   refine ⟨by rw [hy, h.ds]; simp [hx.frl], by rw [hy]; rfl, fun k hk => ?_, fun i d' f hd' hf hr' => ?_, fun i d' f hd' hf hr' => ?_, fun i d' hd' hu' => ?_⟩
   ·rcases Nat.lt_or_ge k 2 with hk2 | hk2
    ·obtain ⟨r, h1, h2, h3⟩ := hx.od k hk
     refine ⟨r, by rw [yod k hk2]; exact h1, h2, fun z' => ?_⟩
     rw [h3]
     constructor
     ·rintro ⟨b, d', k1, k2, k3, k4⟩; exact ⟨b, d', k1, h.gold k2, k3, k4⟩
     ·rintro ⟨b, d', k1, k2, k3, k4⟩
      rcases h.gcases k2 with k5 | ⟨_, rfl⟩
      ·exact ⟨b, d', k1, k5, k3, k4⟩
      ·rw [hdp] at k4; omega
    ·have e : k = 2 := by omega
     subst e
     refine ⟨_, by rw [hy]; rfl, by simp, fun z => ?_⟩
     rw [List.mem_singleton]
     constructor
     ·rintro rfl
      exact ⟨_, d, rfl, hlast, hdw, by rw [hdp]; rfl⟩
     ·rintro ⟨b, d', rfl, k1, k2, k3⟩
      rcases h.gcases k1 with k4 | ⟨rfl, _⟩
      ·exact absurd k3 (hu d' (List.mem_of_getElem? k4) (uses_or.2 (.inr k2)))
      ·rfl
   ·rcases h.gcases hd' with h1 | ⟨_, rfl⟩
    ·have hi := (List.getElem?_eq_some_iff.1 h1).1
     obtain ⟨z', hz'⟩ : ∃ z', x.fr[i]? = some z' := ⟨_, List.getElem?_eq_getElem (by rw [hx.frl]; exact hi)⟩
     rw [yold i z' hi hz'] at hf
     cases hf
     rcases hx.rd i d' _ h1 hz' hr' with k1 | ⟨b, d2, k1, k2, k3, k4⟩
     ·exact .inl k1
     ·exact .inr ⟨b, d2, k1, h.gold k2, k3, k4⟩
    ·rw [hdr] at hr'; cases hr'
   ·rcases h.gcases hd' with h1 | ⟨rfl, rfl⟩
    ·have hi := (List.getElem?_eq_some_iff.1 h1).1
     obtain ⟨z', hz'⟩ : ∃ z', x.fr[i]? = some z' := ⟨_, List.getElem?_eq_getElem (by rw [hx.frl]; exact hi)⟩
     rw [yold i z' hi hz'] at hf
     cases hf
     exact hx.nr i d' _ h1 hz' hr'
    ·rw [ynew] at hf
     exact (Option.some.inj hf).symm
   ·rcases h.gcases hd' with h1 | ⟨rfl, rfl⟩
    ·obtain ⟨v, hv⟩ := hx.ends i d' h1 hu'
     exact ⟨v, m.val h.pe.e hv⟩
    ·exact ⟨_, .val hd' (by rw [hd]; rfl)⟩
  have hld : Hld q y k := by
   refine h.hld m hx hh fun b hb => ?_
   have dn : dsA q (events p).length = d := fq.2.2.2.2.1
   have cases_b : (b < (events p).length ∧ dsA q b = dsA p b) ∨ b = (events p).length := by
    rcases Nat.lt_or_ge b (events p).length with h1 | h1
    ·left
     exact ⟨h1, by rw [dsA, h.gold (ds_at h1)]; rfl⟩
    ·right; omega
   constructor
   ·rw [Bool.eq_false_iff]
    intro hr
    simp only [readS, Bool.and_eq_true, beq_iff_eq] at hr
    rcases cases_b with ⟨h1, h2⟩ | h1
    ·rw [h2] at hr
     obtain ⟨z, hz⟩ : ∃ z, x.fr[b]? = some z := ⟨_, List.getElem?_eq_getElem (by rw [hx.frl]; omega)⟩
     rw [yold b z (by omega) hz, Option.getD_some] at hr
     rcases hx.rd b _ z (ds_at h1) hz hr.1.2 with k1 | ⟨c, d2, k1, k2, _⟩
     ·omega
     ·have := (List.getElem?_eq_some_iff.1 k2).1
      omega
    ·rw [h1, dn, hdr] at hr
     exact absurd hr.1.2 (by simp)
   ·rw [Bool.eq_false_iff]
    intro hov
    simp only [overS, sameS, Bool.and_eq_true, Bool.not_eq_true', beq_eq_false_iff_ne, decide_eq_true_eq, beq_iff_eq, dn] at hov
    obtain ⟨⟨⟨wb, hne⟩, ⟨_, ub⟩, hpp⟩, _⟩ := hov
    rcases cases_b with ⟨h1, h2⟩ | h1
    ·rw [h2, hdp] at hpp
     rw [h2] at ub
     exact hu _ (List.mem_of_getElem? (ds_at h1)) ub hpp.symm
    ·exact hne h1.symm
  rw [← store_seen h hd hu m hx ho (by rw [hy])]
  exact mem_ordW.2 ⟨h.okq, hk, y, hok, hld, rfl⟩
theorem cmpL3 (a b c a' b' : Int) (v : Int) : cmpL [a, b, v] [a', b', v] = cmpL [a, b, c] [a', b', c] := by
 simp [cmpL]
theorem store_list {d : Do} (h : Snoc p q t d) (hd : d = ⟨1, 2, 3⟩) (hu : ∀ d ∈ (scene p).ds, d.uses = true → d.p ≠ 2) (k : Int) : ordAll q k = (ordAll p k).map (putS3 3) := by
 cases hk : inB k 1 3
 ·have e1 : ordAll q k = [] := by rw [ordAll, hk, Bool.and_false]; rfl
  have e2 : ordAll p k = [] := by rw [ordAll, hk, Bool.and_false]; rfl
  rw [e1, e2]; rfl
 have shape : ∀ s ∈ ordAll p k, ∃ a b, s.ls = [a, b, 0] := by
  intro s hs
  obtain ⟨_, _, x, hx, hh, rfl⟩ := mem_ordW.1 hs
  obtain ⟨r0, r1, ho⟩ := ls3 hx hu
  rw [seenF_rl, ho]
  exact ⟨_, _, rfl⟩
 refine strict_ext (ord_strict _ _) ?_ fun s => by rw [store_ord h hd hu hk, List.mem_map]
 rw [strictS, List.pairwise_map]
 refine List.Pairwise.imp_of_mem (fun {s t} hs ht hst => ?_) (ord_strict p k)
 obtain ⟨a, b, e1⟩ := shape s hs
 obtain ⟨a', b', e2⟩ := shape t ht
 have : cmpS (putS3 3 s) (putS3 3 t) = cmpS s t := by
  rw [cmpS, cmpS, putS3, putS3, e1, e2]
  simp only [List.getD_cons_zero, List.getD_cons_succ]
  rw [cmpL3 a b 0]
 rw [this]; exact hst
end
end
section
open Go.RowKit
end
section
open Go.RowKit
theorem set_last (p1 : Prog) (l : List Do) (v : V) : ((p1 ++ [l]).map thrV).modify p1.length (fun x => x.setC 0 v) = p1.map thrV ++ [v] := by
 apply List.ext_getElem?
 intro i
 rw [List.getElem?_modify]
 rcases Nat.lt_trichotomy i p1.length with h | h | h
 ·rw [List.map_append, List.getElem?_append_left (by simpa using h), List.getElem?_append_left (by simpa using h)]
  have : ¬ p1.length = i := by omega
  simp [this]
 ·subst h
  rw [List.map_append, List.getElem?_append_right (by simp), List.getElem?_append_right (by simp)]
  simp [thrV, V.setC]
 ·have : ¬ p1.length = i := by omega
  rw [List.getElem?_eq_none (by simp; omega), List.getElem?_eq_none (by simp; omega)]
  rfl
theorem fz_last (e e' : TypeId) (γ γ' : Option Nat) (c c' : Nat) (p1 : Prog) (l : List Do) : (V.own e γ c (p1.map thrV ++ [.own e' γ' c' (l.map Do.V)])).fz = .sl ((p1 ++ [l]).map thrV) := by
 simp only [V.fz, fzs_map, List.map_append, List.map_cons, List.map_nil, List.map_map, V.sl.injEq]
 congr 1
theorem ok_end {p1 : Prog} {l : List Do} {d : Do} (h : progOk (p1 ++ [l ++ [d]]) = true) (hd : d.k = 1 ∨ d.k = 2) : progOk (p1 ++ [l]) = true := by
 have key : ∀ (l : List Do) (r i : Bool), thrGo (l ++ [d]) r i = true → thrGo l r i = true := by
  intro l
  induction l with
  | nil =>
   intro r i h
   rw [List.nil_append, thrGo] at h
   split at h
   ·cases h
   ·have e7 : (d.k == 7) = false := by rw [beq_eq_false_iff_ne]; omega
    have e8 : (d.k == 8) = false := by rw [beq_eq_false_iff_ne]; omega
    rw [e7, e8, thrGo] at h
    rw [thrGo]
    cases i
    ·rfl
    ·simp at h
  | cons a l ih =>
   intro r i h
   rw [List.cons_append, thrGo] at h
   rw [thrGo]
   split at h
   ·cases h
   ·rename_i hw
    rw [if_neg hw]; exact ih _ _ h
 simp only [progOk, Bool.and_eq_true, decide_eq_true_eq, List.all_eq_true] at h ⊢
 have e1 : stepsP (p1 ++ [l ++ [d]]) = stepsP (p1 ++ [l]) + 1 := by simp [stepsP]; omega
 have e2 : usesP (p1 ++ [l]) ≤ usesP (p1 ++ [l ++ [d]]) := by simp [usesP, usesOf]
 refine ⟨⟨⟨by have := h.1.1.1; simpa using this, fun m hm => ?_⟩, by omega⟩, by omega⟩
 rcases List.mem_append.1 hm with hm | hm
 ·exact h.1.1.2 m (List.mem_append_left _ hm)
 ·rw [List.mem_singleton.1 hm]
  have := h.1.1.2 (l ++ [d]) (by simp)
  simp only [threadOk, Bool.and_eq_true, decide_eq_true_eq, List.length_append, List.length_singleton] at this ⊢
  exact ⟨key l _ _ this.1, by omega⟩
theorem end_snoc {p1 : Prog} {l : List Do} {d : Do} (h : progOk (p1 ++ [l ++ [d]]) = true) (hd : d.k = 1 ∨ d.k = 2) : Snoc (p1 ++ [l]) (p1 ++ [l ++ [d]]) p1.length d := by
 refine ⟨ok_end h hd, h, ?_, hd⟩
 have h9 : (d.k == 9) = false := by rw [beq_eq_false_iff_ne]; omega
 rw [evF_app, evF_app]
 simp [evF, thF_app, thF_cons, thF_nil, stF, h9]
end
section
open Go.RowKit
def usAt (pl : Int) (d : Do) : Bool := d.p == pl && d.k != 4 && d.k != 7 && d.k != 8 && d.k != 9
def usT (pl : Int) (l : List Do) : Bool := l.any (usAt pl)
def usP (pl : Int) (p : Prog) : Bool := p.any (usT pl)
theorem any_take1 {α : Type} {q : α → Bool} {l : List α} {k : Nat} {x : α} (hx : l[k]? = some x) (h : (l.take k).any q = false) (hq : q x = false) : (l.take (k + 1)).any q = false := by
 rw [take_get hx, List.any_append, h]; simp [hq]
theorem any_yes1 {α : Type} {q : α → Bool} {l : List α} {k : Nat} {x : α} (hx : l[k]? = some x) (hq : q x = true) : l.any q = true :=
 List.any_eq_true.2 ⟨x, List.mem_of_getElem? hx, hq⟩
theorem lpUses_fn (p : Prog) (pl : Int) (hp : p.length < 2 ^ 20) (hl : ∀ l ∈ p, l.length < 2 ^ 20) : Fp Tryz.prog 20 [progV p, .int .i64 pl] (.bool (usP pl p)) := by
 refine Fc.start (S := [10]) Tryz.func20 Tryz.ntmps20 Tryz.results20 rfl (by decide) rfl (by kernel_rfl) ?_
 simp (disch := omega) only [push_cast, go_sem, zA, simprocAttr, progV_eq]
 intro g1
 refine Sat.loop (σ := Nat) (fun i => upd (upd (upd (upd noT 1 (.int .i64 pl)) 2 (.ptr 2 [] 0 0 g1 1)) 4 (.bool false)) 5 (.int .i64 i)) (fun _ => noM.set 2 (boxP p g1))
  (fun i => i ≤ p.length ∧ (p.take i).any (usT pl) = false) (fun i => p.length - i) 0 (by simp) ?_ ?_
 ·(refine zB ?_; repeat (first | exact zC | exact zD | refine zE (by decide) ?_ | refine zF ?_ ?_ | refine zG ?_ ?_)) <;> (try simp (disch := omega) only [push_cast, go_sem, zA, simprocAttr])
  all_goals simp [boxP]
 rintro i ⟨hi, hall⟩ J hJ
 refine Sat.of (S := []) (by kernel_rfl) ?_
 rcases Nat.lt_or_ge i p.length with hlt | hge
 ·obtain ⟨l, he⟩ : ∃ l, p[i]? = some l := ⟨_, List.getElem?_eq_getElem hlt⟩
  have hll := hl l (List.mem_of_getElem? he)
  simp (disch := omega) only [push_cast, go_sem, zA, simprocAttr, he, hlt, boxP_eq, thrV_eq]
  refine Sat.loop (σ := Nat) (fun j => upd (upd (upd (upd (upd noT 1 (.int .i64 pl)) 2 (.ptr 2 [] 0 0 g1 1)) 4 (.bool false)) 5 (.int .i64 i)) 6 (.int .i64 j)) (fun _ => noM.set 2 (boxP p g1))
   (fun j => j ≤ l.length ∧ (l.take j).any (usAt pl) = false) (fun j => l.length - j) 0 (by simp) ?_ ?_
  ·(refine zB ?_; repeat (first | exact zC | exact zD | refine zE (by decide) ?_ | refine zF ?_ ?_ | refine zG ?_ ?_)) <;> (try simp (disch := omega) only [push_cast, go_sem, zA, simprocAttr])
   all_goals simp [boxP]
  rintro j ⟨hj, hall2⟩ J2 hJ2
  refine Sat.of (S := []) (by kernel_rfl) ?_
  rcases Nat.lt_or_ge j l.length with hlj | hgj
  ·obtain ⟨d, hd⟩ : ∃ d, l[j]? = some d := ⟨_, List.getElem?_eq_getElem hlj⟩
   have yes : usAt pl d = true → usP pl p = true := fun h => any_yes1 he (any_yes1 hd h)
   cases h0 : (d.p == pl)
   ·simp (disch := omega) only [push_cast, go_sem, zA, simprocAttr, he, hlt, hd, hlj, boxP_eq, thrV_eq, Do.V_eq, h0]
    intro g7
    refine hJ2 (j + 1) _ _ ⟨by omega, any_take1 hd hall2 (by simp only [usAt, h0, Bool.false_and])⟩ (by omega) ?_
    (refine zB ?_; repeat (first | exact zC | exact zD | refine zE (by decide) ?_ | refine zF ?_ ?_ | refine zG ?_ ?_)) <;> (try simp (disch := omega) only [push_cast, go_sem, zA, simprocAttr])
    all_goals rfl
   cases h4 : (d.k != 4)
   ·simp (disch := omega) only [push_cast, go_sem, zA, simprocAttr, he, hlt, hd, hlj, boxP_eq, thrV_eq, Do.V_eq, h0, h4]
    intro g7
    refine hJ2 (j + 1) _ _ ⟨by omega, any_take1 hd hall2 (by simp only [usAt, h0, h4, Bool.false_and, Bool.and_false])⟩ (by omega) ?_
    (refine zB ?_; repeat (first | exact zC | exact zD | refine zE (by decide) ?_ | refine zF ?_ ?_ | refine zG ?_ ?_)) <;> (try simp (disch := omega) only [push_cast, go_sem, zA, simprocAttr])
    all_goals rfl
   cases h7 : (d.k != 7)
   ·simp (disch := omega) only [push_cast, go_sem, zA, simprocAttr, he, hlt, hd, hlj, boxP_eq, thrV_eq, Do.V_eq, h0, h4, h7]
    intro g7
    refine hJ2 (j + 1) _ _ ⟨by omega, any_take1 hd hall2 (by simp only [usAt, h0, h4, h7, Bool.false_and, Bool.and_false])⟩ (by omega) ?_
    (refine zB ?_; repeat (first | exact zC | exact zD | refine zE (by decide) ?_ | refine zF ?_ ?_ | refine zG ?_ ?_)) <;> (try simp (disch := omega) only [push_cast, go_sem, zA, simprocAttr])
    all_goals rfl
   cases h8 : (d.k != 8)
   ·simp (disch := omega) only [push_cast, go_sem, zA, simprocAttr, he, hlt, hd, hlj, boxP_eq, thrV_eq, Do.V_eq, h0, h4, h7, h8]
    intro g7
    refine hJ2 (j + 1) _ _ ⟨by omega, any_take1 hd hall2 (by simp only [usAt, h0, h4, h7, h8, Bool.false_and, Bool.and_false])⟩ (by omega) ?_
    (refine zB ?_; repeat (first | exact zC | exact zD | refine zE (by decide) ?_ | refine zF ?_ ?_ | refine zG ?_ ?_)) <;> (try simp (disch := omega) only [push_cast, go_sem, zA, simprocAttr])
    all_goals rfl
   cases h9 : (d.k != 9)
   ·simp (disch := omega) only [push_cast, go_sem, zA, simprocAttr, he, hlt, hd, hlj, boxP_eq, thrV_eq, Do.V_eq, h0, h4, h7, h8, h9]
    intro g7
    refine hJ2 (j + 1) _ _ ⟨by omega, any_take1 hd hall2 (by simp only [usAt, h0, h4, h7, h8, h9, Bool.false_and, Bool.and_false])⟩ (by omega) ?_
    (refine zB ?_; repeat (first | exact zC | exact zD | refine zE (by decide) ?_ | refine zF ?_ ?_ | refine zG ?_ ?_)) <;> (try simp (disch := omega) only [push_cast, go_sem, zA, simprocAttr])
    all_goals rfl
   ·simp (disch := omega) only [push_cast, go_sem, zA, simprocAttr, he, hlt, hd, hlj, boxP_eq, thrV_eq, Do.V_eq, h0, h4, h7, h8, h9]
    rw [yes (by simp only [usAt, h0, h4, h7, h8, h9, Bool.and_self])]
  ·have : j = l.length := by omega
   subst this
   rw [List.take_length] at hall2
   simp (disch := omega) only [push_cast, go_sem, zA, simprocAttr, he, hlt, boxP_eq, thrV_eq]
   refine hJ (i + 1) _ _ ⟨by omega, any_take1 he hall hall2⟩ (by omega) ?_
   (refine zB ?_; repeat (first | exact zC | exact zD | refine zE (by decide) ?_ | refine zF ?_ ?_ | refine zG ?_ ?_)) <;> (try simp (disch := omega) only [push_cast, go_sem, zA, simprocAttr])
   all_goals rfl
 ·have : i = p.length := by omega
  subst this
  rw [List.take_length] at hall
  simp (disch := omega) only [push_cast, go_sem, zA, simprocAttr, boxP_eq]
  refine Sat.of (S := []) (by kernel_rfl) ?_
  simp (disch := omega) only [push_cast, go_sem, zA, simprocAttr]
  exact hall.symm
theorem usP_no {p : Prog} {pl : Int} (h : usP pl p = false) : ∀ d ∈ (scene p).ds, d.uses = true → d.p ≠ pl := by
 intro d hd hu hp
 obtain ⟨i, hi⟩ := List.getElem?_of_mem hd
 have hil : i < (events p).length := by rw [← scene_n]; exact (List.getElem?_eq_some_iff.1 hi).1
 obtain ⟨l, h1, h2⟩ := dsA_mem hil
 rw [ds_at hil] at hi
 rw [Option.some.inj hi] at h2
 simp only [usP, usT, List.any_eq_false, List.any_eq_true, not_exists, not_and] at h
 refine h l h1 d h2 ?_
 have hk : d.k = 1 ∨ d.k = 2 ∨ d.k = 3 ∨ d.k = 5 ∨ d.k = 6 := by
  simp only [Do.uses, Do.reads, Do.writes, Bool.or_eq_true, beq_iff_eq] at hu; omega
 rcases hk with e | e | e | e | e <;> simp [usAt, hp, e]
structure SnG where
 g : Nat
 s : Sn
def SnG.V (x : SnG) : V := .agg [.sl (x.s.rd.map (V.int .i64)), .own 3 (some x.g) 3 (x.s.ls.map (V.int .i64))]
theorem SnG.V_eq (x : SnG) : x.V = .agg [.sl (x.s.rd.map (V.int .i64)), .own 3 (some x.g) 3 (x.s.ls.map (V.int .i64))] := rfl
theorem fz_snG (l : List SnG) : (l.map SnG.V).map V.fz = (l.map SnG.s).map Sn.V := by
 rw [List.map_map, List.map_map]
 refine List.map_congr_left fun x _ => ?_
 simp [SnG.V, Sn.V, V.fz, V.fz.fzs, fzs_map]
theorem ls_two {p : Prog} {k : Int} {s : Sn} (hs : s ∈ ordAll p k) : ∃ a b c, s.ls = [a, b, c] := by
 have := ord_seenOk hs
 simp only [seenOkB, Bool.and_eq_true, decide_eq_true_eq] at this
 have h3 := this.1.1.2
 match h : s.ls, h3 with
 | [a, b, c], _ => exact ⟨a, b, c, rfl⟩
theorem lawOrderStore_fn (bs : List Int) (hb : Code8 bs) : Fp Tryz.prog 6 [codeV bs] (.bool true) := by
 refine Fc.start (S := [10, 17]) Tryz.func6 Tryz.ntmps6 Tryz.results6 rfl (by decide) rfl (by kernel_rfl) ?_
 by_cases h : (1048576 : Int) < bs.length
 ·simp (disch := omega) only [push_cast, go_sem, zA, simprocAttr, codeV_eq, h]
 simp (disch := omega) only [push_cast, go_sem, zA, simprocAttr, codeV_eq, h]
 refine callR.ex (DrawOrderAll_fn bs hb (by omega)) rfl rfl ?_
 rintro r ⟨p, kind, rfl, hp, hl⟩
 have hl' : ∀ l ∈ p, l.length < 2 ^ 40 := fun l h => by have := hl l h; omega
 have hn := fun p k => (show (ordAll p k).length < 2 ^ 40 by have := ord_len p k; omega)
 have h1 := implOrderAll_fn p kind (by omega) hl'
 have h2 := specOrderAll_fn p kind (by omega)
 rw [ordI_eq] at h1
 have h3 := fun p => lpList_fn (ordAll p kind) (ordAll p kind) ord_small ord_small (hn _ _) (hn _ _)
 simp only [decide_true] at h3
 have hok := specProgOk_fn p (by omega)
 have hus := lpUses_fn p 2 (by omega) (fun l h => by have := hl l h; omega)
 rw [progV_eq] at h1 h2 hok hus
 simp (disch := omega) only [push_cast, go_sem, zA, simprocAttr, progV_eq]
 intro g3
 refine callR.pure h1 rfl rfl ?_
 simp (disch := omega) only [push_cast, go_sem, zA, simprocAttr]
 refine callR.pure h2 rfl rfl ?_
 simp (disch := omega) only [push_cast, go_sem, zA, simprocAttr]
 refine callR.pure (h3 p) rfl rfl ?_
 simp (disch := omega) only [push_cast, go_sem, zA, simprocAttr]
 refine callR.pure hok rfl rfl ?_
 cases hpo : progOk p
 ·simp (disch := omega) only [push_cast, go_sem, zA, simprocAttr]
  refine callR.pure h2 rfl rfl ?_
  simp (disch := omega) only [push_cast, go_sem, zA, simprocAttr]
  refine callR.pure (h3 p) rfl rfl ?_
  simp (disch := omega) only [push_cast, go_sem, zA, simprocAttr]
 cases hn0 : ((p.length : Int) == 0)
 rotate_left
 ·simp (disch := omega) only [push_cast, go_sem, zA, simprocAttr, hn0]
  refine callR.pure h2 rfl rfl ?_
  simp (disch := omega) only [push_cast, go_sem, zA, simprocAttr]
  refine callR.pure (h3 _) rfl rfl ?_
  simp (disch := omega) only [push_cast, go_sem, zA, simprocAttr]
 simp (disch := omega) only [push_cast, go_sem, zA, simprocAttr, hn0]
 refine callR.pure hus rfl rfl ?_
 cases hup : usP 2 p
 rotate_left
 ·simp (disch := omega) only [push_cast, go_sem, zA, simprocAttr]
  refine callR.pure h2 rfl rfl ?_
  simp (disch := omega) only [push_cast, go_sem, zA, simprocAttr]
  refine callR.pure (h3 _) rfl rfl ?_
  simp (disch := omega) only [push_cast, go_sem, zA, simprocAttr]
 simp (disch := omega) only [push_cast, go_sem, zA, simprocAttr]
 refine fun g41 => ⟨by omega, fun γ c hγ g7 => ?_⟩
 obtain rfl | ⟨p1, l, rfl⟩ : p = [] ∨ ∃ p1 l, p = p1 ++ [l] := by
  by_cases h0 : p = []
  ·exact .inl h0
  ·exact .inr ⟨_, _, (List.dropLast_concat_getLast h0).symm⟩
 ·simp at hn0
 have hidx : (((p1 ++ [l]).length : Nat) : Int) - 1 = ((p1.length : Nat) : Int) := by rw [List.length_append]; simp
 have hll := hl l (by simp)
 have hget : (p1 ++ [l])[p1.length]? = some l := by simp
 have hlt : p1.length < (p1 ++ [l]).length := by simp
 cases γ with
 | none => have := hγ rfl; simp at this
 | some gq =>
 refine Sat.drawnE [(1, 4), (4, 6), (4, 10), (1, 11), (1, 13), (4, 13), (6, 13), (10, 13), (11, 13), (1, 14)] [] [0, 1, 2, 3, 5, 6, 7, 8, 9, 10, 12, 15] (fun _ _ _ => none) (by kernel_rfl) (by kernel_rfl) ?_
 simp (disch := omega) only [push_cast, go_sem, zA, simprocAttr, hidx, hget, hlt, thrV_eq]
 refine fun g52 => ⟨by omega, by omega, fun γ1 c1 _ g61 => ⟨by omega, fun γ2 c2 _ => ⟨by omega, ?_⟩⟩⟩
 refine Sat.less (t' := upd (upd (upd (upd (upd noT 2 (.bool false)) 3 (.ptr 3 [] 0 0 g3 1)) 4 (.int .i64 kind)) 5 (.sl ((ordAll (p1 ++ [l]) kind).map Sn.V))) 7 (.ptr 7 [] 0 0 g7 1))
  (M' := (noM.set 3 (boxP (p1 ++ [l]) g3)).set 7 (.own 25 (some g7) 1 [.agg [.own 38 (some gq) c (p1.map thrV ++ [.own 40 γ2 c2 ((l ++ [Do.mk 1 2 3]).map Do.V)])]])) ?_ ?_
 rotate_left
 ·(refine zB ?_; repeat (first | exact zC | exact zD | refine zE (by decide) ?_ | refine zF ?_ ?_ | refine zG ?_ ?_)) <;> (try simp (disch := omega) only [push_cast, go_sem, zA, simprocAttr])
  ·rfl
  ·rw [set_last]; simp [Do.V]
 refine Sat.freezeC 7 [] 0 0 (n0 := .own 25 (some g7) 1 [.agg [.own 38 (some gq) c (p1.map thrV ++ [.own 40 γ2 c2 ((l ++ [Do.mk 1 2 3]).map Do.V)])]]) (d := .own 38 (some gq) c (p1.map thrV ++ [.own 40 γ2 c2 ((l ++ [Do.mk 1 2 3]).map Do.V)])) rfl rfl rfl ?_
 rw [fz_last]
 obtain ⟨q, hq⟩ : ∃ q, p1 ++ [l ++ [Do.mk 1 2 3]] = q := ⟨_, rfl⟩
 have hqo := specProgOk_fn q (by rw [← hq]; simp at hp ⊢; omega)
 have hqi := implOrderAll_fn q kind (by rw [← hq]; simp at hp ⊢; omega) (fun m hm => by
  rw [← hq] at hm
  rcases List.mem_append.1 hm with h | h
  ·exact hl' m (List.mem_append_left _ h)
  ·rw [List.mem_singleton.1 h]; simp; omega)
 rw [ordI_eq] at hqi
 rw [progV_eq] at hqo hqi
 rw [hq]
 refine Sat.of (S := [17]) (by kernel_rfl) ?_
 simp (disch := omega) only [push_cast, go_sem, zA, simprocAttr, boxP_eq]
 refine callR.pure hqo rfl rfl ?_
 cases hqk : progOk q
 ·simp (disch := omega) only [push_cast, go_sem, zA, simprocAttr]
 have hsn : Snoc (p1 ++ [l]) q p1.length ⟨1, 2, 3⟩ := by rw [← hq]; exact end_snoc (by rw [hq]; exact hqk) (.inl rfl)
 have hlist := store_list hsn rfl (usP_no hup) kind
 have h3q := h3 q
 rw [hlist] at hqi h3q
 have hsh : ∀ s ∈ ordAll (p1 ++ [l]) kind, ∃ a b c, s.ls = [a, b, c] := fun s hs => ls_two hs
 have hln := hn (p1 ++ [l]) kind
 generalize ordAll (p1 ++ [l]) kind = L at hqi h3q hsh hln
 simp (disch := omega) only [push_cast, go_sem, zA, simprocAttr]
 intro g70
 refine Sat.loop (σ := EvS × List SnG) (fun x => upd (upd (upd (upd (upd (upd (upd noT 2 (.bool false)) 3 (.ptr 3 [] 0 0 g3 1)) 4 (.int .i64 kind)) 5 (.sl (L.map Sn.V))) 7 (.ptr 7 [] 0 0 g7 1)) 8 (.msl 8 [] x.1.γ x.1.k x.1.c)) 9 (.int .i64 x.1.k))
  (fun x => ((noM.set 3 (boxP (p1 ++ [l]) g3)).set 7 (boxP q g7)).set 8 (.own x.1.e x.1.γ x.1.c (x.2.map SnG.V)))
  (fun x => x.1.k ≤ L.length ∧ (x.1.γ = none ∨ x.1.e = 34) ∧ x.2.map SnG.s = (L.take x.1.k).map (putS3 3)) (fun x => L.length - x.1.k) (⟨0, 34, some g70, 0⟩, []) (by simp) ?_ ?_
 ·(refine zB ?_; repeat (first | exact zC | exact zD | refine zE (by decide) ?_ | refine zF ?_ ?_ | refine zG ?_ ?_)) <;> (try simp (disch := omega) only [push_cast, go_sem, zA, simprocAttr])
  all_goals rfl
 rintro ⟨⟨k, e, γ, c'⟩, xs⟩ ⟨hk, hγ2, hxs⟩ J hJ
 refine Sat.of (S := [17]) (by kernel_rfl) ?_
 simp only at hk hγ2 hJ hxs
 have hxl : xs.length = k := by
  have := congrArg List.length hxs
  simp at this; omega
 have hγ' : (γ = none ∨ e = 34) = True := by simp only [hγ2]
 rcases Nat.lt_or_ge k L.length with hltk | hge
 ·obtain ⟨s, hx⟩ : ∃ s, L[k]? = some s := ⟨_, List.getElem?_eq_getElem hltk⟩
  obtain ⟨a, b, z, hls⟩ := hsh s (List.mem_of_getElem? hx)
  have htk := take_get hx
  simp (disch := omega) only [push_cast, go_sem, zA, simprocAttr, hltk]
  refine Sat.drawnE [(5, 20)] [] [0, 1, 2, 3, 4, 5, 6, 7, 8, 9, 10, 11, 12, 13, 14, 15, 16, 17, 18, 19, 21] (fun _ _ _ => none) (by kernel_rfl) (by kernel_rfl) ?_
  simp (disch := omega) only [push_cast, go_sem, zA, simprocAttr, hx, hltk, Sn.V_eq, hγ', hxl, hls, List.map_cons, List.map_nil]
  refine fun g101 g103 => ⟨by omega, fun γ3 c3 _ => ?_⟩
  refine hJ (⟨k + 1, 34, γ3, c3⟩, xs ++ [⟨g101, putS3 3 s⟩]) _ _ ⟨by dsimp only; omega, .inr rfl, ?_⟩ (by dsimp only; omega) ?_
  ·dsimp only
   rw [List.map_append, hxs, htk, List.map_append]; rfl
  dsimp only
  have eV : (SnG.mk g101 (putS3 3 s)).V = .agg [.sl (s.rd.map (V.int .i64)), .own 3 (some g101) 3 [.int .i64 a, .int .i64 b, .int .i64 3]] := by
   rw [SnG.V_eq, putS3, hls]; rfl
  rw [List.map_append, List.map_cons, List.map_nil, eV]
  (refine zB ?_; repeat (first | exact zC | exact zD | refine zE (by decide) ?_ | refine zF ?_ ?_ | refine zG ?_ ?_)) <;> (try simp (disch := omega) only [push_cast, go_sem, zA, simprocAttr])
  all_goals rfl
 ·have hkl : k = L.length := by omega
  subst hkl
  rw [List.take_length] at hxs
  simp (disch := omega) only [push_cast, go_sem, zA, simprocAttr]
  refine Sat.freezeT (upd (upd (upd noT 4 (.int .i64 kind)) 7 (.ptr 7 [] 0 0 g7 1)) 8 (.sl (((L.map (putS3 3))).map Sn.V))) (noM.set 7 (boxP q g7)) 8 (e := e) (γ := γ) (cap := c') (es := xs.map SnG.V) rfl ?_ ?_
  ·(refine zB ?_; repeat (first | exact zC | exact zD | refine zE (by decide) ?_ | refine zF ?_ ?_ | refine zG ?_ ?_)) <;> (try simp (disch := omega) only [push_cast, go_sem, zA, simprocAttr])
   rw [fz_snG, hxs, if_pos hxl.symm]
  refine Sat.of (S := []) (by kernel_rfl) ?_
  simp (disch := omega) only [push_cast, go_sem, zA, simprocAttr, boxP_eq]
  refine callR.pure hqi rfl rfl ?_
  simp (disch := omega) only [push_cast, go_sem, zA, simprocAttr]
  refine callR.pure h3q rfl rfl ?_
  simp (disch := omega) only [push_cast, go_sem, zA, simprocAttr]
end
section
open Go.ChangeShapes Go.WideShapes Go.ChangeAt Go.RowKit
theorem own : ownKnob Tryz.prog.godebug = none := by kernel_rfl
theorem laidOut' : laidOutB Tryz.prog = true := by kernel_rfl
theorem cells8 : Tryz.prog.cellsOf 5 = 1 := by kernel_rfl
theorem code_rp {imm : Nat → Prop} {W : World} {b off len cap : Nat} {zs : List Int} (hlz : len ≤ zs.length) (hl : len ≤ cap) (hi : imm b) (hcell : ∀ i, i < zs.length → W.cell? ⟨b, off + i, none⟩ = some (.int .u8 (zs.getD i 0))) :
  Rp imm W (codeV (zs.take len)) (.slice (some ⟨b, off, none⟩) len cap) := by
 by_cases h0 : len = 0
 ·subst h0; exact .sl0 _ _
 have hc0 := hcell 0 (by omega)
 unfold World.cell? at hc0
 split at hc0
 ·rename_i cur t fr hg
  have hln : (zs.take len).length = len := by rw [List.length_take]; omega
  have e : ((zs.take len).map (V.int .u8)).length = len := by rw [List.length_map]; exact hln
  have get : ∀ (i : Nat) (x : V), ((zs.take len).map (V.int .u8))[i]? = some x → x = .int .u8 (zs.getD i 0) ∧ i < len := by
   intro i x hx
   have hlt : i < len := by have := (List.getElem?_eq_some_iff.1 hx).1; omega
   rw [List.getElem?_map, List.getElem?_take_of_lt hlt] at hx
   obtain ⟨y, hy, rfl⟩ := Option.map_eq_some_iff.1 hx
   exact ⟨by rw [List.getD, hy]; rfl, hlt⟩
  have := Rp.sl (imm := imm) (w := W) ((zs.take len).map (V.int .u8)) b off cap 1 cur t fr (fun i _ => .int .u8 (zs.getD i 0)) hi hg (by omega)
   (fun i x hx => by rw [(get i x hx).1]; rfl)
   (fun i x j c hx hc => by
    obtain ⟨rfl, hlt⟩ := get i x hx
    have hj : j = 0 := by
     cases j with
     | zero => rfl
     | succ j => simp [V.cells] at hc
    subst hj
    have := hcell i (by omega)
    unfold World.cell? at this
    simp only [hg] at this
    simpa using this)
   (fun i x j c hx hc => by
    obtain ⟨rfl, hlt⟩ := get i x hx
    have hj : j = 0 := by
     cases j with
     | zero => rfl
     | succ j => simp [V.cells] at hc
    subst hj
    simp [V.cells] at hc
    subst hc
    exact .int _ _)
  rw [e] at this
  exact this
 ·cases hc0
theorem law_calls {f : FuncId} {W : World} {x : V} {v : Value} {imm : Nat → Prop} (h : Fp Tryz.prog f [x] (.bool true)) (hG : Glob imm W) (hi : ∀ g, imm g → g < W.heap.size) (hx : Rp imm W x v) :
  Calls Tryz.prog f #[v] W fun e w' => e = .returned (.bool true) ∧ Below W.heap.size W w' := by
 refine (h.fn imm W #[v] hG inv_no hi rfl ?_).mono ?_
 ·intro j c u hj hu
  cases j with
  | zero => simp at hj hu; subst hj; subst hu; exact hx
  | succ j => simp at hj
 ·rintro e w' ⟨r, r', m, imm', rfl, ⟨rfl, rfl⟩, h3, h4⟩
  rw [h3.bool_inv]
  exact ⟨rfl, h4.os, h4.tape, h4.output, h4.size, fun k hk => (h4.block k hk not_owns_no).1⟩
end
section
open Go.ChangeShapes Go.WideShapes Go.ChangeAt Go.RowKit
theorem laid_tab {H : Type} : (Rows.laid_math_bits_deBruijn64tab : DataW H) = Lib.tabData .u8 (Lib.deBruijn64tab.map fun n : Nat => (n : Int)) := rfl
theorem tabs_of {W : World} {rest : List (String × DataW Unit)} (h : laidMet Tryz.prog (("math/bits.deBruijn64tab", Rows.laid_math_bits_deBruijn64tab) :: rest) W) : ∀ x ∈ globT, Tab x.1 x.2 W := by
 rw [laid_tab] at h
 intro x hx
 simp only [globT, List.mem_cons, List.not_mem_nil, or_false] at hx
 subst hx
 intro j hj
 have hT := Lib.tabIs_of_head (t := 168) (e := 5) (n := 64) (g := (globT.headD (0, [])).1) (by kernel_rfl) (by kernel_rfl) Tryz.underlying168 Tryz.underlying5 cells8 (by kernel_rfl) h
 have := hT.cell (g := (globT.headD (0, [])).1) (by kernel_rfl) j (by rw [List.length_map]; exact hj)
 have e : (Lib.deBruijn64tab.map fun n : Nat => (n : Int)).getD j 0 = ((Lib.deBruijn64tab.getD j 0 : Nat) : Int) := by
  simp only [List.getD, List.getElem?_map]
  cases Lib.deBruijn64tab[j]? <;> rfl
 rw [e] at this
 exact this
theorem glob_of {W : World} {imm : Nat → Prop} (hT : ∀ x ∈ globT, Tab x.1 x.2 W) (hi : ∀ x ∈ globT, imm x.1) : Glob imm W := fun x hx => ⟨hi x hx, hT x hx⟩
theorem glob_lt {W : World} (hT : ∀ x ∈ globT, Tab x.1 x.2 W) : ∀ x ∈ globT, x.1 < W.heap.size := by
 intro x hx
 have h := hT x hx
 simp only [globT, List.mem_cons, List.not_mem_nil, or_false] at hx
 subst hx
 have := h 0 (by decide)
 unfold World.cell? at this
 split at this
 ·rename_i hh; exact (Array.getElem?_eq_some_iff.1 hh).1
 ·cases this
end
end Go.Proofs.YtkdolbffabmemaaGreatDoor
