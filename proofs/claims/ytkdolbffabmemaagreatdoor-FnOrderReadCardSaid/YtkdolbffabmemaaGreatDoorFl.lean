/-
 Contracts and plain laws.
-/
import Derived.Test.YtkdolbffabmemaaGreatDoorFa
import Derived.Test.YtkdolbffabmemaaGreatDoorFf
import Derived.Test.YtkdolbffabmemaaGreatDoorFk
import Derived.Test.YtkdolbffabmemaaGreatDoorRows
import Derived.ProofKit
import Derived.OpenShut
import Derived.ChangeSlices
import Derived.JoinedOf
import Derived.JoinedAt
import Derived.Deep.DeepHandedRow
import Derived.Lib.LaidTab
import Derived.Test.YtkdolbffabmemaaGreatDoorCards
import Derived.Test.YtkdolbffabmemaaGreatDoorTie
set_option linter.unusedSimpArgs false
set_option linter.unusedVariables false
set_option linter.unusedSectionVars false
namespace Go.Proofs.YtkdolbffabmemaaGreatDoor
section
open Go.RowKit
structure Snoc (p q : Prog) (t : Nat) (d : Do) : Prop where
 okp : progOk p = true
 okq : progOk q = true
 ev : evF 0 q = evF 0 p ++ [⟨t, d, false⟩]
 k : d.k = 1 ∨ d.k = 2
section
variable {p q : Prog} {t : Nat} {d : Do}
theorem Snoc.ds (h : Snoc p q t d) : (scene q).ds = (scene p).ds ++ [d] := by rw [ds_F, ds_F, h.ev]; simp
theorem Snoc.n (h : Snoc p q t d) : (events q).length = (events p).length + 1 := by rw [← evF_len, h.ev, List.length_append, evF_len]; rfl
theorem Snoc.old (h : Snoc p q t d) {i : Nat} {x : Fra} (hx : (evF 0 p)[i]? = some x) : (evF 0 q)[i]? = some x := by
 rw [h.ev, List.getElem?_append_left (List.getElem?_eq_some_iff.1 hx).1]; exact hx
theorem Snoc.cases (h : Snoc p q t d) {j : Nat} {y : Fra} (hy : (evF 0 q)[j]? = some y) : (j < (events p).length ∧ (evF 0 p)[j]? = some y) ∨ (j = (events p).length ∧ y = ⟨t, d, false⟩) := by
 rw [h.ev] at hy
 rcases Nat.lt_or_ge j (evF 0 p).length with h1 | h1
 ·rw [List.getElem?_append_left h1] at hy
  exact .inl ⟨by rw [← evF_len]; exact h1, hy⟩
 ·rw [List.getElem?_append_right h1] at hy
  have := (List.getElem?_eq_some_iff.1 hy).1
  simp at this
  have e : j - (evF 0 p).length = 0 := by omega
  rw [e] at hy
  simp at hy
  exact .inr ⟨by rw [← evF_len]; omega, hy.symm⟩
theorem Snoc.last (h : Snoc p q t d) : (evF 0 q)[(events p).length]? = some ⟨t, d, false⟩ := by
 rw [h.ev, ← evF_len, List.getElem?_append_right (Nat.le_refl _), Nat.sub_self]; rfl
theorem Snoc.pe (h : Snoc p q t d) : PE p q fun i => i := by
 have hn := evF_len p
 have new : ∀ j y, (evF 0 q)[j]? = some y → (¬ ∃ i, i < (evF 0 p).length ∧ i = j) → j = (events p).length ∧ y = ⟨t, d, false⟩ := by
  intro j y hy hnx
  rcases h.cases hy with ⟨h1, _⟩ | h1
  ·exact absurd ⟨j, by omega, rfl⟩ hnx
  ·exact h1
 refine PE.of h.okp h.okq (fun i j h _ => h) (fun i x hx => ⟨x, h.old hx, Alk.refl x⟩) (fun j y hy hnx hr i hi => ?_) (fun j y hy hnx hk => ?_) (fun j y hy hnx => ?_)
 ·have := (new j y hy hnx).1; omega
 ·obtain ⟨_, rfl⟩ := new j y hy hnx
  have := h.k
  dsimp only at hk
  omega
 ·obtain ⟨_, rfl⟩ := new j y hy hnx
  have := h.k
  left; dsimp only; omega
theorem Snoc.pek (h : Snoc p q t d) : PEk p q fun i => i := PEk.of fun i x hx => ⟨x, h.old hx, KLe.refl x⟩
theorem Snoc.pek' (h : Snoc p q t d) : PEk' p q fun i => i := PEk'.of fun i x hx => ⟨x, h.old hx, KLe.refl x⟩
theorem Snoc.wtin (h : Snoc p q t d) : ∀ e i, WtIn q e i → (∃ e', e' < (events p).length ∧ e' = e) ∧ ∃ i', i' < (events p).length ∧ i' = i := by
 intro e i hw
 have hn := h.n
 have hl := (F_get h.last)
 refine ⟨⟨e, ?_, rfl⟩, ⟨i, ?_, rfl⟩⟩
 ·rcases Nat.lt_or_ge e (events p).length with h1 | h1
  ·exact h1
  ·have he := hw.el
   have e1 : e = (events p).length := by omega
   have := hw.late
   rw [e1, hl.2.2.2.1] at this; cases this
 ·rcases Nat.lt_or_ge i (events p).length with h1 | h1
  ·exact h1
  ·have he := hw.il
   have e1 : i = (events p).length := by omega
   have := hw.k7
   rw [e1, hl.2.2.2.2.2] at this
   have := h.k
   dsimp only at *
   omega
theorem lft_map (r : List Int) : r.map (lft fun i => i) = r := by
 have : r.map (lft fun i => i) = r.map id := List.map_congr_left fun z _ => lft_id z
 rw [this, List.map_id]
theorem Snoc.hld (h : Snoc p q t d) {x y : Exe} (m : Mat (scene p).ds (fun i => i) x y) (hx : OKW (scene p).ds x) {kind : Int} (hh : Hld p x kind)
  (hs : ∀ b, b < (events q).length → readS q y (events p).length b = false ∧ overS q y (events p).length b = false) : Hld q y kind := by
 have hn := h.n
 refine Hld.ends h.pe h.pek' m hx (src := fun _ => False) (snk := fun j => j = (events p).length) h.wtin (fun j hj => ?_) (fun i hi => ⟨id, by omega⟩) (fun k hk a b ha hb hf => hf.elim) (fun k hk a b ha hb he => ?_) hh
 ·rcases Nat.lt_or_ge j (events p).length with h1 | h1
  ·exact .inl ⟨j, h1, rfl⟩
  ·exact .inr (.inr (by omega))
 ·subst he
  obtain ⟨h1, h2⟩ := hs b hb
  have ho : ownB (events q) (events p).length b = false := by
   rw [Bool.eq_false_iff]
   intro ho
   have := (own_iff.1 ho).1
   omega
  have ht : toldS q y k (events p).length b = false := by rw [toldS, h1, h2]; simp
  rw [netR, ht, Bool.or_false]
  rcases stays_cases q k (events p).length b with ⟨_, e⟩ | ⟨_, e⟩ | ⟨_, e⟩ | ⟨_, _, _, e⟩
  ·rw [e, ho]
  ·rw [e, ho]; rfl
  ·rw [e, looseS, ho]; rfl
  ·rw [e, ho]; rfl
end
def rlD (ds : List Do) : List Nat := (List.range ds.length).filter fun i => (ds[i]?.getD default).reads
theorem rlD_snoc (ds : List Do) (d : Do) : rlD (ds ++ [d]) = rlD ds ++ (if d.reads then [ds.length] else []) := by
 rw [rlD, List.length_append, List.length_cons, List.length_nil, Nat.zero_add, List.range_succ, List.filter_append]
 congr 1
 ·refine List.filter_congr fun i hi => ?_
  rw [List.getElem?_append_left (List.mem_range.1 hi)]
 ·simp only [List.filter_cons, List.filter_nil, List.getElem?_append_right (Nat.le_refl _), Nat.sub_self]
  rfl
theorem rlD_mem {ds : List Do} {i : Nat} (h : i ∈ rlD ds) : ∃ d, ds[i]? = some d ∧ d.uses = true := by
 obtain ⟨h1, h2⟩ := List.mem_filter.1 h
 have hd := List.getElem?_eq_getElem (List.mem_range.1 h1)
 rw [hd, Option.getD_some] at h2
 exact ⟨_, hd, uses_or.2 (.inl h2)⟩
theorem seenF_rl (p : Prog) (x : Exe) : seenF p x = ⟨(rlD (scene p).ds).map (vF (scene p).ds x.fr), x.od.map (lsF (vF (scene p).ds x.fr))⟩ := seenF_eq p x
def cutS (s : Sn) : Sn := ⟨s.rd.take (s.rd.length - 1), s.ls⟩
section
variable {p q : Prog} {t : Nat} {d : Do}
theorem read_seen (h : Snoc p q t d) (hr : d.reads = true) {x y : Exe} (m : Mat (scene p).ds (fun i => i) x y) (hx : OKW (scene p).ds x) (ho : y.od = x.od) : ∃ v, seenF q y = ⟨(seenF p x).rd ++ [v], (seenF p x).ls⟩ := by
 have e := h.pe.e
 refine ⟨vF (scene q).ds y.fr (scene p).ds.length, ?_⟩
 rw [seenF_rl, seenF_rl, h.ds, rlD_snoc, hr, if_pos rfl, List.map_append]
 congr 1
 ·congr 1
  refine List.map_congr_left fun i hi => ?_
  obtain ⟨d', hd, hu⟩ := rlD_mem hi
  rw [← h.ds]
  exact m.vF e hx hd hu
 ·rw [ho]
  apply List.ext_getElem?
  intro k
  rw [List.getElem?_map, List.getElem?_map]
  cases hk : x.od[k]? with
  | none => rfl
  | some r =>
   have hk3 : k < 3 := by have := (List.getElem?_eq_some_iff.1 hk).1; rw [hx.odl] at this; exact this
   have := m.lsF e hx hk3 hk
   rw [lft_map, h.ds] at this
   simp only [Option.map_some, this]
theorem read_ord (h : Snoc p q t d) (hr : d.reads = true) {k : Int} (hk : inB k 1 3 = true) :
  (∀ s ∈ ordAll q k, s.rd ≠ [] ∧ cutS s ∈ ordAll p k) ∧ ∀ s ∈ ordAll p k, ∃ s' ∈ ordAll q k, cutS s' = s := by
 have hn := h.n
 have nw : d.writes = false := (k_reads hr).1
 have cut : ∀ (s : Sn) (v : Int), cutS ⟨s.rd ++ [v], s.ls⟩ = s := by
  intro s v; simp [cutS]
 constructor
 ·intro s hs
  obtain ⟨_, _, y, hy, hh, rfl⟩ := mem_ordW.1 hs
  have him : ∀ (j : Nat) (d' : Do), (scene q).ds[j]? = some d' → d'.writes = true → ∃ i, i < (scene p).ds.length ∧ i = j := by
   intro j d' hd hw
   rw [h.ds] at hd
   rcases Nat.lt_or_ge j (scene p).ds.length with h1 | h1
   ·exact ⟨j, h1, rfl⟩
   ·rw [List.getElem?_append_right h1] at hd
    have := (List.getElem?_eq_some_iff.1 hd).1
    simp at this
    have e0 : j - (scene p).ds.length = 0 := by omega
    rw [e0] at hd
    simp at hd
    rw [← hd, nw] at hw; cases hw
  obtain ⟨x, hx, m, ho⟩ := restrict h.pe.e (scene_copy h.okp) hy (places h.okp) fun j d' hd hw => .inl (him j d' hd hw)
  have ho := ho him
  rw [show (List.map (lft fun i => i)) = fun r => r from funext lft_map, List.map_id'] at ho
  obtain ⟨v, hv⟩ := read_seen h hr m hx ho
  rw [hv]
  refine ⟨by simp, ?_⟩
  rw [cut]
  exact mem_ordW.2 ⟨h.okp, hk, x, hx, hh.back h.pe h.pek m hx, rfl⟩
 ·intro s hs
  obtain ⟨_, _, x, hx, hh, rfl⟩ := mem_ordW.1 hs
  have hsl := scene_n p
  have fq := F_get h.last
  have hpl := formed_place (scene_formed h.okq _ (List.mem_of_getElem? fq.2.1)) (uses_or.2 (.inl hr))
  dsimp only at hpl
  obtain ⟨row, r1, r2, r3⟩ := hx.od d.p.toNat (by omega)
  have hkk : ((d.p.toNat : Nat) : Int) = d.p := by omega
  obtain ⟨z, hz⟩ : ∃ z : Int, (row = [] ∧ z = -1) ∨ row[row.length - 1]? = some z := by
   cases hrow : row with
   | nil => exact ⟨-1, .inl ⟨rfl, rfl⟩⟩
   | cons a r => exact ⟨_, .inr (List.getElem?_eq_getElem (by simp))⟩
  obtain ⟨y, hy⟩ : ∃ y : Exe, y = ⟨x.fr ++ [z], x.od⟩ := ⟨_, rfl⟩
  have yold : ∀ i z', i < (scene p).ds.length → x.fr[i]? = some z' → y.fr[i]? = some z' := by
   intro i z' hi h1
   rw [hy]
   dsimp only
   rw [List.getElem?_append_left (by rw [hx.frl]; exact hi)]; exact h1
  have ynew : y.fr[(scene p).ds.length]? = some z := by
   rw [hy]
   dsimp only
   rw [List.getElem?_append_right (by rw [hx.frl]; omega), hx.frl, Nat.sub_self]; rfl
  have m : Mat (scene p).ds (fun i => i) x y := by
   refine ⟨fun i z' hi h1 => by rw [lft_id]; exact yold i z' hi h1, fun k hk => .inl ?_⟩
   obtain ⟨r, h1, _⟩ := hx.od k hk
   exact ⟨r, h1, by rw [lft_map, hy]; exact h1⟩
  have gold : ∀ {i : Nat} {d' : Do}, (scene p).ds[i]? = some d' → (scene q).ds[i]? = some d' := by
   intro i d' h1
   rw [h.ds, List.getElem?_append_left (List.getElem?_eq_some_iff.1 h1).1]; exact h1
  have gcases : ∀ {i : Nat} {d' : Do}, (scene q).ds[i]? = some d' → (scene p).ds[i]? = some d' ∨ (i = (scene p).ds.length ∧ d' = d) := by
   intro i d' h1
   rw [h.ds] at h1
   rcases Nat.lt_or_ge i (scene p).ds.length with h2 | h2
   ·rw [List.getElem?_append_left h2] at h1; exact .inl h1
   ·rw [List.getElem?_append_right h2] at h1
    have := (List.getElem?_eq_some_iff.1 h1).1
    simp at this
    have e0 : i - (scene p).ds.length = 0 := by omega
    rw [e0] at h1
    simp at h1
    exact .inr ⟨by omega, h1.symm⟩
  have zrow : z ≠ -1 → ∃ (b : Nat) (d' : Do), z = b ∧ (scene p).ds[b]? = some d' ∧ d'.writes = true ∧ d'.p = d.p := by
   intro hz1
   rcases hz with ⟨_, h1⟩ | h1
   ·exact absurd h1 hz1
   ·obtain ⟨b, d', k1, k2, k3, k4⟩ := (r3 z).1 (List.mem_of_getElem? h1)
    exact ⟨b, d', k1, k2, k3, by omega⟩
  have hok : OKW (scene q).ds y := by
   refine ⟨by rw [hy, h.ds]; simp [hx.frl], by rw [hy]; exact hx.odl, fun k hk => ?_, fun i d' f hd hf hr' => ?_, fun i d' f hd hf hr' => ?_, fun i d' hd hu => ?_⟩
   ·obtain ⟨r, h1, h2, h3⟩ := hx.od k hk
    refine ⟨r, by rw [hy]; exact h1, h2, fun z' => ?_⟩
    rw [h3]
    constructor
    ·rintro ⟨b, d', k1, k2, k3, k4⟩; exact ⟨b, d', k1, gold k2, k3, k4⟩
    ·rintro ⟨b, d', k1, k2, k3, k4⟩
     rcases gcases k2 with k5 | ⟨_, rfl⟩
     ·exact ⟨b, d', k1, k5, k3, k4⟩
     ·rw [nw] at k3; cases k3
   ·rcases gcases hd with h1 | ⟨rfl, rfl⟩
    ·have hi := (List.getElem?_eq_some_iff.1 h1).1
     obtain ⟨z', hz'⟩ : ∃ z', x.fr[i]? = some z' := ⟨_, List.getElem?_eq_getElem (by rw [hx.frl]; exact hi)⟩
     rw [yold i z' hi hz'] at hf
     cases hf
     rcases hx.rd i d' _ h1 hz' hr' with k1 | ⟨b, d2, k1, k2, k3, k4⟩
     ·exact .inl k1
     ·exact .inr ⟨b, d2, k1, gold k2, k3, k4⟩
    ·rw [ynew] at hf
     cases hf
     by_cases hz1 : z = -1
     ·exact .inl hz1
     ·obtain ⟨b, d2, k1, k2, k3, k4⟩ := zrow hz1
      exact .inr ⟨b, d2, k1, gold k2, k3, k4⟩
   ·rcases gcases hd with h1 | ⟨rfl, rfl⟩
    ·have hi := (List.getElem?_eq_some_iff.1 h1).1
     obtain ⟨z', hz'⟩ : ∃ z', x.fr[i]? = some z' := ⟨_, List.getElem?_eq_getElem (by rw [hx.frl]; exact hi)⟩
     rw [yold i z' hi hz'] at hf
     cases hf
     exact hx.nr i d' _ h1 hz' hr'
    ·rw [hr] at hr'; cases hr'
   ·rcases gcases hd with h1 | ⟨rfl, rfl⟩
    ·obtain ⟨v, hv⟩ := hx.ends i d' h1 hu
     exact ⟨v, m.val h.pe.e hv⟩
    ·by_cases hz1 : z = -1
     ·subst hz1
      exact ⟨0, .no hd hr ynew⟩
     ·obtain ⟨b, d2, k1, k2, k3, k4⟩ := zrow hz1
      obtain ⟨v, hv⟩ := hx.ends b d2 k2 (uses_or.2 (.inr k3))
      exact ⟨v, .rd hd hr (by rw [ynew, k1]) (m.val h.pe.e hv)⟩
  have hld : Hld q y k := by
   refine h.hld m hx hh fun b hb => ?_
   have dn : dsA q (events p).length = d := fq.2.2.2.2.1
   refine ⟨by rw [readS, dn, nw]; simp, ?_⟩
   rw [Bool.eq_false_iff]
   intro hov
   simp only [overS, sameS, Bool.and_eq_true, Bool.not_eq_true', beq_eq_false_iff_ne, decide_eq_true_eq, beq_iff_eq, dn] at hov
   obtain ⟨⟨⟨wb, hne⟩, _, hpp⟩, hrk⟩ := hov
   have hyr : y.od[d.p.toNat]? = some row := by rw [hy]; exact r1
   have hbp : b < (events p).length := by omega
   have hdb := ds_at hbp
   have edb : dsA q b = dsA p b := by rw [dsA, gold hdb]; rfl
   rw [edb] at wb hpp
   have mb : (b : Int) ∈ row := (r3 b).2 ⟨b, _, rfl, hdb, wb, by omega⟩
   obtain ⟨j, hj⟩ := List.getElem?_of_mem mb
   have hjl := (List.getElem?_eq_some_iff.1 hj).1
   rw [rankS, rankS, dn, nw, hr, edb, wb, ← hpp, hyr, Option.getD_some, if_pos rfl, ← hsl, ynew, Option.getD_some, idxOf_at r2 hj] at hrk
   simp only [Bool.false_eq_true, if_false, if_true] at hrk
   rcases hz with ⟨h1, _⟩ | h1
   ·rw [h1] at hjl; simp at hjl
   ·rw [idxOf_at r2 h1] at hrk
    omega
  obtain ⟨v, hv⟩ := read_seen h hr m hx (by rw [hy])
  exact ⟨_, mem_ordW.2 ⟨h.okq, hk, y, hok, hld, rfl⟩, by rw [hv, cut]⟩
theorem read_sort (h : Snoc p q t d) (hr : d.reads = true) {k : Int} (hk : inB k 1 3 = true) : seenS ((ordAll q k).map cutS) = ordAll p k := by
 obtain ⟨h1, h2⟩ := read_ord h hr hk
 refine seenS_ext (ord_strict _ _) fun s => ?_
 rw [List.mem_map]
 constructor
 ·rintro ⟨s', hs, rfl⟩; exact (h1 s' hs).2
 ·intro hs; exact h2 s hs
end
end
section
open Go.RowKit
def readerP (p : Prog) (pl : Int) : Prog := p ++ [[⟨2, pl, 0⟩]]
theorem lpReader_fn (p : Prog) (pl : Int) (hp : p.length < 2 ^ 20) : Fp Tryz.prog 18 [progV p, .int .i64 pl] (.tuple [progV (readerP p pl), .bool (progOk (readerP p pl))]) := by
 have hok := specProgOk_fn (readerP p pl) (by simp [readerP]; omega)
 rw [progV_eq] at hok
 refine Fc.start (S := [2]) Tryz.func18 Tryz.ntmps18 Tryz.results18 rfl (by decide) rfl (by kernel_rfl) ?_
 simp (disch := omega) only [push_cast, go_sem, zA, simprocAttr, progV_eq]
 intro g2 g4
 refine fun g => ⟨by omega, fun γ c _ g13 g14 => ⟨by omega, fun γ' c' _ g6 => ?_⟩⟩
 refine Sat.less (t' := upd (upd (upd noT 4 (.ptr 4 [] 0 0 g4 1)) 5 (.bool false)) 6 (.ptr 6 [] 0 0 g6 1))
  (M' := (noM.set 4 (.own 25 (some g4) 1 [.agg [.own 0 none 0 []]])).set 6 (.own 25 (some g6) 1 [.agg [.own 38 γ' c' (p.map thrV ++ [.own 40 (some g13) 1 [Do.V ⟨2, pl, 0⟩]])]])) ?_ ?_
 rotate_left
 ·(refine zB ?_; repeat (first | exact zC | exact zD | refine zE (by decide) ?_ | refine zF ?_ ?_ | refine zG ?_ ?_)) <;> (try simp (disch := omega) only [push_cast, go_sem, zA, simprocAttr])
  rfl
 refine Sat.freezeC 6 [] 0 0 (n0 := .own 25 (some g6) 1 [.agg [.own 38 γ' c' (p.map thrV ++ [.own 40 (some g13) 1 [Do.V ⟨2, pl, 0⟩]])]]) (d := .own 38 γ' c' (p.map thrV ++ [.own 40 (some g13) 1 [Do.V ⟨2, pl, 0⟩]])) rfl rfl rfl ?_
 have hfz : (V.own 38 γ' c' (p.map thrV ++ [.own 40 (some g13) 1 [Do.V ⟨2, pl, 0⟩]])).fz = .sl ((readerP p pl).map thrV) := by
  simp only [V.fz, fzs_map, List.map_append, List.map_cons, List.map_nil, List.map_map, V.sl.injEq, readerP, fz_Do]
  rfl
 rw [hfz]
 refine Sat.of (S := []) (by kernel_rfl) ?_
 refine Sat.drawnE [(3, 0), (3, 1)] [] [0, 1, 2, 4] (pureT [(16, .bool (progOk (readerP p pl)))]) (by kernel_rfl) (by kernel_rfl) ?_
 simp (disch := omega) only [push_cast, go_sem, zA, simprocAttr]
 refine runD_pure rfl hok rfl rfl ?_ ?_
 ·rfl
 simp (disch := omega) only [push_cast, go_sem, zA, simprocAttr, progV_eq]
theorem cutS_eq (s : Sn) : (cutS s).V = .agg [.sl ((s.rd.take (s.rd.length - 1)).map (V.int .i64)), .sl (s.ls.map (V.int .i64))] := rfl
theorem cutS_small {s : Sn} (h : s.small) : (cutS s).small := ⟨by have := h.1; simp only [cutS, List.length_take]; omega, h.2⟩
theorem lpCut_fn (l : List Sn) (hs : ∀ s ∈ l, s.small) (hl : l.length < 2 ^ 40) : Fp Tryz.prog 19 [.sl (l.map Sn.V)] (.sl ((seenS (l.map cutS)).map Sn.V)) := by
 have hso := seenSort_fn (l.map cutS) (fun s h => by obtain ⟨t, ht, rfl⟩ := List.mem_map.1 h; exact cutS_small (hs t ht)) (by simpa using hl)
 refine Fc.start (S := [9]) Tryz.func19 Tryz.ntmps19 Tryz.results19 rfl (by decide) rfl (by kernel_rfl) ?_
 simp (disch := omega) only [push_cast, go_sem, zA, simprocAttr]
 intro g6
 refine Sat.loop (σ := EvS) (fun x => upd (upd (upd noT 0 (.sl (l.map Sn.V))) 4 (.int .i64 x.k)) 3 (.msl 3 [] x.γ x.k x.c))
  (fun x => noM.set 3 (.own x.e x.γ x.c (((l.take x.k).map cutS).map Sn.V)))
  (fun x => x.k ≤ l.length ∧ (x.γ = none ∨ x.e = 34)) (fun x => l.length - x.k) ⟨0, 34, some g6, 0⟩ (by simp) ?_ ?_
 ·(refine zB ?_; repeat (first | exact zC | exact zD | refine zE (by decide) ?_ | refine zF ?_ ?_ | refine zG ?_ ?_)) <;> (try simp (disch := omega) only [push_cast, go_sem, zA, simprocAttr])
  all_goals rfl
 rintro ⟨k, e, γ, c⟩ ⟨hk, hγ⟩ J hJ
 refine Sat.of (S := []) (by kernel_rfl) ?_
 simp only at hk hγ hJ
 have hγ' : (γ = none ∨ e = 34) = True := by simp only [hγ]
 rcases Nat.lt_or_ge k l.length with hlt | hge
 ·obtain ⟨s, hx⟩ : ∃ s, l[k]? = some s := ⟨_, List.getElem?_eq_getElem hlt⟩
  have hsm := (hs s (List.mem_of_getElem? hx)).1
  have htk := take_get hx
  have htl : (l.take k).length = k := by rw [List.length_take]; omega
  by_cases h0 : (s.rd.length : Int) > 0
  ·simp (disch := omega) only [push_cast, go_sem, zA, simprocAttr, hx, hlt, Sn.V_eq, h0]
   refine Sat.drawnE [] [] [0, 1, 2, 3, 4, 5, 6, 7, 8, 9, 10, 11, 12, 13] (fun _ _ _ => none) (by kernel_rfl) (by kernel_rfl) ?_
   simp (disch := omega) only [push_cast, go_sem, zA, simprocAttr, hx, hlt, Sn.V_eq, hγ', htl]
   have e1 : List.take ((s.rd.length : Int) - 1).toNat (s.rd.map (V.int .i64)) = (s.rd.take (s.rd.length - 1)).map (V.int .i64) := by
    rw [show ((s.rd.length : Int) - 1).toNat = s.rd.length - 1 by omega, List.map_take]
   refine ⟨⟨by omega, by omega, fun x hx => by obtain ⟨_, _, rfl⟩ := List.mem_map.1 hx; rfl⟩, fun g37 => ⟨by omega, fun γ2 c2 _ => ?_⟩⟩
   refine hJ ⟨k + 1, 34, γ2, c2⟩ _ _ ⟨by dsimp only; omega, .inr rfl⟩ (by dsimp only; omega) ?_
   dsimp only
   rw [htk, List.map_append, List.map_append, List.map_cons, List.map_nil, List.map_cons, List.map_nil, cutS_eq]
   (refine zB ?_; repeat (first | exact zC | exact zD | refine zE (by decide) ?_ | refine zF ?_ ?_ | refine zG ?_ ?_)) <;> (try simp (disch := omega) only [push_cast, go_sem, zA, simprocAttr])
   all_goals first | rfl | (rw [e1])
  ·have h0' : s.rd = [] := List.eq_nil_of_length_eq_zero (by omega)
   simp (disch := omega) only [push_cast, go_sem, zA, simprocAttr, hx, hlt, Sn.V_eq, h0]
   refine Sat.drawnE [] [] [0, 1, 2, 3, 4, 5, 6, 7, 8, 9, 10, 11, 12, 13] (fun _ _ _ => none) (by kernel_rfl) (by kernel_rfl) ?_
   simp (disch := omega) only [push_cast, go_sem, zA, simprocAttr, hx, hlt, Sn.V_eq, hγ', htl]
   refine ⟨⟨by omega, fun x hx => by obtain ⟨_, _, rfl⟩ := List.mem_map.1 hx; rfl⟩, fun g37 => ⟨by omega, fun γ2 c2 _ => ?_⟩⟩
   refine hJ ⟨k + 1, 34, γ2, c2⟩ _ _ ⟨by dsimp only; omega, .inr rfl⟩ (by dsimp only; omega) ?_
   dsimp only
   rw [htk, List.map_append, List.map_append, List.map_cons, List.map_nil, List.map_cons, List.map_nil, cutS_eq, h0']
   (refine zB ?_; repeat (first | exact zC | exact zD | refine zE (by decide) ?_ | refine zF ?_ ?_ | refine zG ?_ ?_)) <;> (try simp (disch := omega) only [push_cast, go_sem, zA, simprocAttr])
   all_goals rfl
 ·have hkl : k = l.length := by omega
  subst hkl
  simp (disch := omega) only [push_cast, go_sem, zA, simprocAttr, List.take_length]
  refine Sat.freezeT (upd noT 3 (.sl ((l.map cutS).map Sn.V))) noM 3 (e := e) (γ := γ) (cap := c) (es := (l.map cutS).map Sn.V) rfl ?_ ?_
  ·(refine zB ?_; repeat (first | exact zC | exact zD | refine zE (by decide) ?_ | refine zF ?_ ?_ | refine zG ?_ ?_)) <;> (try simp (disch := omega) only [push_cast, go_sem, zA, simprocAttr])
  refine Sat.of (S := []) (by kernel_rfl) ?_
  simp (disch := omega) only [push_cast, go_sem, zA, simprocAttr]
  refine callR.pure hso rfl rfl ?_
  simp (disch := omega) only [push_cast, go_sem, zA, simprocAttr]
theorem ok_sub {p : Prog} {l : List Do} (h : progOk (p ++ [l]) = true) : progOk p = true := by
 simp only [progOk, Bool.and_eq_true, decide_eq_true_eq, List.all_eq_true] at h ⊢
 have e1 : stepsP (p ++ [l]) = stepsP p + l.length := by simp [stepsP]
 have e2 : usesP (p ++ [l]) = usesP p + usesOf l := by simp [usesP]
 rw [e1, e2] at h
 refine ⟨⟨⟨by have := h.1.1.1; simp at this; omega, fun m hm => h.1.1.2 m (List.mem_append_left _ hm)⟩, by omega⟩, by omega⟩
theorem reader_snoc {p : Prog} {pl : Int} (h : progOk (readerP p pl) = true) : Snoc p (readerP p pl) p.length ⟨2, pl, 0⟩ := by
 refine ⟨ok_sub h, h, ?_, .inr rfl⟩
 rw [readerP, evF_app]
 simp [evF, thF, stF]
theorem sort_any {p q : Prog} {t : Nat} {d : Do} (h : Snoc p q t d) (hr : d.reads = true) (k : Int) : seenS ((ordAll q k).map cutS) = ordAll p k := by
 cases hk : inB k 1 3
 ·have e1 : ordAll q k = [] := by rw [ordAll, hk, Bool.and_false]; rfl
  have e2 : ordAll p k = [] := by rw [ordAll, hk, Bool.and_false]; rfl
  rw [e1, e2, List.map_nil, seenS_eq]; rfl
 ·exact read_sort h hr hk
theorem lawOrderReader_fn (bs ms : List Int) (hb : Code8 bs) : Fp Tryz.prog 5 [codeV bs, codeV ms] (.bool true) := by
 refine Fc.start (S := []) Tryz.func5 Tryz.ntmps5 Tryz.results5 rfl (by decide) rfl (by kernel_rfl) ?_
 by_cases h : (1048576 : Int) < bs.length
 ·simp (disch := omega) only [push_cast, go_sem, zA, simprocAttr, codeV_eq, h]
 by_cases h' : (1048576 : Int) < ms.length
 ·simp (disch := omega) only [push_cast, go_sem, zA, simprocAttr, codeV_eq, h, h']
 simp (disch := omega) only [push_cast, go_sem, zA, simprocAttr, codeV_eq, h, h']
 refine callR.ex (DrawOrderAll_fn bs hb (by omega)) rfl rfl ?_
 rintro r ⟨p, kind, rfl, hp, hl⟩
 have hl' : ∀ l ∈ p, l.length < 2 ^ 40 := fun l h => by have := hl l h; omega
 have hn := fun p k => (show (ordAll p k).length < 2 ^ 40 by have := ord_len p k; omega)
 have h1 := implOrderAll_fn p kind (by omega) hl'
 have h2 := specOrderAll_fn p kind (by omega)
 rw [ordI_eq] at h1
 have h3 := lpList_fn (ordAll p kind) (ordAll p kind) ord_small ord_small (hn _ _) (hn _ _)
 rw [decide_eq_true rfl] at h3
 obtain ⟨pl, hpl⟩ : ∃ pl : Int, ((ms.length : Nat) : Int).tmod 3 = pl := ⟨_, rfl⟩
 have h4 := lpReader_fn p pl (by omega)
 rw [progV_eq] at h1 h2
 rw [progV_eq, progV_eq] at h4
 cases hok : progOk (readerP p pl)
 ·rw [hok] at h4
  simp (disch := omega) only [push_cast, go_sem, zA, simprocAttr, progV_eq, hpl]
  intro g3
  refine callR.pure h1 rfl rfl ?_
  simp (disch := omega) only [push_cast, go_sem, zA, simprocAttr, hpl]
  refine callR.pure h4 rfl rfl ?_
  simp (disch := omega) only [push_cast, go_sem, zA, simprocAttr]
  intro g6
  refine callR.pure h2 rfl rfl ?_
  simp (disch := omega) only [push_cast, go_sem, zA, simprocAttr]
  refine callR.pure h3 rfl rfl ?_
  simp (disch := omega) only [push_cast, go_sem, zA, simprocAttr]
  refine callR.pure h2 rfl rfl ?_
  simp (disch := omega) only [push_cast, go_sem, zA, simprocAttr]
  refine callR.pure h3 rfl rfl ?_
  simp (disch := omega) only [push_cast, go_sem, zA, simprocAttr]
 ·rw [hok] at h4
  have h5 := implOrderAll_fn (readerP p pl) kind (by simp [readerP]; omega) (fun l h => by
   rcases List.mem_append.1 h with h | h
   ·exact hl' l h
   ·rw [List.mem_singleton.1 h]; simp)
  rw [ordI_eq, progV_eq] at h5
  have h6 := lpCut_fn (ordAll (readerP p pl) kind) ord_small (hn _ _)
  rw [sort_any (reader_snoc hok) rfl] at h6
  simp (disch := omega) only [push_cast, go_sem, zA, simprocAttr, progV_eq, hpl]
  intro g3
  refine callR.pure h1 rfl rfl ?_
  simp (disch := omega) only [push_cast, go_sem, zA, simprocAttr, hpl]
  refine callR.pure h4 rfl rfl ?_
  simp (disch := omega) only [push_cast, go_sem, zA, simprocAttr]
  intro g6
  refine callR.pure h2 rfl rfl ?_
  simp (disch := omega) only [push_cast, go_sem, zA, simprocAttr]
  refine callR.pure h3 rfl rfl ?_
  simp (disch := omega) only [push_cast, go_sem, zA, simprocAttr]
  refine callR.pure h5 rfl rfl ?_
  simp (disch := omega) only [push_cast, go_sem, zA, simprocAttr]
  refine callR.pure h6 rfl rfl ?_
  simp (disch := omega) only [push_cast, go_sem, zA, simprocAttr]
  refine callR.pure h3 rfl rfl ?_
  simp (disch := omega) only [push_cast, go_sem, zA, simprocAttr]
end
section
open Go.ChangeShapes Go.WideShapes Go.ChangeAt Go.RowKit
theorem own : ownKnob Tryz.prog.godebug = none := by kernel_rfl
theorem laidOut' : laidOutB Tryz.prog = true := by kernel_rfl
theorem cells8 : Tryz.prog.cellsOf 5 = 1 := by kernel_rfl
theorem code_rp {imm : Nat → Prop} {W : World} {b off len cap : Nat} {zs : List Int} (hlz : len ≤ zs.length) (hl : len ≤ cap) (hi : imm b) (hcell : ∀ i, i < zs.length → W.cell? ⟨b, off + i, none⟩ = some (.int .u8 (zs.getD i 0))) :
  Rp imm W (codeV (zs.take len)) (.slice (some ⟨b, off, none⟩) len cap) := by
 by_cases h0 : len = 0
 ·subst h0; exact .sl0 _ _
 have hc0 := hcell 0 (by omega)
 unfold World.cell? at hc0
 split at hc0
 ·rename_i cur t fr hg
  have hln : (zs.take len).length = len := by rw [List.length_take]; omega
  have e : ((zs.take len).map (V.int .u8)).length = len := by rw [List.length_map]; exact hln
  have get : ∀ (i : Nat) (x : V), ((zs.take len).map (V.int .u8))[i]? = some x → x = .int .u8 (zs.getD i 0) ∧ i < len := by
   intro i x hx
   have hlt : i < len := by have := (List.getElem?_eq_some_iff.1 hx).1; omega
   rw [List.getElem?_map, List.getElem?_take_of_lt hlt] at hx
   obtain ⟨y, hy, rfl⟩ := Option.map_eq_some_iff.1 hx
   exact ⟨by rw [List.getD, hy]; rfl, hlt⟩
  have := Rp.sl (imm := imm) (w := W) ((zs.take len).map (V.int .u8)) b off cap 1 cur t fr (fun i _ => .int .u8 (zs.getD i 0)) hi hg (by omega)
   (fun i x hx => by rw [(get i x hx).1]; rfl)
   (fun i x j c hx hc => by
    obtain ⟨rfl, hlt⟩ := get i x hx
    have hj : j = 0 := by
     cases j with
     | zero => rfl
     | succ j => simp [V.cells] at hc
    subst hj
    have := hcell i (by omega)
    unfold World.cell? at this
    simp only [hg] at this
    simpa using this)
   (fun i x j c hx hc => by
    obtain ⟨rfl, hlt⟩ := get i x hx
    have hj : j = 0 := by
     cases j with
     | zero => rfl
     | succ j => simp [V.cells] at hc
    subst hj
    simp [V.cells] at hc
    subst hc
    exact .int _ _)
  rw [e] at this
  exact this
 ·cases hc0
theorem law_calls {f : FuncId} {W : World} {x : V} {v : Value} {imm : Nat → Prop} (h : Fp Tryz.prog f [x] (.bool true)) (hG : Glob imm W) (hi : ∀ g, imm g → g < W.heap.size) (hx : Rp imm W x v) :
  Calls Tryz.prog f #[v] W fun e w' => e = .returned (.bool true) ∧ Below W.heap.size W w' := by
 refine (h.fn imm W #[v] hG inv_no hi rfl ?_).mono ?_
 ·intro j c u hj hu
  cases j with
  | zero => simp at hj hu; subst hj; subst hu; exact hx
  | succ j => simp at hj
 ·rintro e w' ⟨r, r', m, imm', rfl, ⟨rfl, rfl⟩, h3, h4⟩
  rw [h3.bool_inv]
  exact ⟨rfl, h4.os, h4.tape, h4.output, h4.size, fun k hk => (h4.block k hk not_owns_no).1⟩
end
section
open Go.ChangeShapes Go.WideShapes Go.ChangeAt Go.RowKit
theorem laid_tab {H : Type} : (Rows.laid_math_bits_deBruijn64tab : DataW H) = Lib.tabData .u8 (Lib.deBruijn64tab.map fun n : Nat => (n : Int)) := rfl
theorem tabs_of {W : World} {rest : List (String × DataW Unit)} (h : laidMet Tryz.prog (("math/bits.deBruijn64tab", Rows.laid_math_bits_deBruijn64tab) :: rest) W) : ∀ x ∈ globT, Tab x.1 x.2 W := by
 rw [laid_tab] at h
 intro x hx
 simp only [globT, List.mem_cons, List.not_mem_nil, or_false] at hx
 subst hx
 intro j hj
 have hT := Lib.tabIs_of_head (t := 168) (e := 5) (n := 64) (g := (globT.headD (0, [])).1) (by kernel_rfl) (by kernel_rfl) Tryz.underlying168 Tryz.underlying5 cells8 (by kernel_rfl) h
 have := hT.cell (g := (globT.headD (0, [])).1) (by kernel_rfl) j (by rw [List.length_map]; exact hj)
 have e : (Lib.deBruijn64tab.map fun n : Nat => (n : Int)).getD j 0 = ((Lib.deBruijn64tab.getD j 0 : Nat) : Int) := by
  simp only [List.getD, List.getElem?_map]
  cases Lib.deBruijn64tab[j]? <;> rfl
 rw [e] at this
 exact this
theorem glob_of {W : World} {imm : Nat → Prop} (hT : ∀ x ∈ globT, Tab x.1 x.2 W) (hi : ∀ x ∈ globT, imm x.1) : Glob imm W := fun x hx => ⟨hi x hx, hT x hx⟩
theorem glob_lt {W : World} (hT : ∀ x ∈ globT, Tab x.1 x.2 W) : ∀ x ∈ globT, x.1 < W.heap.size := by
 intro x hx
 have h := hT x hx
 simp only [globT, List.mem_cons, List.not_mem_nil, or_false] at hx
 subst hx
 have := h 0 (by decide)
 unfold World.cell? at this
 split at this
 ·rename_i hh; exact (Array.getElem?_eq_some_iff.1 hh).1
 ·cases this
end
section
open Go.ChangeShapes Go.WideShapes Go.ChangeAt Go.RowKit
theorem code_of {H : Type} {enc : TypeId × Value → H} {W : World} {a0 : Option Addr} {len cap : Nat} {d0 : DataW H} {p0 : List MemPlace} (h0 : DataW.Trod enc Tryz.prog W 0 (fun _ => true) true 22 (.slice a0 len cap) d0 p0) :
  ∃ bs : List Int, Code8 bs ∧ ∃ g : Option Nat, (∀ b, g = some b → b < W.heap.size) ∧ ∀ imm : Nat → Prop, (∀ b, g = some b → imm b) → Rp imm W (codeV bs) (.slice a0 len cap) := by
 obtain ⟨fuel, hf⟩ := h0
 rcases open_ints Tryz.underlying22 Tryz.underlying5 cells8 hf with ⟨hcs, hx⟩ | ⟨a, len', cap', zs, hcs, _, hl, hm, hz, hx, hcell, hwz⟩
 ·simp [Value.cells] at hcs
  obtain ⟨rfl, rfl, rfl⟩ := hcs
  exact ⟨[], (fun b hb => by cases hb), none, (fun b hb => by cases hb), (fun imm _ => .sl0 _ _)⟩
 ·simp [Value.cells] at hcs
  obtain ⟨rfl, rfl, rfl⟩ := hcs
  simp only [if_true] at hz
  have hc8 : Code8 (zs.take len) := by
   intro n hn
   have := hwz n (List.mem_of_mem_take hn)
   simp [Lit.wf, IntKind.min, IntKind.max, IntKind.signed, IntKind.bits] at this
   omega
  by_cases hl0 : len = 0
  ·subst hl0
   exact ⟨[], (fun b hb => by cases hb), none, (fun b hb => by cases hb), (fun imm _ => .sl0 _ _)⟩
  ·obtain ⟨b, off, spot⟩ := a
   have hspot : spot = none := by simpa [Addr.add] using World.cell?_spot (hcell 0 (by omega))
   subst hspot
   refine ⟨zs.take len, hc8, some b, fun b' hb => ?_, fun imm hi => code_rp (by omega) hl (hi b rfl) fun i hi => by rw [← add_plain]; exact hcell i hi⟩
   cases hb
   have := hcell 0 (by omega)
   rw [add_plain] at this
   unfold World.cell? at this
   split at this
   ·rename_i hh; exact (Array.getElem?_eq_some_iff.1 hh).1
   ·cases this
theorem law_calls2 {f : FuncId} {W : World} {x y : V} {v u : Value} {imm : Nat → Prop} (h : Fp Tryz.prog f [x, y] (.bool true)) (hG : Glob imm W) (hi : ∀ g, imm g → g < W.heap.size) (hx : Rp imm W x v) (hy : Rp imm W y u) (hk : x.key = none ∧ y.key = none) :
  Calls Tryz.prog f #[v, u] W fun e w' => e = .returned (.bool true) ∧ Below W.heap.size W w' := by
 refine (h.fn imm W #[v, u] hG inv_no hi rfl ?_).mono ?_
 ·intro j c w hj hu
  match j with
  | 0 => simp at hj hu; subst hj; subst hu; exact hx
  | 1 => simp at hj hu; subst hj; subst hu; exact hy
  | j + 2 => simp at hj
 ·rintro e w' ⟨r, r', m, imm', rfl, ⟨rfl, rfl⟩, h3, h4⟩
  rw [h3.bool_inv]
  exact ⟨rfl, h4.os, h4.tape, h4.output, h4.size, fun k hk => (h4.block k hk not_owns_no).1⟩
end
section
open Go.RowKit
theorem set_last (p1 : Prog) (l : List Do) (v : V) : ((p1 ++ [l]).map thrV).modify p1.length (fun x => x.setC 0 v) = p1.map thrV ++ [v] := by
 apply List.ext_getElem?
 intro i
 rw [List.getElem?_modify]
 rcases Nat.lt_trichotomy i p1.length with h | h | h
 ·rw [List.map_append, List.getElem?_append_left (by simpa using h), List.getElem?_append_left (by simpa using h)]
  have : ¬ p1.length = i := by omega
  simp [this]
 ·subst h
  rw [List.map_append, List.getElem?_append_right (by simp), List.getElem?_append_right (by simp)]
  simp [thrV, V.setC]
 ·have : ¬ p1.length = i := by omega
  rw [List.getElem?_eq_none (by simp; omega), List.getElem?_eq_none (by simp; omega)]
  rfl
theorem fz_last (e e' : TypeId) (γ γ' : Option Nat) (c c' : Nat) (p1 : Prog) (l : List Do) : (V.own e γ c (p1.map thrV ++ [.own e' γ' c' (l.map Do.V)])).fz = .sl ((p1 ++ [l]).map thrV) := by
 simp only [V.fz, fzs_map, List.map_append, List.map_cons, List.map_nil, List.map_map, V.sl.injEq]
 congr 1
theorem ok_end {p1 : Prog} {l : List Do} {d : Do} (h : progOk (p1 ++ [l ++ [d]]) = true) (hd : d.k = 1 ∨ d.k = 2) : progOk (p1 ++ [l]) = true := by
 have key : ∀ (l : List Do) (r i : Bool), thrGo (l ++ [d]) r i = true → thrGo l r i = true := by
  intro l
  induction l with
  | nil =>
   intro r i h
   rw [List.nil_append, thrGo] at h
   split at h
   ·cases h
   ·have e7 : (d.k == 7) = false := by rw [beq_eq_false_iff_ne]; omega
    have e8 : (d.k == 8) = false := by rw [beq_eq_false_iff_ne]; omega
    rw [e7, e8, thrGo] at h
    rw [thrGo]
    cases i
    ·rfl
    ·simp at h
  | cons a l ih =>
   intro r i h
   rw [List.cons_append, thrGo] at h
   rw [thrGo]
   split at h
   ·cases h
   ·rename_i hw
    rw [if_neg hw]; exact ih _ _ h
 simp only [progOk, Bool.and_eq_true, decide_eq_true_eq, List.all_eq_true] at h ⊢
 have e1 : stepsP (p1 ++ [l ++ [d]]) = stepsP (p1 ++ [l]) + 1 := by simp [stepsP]; omega
 have e2 : usesP (p1 ++ [l]) ≤ usesP (p1 ++ [l ++ [d]]) := by simp [usesP, usesOf]
 refine ⟨⟨⟨by have := h.1.1.1; simpa using this, fun m hm => ?_⟩, by omega⟩, by omega⟩
 rcases List.mem_append.1 hm with hm | hm
 ·exact h.1.1.2 m (List.mem_append_left _ hm)
 ·rw [List.mem_singleton.1 hm]
  have := h.1.1.2 (l ++ [d]) (by simp)
  simp only [threadOk, Bool.and_eq_true, decide_eq_true_eq, List.length_append, List.length_singleton] at this ⊢
  exact ⟨key l _ _ this.1, by omega⟩
theorem end_snoc {p1 : Prog} {l : List Do} {d : Do} (h : progOk (p1 ++ [l ++ [d]]) = true) (hd : d.k = 1 ∨ d.k = 2) : Snoc (p1 ++ [l]) (p1 ++ [l ++ [d]]) p1.length d := by
 refine ⟨ok_end h hd, h, ?_, hd⟩
 have h9 : (d.k == 9) = false := by rw [beq_eq_false_iff_ne]; omega
 rw [evF_app, evF_app]
 simp [evF, thF_app, thF_cons, thF_nil, stF, h9]
theorem lawOrderRead_fn (bs : List Int) (hb : Code8 bs) : Fp Tryz.prog 4 [codeV bs] (.bool true) := by
 refine Fc.start (S := [12, 20]) Tryz.func4 Tryz.ntmps4 Tryz.results4 rfl (by decide) rfl (by kernel_rfl) ?_
 by_cases h : (1048576 : Int) < bs.length
 ·simp (disch := omega) only [push_cast, go_sem, zA, simprocAttr, codeV_eq, h]
 simp (disch := omega) only [push_cast, go_sem, zA, simprocAttr, codeV_eq, h]
 refine callR.ex (DrawOrderAll_fn bs hb (by omega)) rfl rfl ?_
 rintro r ⟨p, kind, rfl, hp, hl⟩
 have hl' : ∀ l ∈ p, l.length < 2 ^ 40 := fun l h => by have := hl l h; omega
 have hn := fun p k => (show (ordAll p k).length < 2 ^ 40 by have := ord_len p k; omega)
 have h1 := implOrderAll_fn p kind (by omega) hl'
 have h2 := specOrderAll_fn p kind (by omega)
 rw [ordI_eq] at h1
 have h3 := lpList_fn (ordAll p kind) (ordAll p kind) ord_small ord_small (hn _ _) (hn _ _)
 rw [decide_eq_true rfl] at h3
 rw [progV_eq] at h1 h2
 simp (disch := omega) only [push_cast, go_sem, zA, simprocAttr, progV_eq]
 intro g3
 refine callR.pure h1 rfl rfl ?_
 simp (disch := omega) only [push_cast, go_sem, zA, simprocAttr]
 refine callR.pure h2 rfl rfl ?_
 simp (disch := omega) only [push_cast, go_sem, zA, simprocAttr]
 refine callR.pure h3 rfl rfl ?_
 by_cases hz : ((ordAll p kind).length : Int) = 0
 ·have hz' : (((ordAll p kind).length : Int) == 0) = true := by simpa using hz
  simp (disch := omega) only [push_cast, go_sem, zA, simprocAttr, hz']
  refine callR.pure h2 rfl rfl ?_
  simp (disch := omega) only [push_cast, go_sem, zA, simprocAttr]
  refine callR.pure h3 rfl rfl ?_
  simp (disch := omega) only [push_cast, go_sem, zA, simprocAttr]
 have hz' : (((ordAll p kind).length : Int) == 0) = false := by simpa using hz
 simp (disch := omega) only [push_cast, go_sem, zA, simprocAttr, hz']
 refine fun g41 => ⟨by omega, fun γ c hγ g7 => ?_⟩
 obtain rfl | ⟨p1, l, rfl⟩ : p = [] ∨ ∃ p1 l, p = p1 ++ [l] := by
  by_cases h0 : p = []
  ·exact .inl h0
  ·exact .inr ⟨_, _, (List.dropLast_concat_getLast h0).symm⟩
 ·simp (disch := omega) only [push_cast, go_sem, zA, simprocAttr]
 intro hn0
 have hidx : (((p1 ++ [l]).length : Nat) : Int) - 1 = ((p1.length : Nat) : Int) := by rw [List.length_append]; simp
 have hll := hl l (by simp)
 have hget : (p1 ++ [l])[p1.length]? = some l := by simp
 have hlt : p1.length < (p1 ++ [l]).length := by simp
 cases γ with
 | none => have := hγ rfl; simp at this
 | some gq =>
 refine Sat.drawnE [(1, 4), (4, 6), (4, 10), (1, 11), (1, 13), (4, 13), (6, 13), (10, 13), (11, 13), (1, 14)] [] [0, 1, 2, 3, 5, 6, 7, 8, 9, 10, 12, 15] (fun _ _ _ => none) (by kernel_rfl) (by kernel_rfl) ?_
 simp (disch := omega) only [push_cast, go_sem, zA, simprocAttr, hidx, hget, hlt, thrV_eq]
 refine fun g52 => ⟨by omega, by omega, fun γ1 c1 _ g61 => ⟨by omega, fun γ2 c2 _ => ⟨by omega, ?_⟩⟩⟩
 refine Sat.less (t' := upd (upd (upd (upd (upd noT 2 (.bool false)) 3 (.ptr 3 [] 0 0 g3 1)) 4 (.int .i64 kind)) 5 (.sl ((ordAll (p1 ++ [l]) kind).map Sn.V))) 7 (.ptr 7 [] 0 0 g7 1))
  (M' := (noM.set 3 (boxP (p1 ++ [l]) g3)).set 7 (.own 25 (some g7) 1 [.agg [.own 38 (some gq) c (p1.map thrV ++ [.own 40 γ2 c2 ((l ++ [Do.mk 2 0 0]).map Do.V)])]])) ?_ ?_
 rotate_left
 ·(refine zB ?_; repeat (first | exact zC | exact zD | refine zE (by decide) ?_ | refine zF ?_ ?_ | refine zG ?_ ?_)) <;> (try simp (disch := omega) only [push_cast, go_sem, zA, simprocAttr])
  ·rfl
  ·rw [set_last]; simp [Do.V]
 refine Sat.freezeC 7 [] 0 0 (n0 := .own 25 (some g7) 1 [.agg [.own 38 (some gq) c (p1.map thrV ++ [.own 40 γ2 c2 ((l ++ [Do.mk 2 0 0]).map Do.V)])]]) (d := .own 38 (some gq) c (p1.map thrV ++ [.own 40 γ2 c2 ((l ++ [Do.mk 2 0 0]).map Do.V)])) rfl rfl rfl ?_
 rw [fz_last]
 obtain ⟨q, hq⟩ : ∃ q, p1 ++ [l ++ [Do.mk 2 0 0]] = q := ⟨_, rfl⟩
 have hqo := specProgOk_fn q (by rw [← hq]; simp at hp ⊢; omega)
 have hqi := implOrderAll_fn q kind (by rw [← hq]; simp at hp ⊢; omega) (fun m hm => by
  rw [← hq] at hm
  rcases List.mem_append.1 hm with h | h
  ·exact hl' m (List.mem_append_left _ h)
  ·rw [List.mem_singleton.1 h]; simp; omega)
 rw [ordI_eq] at hqi
 rw [progV_eq] at hqo hqi
 rw [hq]
 refine Sat.of (S := [20]) (by kernel_rfl) ?_
 simp (disch := omega) only [push_cast, go_sem, zA, simprocAttr, boxP_eq]
 refine callR.pure hqo rfl rfl ?_
 cases hok : progOk q
 ·simp (disch := omega) only [push_cast, go_sem, zA, simprocAttr]
 have hsn : Snoc (p1 ++ [l]) q p1.length ⟨2, 0, 0⟩ := by rw [← hq]; exact end_snoc (by rw [hq]; exact hok) (.inr rfl)
 have hso := seenSort_fn ((ordAll q kind).map cutS) (fun s h => by obtain ⟨t, ht, rfl⟩ := List.mem_map.1 h; exact cutS_small (ord_small t ht)) (by rw [List.length_map]; exact hn _ _)
 rw [sort_any hsn rfl] at hso
 have hne : ∀ s ∈ ordAll q kind, s.rd ≠ [] := by
  intro s hs
  cases hk : inB kind 1 3
  ·have : ordAll q kind = [] := by rw [ordAll, hk, Bool.and_false]; rfl
   rw [this] at hs; cases hs
  ·exact ((read_ord hsn rfl hk).1 s hs).1
 have hln := hn q kind
 have hsm : ∀ s ∈ ordAll q kind, s.small := ord_small
 generalize ordAll q kind = L at hqi hso hne hln hsm
 simp (disch := omega) only [push_cast, go_sem, zA, simprocAttr]
 refine callR.pure hqi rfl rfl ?_
 simp (disch := omega) only [push_cast, go_sem, zA, simprocAttr]
 intro g70
 refine Sat.loop (σ := EvS) (fun x => upd (upd (upd (upd (upd (upd (upd (upd noT 2 (.bool false)) 3 (.ptr 3 [] 0 0 g3 1)) 4 (.int .i64 kind)) 5 (.sl ((ordAll (p1 ++ [l]) kind).map Sn.V))) 7 (.ptr 7 [] 0 0 g7 1)) 8 (.sl (L.map Sn.V))) 9 (.msl 9 [] x.γ x.k x.c)) 10 (.int .i64 x.k))
  (fun x => ((noM.set 3 (boxP (p1 ++ [l]) g3)).set 7 (boxP q g7)).set 9 (.own x.e x.γ x.c (((L.take x.k).map cutS).map Sn.V)))
  (fun x => x.k ≤ L.length ∧ (x.γ = none ∨ x.e = 34)) (fun x => L.length - x.k) ⟨0, 34, some g70, 0⟩ (by simp) ?_ ?_
 ·(refine zB ?_; repeat (first | exact zC | exact zD | refine zE (by decide) ?_ | refine zF ?_ ?_ | refine zG ?_ ?_)) <;> (try simp (disch := omega) only [push_cast, go_sem, zA, simprocAttr])
  all_goals rfl
 rintro ⟨k, e, γ, c'⟩ ⟨hk, hγ2⟩ J hJ
 refine Sat.of (S := [20]) (by kernel_rfl) ?_
 simp only at hk hγ2 hJ
 have hγ' : (γ = none ∨ e = 34) = True := by simp only [hγ2]
 rcases Nat.lt_or_ge k L.length with hltk | hge
 ·obtain ⟨s, hx⟩ : ∃ s, L[k]? = some s := ⟨_, List.getElem?_eq_getElem hltk⟩
  have hs1 := (hsm s (List.mem_of_getElem? hx)).1
  have hs0 : 0 < s.rd.length := List.length_pos_iff.2 (hne s (List.mem_of_getElem? hx))
  have htk := take_get hx
  have htl : (L.take k).length = k := by rw [List.length_take]; omega
  have e1 : List.take ((s.rd.length : Int) - 1).toNat (s.rd.map (V.int .i64)) = (s.rd.take (s.rd.length - 1)).map (V.int .i64) := by
   rw [show ((s.rd.length : Int) - 1).toNat = s.rd.length - 1 by omega, List.map_take]
  simp (disch := omega) only [push_cast, go_sem, zA, simprocAttr, hltk]
  refine Sat.drawnE [] [] [0, 1, 2, 3, 4, 5, 6, 7, 8, 9, 10, 11, 12, 13, 14, 15, 16, 17, 18, 19] (fun _ _ _ => none) (by kernel_rfl) (by kernel_rfl) ?_
  simp (disch := omega) only [push_cast, go_sem, zA, simprocAttr, hx, hltk, Sn.V_eq, hγ', htl]
  refine ⟨⟨by omega, by omega, fun x hx => by obtain ⟨_, _, rfl⟩ := List.mem_map.1 hx; rfl⟩, fun g97 => ⟨by omega, fun γ3 c3 _ => ?_⟩⟩
  refine hJ ⟨k + 1, 34, γ3, c3⟩ _ _ ⟨by dsimp only; omega, .inr rfl⟩ (by dsimp only; omega) ?_
  dsimp only
  rw [htk, List.map_append, List.map_append, List.map_cons, List.map_nil, List.map_cons, List.map_nil, cutS_eq]
  (refine zB ?_; repeat (first | exact zC | exact zD | refine zE (by decide) ?_ | refine zF ?_ ?_ | refine zG ?_ ?_)) <;> (try simp (disch := omega) only [push_cast, go_sem, zA, simprocAttr])
  all_goals first | rfl | (rw [e1])
 ·have hkl : k = L.length := by omega
  subst hkl
  simp (disch := omega) only [push_cast, go_sem, zA, simprocAttr, List.take_length]
  refine Sat.freezeT (upd (upd noT 5 (.sl ((ordAll (p1 ++ [l]) kind).map Sn.V))) 9 (.sl ((L.map cutS).map Sn.V))) noM 9 (e := e) (γ := γ) (cap := c') (es := (L.map cutS).map Sn.V) rfl ?_ ?_
  ·(refine zB ?_; repeat (first | exact zC | exact zD | refine zE (by decide) ?_ | refine zF ?_ ?_ | refine zG ?_ ?_)) <;> (try simp (disch := omega) only [push_cast, go_sem, zA, simprocAttr])
  refine Sat.of (S := []) (by kernel_rfl) ?_
  simp (disch := omega) only [push_cast, go_sem, zA, simprocAttr]
  refine callR.pure hso rfl rfl ?_
  simp (disch := omega) only [push_cast, go_sem, zA, simprocAttr]
  refine callR.pure h3 rfl rfl ?_
  simp (disch := omega) only [push_cast, go_sem, zA, simprocAttr]
end
end Go.Proofs.YtkdolbffabmemaaGreatDoor
