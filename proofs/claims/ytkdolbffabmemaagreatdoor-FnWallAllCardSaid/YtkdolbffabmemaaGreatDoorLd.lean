/-
 Contracts and plain laws.
-/
import Derived.Test.YtkdolbffabmemaaGreatDoorLa
import Derived.Test.YtkdolbffabmemaaGreatDoorLb
import Derived.Test.YtkdolbffabmemaaGreatDoorLc
import Derived.Lib.SlKeysI
import Derived.Test.YtkdolbffabmemaaGreatDoorLvx
import Derived.Lib.TrailingZeros
import Derived.Shelf.Spec.TrailingZeros
import Derived.Shelf.SlicesE.Clone
set_option linter.unusedSimpArgs false
set_option linter.unusedVariables false
set_option linter.unusedSectionVars false
namespace Go.Proofs.YtkdolbffabmemaaGreatDoor
section
open Go.RowKit
theorem rdN_cons (d : Do) (l : List Do) : rdN (d :: l) = (if d.reads then 1 else 0) + rdN l := by
 simp only [rdN, List.filter_cons]; split <;> simp [Nat.add_comm]
theorem compl_len {ds : List Do} (h : usN ds ≤ 6) : ∀ (j : Nat) (fr : List Int), fr.length + j = ds.length → (compl ds j fr).length ≤ 7 ^ rdN (ds.drop fr.length)
 | 0, fr, hl => by simp only [compl, List.length_singleton]; exact Nat.pos_of_ne_zero (by simp)
 | j + 1, fr, hl => by
  have hd : ds[fr.length]? = some ds[fr.length] := List.getElem?_eq_getElem (by omega)
  rw [compl, hd, drop_get hd, rdN_cons]
  dsimp only
  have key := flatMap_le (f := fun c => compl ds j (fr ++ [c])) (n := 7 ^ rdN (ds.drop (fr.length + 1))) (fun c => by have := compl_len h j (fr ++ [c]) (by simp; omega); simpa using this) (choicesOf ds ds[fr.length])
  refine Nat.le_trans key ?_
  rw [Nat.pow_add]
  refine Nat.mul_le_mul_right _ ?_
  unfold choicesOf
  split
  ·rw [List.length_cons, writers_len]
   have := wrN_any h ds[fr.length].p
   omega
  ·simp
theorem rdN_drop {ds : List Do} (h : usN ds ≤ 6) (k : Nat) : rdN (ds.drop k) ≤ 6 := by
 have h1 : rdN (ds.drop k) ≤ usN ds := by
  simp only [rdN, usN]
  rw [← List.countP_eq_length_filter, ← List.countP_eq_length_filter]
  refine Nat.le_trans (List.countP_mono_left (q := Do.uses) fun d _ hd => ?_) (List.Sublist.countP_le (List.drop_sublist k ds))
  simp [Do.uses, hd]
 omega
theorem compl_le {ds : List Do} (h : usN ds ≤ 6) : (compl ds ds.length []).length ≤ 117649 :=
 Nat.le_trans (compl_len h ds.length [] (by simp)) (Nat.le_trans (Nat.pow_le_pow_right (by decide) (rdN_drop h _)) (by decide))
theorem nodup_le {a : List Int} : ∀ {b : List Int}, a.Nodup → (∀ x ∈ a, x ∈ b) → a.length ≤ b.length := by
 induction a with
 | nil => intro b _ _; simp
 | cons x a ih =>
  intro b hn hs
  rw [List.nodup_cons] at hn
  have hx := hs x (by simp)
  have := ih (b := b.erase x) hn.2 (fun y hy => (List.mem_erase_of_ne (fun (e : y = x) => hn.1 (by rw [← e]; exact hy))).2 (hs y (by simp [hy])))
  rw [List.length_erase_of_mem hx] at this
  have := List.length_pos_of_mem hx
  simp; omega
theorem perm_of {a : List Int} : ∀ {b : List Int}, a.Nodup → (∀ x ∈ a, x ∈ b) → b.length ≤ a.length → a.Perm b := by
 induction a with
 | nil => intro b _ _ h; have : b = [] := List.eq_nil_of_length_eq_zero (by simpa using h); rw [this]
 | cons x a ih =>
  intro b hn hs hl
  rw [List.nodup_cons] at hn
  have hx := hs x (by simp)
  have := ih (b := b.erase x) hn.2 (fun y hy => (List.mem_erase_of_ne (fun (e : y = x) => hn.1 (by rw [← e]; exact hy))).2 (hs y (by simp [hy]))) (by rw [List.length_erase_of_mem hx]; simp at hl; omega)
  exact (this.cons x).trans (List.perm_cons_erase hx).symm
theorem wrs_pw {ds : List Do} {pl : Int} : ∀ k, (wrs ds pl k).Pairwise (· < ·) ∧ ∀ x ∈ wrs ds pl k, x < (k : Int)
 | 0 => by simp [wrs]
 | k + 1 => by
  obtain ⟨h1, h2⟩ := wrs_pw (ds := ds) (pl := pl) k
  rw [wrs]
  constructor
  ·rw [List.pairwise_append]
   refine ⟨h1, ?_, fun x hx y hy => ?_⟩
   ·split
    ·split <;> simp
    ·simp
   ·have := h2 x hx
    split at hy
    ·split at hy
     ·simp at hy; omega
     ·cases hy
    ·cases hy
  ·intro x hx
   simp only [List.mem_append] at hx
   rcases hx with hx | hx
   ·have := h2 x hx; omega
   ·split at hx
    ·split at hx
     ·simp at hx; omega
     ·cases hx
    ·cases hx
theorem writers_nodup (ds : List Do) (pl : Int) : (writersOf ds pl).Nodup := (wrs_pw ds.length).1.imp (fun h => by omega)
theorem filter_in {l h : List Int} (hl : l.Nodup) (hh : h.Nodup) (hs : ∀ x ∈ h, x ∈ l) : (l.filter fun z => !h.contains z).length + h.length = l.length := by
 have h1 : (l.filter fun z => h.contains z).length = h.length := by
  refine Nat.le_antisymm (nodup_le (hl.filter _) fun x hx => ?_) (nodup_le hh fun x hx => ?_)
  ·simpa using (List.mem_filter.1 hx).2
  ·exact List.mem_filter.2 ⟨hs x hx, by simpa using hx⟩
 have h2 := List.length_eq_countP_add_countP (fun z => h.contains z) (l := l)
 rw [List.countP_eq_length_filter, List.countP_eq_length_filter, h1] at h2
 have h3 : (l.filter fun a => decide ¬(h.contains a = true)) = l.filter fun z => !h.contains z := List.filter_congr fun x _ => by cases h.contains x <;> rfl
 rw [h3] at h2
 omega
theorem flatMap_if {l h : List Int} {g : Int → List (List Int)} {n : Nat} (hg : ∀ z ∈ l, h.contains z = false → (g z).length = n) : (l.flatMap fun z => if h.contains z then [] else g z).length = (l.filter fun z => !h.contains z).length * n := by
 induction l with
 | nil => simp
 | cons x l ih =>
  have ih := ih fun z hz => hg z (by simp [hz])
  rw [List.flatMap_cons, List.length_append, ih, List.filter_cons]
  cases hc : h.contains x
  ·simp only [Bool.false_eq_true, if_false, Bool.not_false, if_true, List.length_cons, Nat.succ_mul]
   rw [hg x (by simp) hc]; omega
  ·simp
theorem rowsR_len {l : List Int} (hl : l.Nodup) : ∀ (j : Nat) (h : List Int), h.Nodup → (∀ x ∈ h, x ∈ l) → h.length + j = l.length → (rowsR l j h).length = fac j
 | 0, h, _, _, _ => rfl
 | j + 1, h, hh, hs, hj => by
  rw [rowsR, flatMap_if (n := fac j) fun z hz hc => ?_]
  ·have := filter_in hl hh hs
   rw [show (l.filter fun z => !h.contains z).length = j + 1 by omega]; rfl
  ·refine rowsR_len hl j (h ++ [z]) ?_ ?_ (by simp; omega)
   ·rw [List.nodup_append]
    refine ⟨hh, by simp, fun a ha b hb => ?_⟩
    simp at hb; subst hb
    intro e; subst e
    rw [List.contains_iff_mem.2 ha] at hc
    cases hc
   ·intro x hx
    simp only [List.mem_append, List.mem_singleton] at hx
    rcases hx with hx | rfl
    ·exact hs x hx
    ·exact hz
theorem rowsR_row {l : List Int} : ∀ {j : Nat} {h r : List Int}, r ∈ rowsR l j h → r.length = h.length + j
 | 0, h, r, hr => by simp [rowsR] at hr; subst hr; simp
 | j + 1, h, r, hr => by
  rw [rowsR] at hr
  simp only [List.mem_flatMap] at hr
  obtain ⟨z, _, hz⟩ := hr
  split at hz
  ·cases hz
  ·have := rowsR_row hz; simp at this; omega
theorem rowsW_len (ds : List Do) (k : Int) : (rowsR (writersOf ds k) (writersOf ds k).length []).length = fac (wrN ds k) := by
 rw [rowsR_len (writers_nodup ds k) _ [] List.nodup_nil (by simp) (by simp), writers_len]
theorem ordersS_le {ds : List Do} (h : usN ds ≤ 6) : ∀ k, k ≤ 3 → (ordersSK ds k).length ≤ 720 := by
 have hc := count_le ds
 have step : ∀ k : Nat, (ordersSK ds (k + 1)).length = (ordersSK ds k).length * fac (wrN ds k) := fun k => by
  rw [ordersSK, flatMap_len (n := (rowsR (writersOf ds k) (writersOf ds k).length []).length) (by simp), rowsW_len]
 have h0 : (ordersSK ds 0).length = 1 := rfl
 have h1 := step 0
 have h2 := step 1
 have h3 := step 2
 rw [h0] at h1
 simp only [Nat.zero_add, Nat.reduceAdd, Int.cast_ofNat_Int, Int.natCast_zero, Int.natCast_one] at h1 h2 h3
 rw [h1] at h2
 rw [h2] at h3
 obtain ⟨k1, k2, k3⟩ := fac3 (wrN ds 0) (by omega) (wrN ds 1) (by omega) (wrN ds 2) (by omega) (by omega)
 intro k hk
 obtain rfl | rfl | rfl | rfl : k = 0 ∨ k = 1 ∨ k = 2 ∨ k = 3 := by omega
 ·rw [h0]; omega
 ·rw [h1]; exact k1
 ·rw [h2]; exact k2
 ·rw [h3]; exact k3
theorem ordersS_in {ds : List Do} : ∀ {k : Nat} {r : List (List Int)} {row : List Int}, r ∈ ordersSK ds k → row ∈ r → row.length ≤ ds.length
 | 0, r, row, h, h2 => by simp [ordersSK] at h; subst h; cases h2
 | k + 1, r, row, h, h2 => by
  simp only [ordersSK, List.mem_flatMap, List.mem_map] at h
  obtain ⟨h0, h1, c, hc, rfl⟩ := h
  simp only [List.mem_append, List.mem_singleton] at h2
  rcases h2 with h2 | rfl
  ·exact ordersS_in h1 h2
  ·rw [rowsR_row hc]
   have := wrs_le ds k ds.length
   rw [List.length_nil, Nat.zero_add]; exact this
def specAll (p : Prog) : List Exe := if progOk p then allS p else []
end
section
open Go.RowKit
theorem thrGo_formed : ∀ {l : List Do} {r i : Bool}, thrGo l r i = true → ∀ d ∈ l, d.formed = true
 | [], _, _, _, d, hd => by cases hd
 | d0 :: l, r, i, h, d, hd => by
  rw [thrGo] at h
  split at h
  ·cases h
  ·rename_i hw
   simp only [Bool.or_eq_true, Bool.not_eq_true', not_or, Bool.not_eq_false] at hw
   rcases List.mem_cons.1 hd with rfl | hd
   ·exact hw.1
   ·exact thrGo_formed h d hd
theorem scene_formed {p : Prog} (h : progOk p = true) : ∀ d ∈ (scene p).ds, d.formed = true := by
 intro d hd
 simp only [scene, List.mem_map] at hd
 obtain ⟨e, he, rfl⟩ := hd
 obtain ⟨i, l, k, d, hl, hd, _, _, hst, _⟩ := mem_events he
 rw [hst]
 have hth : threadOk l = true := by
  simp only [progOk, Bool.and_eq_true, List.all_eq_true] at h
  exact h.1.1.2 l (List.mem_of_getElem? hl)
 simp only [threadOk, Bool.and_eq_true] at hth
 exact thrGo_formed hth.1 d (List.mem_of_getElem? hd)
theorem formed_place {d : Do} (h : d.formed = true) (hu : d.uses = true) : 0 ≤ d.p ∧ d.p ≤ 2 := by
 simp only [Do.formed, hu, if_true, Bool.and_eq_true, inB, decide_eq_true_eq] at h
 exact h.1.2
theorem formed_val {d : Do} (h : d.formed = true) : 0 ≤ d.v := by
 simp only [Do.formed, Bool.and_eq_true] at h
 have := h.2
 split at this
 ·simp only [inB, Bool.and_eq_true, decide_eq_true_eq] at this; omega
 ·simp at this; omega
theorem writers_pw (ds : List Do) (pl : Int) : (writersOf ds pl).Pairwise (· < ·) := (wrs_pw ds.length).1
theorem sorted_eq {ws row : List Int} (hw : ws.Pairwise (· < ·)) (hn : ws.Nodup) : (sorted row == ws) = (ws.length == row.length && ws.all row.contains) := by
 have hle : ws.mergeSort leI = ws := List.mergeSort_of_pairwise (hw.imp fun h => by simp only [decide_eq_true_eq]; omega)
 rw [Bool.eq_iff_iff]
 simp only [beq_iff_eq, Bool.and_eq_true, List.all_eq_true, List.contains_iff_mem]
 constructor
 ·intro h
  have hp : (sorted row).Perm row := List.mergeSort_perm row _
  rw [h] at hp
  exact ⟨hp.length_eq, fun x hx => hp.mem_iff.1 hx⟩
 ·rintro ⟨h1, h2⟩
  have hp : ws.Perm row := perm_of hn h2 (by omega)
  have := Go.mergeSort_of_perm_i hp
  rw [hle] at this
  exact this.symm
theorem place_mem {ds : List Do} {od : List (List Int)} {k : Nat} (h : placeS ds od k = true) (x : Int) : x ∈ od[k]?.getD [] ↔ x ∈ writersOf ds k := by
 simp only [placeS, Bool.and_eq_true, beq_iff_eq, List.all_eq_true, List.contains_iff_mem] at h
 exact (perm_of (writers_nodup ds k) h.2 (by omega)).mem_iff.symm
theorem fits_form {p : Prog} (hok : progOk p = true) (x : Exe) : fits (scene p) x = formS p x := by
 have hes : (scene p).es = events p := rfl
 have hsl : (scene p).ds.length = (events p).length := by simp [scene]
 unfold fits formS
 rw [hes]
 by_cases h1 : x.fr.length = (events p).length
 rotate_left
 ·simp [h1]
 by_cases h2 : x.od.length = 3
 rotate_left
 ·simp [h2]
 simp only [h1, h2, decide_true, Bool.true_and]
 have h3 : x.od.zipIdx.all (odOk (scene p).ds) = (List.range 3).all (placeS (scene p).ds x.od) := by
  rw [Bool.eq_iff_iff]
  simp only [List.all_eq_true]
  constructor
  ·intro h k hk
   have hk3 : k < x.od.length := by rw [h2]; simpa using hk
   have hz : x.od.zipIdx[k]? = some (x.od[k], k) := by simp [hk3]
   have := h _ (List.mem_of_getElem? hz)
   simp only [odOk] at this
   rw [sorted_eq (writers_pw _ _) (writers_nodup _ _)] at this
   simpa only [placeS, List.getElem?_eq_getElem hk3, Option.getD_some] using this
  ·rintro h ⟨row, k⟩ hq
   obtain ⟨i, hi⟩ := List.getElem?_of_mem hq
   simp only [List.getElem?_zipIdx, Option.map_eq_some_iff, Prod.mk.injEq, Nat.zero_add] at hi
   obtain ⟨row', hr, rfl, rfl⟩ := hi
   have hi3 : i < 3 := by rw [← h2]; exact (List.getElem?_eq_some_iff.1 hr).1
   have := h i (by simpa using hi3)
   simp only [odOk]
   rw [sorted_eq (writers_pw _ _) (writers_nodup _ _)]
   simpa only [placeS, hr, Option.getD_some] using this
 rw [h3, Bool.and_comm]
 cases hP : (List.range 3).all (placeS (scene p).ds x.od)
 ·simp
 simp only [Bool.true_and]
 rw [Bool.eq_iff_iff]
 simp only [List.all_eq_true] at hP ⊢
 have key : ∀ q ∈ (scene p).ds.zip x.fr, frOk (scene p).ds q = fromS x.od q := by
  rintro ⟨d, f⟩ hq
  have hd := (List.of_mem_zip hq).1
  simp only [frOk, fromS]
  cases hr : d.reads
  ·simp
  ·obtain ⟨hp0, hp2⟩ := formed_place (scene_formed hok d hd) (by simp [Do.uses, hr])
   obtain ⟨a, ha⟩ := Int.eq_ofNat_of_zero_le hp0
   have := place_mem (hP a (by simp; omega)) f
   simp only [if_true, ha, Int.toNat_natCast]
   congr 1
   rw [Bool.eq_iff_iff, List.contains_iff_mem, List.contains_iff_mem]
   exact this.symm
 exact ⟨fun h q hq => by rw [← key q hq]; exact h q hq, fun h q hq => by rw [key q hq]; exact h q hq⟩
def specOk (p : Prog) (x : Exe) : Bool := progOk p && (formS p x && endsS p x)
end
section
open Go.RowKit
theorem nodup_leN {a : List Nat} : ∀ {b : List Nat}, a.Nodup → (∀ x ∈ a, x ∈ b) → a.length ≤ b.length := by
 induction a with
 | nil => intro b _ _; simp
 | cons x a ih =>
  intro b hn hs
  rw [List.nodup_cons] at hn
  have hx := hs x (by simp)
  have := ih (b := b.erase x) hn.2 (fun y hy => (List.mem_erase_of_ne (fun (e : y = x) => hn.1 (by rw [← e]; exact hy))).2 (hs y (by simp [hy])))
  rw [List.length_erase_of_mem hx] at this
  have := List.length_pos_of_mem hx
  simp; omega
def nx (ds : List Do) (fr : List Int) (a : Nat) : Option (Option Int × Nat) := match ds[a]? with
 | none => none
 | some d => if d.valued then some (some d.v, 0) else if d.k == 3 then some (none, lastRd ds a) else match fr[a]? with
  | none => none
  | some f => if f == -1 then some (some 0, 0) else some (none, f.toNat)
theorem valI_nx {ds : List Do} {fr : List Int} {m a : Nat} : valI ds fr (m + 1) a = match nx ds fr a with | none => none | some (some v, _) => some v | some (none, b) => valI ds fr m b := by
 rw [valI, nx]
 cases ds[a]? with
 | none => rfl
 | some d =>
  dsimp only
  split
  ·rfl
  ·split
   ·rfl
   ·cases fr[a]? with
    | none => rfl
    | some f => dsimp only; split <;> rfl
theorem nx_lt {ds : List Do} {fr : List Int} {a : Nat} {r : Option Int × Nat} (h : nx ds fr a = some r) : a < ds.length := by
 unfold nx at h
 cases hd : ds[a]? with
 | none => rw [hd] at h; cases h
 | some d => exact (List.getElem?_eq_some_iff.1 hd).1
theorem valI_mono {ds : List Do} {fr : List Int} : ∀ {m a : Nat} {v : Int}, valI ds fr m a = some v → valI ds fr (m + 1) a = some v
 | 0, a, v, h => by rw [valI] at h; cases h
 | m + 1, a, v, h => by
  rw [valI_nx] at h ⊢
  cases hn : nx ds fr a with
  | none => rw [hn] at h; cases h
  | some r =>
   obtain ⟨o, b⟩ := r
   rw [hn] at h
   cases o with
   | some w => exact h
   | none => exact valI_mono h
theorem valI_up {ds : List Do} {fr : List Int} {m a : Nat} {v : Int} (h : valI ds fr m a = some v) : ∀ j, valI ds fr (m + j) a = some v
 | 0 => h
 | j + 1 => valI_mono (valI_up h j)
theorem chain {ds : List Do} {fr : List Int} : ∀ (k a : Nat), valI ds fr (k + 1) a ≠ none → valI ds fr k a = none → ∃ l : List Nat, l.length = k + 1 ∧ l.Nodup ∧ ∀ b ∈ l, b < ds.length ∧ valI ds fr (k + 1) b ≠ none := by
 intro k
 induction k with
 | zero =>
  intro a h1 _
  refine ⟨[a], rfl, by simp, fun b hb => ?_⟩
  simp at hb; subst hb
  refine ⟨?_, h1⟩
  rw [valI_nx] at h1
  cases hn : nx ds fr b with
  | none => rw [hn] at h1; exact absurd rfl h1
  | some r => exact nx_lt hn
 | succ k ih =>
  intro a h1 h2
  cases hn : nx ds fr a with
  | none => rw [valI_nx, hn] at h1; exact absurd rfl h1
  | some r =>
   obtain ⟨o, b⟩ := r
   cases o with
   | some w => rw [valI_nx, hn] at h2; cases h2
   | none =>
    have e1 : valI ds fr (k + 1) b ≠ none := by rw [valI_nx, hn] at h1; exact h1
    have e2 : valI ds fr k b = none := by rw [valI_nx, hn] at h2; exact h2
    obtain ⟨l, h3, h4, h5⟩ := ih b e1 e2
    refine ⟨a :: l, by rw [List.length_cons, h3], List.nodup_cons.2 ⟨fun ha => (h5 a ha).2 h2, h4⟩, fun c hc => ?_⟩
    rcases List.mem_cons.1 hc with rfl | hc
    ·exact ⟨nx_lt hn, h1⟩
    ·refine ⟨(h5 c hc).1, ?_⟩
     cases hv : valI ds fr (k + 1) c with
     | none => exact absurd hv (h5 c hc).2
     | some v => rw [valI_mono hv]; simp
theorem valI_enough {ds : List Do} {fr : List Int} {a : Nat} {v : Int} : ∀ {m : Nat}, valI ds fr m a = some v → valI ds fr ds.length a = some v := by
 intro m
 induction m with
 | zero => intro h; rw [valI] at h; cases h
 | succ m ih =>
  intro h
  cases hm : valI ds fr m a with
  | some w =>
   have := valI_mono hm
   rw [h] at this
   cases this
   exact ih hm
  | none =>
   obtain ⟨l, h1, h2, h3⟩ := chain m a (by rw [h]; simp) hm
   have := nodup_leN (b := List.range ds.length) h2 (fun b hb => List.mem_range.2 (h3 b hb).1)
   rw [List.length_range, h1] at this
   have hv := valI_up h (ds.length - (m + 1))
   rwa [show m + 1 + (ds.length - (m + 1)) = ds.length by omega] at hv
theorem srcOf_eq {es : List Evt} {ds : List Do} {a r : Nat} (ht : (es[r]?.getD default).t = (es[a]?.getD default).t) (hr : (ds[r]?.getD default).reads = true) : ∀ k, r < k → (∀ j, r < j → j < k → (ds[j]?.getD default).reads = false) → srcOf es ds a k = r
 | 0, h, _ => absurd h (by omega)
 | k + 1, h, hno => by
  rw [srcOf]
  rcases Nat.lt_or_ge r k with hk | hk
  ·rw [hno k hk (by omega), Bool.and_false]
   exact srcOf_eq ht hr k hk fun j h1 h2 => hno j h1 (by omega)
  ·have : r = k := by omega
   subst this
   rw [ht, hr]; simp
theorem evThr_t {t : Nat} {l : List Do} {e : Evt} : ∀ {k : Nat}, e ∈ evThr t l k → e.t = t := fun h => by
 obtain ⟨_, _, _, _, h1, _⟩ := mem_evThr h
 exact h1
theorem evPro_t {p : Prog} {e : Evt} {i : Nat} (h : e ∈ evPro p i) : e.t < (i : Int) := by
 obtain ⟨j, l, h1, _, h2⟩ := mem_evPro h
 have := evThr_t h2
 omega
theorem events_pw (p : Prog) : ∀ i, (evPro p i).Pairwise fun a b => a.t ≤ b.t
 | 0 => by simp [evPro]
 | i + 1 => by
  rw [evPro, List.pairwise_append]
  refine ⟨events_pw p i, ?_, fun a ha b hb => ?_⟩
  ·split
   ·exact List.pairwise_of_forall_mem_list fun a ha b hb => by rw [evThr_t ha, evThr_t hb]; exact Int.le_refl _
   ·exact List.Pairwise.nil
  ·have := evPro_t ha
   split at hb
   ·rw [evThr_t hb]; omega
   ·cases hb
theorem scene_copyT {p : Prog} (h : progOk p = true) {a : Nat} {e : Evt} (he : (events p)[a]? = some e) (h3 : (stepAt p e).k = 3) : ∃ (r : Nat) (e' : Evt), r < a ∧ (events p)[r]? = some e' ∧ e'.t = e.t ∧ (stepAt p e').reads = true := by
 have hth : ∀ l ∈ p, threadOk l = true := by
  simp only [progOk, Bool.and_eq_true, List.all_eq_true] at h
  exact h.1.1.2
 obtain ⟨i, l, j, d, hl, hd, h1, h2, hst, hpos⟩ := events_get he
 rw [hst] at h3
 have hok := hth l (List.mem_of_getElem? hl)
 simp only [threadOk, Bool.and_eq_true] at hok
 rcases thrGo_copy hok.1 hd h3 with hf | ⟨j', d', k1, k2, k3⟩
 ·cases hf
 ·refine ⟨(evPro p i).length + (evThr i l j').length, ⟨i, j', false⟩, ?_, events_at hl k2, by rw [h1], by simp [stepAt, hl, k2, k3]⟩
  have := evThr_mono (t := i) k2 k1; omega
theorem src_last {p : Prog} (h : progOk p = true) {a : Nat} {e : Evt} (he : (events p)[a]? = some e) (h3 : (stepAt p e).k = 3) : srcOf (events p) (scene p).ds a a = lastRd (scene p).ds a := by
 obtain ⟨r, e', h1, h2, h4, h5⟩ := scene_copyT h he h3
 obtain ⟨k1, ⟨d, k2, k3⟩, k4⟩ := lastRd_spec (ds := (scene p).ds) (a := a) ⟨r, stepAt p e', h1, scene_get h2, h5⟩
 obtain ⟨q, hq⟩ : ∃ q, lastRd (scene p).ds a = q := ⟨_, rfl⟩
 rw [hq] at k1 k2 k4 ⊢
 have hqr : r ≤ q := by
  rcases Nat.lt_or_ge q r with hh | hh
  ·have := k4 r _ hh h1 (scene_get h2)
   rw [h5] at this; cases this
  ·exact hh
 have hal := (List.getElem?_eq_some_iff.1 he).1
 obtain ⟨eq, heq⟩ : ∃ e, (events p)[q]? = some e := ⟨_, List.getElem?_eq_getElem (by omega)⟩
 have hpw := List.pairwise_iff_getElem.1 (events_pw p p.length)
 have t1 : e'.t ≤ eq.t := by
  rcases Nat.lt_or_ge r q with hh | hh
  ·have := hpw r q (by have := (List.getElem?_eq_some_iff.1 h2).1; exact this) (by have := (List.getElem?_eq_some_iff.1 heq).1; exact this) hh
   rw [← (List.getElem?_eq_some_iff.1 h2).2, ← (List.getElem?_eq_some_iff.1 heq).2]; exact this
  ·have : r = q := by omega
   subst this; rw [h2] at heq; cases heq; exact Int.le_refl _
 have t2 : eq.t ≤ e.t := by
  have := hpw q a (by have := (List.getElem?_eq_some_iff.1 heq).1; exact this) hal k1
  rw [← (List.getElem?_eq_some_iff.1 heq).2, ← (List.getElem?_eq_some_iff.1 he).2]; exact this
 refine srcOf_eq (by rw [heq, he]; simp only [Option.getD_some]; omega) (by rw [k2]; exact k3) a k1 fun j j1 j2 => ?_
 obtain ⟨dj, hdj⟩ : ∃ d, (scene p).ds[j]? = some d := ⟨_, List.getElem?_eq_getElem (by simp [scene]; omega)⟩
 rw [hdj]
 exact k4 j dj j1 j2 hdj
end
section
open Go.RowKit
theorem thr_open : ∀ {l : List Do} {r : Bool}, thrGo l r true = true → ∃ (t : Nat) (dt : Do), l[t]? = some dt ∧ dt.k = 8 ∧ ∀ (j : Nat) dj, j < t → l[j]? = some dj → dj.k ≠ 7 ∧ dj.k ≠ 8
 | [], _, h => by simp [thrGo] at h
 | d0 :: l, r, h => by
  rw [thrGo] at h
  split at h
  ·cases h
  ·rename_i hw
   have h7 : d0.k ≠ 7 := fun e => hw (by simp [Do.wrong, e])
   by_cases h8 : d0.k = 8
   ·exact ⟨0, d0, rfl, h8, fun j dj hj => absurd hj (by omega)⟩
   ·have e : (d0.k == 7 || (true && !(d0.k == 8))) = true := by simp [h8]
    rw [e] at h
    obtain ⟨t, dt, h1, h2, h3⟩ := thr_open h
    refine ⟨t + 1, dt, by simpa using h1, h2, fun j dj hj hd => ?_⟩
    cases j with
    | zero => simp at hd; subst hd; exact ⟨h7, h8⟩
    | succ j => exact h3 j dj (by omega) (by simpa using hd)
theorem thr_in : ∀ {l : List Do} {r i : Bool} {f : Nat} {d : Do}, thrGo l r i = true → l[f]? = some d → d.k = 7 → ∃ (t : Nat) (dt : Do), f < t ∧ l[t]? = some dt ∧ dt.k = 8 ∧ ∀ (j : Nat) dj, f < j → j < t → l[j]? = some dj → dj.k ≠ 7 ∧ dj.k ≠ 8
 | [], _, _, _, _, _, h, _ => by simp at h
 | d0 :: l, r, i, f, d, h, hd, h7 => by
  rw [thrGo] at h
  split at h
  ·cases h
  ·rename_i hw
   cases f with
   | zero =>
    simp at hd; subst hd
    have e : (d0.k == 7 || (i && !(d0.k == 8))) = true := by simp [h7]
    rw [e] at h
    obtain ⟨t, dt, h1, h2, h3⟩ := thr_open h
    refine ⟨t + 1, dt, by omega, by simpa using h1, h2, fun j dj hj hj2 hd => ?_⟩
    cases j with
    | zero => omega
    | succ j => exact h3 j dj (by omega) (by simpa using hd)
   | succ f =>
    obtain ⟨t, dt, h0, h1, h2, h3⟩ := thr_in h (by simpa using hd) h7
    refine ⟨t + 1, dt, by omega, by simpa using h1, h2, fun j dj hj hj2 hd => ?_⟩
    cases j with
    | zero => omega
    | succ j => exact h3 j dj (by omega) (by omega) (by simpa using hd)
theorem thr_out : ∀ {l : List Do} {r i : Bool} {b : Nat} {d : Do}, thrGo l r i = true → l[b]? = some d → d.k = 8 →
  (i = true ∧ ∀ (j : Nat) dj, j < b → l[j]? = some dj → dj.k ≠ 7 ∧ dj.k ≠ 8) ∨ ∃ (f : Nat) (df : Do), f < b ∧ l[f]? = some df ∧ df.k = 7 ∧ ∀ (j : Nat) dj, f < j → j < b → l[j]? = some dj → dj.k ≠ 7 ∧ dj.k ≠ 8
 | [], _, _, _, _, _, h, _ => by simp at h
 | d0 :: l, r, i, b, d, h, hd, h8 => by
  rw [thrGo] at h
  split at h
  ·cases h
  ·rename_i hw
   cases b with
   | zero =>
    simp at hd; subst hd
    left
    refine ⟨?_, fun j dj hj => absurd hj (by omega)⟩
    cases i
    ·exact absurd (by simp [Do.wrong, h8]) hw
    ·rfl
   | succ b =>
    rcases thr_out h (by simpa using hd) h8 with ⟨h1, h2⟩ | ⟨f, df, h0, h1, h2, h3⟩
    ·by_cases h7 : d0.k = 7
     ·right
      refine ⟨0, d0, by omega, rfl, h7, fun j dj hj hj2 hd => ?_⟩
      cases j with
      | zero => omega
      | succ j => exact h2 j dj (by omega) (by simpa using hd)
     ·left
      have : i = true ∧ d0.k ≠ 8 := by simpa [h7] using h1
      refine ⟨this.1, fun j dj hj hd => ?_⟩
      cases j with
      | zero => simp at hd; subst hd; exact ⟨h7, this.2⟩
      | succ j => exact h2 j dj (by omega) (by simpa using hd)
    ·right
     refine ⟨f + 1, df, by omega, by simpa using h1, h2, fun j dj hj hj2 hd => ?_⟩
     cases j with
     | zero => omega
     | succ j => exact h3 j dj (by omega) (by omega) (by simpa using hd)
def Evt.lt (e f : Evt) : Prop := e.t < f.t ∨ (e.t = f.t ∧ (e.s < f.s ∨ (e.s = f.s ∧ f.l = true)))
theorem evThr_lt (t : Nat) (l : List Do) : ∀ k, (evThr t l k).Pairwise Evt.lt
 | 0 => by simp [evThr]
 | k + 1 => by
  rw [evThr, List.pairwise_append]
  refine ⟨evThr_lt t l k, ?_, fun a ha b hb => ?_⟩
  ·split
   ·unfold evsOf
    split
    ·simp [Evt.lt]
    ·simp
   ·exact List.Pairwise.nil
  ·obtain ⟨j, d, h1, _, h2, h3, _⟩ := mem_evThr ha
   split at hb
   ·unfold evsOf at hb
    split at hb
    ·simp at hb
     rcases hb with rfl | rfl <;> exact .inr ⟨h2, .inl (by simp only [h3]; omega)⟩
    ·simp at hb
     subst hb
     exact .inr ⟨h2, .inl (by simp only [h3]; omega)⟩
   ·cases hb
theorem evPro_lt (p : Prog) : ∀ i, (evPro p i).Pairwise Evt.lt
 | 0 => by simp [evPro]
 | i + 1 => by
  rw [evPro, List.pairwise_append]
  refine ⟨evPro_lt p i, ?_, fun a ha b hb => ?_⟩
  ·split
   ·exact evThr_lt _ _ _
   ·exact List.Pairwise.nil
  ·have := evPro_t ha
   split at hb
   ·rw [Evt.lt, evThr_t hb]; exact .inl this
   ·cases hb
theorem events_lt {p : Prog} {a b : Nat} {ea eb : Evt} (ha : (events p)[a]? = some ea) (hb : (events p)[b]? = some eb) (h : a < b) : ea.lt eb := by
 obtain ⟨ha1, ha2⟩ := List.getElem?_eq_some_iff.1 ha
 obtain ⟨hb1, hb2⟩ := List.getElem?_eq_some_iff.1 hb
 have := List.pairwise_iff_getElem.1 (evPro_lt p p.length) a b ha1 hb1 h
 rw [← ha2, ← hb2]; exact this
structure At (p : Prog) (a : Nat) (e : Evt) (i : Nat) (l : List Do) (j : Nat) (d : Do) : Prop where
 ev : (events p)[a]? = some e
 pl : p[i]? = some l
 ld : l[j]? = some d
 t : e.t = i
 s : e.s = j
 st : stepAt p e = d
 late : e.l = true → d.k = 9
theorem At.of {p : Prog} {a : Nat} {e : Evt} (h : (events p)[a]? = some e) : ∃ i l j d, At p a e i l j d := by
 obtain ⟨i, l, k, d, h1, h2, h3, h4, h5, h6⟩ := mem_events (List.mem_of_getElem? h)
 exact ⟨i, l, k, d, h, h1, h2, h3, h4, h5, h6⟩
theorem At.kd {p : Prog} {a i j : Nat} {e : Evt} {l : List Do} {d : Do} (h : At p a e i l j d) : kd (scene p).ds a = d.k := by
 rw [Go.Proofs.YtkdolbffabmemaaGreatDoor.kd, scene_get h.ev, h.st]; rfl
theorem At.th {p : Prog} {a i j : Nat} {e : Evt} {l : List Do} {d : Do} (h : At p a e i l j d) : th (events p) a = i := by
 rw [Go.Proofs.YtkdolbffabmemaaGreatDoor.th, h.ev, ← h.t]; rfl
theorem At.between {p : Prog} {a b c i ja jc : Nat} {ea ec : Evt} {l : List Do} {da dc : Do} (ha : At p a ea i l ja da) (hc : At p c ec i l jc dc) (h9 : da.k ≠ 9) (h9c : dc.k ≠ 9) (h1 : a < b) (h2 : b < c) : ∃ eb jb db, At p b eb i l jb db ∧ ja < jb ∧ jb < jc := by
 have hcl := (List.getElem?_eq_some_iff.1 hc.ev).1
 obtain ⟨eb, heb⟩ : ∃ e, (events p)[b]? = some e := ⟨_, List.getElem?_eq_getElem (by omega)⟩
 obtain ⟨i', l', jb, db, hb⟩ := At.of heb
 have k1 := events_lt ha.ev hb.ev h1
 have k2 := events_lt hb.ev hc.ev h2
 simp only [Evt.lt, ha.t, hb.t, hc.t, ha.s, hb.s, hc.s] at k1 k2
 have hii : i' = i := by omega
 subst hii
 have hll : l' = l := Option.some.inj (hb.pl.symm.trans ha.pl)
 subst hll
 refine ⟨eb, jb, db, hb, ?_, ?_⟩
 ·rcases k1 with k1 | ⟨_, k1 | ⟨k1, k3⟩⟩
  ·omega
  ·omega
  ·have : ja = jb := by omega
   subst this
   have : da = db := Option.some.inj (ha.ld.symm.trans hb.ld)
   subst this
   exact absurd (hb.late k3) h9
 ·rcases k2 with k2 | ⟨_, k2 | ⟨k2, k3⟩⟩
  ·omega
  ·omega
  ·exact absurd (hc.late k3) h9c
theorem At.ord {p : Prog} {a c i ja jc : Nat} {ea ec : Evt} {l : List Do} {da dc : Do} (ha : At p a ea i l ja da) (hc : At p c ec i l jc dc) (h : ja < jc) : a < c := by
 rcases Nat.lt_or_ge a c with h1 | h1
 ·exact h1
 ·rcases Nat.lt_or_ge c a with h2 | h2
  ·have := events_lt hc.ev ha.ev h2
   simp only [Evt.lt, ha.t, hc.t, ha.s, hc.s] at this
   omega
  ·have : a = c := by omega
   subst this
   have e : ea = ec := Option.some.inj (ha.ev.symm.trans hc.ev)
   have h1 := ha.s
   have h2 := hc.s
   rw [e] at h1
   omega
theorem At.mk' {p : Prog} {l : List Do} {d : Do} {i j : Nat} (hl : p[i]? = some l) (hd : l[j]? = some d) : At p ((evPro p i).length + (evThr i l j).length) ⟨i, j, false⟩ i l j d :=
 ⟨events_at hl hd, hl, hd, rfl, rfl, by simp [stepAt, hl, hd], nofun⟩
structure Quiet (p : Prog) (f t : Nat) : Prop where
 lt : f < t
 tl : t < (events p).length
 same : th (events p) f = th (events p) t
 no : ∀ j, f < j → j < t → kd (scene p).ds j ≠ 7 ∧ kd (scene p).ds j ≠ 8 ∧ th (events p) j = th (events p) f
theorem ok_thr {p : Prog} (h : progOk p = true) {i : Nat} {l : List Do} (hl : p[i]? = some l) : thrGo l false false = true := by
 simp only [progOk, Bool.and_eq_true, List.all_eq_true] at h
 have := h.1.1.2 l (List.mem_of_getElem? hl)
 simp only [threadOk, Bool.and_eq_true] at this
 exact this.1
theorem in_out {p : Prog} (h : progOk p = true) {f : Nat} (hf : f < (events p).length) (h7 : kd (scene p).ds f = 7) : ∃ t, Quiet p f t ∧ kd (scene p).ds t = 8 := by
 obtain ⟨i, l, j, d, ha⟩ := At.of (List.getElem?_eq_getElem hf)
 rw [ha.kd] at h7
 obtain ⟨t, dt, k1, k2, k3, k4⟩ := thr_in (ok_thr h ha.pl) ha.ld h7
 have hc := At.mk' ha.pl k2
 have hlt := ha.ord hc k1
 refine ⟨_, ⟨hlt, (List.getElem?_eq_some_iff.1 hc.ev).1, by rw [ha.th, hc.th], fun x hx1 hx2 => ?_⟩, by rw [hc.kd]; exact k3⟩
 obtain ⟨eb, jb, db, hb, m1, m2⟩ := ha.between hc (by omega) (by omega) hx1 hx2
 have := k4 jb db m1 m2 hb.ld
 exact ⟨by rw [hb.kd]; exact this.1, by rw [hb.kd]; exact this.2, by rw [hb.th, ha.th]⟩
theorem out_in {p : Prog} (h : progOk p = true) {b : Nat} (hb : b < (events p).length) (h8 : kd (scene p).ds b = 8) : ∃ f, Quiet p f b ∧ kd (scene p).ds f = 7 := by
 obtain ⟨i, l, j, d, hc⟩ := At.of (List.getElem?_eq_getElem hb)
 rw [hc.kd] at h8
 rcases thr_out (ok_thr h hc.pl) hc.ld h8 with ⟨hf, _⟩ | ⟨f, df, k1, k2, k3, k4⟩
 ·cases hf
 have ha := At.mk' hc.pl k2
 have hlt := ha.ord hc k1
 refine ⟨_, ⟨hlt, hb, by rw [ha.th, hc.th], fun x hx1 hx2 => ?_⟩, by rw [ha.kd]; exact k3⟩
 obtain ⟨eb, jb, db, hx, m1, m2⟩ := ha.between hc (by omega) (by omega) hx1 hx2
 have := k4 jb db m1 m2 hx.ld
 exact ⟨by rw [hx.kd]; exact this.1, by rw [hx.kd]; exact this.2, by rw [hx.th, ha.th]⟩
end
section
open Go.RowKit
theorem kinds {d : Do} (hu : d.uses = true) : (d.reads = true ∧ d.valued = false ∧ (d.k == 3) = false) ∨ (d.reads = false ∧ d.valued = false ∧ (d.k == 3) = true) ∨ (d.reads = false ∧ d.valued = true ∧ (d.k == 3) = false) := by
 simp only [Do.uses, Do.reads, Do.writes, Do.valued] at *
 by_cases h1 : d.k = 1
 ·simp [h1]
 by_cases h2 : d.k = 2
 ·simp [h2]
 by_cases h3 : d.k = 3
 ·simp [h3]
 by_cases h5 : d.k = 5
 ·simp [h5]
 by_cases h6 : d.k = 6
 ·simp [h6]
 ·simp [h1, h2, h3, h5, h6] at hu
def orM (o : Option Int) : Int := match o with | some v => v | none => -1
theorem val_eq {p : Prog} (hok : progOk p = true) {x : Exe} (hf : fromOk (scene p).ds x.fr) : ∀ (m a : Nat) (d : Do), (scene p).ds[a]? = some d → d.uses = true →
  valS (events p) (scene p).ds x.fr m a = orM (valI (scene p).ds x.fr m a) ∧ ∀ v, valI (scene p).ds x.fr m a = some v → 0 ≤ v := by
 intro m
 induction m with
 | zero =>
  intro a d hd hu
  have : ¬ ((a : Int) < 0) := by omega
  simp [valS, valI, this, orM]
 | succ m ih =>
  intro a d hd hu
  have h0 : ¬ ((a : Int) < 0) := by omega
  rw [valS, if_neg h0, valI]
  simp only [Int.toNat_natCast, hd]
  rcases kinds hu with ⟨hr, hv, h3⟩ | ⟨hr, hv, h3⟩ | ⟨hr, hv, h3⟩
  ·simp only [hr, hv, h3, if_true, Bool.false_eq_true, if_false]
   have hal := (List.getElem?_eq_some_iff.1 hd).1
   obtain ⟨f, hfa⟩ : ∃ f, x.fr[a]? = some f := ⟨_, List.getElem?_eq_getElem (by have := hf.1; omega)⟩
   rw [hfa, Option.getD_some]
   dsimp only
   rcases hf.2 a d f hd hfa hr with rfl | ⟨b, d', rfl, h1, h2⟩
   ·have : ∀ m, valS (events p) (scene p).ds x.fr m (-1) = 0 := fun m => by cases m <;> simp [valS]
    rw [this]
    simp [orM]
   ·have hb : (((b : Nat) : Int) == -1) = false := beq_eq_false_iff_ne.2 (by omega)
    rw [hb]
    simp only [Bool.false_eq_true, if_false, Int.toNat_natCast]
    exact ih b d' h1 (by simp [Do.uses, h2])
  ·simp only [hr, hv, h3, if_true, Bool.false_eq_true, if_false]
   have h3' : d.k = 3 := by simpa using h3
   obtain ⟨e, he⟩ : ∃ e, (events p)[a]? = some e := ⟨_, List.getElem?_eq_getElem (by have := (List.getElem?_eq_some_iff.1 hd).1; simpa [scene] using this)⟩
   have hst : stepAt p e = d := by have := scene_get he; rw [hd] at this; cases this; rfl
   rw [src_last hok he (by rw [hst]; exact h3')]
   obtain ⟨_, ⟨d', k2, k3⟩, _⟩ := lastRd_spec (scene_copy hok a d hd h3')
   exact ih _ d' k2 (by simp [Do.uses, k3])
  ·simp only [hr, hv, h3, if_true, Bool.false_eq_true, if_false, orM]
   have := formed_val (scene_formed hok d (List.mem_of_getElem? hd))
   exact ⟨trivial, fun v hv => by cases hv; exact this⟩
theorem ends_eq {p : Prog} (hok : progOk p = true) {x : Exe} (hf : fits (scene p) x = true) : (scene p).ds.zipIdx.all (endOk (scene p).ds x.fr) = endsS p x := by
 have hsl : (scene p).ds.length = (events p).length := by simp [scene]
 have hfr := fromOk_of (scene_len p) hf
 have key : ∀ (a : Nat) (d : Do), (scene p).ds[a]? = some d → endOk (scene p).ds x.fr (d, a) = endS p x.fr a := by
  intro a d hd
  simp only [endOk, endS]
  cases hu : d.uses
  ·have hr : d.reads = false := by cases h : d.reads <;> simp [Do.uses, h] at hu ⊢
   have hw : d.writes = false := by cases h : d.writes <;> simp [Do.uses, h] at hu ⊢
   have h3 : (d.k == 3) = false := by cases h : (d.k == 3) <;> simp [Do.writes, h] at hw ⊢
   have h0 : ¬ ((a : Int) < 0) := by omega
   have : valS (events p) (scene p).ds x.fr (2 * (events p).length + 2) a = d.v := by
    rw [show 2 * (events p).length + 2 = (2 * (events p).length + 1) + 1 from rfl, valS, if_neg h0]
    simp [hd, hr, h3]
   rw [this]
   have := formed_val (scene_formed hok d (List.mem_of_getElem? hd))
   have : ¬ d.v < 0 := by omega
   simp [this]
  ·obtain ⟨h1, h2⟩ := val_eq hok hfr (2 * (events p).length + 2) a d hd hu
   rw [h1]
   cases hv : valI (scene p).ds x.fr (2 * (events p).length + 2) a with
   | none =>
    have : valI (scene p).ds x.fr (scene p).ds.length a = none := by
     cases hn : valI (scene p).ds x.fr (scene p).ds.length a with
     | none => rfl
     | some v =>
      have := valI_up hn ((events p).length + 2)
      rw [hsl, show (events p).length + ((events p).length + 2) = 2 * (events p).length + 2 by omega, hv] at this
      cases this
    rw [this]; simp [orM]
   | some v =>
    rw [valI_enough hv]
    have := h2 v hv
    have : ¬ v < 0 := by omega
    simp [orM, this]
 rw [endsS, Bool.eq_iff_iff]
 simp only [List.all_eq_true]
 constructor
 ·intro h a ha
  have hal : a < (scene p).ds.length := by rw [hsl]; simpa using ha
  have hd : (scene p).ds[a]? = some (scene p).ds[a] := List.getElem?_eq_getElem hal
  rw [← key a _ hd]
  exact h _ (List.mem_of_getElem? (i := a) (by simp [hd]))
 ·rintro h ⟨d, a⟩ hq
  obtain ⟨i, hi⟩ := List.getElem?_of_mem hq
  simp only [List.getElem?_zipIdx, Option.map_eq_some_iff, Prod.mk.injEq, Nat.zero_add] at hi
  obtain ⟨d', hd, rfl, rfl⟩ := hi
  rw [key i _ hd]
  exact h i (by rw [← hsl]; simpa using (List.getElem?_eq_some_iff.1 hd).1)
theorem ok_eq (p : Prog) (x : Exe) : execOk p x = specOk p x := by
 unfold execOk specOk
 cases hok : progOk p
 ·rfl
 simp only [Bool.true_and]
 unfold okX
 cases hf : fits (scene p) x
 ·rw [← fits_form hok, hf]; rfl
 ·rw [← fits_form hok, hf, ends_eq hok hf]
theorem erase_perm {l : List Int} {i : Nat} (h : i < l.length) : (l[i] :: l.eraseIdx i).Perm l := by
 have e : l.take i ++ l[i] :: l.drop (i + 1) = l := by rw [← List.drop_eq_getElem_cons h, List.take_append_drop]
 rw [List.eraseIdx_eq_take_drop_succ]
 conv => rhs; rw [← e]
 exact List.perm_middle.symm
theorem mem_perms : ∀ {n : Nat} {l row : List Int}, l.length = n → l.Perm row → row ∈ perms n l
 | 0, l, row, hl, hp => by
  have : l = [] := List.eq_nil_of_length_eq_zero hl
  subst this
  have : row = [] := by simpa using hp.symm
  subst this; simp [perms]
 | n + 1, l, row, hl, hp => by
  cases row with
  | nil => have := hp.length_eq; rw [hl] at this; simp at this
  | cons z row =>
   have hz : z ∈ l := hp.mem_iff.2 (by simp)
   obtain ⟨i, hi⟩ := List.getElem?_of_mem hz
   have hil := (List.getElem?_eq_some_iff.1 hi).1
   have hzi : l[i] = z := (List.getElem?_eq_some_iff.1 hi).2
   have h1 : (z :: l.eraseIdx i).Perm l := by rw [← hzi]; exact erase_perm hil
   have h2 : (l.eraseIdx i).Perm row := (h1.trans hp).cons_inv
   simp only [perms, List.mem_flatMap, List.mem_range, List.mem_map]
   exact ⟨i, hil, row, mem_perms (by rw [List.length_eraseIdx_of_lt hil]; omega) h2, by simp [List.getD, hi]⟩
theorem mem_froms {ds : List Do} {fr : List Int} (h : ∀ (j : Nat) (d : Do), ds[j]? = some d → ∃ f, fr[j]? = some f ∧ f ∈ choicesOf ds d) : ∀ k, k ≤ ds.length → fr.take k ∈ fromsK ds k
 | 0, _ => by simp [fromsK]
 | k + 1, hk => by
  have hd : ds[k]? = some ds[k] := List.getElem?_eq_getElem (by omega)
  obtain ⟨f, hf, hc⟩ := h k _ hd
  rw [fromsK, hd]
  simp only [List.mem_flatMap, List.mem_map]
  exact ⟨fr.take k, mem_froms h k (by omega), f, hc, (take_get hf).symm⟩
theorem mem_orders {ds : List Do} {od : List (List Int)} (h : ∀ (j : Nat), j < 3 → ∃ r, od[j]? = some r ∧ (writersOf ds j).Perm r) : ∀ k, k ≤ 3 → od.take k ∈ ordersK ds k
 | 0, _ => by simp [ordersK]
 | k + 1, hk => by
  obtain ⟨r, hr, hp⟩ := h k (by omega)
  rw [ordersK]
  simp only [List.mem_flatMap, List.mem_map]
  exact ⟨od.take k, mem_orders h k (by omega), r, mem_perms rfl hp, (take_get hr).symm⟩
theorem mem_all {p : Prog} (hok : progOk p = true) (x : Exe) : x ∈ allOf (scene p) ↔ okX (scene p) x = true := by
 have hsl : (scene p).ds.length = (events p).length := by simp [scene]
 constructor
 ·intro h
  simp only [allOf, List.mem_flatMap] at h
  obtain ⟨f, _, o, _, h⟩ := h
  unfold oneOf at h
  split at h
  ·simp at h; subst h; assumption
  ·cases h
 ·intro h
  have hfit : fits (scene p) x = true := by unfold okX at h; simp only [Bool.and_eq_true] at h; exact h.1
  have hform : formS p x = true := by rw [← fits_form hok]; exact hfit
  have h' := hform
  simp only [formS, Bool.and_eq_true, decide_eq_true_eq, List.all_eq_true] at h'
  obtain ⟨⟨⟨h1, h2⟩, h3⟩, _⟩ := h'
  simp only [fits, Bool.and_eq_true, decide_eq_true_eq, List.all_eq_true] at hfit
  obtain ⟨⟨_, h4⟩, _⟩ := hfit
  have m1 : x.fr ∈ fromsOf (scene p).ds := by
   have := mem_froms (ds := (scene p).ds) (fr := x.fr) (fun j d hd => by
    have hj : j < x.fr.length := by have := (List.getElem?_eq_some_iff.1 hd).1; omega
    have hf : x.fr[j]? = some x.fr[j] := List.getElem?_eq_getElem hj
    refine ⟨_, hf, ?_⟩
    have := h4 (d, x.fr[j]) (List.mem_of_getElem? (i := j) (by simp [List.getElem?_zip_eq_some, hd, hf]))
    simp only [frOk] at this
    unfold choicesOf
    cases hr : d.reads
    ·simp only [hr, Bool.false_eq_true, if_false, beq_iff_eq] at this ⊢
     simp [this]
    ·simp only [hr, if_true, Bool.or_eq_true, beq_iff_eq, List.contains_iff_mem] at this ⊢
     simp only [List.mem_cons]
     exact this) (scene p).ds.length (Nat.le_refl _)
   rwa [List.take_of_length_le (by omega)] at this
  have m2 : x.od ∈ ordersOf (scene p).ds := by
   have := mem_orders (ds := (scene p).ds) (od := x.od) (fun j hj => by
    have hr : x.od[j]? = some x.od[j] := List.getElem?_eq_getElem (by omega)
    refine ⟨_, hr, ?_⟩
    have := h3 j (by simpa using hj)
    simp only [placeS, hr, Option.getD_some, Bool.and_eq_true, beq_iff_eq, List.all_eq_true, List.contains_iff_mem] at this
    exact perm_of (writers_nodup _ _) this.2 (by omega)) 3 (Nat.le_refl _)
   rwa [List.take_of_length_le (by omega)] at this
  simp only [allOf, List.mem_flatMap]
  exact ⟨x.fr, m1, x.od, m2, by unfold oneOf; rw [if_pos h]; simp⟩
theorem mem_execAll (p : Prog) (x : Exe) : x ∈ execAll p ↔ execOk p x = true := by
 unfold execAll execOk
 cases hok : progOk p
 ·simp
 ·simp only [if_true, Bool.true_and]
  exact mem_all hok x
end
section
open Go.RowKit
theorem scene_p {p : Prog} (h : progOk p = true) : ∀ d ∈ (scene p).ds, d.uses = true → 0 ≤ d.p ∧ d.p < 3 := fun d hd hu => by
 have := formed_place (scene_formed h d hd) hu; omega
structure Way (p : Prog) (x : Exe) : Prop where
 ok : progOk p = true
 fr : x.fr.length = (scene p).ds.length
 od : x.od.length = 3
 from_ : ∀ (i : Nat) d f, (scene p).ds[i]? = some d → x.fr[i]? = some f → frOk (scene p).ds (d, f) = true
theorem Way.of {p : Prog} {x : Exe} (h : execOk p x = true) : Way p x := by
 simp only [execOk, okX, fits, Bool.and_eq_true, decide_eq_true_eq] at h
 obtain ⟨h0, ⟨⟨⟨h1, h2⟩, h3⟩, h4⟩, h5⟩ := h
 refine ⟨h0, by rw [h1, scene_len], h2, fun i d f hd hf => ?_⟩
 rw [List.all_eq_true] at h3
 refine h3 (d, f) (List.mem_of_getElem? (i := i) ?_)
 rw [List.getElem?_zip_eq_some]
 exact ⟨hd, hf⟩
theorem Way.read {p : Prog} {x : Exe} (h : Way p x) {a b : Nat} (hb : x.fr[b]? = some (a : Int)) : ((scene p).ds[a]?.getD default).writes = true ∧ ((scene p).ds[b]?.getD default).reads = true := by
 have hbl := (List.getElem?_eq_some_iff.1 hb).1
 obtain ⟨d, hd⟩ : ∃ d, (scene p).ds[b]? = some d := ⟨_, List.getElem?_eq_getElem (by rw [← h.fr]; exact hbl)⟩
 have := h.from_ b d a hd hb
 simp only [frOk] at this
 split at this
 ·rename_i hr
  rw [Bool.or_eq_true] at this
  rcases this with h1 | h1
  ·simp at h1
  ·have h2 : (a : Int) ∈ writersOf (scene p).ds d.p := by simpa using h1
   obtain ⟨b', d', k1, k2, k3, k4, _⟩ := mem_wrs h2
   have : a = b' := by omega
   subst this
   rw [hd, k3]
   exact ⟨k4, hr⟩
 ·simp at this
section
variable (p : Prog) (x : Exe)
def dsA (a : Nat) : Do := (scene p).ds[a]?.getD default
def sameS (a b : Nat) : Bool := (dsA p a).uses && (dsA p b).uses && (dsA p a).p == (dsA p b).p
def readS (a b : Nat) : Bool := (dsA p a).writes && (dsA p b).reads && x.fr[b]?.getD 0 == (a : Int)
def rankS (a : Nat) : Int := if (dsA p a).writes then Lib.idxOf (x.od[(dsA p a).p.toNat]?.getD []) a else if (dsA p a).reads then Lib.idxOf (x.od[(dsA p a).p.toNat]?.getD []) (x.fr[a]?.getD 0) else 0
def overS (a b : Nat) : Bool := (dsA p b).writes && !(a == b) && sameS p a b && decide (rankS p x a < rankS p x b)
def insS (a b : Nat) : Bool := ownB (events p) a b && (kd (scene p).ds a == 7 || kd (scene p).ds b == 8) && (List.range b).all fun k => decide (k ≤ a) || !((kd (scene p).ds a == 7 && kd (scene p).ds k == 8) || (kd (scene p).ds b == 8 && kd (scene p).ds k == 7))
def wallB (d : Do) : Bool := d.k == 4 || d.k == 9
def looseS (a b : Nat) : Bool := ownB (events p) a b && (wallB (dsA p a) || wallB (dsA p b) || (dsA p a).k == 5 || (dsA p b).k == 6 || insS p a b || ((dsA p b).k == 3 && srcOf (events p) (scene p).ds b b == (a : Int)))
def staysS (kind : Int) (a b : Nat) : Bool := if kind == 1 then ownB (events p) a b else if kind == 2 then ownB (events p) a b && !((dsA p a).writes && (dsA p b).reads) else if kind == 3 then looseS p a b else ownB (events p) a b && sameS p a b
def apartS (a b : Nat) : Bool := th (events p) a != th (events p) b
def toldS (kind : Int) (a b : Nat) : Bool := if kind == 2 then (apartS p a b && readS p x a b) || overS p x a b else if kind == 3 then apartS p a b && (readS p x a b || overS p x a b) else readS p x a b || overS p x a b
end
theorem writes_noreads {d : Do} (h : d.writes = true) : d.reads = false := by
 simp only [Do.writes, Do.reads, Bool.or_eq_true, beq_iff_eq] at *
 cases hr : (d.k == 2 || d.k == 5) <;> simp_all <;> omega
theorem read_eq {p : Prog} {x : Exe} (h : Way p x) {a b : Nat} (hb : b < (scene p).ds.length) : readS p x a b = (x.fr[b]?.getD 0 == (a : Int)) := by
 obtain ⟨z, hz⟩ : ∃ z, x.fr[b]? = some z := ⟨_, List.getElem?_eq_getElem (by rw [h.fr]; exact hb)⟩
 rw [readS, hz, Option.getD_some]
 by_cases hza : z = (a : Int)
 ·subst hza
  obtain ⟨h1, h2⟩ := h.read hz
  simp [dsA, h1, h2]
 ·simp [hza]
theorem over_eq (p : Prog) (x : Exe) (a b : Nat) : overS p x a b = overB (scene p).ds x a b := by
 obtain ⟨da, hda⟩ : ∃ d, (scene p).ds[a]?.getD default = d := ⟨_, rfl⟩
 obtain ⟨db, hdb⟩ : ∃ d, (scene p).ds[b]?.getD default = d := ⟨_, rfl⟩
 simp only [overS, overB, sameS, rankS, dsA, hda, hdb]
 cases hw : db.writes
 ·simp
 have hub : db.uses = true := by simp [Do.uses, hw]
 cases hab : (a == b)
 ·cases hua : da.uses
  ·simp
  cases hpp : (da.p == db.p)
  ·simp
  have hpe : da.p = db.p := by simpa using hpp
  rw [hpe]
  cases hwa : da.writes
  ·have hra : da.reads = true := by simpa [Do.uses, hwa] using hua
   simp [hub, hra]
  ·simp [hub, writes_noreads hwa]
 ·simp
theorem bkI_some {es : List Evt} {ds : List Do} {a f : Nat} : ∀ {k : Nat}, bkI es ds a k = some f → f ≤ k ∧ kd ds f = 7 ∧ (∀ j, f < j → j ≤ k → kd ds j ≠ 7) ∧ (∀ j, f < j → j ≤ k → j ≠ a → kd ds j ≠ 8) ∧ ∀ j, f ≤ j → j < k → th es j = th es a
 | 0, h => by
  rw [bkI] at h
  split at h
  ·rename_i h7
   cases h
   exact ⟨Nat.le_refl _, by simpa using h7, fun j h1 h2 => absurd h1 (by omega), fun j h1 h2 => absurd h1 (by omega), fun j h1 h2 => absurd h2 (by omega)⟩
  ·cases h
 | k + 1, h => by
  rw [bkI] at h
  split at h
  ·rename_i h7
   cases h
   exact ⟨Nat.le_refl _, by simpa using h7, fun j h1 h2 => absurd h1 (by omega), fun j h1 h2 => absurd h1 (by omega), fun j h1 h2 => absurd h2 (by omega)⟩
  ·rename_i h7
   split at h
   ·cases h
   ·rename_i h8
    split at h
    ·cases h
    ·rename_i ht
     obtain ⟨k1, k2, k3, k4, k5⟩ := bkI_some h
     have h7' : kd ds (k + 1) ≠ 7 := by simpa using h7
     have ht' : th es k = th es a := by simpa using ht
     refine ⟨by omega, k2, fun j h1 h2 => ?_, fun j h1 h2 h3 => ?_, fun j h1 h2 => ?_⟩
     ·rcases Nat.lt_or_ge j (k + 1) with hh | hh
      ·exact k3 j h1 (by omega)
      ·have : j = k + 1 := by omega
       subst this; exact h7'
     ·rcases Nat.lt_or_ge j (k + 1) with hh | hh
      ·exact k4 j h1 (by omega) h3
      ·have : j = k + 1 := by omega
       subst this
       intro h8'
       exact h8 (by simp [h8', h3])
     ·rcases Nat.lt_or_ge j k with hh | hh
      ·exact k5 j h1 hh
      ·have : j = k := by omega
       subst this; exact ht'
theorem bkI_of {es : List Evt} {ds : List Do} {a f : Nat} (h7 : kd ds f = 7) : ∀ {k : Nat}, f ≤ k → (∀ j, f < j → j ≤ k → kd ds j ≠ 7) → (∀ j, f < j → j ≤ k → j ≠ a → kd ds j ≠ 8) → (∀ j, f ≤ j → j < k → th es j = th es a) → bkI es ds a k = some f
 | 0, h1, _, _, _ => by
  have : f = 0 := by omega
  subst this
  rw [bkI, h7]; rfl
 | k + 1, h1, h2, h3, h4 => by
  rcases Nat.lt_or_ge f (k + 1) with hh | hh
  ·have e1 : (kd ds (k + 1) == 7) = false := by simpa using h2 (k + 1) hh (Nat.le_refl _)
   have e2 : (!(k + 1 == a) && kd ds (k + 1) == 8) = false := by
    by_cases ha : k + 1 = a
    ·simp [ha]
    ·have := h3 (k + 1) hh (Nat.le_refl _) ha
     simp [this]
   have e3 : (th es k != th es a) = false := by have := h4 k (by omega) (by omega); simp [this]
   rw [bkI, e1, e2, e3]
   simp only [Bool.false_eq_true, if_false]
   exact bkI_of h7 (by omega) (fun j k1 k2 => h2 j k1 (by omega)) (fun j k1 k2 => h3 j k1 (by omega)) (fun j k1 k2 => h4 j k1 (by omega))
  ·have : f = k + 1 := by omega
   subst this
   rw [bkI, h7]; rfl
theorem insS_iff {p : Prog} {a b : Nat} (ho : ownB (events p) a b = true) : insS p a b = true ↔ (kd (scene p).ds a = 7 ∨ kd (scene p).ds b = 8) ∧ ∀ k, a < k → k < b → ¬ (kd (scene p).ds a = 7 ∧ kd (scene p).ds k = 8) ∧ ¬ (kd (scene p).ds b = 8 ∧ kd (scene p).ds k = 7) := by
 rw [insS, ho, Bool.true_and, Bool.and_eq_true, Bool.or_eq_true, beq_iff_eq, beq_iff_eq, List.all_eq_true]
 refine and_congr Iff.rfl ⟨fun h k h1 h2 => ?_, fun h k hk => ?_⟩
 ·have := h k (List.mem_range.2 h2)
  rw [Bool.or_eq_true, decide_eq_true_eq] at this
  have := this.resolve_left (by omega)
  simp only [Bool.not_eq_true', Bool.or_eq_false_iff, Bool.and_eq_false_iff, beq_eq_false_iff_ne] at this
  omega
 ·rw [Bool.or_eq_true, decide_eq_true_eq]
  rcases Nat.lt_or_ge a k with hh | hh
  ·right
   have := h k hh (List.mem_range.1 hk)
   simp only [Bool.not_eq_true', Bool.or_eq_false_iff, Bool.and_eq_false_iff, beq_eq_false_iff_ne]
   omega
  ·exact .inl hh
theorem Quiet.out {p : Prog} {f t : Nat} (h : Quiet p f t) (h7 : kd (scene p).ds f = 7) (h8 : kd (scene p).ds t = 8) : IsOut (scene p).ds f t := by
 refine ⟨by have := h.lt; omega, by have := h.tl; simpa [scene] using this, h8, fun j h1 h2 => ?_⟩
 rcases Nat.lt_or_ge f j with hh | hh
 ·exact (h.no j hh h2).2.1
 ·have : j = f := by omega
  subst this; omega
theorem out_ex {p : Prog} (h : progOk p = true) (a : Nat) (ha : a < (events p).length) : ∃ t, ∀ f, bkI (events p) (scene p).ds a a = some f → Quiet p f t ∧ kd (scene p).ds f = 7 ∧ kd (scene p).ds t = 8 := by
 cases hb : bkI (events p) (scene p).ds a a with
 | none => exact ⟨0, fun f hf => by cases hf⟩
 | some f =>
  obtain ⟨k1, k2, _⟩ := bkI_some hb
  obtain ⟨t, h1, h2⟩ := in_out h (by omega) k2
  exact ⟨t, fun f' hf => by cases hf; exact ⟨h1, k2, h2⟩⟩
def insI (p : Prog) (a b t : Nat) : Bool := match bkI (events p) (scene p).ds a a with
 | none => false
 | some f => (kd (scene p).ds a == 7 || kd (scene p).ds b == 8) && decide (a ≤ t) && decide (f ≤ a) && decide (b ≤ t) && (kd (scene p).ds a == 7 || b == t)
theorem ins_eq {p : Prog} (h : progOk p = true) {a b t : Nat} (hb : b < (events p).length) (ho : ownB (events p) a b = true) (ht : ∀ f, bkI (events p) (scene p).ds a a = some f → Quiet p f t ∧ kd (scene p).ds f = 7 ∧ kd (scene p).ds t = 8) :
  insI p a b t = insS p a b := by
 have hab : a < b ∧ th (events p) a = th (events p) b := by simpa [ownB, th] using ho
 rw [Bool.eq_iff_iff, insS_iff ho]
 by_cases h7 : kd (scene p).ds a = 7
 ·have hbk : bkI (events p) (scene p).ds a a = some a := bkI_of h7 (Nat.le_refl _) (fun j h1 h2 => absurd h1 (by omega)) (fun j h1 h2 => absurd h1 (by omega)) (fun j h1 h2 => absurd h1 (by omega))
  obtain ⟨q, _, h8⟩ := ht a hbk
  rw [insI, hbk]
  have := q.lt
  have e1 : decide (a ≤ t) = true := by simp; omega
  simp only [h7, e1, beq_self_eq_true, Bool.true_or, Bool.true_and, Bool.and_true, Nat.le_refl, decide_true, decide_eq_true_eq, true_or, true_and]
  constructor
  ·intro hbt k k1 k2
   have := q.no k k1 (by omega)
   omega
  ·intro hk
   rcases Nat.lt_or_ge t b with hh | hh
   ·exact absurd h8 (hk t q.lt hh).1
   ·exact hh
 ·have h7' : (kd (scene p).ds a == 7) = false := by simpa using h7
  by_cases h8 : kd (scene p).ds b = 8
  ·obtain ⟨f', q, hf7⟩ := out_in h hb h8
   constructor
   ·intro hi
    refine ⟨.inr h8, fun k k1 k2 => ⟨by omega, fun hk => ?_⟩⟩
    rw [insI] at hi
    split at hi
    ·cases hi
    ·rename_i f hf
     obtain ⟨q2, _, _⟩ := ht f hf
     rw [h7'] at hi
     simp only [Bool.and_eq_true, decide_eq_true_eq, Bool.false_or, beq_iff_eq] at hi
     have := (q2.no k (by omega) (by omega)).1
     exact this hk.2
   ·rintro ⟨_, hk⟩
    have hfa : f' < a := by
     rcases Nat.lt_or_ge f' a with hh | hh
     ·exact hh
     ·rcases Nat.lt_or_ge a f' with h2 | h2
      ·exact absurd ⟨h8, hf7⟩ (hk f' h2 q.lt).2
      ·have : f' = a := by omega
       subst this; exact absurd hf7 h7
    have hbk : bkI (events p) (scene p).ds a a = some f' := by
     refine bkI_of hf7 (by omega) (fun j h1 h2 => (q.no j h1 (by omega)).1) (fun j h1 h2 _ => (q.no j h1 (by omega)).2.1) (fun j h1 h2 => ?_)
     have e : ∀ j, f' ≤ j → j < b → th (events p) j = th (events p) f' := fun j h1 h2 => by
      rcases Nat.lt_or_ge f' j with hh | hh
      ·exact (q.no j hh h2).2.2
      ·have : j = f' := by omega
       rw [this]
     rw [e j h1 (by omega), e a (by omega) hab.1]
    obtain ⟨q2, _, ht8⟩ := ht f' hbk
    have htb : t = b := by
     rcases Nat.lt_or_ge t b with hh | hh
     ·exact absurd ht8 (q.no t q2.lt hh).2.1
     ·rcases Nat.lt_or_ge b t with h2 | h2
      ·exact absurd h8 (q2.no b (by omega) h2).2.1
      ·omega
    subst htb
    rw [insI, hbk]
    simp [h8]
    omega
  ·have h8' : (kd (scene p).ds b == 8) = false := by simpa using h8
   constructor
   ·intro hi
    rw [insI] at hi
    split at hi
    ·cases hi
    ·simp [h7', h8'] at hi
   ·rintro ⟨hk, _⟩
    omega
end
section
open Go.RowKit
end
section
open Go.RowKit
theorem loose_eq {p : Prog} (h : progOk p = true) {a b t : Nat} (hb : b < (events p).length) (ho : ownB (events p) a b = true) (ht : ∀ f, bkI (events p) (scene p).ds a a = some f → Quiet p f t ∧ kd (scene p).ds f = 7 ∧ kd (scene p).ds t = 8) (f : Int) (t' : Int) (ok : Bool)
  (hr : insR a t (bkI (events p) (scene p).ds a a) = .tuple [.int .i64 f, .int .i64 t', .bool ok]) : looseB (dsA p a) (dsA p b) a b (lastRd (scene p).ds b) f t' ok = looseS p a b := by
 have hi := ins_eq h hb ho ht
 have e : insI p a b t = ((kd (scene p).ds a == 7 || kd (scene p).ds b == 8) && ok && decide (f ≤ a) && decide ((b : Int) ≤ t') && (kd (scene p).ds a == 7 || (b : Int) == t')) := by
  rw [insI]
  cases hbk : bkI (events p) (scene p).ds a a with
  | none =>
   rw [hbk] at hr
   simp only [insR, V.tuple.injEq, List.cons.injEq, V.int.injEq, V.bool.injEq, true_and, and_true] at hr
   obtain ⟨rfl, rfl, rfl⟩ := hr
   simp
  | some f0 =>
   rw [hbk] at hr
   simp only [insR, V.tuple.injEq, List.cons.injEq, V.int.injEq, V.bool.injEq, true_and, and_true] at hr
   obtain ⟨rfl, rfl, rfl⟩ := hr
   have e1 : decide ((f0 : Int) ≤ a) = decide (f0 ≤ a) := by simp
   have e2 : decide ((b : Int) ≤ t) = decide (b ≤ t) := by simp
   have e3 : ((b : Int) == (t : Int)) = (b == t) := by rw [Bool.eq_iff_iff]; simp; omega
   rw [e1, e2, e3]
 have hsl : (scene p).ds.length = (events p).length := by simp [scene]
 obtain ⟨eb, heb⟩ : ∃ e, (events p)[b]? = some e := ⟨_, List.getElem?_eq_getElem hb⟩
 have hs : ((dsA p b).k == 3 && srcOf (events p) (scene p).ds b b == (a : Int)) = ((dsA p b).k == 3 && lastRd (scene p).ds b == a) := by
  by_cases h3 : (dsA p b).k = 3
  ·have e4 : dsA p b = stepAt p eb := by rw [dsA, scene_get heb]; rfl
   have := src_last h heb (by rw [← e4]; exact h3)
   have e5 : ((lastRd (scene p).ds b : Int) == (a : Int)) = (lastRd (scene p).ds b == a) := by rw [Bool.eq_iff_iff, beq_iff_eq, beq_iff_eq]; omega
   rw [this, e5]
  ·have h3' : ((dsA p b).k == 3) = false := by simpa using h3
   rw [h3']; rfl
 rw [looseS, ho, hs, ← hi, e, looseB]
 simp only [Bool.true_and, wallB, dsA, kd]
 cases ((scene p).ds[a]?.getD default).k == 4 <;> cases ((scene p).ds[a]?.getD default).k == 9 <;> cases ((scene p).ds[b]?.getD default).k == 4 <;> cases ((scene p).ds[b]?.getD default).k == 9 <;>
  cases ((scene p).ds[a]?.getD default).k == 5 <;> cases ((scene p).ds[b]?.getD default).k == 6 <;> simp [Bool.or_comm]
theorem has_eq {p : Prog} {x : Exe} (h : Way p x) {a b : Nat} (hb : b < (scene p).ds.length) {kind : Int} (hk : inB kind 1 3 = true) (lo : Bool) (hlo : ownB (events p) a b = true → lo = looseS p a b) :
  hasB (ownB (events p) a b) (x.fr[b]?.getD 0 == (a : Int)) (overB (scene p).ds x a b) (th (events p) a != th (events p) b) (dsA p a).writes (dsA p b).reads lo kind = (staysS p kind a b || toldS p x kind a b) := by
 rw [← read_eq h hb, ← over_eq]
 have hk' : kind = 1 ∨ kind = 2 ∨ kind = 3 := by simp [inB] at hk; omega
 have hol : ownB (events p) a b = false → looseS p a b = false := fun ho => by simp [looseS, ho]
 simp only [hasB, staysS, toldS, apartS]
 rcases hk' with rfl | rfl | rfl
 ·simp [Bool.or_assoc]
 ·simp [Bool.or_assoc, Bool.and_comm]
 ·cases ho : ownB (events p) a b
  ·simp [hol ho, Bool.and_comm]
  ·simp [hlo ho, Bool.and_comm]
theorem isOrd_fn (n : Int) : Fp Tryz.prog 33 [.int .i64 n] (.bool (inB n 1 3)) := by
 refine Fc.start (S := []) Tryz.func33 Tryz.ntmps33 Tryz.results33 rfl (by decide) rfl (by kernel_rfl) ?_
 simp (disch := omega) only [push_cast, go_sem, zA, simprocAttr]
 refine callR.pure (in_fn n 1 3) rfl rfl ?_
 simp (disch := omega) only [push_cast, go_sem, zA, simprocAttr]
theorem insR_ex (a t : Nat) (o : Option Nat) : ∃ (f t' : Int) (ok : Bool), insR a t o = .tuple [.int .i64 f, .int .i64 t', .bool ok] := by
 cases o with
 | none => exact ⟨0, 0, false, rfl⟩
 | some f => exact ⟨f, t, decide (a ≤ t), rfl⟩
end
section
open Go.RowKit
def msk (f : Nat → Bool) : Nat → Nat
 | 0 => 0
 | n + 1 => msk f n ||| (if f n then 2 ^ n else 0)
theorem msk_lt (f : Nat → Bool) : ∀ n, msk f n < 2 ^ n
 | 0 => by simp [msk]
 | n + 1 => by
  rw [msk]
  refine Nat.or_lt_two_pow (Nat.lt_of_lt_of_le (msk_lt f n) (Nat.pow_le_pow_right (by decide) (by omega))) ?_
  split
  ·exact Nat.pow_lt_pow_right (by decide) (by omega)
  ·exact Nat.two_pow_pos _
theorem msk_bit (f : Nat → Bool) (b : Nat) : ∀ n, (msk f n).testBit b = (decide (b < n) && f b)
 | 0 => by simp [msk]
 | n + 1 => by
  rw [msk, Nat.testBit_or, msk_bit f b n]
  by_cases hb : b = n
  ·subst hb
   cases hf : f b
   ·simp
   ·simp [Nat.testBit_two_pow]
  ·have h1 : decide (b < n + 1) = decide (b < n) := by rw [decide_eq_decide]; omega
   rw [h1]
   split
   ·rw [Nat.testBit_two_pow_of_ne (by omega), Bool.or_false]
   ·simp
theorem bits_eq {x y : Nat} (h : ∀ b, x.testBit b = y.testBit b) : x = y := Nat.eq_of_testBit_eq h
theorem bit_ex {x : Nat} (h : x ≠ 0) : ∃ b, x.testBit b = true := Nat.exists_testBit_of_ne_zero h
structure Low (x k : Nat) : Prop where
 lt : k < 64
 bit : x.testBit k = true
 no : ∀ j, j < k → x.testBit j = false
 rest : ∀ j, (x &&& (x - 1)).testBit j = (x.testBit j && !(j == k))
theorem ctz_low {x : Nat} (h0 : x ≠ 0) (h : x < 2 ^ 64) : Low x (Go.Lib.ctz 64 x) := by
 obtain ⟨m, h1, h2⟩ := Go.Lib.ctzFrom_spec 64 x (by omega) h
 have e : Go.Lib.ctz 64 x = Go.Lib.ctzFrom 64 x := by rw [Go.Lib.ctz, if_neg h0]
 rw [e]
 generalize Go.Lib.ctzFrom 64 x = k at h1 h2
 have hp : 0 < 2 ^ k := Nat.two_pow_pos k
 have hx : x = 2 ^ k * (2 * m + 1) + 0 := by omega
 have hx1 : x - 1 = 2 ^ k * (2 * m) + (2 ^ k - 1) := by
  rw [h1, Nat.mul_add, Nat.mul_one]; omega
 have b1 : ∀ j, x.testBit j = if j < k then false else (2 * m + 1).testBit (j - k) := fun j => by
  rw [hx, Nat.testBit_two_pow_mul_add _ hp]; split <;> simp
 have b2 : ∀ j, (x - 1).testBit j = if j < k then true else (2 * m).testBit (j - k) := fun j => by
  rw [hx1, Nat.testBit_two_pow_mul_add _ (by omega)]
  split
  ·rename_i hj; rw [Nat.testBit_two_pow_sub_one]; simp [hj]
  ·rfl
 refine ⟨h2, ?_, fun j hj => ?_, fun j => ?_⟩
 ·rw [b1]; simp
 ·rw [b1, if_pos hj]
 ·rw [Nat.testBit_and, b1, b2]
  by_cases hj : j < k
  ·simp [hj]
  ·simp only [hj, if_false]
   by_cases hk : j = k
   ·subst hk; simp
   ·have : j - k = (j - k - 1) + 1 := by omega
    rw [this, Nat.testBit_succ, Nat.testBit_succ]
    have e1 : (2 * m + 1) / 2 = m := by omega
    have e2 : 2 * m / 2 = m := by omega
    rw [e1, e2]
    simp [hk]
def andn (a b : Nat) : Nat := (BitVec.ofNat 64 a &&& ~~~ BitVec.ofNat 64 b).toNat
theorem andn_bit {a b : Nat} (ha : a < 2 ^ 64) (j : Nat) : (andn a b).testBit j = (a.testBit j && !b.testBit j) := by
 rw [andn, BitVec.testBit_toNat, BitVec.getLsbD_and, BitVec.getLsbD_not, BitVec.getLsbD_ofNat, BitVec.getLsbD_ofNat]
 by_cases hj : j < 64
 ·simp [hj]
 ·have : a.testBit j = false := Nat.testBit_lt_two_pow (Nat.lt_of_lt_of_le ha (Nat.pow_le_pow_right (by decide) (by omega)))
  simp [this, hj]
theorem andn_le {a b : Nat} (ha : a < 2 ^ 64) : andn a b ≤ a := by
 rw [andn, BitVec.toNat_and]
 refine Nat.le_trans Nat.and_le_left ?_
 rw [BitVec.toNat_ofNat]
 exact Nat.mod_le _ _
theorem andn_lt (a b : Nat) : andn a b < 2 ^ 64 := BitVec.isLt _
theorem ofInt_nat {a : Nat} : BitVec.ofInt 64 (a : Int) = BitVec.ofNat 64 a := by rw [BitVec.ofInt_natCast]
theorem toNat_of {a : Nat} (ha : a < 2 ^ 64) : (BitVec.ofNat 64 a).toNat = a := by rw [BitVec.toNat_ofNat]; exact Nat.mod_eq_of_lt ha
theorem wrap_nat {m : Nat} (h : m < 2 ^ 64) : IntKind.u64.wrap (m : Int) = m := by rw [IntKind.wrap_u64]; omega
theorem bin_or64 {a b : Nat} (ha : a < 2 ^ 64) (hb : b < 2 ^ 64) : binV .or (.int .u64 a) (.int .u64 b) = some (.int .u64 ((a ||| b : Nat) : Int)) := by
 have e : (BitVec.ofInt 64 (a : Int) ||| BitVec.ofInt 64 (b : Int)).toNat = a ||| b := by rw [BitVec.toNat_or, ofInt_nat, ofInt_nat, toNat_of ha, toNat_of hb]
 have : binV .or (.int .u64 a) (.int .u64 b) = some (.int .u64 (IntKind.u64.wrap ((BitVec.ofInt 64 (a : Int) ||| BitVec.ofInt 64 (b : Int)).toNat : Int))) := by simp only [binV, intOp, if_true]; rfl
 rw [this, e, wrap_nat (Nat.or_lt_two_pow ha hb)]
theorem bin_and64 {a b : Nat} (ha : a < 2 ^ 64) (hb : b < 2 ^ 64) : binV .and (.int .u64 a) (.int .u64 b) = some (.int .u64 ((a &&& b : Nat) : Int)) := by
 have e : (BitVec.ofInt 64 (a : Int) &&& BitVec.ofInt 64 (b : Int)).toNat = a &&& b := by rw [BitVec.toNat_and, ofInt_nat, ofInt_nat, toNat_of ha, toNat_of hb]
 have : binV .and (.int .u64 a) (.int .u64 b) = some (.int .u64 (IntKind.u64.wrap ((BitVec.ofInt 64 (a : Int) &&& BitVec.ofInt 64 (b : Int)).toNat : Int))) := by simp only [binV, intOp, if_true]; rfl
 rw [this, e, wrap_nat (Nat.and_lt_two_pow _ hb)]
theorem bin_andn64 {a b : Nat} : binV .andNot (.int .u64 a) (.int .u64 b) = some (.int .u64 ((andn a b : Nat) : Int)) := by
 have : binV .andNot (.int .u64 a) (.int .u64 b) = some (.int .u64 (IntKind.u64.wrap ((BitVec.ofInt 64 (a : Int) &&& ~~~ BitVec.ofInt 64 (b : Int)).toNat : Int))) := by simp only [binV, intOp, if_true]; rfl
 rw [this, ofInt_nat, ofInt_nat]
 exact congrArg (fun m => some (V.int .u64 m)) (wrap_nat (BitVec.isLt _))
def p2 (b : Nat) : Nat := 2 ^ b
def allB (n : Nat) : Nat := 2 ^ n - 1
theorem p2_lt {b : Nat} (hb : b < 64) : p2 b < 2 ^ 64 := Nat.pow_lt_pow_right (by decide) hb
theorem p2_bit (b j : Nat) : (p2 b).testBit j = (j == b) := by
 rw [p2, Nat.testBit_two_pow, Bool.eq_iff_iff]; simp; omega
theorem wrap_all {n : Nat} (hn : n < 64) : IntKind.u64.wrap ((p2 n : Nat) - 1 : Int) = (allB n : Nat) := by
 have h0 : 0 < 2 ^ n := Nat.two_pow_pos n
 have h1 : 2 ^ n < 2 ^ 64 := Nat.pow_lt_pow_right (by decide) hn
 have : ((p2 n : Nat) - 1 : Int) = ((2 ^ n - 1 : Nat) : Int) := by rw [p2]; omega
 rw [this, wrap_nat (by omega), allB]
theorem allB_lt {n : Nat} : allB n < 2 ^ n := by rw [allB]; have := Nat.two_pow_pos n; omega
theorem allB_bit (n j : Nat) : (allB n).testBit j = decide (j < n) := by rw [allB, Nat.testBit_two_pow_sub_one]
theorem bin_shl64 {b : Nat} (hb : b < 64) : binV .shl (.int .u64 1) (.int .i64 b) = some (.int .u64 ((p2 b : Nat) : Int)) := by
 rw [p2]
 have e : min (b : Int).toNat 64 = b := by simp; omega
 have : binV .shl (.int .u64 1) (.int .i64 b) = some (.int .u64 (IntKind.u64.wrap (1 * 2 ^ (min (b : Int).toNat 64)))) := by simp only [binV]; rw [if_pos (by omega)]; rfl
 rw [this, e]
 have h1 : (1 * 2 ^ b : Int) = ((2 ^ b : Nat) : Int) := by simp
 rw [h1, wrap_nat (Nat.pow_lt_pow_right (by decide) hb)]
def pre (m : Nat) : Nat := m - 1
theorem wrap_pred {m : Nat} (h0 : 0 < m) (h : m ≤ 2 ^ 64) : IntKind.u64.wrap ((m : Int) - 1) = (pre m : Nat) := by
 have : (m : Int) - 1 = ((m - 1 : Nat) : Int) := by omega
 rw [this, wrap_nat (by omega), pre]
section
variable (R : Nat → Nat → Bool) (n : Nat)
def freeE (L : Nat → Bool) (b : Nat) : Bool := L b && (List.range n).all fun a => !L a || !R a b
def pickE (L : Nat → Bool) : Option Nat := (List.range n).find? (freeE R n L)
def elimE : Nat → (Nat → Bool) → Option (List Nat)
 | 0, _ => some []
 | k + 1, L => match pickE R n L with
  | none => none
  | some b => (elimE k fun x => L x && !(x == b)).map (b :: ·)
def lineE : Option (List Nat) := elimE R n n fun x => decide (x < n)
def cntE (L : Nat → Bool) : Nat := ((List.range n).filter L).length
end
theorem find_some {n b : Nat} {f : Nat → Bool} (hb : b < n) (hf : f b = true) (hno : ∀ j, j < b → f j = false) : (List.range n).find? f = some b := by
 rw [List.find?_range_eq_some]
 exact ⟨hf, by simpa using hb, fun j hj => by simp [hno j hj]⟩
theorem find_none {n : Nat} {f : Nat → Bool} (hno : ∀ j, j < n → f j = false) : (List.range n).find? f = none := by
 rw [List.find?_eq_none]
 intro x hx
 rw [hno x (List.mem_range.1 hx)]; simp
theorem cnt_pos {n b : Nat} {L : Nat → Bool} (hb : b < n) (hL : L b = true) : 0 < cntE n L := by
 rw [cntE]
 exact List.length_pos_of_mem (List.mem_filter.2 ⟨List.mem_range.2 hb, hL⟩)
theorem cnt_zero {n : Nat} {L : Nat → Bool} (h : ∀ b, b < n → L b = false) : cntE n L = 0 := by
 rw [cntE, List.filter_eq_nil_iff.2 fun a ha => by rw [h a (List.mem_range.1 ha)]; simp]; rfl
theorem cnt_all {n : Nat} : cntE n (fun x => decide (x < n)) = n := by
 rw [cntE, List.filter_eq_self.2 fun a ha => by simpa using ha]; simp
theorem cnt_rem {b : Nat} {L : Nat → Bool} (hL : L b = true) : ∀ {n : Nat}, b < n → cntE n L = cntE n (fun x => L x && !(x == b)) + 1
 | 0, h => absurd h (by omega)
 | n + 1, h => by
  simp only [cntE, List.range_succ, List.filter_append, List.length_append]
  rcases Nat.lt_or_ge b n with hh | hh
  ·have := cnt_rem hL hh
   simp only [cntE] at this
   rw [this]
   have e : (n == b) = false := by simp; omega
   simp only [List.filter_cons, List.filter_nil, e, Bool.not_false, Bool.and_true]
   omega
  ·have : n = b := by omega
   subst this
   have e : (List.range n).filter (fun x => L x && !(x == n)) = (List.range n).filter L := by
    refine List.filter_congr fun x hx => ?_
    have : x < n := List.mem_range.1 hx
    have : (x == n) = false := by simp; omega
    simp [this]
   rw [e]
   simp [hL]
def Acy (R : Nat → Nat → Bool) (n : Nat) : Prop := ∀ S : Nat → Bool, (∃ b, b < n ∧ S b = true) → ∃ b, b < n ∧ S b = true ∧ ∀ a, a < n → S a = true → R a b = false
theorem Acy.less {R R' : Nat → Nat → Bool} {n : Nat} (h : Acy R n) (hs : ∀ a b, a < n → b < n → R' a b = true → R a b = true) : Acy R' n := fun S hS => by
 obtain ⟨b, h1, h2, h3⟩ := h S hS
 refine ⟨b, h1, h2, fun a ha hSa => ?_⟩
 cases hr : R' a b
 ·rfl
 ·rw [← hs a b ha h1 hr, h3 a ha hSa]
theorem free_iff {R : Nat → Nat → Bool} {n : Nat} {L : Nat → Bool} {b : Nat} : freeE R n L b = true ↔ L b = true ∧ ∀ a, a < n → L a = true → R a b = false := by
 rw [freeE, Bool.and_eq_true, List.all_eq_true]
 refine and_congr Iff.rfl ⟨fun h a ha hL => ?_, fun h a ha => ?_⟩
 ·have := h a (List.mem_range.2 ha)
  simpa [hL] using this
 ·cases hL : L a
  ·rfl
  ·simp [h a (List.mem_range.1 ha) hL]
theorem pick_some {R : Nat → Nat → Bool} {n : Nat} {L : Nat → Bool} {b : Nat} (h : pickE R n L = some b) : b < n ∧ freeE R n L b = true :=
 ⟨List.mem_range.1 (List.mem_of_find?_eq_some h), List.find?_some h⟩
theorem elim_some {R : Nat → Nat → Bool} {n : Nat} (h : Acy R n) : ∀ (k : Nat) (L : Nat → Bool), cntE n L = k → (elimE R n k L).isSome = true
 | 0, L, _ => rfl
 | k + 1, L, hc => by
  have hne : ∃ b, b < n ∧ L b = true := by
   rw [cntE] at hc
   cases hf : (List.range n).filter L with
   | nil => rw [hf] at hc; cases hc
   | cons b l =>
    have : b ∈ (List.range n).filter L := by rw [hf]; simp
    obtain ⟨h1, h2⟩ := List.mem_filter.1 this
    exact ⟨b, List.mem_range.1 h1, h2⟩
  obtain ⟨b0, h1, h2, h3⟩ := h L hne
  rw [elimE]
  cases hp : pickE R n L with
  | none =>
   have := List.find?_eq_none.1 hp b0 (List.mem_range.2 h1)
   exact absurd (free_iff.2 ⟨h2, h3⟩) this
  | some b =>
   obtain ⟨p1, p2⟩ := pick_some hp
   have hLb := (free_iff.1 p2).1
   have := cnt_rem hLb p1
   simp only [Option.isSome_map]
   exact elim_some h k _ (by omega)
theorem elim_acy {R : Nat → Nat → Bool} {n : Nat} : ∀ (k : Nat) (L : Nat → Bool), cntE n L = k → (elimE R n k L).isSome = true → ∀ S : Nat → Bool, (∀ x, x < n → S x = true → L x = true) → (∃ b, b < n ∧ S b = true) → ∃ b, b < n ∧ S b = true ∧ ∀ a, a < n → S a = true → R a b = false
 | 0, L, hc, _, S, hs, ⟨b, hb, hSb⟩ => by have := cnt_pos hb (hs b hb hSb); omega
 | k + 1, L, hc, he, S, hs, ⟨b0, hb0, hS0⟩ => by
  rw [elimE] at he
  cases hp : pickE R n L with
  | none => rw [hp] at he; cases he
  | some b =>
   rw [hp] at he
   simp only [Option.isSome_map] at he
   obtain ⟨p1, p2⟩ := pick_some hp
   obtain ⟨hLb, hfree⟩ := free_iff.1 p2
   have hcr := cnt_rem hLb p1
   cases hSb : S b
   ·refine elim_acy k _ (by omega) he S (fun x hx hSx => ?_) ⟨b0, hb0, hS0⟩
    have : x ≠ b := fun e => by rw [e, hSb] at hSx; cases hSx
    simp [hs x hx hSx, this]
   ·exact ⟨b, p1, hSb, fun a ha hSa => hfree a ha (hs a ha hSa)⟩
theorem line_acy {R : Nat → Nat → Bool} {n : Nat} : (lineE R n).isSome = true ↔ Acy R n :=
 ⟨fun h S hS => elim_acy n _ cnt_all h S (fun x hx _ => by simpa using hx) hS, fun h => elim_some h n _ cnt_all⟩
theorem line_less {R R' : Nat → Nat → Bool} {n : Nat} (hs : ∀ a b, a < n → b < n → R' a b = true → R a b = true) (h : (lineE R n).isSome = true) : (lineE R' n).isSome = true := line_acy.2 ((line_acy.1 h).less hs)
theorem find_congr {f g : Nat → Bool} : ∀ {l : List Nat}, (∀ x ∈ l, f x = g x) → l.find? f = l.find? g
 | [], _ => rfl
 | x :: l, h => by
  rw [List.find?_cons, List.find?_cons, h x (by simp), find_congr fun y hy => h y (by simp [hy])]
theorem elim_congr {R R' : Nat → Nat → Bool} {n : Nat} (h : ∀ a b, a < n → b < n → R a b = R' a b) : ∀ (k : Nat) (L : Nat → Bool), elimE R n k L = elimE R' n k L
 | 0, _ => rfl
 | k + 1, L => by
  have : pickE R n L = pickE R' n L := by
   rw [pickE, pickE]
   refine find_congr fun b hb => ?_
   rw [Bool.eq_iff_iff, free_iff, free_iff]
   exact and_congr Iff.rfl ⟨fun hh a ha hL => by rw [← h a b ha (List.mem_range.1 hb)]; exact hh a ha hL, fun hh a ha hL => by rw [h a b ha (List.mem_range.1 hb)]; exact hh a ha hL⟩
  rw [elimE, elimE, this]
  cases pickE R' n L with
  | none => rfl
  | some b => simp only [elim_congr h k]
theorem line_congr {R R' : Nat → Nat → Bool} {n : Nat} (h : ∀ a b, a < n → b < n → R a b = R' a b) : lineE R n = lineE R' n := elim_congr h n _
end
section
open Go.RowKit Go.Shelf
def tzRen : Ren := ⟨fun | 29 => 117 | n => n, fun | 0 => 0 | 3 => 3 | 4 => 4 | 5 => 5 | 22 => 138 | 25 => 161 | 54 => 168 | n => n, fun | 1 => 0 | n => n⟩
theorem tzLays : Go.Proofs.Lays7.n29 Tryz.prog tzRen := {
 mixed := by kernel_rfl
 f29 := Tryz.func117.trans (congrArg some (by kernel_rfl))
 t0 := Tryz.underlying0
 a0 := Tryz.isAgg0
 z0 := Tryz.sizeOf0
 v0 := Tryz.zeroValue0
 i0 := by kernel_rfl
 t3 := Tryz.underlying3
 a3 := Tryz.isAgg3
 z3 := Tryz.sizeOf3
 v3 := Tryz.zeroValue3
 i3 := by kernel_rfl
 t4 := Tryz.underlying4
 a4 := Tryz.isAgg4
 z4 := Tryz.sizeOf4
 v4 := Tryz.zeroValue4
 i4 := by kernel_rfl
 t5 := Tryz.underlying5
 a5 := Tryz.isAgg5
 z5 := Tryz.sizeOf5
 v5 := Tryz.zeroValue5
 i5 := by kernel_rfl
 t22 := Tryz.underlying138
 a22 := Tryz.isAgg138
 z22 := Tryz.sizeOf138
 v22 := Tryz.zeroValue138
 i22 := by kernel_rfl
 t25 := Tryz.underlying161
 a25 := Tryz.isAgg161
 z25 := Tryz.sizeOf161
 v25 := Tryz.zeroValue161
 i25 := by kernel_rfl
 t54 := Tryz.underlying168
 a54 := Tryz.isAgg168
 z54 := Tryz.sizeOf168
 g1 := by kernel_rfl }
theorem tz_fn (x : Nat) (hx : x < 2 ^ 64) : Fp Tryz.prog 117 [.int .u64 x] (.int .i64 (Go.Lib.ctz 64 x)) := by
 refine ⟨fun imm w vals hG hI hi hs hv => ?_, by kernel_rfl⟩
 obtain ⟨l⟩ := vals
 match l, hs with
 | [a], _ =>
  have ha := (hv 0 (.int .u64 x) a rfl rfl).int_inv
  subst ha
  have hT := (hG (0, Go.Lib.deBruijn64tab) (by simp [globT])).2
  refine (Go.Proofs.Any7.bits_TrailingZeros64 tzLays x hx w (fun _ => hT)).mono ?_
  rintro e w' ⟨rfl, rfl⟩
  exact ⟨_, _, noM, imm, rfl, ⟨rfl, rfl⟩, .int _ _, Step.refl inv_no hi⟩
def cgRen : Ren := ⟨fun | 41 => 119 | n => n, fun | 22 => 63 | 23 => 138 | 4 => 4 | n => n, fun n => n⟩
theorem cgLays : Go.Proofs.SlLaysE0.n41 Tryz.prog cgRen := {
 mixed := by kernel_rfl
 f41 := ⟨Tryz.f119.name, by decide, Tryz.func119.trans (congrArg some (by kernel_rfl))⟩
 t4 := Tryz.underlying4
 a4 := Tryz.isAgg4
 z4 := Tryz.sizeOf4
 v4 := Tryz.zeroValue4
 t22 := Tryz.underlying63
 a22 := Tryz.isAgg63
 z22 := Tryz.sizeOf63
 v22 := Tryz.zeroValue63 }
def bitE (m : Nat) : V := .int .u64 (m : Int)
theorem bitE_eq (m : Nat) : bitE m = .int .u64 (m : Int) := rfl
def bitsV (l : List Nat) : V := .sl (l.map bitE)
theorem bitsV_eq (l : List Nat) : bitsV l = .sl (l.map bitE) := rfl
theorem plain_bits (l : List Nat) : ∀ x ∈ l.map bitE, plainE x := by
 intro x hx; obtain ⟨z, _, rfl⟩ := List.mem_map.1 hx; exact plain_int _ _
theorem infoB : (Tryz.prog.info? 138).map (fun i => (i.zero, i.size, i.bytes)) = some (some (.int .u64 0), 1, 8) := by kernel_rfl
theorem cloneB_fn (l : List Nat) (hl : l.length < 2 ^ 40) (hne : l ≠ []) : Fc Tryz.prog 119 [bitsV l] noM fun r m => ∃ γ cap, r = .msl 100 [] γ l.length cap ∧ m = noM.set 100 (.own 138 γ cap (l.map bitE)) := by
 have h0 := Fc.of_row (P := Tryz.prog) (f := 119) (args := [bitsV l]) (e := 138) (es := l.map bitE) (plain_bits l) szT_138 (by kernel_rfl) fun imm w vals hi hs hv => ?_
 ·rw [List.length_map] at h0; exact h0
 obtain ⟨a, rfl, ha⟩ := vals1 (P := Tryz.prog) hs hv
 obtain ⟨A, c, rfl, h⟩ := ha.plain_inv (plain_bits l)
 rw [List.length_map] at *
 obtain ⟨i0, hi0, hz0, hz1, hz2⟩ := info_parts infoB
 have hz : l.map bitE ≠ [] := by simpa using hne
 obtain ⟨g, off, us, h1, hu1, hu2, hu3⟩ := h hz
 subst h1
 refine (Go.Proofs.AnyE.slices_Clone cgLays i0 (.int .u64 0) 1 8 hi0 hz0 hz1 hz2 rfl (by decide) Tryz.sizeOf138 g off l.length c us w (by simpa using hu1) (by unfold maxLen; omega) (by omega) hu2 ?_).mono ?_
 ·intro u hu
  obtain ⟨i, hi, rfl⟩ := List.mem_iff_getElem.1 hu
  have hil : i < (l.map bitE).length := by rw [List.length_map]; omega
  obtain ⟨u', k1, k2⟩ := hu3 i _ (List.getElem?_eq_getElem hil)
  rw [List.getElem?_eq_getElem hi] at k1
  cases k1
  exact k2.one (plain_bits l _ (List.getElem_mem hil)).2.2
 ·rintro e w' ⟨v', rfl, k1, _, k2⟩
  exact ⟨_, _, rfl, k1, hu3, k2⟩
end
section
open Go.RowKit
def natE (m : Nat) : V := .int .i64 (m : Int)
def lineV : Option (List Nat) → V
 | some l => .tuple [.sl (l.map natE), .bool true]
 | none => .tuple [.nilsl, .bool false]
def relG (g : List Nat) (a b : Nat) : Bool := (g[a]?.getD 0).testBit b
@[push_cast] theorem fzs_nat (l : List Nat) : (l.map natE).map V.fz = l.map natE := by rw [List.map_map]; exact List.map_congr_left fun d _ => rfl
@[push_cast] theorem flatL_nat (l : List Nat) : flatL (l.map natE) = true := by simp [flatL, V.cells, V.flatC, natE]
theorem Fp.nilT {P : Program} {f : FuncId} {args : List V} {v : V} (h : Fc P f args noM fun r m => (r = v ∨ ∃ s q x, r = .tuple [.msl s q none 0 0, x] ∧ v = .tuple [.nilsl, x]) ∧ m = noM) : Fp P f args v := by
 refine ⟨fun imm w vals hG hI hi hs hv => (h.fn imm w vals hG hI hi hs hv).mono ?_, h.go⟩
 rintro e w' ⟨u, r, m, imm', h1, ⟨h2, h3⟩, h4, h5⟩
 refine ⟨u, v, m, imm', h1, ⟨rfl, h3⟩, ?_, h5⟩
 rcases h2 with rfl | ⟨s, q, x, rfl, rfl⟩
 ·exact h4
 ·cases h4 with
  | tuple _ arr hl hh =>
   refine .tuple _ arr hl fun j c u' hc hu => ?_
   cases j with
   | zero =>
    simp at hc; subst hc
    have := hh 0 (.msl s q none 0 0) u' rfl hu
    cases this
    exact .nilsl
   | succ j => exact hh (j + 1) c u' (by simpa using hc) hu
theorem line_fn (g : List Nat) (hn : g.length ≤ 62) (hg : ∀ m ∈ g, m < 2 ^ 64) : Fp Tryz.prog 71 [bitsV g] (lineV (lineE (relG g) g.length)) := by
 have hp : 0 < 2 ^ g.length := Nat.two_pow_pos _
 have hp2 : 2 ^ g.length < 2 ^ 64 := Nat.pow_lt_pow_right (by decide) (by omega)
 have hb64 : ∀ {a b : Nat}, a < 2 ^ 64 → g.length ≤ b → a < 2 ^ g.length → a.testBit b = false := fun _ h h2 => Nat.testBit_lt_two_pow (Nat.lt_of_lt_of_le h2 (Nat.pow_le_pow_right (by decide) h))
 refine Fp.nilT ?_
 refine Fc.start (S := [15]) Tryz.func71 Tryz.ntmps71 Tryz.results71 rfl (by decide) rfl (by kernel_rfl) ?_
 simp (disch := omega) only [push_cast, go_sem, zA, simprocAttr, bitsV_eq, bin_shl64 (show g.length < 64 by omega), wrap_all (show g.length < 64 by omega)]
 refine Sat.loop (σ := EvS × Nat × List Nat) (fun x => upd (upd (upd noT 0 (.sl (g.map bitE))) 5 (.int .u64 x.2.1)) 4 (.msl 4 [] x.1.γ x.2.2.length x.1.c)) (fun x => noM.set 4 (.own x.1.e x.1.γ x.1.c (x.2.2.map natE)))
  (fun x => x.2.1 < 2 ^ g.length ∧ cntE g.length (fun b => x.2.1.testBit b) = x.1.k ∧ x.2.2.length + x.1.k = g.length ∧ (x.1.γ = none ∨ x.1.e = 3) ∧ lineE (relG g) g.length = (elimE (relG g) g.length x.1.k fun b => x.2.1.testBit b).map (x.2.2 ++ ·)) (fun x => x.1.k) (⟨g.length, 0, none, 0⟩, allB g.length, []) ?_ ?_ ?_
 ·have e : (fun b => (allB g.length).testBit b) = fun b => decide (b < g.length) := by funext b; rw [allB_bit]
  refine ⟨allB_lt, ?_, by simp, .inl rfl, ?_⟩
  ·dsimp only; rw [e]; exact cnt_all
  ·dsimp only
   rw [e, lineE]
   cases elimE (relG g) g.length g.length fun b => decide (b < g.length) <;> rfl
 ·(refine zB ?_; repeat (first | exact zC | exact zD | refine zE (by decide) ?_ | refine zF ?_ ?_ | refine zG ?_ ?_)) <;> (try simp (disch := omega) only [push_cast, go_sem, zA, simprocAttr])
 rintro ⟨⟨k, e, γ, c⟩, left, out⟩ ⟨hl, hc, hol, hγ, hline⟩ J hJ
 simp only at hl hc hol hγ hline hJ
 have hγ' : (γ = none ∨ e = 3) = True := by simp only [hγ]
 have hl64 : left < 2 ^ 64 := by omega
 refine Sat.of (S := [15]) (by kernel_rfl) ?_
 by_cases h0 : left = 0
 ·subst h0
  have hk : k = 0 := by rw [← hc]; exact cnt_zero fun b _ => Nat.zero_testBit b
  subst hk
  have e0 : (((0 : Nat) : Int) != 0) = false := rfl
  simp (disch := omega) only [push_cast, go_sem, zA, simprocAttr, e0]
  refine Sat.freezeT (upd noT 4 (.sl (out.map natE))) noM 4 (e := e) (γ := γ) (cap := c) (es := out.map natE) rfl ?_ ?_
  ·(refine zB ?_; repeat (first | exact zC | exact zD | refine zE (by decide) ?_ | refine zF ?_ ?_ | refine zG ?_ ?_)) <;> (try simp (disch := omega) only [push_cast, go_sem, zA, simprocAttr])
  refine Sat.of (S := []) (by kernel_rfl) ?_
  simp (disch := omega) only [push_cast, go_sem, zA, simprocAttr]
  left
  rw [hline, elimE]
  simp [lineV]
 have e0 : ((left : Int) != 0) = true := by simp; omega
 have hin : ∀ {b : Nat}, left.testBit b = true → b < g.length := fun {b} hb => by
  rcases Nat.lt_or_ge b g.length with hh | hh
  ·exact hh
  ·rw [hb64 hl64 hh hl] at hb; cases hb
 simp (disch := omega) only [push_cast, go_sem, zA, simprocAttr, e0]
 refine Sat.loop (σ := Nat × Nat) (fun x => upd (upd (upd (upd (upd noT 0 (.sl (g.map bitE))) 5 (.int .u64 left)) 4 (.msl 4 [] γ out.length c)) 6 (.int .u64 x.2)) 7 (.int .u64 x.1)) (fun x => noM.set 4 (.own e γ c (out.map natE)))
  (fun x => x.1 < 2 ^ 64 ∧ x.2 < 2 ^ 64 ∧ (∀ a, x.1.testBit a = true → left.testBit a = true) ∧ ∀ b, x.2.testBit b = true ↔ ∃ a, left.testBit a = true ∧ x.1.testBit a = false ∧ relG g a b = true) (fun x => x.1) (left, 0) ?_ ?_ ?_
 ·refine ⟨hl64, by dsimp only; omega, fun a h => h, fun b => ?_⟩
  dsimp only
  constructor
  ·intro h; rw [Nat.zero_testBit] at h; cases h
  ·rintro ⟨a, h1, h2, _⟩; rw [h1] at h2; cases h2
 ·(refine zB ?_; repeat (first | exact zC | exact zD | refine zE (by decide) ?_ | refine zF ?_ ?_ | refine zG ?_ ?_)) <;> (try simp (disch := omega) only [push_cast, go_sem, zA, simprocAttr])
 rintro ⟨rest, bl⟩ ⟨hr64, hb64', hrl, hbl⟩ J2 hJ2
 simp only at hr64 hb64' hrl hbl hJ2
 refine Sat.of (S := []) (by kernel_rfl) ?_
 by_cases hr0 : rest = 0
 ·subst hr0
  have e1 : (((0 : Nat) : Int) != 0) = false := rfl
  have hbl' : ∀ b, bl.testBit b = true ↔ ∃ a, left.testBit a = true ∧ relG g a b = true := fun b => by
   rw [hbl b]
   exact ⟨fun ⟨a, h1, _, h3⟩ => ⟨a, h1, h3⟩, fun ⟨a, h1, h3⟩ => ⟨a, h1, Nat.zero_testBit a, h3⟩⟩
  have hfree : ∀ b, freeE (relG g) g.length (fun b => left.testBit b) b = (andn left bl).testBit b := fun b => by
   rw [Bool.eq_iff_iff, free_iff, andn_bit hl64, Bool.and_eq_true, Bool.not_eq_true', Bool.eq_false_iff, Ne, hbl' b]
   refine and_congr Iff.rfl ⟨fun h ⟨a, h1, h2⟩ => ?_, fun h a ha h1 => ?_⟩
   ·rw [h a (hin h1) h1] at h2; cases h2
   ·cases hr : relG g a b
    ·rfl
    ·exact absurd ⟨a, h1, hr⟩ h
  obtain ⟨b0, hb0⟩ := bit_ex h0
  obtain ⟨k1, hk1⟩ : ∃ k1, k = k1 + 1 := ⟨k - 1, by have := cnt_pos (L := fun b => left.testBit b) (hin hb0) hb0; omega⟩
  subst hk1
  rw [elimE] at hline
  by_cases hf0 : andn left bl = 0
  ·have e2 : (((andn left bl : Nat) : Int) == 0) = true := by rw [hf0]; rfl
   have hpk : pickE (relG g) g.length (fun b => left.testBit b) = none := find_none fun j _ => by rw [hfree j, hf0]; exact Nat.zero_testBit j
   rw [hpk] at hline
   simp (disch := omega) only [push_cast, go_sem, zA, simprocAttr, e1, bin_andn64, e2]
   right
   refine ⟨2, [], .bool false, rfl, ?_⟩
   rw [hline]; rfl
  have e2 : (((andn left bl : Nat) : Int) == 0) = false := by simp; omega
  obtain ⟨k1', k2, k3, k4⟩ := ctz_low hf0 (andn_lt left bl)
  have htz := tz_fn (andn left bl) (andn_lt left bl)
  obtain ⟨z, hz⟩ : ∃ z, Go.Lib.ctz 64 (andn left bl) = z := ⟨_, rfl⟩
  rw [hz] at k1' k2 k3 htz
  have hlz : left.testBit z = true := by rw [andn_bit hl64, Bool.and_eq_true] at k2; exact k2.1
  have hzn := hin hlz
  have hpk : pickE (relG g) g.length (fun b => left.testBit b) = some z := find_some hzn (by rw [hfree z]; exact k2) fun j hj => by rw [hfree j]; exact k3 j hj
  rw [hpk] at hline
  have hcr := cnt_rem (L := fun b => left.testBit b) hlz hzn
  have hLz : (fun x => (andn left (p2 z)).testBit x) = fun x => left.testBit x && !(x == z) := by funext x; rw [andn_bit hl64, p2_bit]
  simp (disch := omega) only [push_cast, go_sem, zA, simprocAttr, e1, bin_andn64, e2]
  refine callR.pure htz rfl rfl ?_
  simp (disch := omega) only [push_cast, go_sem, zA, simprocAttr, hγ']
  intro g39
  refine ⟨by omega, fun γ4 c4 _ => ?_⟩
  simp (disch := omega) only [push_cast, go_sem, zA, simprocAttr, bin_shl64 k1', bin_andn64]
  refine hJ (⟨k1, 3, γ4, c4⟩, andn left (p2 z), out ++ [z]) _ _ ⟨?_, ?_, ?_, .inr rfl, ?_⟩ (by dsimp only; omega) ?_
  ·dsimp only
   exact Nat.lt_of_le_of_lt (andn_le hl64) hl
  ·dsimp only; rw [hLz]; omega
  ·simp at hol ⊢; omega
  ·dsimp only
   have hl2 : lineE (relG g) g.length = ((elimE (relG g) g.length k1 fun x => left.testBit x && !(x == z)).map (z :: ·)).map (out ++ ·) := hline
   rw [hLz, hl2]
   cases (elimE (relG g) g.length k1 fun x => left.testBit x && !(x == z)) <;> simp
  ·(refine zB ?_; repeat (first | exact zC | exact zD | refine zE (by decide) ?_ | refine zF ?_ ?_ | refine zG ?_ ?_)) <;> (try simp (disch := omega) only [push_cast, go_sem, zA, simprocAttr])
   all_goals simp [natE]
 have e1 : ((rest : Int) != 0) = true := by simp; omega
 obtain ⟨k1, k2, k3, k4⟩ := ctz_low hr0 hr64
 have htz := tz_fn rest hr64
 obtain ⟨z, hz⟩ : ∃ z, Go.Lib.ctz 64 rest = z := ⟨_, rfl⟩
 rw [hz] at k1 k2 k3 k4 htz
 have hzn := hin (hrl z k2)
 obtain ⟨m, hm⟩ : ∃ m, g[z]? = some m := ⟨_, List.getElem?_eq_getElem hzn⟩
 have hm64 := hg m (List.mem_of_getElem? hm)
 simp (disch := omega) only [push_cast, go_sem, zA, simprocAttr, e1]
 refine callR.pure htz rfl rfl ?_
 simp (disch := omega) only [push_cast, go_sem, zA, simprocAttr, hm, hzn, bitE_eq, bin_or64 hb64' hm64, wrap_pred (Nat.pos_of_ne_zero hr0) (Nat.le_of_lt hr64), bin_and64 hr64 (show pre rest < 2 ^ 64 by rw [pre]; omega)]
 have hrel : ∀ b, relG g z b = m.testBit b := fun b => by rw [relG, hm]; rfl
 have hpre : ∀ j, (rest &&& pre rest).testBit j = (rest.testBit j && !(j == z)) := k4
 refine hJ2 (rest &&& pre rest, bl ||| m) _ _ ⟨Nat.lt_of_le_of_lt Nat.and_le_left hr64, Nat.or_lt_two_pow hb64' hm64, fun a ha => ?_, fun b => ?_⟩ ?_ ?_
 ·dsimp only at ha
  rw [hpre, Bool.and_eq_true] at ha
  exact hrl a ha.1
 ·dsimp only
  rw [Nat.testBit_or, Bool.or_eq_true, hbl b]
  constructor
  ·rintro (⟨a, h1, h2, h3⟩ | h1)
   ·exact ⟨a, h1, by rw [hpre, h2]; rfl, h3⟩
   ·exact ⟨z, hrl z k2, by rw [hpre]; simp, by rw [hrel]; exact h1⟩
  ·rintro ⟨a, h1, h2, h3⟩
   by_cases haz : a = z
   ·subst haz; right; rw [← hrel]; exact h3
   ·left
    refine ⟨a, h1, ?_, h3⟩
    rw [hpre] at h2
    have : (a == z) = false := by simpa using haz
    simpa [this] using h2
 ·dsimp only
  refine Nat.lt_of_le_of_ne Nat.and_le_left fun he => ?_
  have h1 := hpre z
  rw [he, k2] at h1
  simp at h1
 ·(refine zB ?_; repeat (first | exact zC | exact zD | refine zE (by decide) ?_ | refine zF ?_ ?_ | refine zG ?_ ?_)) <;> (try simp (disch := omega) only [push_cast, go_sem, zA, simprocAttr])
end
end Go.Proofs.YtkdolbffabmemaaGreatDoor
