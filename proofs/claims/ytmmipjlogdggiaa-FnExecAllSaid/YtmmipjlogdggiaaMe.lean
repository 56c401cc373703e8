/-
  How many ways the reference puts at most. What is a way is one to both. What ends ends to both: a way is one to both. A way is one to both; a way is among all just if it is one. The law's helpers: whether numbers are the same; whether ways are. The law FnExecAll, from what is drawn on. Draws: a step, a thread.
-/
import Derived.Test.YtmmipjlogdggiaaMd
import Derived.Lib.SlKeysI
import Derived.Test.YtmmipjlogdggiaaVx
/-! ## How many ways the reference puts at most -/
namespace Go.Proofs.Ytmmipjlogdggiaa
open Go.RowKit
set_option linter.unusedSimpArgs false
set_option linter.unusedVariables false
set_option pp.maxSteps 3000

theorem rdN_cons (d : Do) (l : List Do) : rdN (d :: l) = (if d.reads then 1 else 0) + rdN l := by
  simp only [rdN, List.filter_cons]; split <;> simp [Nat.add_comm]
theorem compl_len {ds : List Do} (h : usN ds ≤ 6) : ∀ (j : Nat) (fr : List Int), fr.length + j = ds.length → (compl ds j fr).length ≤ 7 ^ rdN (ds.drop fr.length)
  | 0, fr, hl => by simp only [compl, List.length_singleton]; exact Nat.pos_of_ne_zero (by simp)
  | j + 1, fr, hl => by
    have hd : ds[fr.length]? = some ds[fr.length] := List.getElem?_eq_getElem (by omega)
    rw [compl, hd, drop_get hd, rdN_cons]
    dsimp only
    have key := flatMap_le (f := fun c => compl ds j (fr ++ [c])) (n := 7 ^ rdN (ds.drop (fr.length + 1))) (fun c => by have := compl_len h j (fr ++ [c]) (by simp; omega); simpa using this) (choicesOf ds ds[fr.length])
    refine Nat.le_trans key ?_
    rw [Nat.pow_add]
    refine Nat.mul_le_mul_right _ ?_
    unfold choicesOf
    split
    · rw [List.length_cons, writers_len]
      have := wrN_any h ds[fr.length].p
      omega
    · simp
theorem rdN_drop {ds : List Do} (h : usN ds ≤ 6) (k : Nat) : rdN (ds.drop k) ≤ 6 := by
  have h1 : rdN (ds.drop k) ≤ usN ds := by
    simp only [rdN, usN]
    rw [← List.countP_eq_length_filter, ← List.countP_eq_length_filter]
    refine Nat.le_trans (List.countP_mono_left (q := Do.uses) fun d _ hd => ?_) (List.Sublist.countP_le (List.drop_sublist k ds))
    simp [Do.uses, hd]
  omega
theorem compl_le {ds : List Do} (h : usN ds ≤ 6) : (compl ds ds.length []).length ≤ 117649 :=
  Nat.le_trans (compl_len h ds.length [] (by simp)) (Nat.le_trans (Nat.pow_le_pow_right (by decide) (rdN_drop h _)) (by decide))

/-! ### numbers that stand once -/
theorem nodup_le {a : List Int} : ∀ {b : List Int}, a.Nodup → (∀ x ∈ a, x ∈ b) → a.length ≤ b.length := by
  induction a with
  | nil => intro b _ _; simp
  | cons x a ih =>
    intro b hn hs
    rw [List.nodup_cons] at hn
    have hx := hs x (by simp)
    have := ih (b := b.erase x) hn.2 (fun y hy => (List.mem_erase_of_ne (fun (e : y = x) => hn.1 (by rw [← e]; exact hy))).2 (hs y (by simp [hy])))
    rw [List.length_erase_of_mem hx] at this
    have := List.length_pos_of_mem hx
    simp; omega
theorem perm_of {a : List Int} : ∀ {b : List Int}, a.Nodup → (∀ x ∈ a, x ∈ b) → b.length ≤ a.length → a.Perm b := by
  induction a with
  | nil => intro b _ _ h; have : b = [] := List.eq_nil_of_length_eq_zero (by simpa using h); rw [this]
  | cons x a ih =>
    intro b hn hs hl
    rw [List.nodup_cons] at hn
    have hx := hs x (by simp)
    have := ih (b := b.erase x) hn.2 (fun y hy => (List.mem_erase_of_ne (fun (e : y = x) => hn.1 (by rw [← e]; exact hy))).2 (hs y (by simp [hy]))) (by rw [List.length_erase_of_mem hx]; simp at hl; omega)
    exact (this.cons x).trans (List.perm_cons_erase hx).symm
theorem wrs_pw {ds : List Do} {pl : Int} : ∀ k, (wrs ds pl k).Pairwise (· < ·) ∧ ∀ x ∈ wrs ds pl k, x < (k : Int)
  | 0 => by simp [wrs]
  | k + 1 => by
    obtain ⟨h1, h2⟩ := wrs_pw (ds := ds) (pl := pl) k
    rw [wrs]
    constructor
    · rw [List.pairwise_append]
      refine ⟨h1, ?_, fun x hx y hy => ?_⟩
      · split
        · split <;> simp
        · simp
      · have := h2 x hx
        split at hy
        · split at hy
          · simp at hy; omega
          · cases hy
        · cases hy
    · intro x hx
      simp only [List.mem_append] at hx
      rcases hx with hx | hx
      · have := h2 x hx; omega
      · split at hx
        · split at hx
          · simp at hx; omega
          · cases hx
        · cases hx
theorem writers_nodup (ds : List Do) (pl : Int) : (writersOf ds pl).Nodup := (wrs_pw ds.length).1.imp (fun h => by omega)
theorem filter_in {l h : List Int} (hl : l.Nodup) (hh : h.Nodup) (hs : ∀ x ∈ h, x ∈ l) : (l.filter fun z => !h.contains z).length + h.length = l.length := by
  have h1 : (l.filter fun z => h.contains z).length = h.length := by
    refine Nat.le_antisymm (nodup_le (hl.filter _) fun x hx => ?_) (nodup_le hh fun x hx => ?_)
    · simpa using (List.mem_filter.1 hx).2
    · exact List.mem_filter.2 ⟨hs x hx, by simpa using hx⟩
  have h2 := List.length_eq_countP_add_countP (fun z => h.contains z) (l := l)
  rw [List.countP_eq_length_filter, List.countP_eq_length_filter, h1] at h2
  have h3 : (l.filter fun a => decide ¬(h.contains a = true)) = l.filter fun z => !h.contains z := List.filter_congr fun x _ => by cases h.contains x <;> rfl
  rw [h3] at h2
  omega
theorem flatMap_if {l h : List Int} {g : Int → List (List Int)} {n : Nat} (hg : ∀ z ∈ l, h.contains z = false → (g z).length = n) : (l.flatMap fun z => if h.contains z then [] else g z).length = (l.filter fun z => !h.contains z).length * n := by
  induction l with
  | nil => simp
  | cons x l ih =>
    have ih := ih fun z hz => hg z (by simp [hz])
    rw [List.flatMap_cons, List.length_append, ih, List.filter_cons]
    cases hc : h.contains x
    · simp only [Bool.false_eq_true, if_false, Bool.not_false, if_true, List.length_cons, Nat.succ_mul]
      rw [hg x (by simp) hc]; omega
    · simp
theorem rowsR_len {l : List Int} (hl : l.Nodup) : ∀ (j : Nat) (h : List Int), h.Nodup → (∀ x ∈ h, x ∈ l) → h.length + j = l.length → (rowsR l j h).length = fac j
  | 0, h, _, _, _ => rfl
  | j + 1, h, hh, hs, hj => by
    rw [rowsR, flatMap_if (n := fac j) fun z hz hc => ?_]
    · have := filter_in hl hh hs
      rw [show (l.filter fun z => !h.contains z).length = j + 1 by omega]; rfl
    · refine rowsR_len hl j (h ++ [z]) ?_ ?_ (by simp; omega)
      · rw [List.nodup_append]
        refine ⟨hh, by simp, fun a ha b hb => ?_⟩
        simp at hb; subst hb
        intro e; subst e
        rw [List.contains_iff_mem.2 ha] at hc
        cases hc
      · intro x hx
        simp only [List.mem_append, List.mem_singleton] at hx
        rcases hx with hx | rfl
        · exact hs x hx
        · exact hz
theorem rowsR_row {l : List Int} : ∀ {j : Nat} {h r : List Int}, r ∈ rowsR l j h → r.length = h.length + j
  | 0, h, r, hr => by simp [rowsR] at hr; subst hr; simp
  | j + 1, h, r, hr => by
    rw [rowsR] at hr
    simp only [List.mem_flatMap] at hr
    obtain ⟨z, _, hz⟩ := hr
    split at hz
    · cases hz
    · have := rowsR_row hz; simp at this; omega
theorem rowsW_len (ds : List Do) (k : Int) : (rowsR (writersOf ds k) (writersOf ds k).length []).length = fac (wrN ds k) := by
  rw [rowsR_len (writers_nodup ds k) _ [] List.nodup_nil (by simp) (by simp), writers_len]
theorem ordersS_le {ds : List Do} (h : usN ds ≤ 6) : ∀ k, k ≤ 3 → (ordersSK ds k).length ≤ 720 := by
  have hc := count_le ds
  have step : ∀ k : Nat, (ordersSK ds (k + 1)).length = (ordersSK ds k).length * fac (wrN ds k) := fun k => by
    rw [ordersSK, flatMap_len (n := (rowsR (writersOf ds k) (writersOf ds k).length []).length) (by simp), rowsW_len]
  have h0 : (ordersSK ds 0).length = 1 := rfl
  have h1 := step 0
  have h2 := step 1
  have h3 := step 2
  rw [h0] at h1
  simp only [Nat.zero_add, Nat.reduceAdd, Int.cast_ofNat_Int, Int.natCast_zero, Int.natCast_one] at h1 h2 h3
  rw [h1] at h2
  rw [h2] at h3
  obtain ⟨k1, k2, k3⟩ := fac3 (wrN ds 0) (by omega) (wrN ds 1) (by omega) (wrN ds 2) (by omega) (by omega)
  intro k hk
  obtain rfl | rfl | rfl | rfl : k = 0 ∨ k = 1 ∨ k = 2 ∨ k = 3 := by omega
  · rw [h0]; omega
  · rw [h1]; exact k1
  · rw [h2]; exact k2
  · rw [h3]; exact k3
theorem ordersS_in {ds : List Do} : ∀ {k : Nat} {r : List (List Int)} {row : List Int}, r ∈ ordersSK ds k → row ∈ r → row.length ≤ ds.length
  | 0, r, row, h, h2 => by simp [ordersSK] at h; subst h; cases h2
  | k + 1, r, row, h, h2 => by
    simp only [ordersSK, List.mem_flatMap, List.mem_map] at h
    obtain ⟨h0, h1, c, hc, rfl⟩ := h
    simp only [List.mem_append, List.mem_singleton] at h2
    rcases h2 with h2 | rfl
    · exact ordersS_in h1 h2
    · rw [rowsR_row hc]
      have := wrs_le ds k ds.length
      rw [List.length_nil, Nat.zero_add]; exact this
def specAll (p : Prog) : List Exe := if progOk p then allS p else []
theorem specExecAll_fn (p : Prog) (hp : p.length < 2 ^ 40) : Fp Try.prog 36 [progV p] (.sl ((specAll p).map Exe.V)) := by
  cases hok : progOk p
  · refine Fc.fzRow (R' := fun r m => ∃ s1 γ cap e es, r = .msl s1 [] γ es.length cap ∧ m s1 = some (.own e γ cap es) ∧ es.map V.fz = (specAll p).map Exe.V) ?_ (fun r m h => h)
    refine Fc.start (S := []) Try.func36 Try.ntmps36 Try.results36 rfl (by decide) rfl (by kernel_rfl) ?_
    simp (maxSteps := 1000000) (disch := omega) only [push_cast, go_sem, wpS_tt, wpS_tf, wpS_ft, wpS_ff, wpCond_tt, wpCond_ff, Nat.reducePow, Int.reduceEq, Int.reduceLT, Int.reduceLE, Int.reduceAdd, Int.reduceSub, Int.reduceMul, Int.reduceToNat, Int.reduceBEq, Int.reduceBNe, ↓reduceIte, reduceCtorEq, Nat.reduceEqDiff, Nat.reduceAdd, Nat.reduceMul, Nat.reduceLT, Nat.reduceLeDiff, Nat.reduceSub, Nat.reduceDiv, Nat.reduceBEq, Nat.reduceBneDiff, Nat.reduceBeqDiff, progV_eq]
    intro g1 g2
    refine callR.pure (specProgOk_fn p hp) rfl rfl ?_
    simp (maxSteps := 1000000) (disch := omega) only [push_cast, go_sem, wpS_tt, wpS_tf, wpS_ft, wpS_ff, wpCond_tt, wpCond_ff, Nat.reducePow, Int.reduceEq, Int.reduceLT, Int.reduceLE, Int.reduceAdd, Int.reduceSub, Int.reduceMul, Int.reduceToNat, Int.reduceBEq, Int.reduceBNe, ↓reduceIte, reduceCtorEq, Nat.reduceEqDiff, Nat.reduceAdd, Nat.reduceMul, Nat.reduceLT, Nat.reduceLeDiff, Nat.reduceSub, Nat.reduceDiv, Nat.reduceBEq, Nat.reduceBneDiff, Nat.reduceBeqDiff, hok]
    exact ⟨_, fun _ _ h => h, 2, some g2, 0, 29, [], rfl, by simp [Mem.set], by simp [specAll, hok]⟩
  · have hel := events_le hok
    have hus := scene_uses hok
    have hsl : (scene p).ds.length = (events p).length := by simp [scene]
    have hc := compl_le hus
    rw [hsl] at hc
    have := specExecAll_ok p hp hok hel (by omega) (fun k hk => by
      rw [rowsW_len]
      have := fac_le (wrN_any hus k)
      omega) (fun k hk => by have := ordersS_le hus k hk; omega) (Nat.lt_of_le_of_lt (Nat.mul_le_mul hc (ordersS_le hus 3 (Nat.le_refl _))) (by decide)) (fun o ho row hr => by have := ordersS_in ho hr; omega)
    rw [specAll, hok, if_pos rfl]
    exact this
end Go.Proofs.Ytmmipjlogdggiaa
/-! ## What is a way is one to both -/
namespace Go.Proofs.Ytmmipjlogdggiaa
open Go.RowKit
set_option linter.unusedSimpArgs false
set_option linter.unusedVariables false
set_option pp.maxSteps 3000

theorem thrGo_formed : ∀ {l : List Do} {r i : Bool}, thrGo l r i = true → ∀ d ∈ l, d.formed = true
  | [], _, _, _, d, hd => by cases hd
  | d0 :: l, r, i, h, d, hd => by
    rw [thrGo] at h
    split at h
    · cases h
    · rename_i hw
      simp only [Bool.or_eq_true, Bool.not_eq_true', not_or, Bool.not_eq_false] at hw
      rcases List.mem_cons.1 hd with rfl | hd
      · exact hw.1
      · exact thrGo_formed h d hd
theorem scene_formed {p : Prog} (h : progOk p = true) : ∀ d ∈ (scene p).ds, d.formed = true := by
  intro d hd
  simp only [scene, List.mem_map] at hd
  obtain ⟨e, he, rfl⟩ := hd
  obtain ⟨i, l, k, d, hl, hd, _, _, hst, _⟩ := mem_events he
  rw [hst]
  have hth : threadOk l = true := by
    simp only [progOk, Bool.and_eq_true, List.all_eq_true] at h
    exact h.1.1.2 l (List.mem_of_getElem? hl)
  simp only [threadOk, Bool.and_eq_true] at hth
  exact thrGo_formed hth.1 d (List.mem_of_getElem? hd)
theorem formed_place {d : Do} (h : d.formed = true) (hu : d.uses = true) : 0 ≤ d.p ∧ d.p ≤ 2 := by
  simp only [Do.formed, hu, if_true, Bool.and_eq_true, inB, decide_eq_true_eq] at h
  exact h.1.2
theorem formed_val {d : Do} (h : d.formed = true) : 0 ≤ d.v := by
  simp only [Do.formed, Bool.and_eq_true] at h
  have := h.2
  split at this
  · simp only [inB, Bool.and_eq_true, decide_eq_true_eq] at this; omega
  · simp at this; omega
theorem writers_pw (ds : List Do) (pl : Int) : (writersOf ds pl).Pairwise (· < ·) := (wrs_pw ds.length).1
/-- A place's row is told just so. -/
theorem sorted_eq {ws row : List Int} (hw : ws.Pairwise (· < ·)) (hn : ws.Nodup) : (sorted row == ws) = (ws.length == row.length && ws.all row.contains) := by
  have hle : ws.mergeSort leI = ws := List.mergeSort_of_pairwise (hw.imp fun h => by simp only [decide_eq_true_eq]; omega)
  rw [Bool.eq_iff_iff]
  simp only [beq_iff_eq, Bool.and_eq_true, List.all_eq_true, List.contains_iff_mem]
  constructor
  · intro h
    have hp : (sorted row).Perm row := List.mergeSort_perm row _
    rw [h] at hp
    exact ⟨hp.length_eq, fun x hx => hp.mem_iff.1 hx⟩
  · rintro ⟨h1, h2⟩
    have hp : ws.Perm row := perm_of hn h2 (by omega)
    have := Go.mergeSort_of_perm_i hp
    rw [hle] at this
    exact this.symm
theorem place_mem {ds : List Do} {od : List (List Int)} {k : Nat} (h : placeS ds od k = true) (x : Int) : x ∈ od[k]?.getD [] ↔ x ∈ writersOf ds k := by
  simp only [placeS, Bool.and_eq_true, beq_iff_eq, List.all_eq_true, List.contains_iff_mem] at h
  exact (perm_of (writers_nodup ds k) h.2 (by omega)).mem_iff.symm
theorem fits_form {p : Prog} (hok : progOk p = true) (x : Exe) : fits (scene p) x = formS p x := by
  have hes : (scene p).es = events p := rfl
  have hsl : (scene p).ds.length = (events p).length := by simp [scene]
  unfold fits formS
  rw [hes]
  by_cases h1 : x.fr.length = (events p).length
  rotate_left
  · simp [h1]
  by_cases h2 : x.od.length = 3
  rotate_left
  · simp [h2]
  simp only [h1, h2, decide_true, Bool.true_and]
  have h3 : x.od.zipIdx.all (odOk (scene p).ds) = (List.range 3).all (placeS (scene p).ds x.od) := by
    rw [Bool.eq_iff_iff]
    simp only [List.all_eq_true]
    constructor
    · intro h k hk
      have hk3 : k < x.od.length := by rw [h2]; simpa using hk
      have hz : x.od.zipIdx[k]? = some (x.od[k], k) := by simp [hk3]
      have := h _ (List.mem_of_getElem? hz)
      simp only [odOk] at this
      rw [sorted_eq (writers_pw _ _) (writers_nodup _ _)] at this
      simpa only [placeS, List.getElem?_eq_getElem hk3, Option.getD_some] using this
    · rintro h ⟨row, k⟩ hq
      obtain ⟨i, hi⟩ := List.getElem?_of_mem hq
      simp only [List.getElem?_zipIdx, Option.map_eq_some_iff, Prod.mk.injEq, Nat.zero_add] at hi
      obtain ⟨row', hr, rfl, rfl⟩ := hi
      have hi3 : i < 3 := by rw [← h2]; exact (List.getElem?_eq_some_iff.1 hr).1
      have := h i (by simpa using hi3)
      simp only [odOk]
      rw [sorted_eq (writers_pw _ _) (writers_nodup _ _)]
      simpa only [placeS, hr, Option.getD_some] using this
  rw [h3, Bool.and_comm]
  cases hP : (List.range 3).all (placeS (scene p).ds x.od)
  · simp
  simp only [Bool.true_and]
  rw [Bool.eq_iff_iff]
  simp only [List.all_eq_true] at hP ⊢
  have key : ∀ q ∈ (scene p).ds.zip x.fr, frOk (scene p).ds q = fromS x.od q := by
    rintro ⟨d, f⟩ hq
    have hd := (List.of_mem_zip hq).1
    simp only [frOk, fromS]
    cases hr : d.reads
    · simp
    · obtain ⟨hp0, hp2⟩ := formed_place (scene_formed hok d hd) (by simp [Do.uses, hr])
      obtain ⟨a, ha⟩ := Int.eq_ofNat_of_zero_le hp0
      have := place_mem (hP a (by simp; omega)) f
      simp only [if_true, ha, Int.toNat_natCast]
      congr 1
      rw [Bool.eq_iff_iff, List.contains_iff_mem, List.contains_iff_mem]
      exact this.symm
  exact ⟨fun h q hq => by rw [← key q hq]; exact h q hq, fun h q hq => by rw [key q hq]; exact h q hq⟩
/-- What is told of a way points at its events. -/
theorem form_lt {p : Prog} (hok : progOk p = true) {x : Exe} (h : formS p x = true) : x.fr.length = (events p).length ∧ ∀ f ∈ x.fr, f < (events p).length := by
  have hsl : (scene p).ds.length = (events p).length := by simp [scene]
  have hf := fromOk_of (scene_len p) (by rw [fits_form hok]; exact h)
  have h' := h
  simp only [formS, Bool.and_eq_true, decide_eq_true_eq, List.all_eq_true] at h'
  obtain ⟨⟨⟨h1, h2⟩, h3⟩, h4⟩ := h'
  refine ⟨h1, fun f hfm => ?_⟩
  obtain ⟨k, hk⟩ := List.getElem?_of_mem hfm
  have hkl : k < (scene p).ds.length := by have := (List.getElem?_eq_some_iff.1 hk).1; omega
  have hd : (scene p).ds[k]? = some (scene p).ds[k] := List.getElem?_eq_getElem hkl
  cases hr : (scene p).ds[k].reads
  · have := h4 ((scene p).ds[k], f) (List.mem_of_getElem? (i := k) (by simp [List.getElem?_zip_eq_some, hd, hk]))
    simp only [fromS, hr, Bool.false_eq_true, if_false, beq_iff_eq] at this
    omega
  · rcases hf.2 k _ f hd hk hr with rfl | ⟨b, d', rfl, hb, _⟩
    · omega
    · have := (List.getElem?_eq_some_iff.1 hb).1; omega
def specOk (p : Prog) (x : Exe) : Bool := progOk p && (formS p x && endsS p x)
theorem specExecOk_fn (p : Prog) (x : Exe) (hp : p.length < 2 ^ 40) (hx : x.small) : Fp Try.prog 8 [progV p, x.V] (.bool (specOk p x)) := by
  have h1 := specProgOk_fn p hp
  have hev := specExecEvents_fn p hp
  refine Fc.start (S := []) Try.func8 Try.ntmps8 Try.results8 rfl (by decide) rfl (by kernel_rfl) ?_
  simp (maxSteps := 1000000) (disch := omega) only [push_cast, go_sem, wpS_tt, wpS_tf, wpS_ft, wpS_ff, wpCond_tt, wpCond_ff, Nat.reducePow, Int.reduceEq, Int.reduceLT, Int.reduceLE, Int.reduceAdd, Int.reduceSub, Int.reduceMul, Int.reduceToNat, Int.reduceBEq, Int.reduceBNe, ↓reduceIte, reduceCtorEq, Nat.reduceEqDiff, Nat.reduceAdd, Nat.reduceMul, Nat.reduceLT, Nat.reduceLeDiff, Nat.reduceSub, Nat.reduceDiv, Nat.reduceBEq, Nat.reduceBneDiff, Nat.reduceBeqDiff, progV_eq, Exe.V_eq]
  intro g1 g2
  refine callR.pure h1 rfl rfl ?_
  cases hok : progOk p
  · simp (maxSteps := 1000000) (disch := omega) only [push_cast, go_sem, wpS_tt, wpS_tf, wpS_ft, wpS_ff, wpCond_tt, wpCond_ff, Nat.reducePow, Int.reduceEq, Int.reduceLT, Int.reduceLE, Int.reduceAdd, Int.reduceSub, Int.reduceMul, Int.reduceToNat, Int.reduceBEq, Int.reduceBNe, ↓reduceIte, reduceCtorEq, Nat.reduceEqDiff, Nat.reduceAdd, Nat.reduceMul, Nat.reduceLT, Nat.reduceLeDiff, Nat.reduceSub, Nat.reduceDiv, Nat.reduceBEq, Nat.reduceBneDiff, Nat.reduceBeqDiff]
    simp [specOk, hok]
  rw [hok, if_pos rfl] at hev
  have hel := events_le hok
  simp (maxSteps := 1000000) (disch := omega) only [push_cast, go_sem, wpS_tt, wpS_tf, wpS_ft, wpS_ff, wpCond_tt, wpCond_ff, Nat.reducePow, Int.reduceEq, Int.reduceLT, Int.reduceLE, Int.reduceAdd, Int.reduceSub, Int.reduceMul, Int.reduceToNat, Int.reduceBEq, Int.reduceBNe, ↓reduceIte, reduceCtorEq, Nat.reduceEqDiff, Nat.reduceAdd, Nat.reduceMul, Nat.reduceLT, Nat.reduceLeDiff, Nat.reduceSub, Nat.reduceDiv, Nat.reduceBEq, Nat.reduceBneDiff, Nat.reduceBeqDiff]
  refine callR.pure hev rfl rfl ?_
  simp (maxSteps := 1000000) (disch := omega) only [push_cast, go_sem, wpS_tt, wpS_tf, wpS_ft, wpS_ff, wpCond_tt, wpCond_ff, Nat.reducePow, Int.reduceEq, Int.reduceLT, Int.reduceLE, Int.reduceAdd, Int.reduceSub, Int.reduceMul, Int.reduceToNat, Int.reduceBEq, Int.reduceBNe, ↓reduceIte, reduceCtorEq, Nat.reduceEqDiff, Nat.reduceAdd, Nat.reduceMul, Nat.reduceLT, Nat.reduceLeDiff, Nat.reduceSub, Nat.reduceDiv, Nat.reduceBEq, Nat.reduceBneDiff, Nat.reduceBeqDiff]
  refine callR.pure (l12Form_fn p x hel hx (fun d hd hr => formed_place (scene_formed hok d hd) (by simp [Do.uses, hr]))) rfl rfl ?_
  cases hf : formS p x
  · simp (maxSteps := 1000000) (disch := omega) only [push_cast, go_sem, wpS_tt, wpS_tf, wpS_ft, wpS_ff, wpCond_tt, wpCond_ff, Nat.reducePow, Int.reduceEq, Int.reduceLT, Int.reduceLE, Int.reduceAdd, Int.reduceSub, Int.reduceMul, Int.reduceToNat, Int.reduceBEq, Int.reduceBNe, ↓reduceIte, reduceCtorEq, Nat.reduceEqDiff, Nat.reduceAdd, Nat.reduceMul, Nat.reduceLT, Nat.reduceLeDiff, Nat.reduceSub, Nat.reduceDiv, Nat.reduceBEq, Nat.reduceBneDiff, Nat.reduceBeqDiff]
    simp [specOk, hf]
  obtain ⟨h2, h3⟩ := form_lt hok hf
  simp (maxSteps := 1000000) (disch := omega) only [push_cast, go_sem, wpS_tt, wpS_tf, wpS_ft, wpS_ff, wpCond_tt, wpCond_ff, Nat.reducePow, Int.reduceEq, Int.reduceLT, Int.reduceLE, Int.reduceAdd, Int.reduceSub, Int.reduceMul, Int.reduceToNat, Int.reduceBEq, Int.reduceBNe, ↓reduceIte, reduceCtorEq, Nat.reduceEqDiff, Nat.reduceAdd, Nat.reduceMul, Nat.reduceLT, Nat.reduceLeDiff, Nat.reduceSub, Nat.reduceDiv, Nat.reduceBEq, Nat.reduceBneDiff, Nat.reduceBeqDiff]
  refine callR.pure (l12Ends_fn p x hel h2 h3) rfl rfl ?_
  simp (maxSteps := 1000000) (disch := omega) only [push_cast, go_sem, wpS_tt, wpS_tf, wpS_ft, wpS_ff, wpCond_tt, wpCond_ff, Nat.reducePow, Int.reduceEq, Int.reduceLT, Int.reduceLE, Int.reduceAdd, Int.reduceSub, Int.reduceMul, Int.reduceToNat, Int.reduceBEq, Int.reduceBNe, ↓reduceIte, reduceCtorEq, Nat.reduceEqDiff, Nat.reduceAdd, Nat.reduceMul, Nat.reduceLT, Nat.reduceLeDiff, Nat.reduceSub, Nat.reduceDiv, Nat.reduceBEq, Nat.reduceBneDiff, Nat.reduceBeqDiff]
  simp [specOk, hok, hf]
end Go.Proofs.Ytmmipjlogdggiaa
/-! ## What ends ends to both: a way is one to both -/
namespace Go.Proofs.Ytmmipjlogdggiaa
open Go.RowKit
set_option linter.unusedSimpArgs false
set_option linter.unusedVariables false
set_option pp.maxSteps 3000

theorem nodup_leN {a : List Nat} : ∀ {b : List Nat}, a.Nodup → (∀ x ∈ a, x ∈ b) → a.length ≤ b.length := by
  induction a with
  | nil => intro b _ _; simp
  | cons x a ih =>
    intro b hn hs
    rw [List.nodup_cons] at hn
    have hx := hs x (by simp)
    have := ih (b := b.erase x) hn.2 (fun y hy => (List.mem_erase_of_ne (fun (e : y = x) => hn.1 (by rw [← e]; exact hy))).2 (hs y (by simp [hy])))
    rw [List.length_erase_of_mem hx] at this
    have := List.length_pos_of_mem hx
    simp; omega
/-! ### a chain that ends has distinct events -/
/-- The event that is looked at next. -/
def nx (ds : List Do) (fr : List Int) (a : Nat) : Option (Option Int × Nat) := match ds[a]? with
  | none => none
  | some d => if d.valued then some (some d.v, 0) else if d.k == 3 then some (none, lastRd ds a) else match fr[a]? with
    | none => none
    | some f => if f == -1 then some (some 0, 0) else some (none, f.toNat)
theorem valI_nx {ds : List Do} {fr : List Int} {m a : Nat} : valI ds fr (m + 1) a = match nx ds fr a with | none => none | some (some v, _) => some v | some (none, b) => valI ds fr m b := by
  rw [valI, nx]
  cases ds[a]? with
  | none => rfl
  | some d =>
    dsimp only
    split
    · rfl
    · split
      · rfl
      · cases fr[a]? with
        | none => rfl
        | some f => dsimp only; split <;> rfl
theorem nx_lt {ds : List Do} {fr : List Int} {a : Nat} {r : Option Int × Nat} (h : nx ds fr a = some r) : a < ds.length := by
  unfold nx at h
  cases hd : ds[a]? with
  | none => rw [hd] at h; cases h
  | some d => exact (List.getElem?_eq_some_iff.1 hd).1
theorem valI_mono {ds : List Do} {fr : List Int} : ∀ {m a : Nat} {v : Int}, valI ds fr m a = some v → valI ds fr (m + 1) a = some v
  | 0, a, v, h => by rw [valI] at h; cases h
  | m + 1, a, v, h => by
    rw [valI_nx] at h ⊢
    cases hn : nx ds fr a with
    | none => rw [hn] at h; cases h
    | some r =>
      obtain ⟨o, b⟩ := r
      rw [hn] at h
      cases o with
      | some w => exact h
      | none => exact valI_mono h
theorem valI_up {ds : List Do} {fr : List Int} {m a : Nat} {v : Int} (h : valI ds fr m a = some v) : ∀ j, valI ds fr (m + j) a = some v
  | 0 => h
  | j + 1 => valI_mono (valI_up h j)
theorem chain {ds : List Do} {fr : List Int} : ∀ (k a : Nat), valI ds fr (k + 1) a ≠ none → valI ds fr k a = none → ∃ l : List Nat, l.length = k + 1 ∧ l.Nodup ∧ ∀ b ∈ l, b < ds.length ∧ valI ds fr (k + 1) b ≠ none := by
  intro k
  induction k with
  | zero =>
    intro a h1 _
    refine ⟨[a], rfl, by simp, fun b hb => ?_⟩
    simp at hb; subst hb
    refine ⟨?_, h1⟩
    rw [valI_nx] at h1
    cases hn : nx ds fr b with
    | none => rw [hn] at h1; exact absurd rfl h1
    | some r => exact nx_lt hn
  | succ k ih =>
    intro a h1 h2
    cases hn : nx ds fr a with
    | none => rw [valI_nx, hn] at h1; exact absurd rfl h1
    | some r =>
      obtain ⟨o, b⟩ := r
      cases o with
      | some w => rw [valI_nx, hn] at h2; cases h2
      | none =>
        have e1 : valI ds fr (k + 1) b ≠ none := by rw [valI_nx, hn] at h1; exact h1
        have e2 : valI ds fr k b = none := by rw [valI_nx, hn] at h2; exact h2
        obtain ⟨l, h3, h4, h5⟩ := ih b e1 e2
        refine ⟨a :: l, by rw [List.length_cons, h3], List.nodup_cons.2 ⟨fun ha => (h5 a ha).2 h2, h4⟩, fun c hc => ?_⟩
        rcases List.mem_cons.1 hc with rfl | hc
        · exact ⟨nx_lt hn, h1⟩
        · refine ⟨(h5 c hc).1, ?_⟩
          cases hv : valI ds fr (k + 1) c with
          | none => exact absurd hv (h5 c hc).2
          | some v => rw [valI_mono hv]; simp
theorem valI_enough {ds : List Do} {fr : List Int} {a : Nat} {v : Int} : ∀ {m : Nat}, valI ds fr m a = some v → valI ds fr ds.length a = some v := by
  intro m
  induction m with
  | zero => intro h; rw [valI] at h; cases h
  | succ m ih =>
    intro h
    cases hm : valI ds fr m a with
    | some w =>
      have := valI_mono hm
      rw [h] at this
      cases this
      exact ih hm
    | none =>
      obtain ⟨l, h1, h2, h3⟩ := chain m a (by rw [h]; simp) hm
      have := nodup_leN (b := List.range ds.length) h2 (fun b hb => List.mem_range.2 (h3 b hb).1)
      rw [List.length_range, h1] at this
      have hv := valI_up h (ds.length - (m + 1))
      rwa [show m + 1 + (ds.length - (m + 1)) = ds.length by omega] at hv

/-! ### what a copy stores -/
theorem srcOf_eq {es : List Evt} {ds : List Do} {a r : Nat} (ht : (es[r]?.getD default).t = (es[a]?.getD default).t) (hr : (ds[r]?.getD default).reads = true) : ∀ k, r < k → (∀ j, r < j → j < k → (ds[j]?.getD default).reads = false) → srcOf es ds a k = r
  | 0, h, _ => absurd h (by omega)
  | k + 1, h, hno => by
    rw [srcOf]
    rcases Nat.lt_or_ge r k with hk | hk
    · rw [hno k hk (by omega), Bool.and_false]
      exact srcOf_eq ht hr k hk fun j h1 h2 => hno j h1 (by omega)
    · have : r = k := by omega
      subst this
      rw [ht, hr]; simp
theorem evThr_t {t : Nat} {l : List Do} {e : Evt} : ∀ {k : Nat}, e ∈ evThr t l k → e.t = t := fun h => by
  obtain ⟨_, _, _, _, h1, _⟩ := mem_evThr h
  exact h1
theorem evPro_t {p : Prog} {e : Evt} {i : Nat} (h : e ∈ evPro p i) : e.t < (i : Int) := by
  obtain ⟨j, l, h1, _, h2⟩ := mem_evPro h
  have := evThr_t h2
  omega
theorem events_pw (p : Prog) : ∀ i, (evPro p i).Pairwise fun a b => a.t ≤ b.t
  | 0 => by simp [evPro]
  | i + 1 => by
    rw [evPro, List.pairwise_append]
    refine ⟨events_pw p i, ?_, fun a ha b hb => ?_⟩
    · split
      · exact List.pairwise_of_forall_mem_list fun a ha b hb => by rw [evThr_t ha, evThr_t hb]; exact Int.le_refl _
      · exact List.Pairwise.nil
    · have := evPro_t ha
      split at hb
      · rw [evThr_t hb]; omega
      · cases hb
theorem scene_copyT {p : Prog} (h : progOk p = true) {a : Nat} {e : Evt} (he : (events p)[a]? = some e) (h3 : (stepAt p e).k = 3) : ∃ (r : Nat) (e' : Evt), r < a ∧ (events p)[r]? = some e' ∧ e'.t = e.t ∧ (stepAt p e').reads = true := by
  have hth : ∀ l ∈ p, threadOk l = true := by
    simp only [progOk, Bool.and_eq_true, List.all_eq_true] at h
    exact h.1.1.2
  obtain ⟨i, l, j, d, hl, hd, h1, h2, hst, hpos⟩ := events_get he
  rw [hst] at h3
  have hok := hth l (List.mem_of_getElem? hl)
  simp only [threadOk, Bool.and_eq_true] at hok
  rcases thrGo_copy hok.1 hd h3 with hf | ⟨j', d', k1, k2, k3⟩
  · cases hf
  · refine ⟨(evPro p i).length + (evThr i l j').length, ⟨i, j', false⟩, ?_, events_at hl k2, by rw [h1], by simp [stepAt, hl, k2, k3]⟩
    have := evThr_mono (t := i) k2 k1; omega
theorem src_last {p : Prog} (h : progOk p = true) {a : Nat} {e : Evt} (he : (events p)[a]? = some e) (h3 : (stepAt p e).k = 3) : srcOf (events p) (scene p).ds a a = lastRd (scene p).ds a := by
  obtain ⟨r, e', h1, h2, h4, h5⟩ := scene_copyT h he h3
  obtain ⟨k1, ⟨d, k2, k3⟩, k4⟩ := lastRd_spec (ds := (scene p).ds) (a := a) ⟨r, stepAt p e', h1, scene_get h2, h5⟩
  obtain ⟨q, hq⟩ : ∃ q, lastRd (scene p).ds a = q := ⟨_, rfl⟩
  rw [hq] at k1 k2 k4 ⊢
  have hqr : r ≤ q := by
    rcases Nat.lt_or_ge q r with hh | hh
    · have := k4 r _ hh h1 (scene_get h2)
      rw [h5] at this; cases this
    · exact hh
  have hal := (List.getElem?_eq_some_iff.1 he).1
  obtain ⟨eq, heq⟩ : ∃ e, (events p)[q]? = some e := ⟨_, List.getElem?_eq_getElem (by omega)⟩
  have hpw := List.pairwise_iff_getElem.1 (events_pw p p.length)
  have t1 : e'.t ≤ eq.t := by
    rcases Nat.lt_or_ge r q with hh | hh
    · have := hpw r q (by have := (List.getElem?_eq_some_iff.1 h2).1; exact this) (by have := (List.getElem?_eq_some_iff.1 heq).1; exact this) hh
      rw [← (List.getElem?_eq_some_iff.1 h2).2, ← (List.getElem?_eq_some_iff.1 heq).2]; exact this
    · have : r = q := by omega
      subst this; rw [h2] at heq; cases heq; exact Int.le_refl _
  have t2 : eq.t ≤ e.t := by
    have := hpw q a (by have := (List.getElem?_eq_some_iff.1 heq).1; exact this) hal k1
    rw [← (List.getElem?_eq_some_iff.1 heq).2, ← (List.getElem?_eq_some_iff.1 he).2]; exact this
  refine srcOf_eq (by rw [heq, he]; simp only [Option.getD_some]; omega) (by rw [k2]; exact k3) a k1 fun j j1 j2 => ?_
  obtain ⟨dj, hdj⟩ : ∃ d, (scene p).ds[j]? = some d := ⟨_, List.getElem?_eq_getElem (by simp [scene]; omega)⟩
  rw [hdj]
  exact k4 j dj j1 j2 hdj
end Go.Proofs.Ytmmipjlogdggiaa
/-! ## A way is one to both; a way is among all just if it is one -/
namespace Go.Proofs.Ytmmipjlogdggiaa
open Go.RowKit
set_option linter.unusedSimpArgs false
set_option linter.unusedVariables false
set_option pp.maxSteps 3000

theorem kinds {d : Do} (hu : d.uses = true) : (d.reads = true ∧ d.valued = false ∧ (d.k == 3) = false) ∨ (d.reads = false ∧ d.valued = false ∧ (d.k == 3) = true) ∨ (d.reads = false ∧ d.valued = true ∧ (d.k == 3) = false) := by
  simp only [Do.uses, Do.reads, Do.writes, Do.valued] at *
  by_cases h1 : d.k = 1
  · simp [h1]
  by_cases h2 : d.k = 2
  · simp [h2]
  by_cases h3 : d.k = 3
  · simp [h3]
  by_cases h5 : d.k = 5
  · simp [h5]
  by_cases h6 : d.k = 6
  · simp [h6]
  · simp [h1, h2, h3, h5, h6] at hu
def orM (o : Option Int) : Int := match o with | some v => v | none => -1
theorem val_eq {p : Prog} (hok : progOk p = true) {x : Exe} (hf : fromOk (scene p).ds x.fr) : ∀ (m a : Nat) (d : Do), (scene p).ds[a]? = some d → d.uses = true →
    valS (events p) (scene p).ds x.fr m a = orM (valI (scene p).ds x.fr m a) ∧ ∀ v, valI (scene p).ds x.fr m a = some v → 0 ≤ v := by
  intro m
  induction m with
  | zero =>
    intro a d hd hu
    have : ¬ ((a : Int) < 0) := by omega
    simp [valS, valI, this, orM]
  | succ m ih =>
    intro a d hd hu
    have h0 : ¬ ((a : Int) < 0) := by omega
    rw [valS, if_neg h0, valI]
    simp only [Int.toNat_natCast, hd]
    rcases kinds hu with ⟨hr, hv, h3⟩ | ⟨hr, hv, h3⟩ | ⟨hr, hv, h3⟩
    · simp only [hr, hv, h3, if_true, Bool.false_eq_true, if_false]
      have hal := (List.getElem?_eq_some_iff.1 hd).1
      obtain ⟨f, hfa⟩ : ∃ f, x.fr[a]? = some f := ⟨_, List.getElem?_eq_getElem (by have := hf.1; omega)⟩
      rw [hfa, Option.getD_some]
      dsimp only
      rcases hf.2 a d f hd hfa hr with rfl | ⟨b, d', rfl, h1, h2⟩
      · have : ∀ m, valS (events p) (scene p).ds x.fr m (-1) = 0 := fun m => by cases m <;> simp [valS]
        rw [this]
        simp [orM]
      · have hb : (((b : Nat) : Int) == -1) = false := beq_eq_false_iff_ne.2 (by omega)
        rw [hb]
        simp only [Bool.false_eq_true, if_false, Int.toNat_natCast]
        exact ih b d' h1 (by simp [Do.uses, h2])
    · simp only [hr, hv, h3, if_true, Bool.false_eq_true, if_false]
      have h3' : d.k = 3 := by simpa using h3
      obtain ⟨e, he⟩ : ∃ e, (events p)[a]? = some e := ⟨_, List.getElem?_eq_getElem (by have := (List.getElem?_eq_some_iff.1 hd).1; simpa [scene] using this)⟩
      have hst : stepAt p e = d := by have := scene_get he; rw [hd] at this; cases this; rfl
      rw [src_last hok he (by rw [hst]; exact h3')]
      obtain ⟨_, ⟨d', k2, k3⟩, _⟩ := lastRd_spec (scene_copy hok a d hd h3')
      exact ih _ d' k2 (by simp [Do.uses, k3])
    · simp only [hr, hv, h3, if_true, Bool.false_eq_true, if_false, orM]
      have := formed_val (scene_formed hok d (List.mem_of_getElem? hd))
      exact ⟨trivial, fun v hv => by cases hv; exact this⟩
theorem ends_eq {p : Prog} (hok : progOk p = true) {x : Exe} (hf : fits (scene p) x = true) : (scene p).ds.zipIdx.all (endOk (scene p).ds x.fr) = endsS p x := by
  have hsl : (scene p).ds.length = (events p).length := by simp [scene]
  have hfr := fromOk_of (scene_len p) hf
  have key : ∀ (a : Nat) (d : Do), (scene p).ds[a]? = some d → endOk (scene p).ds x.fr (d, a) = endS p x.fr a := by
    intro a d hd
    simp only [endOk, endS]
    cases hu : d.uses
    · have hr : d.reads = false := by cases h : d.reads <;> simp [Do.uses, h] at hu ⊢
      have hw : d.writes = false := by cases h : d.writes <;> simp [Do.uses, h] at hu ⊢
      have h3 : (d.k == 3) = false := by cases h : (d.k == 3) <;> simp [Do.writes, h] at hw ⊢
      have h0 : ¬ ((a : Int) < 0) := by omega
      have : valS (events p) (scene p).ds x.fr (2 * (events p).length + 2) a = d.v := by
        rw [show 2 * (events p).length + 2 = (2 * (events p).length + 1) + 1 from rfl, valS, if_neg h0]
        simp [hd, hr, h3]
      rw [this]
      have := formed_val (scene_formed hok d (List.mem_of_getElem? hd))
      have : ¬ d.v < 0 := by omega
      simp [this]
    · obtain ⟨h1, h2⟩ := val_eq hok hfr (2 * (events p).length + 2) a d hd hu
      rw [h1]
      cases hv : valI (scene p).ds x.fr (2 * (events p).length + 2) a with
      | none =>
        have : valI (scene p).ds x.fr (scene p).ds.length a = none := by
          cases hn : valI (scene p).ds x.fr (scene p).ds.length a with
          | none => rfl
          | some v =>
            have := valI_up hn ((events p).length + 2)
            rw [hsl, show (events p).length + ((events p).length + 2) = 2 * (events p).length + 2 by omega, hv] at this
            cases this
        rw [this]; simp [orM]
      | some v =>
        rw [valI_enough hv]
        have := h2 v hv
        have : ¬ v < 0 := by omega
        simp [orM, this]
  rw [endsS, Bool.eq_iff_iff]
  simp only [List.all_eq_true]
  constructor
  · intro h a ha
    have hal : a < (scene p).ds.length := by rw [hsl]; simpa using ha
    have hd : (scene p).ds[a]? = some (scene p).ds[a] := List.getElem?_eq_getElem hal
    rw [← key a _ hd]
    exact h _ (List.mem_of_getElem? (i := a) (by simp [hd]))
  · rintro h ⟨d, a⟩ hq
    obtain ⟨i, hi⟩ := List.getElem?_of_mem hq
    simp only [List.getElem?_zipIdx, Option.map_eq_some_iff, Prod.mk.injEq, Nat.zero_add] at hi
    obtain ⟨d', hd, rfl, rfl⟩ := hi
    rw [key i _ hd]
    exact h i (by rw [← hsl]; simpa using (List.getElem?_eq_some_iff.1 hd).1)
theorem ok_eq (p : Prog) (x : Exe) : execOk p x = specOk p x := by
  unfold execOk specOk
  cases hok : progOk p
  · rfl
  simp only [Bool.true_and]
  unfold okX
  cases hf : fits (scene p) x
  · rw [← fits_form hok, hf]; rfl
  · rw [← fits_form hok, hf, ends_eq hok hf]

/-! ### among all -/
theorem erase_perm {l : List Int} {i : Nat} (h : i < l.length) : (l[i] :: l.eraseIdx i).Perm l := by
  have e : l.take i ++ l[i] :: l.drop (i + 1) = l := by rw [← List.drop_eq_getElem_cons h, List.take_append_drop]
  rw [List.eraseIdx_eq_take_drop_succ]
  conv => rhs; rw [← e]
  exact List.perm_middle.symm
theorem mem_perms : ∀ {n : Nat} {l row : List Int}, l.length = n → l.Perm row → row ∈ perms n l
  | 0, l, row, hl, hp => by
    have : l = [] := List.eq_nil_of_length_eq_zero hl
    subst this
    have : row = [] := by simpa using hp.symm
    subst this; simp [perms]
  | n + 1, l, row, hl, hp => by
    cases row with
    | nil => have := hp.length_eq; rw [hl] at this; simp at this
    | cons z row =>
      have hz : z ∈ l := hp.mem_iff.2 (by simp)
      obtain ⟨i, hi⟩ := List.getElem?_of_mem hz
      have hil := (List.getElem?_eq_some_iff.1 hi).1
      have hzi : l[i] = z := (List.getElem?_eq_some_iff.1 hi).2
      have h1 : (z :: l.eraseIdx i).Perm l := by rw [← hzi]; exact erase_perm hil
      have h2 : (l.eraseIdx i).Perm row := (h1.trans hp).cons_inv
      simp only [perms, List.mem_flatMap, List.mem_range, List.mem_map]
      exact ⟨i, hil, row, mem_perms (by rw [List.length_eraseIdx_of_lt hil]; omega) h2, by simp [List.getD, hi]⟩
theorem mem_froms {ds : List Do} {fr : List Int} (h : ∀ (j : Nat) (d : Do), ds[j]? = some d → ∃ f, fr[j]? = some f ∧ f ∈ choicesOf ds d) : ∀ k, k ≤ ds.length → fr.take k ∈ fromsK ds k
  | 0, _ => by simp [fromsK]
  | k + 1, hk => by
    have hd : ds[k]? = some ds[k] := List.getElem?_eq_getElem (by omega)
    obtain ⟨f, hf, hc⟩ := h k _ hd
    rw [fromsK, hd]
    simp only [List.mem_flatMap, List.mem_map]
    exact ⟨fr.take k, mem_froms h k (by omega), f, hc, (take_get hf).symm⟩
theorem mem_orders {ds : List Do} {od : List (List Int)} (h : ∀ (j : Nat), j < 3 → ∃ r, od[j]? = some r ∧ (writersOf ds j).Perm r) : ∀ k, k ≤ 3 → od.take k ∈ ordersK ds k
  | 0, _ => by simp [ordersK]
  | k + 1, hk => by
    obtain ⟨r, hr, hp⟩ := h k (by omega)
    rw [ordersK]
    simp only [List.mem_flatMap, List.mem_map]
    exact ⟨od.take k, mem_orders h k (by omega), r, mem_perms rfl hp, (take_get hr).symm⟩
theorem mem_all {p : Prog} (hok : progOk p = true) (x : Exe) : x ∈ allOf (scene p) ↔ okX (scene p) x = true := by
  have hsl : (scene p).ds.length = (events p).length := by simp [scene]
  constructor
  · intro h
    simp only [allOf, List.mem_flatMap] at h
    obtain ⟨f, _, o, _, h⟩ := h
    unfold oneOf at h
    split at h
    · simp at h; subst h; assumption
    · cases h
  · intro h
    have hfit : fits (scene p) x = true := by unfold okX at h; simp only [Bool.and_eq_true] at h; exact h.1
    have hform : formS p x = true := by rw [← fits_form hok]; exact hfit
    have h' := hform
    simp only [formS, Bool.and_eq_true, decide_eq_true_eq, List.all_eq_true] at h'
    obtain ⟨⟨⟨h1, h2⟩, h3⟩, _⟩ := h'
    simp only [fits, Bool.and_eq_true, decide_eq_true_eq, List.all_eq_true] at hfit
    obtain ⟨⟨_, h4⟩, _⟩ := hfit
    have m1 : x.fr ∈ fromsOf (scene p).ds := by
      have := mem_froms (ds := (scene p).ds) (fr := x.fr) (fun j d hd => by
        have hj : j < x.fr.length := by have := (List.getElem?_eq_some_iff.1 hd).1; omega
        have hf : x.fr[j]? = some x.fr[j] := List.getElem?_eq_getElem hj
        refine ⟨_, hf, ?_⟩
        have := h4 (d, x.fr[j]) (List.mem_of_getElem? (i := j) (by simp [List.getElem?_zip_eq_some, hd, hf]))
        simp only [frOk] at this
        unfold choicesOf
        cases hr : d.reads
        · simp only [hr, Bool.false_eq_true, if_false, beq_iff_eq] at this ⊢
          simp [this]
        · simp only [hr, if_true, Bool.or_eq_true, beq_iff_eq, List.contains_iff_mem] at this ⊢
          simp only [List.mem_cons]
          exact this) (scene p).ds.length (Nat.le_refl _)
      rwa [List.take_of_length_le (by omega)] at this
    have m2 : x.od ∈ ordersOf (scene p).ds := by
      have := mem_orders (ds := (scene p).ds) (od := x.od) (fun j hj => by
        have hr : x.od[j]? = some x.od[j] := List.getElem?_eq_getElem (by omega)
        refine ⟨_, hr, ?_⟩
        have := h3 j (by simpa using hj)
        simp only [placeS, hr, Option.getD_some, Bool.and_eq_true, beq_iff_eq, List.all_eq_true, List.contains_iff_mem] at this
        exact perm_of (writers_nodup _ _) this.2 (by omega)) 3 (Nat.le_refl _)
      rwa [List.take_of_length_le (by omega)] at this
    simp only [allOf, List.mem_flatMap]
    exact ⟨x.fr, m1, x.od, m2, by unfold oneOf; rw [if_pos h]; simp⟩
theorem mem_execAll (p : Prog) (x : Exe) : x ∈ execAll p ↔ execOk p x = true := by
  unfold execAll execOk
  cases hok : progOk p
  · simp
  · simp only [if_true, Bool.true_and]
    exact mem_all hok x
end Go.Proofs.Ytmmipjlogdggiaa
/-! ## The law's helpers: whether numbers are the same; whether ways are -/
namespace Go.Proofs.Ytmmipjlogdggiaa
open Go.RowKit
set_option linter.unusedSimpArgs false
set_option linter.unusedVariables false
set_option pp.maxSteps 3000

theorem list_eq_drop {α : Type} [BEq α] [LawfulBEq α] {a b : List α} {k : Nat} (hl : a.length = b.length) (h : ∀ (j : Nat) (x y : α), j < k → a[j]? = some x → b[j]? = some y → (x == y) = true) (hk : a.length ≤ k) : a = b := by
  apply List.ext_getElem hl
  intro j h1 h2
  exact beq_iff_eq.1 (h j _ _ (by omega) (List.getElem?_eq_getElem h1) (List.getElem?_eq_getElem h2))
theorem list_ne_at {α : Type} {a b : List α} {k : Nat} {x y : α} (hx : a[k]? = some x) (hy : b[k]? = some y) (h : x ≠ y) : a ≠ b := fun e => by
  rw [e, hy] at hx; cases hx; exact h rfl
theorem lpInts_fn (a b : List Int) (ha : a.length < 2 ^ 40) (hb : b.length < 2 ^ 40) : Fp Try.prog 24 [intsV a, intsV b] (.bool (decide (a = b))) := by
  refine Fc.start (S := [8]) Try.func24 Try.ntmps24 Try.results24 rfl (by decide) rfl (by kernel_rfl) ?_
  cases hl : ((a.length : Int) != b.length)
  rotate_left
  · simp (maxSteps := 1000000) (disch := omega) only [push_cast, go_sem, wpS_tt, wpS_tf, wpS_ft, wpS_ff, wpCond_tt, wpCond_ff, Nat.reducePow, Int.reduceEq, Int.reduceLT, Int.reduceLE, Int.reduceAdd, Int.reduceSub, Int.reduceMul, Int.reduceToNat, Int.reduceBEq, Int.reduceBNe, ↓reduceIte, reduceCtorEq, Nat.reduceEqDiff, Nat.reduceAdd, Nat.reduceMul, Nat.reduceLT, Nat.reduceLeDiff, Nat.reduceSub, Nat.reduceDiv, Nat.reduceBEq, Nat.reduceBneDiff, Nat.reduceBeqDiff, intsV_eq, hl]
    have : ¬ a = b := fun h => by rw [h] at hl; simp at hl
    simp [this]
  have hl' : a.length = b.length := by have : (a.length : Int) = b.length := by simpa using hl
                                       omega
  simp (maxSteps := 1000000) (disch := omega) only [push_cast, go_sem, wpS_tt, wpS_tf, wpS_ft, wpS_ff, wpCond_tt, wpCond_ff, Nat.reducePow, Int.reduceEq, Int.reduceLT, Int.reduceLE, Int.reduceAdd, Int.reduceSub, Int.reduceMul, Int.reduceToNat, Int.reduceBEq, Int.reduceBNe, ↓reduceIte, reduceCtorEq, Nat.reduceEqDiff, Nat.reduceAdd, Nat.reduceMul, Nat.reduceLT, Nat.reduceLeDiff, Nat.reduceSub, Nat.reduceDiv, Nat.reduceBEq, Nat.reduceBneDiff, Nat.reduceBeqDiff, intsV_eq, hl]
  refine Sat.loop (σ := Nat) (fun k => upd (upd (upd noT 0 (.sl (a.map (V.int .i64)))) 1 (.sl (b.map (V.int .i64)))) 5 (.int .i64 k)) (fun _ => noM)
    (fun k => k ≤ a.length ∧ ∀ (j : Nat) (x y : Int), j < k → a[j]? = some x → b[j]? = some y → (x == y) = true) (fun k => a.length - k) 0 (by simp) ?_ ?_
  · (refine Less.start ?_; repeat (first | exact LessO.nil | exact LessO.all | refine LessO.skip (by decide) ?_ | refine LessO.upd ?_ ?_ | refine LessO.set ?_ ?_)) <;> (try simp (maxSteps := 1000000) (disch := omega) only [push_cast, go_sem, wpS_tt, wpS_tf, wpS_ft, wpS_ff, wpCond_tt, wpCond_ff, Nat.reducePow, Int.reduceEq, Int.reduceLT, Int.reduceLE, Int.reduceAdd, Int.reduceSub, Int.reduceMul, Int.reduceToNat, Int.reduceBEq, Int.reduceBNe, ↓reduceIte, reduceCtorEq, Nat.reduceEqDiff, Nat.reduceAdd, Nat.reduceMul, Nat.reduceLT, Nat.reduceLeDiff, Nat.reduceSub, Nat.reduceDiv, Nat.reduceBEq, Nat.reduceBneDiff, Nat.reduceBeqDiff])
  rintro k ⟨hk, hall⟩ J hJ
  refine Sat.of (S := []) (by kernel_rfl) ?_
  rcases Nat.lt_or_ge k a.length with hlt | hge
  · obtain ⟨x, hx⟩ : ∃ x, a[k]? = some x := ⟨_, List.getElem?_eq_getElem hlt⟩
    have hltb : k < b.length := by omega
    obtain ⟨y, hy⟩ : ∃ y, b[k]? = some y := ⟨_, List.getElem?_eq_getElem hltb⟩
    cases hne : (x != y)
    · simp (maxSteps := 1000000) (disch := omega) only [push_cast, go_sem, wpS_tt, wpS_tf, wpS_ft, wpS_ff, wpCond_tt, wpCond_ff, Nat.reducePow, Int.reduceEq, Int.reduceLT, Int.reduceLE, Int.reduceAdd, Int.reduceSub, Int.reduceMul, Int.reduceToNat, Int.reduceBEq, Int.reduceBNe, ↓reduceIte, reduceCtorEq, Nat.reduceEqDiff, Nat.reduceAdd, Nat.reduceMul, Nat.reduceLT, Nat.reduceLeDiff, Nat.reduceSub, Nat.reduceDiv, Nat.reduceBEq, Nat.reduceBneDiff, Nat.reduceBeqDiff, hlt]
      refine Sat.drawnE [] [] [3, 7] (fun _ _ _ => none) (by kernel_rfl) (by kernel_rfl) ?_
      simp (maxSteps := 1000000) (disch := omega) only [push_cast, go_sem, wpS_tt, wpS_tf, wpS_ft, wpS_ff, wpCond_tt, wpCond_ff, Nat.reducePow, Int.reduceEq, Int.reduceLT, Int.reduceLE, Int.reduceAdd, Int.reduceSub, Int.reduceMul, Int.reduceToNat, Int.reduceBEq, Int.reduceBNe, ↓reduceIte, reduceCtorEq, Nat.reduceEqDiff, Nat.reduceAdd, Nat.reduceMul, Nat.reduceLT, Nat.reduceLeDiff, Nat.reduceSub, Nat.reduceDiv, Nat.reduceBEq, Nat.reduceBneDiff, Nat.reduceBeqDiff, hx, hy, hlt, hltb, hne]
      refine hJ (k + 1) _ _ ⟨by omega, fun j x' y' hj h1 h2 => ?_⟩ (by omega) ?_
      · rcases Nat.lt_or_ge j k with h | h
        · exact hall j x' y' h h1 h2
        · have : j = k := by omega
          subst this; rw [hx] at h1; rw [hy] at h2; cases h1; cases h2
          simpa only [bne, Bool.not_eq_false'] using hne
      · (refine Less.start ?_; repeat (first | exact LessO.nil | exact LessO.all | refine LessO.skip (by decide) ?_ | refine LessO.upd ?_ ?_ | refine LessO.set ?_ ?_)) <;> (try simp (maxSteps := 1000000) (disch := omega) only [push_cast, go_sem, wpS_tt, wpS_tf, wpS_ft, wpS_ff, wpCond_tt, wpCond_ff, Nat.reducePow, Int.reduceEq, Int.reduceLT, Int.reduceLE, Int.reduceAdd, Int.reduceSub, Int.reduceMul, Int.reduceToNat, Int.reduceBEq, Int.reduceBNe, ↓reduceIte, reduceCtorEq, Nat.reduceEqDiff, Nat.reduceAdd, Nat.reduceMul, Nat.reduceLT, Nat.reduceLeDiff, Nat.reduceSub, Nat.reduceDiv, Nat.reduceBEq, Nat.reduceBneDiff, Nat.reduceBeqDiff])
    · simp (maxSteps := 1000000) (disch := omega) only [push_cast, go_sem, wpS_tt, wpS_tf, wpS_ft, wpS_ff, wpCond_tt, wpCond_ff, Nat.reducePow, Int.reduceEq, Int.reduceLT, Int.reduceLE, Int.reduceAdd, Int.reduceSub, Int.reduceMul, Int.reduceToNat, Int.reduceBEq, Int.reduceBNe, ↓reduceIte, reduceCtorEq, Nat.reduceEqDiff, Nat.reduceAdd, Nat.reduceMul, Nat.reduceLT, Nat.reduceLeDiff, Nat.reduceSub, Nat.reduceDiv, Nat.reduceBEq, Nat.reduceBneDiff, Nat.reduceBeqDiff, hlt]
      refine Sat.drawnE [] [] [3, 7] (fun _ _ _ => none) (by kernel_rfl) (by kernel_rfl) ?_
      simp (maxSteps := 1000000) (disch := omega) only [push_cast, go_sem, wpS_tt, wpS_tf, wpS_ft, wpS_ff, wpCond_tt, wpCond_ff, Nat.reducePow, Int.reduceEq, Int.reduceLT, Int.reduceLE, Int.reduceAdd, Int.reduceSub, Int.reduceMul, Int.reduceToNat, Int.reduceBEq, Int.reduceBNe, ↓reduceIte, reduceCtorEq, Nat.reduceEqDiff, Nat.reduceAdd, Nat.reduceMul, Nat.reduceLT, Nat.reduceLeDiff, Nat.reduceSub, Nat.reduceDiv, Nat.reduceBEq, Nat.reduceBneDiff, Nat.reduceBeqDiff, hx, hy, hlt, hltb, hne]
      have : ¬ a = b := list_ne_at hx hy (by simpa using hne)
      simp [this]
  · have hkl : k = a.length := by omega
    subst hkl
    simp (maxSteps := 1000000) (disch := omega) only [push_cast, go_sem, wpS_tt, wpS_tf, wpS_ft, wpS_ff, wpCond_tt, wpCond_ff, Nat.reducePow, Int.reduceEq, Int.reduceLT, Int.reduceLE, Int.reduceAdd, Int.reduceSub, Int.reduceMul, Int.reduceToNat, Int.reduceBEq, Int.reduceBNe, ↓reduceIte, reduceCtorEq, Nat.reduceEqDiff, Nat.reduceAdd, Nat.reduceMul, Nat.reduceLT, Nat.reduceLeDiff, Nat.reduceSub, Nat.reduceDiv, Nat.reduceBEq, Nat.reduceBneDiff, Nat.reduceBeqDiff]
    refine Sat.of (S := []) (by kernel_rfl) ?_
    simp (maxSteps := 1000000) (disch := omega) only [push_cast, go_sem, wpS_tt, wpS_tf, wpS_ft, wpS_ff, wpCond_tt, wpCond_ff, Nat.reducePow, Int.reduceEq, Int.reduceLT, Int.reduceLE, Int.reduceAdd, Int.reduceSub, Int.reduceMul, Int.reduceToNat, Int.reduceBEq, Int.reduceBNe, ↓reduceIte, reduceCtorEq, Nat.reduceEqDiff, Nat.reduceAdd, Nat.reduceMul, Nat.reduceLT, Nat.reduceLeDiff, Nat.reduceSub, Nat.reduceDiv, Nat.reduceBEq, Nat.reduceBneDiff, Nat.reduceBeqDiff]
    have : a = b := list_eq_drop hl' hall (Nat.le_refl _)
    simp [this]

instance : DecidableEq Exe := fun x y => decidable_of_iff (x.fr = y.fr ∧ x.od = y.od) (by cases x; cases y; simp)
theorem lpExec_fn (x y : Exe) (hx : x.small) (hy : y.small) : Fp Try.prog 10 [x.V, y.V] (.bool (decide (x = y))) := by
  have hxy : (x = y) = (x.fr = y.fr ∧ x.od = y.od) := by cases x; cases y; simp
  have hfr := lpInts_fn x.fr y.fr hx.fr hy.fr
  have hxo := hx.od
  refine Fc.start (S := [8]) Try.func10 Try.ntmps10 Try.results10 rfl (by decide) rfl (by kernel_rfl) ?_
  by_cases hf : x.fr = y.fr
  rotate_left
  · have hd : decide (x.fr = y.fr) = false := by simp [hf]
    rw [hd] at hfr
    simp (maxSteps := 1000000) (disch := omega) only [push_cast, go_sem, wpS_tt, wpS_tf, wpS_ft, wpS_ff, wpCond_tt, wpCond_ff, Nat.reducePow, Int.reduceEq, Int.reduceLT, Int.reduceLE, Int.reduceAdd, Int.reduceSub, Int.reduceMul, Int.reduceToNat, Int.reduceBEq, Int.reduceBNe, ↓reduceIte, reduceCtorEq, Nat.reduceEqDiff, Nat.reduceAdd, Nat.reduceMul, Nat.reduceLT, Nat.reduceLeDiff, Nat.reduceSub, Nat.reduceDiv, Nat.reduceBEq, Nat.reduceBneDiff, Nat.reduceBeqDiff, Exe.V_eq]
    intro g1 g2
    refine callR.pure hfr rfl rfl ?_
    simp (maxSteps := 1000000) (disch := omega) only [push_cast, go_sem, wpS_tt, wpS_tf, wpS_ft, wpS_ff, wpCond_tt, wpCond_ff, Nat.reducePow, Int.reduceEq, Int.reduceLT, Int.reduceLE, Int.reduceAdd, Int.reduceSub, Int.reduceMul, Int.reduceToNat, Int.reduceBEq, Int.reduceBNe, ↓reduceIte, reduceCtorEq, Nat.reduceEqDiff, Nat.reduceAdd, Nat.reduceMul, Nat.reduceLT, Nat.reduceLeDiff, Nat.reduceSub, Nat.reduceDiv, Nat.reduceBEq, Nat.reduceBneDiff, Nat.reduceBeqDiff]
    simp [hxy, hf]
  have hd : decide (x.fr = y.fr) = true := by simp [hf]
  rw [hd] at hfr
  cases hl : ((x.od.length : Int) != y.od.length)
  rotate_left
  · simp (maxSteps := 1000000) (disch := omega) only [push_cast, go_sem, wpS_tt, wpS_tf, wpS_ft, wpS_ff, wpCond_tt, wpCond_ff, Nat.reducePow, Int.reduceEq, Int.reduceLT, Int.reduceLE, Int.reduceAdd, Int.reduceSub, Int.reduceMul, Int.reduceToNat, Int.reduceBEq, Int.reduceBNe, ↓reduceIte, reduceCtorEq, Nat.reduceEqDiff, Nat.reduceAdd, Nat.reduceMul, Nat.reduceLT, Nat.reduceLeDiff, Nat.reduceSub, Nat.reduceDiv, Nat.reduceBEq, Nat.reduceBneDiff, Nat.reduceBeqDiff, Exe.V_eq]
    intro g1 g2
    refine callR.pure hfr rfl rfl ?_
    simp (maxSteps := 1000000) (disch := omega) only [push_cast, go_sem, wpS_tt, wpS_tf, wpS_ft, wpS_ff, wpCond_tt, wpCond_ff, Nat.reducePow, Int.reduceEq, Int.reduceLT, Int.reduceLE, Int.reduceAdd, Int.reduceSub, Int.reduceMul, Int.reduceToNat, Int.reduceBEq, Int.reduceBNe, ↓reduceIte, reduceCtorEq, Nat.reduceEqDiff, Nat.reduceAdd, Nat.reduceMul, Nat.reduceLT, Nat.reduceLeDiff, Nat.reduceSub, Nat.reduceDiv, Nat.reduceBEq, Nat.reduceBneDiff, Nat.reduceBeqDiff, hl]
    have : ¬ x.od = y.od := fun h => by rw [h] at hl; simp at hl
    simp [hxy, this]
  have hl' : x.od.length = y.od.length := by have : (x.od.length : Int) = y.od.length := by simpa using hl
                                             omega
  simp (maxSteps := 1000000) (disch := omega) only [push_cast, go_sem, wpS_tt, wpS_tf, wpS_ft, wpS_ff, wpCond_tt, wpCond_ff, Nat.reducePow, Int.reduceEq, Int.reduceLT, Int.reduceLE, Int.reduceAdd, Int.reduceSub, Int.reduceMul, Int.reduceToNat, Int.reduceBEq, Int.reduceBNe, ↓reduceIte, reduceCtorEq, Nat.reduceEqDiff, Nat.reduceAdd, Nat.reduceMul, Nat.reduceLT, Nat.reduceLeDiff, Nat.reduceSub, Nat.reduceDiv, Nat.reduceBEq, Nat.reduceBneDiff, Nat.reduceBeqDiff, Exe.V_eq]
  intro g1 g2
  refine callR.pure hfr rfl rfl ?_
  simp (maxSteps := 1000000) (disch := omega) only [push_cast, go_sem, wpS_tt, wpS_tf, wpS_ft, wpS_ff, wpCond_tt, wpCond_ff, Nat.reducePow, Int.reduceEq, Int.reduceLT, Int.reduceLE, Int.reduceAdd, Int.reduceSub, Int.reduceMul, Int.reduceToNat, Int.reduceBEq, Int.reduceBNe, ↓reduceIte, reduceCtorEq, Nat.reduceEqDiff, Nat.reduceAdd, Nat.reduceMul, Nat.reduceLT, Nat.reduceLeDiff, Nat.reduceSub, Nat.reduceDiv, Nat.reduceBEq, Nat.reduceBneDiff, Nat.reduceBeqDiff, hl]
  refine Sat.loop (σ := Nat) (fun k => upd (upd (upd noT 2 (.ptr 2 [] 0 0 g1 2)) 3 (.ptr 3 [] 0 0 g2 2)) 5 (.int .i64 k))
    (fun _ => (noM.set 2 (.own 29 (some g1) 1 [.agg [.sl (x.fr.map (V.int .i64)), .sl (x.od.map intsV)]])).set 3 (.own 29 (some g2) 1 [.agg [.sl (y.fr.map (V.int .i64)), .sl (y.od.map intsV)]]))
    (fun k => k ≤ x.od.length ∧ ∀ (j : Nat) (r q : List Int), j < k → x.od[j]? = some r → y.od[j]? = some q → (r == q) = true) (fun k => x.od.length - k) 0 (by simp) ?_ ?_
  · (refine Less.start ?_; repeat (first | exact LessO.nil | exact LessO.all | refine LessO.skip (by decide) ?_ | refine LessO.upd ?_ ?_ | refine LessO.set ?_ ?_)) <;> (try simp (maxSteps := 1000000) (disch := omega) only [push_cast, go_sem, wpS_tt, wpS_tf, wpS_ft, wpS_ff, wpCond_tt, wpCond_ff, Nat.reducePow, Int.reduceEq, Int.reduceLT, Int.reduceLE, Int.reduceAdd, Int.reduceSub, Int.reduceMul, Int.reduceToNat, Int.reduceBEq, Int.reduceBNe, ↓reduceIte, reduceCtorEq, Nat.reduceEqDiff, Nat.reduceAdd, Nat.reduceMul, Nat.reduceLT, Nat.reduceLeDiff, Nat.reduceSub, Nat.reduceDiv, Nat.reduceBEq, Nat.reduceBneDiff, Nat.reduceBeqDiff])
  rintro k ⟨hk, hall⟩ J hJ
  refine Sat.of (S := []) (by kernel_rfl) ?_
  rcases Nat.lt_or_ge k x.od.length with hlt | hge
  · obtain ⟨r, hr⟩ : ∃ r, x.od[k]? = some r := ⟨_, List.getElem?_eq_getElem hlt⟩
    have hltb : k < y.od.length := by omega
    obtain ⟨q, hq⟩ : ∃ q, y.od[k]? = some q := ⟨_, List.getElem?_eq_getElem hltb⟩
    have hc := lpInts_fn r q (hx.row r (List.mem_of_getElem? hr)) (hy.row q (List.mem_of_getElem? hq))
    simp (maxSteps := 1000000) (disch := omega) only [push_cast, go_sem, wpS_tt, wpS_tf, wpS_ft, wpS_ff, wpCond_tt, wpCond_ff, Nat.reducePow, Int.reduceEq, Int.reduceLT, Int.reduceLE, Int.reduceAdd, Int.reduceSub, Int.reduceMul, Int.reduceToNat, Int.reduceBEq, Int.reduceBNe, ↓reduceIte, reduceCtorEq, Nat.reduceEqDiff, Nat.reduceAdd, Nat.reduceMul, Nat.reduceLT, Nat.reduceLeDiff, Nat.reduceSub, Nat.reduceDiv, Nat.reduceBEq, Nat.reduceBneDiff, Nat.reduceBeqDiff, hlt]
    refine Sat.drawnE [] [] (List.range 12) (pureT [(24, .bool (decide (r = q)))]) (by kernel_rfl) (by kernel_rfl) ?_
    simp (maxSteps := 1000000) (disch := omega) only [push_cast, go_sem, wpS_tt, wpS_tf, wpS_ft, wpS_ff, wpCond_tt, wpCond_ff, Nat.reducePow, Int.reduceEq, Int.reduceLT, Int.reduceLE, Int.reduceAdd, Int.reduceSub, Int.reduceMul, Int.reduceToNat, Int.reduceBEq, Int.reduceBNe, ↓reduceIte, reduceCtorEq, Nat.reduceEqDiff, Nat.reduceAdd, Nat.reduceMul, Nat.reduceLT, Nat.reduceLeDiff, Nat.reduceSub, Nat.reduceDiv, Nat.reduceBEq, Nat.reduceBneDiff, Nat.reduceBeqDiff, hr, hq, hlt, hltb, intsV_eq]
    refine runD_pure rfl hc rfl rfl ?_ ?_
    · rfl
    by_cases he : r = q
    · have hd : decide (r = q) = true := by simp [he]
      rw [hd]
      simp (maxSteps := 1000000) (disch := omega) only [push_cast, go_sem, wpS_tt, wpS_tf, wpS_ft, wpS_ff, wpCond_tt, wpCond_ff, Nat.reducePow, Int.reduceEq, Int.reduceLT, Int.reduceLE, Int.reduceAdd, Int.reduceSub, Int.reduceMul, Int.reduceToNat, Int.reduceBEq, Int.reduceBNe, ↓reduceIte, reduceCtorEq, Nat.reduceEqDiff, Nat.reduceAdd, Nat.reduceMul, Nat.reduceLT, Nat.reduceLeDiff, Nat.reduceSub, Nat.reduceDiv, Nat.reduceBEq, Nat.reduceBneDiff, Nat.reduceBeqDiff]
      refine hJ (k + 1) _ _ ⟨by omega, fun j r' q' hj h1 h2 => ?_⟩ (by omega) ?_
      · rcases Nat.lt_or_ge j k with h | h
        · exact hall j r' q' h h1 h2
        · have : j = k := by omega
          subst this; rw [hr] at h1; rw [hq] at h2; cases h1; cases h2
          exact beq_iff_eq.2 he
      · (refine Less.start ?_; repeat (first | exact LessO.nil | exact LessO.all | refine LessO.skip (by decide) ?_ | refine LessO.upd ?_ ?_ | refine LessO.set ?_ ?_)) <;> (try simp (maxSteps := 1000000) (disch := omega) only [push_cast, go_sem, wpS_tt, wpS_tf, wpS_ft, wpS_ff, wpCond_tt, wpCond_ff, Nat.reducePow, Int.reduceEq, Int.reduceLT, Int.reduceLE, Int.reduceAdd, Int.reduceSub, Int.reduceMul, Int.reduceToNat, Int.reduceBEq, Int.reduceBNe, ↓reduceIte, reduceCtorEq, Nat.reduceEqDiff, Nat.reduceAdd, Nat.reduceMul, Nat.reduceLT, Nat.reduceLeDiff, Nat.reduceSub, Nat.reduceDiv, Nat.reduceBEq, Nat.reduceBneDiff, Nat.reduceBeqDiff])
    · have hd : decide (r = q) = false := by simp [he]
      rw [hd]
      simp (maxSteps := 1000000) (disch := omega) only [push_cast, go_sem, wpS_tt, wpS_tf, wpS_ft, wpS_ff, wpCond_tt, wpCond_ff, Nat.reducePow, Int.reduceEq, Int.reduceLT, Int.reduceLE, Int.reduceAdd, Int.reduceSub, Int.reduceMul, Int.reduceToNat, Int.reduceBEq, Int.reduceBNe, ↓reduceIte, reduceCtorEq, Nat.reduceEqDiff, Nat.reduceAdd, Nat.reduceMul, Nat.reduceLT, Nat.reduceLeDiff, Nat.reduceSub, Nat.reduceDiv, Nat.reduceBEq, Nat.reduceBneDiff, Nat.reduceBeqDiff]
      have : ¬ x.od = y.od := list_ne_at hr hq he
      simp [hxy, this]
  · have hkl : k = x.od.length := by omega
    subst hkl
    simp (maxSteps := 1000000) (disch := omega) only [push_cast, go_sem, wpS_tt, wpS_tf, wpS_ft, wpS_ff, wpCond_tt, wpCond_ff, Nat.reducePow, Int.reduceEq, Int.reduceLT, Int.reduceLE, Int.reduceAdd, Int.reduceSub, Int.reduceMul, Int.reduceToNat, Int.reduceBEq, Int.reduceBNe, ↓reduceIte, reduceCtorEq, Nat.reduceEqDiff, Nat.reduceAdd, Nat.reduceMul, Nat.reduceLT, Nat.reduceLeDiff, Nat.reduceSub, Nat.reduceDiv, Nat.reduceBEq, Nat.reduceBneDiff, Nat.reduceBeqDiff]
    refine Sat.of (S := []) (by kernel_rfl) ?_
    simp (maxSteps := 1000000) (disch := omega) only [push_cast, go_sem, wpS_tt, wpS_tf, wpS_ft, wpS_ff, wpCond_tt, wpCond_ff, Nat.reducePow, Int.reduceEq, Int.reduceLT, Int.reduceLE, Int.reduceAdd, Int.reduceSub, Int.reduceMul, Int.reduceToNat, Int.reduceBEq, Int.reduceBNe, ↓reduceIte, reduceCtorEq, Nat.reduceEqDiff, Nat.reduceAdd, Nat.reduceMul, Nat.reduceLT, Nat.reduceLeDiff, Nat.reduceSub, Nat.reduceDiv, Nat.reduceBEq, Nat.reduceBneDiff, Nat.reduceBeqDiff]
    have : x.od = y.od := list_eq_drop hl' hall (Nat.le_refl _)
    simp [hxy, hf, this]
end Go.Proofs.Ytmmipjlogdggiaa
/-! ## The law FnExecAll, from what is drawn on -/
namespace Go.Proofs.Ytmmipjlogdggiaa
open Go.RowKit
set_option linter.unusedSimpArgs false
set_option linter.unusedVariables false
set_option pp.maxSteps 3000

theorem execAll_small {p : Prog} {y : Exe} (h : y ∈ execAll p) : y.small := by
  unfold execAll at h
  cases hok : progOk p
  · rw [hok] at h; cases h
  rw [hok, if_pos rfl] at h
  have hel := events_le hok
  have hsl : (scene p).ds.length = (events p).length := by simp [scene]
  simp only [allOf, List.mem_flatMap] at h
  obtain ⟨f, hf, o, ho, h⟩ := h
  unfold oneOf at h
  split at h
  · simp at h; subst h
    have h1 := fromsK_row hf
    have h2 := ordersK_row ho
    exact ⟨by dsimp only; omega, by dsimp only; omega, fun r hr => by have := ordersK_in ho hr; omega⟩
  · cases h
theorem execAll_le (p : Prog) : (execAll p).length < 2 ^ 30 := by
  unfold execAll
  cases hok : progOk p
  · simp
  have hus := scene_uses hok
  rw [if_pos rfl]
  have k1 := flatMap_le (f := fun f => (ordersOf (scene p).ds).flatMap fun o => oneOf (scene p) f o) (n := (ordersOf (scene p).ds).length) (fun f => by have := flatMap_le (oneOf_le (scene p) f) (ordersOf (scene p).ds); rw [Nat.mul_one] at this; exact this) (fromsOf (scene p).ds)
  exact Nat.lt_of_le_of_lt k1 (Nat.lt_of_le_of_lt (Nat.mul_le_mul (froms_le hus _ (Nat.le_refl _)) (orders_le hus 3 (Nat.le_refl _))) (by decide))
/-- What is drawn. -/
def DrawnX (r : V) : Prop := ∃ (p : Prog) (x : Exe), r = .tuple [progV p, x.V] ∧ p.length ≤ 3 ∧ (∀ l ∈ p, l.length < 2 ^ 11) ∧ x.small
theorem lawExecAll_of (bs : List Int) (hD : bs.length ≤ 1048576 → Fc Try.prog 6 [.sl (bs.map (V.int .u8))] noM fun r m => DrawnX r ∧ m = noM) : Fp Try.prog 3 [.sl (bs.map (V.int .u8))] (.bool true) := by
  refine Fc.start (S := [3, 13]) Try.func3 Try.ntmps3 Try.results3 rfl (by decide) rfl (by kernel_rfl) ?_
  by_cases h : (1048576 : Int) < bs.length
  · simp (maxSteps := 1000000) (disch := omega) only [push_cast, go_sem, wpS_tt, wpS_tf, wpS_ft, wpS_ff, wpCond_tt, wpCond_ff, Nat.reducePow, Int.reduceEq, Int.reduceLT, Int.reduceLE, Int.reduceAdd, Int.reduceSub, Int.reduceMul, Int.reduceToNat, Int.reduceBEq, Int.reduceBNe, ↓reduceIte, reduceCtorEq, Nat.reduceEqDiff, Nat.reduceAdd, Nat.reduceMul, Nat.reduceLT, Nat.reduceLeDiff, Nat.reduceSub, Nat.reduceDiv, Nat.reduceBEq, Nat.reduceBneDiff, Nat.reduceBeqDiff, h]
  simp (maxSteps := 1000000) (disch := omega) only [push_cast, go_sem, wpS_tt, wpS_tf, wpS_ft, wpS_ff, wpCond_tt, wpCond_ff, Nat.reducePow, Int.reduceEq, Int.reduceLT, Int.reduceLE, Int.reduceAdd, Int.reduceSub, Int.reduceMul, Int.reduceToNat, Int.reduceBEq, Int.reduceBNe, ↓reduceIte, reduceCtorEq, Nat.reduceEqDiff, Nat.reduceAdd, Nat.reduceMul, Nat.reduceLT, Nat.reduceLeDiff, Nat.reduceSub, Nat.reduceDiv, Nat.reduceBEq, Nat.reduceBneDiff, Nat.reduceBeqDiff, h]
  refine Sat.of (S := [13]) (by kernel_rfl) ?_
  simp (maxSteps := 1000000) (disch := omega) only [push_cast, go_sem, wpS_tt, wpS_tf, wpS_ft, wpS_ff, wpCond_tt, wpCond_ff, Nat.reducePow, Int.reduceEq, Int.reduceLT, Int.reduceLE, Int.reduceAdd, Int.reduceSub, Int.reduceMul, Int.reduceToNat, Int.reduceBEq, Int.reduceBNe, ↓reduceIte, reduceCtorEq, Nat.reduceEqDiff, Nat.reduceAdd, Nat.reduceMul, Nat.reduceLT, Nat.reduceLeDiff, Nat.reduceSub, Nat.reduceDiv, Nat.reduceBEq, Nat.reduceBneDiff, Nat.reduceBeqDiff]
  refine callR.ex (hD (by omega)) rfl rfl ?_
  rintro r ⟨p, x, rfl, hp, hl, hx⟩
  have hl' : ∀ l ∈ p, l.length < 2 ^ 40 := fun l h => by have := hl l h; omega
  have h1 := implExecOk_fn p x (by omega) hl' hx
  have h2 := specExecOk_fn p x (by omega) hx
  have h3 := implExecAll_fn p (by omega) hl'
  rw [← ok_eq] at h2
  have hle := execAll_le p
  obtain ⟨ok, hok⟩ : ∃ ok, execOk p x = ok := ⟨_, rfl⟩
  rw [hok] at h1 h2
  simp (maxSteps := 1000000) (disch := omega) only [push_cast, go_sem, wpS_tt, wpS_tf, wpS_ft, wpS_ff, wpCond_tt, wpCond_ff, Nat.reducePow, Int.reduceEq, Int.reduceLT, Int.reduceLE, Int.reduceAdd, Int.reduceSub, Int.reduceMul, Int.reduceToNat, Int.reduceBEq, Int.reduceBNe, ↓reduceIte, reduceCtorEq, Nat.reduceEqDiff, Nat.reduceAdd, Nat.reduceMul, Nat.reduceLT, Nat.reduceLeDiff, Nat.reduceSub, Nat.reduceDiv, Nat.reduceBEq, Nat.reduceBneDiff, Nat.reduceBeqDiff, progV_eq, Exe.V_eq]
  intro g1 g2
  refine callR.pure h1 rfl rfl ?_
  simp (maxSteps := 1000000) (disch := omega) only [push_cast, go_sem, wpS_tt, wpS_tf, wpS_ft, wpS_ff, wpCond_tt, wpCond_ff, Nat.reducePow, Int.reduceEq, Int.reduceLT, Int.reduceLE, Int.reduceAdd, Int.reduceSub, Int.reduceMul, Int.reduceToNat, Int.reduceBEq, Int.reduceBNe, ↓reduceIte, reduceCtorEq, Nat.reduceEqDiff, Nat.reduceAdd, Nat.reduceMul, Nat.reduceLT, Nat.reduceLeDiff, Nat.reduceSub, Nat.reduceDiv, Nat.reduceBEq, Nat.reduceBneDiff, Nat.reduceBeqDiff]
  refine callR.pure h2 rfl rfl ?_
  have hbb : (ok != ok) = false := by simp
  simp (maxSteps := 1000000) (disch := omega) only [push_cast, go_sem, wpS_tt, wpS_tf, wpS_ft, wpS_ff, wpCond_tt, wpCond_ff, Nat.reducePow, Int.reduceEq, Int.reduceLT, Int.reduceLE, Int.reduceAdd, Int.reduceSub, Int.reduceMul, Int.reduceToNat, Int.reduceBEq, Int.reduceBNe, ↓reduceIte, reduceCtorEq, Nat.reduceEqDiff, Nat.reduceAdd, Nat.reduceMul, Nat.reduceLT, Nat.reduceLeDiff, Nat.reduceSub, Nat.reduceDiv, Nat.reduceBEq, Nat.reduceBneDiff, Nat.reduceBeqDiff, hbb, progV_eq]
  refine callR.pure h3 rfl rfl ?_
  simp (maxSteps := 1000000) (disch := omega) only [push_cast, go_sem, wpS_tt, wpS_tf, wpS_ft, wpS_ff, wpCond_tt, wpCond_ff, Nat.reducePow, Int.reduceEq, Int.reduceLT, Int.reduceLE, Int.reduceAdd, Int.reduceSub, Int.reduceMul, Int.reduceToNat, Int.reduceBEq, Int.reduceBNe, ↓reduceIte, reduceCtorEq, Nat.reduceEqDiff, Nat.reduceAdd, Nat.reduceMul, Nat.reduceLT, Nat.reduceLeDiff, Nat.reduceSub, Nat.reduceDiv, Nat.reduceBEq, Nat.reduceBneDiff, Nat.reduceBeqDiff]
  refine Sat.loop (σ := Nat) (fun k => upd (upd (upd (upd (upd noT 4 (.ptr 4 [] 0 0 g2 2)) 5 (.bool ok)) 6 (.sl ((execAll p).map Exe.V))) 8 (.int .i64 k)) 7 (.bool (decide (x ∈ (execAll p).take k))))
    (fun _ => (noM.set 3 (.own 25 (some g1) 1 [.agg [.sl (p.map thrV)]])).set 4 (.own 29 (some g2) 1 [.agg [.sl (x.fr.map (V.int .i64)), .sl (x.od.map intsV)]]))
    (fun k => k ≤ (execAll p).length) (fun k => (execAll p).length - k) 0 (by simp) ?_ ?_
  · (refine Less.start ?_; repeat (first | exact LessO.nil | exact LessO.all | refine LessO.skip (by decide) ?_ | refine LessO.upd ?_ ?_ | refine LessO.set ?_ ?_)) <;> (try simp (maxSteps := 1000000) (disch := omega) only [push_cast, go_sem, wpS_tt, wpS_tf, wpS_ft, wpS_ff, wpCond_tt, wpCond_ff, Nat.reducePow, Int.reduceEq, Int.reduceLT, Int.reduceLE, Int.reduceAdd, Int.reduceSub, Int.reduceMul, Int.reduceToNat, Int.reduceBEq, Int.reduceBNe, ↓reduceIte, reduceCtorEq, Nat.reduceEqDiff, Nat.reduceAdd, Nat.reduceMul, Nat.reduceLT, Nat.reduceLeDiff, Nat.reduceSub, Nat.reduceDiv, Nat.reduceBEq, Nat.reduceBneDiff, Nat.reduceBeqDiff])
    all_goals simp
  rintro k hk J hJ
  refine Sat.of (S := []) (by kernel_rfl) ?_
  rcases Nat.lt_or_ge k (execAll p).length with hlt | hge
  · obtain ⟨y, hy⟩ : ∃ y, (execAll p)[k]? = some y := ⟨_, List.getElem?_eq_getElem hlt⟩
    have hys := execAll_small (List.mem_of_getElem? hy)
    have hlp := lpExec_fn y x hys hx
    have hmem : (x ∈ (execAll p).take (k + 1)) ↔ (x ∈ (execAll p).take k ∨ y = x) := by
      rw [take_get hy, List.mem_append, List.mem_singleton]
      exact ⟨fun h => h.imp_right Eq.symm, fun h => h.imp_right Eq.symm⟩
    by_cases hm : x ∈ (execAll p).take k
    · have e1 : decide (x ∈ (execAll p).take k) = true := by simp [hm]
      have e2 : decide (x ∈ (execAll p).take (k + 1)) = true := by simp [hmem, hm]
      rw [e1]
      simp (maxSteps := 1000000) (disch := omega) only [push_cast, go_sem, wpS_tt, wpS_tf, wpS_ft, wpS_ff, wpCond_tt, wpCond_ff, Nat.reducePow, Int.reduceEq, Int.reduceLT, Int.reduceLE, Int.reduceAdd, Int.reduceSub, Int.reduceMul, Int.reduceToNat, Int.reduceBEq, Int.reduceBNe, ↓reduceIte, reduceCtorEq, Nat.reduceEqDiff, Nat.reduceAdd, Nat.reduceMul, Nat.reduceLT, Nat.reduceLeDiff, Nat.reduceSub, Nat.reduceDiv, Nat.reduceBEq, Nat.reduceBneDiff, Nat.reduceBeqDiff, hlt]
      refine Sat.drawnE [] [] (List.range 9) (pureT []) (by kernel_rfl) (by kernel_rfl) ?_
      simp (maxSteps := 1000000) (disch := omega) only [push_cast, go_sem, wpS_tt, wpS_tf, wpS_ft, wpS_ff, wpCond_tt, wpCond_ff, Nat.reducePow, Int.reduceEq, Int.reduceLT, Int.reduceLE, Int.reduceAdd, Int.reduceSub, Int.reduceMul, Int.reduceToNat, Int.reduceBEq, Int.reduceBNe, ↓reduceIte, reduceCtorEq, Nat.reduceEqDiff, Nat.reduceAdd, Nat.reduceMul, Nat.reduceLT, Nat.reduceLeDiff, Nat.reduceSub, Nat.reduceDiv, Nat.reduceBEq, Nat.reduceBneDiff, Nat.reduceBeqDiff, hy, hlt, Exe.V_eq]
      refine hJ (k + 1) _ _ (by omega) (by omega) ?_
      rw [e2]
      (refine Less.start ?_; repeat (first | exact LessO.nil | exact LessO.all | refine LessO.skip (by decide) ?_ | refine LessO.upd ?_ ?_ | refine LessO.set ?_ ?_)) <;> (try simp (maxSteps := 1000000) (disch := omega) only [push_cast, go_sem, wpS_tt, wpS_tf, wpS_ft, wpS_ff, wpCond_tt, wpCond_ff, Nat.reducePow, Int.reduceEq, Int.reduceLT, Int.reduceLE, Int.reduceAdd, Int.reduceSub, Int.reduceMul, Int.reduceToNat, Int.reduceBEq, Int.reduceBNe, ↓reduceIte, reduceCtorEq, Nat.reduceEqDiff, Nat.reduceAdd, Nat.reduceMul, Nat.reduceLT, Nat.reduceLeDiff, Nat.reduceSub, Nat.reduceDiv, Nat.reduceBEq, Nat.reduceBneDiff, Nat.reduceBeqDiff])
    · have e1 : decide (x ∈ (execAll p).take k) = false := by simp [hm]
      have e2 : decide (x ∈ (execAll p).take (k + 1)) = decide (y = x) := by simp only [hmem, hm, false_or]
      rw [e1]
      simp (maxSteps := 1000000) (disch := omega) only [push_cast, go_sem, wpS_tt, wpS_tf, wpS_ft, wpS_ff, wpCond_tt, wpCond_ff, Nat.reducePow, Int.reduceEq, Int.reduceLT, Int.reduceLE, Int.reduceAdd, Int.reduceSub, Int.reduceMul, Int.reduceToNat, Int.reduceBEq, Int.reduceBNe, ↓reduceIte, reduceCtorEq, Nat.reduceEqDiff, Nat.reduceAdd, Nat.reduceMul, Nat.reduceLT, Nat.reduceLeDiff, Nat.reduceSub, Nat.reduceDiv, Nat.reduceBEq, Nat.reduceBneDiff, Nat.reduceBeqDiff, hlt]
      refine Sat.drawnE [] [] (List.range 9) (pureT [(10, .bool (decide (y = x)))]) (by kernel_rfl) (by kernel_rfl) ?_
      simp (maxSteps := 1000000) (disch := omega) only [push_cast, go_sem, wpS_tt, wpS_tf, wpS_ft, wpS_ff, wpCond_tt, wpCond_ff, Nat.reducePow, Int.reduceEq, Int.reduceLT, Int.reduceLE, Int.reduceAdd, Int.reduceSub, Int.reduceMul, Int.reduceToNat, Int.reduceBEq, Int.reduceBNe, ↓reduceIte, reduceCtorEq, Nat.reduceEqDiff, Nat.reduceAdd, Nat.reduceMul, Nat.reduceLT, Nat.reduceLeDiff, Nat.reduceSub, Nat.reduceDiv, Nat.reduceBEq, Nat.reduceBneDiff, Nat.reduceBeqDiff, hy, hlt, Exe.V_eq]
      refine runD_pure rfl hlp rfl rfl ?_ ?_
      · rfl
      simp (maxSteps := 1000000) (disch := omega) only [push_cast, go_sem, wpS_tt, wpS_tf, wpS_ft, wpS_ff, wpCond_tt, wpCond_ff, Nat.reducePow, Int.reduceEq, Int.reduceLT, Int.reduceLE, Int.reduceAdd, Int.reduceSub, Int.reduceMul, Int.reduceToNat, Int.reduceBEq, Int.reduceBNe, ↓reduceIte, reduceCtorEq, Nat.reduceEqDiff, Nat.reduceAdd, Nat.reduceMul, Nat.reduceLT, Nat.reduceLeDiff, Nat.reduceSub, Nat.reduceDiv, Nat.reduceBEq, Nat.reduceBneDiff, Nat.reduceBeqDiff]
      refine hJ (k + 1) _ _ (by omega) (by omega) ?_
      rw [e2]
      (refine Less.start ?_; repeat (first | exact LessO.nil | exact LessO.all | refine LessO.skip (by decide) ?_ | refine LessO.upd ?_ ?_ | refine LessO.set ?_ ?_)) <;> (try simp (maxSteps := 1000000) (disch := omega) only [push_cast, go_sem, wpS_tt, wpS_tf, wpS_ft, wpS_ff, wpCond_tt, wpCond_ff, Nat.reducePow, Int.reduceEq, Int.reduceLT, Int.reduceLE, Int.reduceAdd, Int.reduceSub, Int.reduceMul, Int.reduceToNat, Int.reduceBEq, Int.reduceBNe, ↓reduceIte, reduceCtorEq, Nat.reduceEqDiff, Nat.reduceAdd, Nat.reduceMul, Nat.reduceLT, Nat.reduceLeDiff, Nat.reduceSub, Nat.reduceDiv, Nat.reduceBEq, Nat.reduceBneDiff, Nat.reduceBeqDiff])
  · have : k = (execAll p).length := by omega
    subst this
    rw [List.take_length]
    have e1 : decide (x ∈ execAll p) = ok := by
      rw [← hok, Bool.eq_iff_iff, decide_eq_true_eq]; exact mem_execAll p x
    rw [e1] at *
    simp (maxSteps := 1000000) (disch := omega) only [push_cast, go_sem, wpS_tt, wpS_tf, wpS_ft, wpS_ff, wpCond_tt, wpCond_ff, Nat.reducePow, Int.reduceEq, Int.reduceLT, Int.reduceLE, Int.reduceAdd, Int.reduceSub, Int.reduceMul, Int.reduceToNat, Int.reduceBEq, Int.reduceBNe, ↓reduceIte, reduceCtorEq, Nat.reduceEqDiff, Nat.reduceAdd, Nat.reduceMul, Nat.reduceLT, Nat.reduceLeDiff, Nat.reduceSub, Nat.reduceDiv, Nat.reduceBEq, Nat.reduceBneDiff, Nat.reduceBeqDiff]
    refine Sat.of (S := []) (by kernel_rfl) ?_
    cases ok <;> simp (maxSteps := 1000000) (disch := omega) only [push_cast, go_sem, wpS_tt, wpS_tf, wpS_ft, wpS_ff, wpCond_tt, wpCond_ff, Nat.reducePow, Int.reduceEq, Int.reduceLT, Int.reduceLE, Int.reduceAdd, Int.reduceSub, Int.reduceMul, Int.reduceToNat, Int.reduceBEq, Int.reduceBNe, ↓reduceIte, reduceCtorEq, Nat.reduceEqDiff, Nat.reduceAdd, Nat.reduceMul, Nat.reduceLT, Nat.reduceLeDiff, Nat.reduceSub, Nat.reduceDiv, Nat.reduceBEq, Nat.reduceBneDiff, Nat.reduceBeqDiff]
end Go.Proofs.Ytmmipjlogdggiaa
/-! ## Draws: a step, a thread -/
namespace Go.Proofs.Ytmmipjlogdggiaa
open Go.RowKit
set_option linter.unusedSimpArgs false
set_option linter.unusedVariables false
set_option pp.maxSteps 3000

theorem l71Do_rd (bs : List Int) (hb : Bytes bs) (g p : Nat) (hp : p < 2 ^ 29) (n : Int) (hn : n < 2 ^ 30) : Fr Try.prog 86 [.int .i64 n] g (rdO bs g p)
    (fun r o' => ∃ d : Do, r = d.V ∧ ∃ q, p ≤ q ∧ q ≤ p + 3 ∧ o' = rdO bs g q) := by
  refine Fc.start (S := [2002, 2004]) Try.func86 Try.ntmps86 Try.results86 rfl (by decide) rfl (by kernel_rfl) ?_
  simp (maxSteps := 1000000) (disch := omega) only [push_cast, go_sem, wpS_tt, wpS_tf, wpS_ft, wpS_ff, wpCond_tt, wpCond_ff, Nat.reducePow, Int.reduceEq, Int.reduceLT, Int.reduceLE, Int.reduceAdd, Int.reduceSub, Int.reduceMul, Int.reduceToNat, Int.reduceBEq, Int.reduceBNe, ↓reduceIte, reduceCtorEq, Nat.reduceEqDiff, Nat.reduceAdd, Nat.reduceMul, Nat.reduceLT, Nat.reduceLeDiff, Nat.reduceSub, Nat.reduceDiv, Nat.reduceBEq, Nat.reduceBneDiff, Nat.reduceBeqDiff]
  intro g1 g2
  refine callR.rd (pick_rd bs hb g p (by omega) 10 (by omega)) rfl rfl rfl ?_
  rintro r o' ⟨v, rfl, hv0, hv1, _, rfl⟩
  have hv : v < 10 := hv1 (by omega)
  obtain ⟨m, rfl⟩ := Int.eq_ofNat_of_zero_le hv0
  obtain ⟨z, hz⟩ := ints_get (l := [.int .i64 1, .int .i64 1, .int .i64 1, .int .i64 2, .int .i64 2, .int .i64 2, .int .i64 3, .int .i64 4, .int .i64 5, .int .i64 6]) (n := m) rfl (by simp; omega)
  simp (maxSteps := 1000000) (disch := omega) only [push_cast, go_sem, wpS_tt, wpS_tf, wpS_ft, wpS_ff, wpCond_tt, wpCond_ff, Nat.reducePow, Int.reduceEq, Int.reduceLT, Int.reduceLE, Int.reduceAdd, Int.reduceSub, Int.reduceMul, Int.reduceToNat, Int.reduceBEq, Int.reduceBNe, ↓reduceIte, reduceCtorEq, Nat.reduceEqDiff, Nat.reduceAdd, Nat.reduceMul, Nat.reduceLT, Nat.reduceLeDiff, Nat.reduceSub, Nat.reduceDiv, Nat.reduceBEq, Nat.reduceBneDiff, Nat.reduceBeqDiff, hz]
  refine ⟨by omega, fun g3 => ?_⟩
  refine Sat.cut (σ := Do × Nat) [] (fun x => upd (upd (upd (upd noT 0 (.ptr 0 [] 0 0 g 2)) 1 (.int .i64 n)) 4 (.ptr 4 [] 0 0 g1 3)) 5 (.ptr 5 [] 0 0 g3 3))
    (fun x => ((noM.set 0 (rdO bs g x.2)).set 4 (.own 70 (some g1) 1 [.agg [.int .i64 0, .int .i64 0, .int .i64 0]])).set 5 (.own 70 (some g3) 1 [.agg [.int .i64 x.1.k, .int .i64 x.1.p, .int .i64 x.1.v]]))
    (fun x => p ≤ x.2 ∧ x.2 ≤ p + 2) (by kernel_rfl) ?_ ?_
  · simp (maxSteps := 1000000) (disch := omega) only [push_cast, go_sem, wpS_tt, wpS_tf, wpS_ft, wpS_ff, wpCond_tt, wpCond_ff, Nat.reducePow, Int.reduceEq, Int.reduceLT, Int.reduceLE, Int.reduceAdd, Int.reduceSub, Int.reduceMul, Int.reduceToNat, Int.reduceBEq, Int.reduceBNe, ↓reduceIte, reduceCtorEq, Nat.reduceEqDiff, Nat.reduceAdd, Nat.reduceMul, Nat.reduceLT, Nat.reduceLeDiff, Nat.reduceSub, Nat.reduceDiv, Nat.reduceBEq, Nat.reduceBneDiff, Nat.reduceBeqDiff]
    refine callR.pure (l1Reads_fn ⟨z, 0, 0⟩) rfl rfl ?_
    cases hr : (Do.reads ⟨z, 0, 0⟩)
    · simp (maxSteps := 1000000) (disch := omega) only [push_cast, go_sem, wpS_tt, wpS_tf, wpS_ft, wpS_ff, wpCond_tt, wpCond_ff, Nat.reducePow, Int.reduceEq, Int.reduceLT, Int.reduceLE, Int.reduceAdd, Int.reduceSub, Int.reduceMul, Int.reduceToNat, Int.reduceBEq, Int.reduceBNe, ↓reduceIte, reduceCtorEq, Nat.reduceEqDiff, Nat.reduceAdd, Nat.reduceMul, Nat.reduceLT, Nat.reduceLeDiff, Nat.reduceSub, Nat.reduceDiv, Nat.reduceBEq, Nat.reduceBneDiff, Nat.reduceBeqDiff]
      refine callR.pure (l1Writes_fn ⟨z, 0, 0⟩) rfl rfl ?_
      cases hw : (Do.writes ⟨z, 0, 0⟩)
      · simp (maxSteps := 1000000) (disch := omega) only [push_cast, go_sem, wpS_tt, wpS_tf, wpS_ft, wpS_ff, wpCond_tt, wpCond_ff, Nat.reducePow, Int.reduceEq, Int.reduceLT, Int.reduceLE, Int.reduceAdd, Int.reduceSub, Int.reduceMul, Int.reduceToNat, Int.reduceBEq, Int.reduceBNe, ↓reduceIte, reduceCtorEq, Nat.reduceEqDiff, Nat.reduceAdd, Nat.reduceMul, Nat.reduceLT, Nat.reduceLeDiff, Nat.reduceSub, Nat.reduceDiv, Nat.reduceBEq, Nat.reduceBneDiff, Nat.reduceBeqDiff]
        refine ⟨(⟨z, 0, 0⟩, p + 1), by simp, ?_⟩
        (refine Less.start ?_; repeat (first | exact LessO.nil | exact LessO.all | refine LessO.skip (by decide) ?_ | refine LessO.upd ?_ ?_ | refine LessO.set ?_ ?_)) <;> (try simp (maxSteps := 1000000) (disch := omega) only [push_cast, go_sem, wpS_tt, wpS_tf, wpS_ft, wpS_ff, wpCond_tt, wpCond_ff, Nat.reducePow, Int.reduceEq, Int.reduceLT, Int.reduceLE, Int.reduceAdd, Int.reduceSub, Int.reduceMul, Int.reduceToNat, Int.reduceBEq, Int.reduceBNe, ↓reduceIte, reduceCtorEq, Nat.reduceEqDiff, Nat.reduceAdd, Nat.reduceMul, Nat.reduceLT, Nat.reduceLeDiff, Nat.reduceSub, Nat.reduceDiv, Nat.reduceBEq, Nat.reduceBneDiff, Nat.reduceBeqDiff])
      · simp (maxSteps := 1000000) (disch := omega) only [push_cast, go_sem, wpS_tt, wpS_tf, wpS_ft, wpS_ff, wpCond_tt, wpCond_ff, Nat.reducePow, Int.reduceEq, Int.reduceLT, Int.reduceLE, Int.reduceAdd, Int.reduceSub, Int.reduceMul, Int.reduceToNat, Int.reduceBEq, Int.reduceBNe, ↓reduceIte, reduceCtorEq, Nat.reduceEqDiff, Nat.reduceAdd, Nat.reduceMul, Nat.reduceLT, Nat.reduceLeDiff, Nat.reduceSub, Nat.reduceDiv, Nat.reduceBEq, Nat.reduceBneDiff, Nat.reduceBeqDiff]
        refine callR.rd (pick_rd bs hb g (p + 1) (by omega) n hn) rfl rfl rfl ?_
        rintro r o' ⟨v, rfl, hv0, hv1, _, rfl⟩
        simp (maxSteps := 1000000) (disch := omega) only [push_cast, go_sem, wpS_tt, wpS_tf, wpS_ft, wpS_ff, wpCond_tt, wpCond_ff, Nat.reducePow, Int.reduceEq, Int.reduceLT, Int.reduceLE, Int.reduceAdd, Int.reduceSub, Int.reduceMul, Int.reduceToNat, Int.reduceBEq, Int.reduceBNe, ↓reduceIte, reduceCtorEq, Nat.reduceEqDiff, Nat.reduceAdd, Nat.reduceMul, Nat.reduceLT, Nat.reduceLeDiff, Nat.reduceSub, Nat.reduceDiv, Nat.reduceBEq, Nat.reduceBneDiff, Nat.reduceBeqDiff]
        refine ⟨(⟨z, v, 0⟩, p + 2), by simp, ?_⟩
        (refine Less.start ?_; repeat (first | exact LessO.nil | exact LessO.all | refine LessO.skip (by decide) ?_ | refine LessO.upd ?_ ?_ | refine LessO.set ?_ ?_)) <;> (try simp (maxSteps := 1000000) (disch := omega) only [push_cast, go_sem, wpS_tt, wpS_tf, wpS_ft, wpS_ff, wpCond_tt, wpCond_ff, Nat.reducePow, Int.reduceEq, Int.reduceLT, Int.reduceLE, Int.reduceAdd, Int.reduceSub, Int.reduceMul, Int.reduceToNat, Int.reduceBEq, Int.reduceBNe, ↓reduceIte, reduceCtorEq, Nat.reduceEqDiff, Nat.reduceAdd, Nat.reduceMul, Nat.reduceLT, Nat.reduceLeDiff, Nat.reduceSub, Nat.reduceDiv, Nat.reduceBEq, Nat.reduceBneDiff, Nat.reduceBeqDiff])
    · simp (maxSteps := 1000000) (disch := omega) only [push_cast, go_sem, wpS_tt, wpS_tf, wpS_ft, wpS_ff, wpCond_tt, wpCond_ff, Nat.reducePow, Int.reduceEq, Int.reduceLT, Int.reduceLE, Int.reduceAdd, Int.reduceSub, Int.reduceMul, Int.reduceToNat, Int.reduceBEq, Int.reduceBNe, ↓reduceIte, reduceCtorEq, Nat.reduceEqDiff, Nat.reduceAdd, Nat.reduceMul, Nat.reduceLT, Nat.reduceLeDiff, Nat.reduceSub, Nat.reduceDiv, Nat.reduceBEq, Nat.reduceBneDiff, Nat.reduceBeqDiff]
      refine callR.rd (pick_rd bs hb g (p + 1) (by omega) n hn) rfl rfl rfl ?_
      rintro r o' ⟨v, rfl, hv0, hv1, _, rfl⟩
      simp (maxSteps := 1000000) (disch := omega) only [push_cast, go_sem, wpS_tt, wpS_tf, wpS_ft, wpS_ff, wpCond_tt, wpCond_ff, Nat.reducePow, Int.reduceEq, Int.reduceLT, Int.reduceLE, Int.reduceAdd, Int.reduceSub, Int.reduceMul, Int.reduceToNat, Int.reduceBEq, Int.reduceBNe, ↓reduceIte, reduceCtorEq, Nat.reduceEqDiff, Nat.reduceAdd, Nat.reduceMul, Nat.reduceLT, Nat.reduceLeDiff, Nat.reduceSub, Nat.reduceDiv, Nat.reduceBEq, Nat.reduceBneDiff, Nat.reduceBeqDiff]
      refine ⟨(⟨z, v, 0⟩, p + 2), by simp, ?_⟩
      (refine Less.start ?_; repeat (first | exact LessO.nil | exact LessO.all | refine LessO.skip (by decide) ?_ | refine LessO.upd ?_ ?_ | refine LessO.set ?_ ?_)) <;> (try simp (maxSteps := 1000000) (disch := omega) only [push_cast, go_sem, wpS_tt, wpS_tf, wpS_ft, wpS_ff, wpCond_tt, wpCond_ff, Nat.reducePow, Int.reduceEq, Int.reduceLT, Int.reduceLE, Int.reduceAdd, Int.reduceSub, Int.reduceMul, Int.reduceToNat, Int.reduceBEq, Int.reduceBNe, ↓reduceIte, reduceCtorEq, Nat.reduceEqDiff, Nat.reduceAdd, Nat.reduceMul, Nat.reduceLT, Nat.reduceLeDiff, Nat.reduceSub, Nat.reduceDiv, Nat.reduceBEq, Nat.reduceBneDiff, Nat.reduceBeqDiff])
  rintro ⟨d, q⟩ ⟨hq1, hq2⟩
  refine Sat.of (S := []) (by kernel_rfl) ?_
  simp only at hq1 hq2
  have fin : ∀ {M : Mem} (d' : Do) (q' : Nat), p ≤ q' → q' ≤ p + 3 → M 0 = some (rdO bs g q') →
      ∃ m, Sub m M ∧ ∃ o', (∃ e : Do, d'.V = e.V ∧ ∃ q, p ≤ q ∧ q ≤ p + 3 ∧ o' = rdO bs g q) ∧ m = noM.set 0 o' :=
    fun d' q' h1 h2 h3 => ⟨_, Sub.set Sub.no h3, _, ⟨d', rfl, q', h1, h2, rfl⟩, rfl⟩
  cases h1 : (d.k == 1) <;> cases h6 : (d.k == 6)
  · simp (maxSteps := 1000000) (disch := omega) only [push_cast, go_sem, wpS_tt, wpS_tf, wpS_ft, wpS_ff, wpCond_tt, wpCond_ff, Nat.reducePow, Int.reduceEq, Int.reduceLT, Int.reduceLE, Int.reduceAdd, Int.reduceSub, Int.reduceMul, Int.reduceToNat, Int.reduceBEq, Int.reduceBNe, ↓reduceIte, reduceCtorEq, Nat.reduceEqDiff, Nat.reduceAdd, Nat.reduceMul, Nat.reduceLT, Nat.reduceLeDiff, Nat.reduceSub, Nat.reduceDiv, Nat.reduceBEq, Nat.reduceBneDiff, Nat.reduceBeqDiff, h1, h6]
    refine fin d q hq1 (by omega) ?_
    simp (maxSteps := 1000000) (disch := omega) only [push_cast, go_sem, wpS_tt, wpS_tf, wpS_ft, wpS_ff, wpCond_tt, wpCond_ff, Nat.reducePow, Int.reduceEq, Int.reduceLT, Int.reduceLE, Int.reduceAdd, Int.reduceSub, Int.reduceMul, Int.reduceToNat, Int.reduceBEq, Int.reduceBNe, ↓reduceIte, reduceCtorEq, Nat.reduceEqDiff, Nat.reduceAdd, Nat.reduceMul, Nat.reduceLT, Nat.reduceLeDiff, Nat.reduceSub, Nat.reduceDiv, Nat.reduceBEq, Nat.reduceBneDiff, Nat.reduceBeqDiff]
  all_goals
    simp (maxSteps := 1000000) (disch := omega) only [push_cast, go_sem, wpS_tt, wpS_tf, wpS_ft, wpS_ff, wpCond_tt, wpCond_ff, Nat.reducePow, Int.reduceEq, Int.reduceLT, Int.reduceLE, Int.reduceAdd, Int.reduceSub, Int.reduceMul, Int.reduceToNat, Int.reduceBEq, Int.reduceBNe, ↓reduceIte, reduceCtorEq, Nat.reduceEqDiff, Nat.reduceAdd, Nat.reduceMul, Nat.reduceLT, Nat.reduceLeDiff, Nat.reduceSub, Nat.reduceDiv, Nat.reduceBEq, Nat.reduceBneDiff, Nat.reduceBeqDiff, h1, h6]
    refine callR.rd (pick_rd bs hb g q (by omega) 3 (by omega)) rfl rfl rfl ?_
    rintro r o' ⟨v, rfl, hv0, hv1, _, rfl⟩
    have hv : v < 3 := hv1 (by omega)
    simp (maxSteps := 1000000) (disch := omega) only [push_cast, go_sem, wpS_tt, wpS_tf, wpS_ft, wpS_ff, wpCond_tt, wpCond_ff, Nat.reducePow, Int.reduceEq, Int.reduceLT, Int.reduceLE, Int.reduceAdd, Int.reduceSub, Int.reduceMul, Int.reduceToNat, Int.reduceBEq, Int.reduceBNe, ↓reduceIte, reduceCtorEq, Nat.reduceEqDiff, Nat.reduceAdd, Nat.reduceMul, Nat.reduceLT, Nat.reduceLeDiff, Nat.reduceSub, Nat.reduceDiv, Nat.reduceBEq, Nat.reduceBneDiff, Nat.reduceBeqDiff]
    refine fin ⟨d.k, d.p, 1 + v⟩ (q + 1) (by omega) (by omega) ?_
    simp (maxSteps := 1000000) (disch := omega) only [push_cast, go_sem, wpS_tt, wpS_tf, wpS_ft, wpS_ff, wpCond_tt, wpCond_ff, Nat.reducePow, Int.reduceEq, Int.reduceLT, Int.reduceLE, Int.reduceAdd, Int.reduceSub, Int.reduceMul, Int.reduceToNat, Int.reduceBEq, Int.reduceBNe, ↓reduceIte, reduceCtorEq, Nat.reduceEqDiff, Nat.reduceAdd, Nat.reduceMul, Nat.reduceLT, Nat.reduceLeDiff, Nat.reduceSub, Nat.reduceDiv, Nat.reduceBEq, Nat.reduceBneDiff, Nat.reduceBeqDiff]

theorem l71Do_pl (bs : List Int) (hb : Bytes bs) (g p : Nat) (hp : p < 2 ^ 29) (n : Int) (hn : n < 2 ^ 30) : Fr Try.prog 86 [.int .i64 n] g (rdO bs g p) (fun r o' => (∃ d : Do, r = d.V) ∧ ∃ q, p ≤ q ∧ q ≤ p + 3 ∧ o' = rdO bs g q) :=
  (l71Do_rd bs hb g p hp n hn).mono (by rintro r o' ⟨d, h1, h2⟩; exact ⟨⟨d, h1⟩, h2⟩)
theorem l71Steps_fn (p : Prog) (hp : p.length < 2 ^ 10) (hl : ∀ l ∈ p, l.length < 2 ^ 10) : Fp Try.prog 88 [progV p] (.int .i64 (stepsP p)) := by
  have hb : ∀ i, stepsP (p.take i) ≤ 2 ^ 10 * i := by
    intro i
    induction i with
    | zero => simp [stepsP]
    | succ i ih =>
      cases he : p[i]? with
      | none => rw [List.take_add_one, he]; simp [stepsP] at ih ⊢; omega
      | some l =>
        have := hl l (List.mem_of_getElem? he)
        have h2 := (take_all he).2.1
        omega
  refine Fc.start (S := []) Try.func88 Try.ntmps88 Try.results88 rfl (by decide) rfl (by kernel_rfl) ?_
  simp (maxSteps := 1000000) (disch := omega) only [push_cast, go_sem, wpS_tt, wpS_tf, wpS_ft, wpS_ff, wpCond_tt, wpCond_ff, Nat.reducePow, Int.reduceEq, Int.reduceLT, Int.reduceLE, Int.reduceAdd, Int.reduceSub, Int.reduceMul, Int.reduceToNat, Int.reduceBEq, Int.reduceBNe, ↓reduceIte, reduceCtorEq, Nat.reduceEqDiff, Nat.reduceAdd, Nat.reduceMul, Nat.reduceLT, Nat.reduceLeDiff, Nat.reduceSub, Nat.reduceDiv, Nat.reduceBEq, Nat.reduceBneDiff, Nat.reduceBeqDiff, progV_eq]
  intro g
  refine Sat.loop (σ := Nat) (fun i => upd (upd (upd noT 1 (.ptr 1 [] 0 0 g 1)) 4 (.int .i64 i)) 3 (.int .i64 (stepsP (p.take i)))) (fun _ => noM.set 1 (boxP p g))
    (fun i => i ≤ p.length) (fun i => p.length - i) 0 (by simp) ?_ ?_
  · (refine Less.start ?_; repeat (first | exact LessO.nil | exact LessO.all | refine LessO.skip (by decide) ?_ | refine LessO.upd ?_ ?_ | refine LessO.set ?_ ?_)) <;> (try simp (maxSteps := 1000000) (disch := omega) only [push_cast, go_sem, wpS_tt, wpS_tf, wpS_ft, wpS_ff, wpCond_tt, wpCond_ff, Nat.reducePow, Int.reduceEq, Int.reduceLT, Int.reduceLE, Int.reduceAdd, Int.reduceSub, Int.reduceMul, Int.reduceToNat, Int.reduceBEq, Int.reduceBNe, ↓reduceIte, reduceCtorEq, Nat.reduceEqDiff, Nat.reduceAdd, Nat.reduceMul, Nat.reduceLT, Nat.reduceLeDiff, Nat.reduceSub, Nat.reduceDiv, Nat.reduceBEq, Nat.reduceBneDiff, Nat.reduceBeqDiff])
    all_goals simp [stepsP, boxP]
  rintro i hi J hJ
  refine Sat.of (S := []) (by kernel_rfl) ?_
  have hbi := hb i
  rcases Nat.lt_or_ge i p.length with hlt | hge
  · obtain ⟨l, he⟩ : ∃ l, p[i]? = some l := ⟨_, List.getElem?_eq_getElem hlt⟩
    have hln := hl l (List.mem_of_getElem? he)
    obtain ⟨t1, t2, t3⟩ := take_all he
    simp (maxSteps := 1000000) (disch := omega) only [push_cast, go_sem, wpS_tt, wpS_tf, wpS_ft, wpS_ff, wpCond_tt, wpCond_ff, Nat.reducePow, Int.reduceEq, Int.reduceLT, Int.reduceLE, Int.reduceAdd, Int.reduceSub, Int.reduceMul, Int.reduceToNat, Int.reduceBEq, Int.reduceBNe, ↓reduceIte, reduceCtorEq, Nat.reduceEqDiff, Nat.reduceAdd, Nat.reduceMul, Nat.reduceLT, Nat.reduceLeDiff, Nat.reduceSub, Nat.reduceDiv, Nat.reduceBEq, Nat.reduceBneDiff, Nat.reduceBeqDiff, he, hlt, boxP_eq, thrV_eq]
    refine hJ (i + 1) _ _ (by omega) (by omega) ?_
    (refine Less.start ?_; repeat (first | exact LessO.nil | exact LessO.all | refine LessO.skip (by decide) ?_ | refine LessO.upd ?_ ?_ | refine LessO.set ?_ ?_)) <;> (try simp (maxSteps := 1000000) (disch := omega) only [push_cast, go_sem, wpS_tt, wpS_tf, wpS_ft, wpS_ff, wpCond_tt, wpCond_ff, Nat.reducePow, Int.reduceEq, Int.reduceLT, Int.reduceLE, Int.reduceAdd, Int.reduceSub, Int.reduceMul, Int.reduceToNat, Int.reduceBEq, Int.reduceBNe, ↓reduceIte, reduceCtorEq, Nat.reduceEqDiff, Nat.reduceAdd, Nat.reduceMul, Nat.reduceLT, Nat.reduceLeDiff, Nat.reduceSub, Nat.reduceDiv, Nat.reduceBEq, Nat.reduceBneDiff, Nat.reduceBeqDiff])
    · rfl
    · simp [t2]
  · have : i = p.length := by omega
    subst this
    simp (maxSteps := 1000000) (disch := omega) only [push_cast, go_sem, wpS_tt, wpS_tf, wpS_ft, wpS_ff, wpCond_tt, wpCond_ff, Nat.reducePow, Int.reduceEq, Int.reduceLT, Int.reduceLE, Int.reduceAdd, Int.reduceSub, Int.reduceMul, Int.reduceToNat, Int.reduceBEq, Int.reduceBNe, ↓reduceIte, reduceCtorEq, Nat.reduceEqDiff, Nat.reduceAdd, Nat.reduceMul, Nat.reduceLT, Nat.reduceLeDiff, Nat.reduceSub, Nat.reduceDiv, Nat.reduceBEq, Nat.reduceBneDiff, Nat.reduceBeqDiff, boxP_eq]

structure ThS where
  l : List Do
  q : Nat
  n : Nat
  γ : Option Nat
  c : Nat
theorem l71Thread_rd (bs : List Int) (hb : Bytes bs) (g p : Nat) (hp : p < 2 ^ 28) (most : Int) (hm : 0 ≤ most) (hm2 : most < 1000) (n : Int) (hn : n < 2 ^ 30) : FrR Try.prog 87 [.int .i64 most, .int .i64 n] g (rdO bs g p)
    (fun es o' => ∃ l : List Do, es = l.map Do.V ∧ l.length ≤ most ∧ ∃ q, p ≤ q ∧ q ≤ p + 3001 ∧ o' = rdO bs g q) 70 := by
  refine FrR.of 6 (by decide) ?_
  refine Fc.start (S := []) Try.func87 Try.ntmps87 Try.results87 rfl (by decide) rfl (by kernel_rfl) ?_
  simp (maxSteps := 1000000) (disch := omega) only [push_cast, go_sem, wpS_tt, wpS_tf, wpS_ft, wpS_ff, wpCond_tt, wpCond_ff, Nat.reducePow, Int.reduceEq, Int.reduceLT, Int.reduceLE, Int.reduceAdd, Int.reduceSub, Int.reduceMul, Int.reduceToNat, Int.reduceBEq, Int.reduceBNe, ↓reduceIte, reduceCtorEq, Nat.reduceEqDiff, Nat.reduceAdd, Nat.reduceMul, Nat.reduceLT, Nat.reduceLeDiff, Nat.reduceSub, Nat.reduceDiv, Nat.reduceBEq, Nat.reduceBneDiff, Nat.reduceBeqDiff]
  intro g1
  refine callR.rd (pick_rd bs hb g p (by omega) (most + 1) (by omega)) rfl rfl rfl ?_
  rintro r o' ⟨v, rfl, hv0, hv1, _, rfl⟩
  have hv := hv1 (by omega)
  obtain ⟨m, rfl⟩ := Int.eq_ofNat_of_zero_le hv0
  simp (maxSteps := 1000000) (disch := omega) only [push_cast, go_sem, wpS_tt, wpS_tf, wpS_ft, wpS_ff, wpCond_tt, wpCond_ff, Nat.reducePow, Int.reduceEq, Int.reduceLT, Int.reduceLE, Int.reduceAdd, Int.reduceSub, Int.reduceMul, Int.reduceToNat, Int.reduceBEq, Int.reduceBNe, ↓reduceIte, reduceCtorEq, Nat.reduceEqDiff, Nat.reduceAdd, Nat.reduceMul, Nat.reduceLT, Nat.reduceLeDiff, Nat.reduceSub, Nat.reduceDiv, Nat.reduceBEq, Nat.reduceBneDiff, Nat.reduceBeqDiff]
  refine Sat.loop (σ := ThS) (fun x => upd (upd (upd (upd noT 0 (.ptr 0 [] 0 0 g 2)) 2 (.int .i64 n)) 7 (.msl 7 [] x.γ x.l.length x.c)) 8 (.int .i64 x.n))
    (fun x => (noM.set 0 (rdO bs g x.q)).set 7 (.own 70 x.γ x.c (x.l.map Do.V)))
    (fun x => (x.l.length + x.n : Int) ≤ most ∧ p ≤ x.q ∧ x.q ≤ p + 1 + 3 * x.l.length) (fun x => x.n) ⟨[], p + 1, m, some g1, 0⟩ (by simp; omega) ?_ ?_
  · (refine Less.start ?_; repeat (first | exact LessO.nil | exact LessO.all | refine LessO.skip (by decide) ?_ | refine LessO.upd ?_ ?_ | refine LessO.set ?_ ?_)) <;> (try simp (maxSteps := 1000000) (disch := omega) only [push_cast, go_sem, wpS_tt, wpS_tf, wpS_ft, wpS_ff, wpCond_tt, wpCond_ff, Nat.reducePow, Int.reduceEq, Int.reduceLT, Int.reduceLE, Int.reduceAdd, Int.reduceSub, Int.reduceMul, Int.reduceToNat, Int.reduceBEq, Int.reduceBNe, ↓reduceIte, reduceCtorEq, Nat.reduceEqDiff, Nat.reduceAdd, Nat.reduceMul, Nat.reduceLT, Nat.reduceLeDiff, Nat.reduceSub, Nat.reduceDiv, Nat.reduceBEq, Nat.reduceBneDiff, Nat.reduceBeqDiff])
    all_goals rfl
  rintro ⟨l, q, k, γ, c⟩ ⟨h1, h2, h3⟩ J hJ
  refine Sat.of (S := []) (by kernel_rfl) ?_
  simp only at h1 h2 h3 hJ
  cases k with
  | zero =>
    simp (maxSteps := 1000000) (disch := omega) only [push_cast, go_sem, wpS_tt, wpS_tf, wpS_ft, wpS_ff, wpCond_tt, wpCond_ff, Nat.reducePow, Int.reduceEq, Int.reduceLT, Int.reduceLE, Int.reduceAdd, Int.reduceSub, Int.reduceMul, Int.reduceToNat, Int.reduceBEq, Int.reduceBNe, ↓reduceIte, reduceCtorEq, Nat.reduceEqDiff, Nat.reduceAdd, Nat.reduceMul, Nat.reduceLT, Nat.reduceLeDiff, Nat.reduceSub, Nat.reduceDiv, Nat.reduceBEq, Nat.reduceBneDiff, Nat.reduceBeqDiff]
    refine ⟨_, ?_, rdO bs g q, γ, c, l.map Do.V, ⟨l, rfl, by omega, q, h2, by omega, rfl⟩, by rw [List.length_map], rfl⟩
    ((repeat (first | exact Sub.no | refine Sub.set ?_ ?_)) <;> (try simp (disch := omega) only [push_cast, go_sem, wpS_tt, wpS_tf, wpS_ft, wpS_ff, wpCond_tt, wpCond_ff, Nat.reducePow, Int.reduceEq, Int.reduceLT, Int.reduceLE, Int.reduceAdd, Int.reduceSub, Int.reduceMul, Int.reduceToNat, Int.reduceBEq, Int.reduceBNe, ↓reduceIte, reduceCtorEq, Nat.reduceEqDiff, Nat.reduceAdd, Nat.reduceMul, Nat.reduceLT, Nat.reduceLeDiff, Nat.reduceSub, Nat.reduceDiv, Nat.reduceBEq, Nat.reduceBneDiff, Nat.reduceBeqDiff]))
  | succ k =>
    have hk : (0 : Int) < (k : Int) + 1 := by omega
    simp (maxSteps := 1000000) (disch := omega) only [push_cast, go_sem, wpS_tt, wpS_tf, wpS_ft, wpS_ff, wpCond_tt, wpCond_ff, Nat.reducePow, Int.reduceEq, Int.reduceLT, Int.reduceLE, Int.reduceAdd, Int.reduceSub, Int.reduceMul, Int.reduceToNat, Int.reduceBEq, Int.reduceBNe, ↓reduceIte, reduceCtorEq, Nat.reduceEqDiff, Nat.reduceAdd, Nat.reduceMul, Nat.reduceLT, Nat.reduceLeDiff, Nat.reduceSub, Nat.reduceDiv, Nat.reduceBEq, Nat.reduceBneDiff, Nat.reduceBeqDiff, hk]
    refine callR.rd (l71Do_rd bs hb g q (by omega) n hn) rfl rfl rfl ?_
    rintro r o' ⟨d, rfl, q', hq1, hq2, rfl⟩
    simp (maxSteps := 1000000) (disch := omega) only [push_cast, go_sem, wpS_tt, wpS_tf, wpS_ft, wpS_ff, wpCond_tt, wpCond_ff, Nat.reducePow, Int.reduceEq, Int.reduceLT, Int.reduceLE, Int.reduceAdd, Int.reduceSub, Int.reduceMul, Int.reduceToNat, Int.reduceBEq, Int.reduceBNe, ↓reduceIte, reduceCtorEq, Nat.reduceEqDiff, Nat.reduceAdd, Nat.reduceMul, Nat.reduceLT, Nat.reduceLeDiff, Nat.reduceSub, Nat.reduceDiv, Nat.reduceBEq, Nat.reduceBneDiff, Nat.reduceBeqDiff, Do.V_eq]
    intro g2
    refine ⟨by omega, fun γ' c' _ => hJ ⟨l ++ [d], q', k, γ', c'⟩ _ _ ?_ (by simp only; omega) ?_⟩
    · simp; omega
    · (refine Less.start ?_; repeat (first | exact LessO.nil | exact LessO.all | refine LessO.skip (by decide) ?_ | refine LessO.upd ?_ ?_ | refine LessO.set ?_ ?_)) <;> (try simp (maxSteps := 1000000) (disch := omega) only [push_cast, go_sem, wpS_tt, wpS_tf, wpS_ft, wpS_ff, wpCond_tt, wpCond_ff, Nat.reducePow, Int.reduceEq, Int.reduceLT, Int.reduceLE, Int.reduceAdd, Int.reduceSub, Int.reduceMul, Int.reduceToNat, Int.reduceBEq, Int.reduceBNe, ↓reduceIte, reduceCtorEq, Nat.reduceEqDiff, Nat.reduceAdd, Nat.reduceMul, Nat.reduceLT, Nat.reduceLeDiff, Nat.reduceSub, Nat.reduceDiv, Nat.reduceBEq, Nat.reduceBneDiff, Nat.reduceBeqDiff])
      all_goals first | rfl | omega | simp [Do.V]

def thrQ (args : List V) (es : List V) : Prop := ∃ (l : List Do) (most : Int), args[1]? = some (.int .i64 most) ∧ es = l.map Do.V ∧ l.length ≤ most
theorem l71Thread_pl (bs : List Int) (hb : Bytes bs) (g p : Nat) (hp : p < 2 ^ 28) (most : Int) (hm : 0 ≤ most) (hm2 : most < 1000) (n : Int) (hn : n < 2 ^ 30) : FrR Try.prog 87 [.int .i64 most, .int .i64 n] g (rdO bs g p)
    (fun es o' => thrQ (.ptr 0 [] 0 0 g 2 :: [.int .i64 most, .int .i64 n]) es ∧ ∃ q, p ≤ q ∧ q ≤ p + 3001 ∧ o' = rdO bs g q) 70 :=
  (l71Thread_rd bs hb g p hp most hm hm2 n hn).mono (by rintro r o' ⟨l, h1, h2, h3⟩; exact ⟨⟨l, most, rfl, h1, h2⟩, h3⟩)

theorem l71Reader_rd (bs : List Int) (hb : Bytes bs) (g p : Nat) (hp : p < 2 ^ 28) (n : Int) (hn : n < 2 ^ 30) : FrR Try.prog 84 [.int .i64 n] g (rdO bs g p)
    (fun es o' => ∃ l : List Do, es = l.map Do.V ∧ l.length = 4 ∧ ∃ q, p ≤ q ∧ q ≤ p + 6 ∧ o' = rdO bs g q) 70 := by
  refine FrR.of 4 (by decide) ?_
  refine Fc.start (S := []) Try.func84 Try.ntmps84 Try.results84 rfl (by decide) rfl (by kernel_rfl) ?_
  simp (maxSteps := 1000000) (disch := omega) only [push_cast, go_sem, wpS_tt, wpS_tf, wpS_ft, wpS_ff, wpCond_tt, wpCond_ff, Nat.reducePow, Int.reduceEq, Int.reduceLT, Int.reduceLE, Int.reduceAdd, Int.reduceSub, Int.reduceMul, Int.reduceToNat, Int.reduceBEq, Int.reduceBNe, ↓reduceIte, reduceCtorEq, Nat.reduceEqDiff, Nat.reduceAdd, Nat.reduceMul, Nat.reduceLT, Nat.reduceLeDiff, Nat.reduceSub, Nat.reduceDiv, Nat.reduceBEq, Nat.reduceBneDiff, Nat.reduceBeqDiff]
  refine callR.rd (pick_rd bs hb g p (by omega) n hn) rfl rfl rfl ?_
  rintro r o' ⟨v, rfl, _, _, _, rfl⟩
  simp (maxSteps := 1000000) (disch := omega) only [push_cast, go_sem, wpS_tt, wpS_tf, wpS_ft, wpS_ff, wpCond_tt, wpCond_ff, Nat.reducePow, Int.reduceEq, Int.reduceLT, Int.reduceLE, Int.reduceAdd, Int.reduceSub, Int.reduceMul, Int.reduceToNat, Int.reduceBEq, Int.reduceBNe, ↓reduceIte, reduceCtorEq, Nat.reduceEqDiff, Nat.reduceAdd, Nat.reduceMul, Nat.reduceLT, Nat.reduceLeDiff, Nat.reduceSub, Nat.reduceDiv, Nat.reduceBEq, Nat.reduceBneDiff, Nat.reduceBeqDiff]
  refine callR.rd (pick_rd bs hb g (p + 1) (by omega) n hn) rfl rfl rfl ?_
  rintro r o' ⟨v2, rfl, _, _, _, rfl⟩
  simp (maxSteps := 1000000) (disch := omega) only [push_cast, go_sem, wpS_tt, wpS_tf, wpS_ft, wpS_ff, wpCond_tt, wpCond_ff, Nat.reducePow, Int.reduceEq, Int.reduceLT, Int.reduceLE, Int.reduceAdd, Int.reduceSub, Int.reduceMul, Int.reduceToNat, Int.reduceBEq, Int.reduceBNe, ↓reduceIte, reduceCtorEq, Nat.reduceEqDiff, Nat.reduceAdd, Nat.reduceMul, Nat.reduceLT, Nat.reduceLeDiff, Nat.reduceSub, Nat.reduceDiv, Nat.reduceBEq, Nat.reduceBneDiff, Nat.reduceBeqDiff]
  intro g1
  refine callR.rd (pick_rd bs hb g (p + 2) (by omega) 3 (by omega)) rfl rfl rfl ?_
  rintro r o' ⟨v3, rfl, _, _, _, rfl⟩
  simp (maxSteps := 1000000) (disch := omega) only [push_cast, go_sem, wpS_tt, wpS_tf, wpS_ft, wpS_ff, wpCond_tt, wpCond_ff, Nat.reducePow, Int.reduceEq, Int.reduceLT, Int.reduceLE, Int.reduceAdd, Int.reduceSub, Int.reduceMul, Int.reduceToNat, Int.reduceBEq, Int.reduceBNe, ↓reduceIte, reduceCtorEq, Nat.reduceEqDiff, Nat.reduceAdd, Nat.reduceMul, Nat.reduceLT, Nat.reduceLeDiff, Nat.reduceSub, Nat.reduceDiv, Nat.reduceBEq, Nat.reduceBneDiff, Nat.reduceBeqDiff]
  have fin : ∀ {M : Mem} (d : Do) (q : Nat), p ≤ q → q ≤ p + 6 → M 0 = some (rdO bs g q) → M 4 = some (.own 70 (some g1) 4 [.agg [.int .i64 7, .int .i64 0, .int .i64 0], .agg [.int .i64 2, .int .i64 v, .int .i64 0], .agg [.int .i64 d.k, .int .i64 d.p, .int .i64 d.v], .agg [.int .i64 8, .int .i64 0, .int .i64 0]]) →
      ∃ m, Sub m M ∧ ∃ o' γ cap es, (∃ l : List Do, es = l.map Do.V ∧ l.length = 4 ∧ ∃ q, p ≤ q ∧ q ≤ p + 6 ∧ o' = rdO bs g q) ∧ V.msl 4 [] (some g1) 4 4 = .msl 4 [] γ es.length cap ∧ m = (noM.set 0 o').set 4 (.own 70 γ cap es) :=
    fun d q h1 h2 h3 h4 => ⟨_, Sub.set (Sub.set Sub.no h3) h4, _, some g1, 4, _, ⟨[⟨7, 0, 0⟩, ⟨2, v, 0⟩, d, ⟨8, 0, 0⟩], rfl, rfl, q, h1, h2, rfl⟩, rfl, rfl⟩
  refine ⟨fun hv => ?_, fun hv => ?_⟩
  · refine callR.rd (l71Do_rd bs hb g (p + 3) (by omega) n hn) rfl rfl rfl ?_
    rintro r o' ⟨d, rfl, q, hq1, hq2, rfl⟩
    simp (maxSteps := 1000000) (disch := omega) only [push_cast, go_sem, wpS_tt, wpS_tf, wpS_ft, wpS_ff, wpCond_tt, wpCond_ff, Nat.reducePow, Int.reduceEq, Int.reduceLT, Int.reduceLE, Int.reduceAdd, Int.reduceSub, Int.reduceMul, Int.reduceToNat, Int.reduceBEq, Int.reduceBNe, ↓reduceIte, reduceCtorEq, Nat.reduceEqDiff, Nat.reduceAdd, Nat.reduceMul, Nat.reduceLT, Nat.reduceLeDiff, Nat.reduceSub, Nat.reduceDiv, Nat.reduceBEq, Nat.reduceBneDiff, Nat.reduceBeqDiff, Do.V_eq]
    refine fin d q (by omega) (by omega) ?_ ?_ <;> simp (maxSteps := 1000000) (disch := omega) only [push_cast, go_sem, wpS_tt, wpS_tf, wpS_ft, wpS_ff, wpCond_tt, wpCond_ff, Nat.reducePow, Int.reduceEq, Int.reduceLT, Int.reduceLE, Int.reduceAdd, Int.reduceSub, Int.reduceMul, Int.reduceToNat, Int.reduceBEq, Int.reduceBNe, ↓reduceIte, reduceCtorEq, Nat.reduceEqDiff, Nat.reduceAdd, Nat.reduceMul, Nat.reduceLT, Nat.reduceLeDiff, Nat.reduceSub, Nat.reduceDiv, Nat.reduceBEq, Nat.reduceBneDiff, Nat.reduceBeqDiff]
  · refine fin ⟨2, v2, 0⟩ (p + 3) (by omega) (by omega) ?_ ?_ <;> simp (maxSteps := 1000000) (disch := omega) only [push_cast, go_sem, wpS_tt, wpS_tf, wpS_ft, wpS_ff, wpCond_tt, wpCond_ff, Nat.reducePow, Int.reduceEq, Int.reduceLT, Int.reduceLE, Int.reduceAdd, Int.reduceSub, Int.reduceMul, Int.reduceToNat, Int.reduceBEq, Int.reduceBNe, ↓reduceIte, reduceCtorEq, Nat.reduceEqDiff, Nat.reduceAdd, Nat.reduceMul, Nat.reduceLT, Nat.reduceLeDiff, Nat.reduceSub, Nat.reduceDiv, Nat.reduceBEq, Nat.reduceBneDiff, Nat.reduceBeqDiff]

theorem l71Waiter_rd (bs : List Int) (hb : Bytes bs) (g p : Nat) (hp : p < 2 ^ 28) (n : Int) (hn : n < 2 ^ 30) : FrR Try.prog 85 [.int .i64 n] g (rdO bs g p)
    (fun es o' => ∃ l : List Do, es = l.map Do.V ∧ l.length = 3 ∧ ∃ q, p ≤ q ∧ q ≤ p + 5 ∧ o' = rdO bs g q) 70 := by
  refine FrR.of 4 (by decide) ?_
  refine Fc.start (S := []) Try.func85 Try.ntmps85 Try.results85 rfl (by decide) rfl (by kernel_rfl) ?_
  simp (maxSteps := 1000000) (disch := omega) only [push_cast, go_sem, wpS_tt, wpS_tf, wpS_ft, wpS_ff, wpCond_tt, wpCond_ff, Nat.reducePow, Int.reduceEq, Int.reduceLT, Int.reduceLE, Int.reduceAdd, Int.reduceSub, Int.reduceMul, Int.reduceToNat, Int.reduceBEq, Int.reduceBNe, ↓reduceIte, reduceCtorEq, Nat.reduceEqDiff, Nat.reduceAdd, Nat.reduceMul, Nat.reduceLT, Nat.reduceLeDiff, Nat.reduceSub, Nat.reduceDiv, Nat.reduceBEq, Nat.reduceBneDiff, Nat.reduceBeqDiff]
  refine Sat.drawnE [(2, 8), (4, 8), (8, 10), (8, 15), (12, 15), (8, 17), (12, 17)] [] [] (rdTab bs g [(26, 1, pickQ)] []) (by kernel_rfl) (by kernel_rfl) ?_
  simp (maxSteps := 1000000) (disch := omega) only [push_cast, go_sem, wpS_tt, wpS_tf, wpS_ft, wpS_ff, wpCond_tt, wpCond_ff, Nat.reducePow, Int.reduceEq, Int.reduceLT, Int.reduceLE, Int.reduceAdd, Int.reduceSub, Int.reduceMul, Int.reduceToNat, Int.reduceBEq, Int.reduceBNe, ↓reduceIte, reduceCtorEq, Nat.reduceEqDiff, Nat.reduceAdd, Nat.reduceMul, Nat.reduceLT, Nat.reduceLeDiff, Nat.reduceSub, Nat.reduceDiv, Nat.reduceBEq, Nat.reduceBneDiff, Nat.reduceBeqDiff]
  refine runD_pl (pick_pl bs hb g p (by omega) n hn) rfl rfl rfl rfl pickQ_ne ?_ ?_
  · rfl
  rintro r q hq1 hq2 ⟨n', v, hn', rfl, hv⟩
  simp (maxSteps := 1000000) (disch := omega) only [push_cast, go_sem, wpS_tt, wpS_tf, wpS_ft, wpS_ff, wpCond_tt, wpCond_ff, Nat.reducePow, Int.reduceEq, Int.reduceLT, Int.reduceLE, Int.reduceAdd, Int.reduceSub, Int.reduceMul, Int.reduceToNat, Int.reduceBEq, Int.reduceBNe, ↓reduceIte, reduceCtorEq, Nat.reduceEqDiff, Nat.reduceAdd, Nat.reduceMul, Nat.reduceLT, Nat.reduceLeDiff, Nat.reduceSub, Nat.reduceDiv, Nat.reduceBEq, Nat.reduceBneDiff, Nat.reduceBeqDiff]
  refine runD_pl (pick_pl bs hb g q (by omega) 2 (by omega)) rfl rfl rfl rfl pickQ_ne ?_ ?_
  · rfl
  rintro r q2 hq3 hq4 ⟨n2, v2, hn2, rfl, hv2⟩
  cases hn2
  have hv21 := hv2.2.1 (by omega)
  have hv20 := hv2.1
  simp (maxSteps := 1000000) (disch := omega) only [push_cast, go_sem, wpS_tt, wpS_tf, wpS_ft, wpS_ff, wpCond_tt, wpCond_ff, Nat.reducePow, Int.reduceEq, Int.reduceLT, Int.reduceLE, Int.reduceAdd, Int.reduceSub, Int.reduceMul, Int.reduceToNat, Int.reduceBEq, Int.reduceBNe, ↓reduceIte, reduceCtorEq, Nat.reduceEqDiff, Nat.reduceAdd, Nat.reduceMul, Nat.reduceLT, Nat.reduceLeDiff, Nat.reduceSub, Nat.reduceDiv, Nat.reduceBEq, Nat.reduceBneDiff, Nat.reduceBeqDiff]
  intro g1
  refine runD_pl (pick_pl bs hb g q2 (by omega) 2 (by omega)) rfl rfl rfl rfl pickQ_ne ?_ ?_
  · simp (maxSteps := 1000000) (disch := omega) only [push_cast, go_sem, wpS_tt, wpS_tf, wpS_ft, wpS_ff, wpCond_tt, wpCond_ff, Nat.reducePow, Int.reduceEq, Int.reduceLT, Int.reduceLE, Int.reduceAdd, Int.reduceSub, Int.reduceMul, Int.reduceToNat, Int.reduceBEq, Int.reduceBNe, ↓reduceIte, reduceCtorEq, Nat.reduceEqDiff, Nat.reduceAdd, Nat.reduceMul, Nat.reduceLT, Nat.reduceLeDiff, Nat.reduceSub, Nat.reduceDiv, Nat.reduceBEq, Nat.reduceBneDiff, Nat.reduceBeqDiff]
  rintro r q3 hq5 hq6 ⟨n3, v3, hn3, rfl, hv3⟩
  cases hn3
  have hv31 := hv3.2.1 (by omega)
  obtain ⟨m, rfl⟩ := Int.eq_ofNat_of_zero_le hv3.1
  obtain ⟨z, hz⟩ := ints_get (l := [.int .i64 1, .int .i64 6]) (n := m) rfl (by simp; omega)
  simp (maxSteps := 1000000) (disch := omega) only [push_cast, go_sem, wpS_tt, wpS_tf, wpS_ft, wpS_ff, wpCond_tt, wpCond_ff, Nat.reducePow, Int.reduceEq, Int.reduceLT, Int.reduceLE, Int.reduceAdd, Int.reduceSub, Int.reduceMul, Int.reduceToNat, Int.reduceBEq, Int.reduceBNe, ↓reduceIte, reduceCtorEq, Nat.reduceEqDiff, Nat.reduceAdd, Nat.reduceMul, Nat.reduceLT, Nat.reduceLeDiff, Nat.reduceSub, Nat.reduceDiv, Nat.reduceBEq, Nat.reduceBneDiff, Nat.reduceBeqDiff, hz]
  refine ⟨by omega, ?_⟩
  refine runD_pl (pick_pl bs hb g q3 (by omega) n hn) rfl rfl rfl rfl pickQ_ne ?_ ?_
  · simp (maxSteps := 1000000) (disch := omega) only [push_cast, go_sem, wpS_tt, wpS_tf, wpS_ft, wpS_ff, wpCond_tt, wpCond_ff, Nat.reducePow, Int.reduceEq, Int.reduceLT, Int.reduceLE, Int.reduceAdd, Int.reduceSub, Int.reduceMul, Int.reduceToNat, Int.reduceBEq, Int.reduceBNe, ↓reduceIte, reduceCtorEq, Nat.reduceEqDiff, Nat.reduceAdd, Nat.reduceMul, Nat.reduceLT, Nat.reduceLeDiff, Nat.reduceSub, Nat.reduceDiv, Nat.reduceBEq, Nat.reduceBneDiff, Nat.reduceBeqDiff]
  rintro r q4 hq7 hq8 ⟨n4, v4, hn4, rfl, hv4⟩
  simp (maxSteps := 1000000) (disch := omega) only [push_cast, go_sem, wpS_tt, wpS_tf, wpS_ft, wpS_ff, wpCond_tt, wpCond_ff, Nat.reducePow, Int.reduceEq, Int.reduceLT, Int.reduceLE, Int.reduceAdd, Int.reduceSub, Int.reduceMul, Int.reduceToNat, Int.reduceBEq, Int.reduceBNe, ↓reduceIte, reduceCtorEq, Nat.reduceEqDiff, Nat.reduceAdd, Nat.reduceMul, Nat.reduceLT, Nat.reduceLeDiff, Nat.reduceSub, Nat.reduceDiv, Nat.reduceBEq, Nat.reduceBneDiff, Nat.reduceBeqDiff]
  refine runD_pl (pick_pl bs hb g q4 (by omega) 2 (by omega)) rfl rfl rfl rfl pickQ_ne ?_ ?_
  · simp (maxSteps := 1000000) (disch := omega) only [push_cast, go_sem, wpS_tt, wpS_tf, wpS_ft, wpS_ff, wpCond_tt, wpCond_ff, Nat.reducePow, Int.reduceEq, Int.reduceLT, Int.reduceLE, Int.reduceAdd, Int.reduceSub, Int.reduceMul, Int.reduceToNat, Int.reduceBEq, Int.reduceBNe, ↓reduceIte, reduceCtorEq, Nat.reduceEqDiff, Nat.reduceAdd, Nat.reduceMul, Nat.reduceLT, Nat.reduceLeDiff, Nat.reduceSub, Nat.reduceDiv, Nat.reduceBEq, Nat.reduceBneDiff, Nat.reduceBeqDiff]
  rintro r q5 hq9 hq10 ⟨n5, v5, hn5, rfl, hv5⟩
  cases hn5
  have hv51 := hv5.2.1 (by omega)
  have hv50 := hv5.1
  simp (maxSteps := 1000000) (disch := omega) only [push_cast, go_sem, wpS_tt, wpS_tf, wpS_ft, wpS_ff, wpCond_tt, wpCond_ff, Nat.reducePow, Int.reduceEq, Int.reduceLT, Int.reduceLE, Int.reduceAdd, Int.reduceSub, Int.reduceMul, Int.reduceToNat, Int.reduceBEq, Int.reduceBNe, ↓reduceIte, reduceCtorEq, Nat.reduceEqDiff, Nat.reduceAdd, Nat.reduceMul, Nat.reduceLT, Nat.reduceLeDiff, Nat.reduceSub, Nat.reduceDiv, Nat.reduceBEq, Nat.reduceBneDiff, Nat.reduceBeqDiff]
  intro g2
  refine ⟨_, ?_, rdO bs g q5, some g2, 3, [⟨1, v, 1 + v2⟩, ⟨9, 0, 0⟩, ⟨z, v4, 1 + v5⟩].map Do.V, ⟨_, rfl, rfl, q5, by omega, by omega, rfl⟩, rfl, rfl⟩
  ((repeat (first | exact Sub.no | refine Sub.set ?_ ?_)) <;> (try simp (disch := omega) only [push_cast, go_sem, wpS_tt, wpS_tf, wpS_ft, wpS_ff, wpCond_tt, wpCond_ff, Nat.reducePow, Int.reduceEq, Int.reduceLT, Int.reduceLE, Int.reduceAdd, Int.reduceSub, Int.reduceMul, Int.reduceToNat, Int.reduceBEq, Int.reduceBNe, ↓reduceIte, reduceCtorEq, Nat.reduceEqDiff, Nat.reduceAdd, Nat.reduceMul, Nat.reduceLT, Nat.reduceLeDiff, Nat.reduceSub, Nat.reduceDiv, Nat.reduceBEq, Nat.reduceBneDiff, Nat.reduceBeqDiff]))
  rfl
end Go.Proofs.Ytmmipjlogdggiaa
