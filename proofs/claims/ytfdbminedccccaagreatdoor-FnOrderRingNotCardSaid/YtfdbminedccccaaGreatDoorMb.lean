/-
  Contracts: what an event's value is; whether a way is ok. What must be ahead of what, by the program. What must be ahead of what, by the program: readers' events; all together. Rows of rows; calls that make rows; all orders of a list. Contracts: all that may be told of whom events read from; of the order at places. A row of rows is cloned. Contracts: all that may be told of the order at places. Contracts: all ways. How many ways there are at most; all ways of a program. Contracts of the reference: the step of an event, who writes, what is among numbers, what a copy stores. Contracts of the reference: the events of a program. Contracts of the reference: what an event reads or writes. Contracts of the reference: whether a way is one.
-/
import Derived.Test.YtfdbminedccccaaGreatDoorMa
import Derived.Test.YtfdbminedccccaaGreatDoorVx
/-! ## Contracts: what an event's value is; whether a way is ok -/
namespace Go.Proofs.YtfdbminedccccaaGreatDoor
open Go.RowKit
set_option linter.unusedSimpArgs false
set_option linter.unusedVariables false
set_option pp.maxSteps 3000

def lastRd (ds : List Do) : Nat → Nat
  | 0 => 0
  | a + 1 => match ds[a]? with | some d => if d.reads then a else lastRd ds a | none => lastRd ds a
theorem lastRd_spec {ds : List Do} : ∀ {a : Nat}, (∃ r d, r < a ∧ ds[r]? = some d ∧ d.reads = true) → lastRd ds a < a ∧ (∃ d, ds[lastRd ds a]? = some d ∧ d.reads = true) ∧ ∀ j d, lastRd ds a < j → j < a → ds[j]? = some d → d.reads = false
  | 0, ⟨r, d, h, _⟩ => absurd h (by omega)
  | a + 1, ⟨r, d, h1, h2, h3⟩ => by
    unfold lastRd
    cases ha : ds[a]? with
    | none =>
      have hra : r < a := by
        rcases Nat.lt_or_ge r a with h | h
        · exact h
        · have : r = a := by omega
          subst this; rw [ha] at h2; cases h2
      obtain ⟨k1, k2, k3⟩ := lastRd_spec ⟨r, d, hra, h2, h3⟩
      refine ⟨by dsimp only; omega, k2, fun j d' h4 h5 h6 => ?_⟩
      rcases Nat.lt_or_ge j a with h | h
      · exact k3 j d' h4 h h6
      · have : j = a := by omega
        subst this; rw [ha] at h6; cases h6
    | some d1 =>
      dsimp only
      cases hr : d1.reads
      · have hra : r < a := by
          rcases Nat.lt_or_ge r a with h | h
          · exact h
          · have : r = a := by omega
            subst this; rw [ha] at h2; cases h2; rw [hr] at h3; cases h3
        obtain ⟨k1, k2, k3⟩ := lastRd_spec ⟨r, d, hra, h2, h3⟩
        simp only [Bool.false_eq_true, if_false]
        refine ⟨by omega, k2, fun j d' h4 h5 h6 => ?_⟩
        rcases Nat.lt_or_ge j a with h | h
        · exact k3 j d' h4 h h6
        · have : j = a := by omega
          subst this; rw [ha] at h6; cases h6; exact hr
      · simp only [if_true]
        exact ⟨by omega, ⟨d1, ha, hr⟩, fun j d' h4 h5 => by omega⟩
def valI (ds : List Do) (fr : List Int) : Nat → Nat → Option Int
  | 0, _ => none
  | m + 1, a => match ds[a]? with
    | none => none
    | some d => if d.valued then some d.v else if d.k == 3 then valI ds fr m (lastRd ds a) else match fr[a]? with
      | none => none
      | some f => if f == -1 then some 0 else valI ds fr m f.toNat
def valR : Option Int → V
  | some v => .tuple [.int .i64 v, .bool true]
  | none => .tuple [.int .i64 0, .bool false]
/-- A copy stands behind a read. -/
def copyOk (ds : List Do) : Prop := ∀ (a : Nat) (d : Do), ds[a]? = some d → d.k = 3 → ∃ (r : Nat) (d' : Do), r < a ∧ ds[r]? = some d' ∧ d'.reads = true
/-- What is read was written. -/
def fromOk (ds : List Do) (fr : List Int) : Prop := ds.length ≤ fr.length ∧ ∀ (a : Nat) d (f : Int), ds[a]? = some d → fr[a]? = some f → d.reads = true → f = -1 ∨ ∃ (b : Nat) (d' : Do), f = b ∧ ds[b]? = some d' ∧ d'.writes = true
theorem value_fn (s : Sc) (x : Exe) (a : Nat) (hs : s.ds.length < 2 ^ 20) (he : s.es.length = s.ds.length) (hx : x.fr.length < 2 ^ 40) (hc : copyOk s.ds) (hf : fromOk s.ds x.fr) (ha : ∃ d, s.ds[a]? = some d ∧ d.uses = true) :
    Fp Tryz.prog 84 [s.V, x.V, .int .i64 a] (valR (valI s.ds x.fr s.ds.length a)) := by
  refine Fc.start (S := [12]) Tryz.func84 Tryz.ntmps84 Tryz.results84 rfl (by decide) rfl (by kernel_rfl) ?_
  simp (maxSteps := 1000000) (disch := omega) only [push_cast, go_sem, wpS_tt, wpS_tf, wpS_ft, wpS_ff, wpCond_tt, wpCond_ff, simprocAttr, Sc.V_eq, Exe.V_eq]
  intro g1 g2
  refine Sat.loop (σ := Nat × Nat) (fun k => upd (upd (upd (upd (upd noT 3 (.ptr 3 [] 0 0 g1 3)) 4 (.ptr 4 [] 0 0 g2 2)) 11 (.int .i64 s.es.length)) 12 (.int .i64 k.1)) 2 (.int .i64 k.2))
    (fun _ => (noM.set 3 (.own 57 (some g1) 1 [.agg [.sl (s.p.map thrV), .sl (s.es.map Evt.V), .sl (s.ds.map Do.V)]])).set 4 (.own 29 (some g2) 1 [.agg [.sl (x.fr.map (V.int .i64)), .sl (x.od.map intsV)]]))
    (fun k => k.1 ≤ s.ds.length ∧ (∃ d, s.ds[k.2]? = some d ∧ d.uses = true) ∧ valI s.ds x.fr (s.ds.length - k.1) k.2 = valI s.ds x.fr s.ds.length a) (fun k => s.ds.length - k.1) (0, a) ⟨by simp, ha, rfl⟩ ?_ ?_
  · (refine Less.start ?_; repeat (first | exact LessO.nil | exact LessO.all | refine LessO.skip (by decide) ?_ | refine LessO.upd ?_ ?_ | refine LessO.set ?_ ?_)) <;> (try simp (maxSteps := 1000000) (disch := omega) only [push_cast, go_sem, wpS_tt, wpS_tf, wpS_ft, wpS_ff, wpCond_tt, wpCond_ff, simprocAttr])
  rintro ⟨k, b⟩ ⟨hk, ⟨d, hd, hu⟩, hv⟩ J hJ
  refine Sat.of (S := []) (by kernel_rfl) ?_
  simp only at hk hd hv hJ
  have hb := (List.getElem?_eq_some_iff.1 hd).1
  have hbf : b < x.fr.length := by have := hf.1; omega
  obtain ⟨f, hfb⟩ : ∃ f, x.fr[b]? = some f := ⟨_, List.getElem?_eq_getElem hbf⟩
  rcases Nat.lt_or_ge k s.ds.length with hlt | hge
  · have hke : k < s.es.length := by omega
    obtain ⟨m, hm⟩ : ∃ m, s.ds.length - k = m + 1 := ⟨s.ds.length - k - 1, by omega⟩
    have hm2 : s.ds.length - (k + 1) = m := by omega
    rw [hm, valI, hd] at hv
    dsimp only at hv
    simp (maxSteps := 1000000) (disch := omega) only [push_cast, go_sem, wpS_tt, wpS_tf, wpS_ft, wpS_ff, wpCond_tt, wpCond_ff, simprocAttr, hd, hke, hb, Do.V_eq]
    intro g3
    refine callR.pure (valued_fn d) rfl rfl ?_
    cases hvd : d.valued
    rotate_left
    · simp (maxSteps := 1000000) (disch := omega) only [push_cast, go_sem, wpS_tt, wpS_tf, wpS_ft, wpS_ff, wpCond_tt, wpCond_ff, simprocAttr, Do.V_eq]
      rw [← hv, hvd]; rfl
    rw [hvd] at hv
    simp only [Bool.false_eq_true, if_false] at hv
    cases h3 : (d.k == 3)
    rotate_left
    · rw [h3] at hv
      simp only [if_true] at hv
      have h3' : d.k = 3 := by simpa using h3
      obtain ⟨r1, r2, r3⟩ := lastRd_spec (hc b d hd h3')
      simp (maxSteps := 1000000) (disch := omega) only [push_cast, go_sem, wpS_tt, wpS_tf, wpS_ft, wpS_ff, wpCond_tt, wpCond_ff, simprocAttr, h3, Do.V_eq]
      refine callR.pure (lastRead_fn s b _ hs (by omega) r1 r2 r3) rfl rfl ?_
      simp (maxSteps := 1000000) (disch := omega) only [push_cast, go_sem, wpS_tt, wpS_tf, wpS_ft, wpS_ff, wpCond_tt, wpCond_ff, simprocAttr]
      refine hJ (k + 1, lastRd s.ds b) _ _ ⟨by dsimp only; omega, ?_, by dsimp only; rw [hm2]; exact hv⟩ (by dsimp only; omega) ?_
      · obtain ⟨d', h1, h2⟩ := r2
        exact ⟨d', h1, by simp [Do.uses, h2]⟩
      (refine Less.start ?_; repeat (first | exact LessO.nil | exact LessO.all | refine LessO.skip (by decide) ?_ | refine LessO.upd ?_ ?_ | refine LessO.set ?_ ?_)) <;> (try simp (maxSteps := 1000000) (disch := omega) only [push_cast, go_sem, wpS_tt, wpS_tf, wpS_ft, wpS_ff, wpCond_tt, wpCond_ff, simprocAttr])
    · rw [h3] at hv
      simp only [Bool.false_eq_true, if_false, hfb] at hv
      have hrd : d.reads = true := by
        revert hu hvd h3
        simp only [Do.uses, Do.reads, Do.writes, Do.valued]
        cases d.k == 1 <;> cases d.k == 2 <;> cases d.k == 3 <;> cases d.k == 5 <;> cases d.k == 6 <;> decide
      cases hf1 : (f == -1)
      · rw [hf1] at hv
        simp only [Bool.false_eq_true, if_false] at hv
        rcases hf.2 b d f hd hfb hrd with h | ⟨c, d', rfl, h1, h2⟩
        · rw [h] at hf1; simp at hf1
        simp (maxSteps := 1000000) (disch := omega) only [push_cast, go_sem, wpS_tt, wpS_tf, wpS_ft, wpS_ff, wpCond_tt, wpCond_ff, simprocAttr, h3, hf1, hbf, hfb, Do.V_eq]
        refine hJ (k + 1, c) _ _ ⟨by dsimp only; omega, ⟨d', h1, by simp [Do.uses, h2]⟩, by dsimp only; rw [hm2, ← hv]; simp⟩ (by dsimp only; omega) ?_
        (refine Less.start ?_; repeat (first | exact LessO.nil | exact LessO.all | refine LessO.skip (by decide) ?_ | refine LessO.upd ?_ ?_ | refine LessO.set ?_ ?_)) <;> (try simp (maxSteps := 1000000) (disch := omega) only [push_cast, go_sem, wpS_tt, wpS_tf, wpS_ft, wpS_ff, wpCond_tt, wpCond_ff, simprocAttr])
      · rw [hf1] at hv
        simp (maxSteps := 1000000) (disch := omega) only [push_cast, go_sem, wpS_tt, wpS_tf, wpS_ft, wpS_ff, wpCond_tt, wpCond_ff, simprocAttr, h3, hf1, hbf, hfb, Do.V_eq]
        rw [← hv]; rfl
  · have : k = s.ds.length := by omega
    subst this
    have hke : ¬ s.ds.length < s.es.length := by omega
    simp (maxSteps := 1000000) (disch := omega) only [push_cast, go_sem, wpS_tt, wpS_tf, wpS_ft, wpS_ff, wpCond_tt, wpCond_ff, simprocAttr, hke]
    refine Sat.of (S := []) (by kernel_rfl) ?_
    simp (maxSteps := 1000000) (disch := omega) only [push_cast, go_sem, wpS_tt, wpS_tf, wpS_ft, wpS_ff, wpCond_tt, wpCond_ff, simprocAttr]
    rw [← hv, Nat.sub_self]; rfl

theorem mem_wrs {ds : List Do} {pl f : Int} : ∀ {k : Nat}, f ∈ wrs ds pl k → ∃ (b : Nat) (d : Do), b < k ∧ f = b ∧ ds[b]? = some d ∧ d.writes = true ∧ d.p = pl
  | 0, h => by simp [wrs] at h
  | k + 1, h => by
    simp only [wrs, List.mem_append] at h
    rcases h with h | h
    · obtain ⟨b, d, h1, h2⟩ := mem_wrs h
      exact ⟨b, d, by omega, h2⟩
    · split at h
      · rename_i d hd
        split at h
        · rename_i hw
          simp at h
          simp only [Bool.and_eq_true, beq_iff_eq] at hw
          exact ⟨k, d, by omega, h, hd, hw.1, hw.2⟩
        · cases h
      · cases h
theorem fromOk_of {s : Sc} {x : Exe} (he : s.es.length = s.ds.length) (h : fits s x = true) : fromOk s.ds x.fr := by
  simp only [fits, Bool.and_eq_true, decide_eq_true_eq, List.all_eq_true] at h
  obtain ⟨⟨⟨h1, _⟩, h2⟩, _⟩ := h
  refine ⟨by omega, fun a d f hd hf hr => ?_⟩
  have := h2 (d, f) (List.mem_of_getElem? (i := a) (by simp [List.getElem?_zip_eq_some, hd, hf]))
  simp only [frOk, hr, if_true, Bool.or_eq_true, beq_iff_eq, List.contains_iff_mem] at this
  rcases this with h | h
  · exact .inl h
  · obtain ⟨b, d', _, h3, h4, h5, _⟩ := mem_wrs h
    exact .inr ⟨b, d', h3, h4, h5⟩
def endOk (ds : List Do) (fr : List Int) (q : Do × Nat) : Bool := !q.1.uses || (valI ds fr ds.length q.2).isSome
def okX (s : Sc) (x : Exe) : Bool := fits s x && s.ds.zipIdx.all (endOk s.ds x.fr)
theorem ok_fn (s : Sc) (x : Exe) (hs : s.ds.length < 2 ^ 20) (he : s.es.length = s.ds.length) (hx : x.small) (hc : copyOk s.ds) : Fp Tryz.prog 48 [s.V, x.V] (.bool (okX s x)) := by
  refine Fc.start (S := [11]) Tryz.func48 Tryz.ntmps48 Tryz.results48 rfl (by decide) rfl (by kernel_rfl) ?_
  simp (maxSteps := 1000000) (disch := omega) only [push_cast, go_sem, wpS_tt, wpS_tf, wpS_ft, wpS_ff, wpCond_tt, wpCond_ff, simprocAttr, Sc.V_eq, Exe.V_eq]
  intro g1 g2
  refine callR.pure (fits_fn s x hs he hx) rfl rfl ?_
  cases hfit : fits s x
  · simp (maxSteps := 1000000) (disch := omega) only [push_cast, go_sem, wpS_tt, wpS_tf, wpS_ft, wpS_ff, wpCond_tt, wpCond_ff, simprocAttr]
    simp [okX, hfit]
  have hf := fromOk_of he hfit
  simp (maxSteps := 1000000) (disch := omega) only [push_cast, go_sem, wpS_tt, wpS_tf, wpS_ft, wpS_ff, wpCond_tt, wpCond_ff, simprocAttr]
  refine Sat.loop (σ := Nat) (fun k => upd (upd (upd (upd (upd noT 2 (.ptr 2 [] 0 0 g1 3)) 3 (.ptr 3 [] 0 0 g2 2)) 14 (.sl (s.ds.map Do.V))) 15 (.int .i64 s.ds.length)) 16 (.int .i64 k))
    (fun _ => (noM.set 2 (.own 57 (some g1) 1 [.agg [.sl (s.p.map thrV), .sl (s.es.map Evt.V), .sl (s.ds.map Do.V)]])).set 3 (.own 29 (some g2) 1 [.agg [.sl (x.fr.map (V.int .i64)), .sl (x.od.map intsV)]]))
    (fun k => k ≤ s.ds.length ∧ (s.ds.zipIdx.take k).all (endOk s.ds x.fr) = true) (fun k => s.ds.length - k) 0 (by simp) ?_ ?_
  · (refine Less.start ?_; repeat (first | exact LessO.nil | exact LessO.all | refine LessO.skip (by decide) ?_ | refine LessO.upd ?_ ?_ | refine LessO.set ?_ ?_)) <;> (try simp (maxSteps := 1000000) (disch := omega) only [push_cast, go_sem, wpS_tt, wpS_tf, wpS_ft, wpS_ff, wpCond_tt, wpCond_ff, simprocAttr])
  rintro k ⟨hk, hall⟩ J hJ
  refine Sat.of (S := []) (by kernel_rfl) ?_
  rcases Nat.lt_or_ge k s.ds.length with hlt | hge
  · obtain ⟨d, hd⟩ : ∃ d, s.ds[k]? = some d := ⟨_, List.getElem?_eq_getElem hlt⟩
    have hz : s.ds.zipIdx[k]? = some (d, k) := by simp [hd]
    have hn : k + 1 ≤ s.ds.length := by omega
    have hm : s.ds.length - (k + 1) < s.ds.length - k := by omega
    simp (maxSteps := 1000000) (disch := omega) only [push_cast, go_sem, wpS_tt, wpS_tf, wpS_ft, wpS_ff, wpCond_tt, wpCond_ff, simprocAttr, hd, hlt, Do.V_eq]
    intro g3
    refine callR.pure (uses_fn d) rfl rfl ?_
    cases hu : d.uses
    · simp (maxSteps := 1000000) (disch := omega) only [push_cast, go_sem, wpS_tt, wpS_tf, wpS_ft, wpS_ff, wpCond_tt, wpCond_ff, simprocAttr]
      refine hJ (k + 1) _ _ ⟨hn, allp_take hz hall (by simp [endOk, hu])⟩ hm ?_
      (refine Less.start ?_; repeat (first | exact LessO.nil | exact LessO.all | refine LessO.skip (by decide) ?_ | refine LessO.upd ?_ ?_ | refine LessO.set ?_ ?_)) <;> (try simp (maxSteps := 1000000) (disch := omega) only [push_cast, go_sem, wpS_tt, wpS_tf, wpS_ft, wpS_ff, wpCond_tt, wpCond_ff, simprocAttr])
    · simp (maxSteps := 1000000) (disch := omega) only [push_cast, go_sem, wpS_tt, wpS_tf, wpS_ft, wpS_ff, wpCond_tt, wpCond_ff, simprocAttr]
      refine callR.pure (value_fn s x k hs he hx.fr hc hf ⟨d, hd, hu⟩) rfl rfl ?_
      cases hv : valI s.ds x.fr s.ds.length k with
      | none =>
        simp (maxSteps := 1000000) (disch := omega) only [push_cast, go_sem, wpS_tt, wpS_tf, wpS_ft, wpS_ff, wpCond_tt, wpCond_ff, simprocAttr, valR]
        rw [okX, allp_no hz (show endOk s.ds x.fr (d, k) = false by simp [endOk, hu, hv]), Bool.and_false]
      | some v =>
        simp (maxSteps := 1000000) (disch := omega) only [push_cast, go_sem, wpS_tt, wpS_tf, wpS_ft, wpS_ff, wpCond_tt, wpCond_ff, simprocAttr, valR]
        refine hJ (k + 1) _ _ ⟨hn, allp_take hz hall (by simp [endOk, hv])⟩ hm ?_
        (refine Less.start ?_; repeat (first | exact LessO.nil | exact LessO.all | refine LessO.skip (by decide) ?_ | refine LessO.upd ?_ ?_ | refine LessO.set ?_ ?_)) <;> (try simp (maxSteps := 1000000) (disch := omega) only [push_cast, go_sem, wpS_tt, wpS_tf, wpS_ft, wpS_ff, wpCond_tt, wpCond_ff, simprocAttr])
  · have : k = s.ds.length := by omega
    subst this
    have hall2 : s.ds.zipIdx.all (endOk s.ds x.fr) = true := by rwa [List.take_of_length_le (by simp)] at hall
    simp (maxSteps := 1000000) (disch := omega) only [push_cast, go_sem, wpS_tt, wpS_tf, wpS_ft, wpS_ff, wpCond_tt, wpCond_ff, simprocAttr]
    refine Sat.of (S := []) (by kernel_rfl) ?_
    simp (maxSteps := 1000000) (disch := omega) only [push_cast, go_sem, wpS_tt, wpS_tf, wpS_ft, wpS_ff, wpCond_tt, wpCond_ff, simprocAttr]
    rw [okX, hfit, hall2]; rfl

/-! ### a copy stands behind a read -/
theorem thrGo_copy : ∀ {l : List Do} {r i : Bool} {j : Nat} {d : Do}, thrGo l r i = true → l[j]? = some d → d.k = 3 → r = true ∨ ∃ (j' : Nat) (d' : Do), j' < j ∧ l[j']? = some d' ∧ d'.reads = true
  | [], _, _, _, _, _, h, _ => by simp at h
  | d0 :: l, r, i, j, d, h, hd, h3 => by
    rw [thrGo] at h
    split at h
    · cases h
    · rename_i hw
      cases j with
      | zero =>
        simp at hd; subst hd
        left
        cases r
        · simp [Do.wrong, h3] at hw
        · rfl
      | succ j =>
        simp at hd
        rcases thrGo_copy h hd h3 with h1 | ⟨j', d', h1, h2, h3⟩
        · rw [Bool.or_eq_true] at h1
          rcases h1 with h1 | h1
          · exact .inl h1
          · exact .inr ⟨0, d0, by omega, rfl, h1⟩
        · exact .inr ⟨j' + 1, d', by omega, by simpa using h2, h3⟩
theorem evThr_get {t : Nat} {l : List Do} {e : Evt} : ∀ {k a : Nat}, (evThr t l k)[a]? = some e → ∃ j d, j < k ∧ l[j]? = some d ∧ e.t = t ∧ e.s = j ∧ (evThr t l j).length ≤ a
  | 0, a, h => by simp [evThr] at h
  | k + 1, a, h => by
    rw [evThr, List.getElem?_append] at h
    split at h
    · obtain ⟨j, d, h1, h2⟩ := evThr_get h
      exact ⟨j, d, by omega, h2⟩
    · rename_i hle
      cases hd : l[k]? with
      | none => rw [hd] at h; simp at h
      | some d =>
        rw [hd] at h
        dsimp only at h
        have hm := List.mem_of_getElem? h
        have : e.t = t ∧ e.s = k := by
          unfold evsOf at hm
          split at hm
          · simp at hm; rcases hm with rfl | rfl <;> exact ⟨rfl, rfl⟩
          · simp at hm; subst hm; exact ⟨rfl, rfl⟩
        exact ⟨k, d, by omega, hd, this.1, this.2, by omega⟩
theorem evPro_get {p : Prog} {e : Evt} : ∀ {i a : Nat}, (evPro p i)[a]? = some e → ∃ j l, j < i ∧ p[j]? = some l ∧ (evPro p j).length ≤ a ∧ (evThr j l l.length)[a - (evPro p j).length]? = some e
  | 0, a, h => by simp [evPro] at h
  | i + 1, a, h => by
    rw [evPro, List.getElem?_append] at h
    split at h
    · obtain ⟨j, l, h1, h2⟩ := evPro_get h
      exact ⟨j, l, by omega, h2⟩
    · rename_i hle
      cases hd : p[i]? with
      | none => rw [hd] at h; simp at h
      | some l =>
        rw [hd] at h
        exact ⟨i, l, by omega, hd, by omega, h⟩
/-- The event of a step. -/
theorem evThr_at {t : Nat} {l : List Do} {d : Do} : ∀ {k j : Nat}, j < k → l[j]? = some d → (evThr t l k)[(evThr t l j).length]? = some ⟨t, j, false⟩
  | 0, j, h, _ => absurd h (by omega)
  | k + 1, j, h, hd => by
    rw [evThr]
    rcases Nat.lt_or_ge j k with hj | hj
    · have := evThr_at (t := t) hj hd
      rw [List.getElem?_append_left (List.getElem?_eq_some_iff.1 this).1]; exact this
    · have : j = k := by omega
      subst this
      rw [List.getElem?_append_right (Nat.le_refl _), hd, Nat.sub_self]
      dsimp only [evsOf]
      split <;> rfl
theorem evPro_at {p : Prog} {l : List Do} {b : Nat} {e : Evt} : ∀ {i j : Nat}, j < i → p[j]? = some l → (evThr j l l.length)[b]? = some e → (evPro p i)[(evPro p j).length + b]? = some e
  | 0, j, h, _, _ => absurd h (by omega)
  | i + 1, j, h, hl, hb => by
    rw [evPro]
    rcases Nat.lt_or_ge j i with hj | hj
    · have := evPro_at hj hl hb
      rw [List.getElem?_append_left (List.getElem?_eq_some_iff.1 this).1]; exact this
    · have : j = i := by omega
      subst this
      rw [List.getElem?_append_right (by omega), hl, Nat.add_sub_cancel_left]
      exact hb
/-- An event and its place. -/
theorem events_get {p : Prog} {e : Evt} {a : Nat} (h : (events p)[a]? = some e) : ∃ i l j d, p[i]? = some l ∧ l[j]? = some d ∧ e.t = (i : Nat) ∧ e.s = (j : Nat) ∧ stepAt p e = d ∧ (evPro p i).length + (evThr i l j).length ≤ a := by
  obtain ⟨i, l, _, hl, h1, h2⟩ := evPro_get h
  obtain ⟨j, d, _, hd, h3, h4, h5⟩ := evThr_get h2
  exact ⟨i, l, j, d, hl, hd, h3, h4, by simp [stepAt, h3, h4, hl, hd], by omega⟩
theorem events_at {p : Prog} {l : List Do} {d : Do} {i j : Nat} (hl : p[i]? = some l) (hd : l[j]? = some d) : (events p)[(evPro p i).length + (evThr i l j).length]? = some ⟨i, j, false⟩ :=
  evPro_at (List.getElem?_eq_some_iff.1 hl).1 hl (evThr_at (List.getElem?_eq_some_iff.1 hd).1 hd)
theorem evThr_mono {t : Nat} {l : List Do} {d : Do} {j : Nat} (hd : l[j]? = some d) : ∀ {k : Nat}, j < k → (evThr t l j).length < (evThr t l k).length
  | 0, h => absurd h (by omega)
  | k + 1, h => by
    have : (evThr t l (j + 1)).length = (evThr t l j).length + (evsOf t j d).length := by rw [evThr, hd, List.length_append]
    have h1 : 0 < (evsOf t j d).length := by unfold evsOf; split <;> simp
    rcases Nat.lt_or_ge j k with hj | hj
    · have h2 := evThr_mono (t := t) hd hj
      have : (evThr t l k).length ≤ (evThr t l (k + 1)).length := by rw [evThr, List.length_append]; exact Nat.le_add_right _ _
      omega
    · have : j = k := by omega
      subst this
      omega
theorem scene_len (p : Prog) : (scene p).es.length = (scene p).ds.length := by simp [scene]
theorem scene_copy {p : Prog} (h : progOk p = true) : copyOk (scene p).ds := by
  intro a d hd h3
  have hth : ∀ l ∈ p, threadOk l = true := by
    simp only [progOk, Bool.and_eq_true, List.all_eq_true] at h
    exact h.1.1.2
  simp only [scene, List.getElem?_map, Option.map_eq_some_iff] at hd
  obtain ⟨e, he, rfl⟩ := hd
  obtain ⟨i, l, j, d, hl, hd, h1, h2, hst, hpos⟩ := events_get he
  rw [hst] at h3
  have hok := hth l (List.mem_of_getElem? hl)
  simp only [threadOk, Bool.and_eq_true] at hok
  rcases thrGo_copy hok.1 hd h3 with hf | ⟨j', d', k1, k2, k3⟩
  · cases hf
  · refine ⟨(evPro p i).length + (evThr i l j').length, d', ?_, ?_, k3⟩
    · have := evThr_mono (t := i) k2 k1; omega
    · simp only [scene, List.getElem?_map, events_at hl k2, Option.map_some]
      simp [stepAt, hl, k2]
def execOk (p : Prog) (x : Exe) : Bool := progOk p && okX (scene p) x
theorem implExecOk_fn (p : Prog) (x : Exe) (hp : p.length < 2 ^ 40) (hl : ∀ l ∈ p, l.length < 2 ^ 40) (hx : x.small) : Fp Tryz.prog 17 [progV p, x.V] (.bool (execOk p x)) := by
  have h1 := implProgOk_fn p hp hl
  refine Fc.start (S := []) Tryz.func17 Tryz.ntmps17 Tryz.results17 rfl (by decide) rfl (by kernel_rfl) ?_
  cases hok : progOk p
  · simp (maxSteps := 1000000) (disch := omega) only [push_cast, go_sem, wpS_tt, wpS_tf, wpS_ft, wpS_ff, wpCond_tt, wpCond_ff, simprocAttr, progV_eq, Exe.V_eq]
    intro g1 g2
    refine Sat.drawnE [] [] [0, 1, 3, 4, 5, 6, 8] (pureT [(47, .bool (progOk p))]) (by kernel_rfl) (by kernel_rfl) ?_
    simp (maxSteps := 1000000) (disch := omega) only [push_cast, go_sem, wpS_tt, wpS_tf, wpS_ft, wpS_ff, wpCond_tt, wpCond_ff, simprocAttr]
    refine runD_pure rfl h1 rfl rfl ?_ ?_
    · rfl
    simp (maxSteps := 1000000) (disch := omega) only [push_cast, go_sem, wpS_tt, wpS_tf, wpS_ft, wpS_ff, wpCond_tt, wpCond_ff, simprocAttr, hok]
    simp [execOk, hok]
  · have hel := events_le hok
    have h2 := sceneOf_fn p hok
    have h3 := ok_fn (scene p) x (by simp only [scene, List.length_map]; omega) (scene_len p) hx (scene_copy hok)
    simp (maxSteps := 1000000) (disch := omega) only [push_cast, go_sem, wpS_tt, wpS_tf, wpS_ft, wpS_ff, wpCond_tt, wpCond_ff, simprocAttr, progV_eq, Exe.V_eq]
    intro g1 g2
    refine Sat.drawnE [] [] [0, 1, 3, 4, 5, 6, 8] (pureT [(47, .bool (progOk p)), (29, (scene p).V), (48, .bool (okX (scene p) x))]) (by kernel_rfl) (by kernel_rfl) ?_
    simp (maxSteps := 1000000) (disch := omega) only [push_cast, go_sem, wpS_tt, wpS_tf, wpS_ft, wpS_ff, wpCond_tt, wpCond_ff, simprocAttr]
    refine runD_pure rfl h1 rfl rfl ?_ ?_
    · rfl
    simp (maxSteps := 1000000) (disch := omega) only [push_cast, go_sem, wpS_tt, wpS_tf, wpS_ft, wpS_ff, wpCond_tt, wpCond_ff, simprocAttr, hok]
    refine runD_pure rfl h2 rfl rfl ?_ ?_
    · rfl
    simp (maxSteps := 1000000) (disch := omega) only [push_cast, go_sem, wpS_tt, wpS_tf, wpS_ft, wpS_ff, wpCond_tt, wpCond_ff, simprocAttr]
    refine runD_pure rfl h3 rfl rfl ?_ ?_
    · rfl
    simp (maxSteps := 1000000) (disch := omega) only [push_cast, go_sem, wpS_tt, wpS_tf, wpS_ft, wpS_ff, wpCond_tt, wpCond_ff, simprocAttr]
    simp [execOk, hok]
end Go.Proofs.YtfdbminedccccaaGreatDoor
/-! ## What must be ahead of what, by the program -/
namespace Go.Proofs.YtfdbminedccccaaGreatDoor
open Go.RowKit
set_option linter.unusedSimpArgs false
set_option linter.unusedVariables false
set_option pp.maxSteps 3000

def ownB (es : List Evt) (a b : Nat) : Bool := decide (a < b) && (es[a]?.getD default).t == (es[b]?.getD default).t
theorem own_fn (s : Sc) (a b : Nat) (ha : a < s.es.length) (hb : b < s.es.length) : Fp Tryz.prog 56 [s.V, .int .i64 a, .int .i64 b] (.bool (ownB s.es a b)) := by
  obtain ⟨ea, hea⟩ : ∃ e, s.es[a]? = some e := ⟨_, List.getElem?_eq_getElem ha⟩
  obtain ⟨eb, heb⟩ : ∃ e, s.es[b]? = some e := ⟨_, List.getElem?_eq_getElem hb⟩
  refine Fc.start (S := []) Tryz.func56 Tryz.ntmps56 Tryz.results56 rfl (by decide) rfl (by kernel_rfl) ?_
  simp (maxSteps := 1000000) (disch := omega) only [push_cast, go_sem, wpS_tt, wpS_tf, wpS_ft, wpS_ff, wpCond_tt, wpCond_ff, simprocAttr, Sc.V_eq]
  intro g
  refine Sat.drawnE [] [] (List.range 19) (fun _ _ _ => none) (by kernel_rfl) (by kernel_rfl) ?_
  by_cases h : a < b <;> simp (maxSteps := 1000000) (disch := omega) only [push_cast, go_sem, wpS_tt, wpS_tf, wpS_ft, wpS_ff, wpCond_tt, wpCond_ff, simprocAttr, h, hea, heb, ha, hb, Evt.V_eq] <;> simp [ownB, h, hea, heb]
def overB (ds : List Do) (x : Exe) (a b : Nat) : Bool :=
  !(a == b) && (ds[a]?.getD default).uses && (ds[b]?.getD default).writes && (ds[a]?.getD default).p == (ds[b]?.getD default).p &&
    decide (Lib.idxOf (x.od[(ds[b]?.getD default).p.toNat]?.getD []) (if (ds[a]?.getD default).reads then x.fr[a]?.getD 0 else a) < Lib.idxOf (x.od[(ds[b]?.getD default).p.toNat]?.getD []) b)
/-- A way that has the form that it must have. -/
structure Fit (ds : List Do) (x : Exe) : Prop where
  fr : x.fr.length = ds.length
  od : x.od.length = 3
  row : ∀ r ∈ x.od, r.length < 2 ^ 40
  p : ∀ d ∈ ds, d.uses = true → 0 ≤ d.p ∧ d.p < 3
theorem over_fn (s : Sc) (x : Exe) (a b : Nat) (ha : a < s.ds.length) (hb : b < s.ds.length) (hx : Fit s.ds x) : Fp Tryz.prog 57 [s.V, x.V, .int .i64 a, .int .i64 b] (.bool (overB s.ds x a b)) := by
  obtain ⟨hfr, hod, hrow, hp⟩ := hx
  obtain ⟨da, hda⟩ : ∃ e, s.ds[a]? = some e := ⟨_, List.getElem?_eq_getElem ha⟩
  obtain ⟨db, hdb⟩ : ∃ e, s.ds[b]? = some e := ⟨_, List.getElem?_eq_getElem hb⟩
  have e1 : s.ds[a]?.getD default = da := by rw [hda]; rfl
  have e2 : s.ds[b]?.getD default = db := by rw [hdb]; rfl
  unfold overB
  rw [e1, e2]
  refine Fc.start (S := [2]) Tryz.func57 Tryz.ntmps57 Tryz.results57 rfl (by decide) rfl (by kernel_rfl) ?_
  simp (maxSteps := 1000000) (disch := omega) only [push_cast, go_sem, wpS_tt, wpS_tf, wpS_ft, wpS_ff, wpCond_tt, wpCond_ff, simprocAttr, Sc.V_eq, Exe.V_eq]
  intro g4 g5
  refine Sat.drawnE [(1, 10), (4, 10), (6, 10), (9, 10), (1, 11), (4, 11), (6, 11), (9, 11), (10, 11), (6, 12), (9, 12)] [] [1, 4, 6, 9] (fun _ _ _ => none) (by kernel_rfl) (by kernel_rfl) ?_
  simp (maxSteps := 1000000) (disch := omega) only [push_cast, go_sem, wpS_tt, wpS_tf, wpS_ft, wpS_ff, wpCond_tt, wpCond_ff, simprocAttr, hda, hdb, ha, hb, Do.V_eq]
  intro g9 g10
  refine Sat.of (S := []) (by kernel_rfl) ?_
  by_cases hab : a = b
  · subst hab
    simp (maxSteps := 1000000) (disch := omega) only [push_cast, go_sem, wpS_tt, wpS_tf, wpS_ft, wpS_ff, wpCond_tt, wpCond_ff, simprocAttr]
  have hab' : ((a : Int) == b) = false := by simp; omega
  have hab2 : (a == b) = false := by simp; omega
  simp (maxSteps := 1000000) (disch := omega) only [push_cast, go_sem, wpS_tt, wpS_tf, wpS_ft, wpS_ff, wpCond_tt, wpCond_ff, simprocAttr, hab', Do.V_eq]
  refine callR.pure (uses_fn da) rfl rfl ?_
  cases hu : da.uses
  · simp (maxSteps := 1000000) (disch := omega) only [push_cast, go_sem, wpS_tt, wpS_tf, wpS_ft, wpS_ff, wpCond_tt, wpCond_ff, simprocAttr, hu]
  simp (maxSteps := 1000000) (disch := omega) only [push_cast, go_sem, wpS_tt, wpS_tf, wpS_ft, wpS_ff, wpCond_tt, wpCond_ff, simprocAttr, hu]
  refine callR.pure (writes_fn db) rfl rfl ?_
  cases hw : db.writes
  · simp (maxSteps := 1000000) (disch := omega) only [push_cast, go_sem, wpS_tt, wpS_tf, wpS_ft, wpS_ff, wpCond_tt, wpCond_ff, simprocAttr, hw]
  cases hpp : (da.p == db.p)
  · have hpn : (da.p != db.p) = true := by simp [bne, hpp]
    simp (maxSteps := 1000000) (disch := omega) only [push_cast, go_sem, wpS_tt, wpS_tf, wpS_ft, wpS_ff, wpCond_tt, wpCond_ff, simprocAttr, hw, hpn]
  have hpn : (da.p != db.p) = false := by simp [bne, hpp]
  have hub : db.uses = true := by simp [Do.uses, hw]
  obtain ⟨p0, p1⟩ := hp db (List.mem_of_getElem? hdb) hub
  obtain ⟨pl, hpl⟩ := Int.eq_ofNat_of_zero_le p0
  obtain ⟨row, hrw⟩ : ∃ row, x.od[pl]? = some row := ⟨_, List.getElem?_eq_getElem (by omega)⟩
  have hrl := hrow row (List.mem_of_getElem? hrw)
  have hpl3 : (pl : Int) < 3 := by omega
  have hpq : (da.p != (pl : Int)) = false := by rw [← hpl]; exact hpn
  obtain ⟨z, hz⟩ : ∃ z, x.fr[a]? = some z := ⟨_, List.getElem?_eq_getElem (by omega)⟩
  have haf : a < x.fr.length := by omega
  simp (maxSteps := 1000000) (disch := omega) only [push_cast, go_sem, wpS_tt, wpS_tf, wpS_ft, wpS_ff, wpCond_tt, wpCond_ff, simprocAttr, hw, hpq, hpl, hrw, hod, hpl3, intsV_eq]
  refine callR.pure (reads_fn da) rfl rfl ?_
  have hi1 := index_fn row b hrl
  cases hr : da.reads
  · have hi2 := index_fn row a hrl
    rw [intsV_eq] at hi1 hi2
    simp (maxSteps := 1000000) (disch := omega) only [push_cast, go_sem, wpS_tt, wpS_tf, wpS_ft, wpS_ff, wpCond_tt, wpCond_ff, simprocAttr, hr]
    refine callR.pure hi2 rfl rfl ?_
    simp (maxSteps := 1000000) (disch := omega) only [push_cast, go_sem, wpS_tt, wpS_tf, wpS_ft, wpS_ff, wpCond_tt, wpCond_ff, simprocAttr]
    refine callR.pure hi1 rfl rfl ?_
    simp (maxSteps := 1000000) (disch := omega) only [push_cast, go_sem, wpS_tt, wpS_tf, wpS_ft, wpS_ff, wpCond_tt, wpCond_ff, simprocAttr]
    simp [hab2, hpl, hrw]
  · have hi2 := index_fn row z hrl
    rw [intsV_eq] at hi1 hi2
    simp (maxSteps := 1000000) (disch := omega) only [push_cast, go_sem, wpS_tt, wpS_tf, wpS_ft, wpS_ff, wpCond_tt, wpCond_ff, simprocAttr, hr, hz, haf]
    refine callR.pure hi2 rfl rfl ?_
    simp (maxSteps := 1000000) (disch := omega) only [push_cast, go_sem, wpS_tt, wpS_tf, wpS_ft, wpS_ff, wpCond_tt, wpCond_ff, simprocAttr]
    refine callR.pure hi1 rfl rfl ?_
    simp (maxSteps := 1000000) (disch := omega) only [push_cast, go_sem, wpS_tt, wpS_tf, wpS_ft, wpS_ff, wpCond_tt, wpCond_ff, simprocAttr, hz]
    simp [hab2, hpl, hrw]

/-- What the loose order keeps of one thread: 'lr' the last read ahead of b; f, t, ok: the reader's events around a. -/
def looseB (da db : Do) (a b lr : Nat) (f t : Int) (ok : Bool) : Bool :=
  (da.k == 4 || da.k == 9 || db.k == 4 || db.k == 9) || (da.k == 5 || db.k == 6) || (db.k == 3 && lr == a) || ((da.k == 7 || db.k == 8) && ok && decide (f ≤ a) && decide ((b : Int) ≤ t) && (da.k == 7 || (b : Int) == t))
theorem loose_fn (s : Sc) (a b : Nat) (ha : a < s.ds.length) (hb : b < s.ds.length) (lr : Nat) (f t : Int) (ok : Bool) (da db : Do) (hda : s.ds[a]? = some da) (hdb : s.ds[b]? = some db)
    (hlr : db.k = 3 → Fp Tryz.prog 100 [s.V, .int .i64 b] (.int .i64 lr)) (hin : Fp Tryz.prog 89 [s.V, .int .i64 a] (.tuple [.int .i64 f, .int .i64 t, .bool ok])) :
    Fp Tryz.prog 79 [s.V, .int .i64 a, .int .i64 b] (.bool (looseB da db a b lr f t ok)) := by
  unfold looseB
  rw [Sc.V_eq] at hlr hin
  refine Fc.start (S := [1000]) Tryz.func79 Tryz.ntmps79 Tryz.results79 rfl (by decide) rfl (by kernel_rfl) ?_
  simp (maxSteps := 1000000) (disch := omega) only [push_cast, go_sem, wpS_tt, wpS_tf, wpS_ft, wpS_ff, wpCond_tt, wpCond_ff, simprocAttr, Sc.V_eq]
  intro g3
  refine Sat.drawnE [(1, 10), (4, 10), (6, 10), (9, 10), (1, 11), (4, 11), (6, 11), (9, 11), (10, 11), (6, 12), (9, 12)] [] [1, 4, 6, 9] (fun _ _ _ => none) (by kernel_rfl) (by kernel_rfl) ?_
  simp (maxSteps := 1000000) (disch := omega) only [push_cast, go_sem, wpS_tt, wpS_tf, wpS_ft, wpS_ff, wpCond_tt, wpCond_ff, simprocAttr, hda, hdb, ha, hb, Do.V_eq]
  intro g7 g8
  refine Sat.cutP (upd (upd (upd (upd (upd noT 1 (.int .i64 a)) 2 (.int .i64 b)) 3 (.ptr 3 [] 0 0 g3 3)) 7 (.ptr 7 [] 0 0 g7 3)) 8 (.ptr 8 [] 0 0 g8 3))
    (((noM.set 3 (.own 57 (some g3) 1 [.agg [.sl (s.p.map thrV), .sl (s.es.map Evt.V), .sl (s.ds.map Do.V)]])).set 7 (.own 82 (some g7) 1 [.agg [.int .i64 da.k, .int .i64 da.p, .int .i64 da.v]])).set 8 (.own 82 (some g8) 1 [.agg [.int .i64 db.k, .int .i64 db.p, .int .i64 db.v]]))
    (((da.k == 4 || da.k == 9 || db.k == 4 || db.k == 9) || (da.k == 5 || db.k == 6) || (db.k == 3 && lr == a)) = false) ?_ ?_
  · refine Sat.of (S := []) (by kernel_rfl) ?_
    cases h1 : (da.k == 4)
    rotate_left
    · simp (maxSteps := 1000000) (disch := omega) only [push_cast, go_sem, wpS_tt, wpS_tf, wpS_ft, wpS_ff, wpCond_tt, wpCond_ff, simprocAttr, h1]
    cases h2 : (da.k == 9)
    rotate_left
    · simp (maxSteps := 1000000) (disch := omega) only [push_cast, go_sem, wpS_tt, wpS_tf, wpS_ft, wpS_ff, wpCond_tt, wpCond_ff, simprocAttr, h1, h2]
    cases h3 : (db.k == 4)
    rotate_left
    · simp (maxSteps := 1000000) (disch := omega) only [push_cast, go_sem, wpS_tt, wpS_tf, wpS_ft, wpS_ff, wpCond_tt, wpCond_ff, simprocAttr, h1, h2, h3]
    cases h4 : (db.k == 9)
    rotate_left
    · simp (maxSteps := 1000000) (disch := omega) only [push_cast, go_sem, wpS_tt, wpS_tf, wpS_ft, wpS_ff, wpCond_tt, wpCond_ff, simprocAttr, h1, h2, h3, h4]
    cases h5 : (da.k == 5)
    rotate_left
    · simp (maxSteps := 1000000) (disch := omega) only [push_cast, go_sem, wpS_tt, wpS_tf, wpS_ft, wpS_ff, wpCond_tt, wpCond_ff, simprocAttr, h1, h2, h3, h4, h5]
    cases h6 : (db.k == 6)
    rotate_left
    · simp (maxSteps := 1000000) (disch := omega) only [push_cast, go_sem, wpS_tt, wpS_tf, wpS_ft, wpS_ff, wpCond_tt, wpCond_ff, simprocAttr, h1, h2, h3, h4, h5, h6]
    cases h7 : (db.k == 3)
    · simp (maxSteps := 1000000) (disch := omega) only [push_cast, go_sem, wpS_tt, wpS_tf, wpS_ft, wpS_ff, wpCond_tt, wpCond_ff, simprocAttr, h1, h2, h3, h4, h5, h6, h7]
      (refine Less.start ?_; repeat (first | exact LessO.nil | exact LessO.all | refine LessO.skip (by decide) ?_ | refine LessO.upd ?_ ?_ | refine LessO.set ?_ ?_)) <;> (try simp (maxSteps := 1000000) (disch := omega) only [push_cast, go_sem, wpS_tt, wpS_tf, wpS_ft, wpS_ff, wpCond_tt, wpCond_ff, simprocAttr])
    · simp (maxSteps := 1000000) (disch := omega) only [push_cast, go_sem, wpS_tt, wpS_tf, wpS_ft, wpS_ff, wpCond_tt, wpCond_ff, simprocAttr, h1, h2, h3, h4, h5, h6, h7]
      refine callR.pure (hlr (by simpa using h7)) rfl rfl ?_
      cases h8 : (lr == a)
      · have h8' : ((lr : Int) == a) = false := by simp at h8 ⊢; omega
        simp (maxSteps := 1000000) (disch := omega) only [push_cast, go_sem, wpS_tt, wpS_tf, wpS_ft, wpS_ff, wpCond_tt, wpCond_ff, simprocAttr, h8']
        (refine Less.start ?_; repeat (first | exact LessO.nil | exact LessO.all | refine LessO.skip (by decide) ?_ | refine LessO.upd ?_ ?_ | refine LessO.set ?_ ?_)) <;> (try simp (maxSteps := 1000000) (disch := omega) only [push_cast, go_sem, wpS_tt, wpS_tf, wpS_ft, wpS_ff, wpCond_tt, wpCond_ff, simprocAttr])
      · have h8' : ((lr : Int) == a) = true := by simp at h8 ⊢; omega
        simp (maxSteps := 1000000) (disch := omega) only [push_cast, go_sem, wpS_tt, wpS_tf, wpS_ft, wpS_ff, wpCond_tt, wpCond_ff, simprocAttr, h8']
  intro he
  rw [he, Bool.false_or]
  refine Sat.of (S := []) (by kernel_rfl) ?_
  · cases h1 : (da.k == 7) <;> cases h2 : (db.k == 8)
    · have n1 : (da.k != 7) = true := by simp [bne, h1]
      have n2 : (db.k != 8) = true := by simp [bne, h2]
      simp (maxSteps := 1000000) (disch := omega) only [push_cast, go_sem, wpS_tt, wpS_tf, wpS_ft, wpS_ff, wpCond_tt, wpCond_ff, simprocAttr, n1, n2]
    · have n1 : (da.k != 7) = true := by simp [bne, h1]
      have n2 : (db.k != 8) = false := by simp [bne, h2]
      simp (maxSteps := 1000000) (disch := omega) only [push_cast, go_sem, wpS_tt, wpS_tf, wpS_ft, wpS_ff, wpCond_tt, wpCond_ff, simprocAttr, n1, n2]
      refine callR.pure hin rfl rfl ?_
      cases ok
      · simp (maxSteps := 1000000) (disch := omega) only [push_cast, go_sem, wpS_tt, wpS_tf, wpS_ft, wpS_ff, wpCond_tt, wpCond_ff, simprocAttr]
      by_cases h3 : f ≤ a
      · by_cases h4 : (b : Int) ≤ t
        · simp (maxSteps := 1000000) (disch := omega) only [push_cast, go_sem, wpS_tt, wpS_tf, wpS_ft, wpS_ff, wpCond_tt, wpCond_ff, simprocAttr, h1, h3, h4]
        · simp (maxSteps := 1000000) (disch := omega) only [push_cast, go_sem, wpS_tt, wpS_tf, wpS_ft, wpS_ff, wpCond_tt, wpCond_ff, simprocAttr, h1, h3, h4]
      · simp (maxSteps := 1000000) (disch := omega) only [push_cast, go_sem, wpS_tt, wpS_tf, wpS_ft, wpS_ff, wpCond_tt, wpCond_ff, simprocAttr, h3]
    all_goals
      have n1 : (da.k != 7) = false := by simp [bne, h1]
      simp (maxSteps := 1000000) (disch := omega) only [push_cast, go_sem, wpS_tt, wpS_tf, wpS_ft, wpS_ff, wpCond_tt, wpCond_ff, simprocAttr, n1]
      refine callR.pure hin rfl rfl ?_
      cases ok
      · simp (maxSteps := 1000000) (disch := omega) only [push_cast, go_sem, wpS_tt, wpS_tf, wpS_ft, wpS_ff, wpCond_tt, wpCond_ff, simprocAttr]
      by_cases h3 : f ≤ a
      · by_cases h4 : (b : Int) ≤ t
        · simp (maxSteps := 1000000) (disch := omega) only [push_cast, go_sem, wpS_tt, wpS_tf, wpS_ft, wpS_ff, wpCond_tt, wpCond_ff, simprocAttr, h1, h3, h4]
        · simp (maxSteps := 1000000) (disch := omega) only [push_cast, go_sem, wpS_tt, wpS_tf, wpS_ft, wpS_ff, wpCond_tt, wpCond_ff, simprocAttr, h1, h3, h4]
      · simp (maxSteps := 1000000) (disch := omega) only [push_cast, go_sem, wpS_tt, wpS_tf, wpS_ft, wpS_ff, wpCond_tt, wpCond_ff, simprocAttr, h3]
end Go.Proofs.YtfdbminedccccaaGreatDoor
/-! ## What must be ahead of what, by the program: readers' events; all together -/
namespace Go.Proofs.YtfdbminedccccaaGreatDoor
open Go.RowKit
set_option linter.unusedSimpArgs false
set_option linter.unusedVariables false
set_option pp.maxSteps 3000

def kd (ds : List Do) (k : Nat) : Int := (ds[k]?.getD default).k
def th (es : List Evt) (k : Nat) : Int := (es[k]?.getD default).t
/-- Back from an event to its reader's going in. -/
def bkI (es : List Evt) (ds : List Do) (a : Nat) : Nat → Option Nat
  | 0 => if kd ds 0 == 7 then some 0 else none
  | k + 1 => if kd ds (k + 1) == 7 then some (k + 1) else if !(k + 1 == a) && kd ds (k + 1) == 8 then none else if th es k != th es a then none else bkI es ds a k
/-- The first going out from an event on. -/
structure IsOut (ds : List Do) (f t : Nat) : Prop where
  le : f ≤ t
  lt : t < ds.length
  out : kd ds t = 8
  no : ∀ j, f ≤ j → j < t → kd ds j ≠ 8
def insR (a : Nat) (t : Nat) : Option Nat → V
  | none => .tuple [.int .i64 0, .int .i64 0, .bool false]
  | some f => .tuple [.int .i64 f, .int .i64 t, .bool (decide (a ≤ t))]
theorem inside_fn (s : Sc) (a t : Nat) (ha : a < s.ds.length) (hl : s.ds.length < 2 ^ 20) (hes : s.es.length = s.ds.length) (ho : ∀ f, bkI s.es s.ds a a = some f → IsOut s.ds f t) :
    Fp Tryz.prog 89 [s.V, .int .i64 a] (insR a t (bkI s.es s.ds a a)) := by
  obtain ⟨ea, hea⟩ : ∃ e, s.es[a]? = some e := ⟨_, List.getElem?_eq_getElem (by omega)⟩
  have hae : a < s.es.length := by omega
  obtain ⟨R, hR⟩ : ∃ R, bkI s.es s.ds a a = R := ⟨_, rfl⟩
  rw [hR]
  have hta : th s.es a = ea.t := by rw [th, hea]; rfl
  refine Fc.start (S := [9]) Tryz.func89 Tryz.ntmps89 Tryz.results89 rfl (by decide) rfl (by kernel_rfl) ?_
  simp (maxSteps := 1000000) (disch := omega) only [push_cast, go_sem, wpS_tt, wpS_tf, wpS_ft, wpS_ff, wpCond_tt, wpCond_ff, simprocAttr, Sc.V_eq]
  intro g2
  simp (maxSteps := 1000000) (disch := omega) only [push_cast, go_sem, wpS_tt, wpS_tf, wpS_ft, wpS_ff, wpCond_tt, wpCond_ff, simprocAttr, hea, hae, Evt.V_eq]
  refine Sat.loop (σ := Nat) (fun k => upd (upd (upd (upd noT 1 (.int .i64 a)) 2 (.ptr 2 [] 0 0 g2 3)) 4 (.int .i64 k)) 7 (.int .i64 ea.t)) (fun _ => noM.set 2 (.own 57 (some g2) 1 [.agg [.sl (s.p.map thrV), .sl (s.es.map Evt.V), .sl (s.ds.map Do.V)]]))
    (fun k => k ≤ a ∧ bkI s.es s.ds a k = R) (fun k => k) a ⟨Nat.le_refl _, hR⟩ ?_ ?_
  · (refine Less.start ?_; repeat (first | exact LessO.nil | exact LessO.all | refine LessO.skip (by decide) ?_ | refine LessO.upd ?_ ?_ | refine LessO.set ?_ ?_)) <;> (try simp (maxSteps := 1000000) (disch := omega) only [push_cast, go_sem, wpS_tt, wpS_tf, wpS_ft, wpS_ff, wpCond_tt, wpCond_ff, simprocAttr])
  rintro k ⟨hk, hb⟩ J hJ
  refine Sat.of (S := []) (by kernel_rfl) ?_
  obtain ⟨d, hd⟩ : ∃ d, s.ds[k]? = some d := ⟨_, List.getElem?_eq_getElem (by omega)⟩
  have hlt : k < s.ds.length := by omega
  have hkd : kd s.ds k = d.k := by rw [kd, hd]; rfl
  cases h7 : (d.k == 7)
  rotate_left
  · have n7 : (d.k != 7) = false := by simp [bne, h7]
    have hRk : R = some k := by
      rw [← hb]
      cases k with
      | zero => rw [bkI, hkd, h7]; rfl
      | succ k => rw [bkI, hkd, h7]; rfl
    obtain ⟨o1, o2, o3, o4⟩ := ho k (hR.trans hRk)
    subst hRk
    simp (maxSteps := 1000000) (disch := omega) only [push_cast, go_sem, wpS_tt, wpS_tf, wpS_ft, wpS_ff, wpCond_tt, wpCond_ff, simprocAttr, hd, hlt, Do.V_eq, n7]
    refine Sat.of (S := []) (by kernel_rfl) ?_
    simp (maxSteps := 1000000) (disch := omega) only [push_cast, go_sem, wpS_tt, wpS_tf, wpS_ft, wpS_ff, wpCond_tt, wpCond_ff, simprocAttr]
    refine Sat.loop (σ := Nat) (fun j => upd (upd (upd (upd noT 1 (.int .i64 a)) 2 (.ptr 2 [] 0 0 g2 3)) 4 (.int .i64 k)) 5 (.int .i64 j)) (fun _ => noM.set 2 (.own 57 (some g2) 1 [.agg [.sl (s.p.map thrV), .sl (s.es.map Evt.V), .sl (s.ds.map Do.V)]]))
      (fun j => k ≤ j ∧ j ≤ t) (fun j => t - j) k ⟨Nat.le_refl _, o1⟩ ?_ ?_
    · (refine Less.start ?_; repeat (first | exact LessO.nil | exact LessO.all | refine LessO.skip (by decide) ?_ | refine LessO.upd ?_ ?_ | refine LessO.set ?_ ?_)) <;> (try simp (maxSteps := 1000000) (disch := omega) only [push_cast, go_sem, wpS_tt, wpS_tf, wpS_ft, wpS_ff, wpCond_tt, wpCond_ff, simprocAttr])
    rintro j ⟨hj1, hj2⟩ J2 hJ2
    refine Sat.of (S := []) (by kernel_rfl) ?_
    obtain ⟨dj, hdj⟩ : ∃ d, s.ds[j]? = some d := ⟨_, List.getElem?_eq_getElem (by omega)⟩
    have hltj : j < s.ds.length := by omega
    have hkj : kd s.ds j = dj.k := by rw [kd, hdj]; rfl
    by_cases hjt : j = t
    · subst hjt
      have n8 : (dj.k != 8) = false := by rw [← hkj, o3]; rfl
      simp (maxSteps := 1000000) (disch := omega) only [push_cast, go_sem, wpS_tt, wpS_tf, wpS_ft, wpS_ff, wpCond_tt, wpCond_ff, simprocAttr, hdj, hltj, Do.V_eq, n8, insR]
      simp
    · have n8 : (dj.k != 8) = true := by have := o4 j hj1 (by omega); rw [hkj] at this; simpa [bne] using this
      simp (maxSteps := 1000000) (disch := omega) only [push_cast, go_sem, wpS_tt, wpS_tf, wpS_ft, wpS_ff, wpCond_tt, wpCond_ff, simprocAttr, hdj, hltj, Do.V_eq, n8]
      refine hJ2 (j + 1) _ _ ⟨by omega, by omega⟩ (by omega) ?_
      (refine Less.start ?_; repeat (first | exact LessO.nil | exact LessO.all | refine LessO.skip (by decide) ?_ | refine LessO.upd ?_ ?_ | refine LessO.set ?_ ?_)) <;> (try simp (maxSteps := 1000000) (disch := omega) only [push_cast, go_sem, wpS_tt, wpS_tf, wpS_ft, wpS_ff, wpCond_tt, wpCond_ff, simprocAttr])
  have n7 : (d.k != 7) = true := by simp [bne, h7]
  cases h8 : (!(k == a) && d.k == 8)
  rotate_left
  · have hRk : R = none := by
      rw [← hb]
      cases k with
      | zero => rw [bkI, hkd, h7]; rfl
      | succ k => rw [bkI, hkd, h7, h8]; rfl
    rw [Bool.and_eq_true] at h8
    have na : ((k : Int) != a) = true := by have := h8.1; simp at this ⊢; omega
    have h88 := h8.2
    subst hRk
    simp (maxSteps := 1000000) (disch := omega) only [push_cast, go_sem, wpS_tt, wpS_tf, wpS_ft, wpS_ff, wpCond_tt, wpCond_ff, simprocAttr, hd, hlt, Do.V_eq, n7, na, h88, insR]
  · have hbr : ∀ (K : Prop), (((k : Int) != a) = false → K) → (((k : Int) != a) = true → (d.k == 8) = false → K) → K := fun K k1 k2 => by
      cases hna : ((k : Int) != a)
      · exact k1 hna
      · refine k2 hna ?_
        have : (!(k == a)) = true := by simp at hna ⊢; omega
        rw [this, Bool.true_and] at h8; exact h8
    rcases Nat.eq_zero_or_pos k with hk0 | hk0
    · have hRk : R = none := by subst hk0; rw [← hb, bkI, hkd, h7]; rfl
      subst hRk
      subst hk0
      refine hbr _ (fun na => ?_) (fun na n8 => ?_)
      all_goals
        first | simp (maxSteps := 1000000) (disch := omega) only [push_cast, go_sem, wpS_tt, wpS_tf, wpS_ft, wpS_ff, wpCond_tt, wpCond_ff, simprocAttr, hd, hlt, Do.V_eq, n7, na, insR] | simp (maxSteps := 1000000) (disch := omega) only [push_cast, go_sem, wpS_tt, wpS_tf, wpS_ft, wpS_ff, wpCond_tt, wpCond_ff, simprocAttr, hd, hlt, Do.V_eq, n7, na, n8, insR]
        exact ⟨by omega, fun _ => by omega⟩
    obtain ⟨k1, hk1⟩ : ∃ k1, k = k1 + 1 := ⟨k - 1, by omega⟩
    obtain ⟨ek, hek⟩ : ∃ e, s.es[k1]? = some e := ⟨_, List.getElem?_eq_getElem (by omega)⟩
    have hke : k1 < s.es.length := by omega
    have hthk : th s.es k1 = ek.t := by rw [th, hek]; rfl
    have hkm : (k : Int) - 1 = (k1 : Int) := by omega
    have hge0 : ¬ ((k1 : Int) < 0) := by omega
    have hb' : (if (ek.t != ea.t) = true then none else bkI s.es s.ds a k1) = R := by
      rw [hk1] at hb hkd h8
      rw [bkI, hkd, h7, h8, hthk, hta] at hb
      simpa using hb
    cases hth : (ek.t != ea.t)
    · rw [hth] at hb'
      simp only [Bool.false_eq_true, if_false] at hb'
      refine hbr _ (fun na => ?_) (fun na n8 => ?_)
      · simp (maxSteps := 1000000) (disch := omega) only [push_cast, go_sem, wpS_tt, wpS_tf, wpS_ft, wpS_ff, wpCond_tt, wpCond_ff, simprocAttr, hd, hlt, Do.V_eq, Evt.V_eq, n7, na, hkm, hek, hke, hth, hge0]
        refine hJ k1 _ _ ⟨by omega, hb'⟩ (by omega) ?_
        (refine Less.start ?_; repeat (first | exact LessO.nil | exact LessO.all | refine LessO.skip (by decide) ?_ | refine LessO.upd ?_ ?_ | refine LessO.set ?_ ?_)) <;> (try simp (maxSteps := 1000000) (disch := omega) only [push_cast, go_sem, wpS_tt, wpS_tf, wpS_ft, wpS_ff, wpCond_tt, wpCond_ff, simprocAttr])
      · simp (maxSteps := 1000000) (disch := omega) only [push_cast, go_sem, wpS_tt, wpS_tf, wpS_ft, wpS_ff, wpCond_tt, wpCond_ff, simprocAttr, hd, hlt, Do.V_eq, Evt.V_eq, n7, na, n8, hkm, hek, hke, hth, hge0]
        refine hJ k1 _ _ ⟨by omega, hb'⟩ (by omega) ?_
        (refine Less.start ?_; repeat (first | exact LessO.nil | exact LessO.all | refine LessO.skip (by decide) ?_ | refine LessO.upd ?_ ?_ | refine LessO.set ?_ ?_)) <;> (try simp (maxSteps := 1000000) (disch := omega) only [push_cast, go_sem, wpS_tt, wpS_tf, wpS_ft, wpS_ff, wpCond_tt, wpCond_ff, simprocAttr])
    · rw [hth] at hb'
      simp only [if_true] at hb'
      subst hb'
      refine hbr _ (fun na => ?_) (fun na n8 => ?_)
      · simp (maxSteps := 1000000) (disch := omega) only [push_cast, go_sem, wpS_tt, wpS_tf, wpS_ft, wpS_ff, wpCond_tt, wpCond_ff, simprocAttr, hd, hlt, Do.V_eq, Evt.V_eq, n7, na, hkm, hek, hke, hth, hge0, insR]
      · simp (maxSteps := 1000000) (disch := omega) only [push_cast, go_sem, wpS_tt, wpS_tf, wpS_ft, wpS_ff, wpCond_tt, wpCond_ff, simprocAttr, hd, hlt, Do.V_eq, Evt.V_eq, n7, na, n8, hkm, hek, hke, hth, hge0, insR]

def hasB (own read over apart wa rb lo : Bool) (kind : Int) : Bool :=
  if kind == 1 then own || read || over else if kind == 2 then (own && !(wa && rb)) || (read && apart) || over else (own && lo) || ((read || over) && apart)
theorem has_fn (s : Sc) (x : Exe) (kind : Int) (a b : Nat) (ha : a < s.ds.length) (hb : b < s.ds.length) (hes : s.es.length = s.ds.length) (hx : Fit s.ds x) (lo : Bool)
    (hlo : Fp Tryz.prog 79 [s.V, .int .i64 a, .int .i64 b] (.bool lo)) : Fp Tryz.prog 44 [s.V, x.V, .int .i64 kind, .int .i64 a, .int .i64 b]
      (.bool (hasB (ownB s.es a b) (x.fr[b]?.getD 0 == a) (overB s.ds x a b) (th s.es a != th s.es b) (s.ds[a]?.getD default).writes (s.ds[b]?.getD default).reads lo kind)) := by
  obtain ⟨da, hda⟩ : ∃ e, s.ds[a]? = some e := ⟨_, List.getElem?_eq_getElem ha⟩
  obtain ⟨db, hdb⟩ : ∃ e, s.ds[b]? = some e := ⟨_, List.getElem?_eq_getElem hb⟩
  obtain ⟨ea, hea⟩ : ∃ e, s.es[a]? = some e := ⟨_, List.getElem?_eq_getElem (by omega)⟩
  obtain ⟨eb, heb⟩ : ∃ e, s.es[b]? = some e := ⟨_, List.getElem?_eq_getElem (by omega)⟩
  obtain ⟨z, hz⟩ : ∃ z, x.fr[b]? = some z := ⟨_, List.getElem?_eq_getElem (by rw [hx.fr]; exact hb)⟩
  have hbf : b < x.fr.length := by rw [hx.fr]; exact hb
  have hae : a < s.es.length := by omega
  have hbe : b < s.es.length := by omega
  have hown := own_fn s a b (by omega) (by omega)
  have hover := over_fn s x a b ha hb hx
  obtain ⟨ow, how⟩ : ∃ v, ownB s.es a b = v := ⟨_, rfl⟩
  obtain ⟨ov, hov⟩ : ∃ v, overB s.ds x a b = v := ⟨_, rfl⟩
  obtain ⟨ap, hap⟩ : ∃ v, (ea.t != eb.t) = v := ⟨_, rfl⟩
  obtain ⟨rd, hrd⟩ : ∃ v, (z == (a : Int)) = v := ⟨_, rfl⟩
  have e1 : s.ds[a]?.getD default = da := by rw [hda]; rfl
  have e2 : s.ds[b]?.getD default = db := by rw [hdb]; rfl
  have e3 : th s.es a = ea.t := by rw [th, hea]; rfl
  have e4 : th s.es b = eb.t := by rw [th, heb]; rfl
  have e5 : x.fr[b]?.getD 0 = z := by rw [hz]; rfl
  rw [e1, e2, e3, e4, e5, how, hov, hap, hrd]
  rw [how] at hown
  rw [hov] at hover
  rw [Sc.V_eq] at hown hover hlo
  rw [Exe.V_eq] at hover
  refine Fc.start (S := [3]) Tryz.func44 Tryz.ntmps44 Tryz.results44 rfl (by decide) rfl (by kernel_rfl) ?_
  simp (maxSteps := 1000000) (disch := omega) only [push_cast, go_sem, wpS_tt, wpS_tf, wpS_ft, wpS_ff, wpCond_tt, wpCond_ff, simprocAttr, Sc.V_eq, Exe.V_eq]
  intro g5 g6
  refine Sat.drawnE [] [] (List.range 19) (pureT [(56, .bool ow), (57, .bool ov)]) (by kernel_rfl) (by kernel_rfl) ?_
  simp (maxSteps := 1000000) (disch := omega) only [push_cast, go_sem, wpS_tt, wpS_tf, wpS_ft, wpS_ff, wpCond_tt, wpCond_ff, simprocAttr]
  refine runD_pure rfl hown rfl rfl ?_ ?_
  · rfl
  simp (maxSteps := 1000000) (disch := omega) only [push_cast, go_sem, wpS_tt, wpS_tf, wpS_ft, wpS_ff, wpCond_tt, wpCond_ff, simprocAttr, hz, hbf, hrd]
  refine runD_pure rfl hover rfl rfl ?_ ?_
  · rfl
  simp (maxSteps := 1000000) (disch := omega) only [push_cast, go_sem, wpS_tt, wpS_tf, wpS_ft, wpS_ff, wpCond_tt, wpCond_ff, simprocAttr]
  refine Sat.drawnE [] [] (List.range 14) (fun _ _ _ => none) (by kernel_rfl) (by kernel_rfl) ?_
  simp (maxSteps := 1000000) (disch := omega) only [push_cast, go_sem, wpS_tt, wpS_tf, wpS_ft, wpS_ff, wpCond_tt, wpCond_ff, simprocAttr, hea, heb, hae, hbe, Evt.V_eq, hap]
  refine Sat.of (S := []) (by kernel_rfl) ?_
  have hlo' : ow = ow := rfl
  cases hk1 : (kind == 1)
  rotate_left
  · cases ow <;> cases rd <;> cases ov <;> simp (maxSteps := 1000000) (disch := omega) only [push_cast, go_sem, wpS_tt, wpS_tf, wpS_ft, wpS_ff, wpCond_tt, wpCond_ff, simprocAttr, hk1, hasB]
  cases hk2 : (kind == 2)
  rotate_left
  · cases ow
    · cases rd <;> cases ap <;> cases ov <;> simp (maxSteps := 1000000) (disch := omega) only [push_cast, go_sem, wpS_tt, wpS_tf, wpS_ft, wpS_ff, wpCond_tt, wpCond_ff, simprocAttr, hk1, hk2, hasB]
    · simp (maxSteps := 1000000) (disch := omega) only [push_cast, go_sem, wpS_tt, wpS_tf, wpS_ft, wpS_ff, wpCond_tt, wpCond_ff, simprocAttr, hk1, hk2, hda, ha, Do.V_eq]
      refine callR.pure (writes_fn da) rfl rfl ?_
      cases hw : da.writes
      · cases rd <;> cases ap <;> cases ov <;> simp (maxSteps := 1000000) (disch := omega) only [push_cast, go_sem, wpS_tt, wpS_tf, wpS_ft, wpS_ff, wpCond_tt, wpCond_ff, simprocAttr, hk1, hk2, hw, hasB]
      · simp (maxSteps := 1000000) (disch := omega) only [push_cast, go_sem, wpS_tt, wpS_tf, wpS_ft, wpS_ff, wpCond_tt, wpCond_ff, simprocAttr, hk1, hk2, hw, hdb, hb, Do.V_eq]
        refine callR.pure (reads_fn db) rfl rfl ?_
        cases hr : db.reads <;> cases rd <;> cases ap <;> cases ov <;> simp (maxSteps := 1000000) (disch := omega) only [push_cast, go_sem, wpS_tt, wpS_tf, wpS_ft, wpS_ff, wpCond_tt, wpCond_ff, simprocAttr, hk1, hk2, hw, hr, hasB]
  cases ow
  · cases rd <;> cases ap <;> cases ov <;> simp (maxSteps := 1000000) (disch := omega) only [push_cast, go_sem, wpS_tt, wpS_tf, wpS_ft, wpS_ff, wpCond_tt, wpCond_ff, simprocAttr, hk1, hk2, hasB]
  · simp (maxSteps := 1000000) (disch := omega) only [push_cast, go_sem, wpS_tt, wpS_tf, wpS_ft, wpS_ff, wpCond_tt, wpCond_ff, simprocAttr, hk1, hk2]
    refine callR.pure hlo rfl rfl ?_
    cases lo <;> cases rd <;> cases ap <;> cases ov <;> simp (maxSteps := 1000000) (disch := omega) only [push_cast, go_sem, wpS_tt, wpS_tf, wpS_ft, wpS_ff, wpCond_tt, wpCond_ff, simprocAttr, hk1, hk2, hasB]
end Go.Proofs.YtfdbminedccccaaGreatDoor
/-! ## Rows of rows; calls that make rows; all orders of a list -/
namespace Go.Proofs.YtfdbminedccccaaGreatDoor
open Go.RowKit
set_option linter.unusedSimpArgs false
set_option linter.unusedVariables false
set_option pp.maxSteps 3000

section
variable {P : Program} {M : Mem} {k : V → Mem → Prop}
/-- A function that hands over a new object answers what stays. -/
theorem Fc.fzRow {f : FuncId} {args X : List V} {R' : Post} (h : Fc P f args noM R') (hR : ∀ r m, R' r m → ∃ s γ cap e es, r = .msl s [] γ es.length cap ∧ m s = some (.own e γ cap es) ∧ es.map V.fz = X) : Fp P f args (.sl X) := by
  refine ⟨fun imm w vals hG hI hi hs hv => (h.fn imm w vals hG hI hi hs hv).mono ?_, h.go⟩
  rintro e' w' ⟨v, r, m, imm', rfl, hq, hr, hS⟩
  obtain ⟨s, γ, cap, e, es, rfl, hm, rfl⟩ := hR r m hq
  cases hr
  obtain ⟨h1, h2, h3⟩ := hS.inv.freeze (o := s) (e := e) (γ := γ) (cap := cap) (es := es) hm
  refine ⟨_, _, noM, _, rfl, ⟨rfl, rfl⟩, h2, ⟨inv_no, fun g hg => hg.elim (hS.lt g) (fun hb => (h3 g hb).1), hS.size, hS.os, hS.tape, hS.output, fun g hg hno => ⟨(hS.block g hg hno).1, ?_⟩, fun g hg => absurd hg not_owns_no⟩⟩
  constructor
  · rintro (h | h)
    · exact (hS.block g hg hno).2.1 h
    · rcases hS.owns g (h3 g h).2 with h | h
      · exact absurd h not_owns_no
      · omega
  · exact fun h => .inl ((hS.block g hg hno).2.2 h)
theorem callR.row {f : FuncId} {xs : List V} {d n : Nat} {e : TypeId} {es : List V} (h : Fc P f xs noM fun r m => ∃ γ cap, r = .msl 100 [] γ n cap ∧ m = noM.set 100 (.own e γ cap es)) (hk : (xs.all fun v => v.key.isNone) = true) (h9 : Nat.ble xs.length 90 = true)
    (hK : ∀ γ cap, runV (some (True, det (.msl d [] γ n cap) (M.set d (.own e γ cap es)))) k .mk) : callR P f xs (some d) M k .mk := by
  refine callR.new (Q := fun r ob => ∃ γ cap, r = .msl 100 [] γ n cap ∧ ob = .own e γ cap es) ⟨fun imm w vals hG hI hi hs hv => (h.fn imm w vals hG hI hi hs hv).mono ?_, h.go⟩ hk h9 ?_
  · rintro e' w' ⟨v, r, m, imm', h1, ⟨γ, cap, h2, h3⟩, h4, h5⟩
    exact ⟨v, r, m, imm', h1, ⟨_, ⟨γ, cap, h2, rfl⟩, h3⟩, h4, h5⟩
  · rintro r ob ⟨γ, cap, rfl, rfl⟩
    exact hK γ cap
/-- A call that takes a row and answers one. -/
theorem callR.take {f : FuncId} {bs : List V} {a d l cap l' cap' : Nat} {γ γ' : Option Nat} {o o' : V} (h : Fc P f (.msl 0 [] γ l cap :: bs) (noM.set 0 o) fun r m => r = .msl 100 [] γ' l' cap' ∧ m = noM.set 100 o') (hM : M a = some o) (hk : (bs.all fun v => v.key.isNone) = true) (h9 : Nat.ble (bs.length + 1) 90 = true)
    (hK : runV (some (True, det (.msl d [] γ' l' cap') ((M.era a).set d o'))) k .mk) : callR P f (.msl a [] γ l cap :: bs) (some d) M k .mk := by
  have hk' : ((bs.map V.key).all fun x => x.isNone) = true := by rw [List.all_map]; exact hk
  refine callR.intro (F := noM.set 0 o) (R := fun r m => r = .msl 100 [] γ' l' cap' ∧ m = noM.set 100 o') (by rw [renArgs_cons, renArgs_none hk]; exact h) ?_ (Nat.le_of_ble_eq_true h9) ?_ ?_
  · rw [List.map_cons, List.filterMap_cons]
    show (a :: (bs.map V.key).filterMap id).Nodup
    rw [keys_none hk']; simp
  · exact Sub.set Sub.no (by simp [footM, V.key, hM])
  · rintro r0 Mf ⟨rfl, rfl⟩
    have : mergeM M ((V.msl a [] γ l cap :: bs).map V.key) (some d) (noM.set 100 o') = (M.era a).set d o' := by
      rw [merge_eq, List.map_cons]
      have e1 : (noM.set 100 o') 100 = some o' := rfl
      have e2 : (noM.set 100 o') 0 = none := rfl
      rw [e1, mgD_some, key_msl, mg_some, e2, mg_all_none hk', MemU_none]
    rw [this]
    exact (runV_det.1 hK).2
end

@[push_cast] theorem flatC_cons {e : TypeId} {γ : Option Nat} {c : Nat} {x : V} {xs : List V} : (V.own e γ c (x :: xs)).flatC = false := by cases γ <;> cases c <;> rfl
@[push_cast] theorem flatC_snoc {e : TypeId} {γ : Option Nat} {c : Nat} {x : V} {xs : List V} : (V.own e γ c (xs ++ [x])).flatC = false := by cases xs <;> exact flatC_cons
/-- A row of numbers that is owned. -/
structure RowI where
  γ : Option Nat
  c : Nat
  l : List Int
def RowI.V (x : RowI) : V := .own 3 x.γ x.c (x.l.map (V.int .i64))
theorem RowI.V_eq (x : RowI) : x.V = .own 3 x.γ x.c (x.l.map (V.int .i64)) := rfl
theorem fz_rowI (x : RowI) : x.V.fz = intsV x.l := by simp only [RowI.V, V.fz, fzs_map, fzs_int, intsV]
theorem fz_rowsI (xs : List RowI) : (xs.map RowI.V).map V.fz = (xs.map RowI.l).map intsV := by
  rw [List.map_map, List.map_map]; exact List.map_congr_left fun d _ => fz_rowI d

/-- All orders of a list, as the program puts them. -/
def perms : Nat → List Int → List (List Int)
  | 0, _ => [[]]
  | n + 1, l => (List.range l.length).flatMap fun i => (perms n (l.eraseIdx i)).map (l.getD i 0 :: ·)
def permsK (n : Nat) (l : List Int) (k : Nat) : List (List Int) := (List.range k).flatMap fun i => (perms n (l.eraseIdx i)).map (l.getD i 0 :: ·)
theorem permsK_succ (n : Nat) (l : List Int) (k : Nat) : permsK n l (k + 1) = permsK n l k ++ (perms n (l.eraseIdx k)).map (l.getD k 0 :: ·) := by
  simp [permsK, List.range_succ]
def fac : Nat → Nat
  | 0 => 1
  | n + 1 => (n + 1) * fac n
theorem perms_len : ∀ {n : Nat} {l : List Int}, l.length = n → (perms n l).length = fac n
  | 0, l, h => rfl
  | n + 1, l, h => by
    have key : ∀ k, k ≤ l.length → (permsK n l k).length = k * fac n := by
      intro k hk
      induction k with
      | zero => simp [permsK]
      | succ k ih =>
        rw [permsK_succ, List.length_append, List.length_map, ih (by omega), perms_len (n := n) (by rw [List.length_eraseIdx_of_lt (by omega)]; omega), Nat.succ_mul]
    have := key l.length (Nat.le_refl _)
    rw [h] at this
    simpa [perms, permsK, h, fac] using this
theorem permsK_len {n : Nat} {l : List Int} (h : l.length = n + 1) {k : Nat} (hk : k ≤ l.length) : (permsK n l k).length = k * fac n := by
  induction k with
  | zero => simp [permsK]
  | succ k ih =>
    rw [permsK_succ, List.length_append, List.length_map, ih (by omega), perms_len (n := n) (by rw [List.length_eraseIdx_of_lt (by omega)]; omega), Nat.succ_mul]
theorem perms_row : ∀ {n : Nat} {l row : List Int}, l.length = n → row ∈ perms n l → row.length = n
  | 0, l, row, _, h => by simp [perms] at h; subst h; rfl
  | n + 1, l, row, hl, h => by
    simp only [perms, List.mem_flatMap, List.mem_range, List.mem_map] at h
    obtain ⟨i, hi, r, hr, rfl⟩ := h
    rw [List.length_cons, perms_row (n := n) (by rw [List.length_eraseIdx_of_lt hi]; omega) hr]
theorem fac_le : ∀ {n : Nat}, n ≤ 6 → fac n ≤ 720 := by decide

end Go.Proofs.YtfdbminedccccaaGreatDoor
/-! ## Contracts: all that may be told of whom events read from; of the order at places -/
namespace Go.Proofs.YtfdbminedccccaaGreatDoor
open Go.RowKit
set_option linter.unusedSimpArgs false
set_option linter.unusedVariables false
set_option pp.maxSteps 3000

def choicesOf (ds : List Do) (d : Do) : List Int := if d.reads then -1 :: writersOf ds d.p else [-2]
def fromsK (ds : List Do) : Nat → List (List Int)
  | 0 => [[]]
  | k + 1 => match ds[k]? with
    | some d => (fromsK ds k).flatMap fun h => (choicesOf ds d).map fun c => h ++ [c]
    | none => fromsK ds k
def fromsOf (ds : List Do) : List (List Int) := fromsK ds ds.length
theorem fromsK_row {ds : List Do} : ∀ {k : Nat} {r : List Int}, r ∈ fromsK ds k → r.length ≤ k
  | 0, r, h => by simp [fromsK] at h; subst h; simp
  | k + 1, r, h => by
    unfold fromsK at h
    split at h
    · simp only [List.mem_flatMap, List.mem_map] at h
      obtain ⟨h0, h1, c, _, rfl⟩ := h
      have := fromsK_row h1
      simp; omega
    · have := fromsK_row h; omega
theorem flatMap_len {α β : Type} {f : α → List β} {n : Nat} (hf : ∀ a, (f a).length = n) : ∀ l : List α, (l.flatMap f).length = l.length * n
  | [] => by simp
  | a :: l => by simp only [List.flatMap_cons, List.length_append, hf, flatMap_len hf l, List.length_cons, Nat.succ_mul]; omega
end Go.Proofs.YtfdbminedccccaaGreatDoor
/-! ## A row of rows is cloned -/
namespace Go.Proofs.YtfdbminedccccaaGreatDoor
open Go.RowKit
set_option linter.unusedSimpArgs false
set_option linter.unusedVariables false
set_option pp.maxSteps 3000

theorem infoR : (Tryz.prog.info? 26).map (fun i => (i.zero, i.size, i.bytes)) = some (some (.slice none 0 0), 1, 24) := by kernel_rfl
section
variable {P : Program} {imm : Nat → Prop} {w : World}
/-- Rows that stay, in a row that stays. -/
theorem Rp.plain_inv {es : List V} {v : Value} (hp : ∀ x ∈ es, plainE x) (h : Rp imm w (.sl es) v) : ∃ A c, v = .slice A es.length c ∧
    (es ≠ [] → ∃ (g off : Nat) (us : List Value), A = some ⟨g, off, none⟩ ∧ us.length = es.length ∧ (∀ (j : Nat) (u : Value), us[j]? = some u → w.cell? ⟨g, off + j, none⟩ = some u) ∧ ∀ (i : Nat) (x : V), es[i]? = some x → ∃ u, us[i]? = some u ∧ Rp imm w x u) := by
  cases h with
  | sl0 A c => exact ⟨A, c, rfl, fun h => absurd rfl h⟩
  | sl _ g off cap n cur t fr f hi hg hk hl hc hv =>
    refine ⟨_, cap, rfl, fun hne => ⟨g, off, (List.range es.length).map fun j => f j 0, rfl, by simp, fun j u hu => ?_, fun i x hx => ?_⟩⟩
    · rw [List.getElem?_map, Option.map_eq_some_iff] at hu
      obtain ⟨j', hj', rfl⟩ := hu
      obtain ⟨hjl, rfl⟩ : j < es.length ∧ j' = j := by
        have := List.getElem?_eq_some_iff.1 hj'
        obtain ⟨h1, h2⟩ := this
        simp at h1 h2
        exact ⟨h1, h2.symm⟩
      have hx : es[j']? = some es[j'] := List.getElem?_eq_getElem hjl
      have hpx := hp _ (List.mem_of_getElem? hx)
      have hn : n = 1 := by have := hl j' _ hx; rw [hpx.1] at this; simpa using this.symm
      subst hn
      have := hc j' _ 0 es[j'] hx (by rw [hpx.1]; rfl)
      unfold World.cell?
      simp only [hg]
      simpa using this
    · have hpx := hp _ (List.mem_of_getElem? hx)
      have hlt := (List.getElem?_eq_some_iff.1 hx).1
      exact ⟨f i 0, by rw [List.getElem?_map, List.getElem?_range hlt]; rfl, hv i x 0 x hx (by rw [hpx.1]; rfl)⟩
end
theorem plain_intsV (rows : List (List Int)) : ∀ x ∈ rows.map intsV, plainE x := by
  intro x hx; obtain ⟨z, _, rfl⟩ := List.mem_map.1 hx; exact plain_sl _
end Go.Proofs.YtfdbminedccccaaGreatDoor
/-! ## Contracts: all that may be told of the order at places -/
namespace Go.Proofs.YtfdbminedccccaaGreatDoor
open Go.RowKit
set_option linter.unusedSimpArgs false
set_option linter.unusedVariables false
set_option pp.maxSteps 3000

def rowsV (l : List (List Int)) : V := .sl (l.map intsV)
theorem rowsV_eq (l : List (List Int)) : rowsV l = .sl (l.map intsV) := rfl
def permsOf (l : List Int) : List (List Int) := perms l.length l
def ordersK (ds : List Do) : Nat → List (List (List Int))
  | 0 => [[]]
  | k + 1 => (ordersK ds k).flatMap fun h => (permsOf (writersOf ds k)).map fun r => h ++ [r]
def ordersOf (ds : List Do) : List (List (List Int)) := ordersK ds 3
theorem ordersK_row {ds : List Do} : ∀ {k : Nat} {r : List (List Int)}, r ∈ ordersK ds k → r.length = k
  | 0, r, h => by simp [ordersK] at h; subst h; simp
  | k + 1, r, h => by
    simp only [ordersK, List.mem_flatMap, List.mem_map] at h
    obtain ⟨h0, h1, c, _, rfl⟩ := h
    have := ordersK_row h1
    simp; omega
/-- A row of rows that is owned; the rows stay. -/
structure RowR where
  γ : Option Nat
  c : Nat
  l : List (List Int)
def RowR.V (x : RowR) : V := .own 26 x.γ x.c (x.l.map intsV)
theorem RowR.V_eq (x : RowR) : x.V = .own 26 x.γ x.c (x.l.map intsV) := rfl
@[push_cast] theorem fz_intsV (l : List Int) : (intsV l).fz = intsV l := by simp only [intsV, V.fz]
@[push_cast] theorem fzs_rows (l : List (List Int)) : (l.map intsV).map V.fz = l.map intsV := by rw [List.map_map]; exact List.map_congr_left fun d _ => fz_intsV d
theorem fz_rowR (x : RowR) : x.V.fz = rowsV x.l := by simp only [RowR.V, V.fz, fzs_map, fzs_rows, rowsV]
theorem fz_rowsR (xs : List RowR) : (xs.map RowR.V).map V.fz = (xs.map RowR.l).map rowsV := by
  rw [List.map_map, List.map_map]; exact List.map_congr_left fun d _ => fz_rowR d
end Go.Proofs.YtfdbminedccccaaGreatDoor
/-! ## Contracts: all ways -/
namespace Go.Proofs.YtfdbminedccccaaGreatDoor
open Go.RowKit
set_option linter.unusedSimpArgs false
set_option linter.unusedVariables false
set_option pp.maxSteps 3000

section
variable {P : Program} {M : Mem} {k : V → Mem → Prop} {c : Bool}
/-- A call, in a drawn region, that makes a row. -/
theorem runD_row {spec : Table} {fn : FuncId} {args : List V} {d n : Nat} {e : TypeId} {es : List V} (h : spec fn args noM = some fun r m => ∃ γ cap, r = .msl 100 [] γ n cap ∧ m = noM.set 100 (.own e γ cap es))
    (hc : Fc P fn args noM fun r m => ∃ γ cap, r = .msl 100 [] γ n cap ∧ m = noM.set 100 (.own e γ cap es)) (hk : (args.all fun v => v.key.isNone) = true) (h9 : Nat.ble args.length 90 = true) (hchk : c = true)
    (hK : ∀ γ cap, runV (some (True, det (.msl d [] γ n cap) (M.set d (.own e γ cap es)))) k .mk) : runD (callV (specT P spec) fn args (some d) M) false M c k .mk := by
  have hk' : ((args.map V.key).all fun x => x.isNone) = true := by rw [List.all_map]; exact hk
  have hf : footM M (args.map V.key) = noM := by
    funext i
    simp only [footM, noM]
    cases hi : (args.map V.key)[i]? with
    | none => rfl
    | some x =>
      have := List.all_eq_true.1 hk' x (List.mem_of_getElem? hi)
      cases x with
      | none => rfl
      | some _ => cases this
  refine runD_call (F := noM) (R := fun r m => ∃ γ cap, r = .msl 100 [] γ n cap ∧ m = noM.set 100 (.own e γ cap es)) (by rw [renArgs_none hk, hf]; exact h) (by rw [renArgs_none hk]; exact hc) Sub.no (by rw [keys_none hk']; exact List.nodup_nil) (Nat.le_of_ble_eq_true h9) ⟨_, _, none, 0, rfl, rfl⟩ nofun hchk ?_
  rintro r0 r Mf ⟨γ, cap, rfl, rfl⟩ h5
  have e1 : (noM.set 100 (.own e γ cap es)) 100 = some (.own e γ cap es) := rfl
  rw [merge_eq, mg_all_none hk', e1, mgD_some, h5 d rfl]
  exact (runV_det.1 (hK γ cap)).2
end

theorem fz_Exe (x : Exe) : x.V.fz = x.V := by simp only [Exe.V, V.fz, fzs_map, List.map_cons, List.map_nil]
@[push_cast] theorem fzs_Exe (l : List Exe) : (l.map Exe.V).map V.fz = l.map Exe.V := by rw [List.map_map]; exact List.map_congr_left fun d _ => fz_Exe d
@[push_cast] theorem flatL_Exe (l : List Exe) : flatL (l.map Exe.V) = true := by simp [flatL, V.cells, V.flatC, Exe.V]
@[push_cast] theorem okY_Exe (l : List Exe) : okY Tryz.prog 29 (l.map Exe.V) = True := by
  simp only [okY, List.mem_map, eq_iff_iff, iff_true]
  rintro y ⟨d, _, rfl⟩
  exact ⟨by rw [szT_29]; rfl, by simp [Exe.V, V.cells, V.one]⟩
def oneOf (s : Sc) (f : List Int) (o : List (List Int)) : List Exe := if okX s ⟨f, o⟩ then [⟨f, o⟩] else []
def allOf (s : Sc) : List Exe := (fromsOf s.ds).flatMap fun f => (ordersOf s.ds).flatMap fun o => oneOf s f o
theorem flatMap_le {α β : Type} {f : α → List β} {n : Nat} (hf : ∀ a, (f a).length ≤ n) : ∀ l : List α, (l.flatMap f).length ≤ l.length * n
  | [] => by simp
  | a :: l => by have := flatMap_le hf l; have := hf a; simp only [List.flatMap_cons, List.length_append, List.length_cons, Nat.succ_mul]; omega
theorem oneOf_le (s : Sc) (f : List Int) (o : List (List Int)) : (oneOf s f o).length ≤ 1 := by unfold oneOf; split <;> simp
theorem ordersK_in {ds : List Do} : ∀ {k : Nat} {r : List (List Int)} {row : List Int}, r ∈ ordersK ds k → row ∈ r → row.length ≤ ds.length
  | 0, r, row, h, h2 => by simp [ordersK] at h; subst h; cases h2
  | k + 1, r, row, h, h2 => by
    simp only [ordersK, List.mem_flatMap, List.mem_map] at h
    obtain ⟨h0, h1, c, hc, rfl⟩ := h
    simp only [List.mem_append, List.mem_singleton] at h2
    rcases h2 with h2 | rfl
    · exact ordersK_in h1 h2
    · unfold permsOf at hc
      rw [perms_row rfl hc]
      exact wrs_le _ _ _
end Go.Proofs.YtfdbminedccccaaGreatDoor
/-! ## How many ways there are at most; all ways of a program -/
namespace Go.Proofs.YtfdbminedccccaaGreatDoor
open Go.RowKit
set_option linter.unusedSimpArgs false
set_option linter.unusedVariables false
set_option pp.maxSteps 3000

def usN (ds : List Do) : Nat := (ds.filter Do.uses).length
def wrN (ds : List Do) (pl : Int) : Nat := (ds.filter fun d => d.writes && d.p == pl).length
def rdN (ds : List Do) : Nat := (ds.filter Do.reads).length
theorem usN_app (a b : List Do) : usN (a ++ b) = usN a + usN b := by simp [usN]
theorem usN_evsOf {p : Prog} {t k : Nat} {l : List Do} {d : Do} (hl : p[t]? = some l) (hd : l[k]? = some d) : usN ((evsOf t k d).map (stepAt p)) = usN [d] := by
  have e : ∀ b, stepAt p ⟨t, k, b⟩ = d := fun b => by simp [stepAt, hl, hd]
  unfold evsOf
  split
  · rename_i h
    have h9 : d.k = 9 := by simpa using h
    have : d.uses = false := by simp [Do.uses, Do.reads, Do.writes, h9]
    simp [e, usN, this]
  · simp [e]
theorem usN_evThr {p : Prog} {t : Nat} {l : List Do} (hl : p[t]? = some l) : ∀ k, k ≤ l.length → usN ((evThr t l k).map (stepAt p)) = usN (l.take k)
  | 0, _ => by simp [evThr]
  | k + 1, h => by
    have hd : l[k]? = some l[k] := List.getElem?_eq_getElem (by omega)
    rw [evThr, hd, List.map_append, usN_app, usN_evThr hl k (by omega), take_get hd, usN_app]
    dsimp only
    rw [usN_evsOf hl hd]
theorem usesP_app (a b : Prog) : usesP (a ++ b) = usesP a + usesP b := by
  induction a with
  | nil => simp [usesP]
  | cons x a ih => simp only [List.cons_append, usesP, List.map_cons, List.sum_cons] at ih ⊢; omega
theorem usN_evPro {p : Prog} : ∀ i, i ≤ p.length → usN ((evPro p i).map (stepAt p)) = usesP (p.take i)
  | 0, _ => by simp [evPro, usN, usesP]
  | i + 1, h => by
    have hl : p[i]? = some p[i] := List.getElem?_eq_getElem (by omega)
    rw [evPro, hl, List.map_append, usN_app, usN_evPro i (by omega), take_get hl, usesP_app]
    dsimp only
    rw [usN_evThr hl _ (Nat.le_refl _), List.take_length]
    simp [usesP, usesOf, usN]
theorem scene_uses {p : Prog} (h : progOk p = true) : usN (scene p).ds ≤ 6 := by
  simp only [progOk, Bool.and_eq_true, decide_eq_true_eq] at h
  have := usN_evPro (p := p) p.length (Nat.le_refl _)
  rw [List.take_length] at this
  simp only [scene, events]
  omega
theorem wrs_len {ds : List Do} {pl : Int} : ∀ k, k ≤ ds.length → (wrs ds pl k).length = wrN (ds.take k) pl
  | 0, _ => by simp [wrs, wrN]
  | k + 1, h => by
    have hd : ds[k]? = some ds[k] := List.getElem?_eq_getElem (by omega)
    rw [wrs, hd, List.length_append, wrs_len k (by omega), take_get hd]
    simp only [wrN, List.filter_append, List.length_append, List.filter_cons, List.filter_nil]
    split <;> simp
theorem count_le (ds : List Do) : wrN ds 0 + wrN ds 1 + wrN ds 2 + rdN ds ≤ usN ds := by
  induction ds with
  | nil => simp [wrN, rdN, usN]
  | cons d ds ih =>
    have e : ∀ (f : Do → Bool), ((d :: ds).filter f).length = (if f d then 1 else 0) + (ds.filter f).length := fun f => by rw [List.filter_cons]; split <;> simp [Nat.add_comm]
    simp only [wrN, rdN, usN, e] at ih ⊢
    have key : (if d.writes && d.p == 0 then 1 else 0) + (if d.writes && d.p == 1 then 1 else 0) + (if d.writes && d.p == 2 then 1 else 0) + (if d.reads then 1 else 0) ≤ (if d.uses then 1 else 0) := by
      cases hw : d.writes
      · cases hr : d.reads <;> simp [Do.uses, hw, hr]
      · have hr : d.reads = false := by
          revert hw
          simp only [Do.reads, Do.writes, Bool.or_eq_true, beq_iff_eq, Bool.or_eq_false_iff, beq_eq_false_iff_ne]
          omega
        by_cases h0 : d.p = 0
        · simp [Do.uses, hw, hr, h0]
        · by_cases h1 : d.p = 1
          · simp [Do.uses, hw, hr, h1]
          · by_cases h2 : d.p = 2
            · simp [Do.uses, hw, hr, h2]
            · simp [Do.uses, hw, hr, h0, h1, h2]
    omega
/-- Few use places. -/
structure Few (ds : List Do) : Prop where
  n : wrN ds 0 + wrN ds 1 + wrN ds 2 + rdN ds ≤ 6
theorem writers_len (ds : List Do) (pl : Int) : (writersOf ds pl).length = wrN ds pl := by
  have := wrs_len (ds := ds) (pl := pl) ds.length (Nat.le_refl _)
  rwa [List.take_length] at this
theorem Few.wr {ds : List Do} (h : Few ds) : ∀ k : Nat, k < 3 → (writersOf ds k).length ≤ 6 := by
  intro k hk
  rw [writers_len]
  have := h.n
  obtain rfl | rfl | rfl : k = 0 ∨ k = 1 ∨ k = 2 := by omega
  all_goals simp only [Int.cast_ofNat_Int, Int.natCast_zero, Int.natCast_one] at *; omega
theorem wrN_any {ds : List Do} (h : usN ds ≤ 6) (pl : Int) : wrN ds pl ≤ 6 := by
  have : wrN ds pl ≤ usN ds := by
    simp only [wrN, usN]
    rw [← List.countP_eq_length_filter, ← List.countP_eq_length_filter]
    refine List.countP_mono_left fun d _ hd => ?_
    simp only [Bool.and_eq_true] at hd
    simp [Do.uses, hd.1]
  omega
theorem fromsK_len {ds : List Do} (h : usN ds ≤ 6) : ∀ k, k ≤ ds.length → (fromsK ds k).length ≤ 7 ^ rdN (ds.take k)
  | 0, _ => by simp [fromsK, rdN]
  | k + 1, hk => by
    have hd : ds[k]? = some ds[k] := List.getElem?_eq_getElem (by omega)
    have ih := fromsK_len h k (by omega)
    rw [fromsK, hd, take_get hd]
    dsimp only
    rw [flatMap_len (n := (choicesOf ds ds[k]).length) (by simp)]
    have hr : rdN (ds.take k ++ [ds[k]]) = rdN (ds.take k) + (if ds[k].reads then 1 else 0) := by
      simp only [rdN, List.filter_append, List.length_append, List.filter_cons, List.filter_nil]
      split <;> simp
    rw [hr]
    unfold choicesOf
    split
    · rw [Nat.pow_succ]
      refine Nat.mul_le_mul ih ?_
      rw [List.length_cons, writers_len]
      have := wrN_any h ds[k].p
      omega
    · simpa using ih
theorem rdN_le {ds : List Do} (h : usN ds ≤ 6) (k : Nat) : rdN (ds.take k) ≤ 6 := by
  have h1 : rdN (ds.take k) ≤ usN ds := by
    simp only [rdN, usN]
    rw [← List.countP_eq_length_filter, ← List.countP_eq_length_filter]
    refine Nat.le_trans (List.countP_mono_left (q := Do.uses) fun d _ hd => ?_) (List.Sublist.countP_le (List.take_sublist k ds))
    simp [Do.uses, hd]
  omega
theorem froms_le {ds : List Do} (h : usN ds ≤ 6) : ∀ k, k ≤ ds.length → (fromsK ds k).length ≤ 117649 := fun k hk =>
  Nat.le_trans (fromsK_len h k hk) (Nat.le_trans (Nat.pow_le_pow_right (by decide) (rdN_le h k)) (by decide))
theorem fac3f : ∀ a b c : _root_.Fin 7, a.1 + b.1 + c.1 ≤ 6 → 1 * fac a.1 ≤ 720 ∧ 1 * fac a.1 * fac b.1 ≤ 720 ∧ 1 * fac a.1 * fac b.1 * fac c.1 ≤ 720 := by decide
theorem fac3 (a : Nat) (ha : a < 7) (b : Nat) (hb : b < 7) (c : Nat) (hc : c < 7) (h : a + b + c ≤ 6) : 1 * fac a ≤ 720 ∧ 1 * fac a * fac b ≤ 720 ∧ 1 * fac a * fac b * fac c ≤ 720 := fac3f ⟨a, ha⟩ ⟨b, hb⟩ ⟨c, hc⟩ h
theorem orders_le {ds : List Do} (h : usN ds ≤ 6) : ∀ k, k ≤ 3 → (ordersK ds k).length ≤ 720 := by
  have hc := count_le ds
  have step : ∀ k : Nat, (ordersK ds (k + 1)).length = (ordersK ds k).length * fac (wrN ds k) := fun k => by
    rw [ordersK, flatMap_len (n := (permsOf (writersOf ds k)).length) (by simp)]
    unfold permsOf
    rw [perms_len rfl, writers_len]
  have h0 : (ordersK ds 0).length = 1 := rfl
  have h1 := step 0
  have h2 := step 1
  have h3 := step 2
  rw [h0] at h1
  simp only [Nat.zero_add, Nat.reduceAdd, Int.cast_ofNat_Int, Int.natCast_zero, Int.natCast_one] at h1 h2 h3
  rw [h1] at h2
  rw [h2] at h3
  obtain ⟨k1, k2, k3⟩ := fac3 (wrN ds 0) (by omega) (wrN ds 1) (by omega) (wrN ds 2) (by omega) (by omega)
  intro k hk
  obtain rfl | rfl | rfl | rfl : k = 0 ∨ k = 1 ∨ k = 2 ∨ k = 3 := by omega
  · rw [h0]; omega
  · rw [h1]; exact k1
  · rw [h2]; exact k2
  · rw [h3]; exact k3
def execAll (p : Prog) : List Exe := if progOk p then allOf (scene p) else []
end Go.Proofs.YtfdbminedccccaaGreatDoor
/-! ## Contracts of the reference: the step of an event, who writes, what is among numbers, what a copy stores -/
namespace Go.Proofs.YtfdbminedccccaaGreatDoor
open Go.RowKit
set_option linter.unusedSimpArgs false
set_option linter.unusedVariables false
set_option pp.maxSteps 3000

/-- An event of a step of the program. -/
def evIn (p : Prog) (e : Evt) : Prop := ∃ (i : Nat) (l : List Do) (j : Nat) (d : Do), p[i]? = some l ∧ l[j]? = some d ∧ e.t = i ∧ e.s = j
theorem evIn_of {p : Prog} {e : Evt} (h : e ∈ events p) : evIn p e := by
  obtain ⟨i, l, j, d, h1, h2, h3, h4, _⟩ := mem_events h
  exact ⟨i, l, j, d, h1, h2, h3, h4⟩
theorem l12Do_fn (p : Prog) (e : Evt) (he : evIn p e) : Fp Tryz.prog 92 [progV p, e.V] (stepAt p e).V := by
  obtain ⟨i, l, j, d, hl, hd, h1, h2⟩ := he
  have hst : stepAt p e = d := by simp [stepAt, h1, h2, hl, hd]
  have hil := (List.getElem?_eq_some_iff.1 hl).1
  have hjl := (List.getElem?_eq_some_iff.1 hd).1
  rw [hst]
  refine Fc.start (S := []) Tryz.func92 Tryz.ntmps92 Tryz.results92 rfl (by decide) rfl (by kernel_rfl) ?_
  simp (maxSteps := 1000000) (disch := omega) only [push_cast, go_sem, wpS_tt, wpS_tf, wpS_ft, wpS_ff, wpCond_tt, wpCond_ff, simprocAttr, progV_eq, Evt.V_eq]
  intro g1 g2 g3
  refine Sat.drawnE [] [] [1, 3, 5, 7, 9] (fun _ _ _ => none) (by kernel_rfl) (by kernel_rfl) ?_
  simp (maxSteps := 1000000) (disch := omega) only [push_cast, go_sem, wpS_tt, wpS_tf, wpS_ft, wpS_ff, wpCond_tt, wpCond_ff, simprocAttr, h1, h2, hl, hd, hil, hjl, thrV_eq, Do.V_eq]
theorem l12Has_fn (zs : List Int) (x : Int) (hl : zs.length < 2 ^ 40) : Fp Tryz.prog 76 [intsV zs, .int .i64 x] (.bool (zs.contains x)) := by
  refine Fc.start (S := [6]) Tryz.func76 Tryz.ntmps76 Tryz.results76 rfl (by decide) rfl (by kernel_rfl) ?_
  simp (maxSteps := 1000000) (disch := omega) only [push_cast, go_sem, wpS_tt, wpS_tf, wpS_ft, wpS_ff, wpCond_tt, wpCond_ff, simprocAttr, intsV_eq]
  refine Sat.loop (σ := Nat) (fun k => upd (upd (upd noT 0 (.sl (zs.map (V.int .i64)))) 1 (.int .i64 x)) 5 (.int .i64 k)) (fun _ => noM)
    (fun k => k ≤ zs.length ∧ zs.contains x = (zs.drop k).contains x) (fun k => zs.length - k) 0 (by simp) ?_ ?_
  · (refine Less.start ?_; repeat (first | exact LessO.nil | exact LessO.all | refine LessO.skip (by decide) ?_ | refine LessO.upd ?_ ?_ | refine LessO.set ?_ ?_)) <;> (try simp (maxSteps := 1000000) (disch := omega) only [push_cast, go_sem, wpS_tt, wpS_tf, wpS_ft, wpS_ff, wpCond_tt, wpCond_ff, simprocAttr])
  rintro k ⟨hk, hc⟩ J hJ
  refine Sat.of (S := []) (by kernel_rfl) ?_
  rcases Nat.lt_or_ge k zs.length with hlt | hge
  · obtain ⟨z, hz⟩ : ∃ z, zs[k]? = some z := ⟨_, List.getElem?_eq_getElem hlt⟩
    rw [drop_get hz, List.contains_cons] at hc
    cases hx : (z == x)
    · simp (maxSteps := 1000000) (disch := omega) only [push_cast, go_sem, wpS_tt, wpS_tf, wpS_ft, wpS_ff, wpCond_tt, wpCond_ff, simprocAttr, hz, hlt, hx]
      refine hJ (k + 1) _ _ ⟨by omega, ?_⟩ (by omega) ?_
      · rw [hc]
        have : (x == z) = false := beq_eq_false_iff_ne.2 fun h => beq_eq_false_iff_ne.1 hx h.symm
        rw [this, Bool.false_or]
      · (refine Less.start ?_; repeat (first | exact LessO.nil | exact LessO.all | refine LessO.skip (by decide) ?_ | refine LessO.upd ?_ ?_ | refine LessO.set ?_ ?_)) <;> (try simp (maxSteps := 1000000) (disch := omega) only [push_cast, go_sem, wpS_tt, wpS_tf, wpS_ft, wpS_ff, wpCond_tt, wpCond_ff, simprocAttr])
    · simp (maxSteps := 1000000) (disch := omega) only [push_cast, go_sem, wpS_tt, wpS_tf, wpS_ft, wpS_ff, wpCond_tt, wpCond_ff, simprocAttr, hz, hlt, hx]
      have : (x == z) = true := beq_iff_eq.2 (beq_iff_eq.1 hx).symm
      rw [hc, this]; rfl
  · have : k = zs.length := by omega
    subst this
    simp (maxSteps := 1000000) (disch := omega) only [push_cast, go_sem, wpS_tt, wpS_tf, wpS_ft, wpS_ff, wpCond_tt, wpCond_ff, simprocAttr]
    refine Sat.of (S := []) (by kernel_rfl) ?_
    simp (maxSteps := 1000000) (disch := omega) only [push_cast, go_sem, wpS_tt, wpS_tf, wpS_ft, wpS_ff, wpCond_tt, wpCond_ff, simprocAttr]
    rw [hc, List.drop_length]; rfl

theorem scene_get {p : Prog} {k : Nat} {e : Evt} (h : (events p)[k]? = some e) : (scene p).ds[k]? = some (stepAt p e) := by simp [scene, h]
theorem l12Writes_fn (p : Prog) (pl : Int) (hn : (events p).length ≤ 42) : Fp Tryz.prog 91 [progV p, .sl ((events p).map Evt.V), .int .i64 pl] (intsV (writersOf (scene p).ds pl)) := by
  have hsl : (scene p).ds.length = (events p).length := by simp [scene]
  refine (Fc.fzRow (R' := fun r m => ∃ s1 γ cap e es, r = .msl s1 [] γ es.length cap ∧ m s1 = some (.own e γ cap es) ∧ es.map V.fz = (writersOf (scene p).ds pl).map (V.int .i64)) ?_ (fun r m h => h))
  refine Fc.start (S := [8]) Tryz.func91 Tryz.ntmps91 Tryz.results91 rfl (by decide) rfl (by kernel_rfl) ?_
  simp (maxSteps := 1000000) (disch := omega) only [push_cast, go_sem, wpS_tt, wpS_tf, wpS_ft, wpS_ff, wpCond_tt, wpCond_ff, simprocAttr, progV_eq]
  intro g1 g2
  refine Sat.loop (σ := EvS) (fun x => upd (upd (upd (upd (upd noT 3 (.ptr 3 [] 0 0 g1 1)) 1 (.sl ((events p).map Evt.V))) 2 (.int .i64 pl)) 7 (.msl 7 [] x.γ (wrs (scene p).ds pl x.k).length x.c)) 8 (.int .i64 x.k))
    (fun x => (noM.set 3 (.own 25 (some g1) 1 [.agg [.sl (p.map thrV)]])).set 7 (.own x.e x.γ x.c ((wrs (scene p).ds pl x.k).map (V.int .i64))))
    (fun x => x.k ≤ (events p).length ∧ (x.γ = none ∨ x.e = 3)) (fun x => (events p).length - x.k) ⟨0, 3, some g2, 0⟩ (by simp) ?_ ?_
  · (refine Less.start ?_; repeat (first | exact LessO.nil | exact LessO.all | refine LessO.skip (by decide) ?_ | refine LessO.upd ?_ ?_ | refine LessO.set ?_ ?_)) <;> (try simp (maxSteps := 1000000) (disch := omega) only [push_cast, go_sem, wpS_tt, wpS_tf, wpS_ft, wpS_ff, wpCond_tt, wpCond_ff, simprocAttr])
    all_goals rfl
  rintro ⟨k, e, γ, c⟩ ⟨hk, hγ⟩ J hJ
  refine Sat.of (S := []) (by kernel_rfl) ?_
  simp only at hk hγ hJ
  have hb := wrs_le (scene p).ds pl k
  rcases Nat.lt_or_ge k (events p).length with hlt | hge
  · obtain ⟨ev, he⟩ : ∃ d, (events p)[k]? = some d := ⟨_, List.getElem?_eq_getElem hlt⟩
    obtain ⟨d, hst⟩ : ∃ d, stepAt p ev = d := ⟨_, rfl⟩
    have hd := scene_get he
    have hdo := l12Do_fn p ev (evIn_of (List.mem_of_getElem? he))
    rw [hst] at hd hdo
    have hγ' : (γ = none ∨ e = 3) = True := by simp only [hγ]
    have hn1 : k + 1 ≤ (events p).length := by omega
    have hm : (events p).length - (k + 1) < (events p).length - k := by omega
    have same : (d.writes && d.p == pl) = false → wrs (scene p).ds pl (k + 1) = wrs (scene p).ds pl k := fun h => by simp only [wrs, hd, h]; simp
    simp (maxSteps := 1000000) (disch := omega) only [push_cast, go_sem, wpS_tt, wpS_tf, wpS_ft, wpS_ff, wpCond_tt, wpCond_ff, simprocAttr, he, hlt, Evt.V_eq]
    refine Sat.drawnE [(0, 6), (4, 6), (5, 6)] [] [0, 4, 5] (pureT [(92, d.V)]) (by kernel_rfl) (by kernel_rfl) ?_
    simp (maxSteps := 1000000) (disch := omega) only [push_cast, go_sem, wpS_tt, wpS_tf, wpS_ft, wpS_ff, wpCond_tt, wpCond_ff, simprocAttr, he, hlt, Evt.V_eq]
    refine runD_pure rfl hdo rfl rfl ?_ ?_
    · rfl
    simp (maxSteps := 1000000) (disch := omega) only [push_cast, go_sem, wpS_tt, wpS_tf, wpS_ft, wpS_ff, wpCond_tt, wpCond_ff, simprocAttr, Do.V_eq]
    intro g3
    refine callR.pure (l1Writes_fn d) rfl rfl ?_
    cases hw : d.writes
    · simp (maxSteps := 1000000) (disch := omega) only [push_cast, go_sem, wpS_tt, wpS_tf, wpS_ft, wpS_ff, wpCond_tt, wpCond_ff, simprocAttr]
      refine hJ ⟨k + 1, e, γ, c⟩ _ _ ⟨hn1, hγ⟩ hm ?_
      (refine Less.start ?_; repeat (first | exact LessO.nil | exact LessO.all | refine LessO.skip (by decide) ?_ | refine LessO.upd ?_ ?_ | refine LessO.set ?_ ?_)) <;> (try simp (maxSteps := 1000000) (disch := omega) only [push_cast, go_sem, wpS_tt, wpS_tf, wpS_ft, wpS_ff, wpCond_tt, wpCond_ff, simprocAttr])
      all_goals rw [same (by rw [hw]; rfl)]
    · cases hp : (d.p == pl)
      · simp (maxSteps := 1000000) (disch := omega) only [push_cast, go_sem, wpS_tt, wpS_tf, wpS_ft, wpS_ff, wpCond_tt, wpCond_ff, simprocAttr, hp]
        refine hJ ⟨k + 1, e, γ, c⟩ _ _ ⟨hn1, hγ⟩ hm ?_
        (refine Less.start ?_; repeat (first | exact LessO.nil | exact LessO.all | refine LessO.skip (by decide) ?_ | refine LessO.upd ?_ ?_ | refine LessO.set ?_ ?_)) <;> (try simp (maxSteps := 1000000) (disch := omega) only [push_cast, go_sem, wpS_tt, wpS_tf, wpS_ft, wpS_ff, wpCond_tt, wpCond_ff, simprocAttr])
        all_goals rw [same (by rw [hw, hp]; rfl)]
      · simp (maxSteps := 1000000) (disch := omega) only [push_cast, go_sem, wpS_tt, wpS_tf, wpS_ft, wpS_ff, wpCond_tt, wpCond_ff, simprocAttr, hp, hγ']
        intro g4
        refine ⟨by omega, fun γ2 c2 _ => ?_⟩
        refine hJ ⟨k + 1, 3, γ2, c2⟩ _ _ ⟨hn1, .inr rfl⟩ hm ?_
        (refine Less.start ?_; repeat (first | exact LessO.nil | exact LessO.all | refine LessO.skip (by decide) ?_ | refine LessO.upd ?_ ?_ | refine LessO.set ?_ ?_)) <;> (try simp (maxSteps := 1000000) (disch := omega) only [push_cast, go_sem, wpS_tt, wpS_tf, wpS_ft, wpS_ff, wpCond_tt, wpCond_ff, simprocAttr])
        all_goals simp [wrs, hd, hw, hp]
  · have : k = (events p).length := by omega
    subst this
    simp (maxSteps := 1000000) (disch := omega) only [push_cast, go_sem, wpS_tt, wpS_tf, wpS_ft, wpS_ff, wpCond_tt, wpCond_ff, simprocAttr]
    refine Sat.of (S := []) (by kernel_rfl) ?_
    simp (maxSteps := 1000000) (disch := omega) only [push_cast, go_sem, wpS_tt, wpS_tf, wpS_ft, wpS_ff, wpCond_tt, wpCond_ff, simprocAttr]
    refine ⟨_, fun _ _ h => h, 6, γ, c, e, (wrs (scene p).ds pl (events p).length).map (V.int .i64), by rw [List.length_map], by simp [Mem.set], ?_⟩
    rw [fzs_int, ← hsl]; rfl
/-- The last read of its own thread ahead. -/
def srcOf (es : List Evt) (ds : List Do) (i : Nat) : Nat → Int
  | 0 => -1
  | k + 1 => if (es[k]?.getD default).t == (es[i]?.getD default).t && (ds[k]?.getD default).reads then (k : Int) else srcOf es ds i k
theorem l12Source_fn (p : Prog) (i : Nat) (hn : (events p).length ≤ 42) (hi : i < (events p).length) : Fp Tryz.prog 114 [progV p, .sl ((events p).map Evt.V), .int .i64 i] (.int .i64 (srcOf (events p) (scene p).ds i i)) := by
  obtain ⟨ei, hei⟩ : ∃ e, (events p)[i]? = some e := ⟨_, List.getElem?_eq_getElem hi⟩
  refine Fc.start (S := [6]) Tryz.func114 Tryz.ntmps114 Tryz.results114 rfl (by decide) rfl (by kernel_rfl) ?_
  simp (maxSteps := 1000000) (disch := omega) only [push_cast, go_sem, wpS_tt, wpS_tf, wpS_ft, wpS_ff, wpCond_tt, wpCond_ff, simprocAttr, progV_eq]
  intro g1
  refine Sat.loop (σ := Nat) (fun k => upd (upd (upd (upd noT 3 (.ptr 3 [] 0 0 g1 1)) 1 (.sl ((events p).map Evt.V))) 2 (.int .i64 i)) 7 (.int .i64 ((k : Int) - 1))) (fun _ => noM.set 3 (.own 25 (some g1) 1 [.agg [.sl (p.map thrV)]]))
    (fun k => k ≤ i ∧ srcOf (events p) (scene p).ds i i = srcOf (events p) (scene p).ds i k) (fun k => k) i (by simp) ?_ ?_
  · (refine Less.start ?_; repeat (first | exact LessO.nil | exact LessO.all | refine LessO.skip (by decide) ?_ | refine LessO.upd ?_ ?_ | refine LessO.set ?_ ?_)) <;> (try simp (maxSteps := 1000000) (disch := omega) only [push_cast, go_sem, wpS_tt, wpS_tf, wpS_ft, wpS_ff, wpCond_tt, wpCond_ff, simprocAttr])
    all_goals rfl
  rintro k ⟨hk, hs⟩ J hJ
  refine Sat.of (S := []) (by kernel_rfl) ?_
  cases k with
  | zero =>
    simp (maxSteps := 1000000) (disch := omega) only [push_cast, go_sem, wpS_tt, wpS_tf, wpS_ft, wpS_ff, wpCond_tt, wpCond_ff, simprocAttr]
    refine Sat.of (S := []) (by kernel_rfl) ?_
    simp (maxSteps := 1000000) (disch := omega) only [push_cast, go_sem, wpS_tt, wpS_tf, wpS_ft, wpS_ff, wpCond_tt, wpCond_ff, simprocAttr]
    rw [hs]; rfl
  | succ k =>
    obtain ⟨ek, hek⟩ : ∃ e, (events p)[k]? = some e := ⟨_, List.getElem?_eq_getElem (by omega)⟩
    have hdo := l12Do_fn p ek (evIn_of (List.mem_of_getElem? hek))
    have hk1 : (((k + 1 : Nat) : Int) - 1) = (k : Int) := by omega
    have hkl : k < (events p).length := by omega
    have hg := scene_get hek
    have hs' : srcOf (events p) (scene p).ds i (k + 1) = if ek.t == ei.t && (stepAt p ek).reads then (k : Int) else srcOf (events p) (scene p).ds i k := by
      rw [srcOf, hek, hei, hg]; rfl
    rw [hk1]
    simp (maxSteps := 1000000) (disch := omega) only [push_cast, go_sem, wpS_tt, wpS_tf, wpS_ft, wpS_ff, wpCond_tt, wpCond_ff, simprocAttr, hek, hkl, hei, hi, Evt.V_eq]
    cases ht : (ek.t == ei.t)
    · refine Sat.drawnE [] [] [4, 9, 12, 16, 17, 18] (pureT [(92, (stepAt p ek).V), (65, .bool (stepAt p ek).reads)]) (by kernel_rfl) (by kernel_rfl) ?_
      simp (maxSteps := 1000000) (disch := omega) only [push_cast, go_sem, wpS_tt, wpS_tf, wpS_ft, wpS_ff, wpCond_tt, wpCond_ff, simprocAttr, hek, hkl, hei, hi, Evt.V_eq, ht]
      refine hJ k _ _ ⟨by omega, by rw [hs, hs', ht]; rfl⟩ (by omega) ?_
      (refine Less.start ?_; repeat (first | exact LessO.nil | exact LessO.all | refine LessO.skip (by decide) ?_ | refine LessO.upd ?_ ?_ | refine LessO.set ?_ ?_)) <;> (try simp (maxSteps := 1000000) (disch := omega) only [push_cast, go_sem, wpS_tt, wpS_tf, wpS_ft, wpS_ff, wpCond_tt, wpCond_ff, simprocAttr])
    · refine Sat.drawnE [] [] [4, 9, 12, 16, 17, 18] (pureT [(92, (stepAt p ek).V), (65, .bool (stepAt p ek).reads)]) (by kernel_rfl) (by kernel_rfl) ?_
      simp (maxSteps := 1000000) (disch := omega) only [push_cast, go_sem, wpS_tt, wpS_tf, wpS_ft, wpS_ff, wpCond_tt, wpCond_ff, simprocAttr, hek, hkl, hei, hi, Evt.V_eq, ht]
      refine runD_pure rfl hdo rfl rfl ?_ ?_
      · rfl
      simp (maxSteps := 1000000) (disch := omega) only [push_cast, go_sem, wpS_tt, wpS_tf, wpS_ft, wpS_ff, wpCond_tt, wpCond_ff, simprocAttr]
      refine runD_pure rfl (l1Reads_fn (stepAt p ek)) rfl rfl ?_ ?_
      · rfl
      cases hr : (stepAt p ek).reads
      · simp (maxSteps := 1000000) (disch := omega) only [push_cast, go_sem, wpS_tt, wpS_tf, wpS_ft, wpS_ff, wpCond_tt, wpCond_ff, simprocAttr]
        refine hJ k _ _ ⟨by omega, by rw [hs, hs', hr, Bool.and_false]; rfl⟩ (by omega) ?_
        (refine Less.start ?_; repeat (first | exact LessO.nil | exact LessO.all | refine LessO.skip (by decide) ?_ | refine LessO.upd ?_ ?_ | refine LessO.set ?_ ?_)) <;> (try simp (maxSteps := 1000000) (disch := omega) only [push_cast, go_sem, wpS_tt, wpS_tf, wpS_ft, wpS_ff, wpCond_tt, wpCond_ff, simprocAttr])
      · simp (maxSteps := 1000000) (disch := omega) only [push_cast, go_sem, wpS_tt, wpS_tf, wpS_ft, wpS_ff, wpCond_tt, wpCond_ff, simprocAttr]
        rw [hs, hs', ht, hr]; rfl
end Go.Proofs.YtfdbminedccccaaGreatDoor
/-! ## Contracts of the reference: the events of a program -/
namespace Go.Proofs.YtfdbminedccccaaGreatDoor
open Go.RowKit
set_option linter.unusedSimpArgs false
set_option linter.unusedVariables false
set_option pp.maxSteps 3000

theorem specExecEvents_fn (p : Prog) (hp : p.length < 2 ^ 40) : Fp Tryz.prog 62 [progV p] (.sl ((if progOk p then events p else []).map Evt.V)) := by
  refine (Fc.fzRow (R' := fun r m => ∃ s1 γ cap e es, r = .msl s1 [] γ es.length cap ∧ m s1 = some (.own e γ cap es) ∧ es.map V.fz = (if progOk p then events p else []).map Evt.V) ?_ (fun r m h => h))
  cases hok : progOk p
  · refine Fc.start (S := []) Tryz.func62 Tryz.ntmps62 Tryz.results62 rfl (by decide) rfl (by kernel_rfl) ?_
    simp (maxSteps := 1000000) (disch := omega) only [push_cast, go_sem, wpS_tt, wpS_tf, wpS_ft, wpS_ff, wpCond_tt, wpCond_ff, simprocAttr, progV_eq]
    intro g1 g2
    refine callR.pure (specProgOk_fn p hp) rfl rfl ?_
    simp (maxSteps := 1000000) (disch := omega) only [push_cast, go_sem, wpS_tt, wpS_tf, wpS_ft, wpS_ff, wpCond_tt, wpCond_ff, simprocAttr, hok]
    exact ⟨_, fun _ _ h => h, 2, some g2, 0, 44, [], rfl, by simp [Mem.set], rfl⟩
  have hok' := hok
  simp only [progOk, Bool.and_eq_true, decide_eq_true_eq, List.all_eq_true] at hok'
  obtain ⟨⟨⟨hp3, hth⟩, _⟩, _⟩ := hok'
  have h7 : ∀ l ∈ p, l.length ≤ 7 := fun l h => threadOk_le (hth l h)
  refine Fc.start (S := [13]) Tryz.func62 Tryz.ntmps62 Tryz.results62 rfl (by decide) rfl (by kernel_rfl) ?_
  simp (maxSteps := 1000000) (disch := omega) only [push_cast, go_sem, wpS_tt, wpS_tf, wpS_ft, wpS_ff, wpCond_tt, wpCond_ff, simprocAttr, progV_eq]
  intro g g2
  refine callR.pure (specProgOk_fn p hp) rfl rfl ?_
  simp (maxSteps := 1000000) (disch := omega) only [push_cast, go_sem, wpS_tt, wpS_tf, wpS_ft, wpS_ff, wpCond_tt, wpCond_ff, simprocAttr, hok]
  refine Sat.loop (σ := EvS) (fun x => upd (upd (upd noT 1 (.ptr 1 [] 0 0 g 1)) 4 (.int .i64 x.k)) 3 (.msl 3 [] x.γ (evPro p x.k).length x.c))
    (fun x => (noM.set 1 (.own 25 (some g) 1 [.agg [.sl (p.map thrV)]])).set 3 (.own x.e x.γ x.c ((evPro p x.k).map Evt.V)))
    (fun x => x.k ≤ p.length ∧ (x.γ = none ∨ x.e = 44)) (fun x => p.length - x.k) ⟨0, 44, some g2, 0⟩ (by simp) ?_ ?_
  · (refine Less.start ?_; repeat (first | exact LessO.nil | exact LessO.all | refine LessO.skip (by decide) ?_ | refine LessO.upd ?_ ?_ | refine LessO.set ?_ ?_)) <;> (try simp (maxSteps := 1000000) (disch := omega) only [push_cast, go_sem, wpS_tt, wpS_tf, wpS_ft, wpS_ff, wpCond_tt, wpCond_ff, simprocAttr])
    all_goals rfl
  rintro ⟨i, e, γ, c⟩ ⟨hi, hγ⟩ J hJ
  refine Sat.of (S := [1001]) (by kernel_rfl) ?_
  simp only at hi hγ hJ
  have hb := evPro_le p h7 i
  rcases Nat.lt_or_ge i p.length with hlt | hge
  · obtain ⟨l, he⟩ : ∃ l, p[i]? = some l := ⟨_, List.getElem?_eq_getElem hlt⟩
    have hl7 := h7 l (List.mem_of_getElem? he)
    simp (maxSteps := 1000000) (disch := omega) only [push_cast, go_sem, wpS_tt, wpS_tf, wpS_ft, wpS_ff, wpCond_tt, wpCond_ff, simprocAttr, he, hlt, thrV_eq]
    have T2 : ∀ k, k ≤ l.length → (evPro p i ++ evThr i l k).length ≤ 60 := by
      intro k hk
      have := evThr_le i l k
      rw [List.length_append]; omega
    refine Sat.cut (σ := Rw) [] (fun x => upd (upd (upd noT 1 (.ptr 1 [] 0 0 g 1)) 4 (.int .i64 i)) 3 (.msl 3 [] x.γ (evPro p (i + 1)).length x.c))
      (fun x => (noM.set 1 (.own 25 (some g) 1 [.agg [.sl (p.map thrV)]])).set 3 (.own x.e x.γ x.c ((evPro p (i + 1)).map Evt.V))) (fun x => x.γ = none ∨ x.e = 44) (by kernel_rfl) ?_ ?_
    · simp (maxSteps := 1000000) (disch := omega) only [push_cast, go_sem, wpS_tt, wpS_tf, wpS_ft, wpS_ff, wpCond_tt, wpCond_ff, simprocAttr, he, hlt, thrV_eq]
      refine Sat.loop (σ := EvS) (fun x => upd (upd (upd (upd noT 1 (.ptr 1 [] 0 0 g 1)) 4 (.int .i64 i)) 5 (.int .i64 x.k)) 3 (.msl 3 [] x.γ (evPro p i ++ evThr i l x.k).length x.c))
        (fun x => (noM.set 1 (.own 25 (some g) 1 [.agg [.sl (p.map thrV)]])).set 3 (.own x.e x.γ x.c ((evPro p i ++ evThr i l x.k).map Evt.V)))
        (fun x => x.k ≤ l.length ∧ (x.γ = none ∨ x.e = 44)) (fun x => l.length - x.k) ⟨0, e, γ, c⟩ (by simp [hγ]) ?_ ?_
      · (refine Less.start ?_; repeat (first | exact LessO.nil | exact LessO.all | refine LessO.skip (by decide) ?_ | refine LessO.upd ?_ ?_ | refine LessO.set ?_ ?_)) <;> (try simp (maxSteps := 1000000) (disch := omega) only [push_cast, go_sem, wpS_tt, wpS_tf, wpS_ft, wpS_ff, wpCond_tt, wpCond_ff, simprocAttr])
        all_goals simp [evThr]
      rintro ⟨k, e2, γ2, c2⟩ ⟨hk, hγ2⟩ J2 hJ2
      refine Sat.of (S := []) (by kernel_rfl) ?_
      simp only at hk hγ2 hJ2
      have hb2 := T2 k hk
      rcases Nat.lt_or_ge k l.length with hkl | hkg
      · obtain ⟨d, hd⟩ : ∃ d, l[k]? = some d := ⟨_, List.getElem?_eq_getElem hkl⟩
        have hγ2' : (γ2 = none ∨ e2 = 44) = True := by simp only [hγ2]
        simp (maxSteps := 1000000) (disch := omega) only [push_cast, go_sem, wpS_tt, wpS_tf, wpS_ft, wpS_ff, wpCond_tt, wpCond_ff, simprocAttr, he, hlt, thrV_eq, hd, hkl, Do.V_eq, hγ2']
        rw [List.length_append] at hb2
        have hn : k + 1 ≤ l.length := by omega
        have hm : l.length - (k + 1) < l.length - k := by omega
        intro g3
        refine ⟨by omega, fun γ3 c3 _ => ⟨fun h9 g5 => ⟨by omega, fun γ4 c4 _ => ?_⟩, fun h9 => ?_⟩⟩
        · refine hJ2 ⟨k + 1, 44, γ4, c4⟩ _ _ ⟨hn, .inr rfl⟩ hm ?_
          (refine Less.start ?_; repeat (first | exact LessO.nil | exact LessO.all | refine LessO.skip (by decide) ?_ | refine LessO.upd ?_ ?_ | refine LessO.set ?_ ?_)) <;> (try simp (maxSteps := 1000000) (disch := omega) only [push_cast, go_sem, wpS_tt, wpS_tf, wpS_ft, wpS_ff, wpCond_tt, wpCond_ff, simprocAttr])
          all_goals simp [evThr, hd, evsOf, h9, Evt.V, Nat.add_assoc]
        · refine hJ2 ⟨k + 1, 44, γ3, c3⟩ _ _ ⟨hn, .inr rfl⟩ hm ?_
          (refine Less.start ?_; repeat (first | exact LessO.nil | exact LessO.all | refine LessO.skip (by decide) ?_ | refine LessO.upd ?_ ?_ | refine LessO.set ?_ ?_)) <;> (try simp (maxSteps := 1000000) (disch := omega) only [push_cast, go_sem, wpS_tt, wpS_tf, wpS_ft, wpS_ff, wpCond_tt, wpCond_ff, simprocAttr])
          all_goals simp [evThr, hd, evsOf, h9, Evt.V, Nat.add_assoc]
      · have : k = l.length := by omega
        subst this
        simp (maxSteps := 1000000) (disch := omega) only [push_cast, go_sem, wpS_tt, wpS_tf, wpS_ft, wpS_ff, wpCond_tt, wpCond_ff, simprocAttr, he, hlt, thrV_eq]
        refine ⟨⟨e2, γ2, c2⟩, hγ2, ?_⟩
        (refine Less.start ?_; repeat (first | exact LessO.nil | exact LessO.all | refine LessO.skip (by decide) ?_ | refine LessO.upd ?_ ?_ | refine LessO.set ?_ ?_)) <;> (try simp (maxSteps := 1000000) (disch := omega) only [push_cast, go_sem, wpS_tt, wpS_tf, wpS_ft, wpS_ff, wpCond_tt, wpCond_ff, simprocAttr])
        all_goals simp [evPro, he, Nat.add_assoc]
    rintro ⟨e2, γ2, c2⟩ hγ2
    refine Sat.of (S := []) (by kernel_rfl) ?_
    simp only at hγ2
    simp (maxSteps := 1000000) (disch := omega) only [push_cast, go_sem, wpS_tt, wpS_tf, wpS_ft, wpS_ff, wpCond_tt, wpCond_ff, simprocAttr]
    refine hJ ⟨i + 1, e2, γ2, c2⟩ _ _ ⟨by simp only; omega, hγ2⟩ (by simp only; omega) ?_
    (refine Less.start ?_; repeat (first | exact LessO.nil | exact LessO.all | refine LessO.skip (by decide) ?_ | refine LessO.upd ?_ ?_ | refine LessO.set ?_ ?_)) <;> (try simp (maxSteps := 1000000) (disch := omega) only [push_cast, go_sem, wpS_tt, wpS_tf, wpS_ft, wpS_ff, wpCond_tt, wpCond_ff, simprocAttr])
  · have : i = p.length := by omega
    subst this
    simp (maxSteps := 1000000) (disch := omega) only [push_cast, go_sem, wpS_tt, wpS_tf, wpS_ft, wpS_ff, wpCond_tt, wpCond_ff, simprocAttr]
    refine Sat.of (S := []) (by kernel_rfl) ?_
    simp (maxSteps := 1000000) (disch := omega) only [push_cast, go_sem, wpS_tt, wpS_tf, wpS_ft, wpS_ff, wpCond_tt, wpCond_ff, simprocAttr]
    refine ⟨_, fun _ _ h => h, 2, γ, c, e, (events p).map Evt.V, by rw [List.length_map]; rfl, by simp [Mem.set, events], ?_⟩
    rw [fzs_Evt]
end Go.Proofs.YtfdbminedccccaaGreatDoor
/-! ## Contracts of the reference: what an event reads or writes -/
namespace Go.Proofs.YtfdbminedccccaaGreatDoor
open Go.RowKit
set_option linter.unusedSimpArgs false
set_option linter.unusedVariables false
set_option pp.maxSteps 3000

def valS (es : List Evt) (ds : List Do) (fr : List Int) : Nat → Int → Int
  | 0, i => if i < 0 then 0 else -1
  | m + 1, i => if i < 0 then 0 else match ds[i.toNat]? with
    | none => 0
    | some d => if d.reads then valS es ds fr m (fr[i.toNat]?.getD 0) else if d.k == 3 then valS es ds fr m (srcOf es ds i.toNat i.toNat) else d.v
theorem srcOf_lt {es : List Evt} {ds : List Do} {i : Nat} : ∀ k, srcOf es ds i k < (k : Int) ∧ -1 ≤ srcOf es ds i k
  | 0 => by simp [srcOf]
  | k + 1 => by
    rw [srcOf]
    split
    · omega
    · have := srcOf_lt (es := es) (ds := ds) (i := i) k; omega
theorem l12Val_fn (p : Prog) (x : Exe) (hn : (events p).length ≤ 42) (hfl : x.fr.length = (events p).length) (hfr : ∀ f ∈ x.fr, f < (events p).length) : ∀ (m : Nat) (i : Int), m < 2 ^ 20 → i < (events p).length →
    Fp Tryz.prog 93 [progV p, .sl ((events p).map Evt.V), x.V, .int .i64 i, .int .i64 m] (.int .i64 (valS (events p) (scene p).ds x.fr m i)) := by
  intro m
  induction m with
  | zero =>
    intro i _ hi
    by_cases h0 : i < 0
    · refine Fc.start (S := []) Tryz.func93 Tryz.ntmps93 Tryz.results93 rfl (by decide) rfl (by kernel_rfl) ?_
      simp (maxSteps := 1000000) (disch := omega) only [push_cast, go_sem, wpS_tt, wpS_tf, wpS_ft, wpS_ff, wpCond_tt, wpCond_ff, simprocAttr, progV_eq, Exe.V_eq, h0]
      simp [valS, h0]
    · refine Fc.start (S := []) Tryz.func93 Tryz.ntmps93 Tryz.results93 rfl (by decide) rfl (by kernel_rfl) ?_
      simp (maxSteps := 1000000) (disch := omega) only [push_cast, go_sem, wpS_tt, wpS_tf, wpS_ft, wpS_ff, wpCond_tt, wpCond_ff, simprocAttr, progV_eq, Exe.V_eq, h0]
      simp [valS, h0]
  | succ m ih =>
    intro i hm hi
    by_cases h0 : i < 0
    · refine Fc.start (S := []) Tryz.func93 Tryz.ntmps93 Tryz.results93 rfl (by decide) rfl (by kernel_rfl) ?_
      simp (maxSteps := 1000000) (disch := omega) only [push_cast, go_sem, wpS_tt, wpS_tf, wpS_ft, wpS_ff, wpCond_tt, wpCond_ff, simprocAttr, progV_eq, Exe.V_eq, h0]
      simp [valS, h0]
    obtain ⟨a, rfl⟩ := Int.eq_ofNat_of_zero_le (Int.not_lt.1 h0)
    have ha : a < (events p).length := by omega
    obtain ⟨ev, he⟩ : ∃ d, (events p)[a]? = some d := ⟨_, List.getElem?_eq_getElem ha⟩
    obtain ⟨f, hf⟩ : ∃ f, x.fr[a]? = some f := ⟨_, List.getElem?_eq_getElem (by omega)⟩
    have hfa : a < x.fr.length := by omega
    have hfn := hfr f (List.mem_of_getElem? hf)
    obtain ⟨d, hst⟩ : ∃ d, stepAt p ev = d := ⟨_, rfl⟩
    have hd := scene_get he
    have hdo := l12Do_fn p ev (evIn_of (List.mem_of_getElem? he))
    rw [hst] at hd hdo
    have hv : valS (events p) (scene p).ds x.fr (m + 1) a = if d.reads then valS (events p) (scene p).ds x.fr m f else if d.k == 3 then valS (events p) (scene p).ds x.fr m (srcOf (events p) (scene p).ds a a) else d.v := by
      rw [valS, if_neg h0]
      simp only [Int.toNat_natCast, hd, hf, Option.getD_some]
    rw [hv]
    have hm1 : ¬ ((m + 1 : Nat) : Int) < 1 := by omega
    have hm2 : ((m + 1 : Nat) : Int) - 1 = m := by omega
    generalize hM : ((m + 1 : Nat) : Int) = M1 at hm1 hm2
    generalize hR : (if d.reads then valS (events p) (scene p).ds x.fr m f else if d.k == 3 then valS (events p) (scene p).ds x.fr m (srcOf (events p) (scene p).ds a a) else d.v) = R
    have hM2 : M1 = (m : Int) + 1 := by omega
    refine Fc.start (S := []) Tryz.func93 Tryz.ntmps93 Tryz.results93 rfl (by decide) rfl (by kernel_rfl) ?_
    simp (maxSteps := 1000000) (disch := omega) only [push_cast, go_sem, wpS_tt, wpS_tf, wpS_ft, wpS_ff, wpCond_tt, wpCond_ff, simprocAttr, progV_eq, Exe.V_eq, h0, hm1]
    intro g1 g2
    refine Sat.drawnE [(0, 6), (4, 6), (5, 6)] [] [0, 4, 5] (pureT [(92, d.V)]) (by kernel_rfl) (by kernel_rfl) ?_
    simp (maxSteps := 1000000) (disch := omega) only [push_cast, go_sem, wpS_tt, wpS_tf, wpS_ft, wpS_ff, wpCond_tt, wpCond_ff, simprocAttr, he, ha, Evt.V_eq]
    refine runD_pure rfl hdo rfl rfl ?_ ?_
    · rfl
    simp (maxSteps := 1000000) (disch := omega) only [push_cast, go_sem, wpS_tt, wpS_tf, wpS_ft, wpS_ff, wpCond_tt, wpCond_ff, simprocAttr, Do.V_eq]
    intro g3
    refine callR.pure (l1Reads_fn d) rfl rfl ?_
    cases hr : d.reads
    · rw [hr] at hR
      simp only [Bool.false_eq_true, if_false] at hR
      cases h3 : (d.k == 3)
      · rw [h3] at hR
        simp only [Bool.false_eq_true, if_false] at hR
        simp (maxSteps := 1000000) (disch := omega) only [push_cast, go_sem, wpS_tt, wpS_tf, wpS_ft, wpS_ff, wpCond_tt, wpCond_ff, simprocAttr, h3]
        exact hR
      · rw [h3] at hR
        simp only [if_true] at hR
        have hs := srcOf_lt (es := events p) (ds := (scene p).ds) (i := a) a
        simp (maxSteps := 1000000) (disch := omega) only [push_cast, go_sem, wpS_tt, wpS_tf, wpS_ft, wpS_ff, wpCond_tt, wpCond_ff, simprocAttr, h3]
        refine Sat.drawnE [] [] [0, 2, 3, 6, 9] (pureT [(114, .int .i64 (srcOf (events p) (scene p).ds a a)), (93, .int .i64 R)]) (by kernel_rfl) (by kernel_rfl) ?_
        simp (maxSteps := 1000000) (disch := omega) only [push_cast, go_sem, wpS_tt, wpS_tf, wpS_ft, wpS_ff, wpCond_tt, wpCond_ff, simprocAttr]
        refine runD_pure rfl (l12Source_fn p a hn ha) rfl rfl ?_ ?_
        · rfl
        simp (maxSteps := 1000000) (disch := omega) only [push_cast, go_sem, wpS_tt, wpS_tf, wpS_ft, wpS_ff, wpCond_tt, wpCond_ff, simprocAttr, hm2]
        refine runD_pure rfl (by rw [← hR]; exact ih _ (by omega) (by omega)) rfl rfl ?_ ?_
        · rfl
        simp (maxSteps := 1000000) (disch := omega) only [push_cast, go_sem, wpS_tt, wpS_tf, wpS_ft, wpS_ff, wpCond_tt, wpCond_ff, simprocAttr]
    · rw [hr] at hR
      simp only [if_true] at hR
      simp (maxSteps := 1000000) (disch := omega) only [push_cast, go_sem, wpS_tt, wpS_tf, wpS_ft, wpS_ff, wpCond_tt, wpCond_ff, simprocAttr]
      refine Sat.drawnE [] [] [0, 2, 4, 7, 10] (pureT [(93, .int .i64 R)]) (by kernel_rfl) (by kernel_rfl) ?_
      simp (maxSteps := 1000000) (disch := omega) only [push_cast, go_sem, wpS_tt, wpS_tf, wpS_ft, wpS_ff, wpCond_tt, wpCond_ff, simprocAttr, hf, hfa, hm2]
      refine runD_pure rfl (by rw [← hR]; exact ih _ (by omega) (by omega)) rfl rfl ?_ ?_
      · rfl
      simp (maxSteps := 1000000) (disch := omega) only [push_cast, go_sem, wpS_tt, wpS_tf, wpS_ft, wpS_ff, wpCond_tt, wpCond_ff, simprocAttr]
end Go.Proofs.YtfdbminedccccaaGreatDoor
/-! ## Contracts of the reference: whether a way is one -/
namespace Go.Proofs.YtfdbminedccccaaGreatDoor
open Go.RowKit
set_option linter.unusedSimpArgs false
set_option linter.unusedVariables false
set_option pp.maxSteps 3000

def endS (p : Prog) (fr : List Int) (i : Nat) : Bool := !decide (valS (events p) (scene p).ds fr (2 * (events p).length + 2) i < 0)
def endsS (p : Prog) (x : Exe) : Bool := (List.range (events p).length).all (endS p x.fr)
theorem range_get {n k : Nat} (h : k < n) : (List.range n)[k]? = some k := by simp [h]
theorem l12Ends_fn (p : Prog) (x : Exe) (hn : (events p).length ≤ 42) (hfl : x.fr.length = (events p).length) (hfr : ∀ f ∈ x.fr, f < (events p).length) :
    Fp Tryz.prog 64 [progV p, .sl ((events p).map Evt.V), x.V] (.bool (endsS p x)) := by
  refine Fc.start (S := [6]) Tryz.func64 Tryz.ntmps64 Tryz.results64 rfl (by decide) rfl (by kernel_rfl) ?_
  simp (maxSteps := 1000000) (disch := omega) only [push_cast, go_sem, wpS_tt, wpS_tf, wpS_ft, wpS_ff, wpCond_tt, wpCond_ff, simprocAttr, progV_eq, Exe.V_eq]
  intro g1 g2
  refine Sat.loop (σ := Nat) (fun k => upd (upd (upd (upd noT 3 (.ptr 3 [] 0 0 g1 1)) 5 (.ptr 5 [] 0 0 g2 2)) 1 (.sl ((events p).map Evt.V))) 7 (.int .i64 k))
    (fun _ => (noM.set 3 (.own 25 (some g1) 1 [.agg [.sl (p.map thrV)]])).set 5 (.own 29 (some g2) 1 [.agg [.sl (x.fr.map (V.int .i64)), .sl (x.od.map intsV)]]))
    (fun k => k ≤ (events p).length ∧ ((List.range (events p).length).take k).all (endS p x.fr) = true) (fun k => (events p).length - k) 0 (by simp) ?_ ?_
  · (refine Less.start ?_; repeat (first | exact LessO.nil | exact LessO.all | refine LessO.skip (by decide) ?_ | refine LessO.upd ?_ ?_ | refine LessO.set ?_ ?_)) <;> (try simp (maxSteps := 1000000) (disch := omega) only [push_cast, go_sem, wpS_tt, wpS_tf, wpS_ft, wpS_ff, wpCond_tt, wpCond_ff, simprocAttr])
  rintro k ⟨hk, hall⟩ J hJ
  refine Sat.of (S := []) (by kernel_rfl) ?_
  rcases Nat.lt_or_ge k (events p).length with hlt | hge
  · have hv := l12Val_fn p x hn hfl hfr (2 * (events p).length + 2) k (by omega) (by omega)
    rw [show ((2 * (events p).length + 2 : Nat) : Int) = 2 * ((events p).length : Int) + 2 by omega] at hv
    simp (maxSteps := 1000000) (disch := omega) only [push_cast, go_sem, wpS_tt, wpS_tf, wpS_ft, wpS_ff, wpCond_tt, wpCond_ff, simprocAttr, hlt]
    refine callR.pure hv rfl rfl ?_
    by_cases h0 : valS (events p) (scene p).ds x.fr (2 * (events p).length + 2) k < 0
    · simp (maxSteps := 1000000) (disch := omega) only [push_cast, go_sem, wpS_tt, wpS_tf, wpS_ft, wpS_ff, wpCond_tt, wpCond_ff, simprocAttr, h0]
      rw [endsS, allp_no (range_get hlt) (by simp [endS, h0])]
    · simp (maxSteps := 1000000) (disch := omega) only [push_cast, go_sem, wpS_tt, wpS_tf, wpS_ft, wpS_ff, wpCond_tt, wpCond_ff, simprocAttr, h0]
      refine hJ (k + 1) _ _ ⟨by omega, allp_take (range_get hlt) hall (by simp [endS, h0])⟩ (by omega) ?_
      (refine Less.start ?_; repeat (first | exact LessO.nil | exact LessO.all | refine LessO.skip (by decide) ?_ | refine LessO.upd ?_ ?_ | refine LessO.set ?_ ?_)) <;> (try simp (maxSteps := 1000000) (disch := omega) only [push_cast, go_sem, wpS_tt, wpS_tf, wpS_ft, wpS_ff, wpCond_tt, wpCond_ff, simprocAttr])
  · have : k = (events p).length := by omega
    subst this
    rw [List.take_of_length_le (by simp)] at hall
    simp (maxSteps := 1000000) (disch := omega) only [push_cast, go_sem, wpS_tt, wpS_tf, wpS_ft, wpS_ff, wpCond_tt, wpCond_ff, simprocAttr]
    refine Sat.of (S := []) (by kernel_rfl) ?_
    simp (maxSteps := 1000000) (disch := omega) only [push_cast, go_sem, wpS_tt, wpS_tf, wpS_ft, wpS_ff, wpCond_tt, wpCond_ff, simprocAttr]
    rw [endsS, hall]

def placeS (ds : List Do) (od : List (List Int)) (k : Nat) : Bool := (writersOf ds k).length == (od[k]?.getD []).length && (writersOf ds k).all (od[k]?.getD []).contains
def fromS (od : List (List Int)) (q : Do × Int) : Bool := if q.1.reads then q.2 == -1 || (od[q.1.p.toNat]?.getD []).contains q.2 else q.2 == -2
def formS (p : Prog) (x : Exe) : Bool := decide (x.fr.length = (events p).length) && decide (x.od.length = 3) && (List.range 3).all (placeS (scene p).ds x.od) && ((scene p).ds.zip x.fr).all (fromS x.od)
theorem l12Form_fn (p : Prog) (x : Exe) (hn : (events p).length ≤ 42) (hx : x.small) (hpl : ∀ d ∈ (scene p).ds, d.reads = true → 0 ≤ d.p ∧ d.p ≤ 2) :
    Fp Tryz.prog 63 [progV p, .sl ((events p).map Evt.V), x.V] (.bool (formS p x)) := by
  obtain ⟨h1, h2, h3⟩ := hx
  have hsl : (scene p).ds.length = (events p).length := by simp [scene]
  refine Fc.start (S := [14, 20]) Tryz.func63 Tryz.ntmps63 Tryz.results63 rfl (by decide) rfl (by kernel_rfl) ?_
  cases hl : ((x.fr.length : Int) != (events p).length)
  rotate_left
  · simp (maxSteps := 1000000) (disch := omega) only [push_cast, go_sem, wpS_tt, wpS_tf, wpS_ft, wpS_ff, wpCond_tt, wpCond_ff, simprocAttr, progV_eq, Exe.V_eq, hl]
    have : ¬ x.fr.length = (events p).length := fun h => by rw [h] at hl; simp at hl
    simp [formS, this]
  cases ho : ((x.od.length : Int) != 3)
  rotate_left
  · simp (maxSteps := 1000000) (disch := omega) only [push_cast, go_sem, wpS_tt, wpS_tf, wpS_ft, wpS_ff, wpCond_tt, wpCond_ff, simprocAttr, progV_eq, Exe.V_eq, hl, ho]
    have : ¬ x.od.length = 3 := fun h => by rw [h] at ho; simp at ho
    simp [formS, this]
  have hl' : x.fr.length = (events p).length := by have : (x.fr.length : Int) = (events p).length := by simpa using hl
                                                   omega
  have ho' : x.od.length = 3 := by have : (x.od.length : Int) = 3 := by simpa using ho
                                   omega
  have hfit : formS p x = ((List.range 3).all (placeS (scene p).ds x.od) && ((scene p).ds.zip x.fr).all (fromS x.od)) := by simp [formS, hl', ho']
  simp (maxSteps := 1000000) (disch := omega) only [push_cast, go_sem, wpS_tt, wpS_tf, wpS_ft, wpS_ff, wpCond_tt, wpCond_ff, simprocAttr, progV_eq, Exe.V_eq, hl, ho]
  intro g1 g2
  refine Sat.loop (σ := Nat) (fun k => upd (upd (upd (upd noT 3 (.ptr 3 [] 0 0 g1 1)) 5 (.ptr 5 [] 0 0 g2 2)) 1 (.sl ((events p).map Evt.V))) 7 (.int .i64 k))
    (fun _ => (noM.set 3 (.own 25 (some g1) 1 [.agg [.sl (p.map thrV)]])).set 5 (.own 29 (some g2) 1 [.agg [.sl (x.fr.map (V.int .i64)), .sl (x.od.map intsV)]]))
    (fun k => k ≤ 3 ∧ ((List.range 3).take k).all (placeS (scene p).ds x.od) = true) (fun k => 3 - k) 0 (by simp) ?_ ?_
  · (refine Less.start ?_; repeat (first | exact LessO.nil | exact LessO.all | refine LessO.skip (by decide) ?_ | refine LessO.upd ?_ ?_ | refine LessO.set ?_ ?_)) <;> (try simp (maxSteps := 1000000) (disch := omega) only [push_cast, go_sem, wpS_tt, wpS_tf, wpS_ft, wpS_ff, wpCond_tt, wpCond_ff, simprocAttr])
  rintro k ⟨hk, hall⟩ J hJ
  refine Sat.of (S := [20]) (by kernel_rfl) ?_
  rcases Nat.lt_or_ge k 3 with hlt | hge
  · obtain ⟨row, hr⟩ : ∃ r, x.od[k]? = some r := ⟨_, List.getElem?_eq_getElem (by omega)⟩
    have hrow := h3 row (List.mem_of_getElem? hr)
    have hk3 : (k : Int) < 3 := by omega
    have hko : k < x.od.length := by omega
    have hwl : (writersOf (scene p).ds k).length ≤ 42 := by have := wrs_le (scene p).ds k (scene p).ds.length; unfold writersOf; omega
    have bad : placeS (scene p).ds x.od k = false → formS p x = false := fun h => by rw [hfit, allp_no (range_get hlt) h]; rfl
    obtain ⟨ws, hws⟩ : ∃ ws, writersOf (scene p).ds k = ws := ⟨_, rfl⟩
    have hw := l12Writes_fn p k hn
    rw [hws] at hw hwl
    simp (maxSteps := 1000000) (disch := omega) only [push_cast, go_sem, wpS_tt, wpS_tf, wpS_ft, wpS_ff, wpCond_tt, wpCond_ff, simprocAttr, hk3]
    refine callR.pure hw rfl rfl ?_
    cases hlen : ((ws.length : Int) != row.length)
    rotate_left
    · simp (maxSteps := 1000000) (disch := omega) only [push_cast, go_sem, wpS_tt, wpS_tf, wpS_ft, wpS_ff, wpCond_tt, wpCond_ff, simprocAttr, hr, hko, hlen, intsV_eq]
      rw [bad (by
        have : ¬ ws.length = row.length := fun h => by rw [h] at hlen; simp at hlen
        simp [placeS, hws, hr, this])]
    have hlen' : ws.length = row.length := by have : (ws.length : Int) = row.length := by simpa using hlen
                                              omega
    simp (maxSteps := 1000000) (disch := omega) only [push_cast, go_sem, wpS_tt, wpS_tf, wpS_ft, wpS_ff, wpCond_tt, wpCond_ff, simprocAttr, hr, hko, hlen, intsV_eq]
    refine Sat.loop (σ := Nat) (fun j => upd (upd (upd (upd (upd (upd noT 3 (.ptr 3 [] 0 0 g1 1)) 5 (.ptr 5 [] 0 0 g2 2)) 1 (.sl ((events p).map Evt.V))) 7 (.int .i64 k)) 8 (.sl (ws.map (V.int .i64)))) 9 (.int .i64 j))
      (fun _ => (noM.set 3 (.own 25 (some g1) 1 [.agg [.sl (p.map thrV)]])).set 5 (.own 29 (some g2) 1 [.agg [.sl (x.fr.map (V.int .i64)), .sl (x.od.map intsV)]]))
      (fun j => j ≤ ws.length ∧ (ws.take j).all row.contains = true) (fun j => ws.length - j) 0 (by simp) ?_ ?_
    · (refine Less.start ?_; repeat (first | exact LessO.nil | exact LessO.all | refine LessO.skip (by decide) ?_ | refine LessO.upd ?_ ?_ | refine LessO.set ?_ ?_)) <;> (try simp (maxSteps := 1000000) (disch := omega) only [push_cast, go_sem, wpS_tt, wpS_tf, wpS_ft, wpS_ff, wpCond_tt, wpCond_ff, simprocAttr])
    rintro j ⟨hj, hall2⟩ J2 hJ2
    refine Sat.of (S := []) (by kernel_rfl) ?_
    rcases Nat.lt_or_ge j ws.length with hlt2 | hge2
    · obtain ⟨z, hz⟩ : ∃ z, ws[j]? = some z := ⟨_, List.getElem?_eq_getElem hlt2⟩
      simp (maxSteps := 1000000) (disch := omega) only [push_cast, go_sem, wpS_tt, wpS_tf, wpS_ft, wpS_ff, wpCond_tt, wpCond_ff, simprocAttr, hz, hlt2]
      refine Sat.drawnE [] [] [1, 4, 8, 9] (pureT [(76, .bool (row.contains z))]) (by kernel_rfl) (by kernel_rfl) ?_
      simp (maxSteps := 1000000) (disch := omega) only [push_cast, go_sem, wpS_tt, wpS_tf, wpS_ft, wpS_ff, wpCond_tt, wpCond_ff, simprocAttr, hr, hko, hz, hlt2, intsV_eq]
      refine runD_pure rfl (l12Has_fn row z hrow) rfl rfl ?_ ?_
      · rfl
      cases hc : row.contains z
      · simp (maxSteps := 1000000) (disch := omega) only [push_cast, go_sem, wpS_tt, wpS_tf, wpS_ft, wpS_ff, wpCond_tt, wpCond_ff, simprocAttr]
        rw [bad (by simp only [placeS, hws, hr, Option.getD_some, allp_no hz hc, Bool.and_false])]
      · simp (maxSteps := 1000000) (disch := omega) only [push_cast, go_sem, wpS_tt, wpS_tf, wpS_ft, wpS_ff, wpCond_tt, wpCond_ff, simprocAttr]
        refine hJ2 (j + 1) _ _ ⟨by omega, allp_take hz hall2 hc⟩ (by omega) ?_
        (refine Less.start ?_; repeat (first | exact LessO.nil | exact LessO.all | refine LessO.skip (by decide) ?_ | refine LessO.upd ?_ ?_ | refine LessO.set ?_ ?_)) <;> (try simp (maxSteps := 1000000) (disch := omega) only [push_cast, go_sem, wpS_tt, wpS_tf, wpS_ft, wpS_ff, wpCond_tt, wpCond_ff, simprocAttr])
    · have : j = ws.length := by omega
      subst this
      rw [List.take_length] at hall2
      simp (maxSteps := 1000000) (disch := omega) only [push_cast, go_sem, wpS_tt, wpS_tf, wpS_ft, wpS_ff, wpCond_tt, wpCond_ff, simprocAttr]
      refine hJ (k + 1) _ _ ⟨by omega, allp_take (range_get hlt) hall (by simp only [placeS, hws, hr, Option.getD_some, hall2, hlen', beq_self_eq_true, Bool.and_self])⟩ (by omega) ?_
      (refine Less.start ?_; repeat (first | exact LessO.nil | exact LessO.all | refine LessO.skip (by decide) ?_ | refine LessO.upd ?_ ?_ | refine LessO.set ?_ ?_)) <;> (try simp (maxSteps := 1000000) (disch := omega) only [push_cast, go_sem, wpS_tt, wpS_tf, wpS_ft, wpS_ff, wpCond_tt, wpCond_ff, simprocAttr])
  · have : k = 3 := by omega
    subst this
    have hall1 : (List.range 3).all (placeS (scene p).ds x.od) = true := by rwa [List.take_of_length_le (by simp)] at hall
    simp (maxSteps := 1000000) (disch := omega) only [push_cast, go_sem, wpS_tt, wpS_tf, wpS_ft, wpS_ff, wpCond_tt, wpCond_ff, simprocAttr]
    refine Sat.of (S := [20]) (by kernel_rfl) ?_
    simp (maxSteps := 1000000) (disch := omega) only [push_cast, go_sem, wpS_tt, wpS_tf, wpS_ft, wpS_ff, wpCond_tt, wpCond_ff, simprocAttr]
    clear hJ
    refine Sat.loop (σ := Nat) (fun k => upd (upd (upd (upd noT 3 (.ptr 3 [] 0 0 g1 1)) 5 (.ptr 5 [] 0 0 g2 2)) 1 (.sl ((events p).map Evt.V))) 10 (.int .i64 k))
      (fun _ => (noM.set 3 (.own 25 (some g1) 1 [.agg [.sl (p.map thrV)]])).set 5 (.own 29 (some g2) 1 [.agg [.sl (x.fr.map (V.int .i64)), .sl (x.od.map intsV)]]))
      (fun k => k ≤ (events p).length ∧ (((scene p).ds.zip x.fr).take k).all (fromS x.od) = true) (fun k => (events p).length - k) 0 (by simp) ?_ ?_
    · (refine Less.start ?_; repeat (first | exact LessO.nil | exact LessO.all | refine LessO.skip (by decide) ?_ | refine LessO.upd ?_ ?_ | refine LessO.set ?_ ?_)) <;> (try simp (maxSteps := 1000000) (disch := omega) only [push_cast, go_sem, wpS_tt, wpS_tf, wpS_ft, wpS_ff, wpCond_tt, wpCond_ff, simprocAttr])
    rintro k ⟨hk, hall⟩ J hJ
    refine Sat.of (S := [18]) (by kernel_rfl) ?_
    rcases Nat.lt_or_ge k (events p).length with hlt | hge
    · obtain ⟨ev, he⟩ : ∃ d, (events p)[k]? = some d := ⟨_, List.getElem?_eq_getElem hlt⟩
      obtain ⟨f, hf⟩ : ∃ f, x.fr[k]? = some f := ⟨_, List.getElem?_eq_getElem (by omega)⟩
      obtain ⟨d, hst⟩ : ∃ d, stepAt p ev = d := ⟨_, rfl⟩
      have hd := scene_get he
      have hdo := l12Do_fn p ev (evIn_of (List.mem_of_getElem? he))
      rw [hst] at hd hdo
      have hz : ((scene p).ds.zip x.fr)[k]? = some (d, f) := by simp [List.getElem?_zip_eq_some, hd, hf]
      have hkf : k < x.fr.length := by omega
      have bad : fromS x.od (d, f) = false → formS p x = false := fun h => by rw [hfit, allp_no hz h, Bool.and_false]
      have next : fromS x.od (d, f) = true → (((scene p).ds.zip x.fr).take (k + 1)).all (fromS x.od) = true := allp_take hz hall
      simp (maxSteps := 1000000) (disch := omega) only [push_cast, go_sem, wpS_tt, wpS_tf, wpS_ft, wpS_ff, wpCond_tt, wpCond_ff, simprocAttr, hlt]
      refine Sat.drawnE [(0, 6), (4, 6), (5, 6)] [] [0, 4, 5] (pureT [(92, d.V)]) (by kernel_rfl) (by kernel_rfl) ?_
      simp (maxSteps := 1000000) (disch := omega) only [push_cast, go_sem, wpS_tt, wpS_tf, wpS_ft, wpS_ff, wpCond_tt, wpCond_ff, simprocAttr, he, hlt, Evt.V_eq]
      refine runD_pure rfl hdo rfl rfl ?_ ?_
      · rfl
      simp (maxSteps := 1000000) (disch := omega) only [push_cast, go_sem, wpS_tt, wpS_tf, wpS_ft, wpS_ff, wpCond_tt, wpCond_ff, simprocAttr, Do.V_eq]
      intro g3
      refine Sat.of (S := []) (by kernel_rfl) ?_
      simp (maxSteps := 1000000) (disch := omega) only [push_cast, go_sem, wpS_tt, wpS_tf, wpS_ft, wpS_ff, wpCond_tt, wpCond_ff, simprocAttr]
      cases hr : d.reads
      · have hrf := l1Reads_fn d
        rw [hr] at hrf
        refine Sat.drawnE [] [] (List.range 38) (pureT [(65, .bool false)]) (by kernel_rfl) (by kernel_rfl) ?_
        simp (maxSteps := 1000000) (disch := omega) only [push_cast, go_sem, wpS_tt, wpS_tf, wpS_ft, wpS_ff, wpCond_tt, wpCond_ff, simprocAttr, Do.V_eq]
        refine runD_pure rfl hrf rfl rfl ?_ ?_
        · rfl
        cases hf2 : (f != -2)
        · simp (maxSteps := 1000000) (disch := omega) only [push_cast, go_sem, wpS_tt, wpS_tf, wpS_ft, wpS_ff, wpCond_tt, wpCond_ff, simprocAttr, hr, hf, hkf, hf2, Do.V_eq]
          refine runD_pure rfl hrf rfl rfl ?_ ?_
          · rfl
          simp (maxSteps := 1000000) (disch := omega) only [push_cast, go_sem, wpS_tt, wpS_tf, wpS_ft, wpS_ff, wpCond_tt, wpCond_ff, simprocAttr, hr]
          refine hJ (k + 1) _ _ ⟨by omega, next (by simp only [bne, Bool.not_eq_false'] at hf2; simp [fromS, hr, hf2])⟩ (by omega) ?_
          (refine Less.start ?_; repeat (first | exact LessO.nil | exact LessO.all | refine LessO.skip (by decide) ?_ | refine LessO.upd ?_ ?_ | refine LessO.set ?_ ?_)) <;> (try simp (maxSteps := 1000000) (disch := omega) only [push_cast, go_sem, wpS_tt, wpS_tf, wpS_ft, wpS_ff, wpCond_tt, wpCond_ff, simprocAttr])
        · simp (maxSteps := 1000000) (disch := omega) only [push_cast, go_sem, wpS_tt, wpS_tf, wpS_ft, wpS_ff, wpCond_tt, wpCond_ff, simprocAttr, hr, hf, hkf, hf2, Do.V_eq]
          rw [bad (by simp only [bne, Bool.not_eq_true'] at hf2; simp [fromS, hr, hf2])]
      · have hrf := l1Reads_fn d
        rw [hr] at hrf
        obtain ⟨hp0, hp2⟩ := hpl d (List.mem_of_getElem? hd) hr
        obtain ⟨a, ha⟩ := Int.eq_ofNat_of_zero_le hp0
        have hao : a < x.od.length := by omega
        obtain ⟨row, hro⟩ : ∃ r, x.od[a]? = some r := ⟨_, List.getElem?_eq_getElem hao⟩
        have hrow := h3 row (List.mem_of_getElem? hro)
        have hfs : fromS x.od (d, f) = (f == -1 || row.contains f) := by simp [fromS, hr, ha, hro]
        refine Sat.drawnE [] [] (List.range 38) (pureT [(65, .bool true), (76, .bool (row.contains f))]) (by kernel_rfl) (by kernel_rfl) ?_
        simp (maxSteps := 1000000) (disch := omega) only [push_cast, go_sem, wpS_tt, wpS_tf, wpS_ft, wpS_ff, wpCond_tt, wpCond_ff, simprocAttr, Do.V_eq]
        refine runD_pure rfl hrf rfl rfl ?_ ?_
        · rfl
        simp (maxSteps := 1000000) (disch := omega) only [push_cast, go_sem, wpS_tt, wpS_tf, wpS_ft, wpS_ff, wpCond_tt, wpCond_ff, simprocAttr, hr, Do.V_eq]
        refine runD_pure rfl hrf rfl rfl ?_ ?_
        · rfl
        cases hf1 : (f != -1)
        · simp (maxSteps := 1000000) (disch := omega) only [push_cast, go_sem, wpS_tt, wpS_tf, wpS_ft, wpS_ff, wpCond_tt, wpCond_ff, simprocAttr, hr, hf, hkf, hf1, Do.V_eq]
          refine hJ (k + 1) _ _ ⟨by omega, next (by simp only [bne, Bool.not_eq_false'] at hf1; simp [hfs, hf1])⟩ (by omega) ?_
          (refine Less.start ?_; repeat (first | exact LessO.nil | exact LessO.all | refine LessO.skip (by decide) ?_ | refine LessO.upd ?_ ?_ | refine LessO.set ?_ ?_)) <;> (try simp (maxSteps := 1000000) (disch := omega) only [push_cast, go_sem, wpS_tt, wpS_tf, wpS_ft, wpS_ff, wpCond_tt, wpCond_ff, simprocAttr])
        · simp (maxSteps := 1000000) (disch := omega) only [push_cast, go_sem, wpS_tt, wpS_tf, wpS_ft, wpS_ff, wpCond_tt, wpCond_ff, simprocAttr, hr, hf, hkf, hf1, ha, hro, hao, intsV_eq, Do.V_eq]
          refine runD_pure rfl (l12Has_fn row f hrow) rfl rfl ?_ ?_
          · rfl
          have hf1' : (f == -1) = false := by simpa only [bne, Bool.not_eq_true'] using hf1
          cases hc : row.contains f
          · simp (maxSteps := 1000000) (disch := omega) only [push_cast, go_sem, wpS_tt, wpS_tf, wpS_ft, wpS_ff, wpCond_tt, wpCond_ff, simprocAttr]
            rw [bad (by rw [hfs, hf1', hc]; rfl)]
          · simp (maxSteps := 1000000) (disch := omega) only [push_cast, go_sem, wpS_tt, wpS_tf, wpS_ft, wpS_ff, wpCond_tt, wpCond_ff, simprocAttr]
            refine hJ (k + 1) _ _ ⟨by omega, next (by rw [hfs, hc, Bool.or_true])⟩ (by omega) ?_
            (refine Less.start ?_; repeat (first | exact LessO.nil | exact LessO.all | refine LessO.skip (by decide) ?_ | refine LessO.upd ?_ ?_ | refine LessO.set ?_ ?_)) <;> (try simp (maxSteps := 1000000) (disch := omega) only [push_cast, go_sem, wpS_tt, wpS_tf, wpS_ft, wpS_ff, wpCond_tt, wpCond_ff, simprocAttr])
    · have : k = (events p).length := by omega
      subst this
      have hall2 : ((scene p).ds.zip x.fr).all (fromS x.od) = true := by rwa [List.take_of_length_le (by simp; omega)] at hall
      simp (maxSteps := 1000000) (disch := omega) only [push_cast, go_sem, wpS_tt, wpS_tf, wpS_ft, wpS_ff, wpCond_tt, wpCond_ff, simprocAttr]
      refine Sat.of (S := []) (by kernel_rfl) ?_
      simp (maxSteps := 1000000) (disch := omega) only [push_cast, go_sem, wpS_tt, wpS_tf, wpS_ft, wpS_ff, wpCond_tt, wpCond_ff, simprocAttr]
      rw [hfit, hall1, hall2]; rfl
end Go.Proofs.YtfdbminedccccaaGreatDoor
