/-
  All that may be told of the order at places, by the reference. All ways, by the reference. How many ways the reference puts at most. What is a way is one to both. What ends ends to both: a way is one to both. Readers' goings in and out stand in pairs. A way is one to both; a way is among all just if it is one. What must be ahead of what: the program and the reference say the same. What is seen of a way, by the program. What must be ahead of what, by the reference: looks at what it looks at. What was seen stands ahead of another, is the same, or stands behind: by the program. OrderHas, by the program: it answers what the reference's words say.
-/
import Derived.Test.YtfbgabkcjjahiaaGreatDoorNc
import Derived.Lib.SlKeysI
set_option linter.unusedSimpArgs false
set_option linter.unusedVariables false
namespace Go.Proofs.YtfbgabkcjjahiaaGreatDoor
open Go.RowKit
set_option pp.maxSteps 3000

@[push_cast] theorem okY_rows (l : List (List Int)) : okY Tryz.prog 26 (l.map intsV) = True := by
  simp only [okY, List.mem_map, eq_iff_iff, iff_true]
  rintro y ⟨d, _, rfl⟩
  exact ⟨by rw [szT_26]; rfl, by simp [intsV, V.cells, V.one]⟩
theorem rowsP_fp {f : FuncId} {args : List V} {L : List (List Int)} (h : Fc Tryz.prog f args noM (rowsP L)) : Fp Tryz.prog f args (.sl (L.map intsV)) :=
  h.fzRow (by
    rintro r m ⟨γ, c, e, ws, rfl, rfl, h1, _⟩
    exact ⟨100, γ, c, e, ws.map RowI.V, by rw [List.length_map], by simp [Mem.set], by rw [fz_rowsI, h1]⟩)
theorem l12Rows0_fn (l : List Int) (hl : l.length < 2 ^ 20) (hb : (rowsR l l.length []).length < 2 ^ 30) : Fp Tryz.prog 120 [intsV l, .nilsl, .nilsl] (.sl ((rowsR l l.length []).map intsV)) := by
  have h := l12Rows_fn l hl l.length ⟨none, 0, []⟩ none 0 26 [] (by simp) (by simpa using hb) (.inl rfl)
  exact rowsP_fp (Fc.nils (xs := [intsV l]) (e1 := 3) (e2 := 26) h)
def ordersSK (ds : List Do) : Nat → List (List (List Int))
  | 0 => [[]]
  | k + 1 => (ordersSK ds k).flatMap fun h => (rowsR (writersOf ds k) (writersOf ds k).length []).map fun r => h ++ [r]
theorem ordersSK_row {ds : List Do} : ∀ {k : Nat} {r : List (List Int)}, r ∈ ordersSK ds k → r.length = k
  | 0, r, h => by simp [ordersSK] at h; subst h; simp
  | k + 1, r, h => by
    simp only [ordersSK, List.mem_flatMap, List.mem_map] at h
    obtain ⟨h0, h1, c, _, rfl⟩ := h
    have := ordersSK_row h1
    simp; omega
theorem l12Orders_fn (p : Prog) (hn : (events p).length ≤ 42) (hR : ∀ k : Nat, k < 3 → (rowsR (writersOf (scene p).ds k) (writersOf (scene p).ds k).length []).length < 2 ^ 20) (hB : ∀ k, k ≤ 3 → (ordersSK (scene p).ds k).length < 2 ^ 30) :
    Fp Tryz.prog 77 [progV p, .sl ((events p).map Evt.V)] (.sl ((ordersSK (scene p).ds 3).map rowsV)) := by
  refine Fc.fzRow (R' := fun r m => ∃ s1 γ cap e es, r = .msl s1 [] γ es.length cap ∧ m s1 = some (.own e γ cap es) ∧ es.map V.fz = (ordersSK (scene p).ds 3).map rowsV) ?_ (fun r m h => h)
  refine Fc.start (S := [15]) Tryz.func77 Tryz.ntmps77 Tryz.results77 rfl (by decide) rfl (by kernel_rfl) ?_
  simp (maxSteps := 1000000) (disch := omega) only [push_cast, go_sem, zA, zB, zC, zD, zE, zF, simprocAttr, progV_eq]
  intro g1 g2 g3
  refine Sat.loop (σ := EvS × List V) (fun x => upd (upd (upd (upd noT 2 (.ptr 2 [] 0 0 g1 1)) 1 (.sl ((events p).map Evt.V))) 6 (.int .i64 x.1.k)) 5 (.msl 5 [] x.1.γ x.2.length x.1.c))
    (fun x => (noM.set 2 (.own 25 (some g1) 1 [.agg [.sl (p.map thrV)]])).set 5 (.own x.1.e x.1.γ x.1.c x.2))
    (fun x => x.1.k ≤ 3 ∧ x.2.map V.fz = (ordersSK (scene p).ds x.1.k).map rowsV) (fun x => 3 - x.1.k) (⟨0, 31, some g3, 1⟩, [.own 26 (some g2) 0 []]) (by simp; rfl) ?_ ?_
  · (refine Less.start ?_; repeat (first | exact LessO.nil | exact LessO.all | refine LessO.skip (by decide) ?_ | refine LessO.upd ?_ ?_ | refine LessO.set ?_ ?_)) <;> (try simp (maxSteps := 1000000) (disch := omega) only [push_cast, go_sem, zA, zB, zC, zD, zE, zF, simprocAttr])
    all_goals rfl
  rintro ⟨⟨k, e0, γ9, c9⟩, vs⟩ ⟨hk, hvs⟩ J hJ
  simp only at hk hvs hJ
  rcases Nat.lt_or_ge k 3 with hlt | hge
  · refine Sat.freezeT (upd (upd (upd (upd noT 2 (.ptr 2 [] 0 0 g1 1)) 1 (.sl ((events p).map Evt.V))) 6 (.int .i64 k)) 5 (.sl ((ordersSK (scene p).ds k).map rowsV))) (noM.set 2 (.own 25 (some g1) 1 [.agg [.sl (p.map thrV)]])) 5 (e := e0) (γ := γ9) (cap := c9) (es := vs) rfl ?_ ?_
    · (refine Less.start ?_; repeat (first | exact LessO.nil | exact LessO.all | refine LessO.skip (by decide) ?_ | refine LessO.upd ?_ ?_ | refine LessO.set ?_ ?_)) <;> (try simp (maxSteps := 1000000) (disch := omega) only [push_cast, go_sem, zA, zB, zC, zD, zE, zF, simprocAttr])
      rw [hvs]
    refine Sat.of (S := []) (by kernel_rfl) ?_
    have hrb := hR k hlt
    have hwl : (writersOf (scene p).ds k).length ≤ 42 := by
      have h1 : (scene p).ds.length = (events p).length := by simp [scene]
      have := wrs_le (scene p).ds k (scene p).ds.length
      unfold writersOf; omega
    have hrows := l12Rows0_fn (writersOf (scene p).ds k) (by omega) (by omega)
    obtain ⟨rs, hrs⟩ : ∃ rs, rowsR (writersOf (scene p).ds k) (writersOf (scene p).ds k).length [] = rs := ⟨_, rfl⟩
    rw [hrs] at hrows hrb
    have hk3 : (k : Int) < 3 := by omega
    have hfk : ordersSK (scene p).ds (k + 1) = (ordersSK (scene p).ds k).flatMap (fun h => rs.map fun r => h ++ [r]) := by rw [ordersSK, hrs]
    have hbK := hB k hk
    have hbk : (ordersSK (scene p).ds k).length * rs.length < 2 ^ 30 := by
      have := hB (k + 1) (by omega)
      rw [hfk, flatMap_len (n := rs.length) (by simp)] at this
      exact this
    simp (maxSteps := 1000000) (disch := omega) only [push_cast, go_sem, zA, zB, zC, zD, zE, zF, simprocAttr, hk3]
    refine callR.pure (l12Writes_fn p k hn) rfl rfl ?_
    simp (maxSteps := 1000000) (disch := omega) only [push_cast, go_sem, zA, zB, zC, zD, zE, zF, simprocAttr]
    refine callR.pure hrows rfl rfl ?_
    simp (maxSteps := 1000000) (disch := omega) only [push_cast, go_sem, zA, zB, zC, zD, zE, zF, simprocAttr]
    intro g4
    refine Sat.loop (σ := EvS × List RowR) (fun x => upd (upd (upd (upd (upd (upd (upd noT 2 (.ptr 2 [] 0 0 g1 1)) 1 (.sl ((events p).map Evt.V))) 6 (.int .i64 k)) 5 (.sl ((ordersSK (scene p).ds k).map rowsV))) 7 (.sl (rs.map intsV))) 8 (.msl 8 [] x.1.γ x.2.length x.1.c)) 9 (.int .i64 x.1.k)) (fun x => (noM.set 2 (.own 25 (some g1) 1 [.agg [.sl (p.map thrV)]])).set 8 (.own x.1.e x.1.γ x.1.c (x.2.map RowR.V)))
      (fun x => x.1.k ≤ (ordersSK (scene p).ds k).length ∧ (x.1.γ = none ∨ x.1.e = 31) ∧ x.2.map RowR.l = ((ordersSK (scene p).ds k).take x.1.k).flatMap (fun h => rs.map fun r => h ++ [r])) (fun x => (ordersSK (scene p).ds k).length - x.1.k) (⟨0, 31, some g4, 0⟩, []) (by simp) ?_ ?_
    · (refine Less.start ?_; repeat (first | exact LessO.nil | exact LessO.all | refine LessO.skip (by decide) ?_ | refine LessO.upd ?_ ?_ | refine LessO.set ?_ ?_)) <;> (try simp (maxSteps := 1000000) (disch := omega) only [push_cast, go_sem, zA, zB, zC, zD, zE, zF, simprocAttr])
      all_goals rfl
    rintro ⟨⟨i, e, γ, c⟩, ys⟩ ⟨hi, hγ, hys⟩ J2 hJ2
    refine Sat.of (S := []) (by kernel_rfl) ?_
    simp only at hi hγ hys hJ2
    rcases Nat.lt_or_ge i (ordersSK (scene p).ds k).length with hlt2 | hge2
    · obtain ⟨h, hh⟩ : ∃ h, (ordersSK (scene p).ds k)[i]? = some h := ⟨_, List.getElem?_eq_getElem hlt2⟩
      have hhl := ordersSK_row (List.mem_of_getElem? hh)
      simp (maxSteps := 1000000) (disch := omega) only [push_cast, go_sem, zA, zB, zC, zD, zE, zF, simprocAttr, hlt2]
      refine Sat.loop (σ := EvS × List RowR) (fun x => upd (upd (upd (upd (upd (upd (upd (upd noT 2 (.ptr 2 [] 0 0 g1 1)) 1 (.sl ((events p).map Evt.V))) 6 (.int .i64 k)) 5 (.sl ((ordersSK (scene p).ds k).map rowsV))) 7 (.sl (rs.map intsV))) 8 (.msl 8 [] x.1.γ x.2.length x.1.c)) 9 (.int .i64 i)) 10 (.int .i64 x.1.k)) (fun x => (noM.set 2 (.own 25 (some g1) 1 [.agg [.sl (p.map thrV)]])).set 8 (.own x.1.e x.1.γ x.1.c (x.2.map RowR.V)))
        (fun x => x.1.k ≤ rs.length ∧ (x.1.γ = none ∨ x.1.e = 31) ∧ x.2.map RowR.l = ((ordersSK (scene p).ds k).take i).flatMap (fun h => rs.map fun r => h ++ [r]) ++ (rs.take x.1.k).map fun r => h ++ [r]) (fun x => rs.length - x.1.k) (⟨0, e, γ, c⟩, ys) (by simp [hγ, hys]) ?_ ?_
      · (refine Less.start ?_; repeat (first | exact LessO.nil | exact LessO.all | refine LessO.skip (by decide) ?_ | refine LessO.upd ?_ ?_ | refine LessO.set ?_ ?_)) <;> (try simp (maxSteps := 1000000) (disch := omega) only [push_cast, go_sem, zA, zB, zC, zD, zE, zF, simprocAttr])
      rintro ⟨⟨j, e2, γ2, c2⟩, zs⟩ ⟨hj, hγ2, hzs⟩ J3 hJ3
      refine Sat.of (S := []) (by kernel_rfl) ?_
      simp only at hj hγ2 hzs hJ3
      rcases Nat.lt_or_ge j rs.length with hlt3 | hge3
      · obtain ⟨z, hz⟩ : ∃ z, rs[j]? = some z := ⟨_, List.getElem?_eq_getElem hlt3⟩
        have hγ2' : (γ2 = none ∨ e2 = 31) = True := by simp only [hγ2]
        have hzl : zs.length = i * rs.length + j := by
          have := congrArg List.length hzs
          rw [List.length_map, List.length_append, flatMap_len (n := rs.length) (by simp), List.length_take, List.length_map, List.length_take, Nat.min_eq_left hi, Nat.min_eq_left hj] at this
          exact this
        have hm1 : (i + 1) * rs.length ≤ (ordersSK (scene p).ds k).length * rs.length := Nat.mul_le_mul_right _ (by omega)
        rw [Nat.succ_mul] at hm1
        have hzb : zs.length + 1 < 2 ^ 30 := by generalize i * rs.length = A at *; generalize (ordersSK (scene p).ds k).length * rs.length = B at *; omega
        simp (maxSteps := 1000000) (disch := omega) only [push_cast, go_sem, zA, zB, zC, zD, zE, zF, simprocAttr, hlt3]
        refine Sat.drawnE [(1, 5), (1, 10), (5, 10), (6, 10), (1, 11), (5, 11), (6, 11)] [] [] (fun _ _ _ => none) (by kernel_rfl) (by kernel_rfl) ?_
        simp (maxSteps := 1000000) (disch := omega) only [push_cast, go_sem, zA, zB, zC, zD, zE, zF, simprocAttr, hh, hlt2, hz, hlt3, hγ2', rowsV_eq, intsV_eq]
        intro g5
        refine ⟨by omega, fun γ4 c4 _ => ?_⟩
        intro g6
        refine ⟨by omega, fun γ5 c5 _ => ?_⟩
        intro g7
        refine ⟨by omega, fun γ6 c6 _ => ?_⟩
        refine hJ3 (⟨j + 1, 31, γ6, c6⟩, zs ++ [⟨γ5, c5, h ++ [z]⟩]) _ _ ⟨by dsimp only; omega, .inr rfl, ?_⟩ (by dsimp only; omega) ?_
        · dsimp only
          rw [List.map_append, hzs, take_get hz, List.map_append, List.append_assoc]
          rfl
        · (refine Less.start ?_; repeat (first | exact LessO.nil | exact LessO.all | refine LessO.skip (by decide) ?_ | refine LessO.upd ?_ ?_ | refine LessO.set ?_ ?_)) <;> (try simp (maxSteps := 1000000) (disch := omega) only [push_cast, go_sem, zA, zB, zC, zD, zE, zF, simprocAttr])
          all_goals simp [RowR.V, rowsV, intsV]
      · have : j = rs.length := by omega
        subst this
        simp (maxSteps := 1000000) (disch := omega) only [push_cast, go_sem, zA, zB, zC, zD, zE, zF, simprocAttr]
        refine hJ2 (⟨i + 1, e2, γ2, c2⟩, zs) _ _ ⟨by dsimp only; omega, hγ2, ?_⟩ (by dsimp only; omega) ?_
        · dsimp only
          rw [hzs, List.take_length, take_get hh, List.flatMap_append]
          simp
        · (refine Less.start ?_; repeat (first | exact LessO.nil | exact LessO.all | refine LessO.skip (by decide) ?_ | refine LessO.upd ?_ ?_ | refine LessO.set ?_ ?_)) <;> (try simp (maxSteps := 1000000) (disch := omega) only [push_cast, go_sem, zA, zB, zC, zD, zE, zF, simprocAttr])
    · have : i = (ordersSK (scene p).ds k).length := by omega
      subst this
      rw [List.take_length, ← hfk] at hys
      simp (maxSteps := 1000000) (disch := omega) only [push_cast, go_sem, zA, zB, zC, zD, zE, zF, simprocAttr]
      refine hJ (⟨k + 1, e, γ, c⟩, ys.map RowR.V) _ _ ⟨by dsimp only; omega, ?_⟩ (by dsimp only; omega) ?_
      · dsimp only
        rw [fz_rowsR, hys]
      · (refine Less.start ?_; repeat (first | exact LessO.nil | exact LessO.all | refine LessO.skip (by decide) ?_ | refine LessO.upd ?_ ?_ | refine LessO.set ?_ ?_)) <;> (try simp (maxSteps := 1000000) (disch := omega) only [push_cast, go_sem, zA, zB, zC, zD, zE, zF, simprocAttr])
        all_goals simp
  · have : k = 3 := by omega
    subst this
    refine Sat.of (S := [15]) (by kernel_rfl) ?_
    simp (maxSteps := 1000000) (disch := omega) only [push_cast, go_sem, zA, zB, zC, zD, zE, zF, simprocAttr]
    refine Sat.of (S := []) (by kernel_rfl) ?_
    simp (maxSteps := 1000000) (disch := omega) only [push_cast, go_sem, zA, zB, zC, zD, zE, zF, simprocAttr]
    refine ⟨_, fun _ _ h => h, 4, γ9, c9, e0, vs, rfl, by simp [Mem.set], hvs⟩
end Go.Proofs.YtfbgabkcjjahiaaGreatDoor
namespace Go.Proofs.YtfbgabkcjjahiaaGreatDoor
open Go.RowKit
set_option pp.maxSteps 3000

def oneS (p : Prog) (f : List Int) (o : List (List Int)) : List Exe := if endsS p ⟨f, o⟩ then [⟨f, o⟩] else []
def allS (p : Prog) : List Exe := (compl (scene p).ds (events p).length []).flatMap fun f => (ordersSK (scene p).ds 3).flatMap fun o => oneS p f o
theorem oneS_le (p : Prog) (f : List Int) (o : List (List Int)) : (oneS p f o).length ≤ 1 := by unfold oneS; split <;> simp
theorem choices_lt {ds : List Do} {d : Do} {c : Int} (h : c ∈ choicesOf ds d) : c < ds.length := by
  unfold choicesOf at h
  split at h
  · simp only [List.mem_cons] at h
    rcases h with rfl | h
    · omega
    · obtain ⟨b, _, h1, rfl, _⟩ := mem_wrs h
      omega
  · simp at h; omega
theorem compl_row {ds : List Do} : ∀ {j : Nat} {fr f : List Int}, fr.length + j = ds.length → (∀ x ∈ fr, x < ds.length) → f ∈ compl ds j fr → f.length = ds.length ∧ ∀ x ∈ f, x < ds.length
  | 0, fr, f, hl, hx, h => by simp [compl] at h; subst h; exact ⟨by omega, hx⟩
  | j + 1, fr, f, hl, hx, h => by
    have hd : ds[fr.length]? = some ds[fr.length] := List.getElem?_eq_getElem (by omega)
    rw [compl, hd] at h
    simp only [List.mem_flatMap] at h
    obtain ⟨c, hc, h⟩ := h
    refine compl_row (by simp; omega) ?_ h
    intro x hx'
    simp only [List.mem_append, List.mem_singleton] at hx'
    rcases hx' with h | rfl
    · exact hx x h
    · exact choices_lt hc
theorem l12Froms0_fn (p : Prog) (hn : (events p).length ≤ 42) (hb : (compl (scene p).ds (events p).length []).length < 2 ^ 30) : Fp Tryz.prog 76 [progV p, .sl ((events p).map Evt.V), .nilsl, .nilsl] (.sl ((compl (scene p).ds (events p).length []).map intsV)) := by
  have h := l12Froms_fn p hn (events p).length ⟨none, 0, []⟩ none 0 26 [] (by simp) (by simpa using hb) (.inl rfl)
  exact rowsP_fp (Fc.nils (xs := [progV p, .sl ((events p).map Evt.V)]) (e1 := 3) (e2 := 26) h)
end Go.Proofs.YtfbgabkcjjahiaaGreatDoor
namespace Go.Proofs.YtfbgabkcjjahiaaGreatDoor
open Go.RowKit
set_option pp.maxSteps 3000

theorem rdN_cons (d : Do) (l : List Do) : rdN (d :: l) = (if d.reads then 1 else 0) + rdN l := by
  simp only [rdN, List.filter_cons]; split <;> simp [Nat.add_comm]
theorem compl_len {ds : List Do} (h : usN ds ≤ 6) : ∀ (j : Nat) (fr : List Int), fr.length + j = ds.length → (compl ds j fr).length ≤ 7 ^ rdN (ds.drop fr.length)
  | 0, fr, hl => by simp only [compl, List.length_singleton]; exact Nat.pos_of_ne_zero (by simp)
  | j + 1, fr, hl => by
    have hd : ds[fr.length]? = some ds[fr.length] := List.getElem?_eq_getElem (by omega)
    rw [compl, hd, drop_get hd, rdN_cons]
    dsimp only
    have key := flatMap_le (f := fun c => compl ds j (fr ++ [c])) (n := 7 ^ rdN (ds.drop (fr.length + 1))) (fun c => by have := compl_len h j (fr ++ [c]) (by simp; omega); simpa using this) (choicesOf ds ds[fr.length])
    refine Nat.le_trans key ?_
    rw [Nat.pow_add]
    refine Nat.mul_le_mul_right _ ?_
    unfold choicesOf
    split
    · rw [List.length_cons, writers_len]
      have := wrN_any h ds[fr.length].p
      omega
    · simp
theorem rdN_drop {ds : List Do} (h : usN ds ≤ 6) (k : Nat) : rdN (ds.drop k) ≤ 6 := by
  have h1 : rdN (ds.drop k) ≤ usN ds := by
    simp only [rdN, usN]
    rw [← List.countP_eq_length_filter, ← List.countP_eq_length_filter]
    refine Nat.le_trans (List.countP_mono_left (q := Do.uses) fun d _ hd => ?_) (List.Sublist.countP_le (List.drop_sublist k ds))
    simp [Do.uses, hd]
  omega
theorem compl_le {ds : List Do} (h : usN ds ≤ 6) : (compl ds ds.length []).length ≤ 117649 :=
  Nat.le_trans (compl_len h ds.length [] (by simp)) (Nat.le_trans (Nat.pow_le_pow_right (by decide) (rdN_drop h _)) (by decide))

/-! ### numbers that stand once -/
theorem nodup_le {a : List Int} : ∀ {b : List Int}, a.Nodup → (∀ x ∈ a, x ∈ b) → a.length ≤ b.length := by
  induction a with
  | nil => intro b _ _; simp
  | cons x a ih =>
    intro b hn hs
    rw [List.nodup_cons] at hn
    have hx := hs x (by simp)
    have := ih (b := b.erase x) hn.2 (fun y hy => (List.mem_erase_of_ne (fun (e : y = x) => hn.1 (by rw [← e]; exact hy))).2 (hs y (by simp [hy])))
    rw [List.length_erase_of_mem hx] at this
    have := List.length_pos_of_mem hx
    simp; omega
theorem perm_of {a : List Int} : ∀ {b : List Int}, a.Nodup → (∀ x ∈ a, x ∈ b) → b.length ≤ a.length → a.Perm b := by
  induction a with
  | nil => intro b _ _ h; have : b = [] := List.eq_nil_of_length_eq_zero (by simpa using h); rw [this]
  | cons x a ih =>
    intro b hn hs hl
    rw [List.nodup_cons] at hn
    have hx := hs x (by simp)
    have := ih (b := b.erase x) hn.2 (fun y hy => (List.mem_erase_of_ne (fun (e : y = x) => hn.1 (by rw [← e]; exact hy))).2 (hs y (by simp [hy]))) (by rw [List.length_erase_of_mem hx]; simp at hl; omega)
    exact (this.cons x).trans (List.perm_cons_erase hx).symm
theorem wrs_pw {ds : List Do} {pl : Int} : ∀ k, (wrs ds pl k).Pairwise (· < ·) ∧ ∀ x ∈ wrs ds pl k, x < (k : Int)
  | 0 => by simp [wrs]
  | k + 1 => by
    obtain ⟨h1, h2⟩ := wrs_pw (ds := ds) (pl := pl) k
    rw [wrs]
    constructor
    · rw [List.pairwise_append]
      refine ⟨h1, ?_, fun x hx y hy => ?_⟩
      · split
        · split <;> simp
        · simp
      · have := h2 x hx
        split at hy
        · split at hy
          · simp at hy; omega
          · cases hy
        · cases hy
    · intro x hx
      simp only [List.mem_append] at hx
      rcases hx with hx | hx
      · have := h2 x hx; omega
      · split at hx
        · split at hx
          · simp at hx; omega
          · cases hx
        · cases hx
theorem writers_nodup (ds : List Do) (pl : Int) : (writersOf ds pl).Nodup := (wrs_pw ds.length).1.imp (fun h => by omega)
theorem filter_in {l h : List Int} (hl : l.Nodup) (hh : h.Nodup) (hs : ∀ x ∈ h, x ∈ l) : (l.filter fun z => !h.contains z).length + h.length = l.length := by
  have h1 : (l.filter fun z => h.contains z).length = h.length := by
    refine Nat.le_antisymm (nodup_le (hl.filter _) fun x hx => ?_) (nodup_le hh fun x hx => ?_)
    · simpa using (List.mem_filter.1 hx).2
    · exact List.mem_filter.2 ⟨hs x hx, by simpa using hx⟩
  have h2 := List.length_eq_countP_add_countP (fun z => h.contains z) (l := l)
  rw [List.countP_eq_length_filter, List.countP_eq_length_filter, h1] at h2
  have h3 : (l.filter fun a => decide ¬(h.contains a = true)) = l.filter fun z => !h.contains z := List.filter_congr fun x _ => by cases h.contains x <;> rfl
  rw [h3] at h2
  omega
theorem flatMap_if {l h : List Int} {g : Int → List (List Int)} {n : Nat} (hg : ∀ z ∈ l, h.contains z = false → (g z).length = n) : (l.flatMap fun z => if h.contains z then [] else g z).length = (l.filter fun z => !h.contains z).length * n := by
  induction l with
  | nil => simp
  | cons x l ih =>
    have ih := ih fun z hz => hg z (by simp [hz])
    rw [List.flatMap_cons, List.length_append, ih, List.filter_cons]
    cases hc : h.contains x
    · simp only [Bool.false_eq_true, if_false, Bool.not_false, if_true, List.length_cons, Nat.succ_mul]
      rw [hg x (by simp) hc]; omega
    · simp
theorem rowsR_len {l : List Int} (hl : l.Nodup) : ∀ (j : Nat) (h : List Int), h.Nodup → (∀ x ∈ h, x ∈ l) → h.length + j = l.length → (rowsR l j h).length = fac j
  | 0, h, _, _, _ => rfl
  | j + 1, h, hh, hs, hj => by
    rw [rowsR, flatMap_if (n := fac j) fun z hz hc => ?_]
    · have := filter_in hl hh hs
      rw [show (l.filter fun z => !h.contains z).length = j + 1 by omega]; rfl
    · refine rowsR_len hl j (h ++ [z]) ?_ ?_ (by simp; omega)
      · rw [List.nodup_append]
        refine ⟨hh, by simp, fun a ha b hb => ?_⟩
        simp at hb; subst hb
        intro e; subst e
        rw [List.contains_iff_mem.2 ha] at hc
        cases hc
      · intro x hx
        simp only [List.mem_append, List.mem_singleton] at hx
        rcases hx with hx | rfl
        · exact hs x hx
        · exact hz
theorem rowsR_row {l : List Int} : ∀ {j : Nat} {h r : List Int}, r ∈ rowsR l j h → r.length = h.length + j
  | 0, h, r, hr => by simp [rowsR] at hr; subst hr; simp
  | j + 1, h, r, hr => by
    rw [rowsR] at hr
    simp only [List.mem_flatMap] at hr
    obtain ⟨z, _, hz⟩ := hr
    split at hz
    · cases hz
    · have := rowsR_row hz; simp at this; omega
theorem rowsW_len (ds : List Do) (k : Int) : (rowsR (writersOf ds k) (writersOf ds k).length []).length = fac (wrN ds k) := by
  rw [rowsR_len (writers_nodup ds k) _ [] List.nodup_nil (by simp) (by simp), writers_len]
theorem ordersS_le {ds : List Do} (h : usN ds ≤ 6) : ∀ k, k ≤ 3 → (ordersSK ds k).length ≤ 720 := by
  have hc := count_le ds
  have step : ∀ k : Nat, (ordersSK ds (k + 1)).length = (ordersSK ds k).length * fac (wrN ds k) := fun k => by
    rw [ordersSK, flatMap_len (n := (rowsR (writersOf ds k) (writersOf ds k).length []).length) (by simp), rowsW_len]
  have h0 : (ordersSK ds 0).length = 1 := rfl
  have h1 := step 0
  have h2 := step 1
  have h3 := step 2
  rw [h0] at h1
  simp only [Nat.zero_add, Nat.reduceAdd, Int.cast_ofNat_Int, Int.natCast_zero, Int.natCast_one] at h1 h2 h3
  rw [h1] at h2
  rw [h2] at h3
  obtain ⟨k1, k2, k3⟩ := fac3 (wrN ds 0) (by omega) (wrN ds 1) (by omega) (wrN ds 2) (by omega) (by omega)
  intro k hk
  obtain rfl | rfl | rfl | rfl : k = 0 ∨ k = 1 ∨ k = 2 ∨ k = 3 := by omega
  · rw [h0]; omega
  · rw [h1]; exact k1
  · rw [h2]; exact k2
  · rw [h3]; exact k3
theorem ordersS_in {ds : List Do} : ∀ {k : Nat} {r : List (List Int)} {row : List Int}, r ∈ ordersSK ds k → row ∈ r → row.length ≤ ds.length
  | 0, r, row, h, h2 => by simp [ordersSK] at h; subst h; cases h2
  | k + 1, r, row, h, h2 => by
    simp only [ordersSK, List.mem_flatMap, List.mem_map] at h
    obtain ⟨h0, h1, c, hc, rfl⟩ := h
    simp only [List.mem_append, List.mem_singleton] at h2
    rcases h2 with h2 | rfl
    · exact ordersS_in h1 h2
    · rw [rowsR_row hc]
      have := wrs_le ds k ds.length
      rw [List.length_nil, Nat.zero_add]; exact this
def specAll (p : Prog) : List Exe := if progOk p then allS p else []
end Go.Proofs.YtfbgabkcjjahiaaGreatDoor
namespace Go.Proofs.YtfbgabkcjjahiaaGreatDoor
open Go.RowKit
set_option pp.maxSteps 3000

theorem thrGo_formed : ∀ {l : List Do} {r i : Bool}, thrGo l r i = true → ∀ d ∈ l, d.formed = true
  | [], _, _, _, d, hd => by cases hd
  | d0 :: l, r, i, h, d, hd => by
    rw [thrGo] at h
    split at h
    · cases h
    · rename_i hw
      simp only [Bool.or_eq_true, Bool.not_eq_true', not_or, Bool.not_eq_false] at hw
      rcases List.mem_cons.1 hd with rfl | hd
      · exact hw.1
      · exact thrGo_formed h d hd
theorem scene_formed {p : Prog} (h : progOk p = true) : ∀ d ∈ (scene p).ds, d.formed = true := by
  intro d hd
  simp only [scene, List.mem_map] at hd
  obtain ⟨e, he, rfl⟩ := hd
  obtain ⟨i, l, k, d, hl, hd, _, _, hst, _⟩ := mem_events he
  rw [hst]
  have hth : threadOk l = true := by
    simp only [progOk, Bool.and_eq_true, List.all_eq_true] at h
    exact h.1.1.2 l (List.mem_of_getElem? hl)
  simp only [threadOk, Bool.and_eq_true] at hth
  exact thrGo_formed hth.1 d (List.mem_of_getElem? hd)
theorem formed_place {d : Do} (h : d.formed = true) (hu : d.uses = true) : 0 ≤ d.p ∧ d.p ≤ 2 := by
  simp only [Do.formed, hu, if_true, Bool.and_eq_true, inB, decide_eq_true_eq] at h
  exact h.1.2
theorem formed_val {d : Do} (h : d.formed = true) : 0 ≤ d.v := by
  simp only [Do.formed, Bool.and_eq_true] at h
  have := h.2
  split at this
  · simp only [inB, Bool.and_eq_true, decide_eq_true_eq] at this; omega
  · simp at this; omega
theorem writers_pw (ds : List Do) (pl : Int) : (writersOf ds pl).Pairwise (· < ·) := (wrs_pw ds.length).1
/-- A place's row is told just so. -/
theorem sorted_eq {ws row : List Int} (hw : ws.Pairwise (· < ·)) (hn : ws.Nodup) : (sorted row == ws) = (ws.length == row.length && ws.all row.contains) := by
  have hle : ws.mergeSort leI = ws := List.mergeSort_of_pairwise (hw.imp fun h => by simp only [decide_eq_true_eq]; omega)
  rw [Bool.eq_iff_iff]
  simp only [beq_iff_eq, Bool.and_eq_true, List.all_eq_true, List.contains_iff_mem]
  constructor
  · intro h
    have hp : (sorted row).Perm row := List.mergeSort_perm row _
    rw [h] at hp
    exact ⟨hp.length_eq, fun x hx => hp.mem_iff.1 hx⟩
  · rintro ⟨h1, h2⟩
    have hp : ws.Perm row := perm_of hn h2 (by omega)
    have := Go.mergeSort_of_perm_i hp
    rw [hle] at this
    exact this.symm
theorem place_mem {ds : List Do} {od : List (List Int)} {k : Nat} (h : placeS ds od k = true) (x : Int) : x ∈ od[k]?.getD [] ↔ x ∈ writersOf ds k := by
  simp only [placeS, Bool.and_eq_true, beq_iff_eq, List.all_eq_true, List.contains_iff_mem] at h
  exact (perm_of (writers_nodup ds k) h.2 (by omega)).mem_iff.symm
theorem fits_form {p : Prog} (hok : progOk p = true) (x : Exe) : fits (scene p) x = formS p x := by
  have hes : (scene p).es = events p := rfl
  have hsl : (scene p).ds.length = (events p).length := by simp [scene]
  unfold fits formS
  rw [hes]
  by_cases h1 : x.fr.length = (events p).length
  rotate_left
  · simp [h1]
  by_cases h2 : x.od.length = 3
  rotate_left
  · simp [h2]
  simp only [h1, h2, decide_true, Bool.true_and]
  have h3 : x.od.zipIdx.all (odOk (scene p).ds) = (List.range 3).all (placeS (scene p).ds x.od) := by
    rw [Bool.eq_iff_iff]
    simp only [List.all_eq_true]
    constructor
    · intro h k hk
      have hk3 : k < x.od.length := by rw [h2]; simpa using hk
      have hz : x.od.zipIdx[k]? = some (x.od[k], k) := by simp [hk3]
      have := h _ (List.mem_of_getElem? hz)
      simp only [odOk] at this
      rw [sorted_eq (writers_pw _ _) (writers_nodup _ _)] at this
      simpa only [placeS, List.getElem?_eq_getElem hk3, Option.getD_some] using this
    · rintro h ⟨row, k⟩ hq
      obtain ⟨i, hi⟩ := List.getElem?_of_mem hq
      simp only [List.getElem?_zipIdx, Option.map_eq_some_iff, Prod.mk.injEq, Nat.zero_add] at hi
      obtain ⟨row', hr, rfl, rfl⟩ := hi
      have hi3 : i < 3 := by rw [← h2]; exact (List.getElem?_eq_some_iff.1 hr).1
      have := h i (by simpa using hi3)
      simp only [odOk]
      rw [sorted_eq (writers_pw _ _) (writers_nodup _ _)]
      simpa only [placeS, hr, Option.getD_some] using this
  rw [h3, Bool.and_comm]
  cases hP : (List.range 3).all (placeS (scene p).ds x.od)
  · simp
  simp only [Bool.true_and]
  rw [Bool.eq_iff_iff]
  simp only [List.all_eq_true] at hP ⊢
  have key : ∀ q ∈ (scene p).ds.zip x.fr, frOk (scene p).ds q = fromS x.od q := by
    rintro ⟨d, f⟩ hq
    have hd := (List.of_mem_zip hq).1
    simp only [frOk, fromS]
    cases hr : d.reads
    · simp
    · obtain ⟨hp0, hp2⟩ := formed_place (scene_formed hok d hd) (by simp [Do.uses, hr])
      obtain ⟨a, ha⟩ := Int.eq_ofNat_of_zero_le hp0
      have := place_mem (hP a (by simp; omega)) f
      simp only [if_true, ha, Int.toNat_natCast]
      congr 1
      rw [Bool.eq_iff_iff, List.contains_iff_mem, List.contains_iff_mem]
      exact this.symm
  exact ⟨fun h q hq => by rw [← key q hq]; exact h q hq, fun h q hq => by rw [key q hq]; exact h q hq⟩
/-- What is told of a way points at its events. -/
theorem form_lt {p : Prog} (hok : progOk p = true) {x : Exe} (h : formS p x = true) : x.fr.length = (events p).length ∧ ∀ f ∈ x.fr, f < (events p).length := by
  have hsl : (scene p).ds.length = (events p).length := by simp [scene]
  have hf := fromOk_of (scene_len p) (by rw [fits_form hok]; exact h)
  have h' := h
  simp only [formS, Bool.and_eq_true, decide_eq_true_eq, List.all_eq_true] at h'
  obtain ⟨⟨⟨h1, h2⟩, h3⟩, h4⟩ := h'
  refine ⟨h1, fun f hfm => ?_⟩
  obtain ⟨k, hk⟩ := List.getElem?_of_mem hfm
  have hkl : k < (scene p).ds.length := by have := (List.getElem?_eq_some_iff.1 hk).1; omega
  have hd : (scene p).ds[k]? = some (scene p).ds[k] := List.getElem?_eq_getElem hkl
  cases hr : (scene p).ds[k].reads
  · have := h4 ((scene p).ds[k], f) (List.mem_of_getElem? (i := k) (by simp [List.getElem?_zip_eq_some, hd, hk]))
    simp only [fromS, hr, Bool.false_eq_true, if_false, beq_iff_eq] at this
    omega
  · rcases hf.2 k _ f hd hk hr with rfl | ⟨b, d', rfl, hb, _⟩
    · omega
    · have := (List.getElem?_eq_some_iff.1 hb).1; omega
def specOk (p : Prog) (x : Exe) : Bool := progOk p && (formS p x && endsS p x)
theorem specExecOk_fn (p : Prog) (x : Exe) (hp : p.length < 2 ^ 40) (hx : x.small) : Fp Tryz.prog 57 [progV p, x.V] (.bool (specOk p x)) := by
  have h1 := specProgOk_fn p hp
  have hev := specExecEvents_fn p hp
  refine Fc.start (S := []) Tryz.func57 Tryz.ntmps57 Tryz.results57 rfl (by decide) rfl (by kernel_rfl) ?_
  simp (maxSteps := 1000000) (disch := omega) only [push_cast, go_sem, zA, zB, zC, zD, zE, zF, simprocAttr, progV_eq, Exe.V_eq]
  intro g1 g2
  refine callR.pure h1 rfl rfl ?_
  cases hok : progOk p
  · simp (maxSteps := 1000000) (disch := omega) only [push_cast, go_sem, zA, zB, zC, zD, zE, zF, simprocAttr]
    simp [specOk, hok]
  rw [hok, if_pos rfl] at hev
  have hel := events_le hok
  simp (maxSteps := 1000000) (disch := omega) only [push_cast, go_sem, zA, zB, zC, zD, zE, zF, simprocAttr]
  refine callR.pure hev rfl rfl ?_
  simp (maxSteps := 1000000) (disch := omega) only [push_cast, go_sem, zA, zB, zC, zD, zE, zF, simprocAttr]
  refine callR.pure (l12Form_fn p x hel hx (fun d hd hr => formed_place (scene_formed hok d hd) (by simp [Do.uses, hr]))) rfl rfl ?_
  cases hf : formS p x
  · simp (maxSteps := 1000000) (disch := omega) only [push_cast, go_sem, zA, zB, zC, zD, zE, zF, simprocAttr]
    simp [specOk, hf]
  obtain ⟨h2, h3⟩ := form_lt hok hf
  simp (maxSteps := 1000000) (disch := omega) only [push_cast, go_sem, zA, zB, zC, zD, zE, zF, simprocAttr]
  refine callR.pure (l12Ends_fn p x hel h2 h3) rfl rfl ?_
  simp (maxSteps := 1000000) (disch := omega) only [push_cast, go_sem, zA, zB, zC, zD, zE, zF, simprocAttr]
  simp [specOk, hok, hf]
end Go.Proofs.YtfbgabkcjjahiaaGreatDoor
namespace Go.Proofs.YtfbgabkcjjahiaaGreatDoor
open Go.RowKit
set_option pp.maxSteps 3000

theorem nodup_leN {a : List Nat} : ∀ {b : List Nat}, a.Nodup → (∀ x ∈ a, x ∈ b) → a.length ≤ b.length := by
  induction a with
  | nil => intro b _ _; simp
  | cons x a ih =>
    intro b hn hs
    rw [List.nodup_cons] at hn
    have hx := hs x (by simp)
    have := ih (b := b.erase x) hn.2 (fun y hy => (List.mem_erase_of_ne (fun (e : y = x) => hn.1 (by rw [← e]; exact hy))).2 (hs y (by simp [hy])))
    rw [List.length_erase_of_mem hx] at this
    have := List.length_pos_of_mem hx
    simp; omega
/-! ### a chain that ends has distinct events -/
/-- The event that is looked at next. -/
def nx (ds : List Do) (fr : List Int) (a : Nat) : Option (Option Int × Nat) := match ds[a]? with
  | none => none
  | some d => if d.valued then some (some d.v, 0) else if d.k == 3 then some (none, lastRd ds a) else match fr[a]? with
    | none => none
    | some f => if f == -1 then some (some 0, 0) else some (none, f.toNat)
theorem valI_nx {ds : List Do} {fr : List Int} {m a : Nat} : valI ds fr (m + 1) a = match nx ds fr a with | none => none | some (some v, _) => some v | some (none, b) => valI ds fr m b := by
  rw [valI, nx]
  cases ds[a]? with
  | none => rfl
  | some d =>
    dsimp only
    split
    · rfl
    · split
      · rfl
      · cases fr[a]? with
        | none => rfl
        | some f => dsimp only; split <;> rfl
theorem nx_lt {ds : List Do} {fr : List Int} {a : Nat} {r : Option Int × Nat} (h : nx ds fr a = some r) : a < ds.length := by
  unfold nx at h
  cases hd : ds[a]? with
  | none => rw [hd] at h; cases h
  | some d => exact (List.getElem?_eq_some_iff.1 hd).1
theorem valI_mono {ds : List Do} {fr : List Int} : ∀ {m a : Nat} {v : Int}, valI ds fr m a = some v → valI ds fr (m + 1) a = some v
  | 0, a, v, h => by rw [valI] at h; cases h
  | m + 1, a, v, h => by
    rw [valI_nx] at h ⊢
    cases hn : nx ds fr a with
    | none => rw [hn] at h; cases h
    | some r =>
      obtain ⟨o, b⟩ := r
      rw [hn] at h
      cases o with
      | some w => exact h
      | none => exact valI_mono h
theorem valI_up {ds : List Do} {fr : List Int} {m a : Nat} {v : Int} (h : valI ds fr m a = some v) : ∀ j, valI ds fr (m + j) a = some v
  | 0 => h
  | j + 1 => valI_mono (valI_up h j)
theorem chain {ds : List Do} {fr : List Int} : ∀ (k a : Nat), valI ds fr (k + 1) a ≠ none → valI ds fr k a = none → ∃ l : List Nat, l.length = k + 1 ∧ l.Nodup ∧ ∀ b ∈ l, b < ds.length ∧ valI ds fr (k + 1) b ≠ none := by
  intro k
  induction k with
  | zero =>
    intro a h1 _
    refine ⟨[a], rfl, by simp, fun b hb => ?_⟩
    simp at hb; subst hb
    refine ⟨?_, h1⟩
    rw [valI_nx] at h1
    cases hn : nx ds fr b with
    | none => rw [hn] at h1; exact absurd rfl h1
    | some r => exact nx_lt hn
  | succ k ih =>
    intro a h1 h2
    cases hn : nx ds fr a with
    | none => rw [valI_nx, hn] at h1; exact absurd rfl h1
    | some r =>
      obtain ⟨o, b⟩ := r
      cases o with
      | some w => rw [valI_nx, hn] at h2; cases h2
      | none =>
        have e1 : valI ds fr (k + 1) b ≠ none := by rw [valI_nx, hn] at h1; exact h1
        have e2 : valI ds fr k b = none := by rw [valI_nx, hn] at h2; exact h2
        obtain ⟨l, h3, h4, h5⟩ := ih b e1 e2
        refine ⟨a :: l, by rw [List.length_cons, h3], List.nodup_cons.2 ⟨fun ha => (h5 a ha).2 h2, h4⟩, fun c hc => ?_⟩
        rcases List.mem_cons.1 hc with rfl | hc
        · exact ⟨nx_lt hn, h1⟩
        · refine ⟨(h5 c hc).1, ?_⟩
          cases hv : valI ds fr (k + 1) c with
          | none => exact absurd hv (h5 c hc).2
          | some v => rw [valI_mono hv]; simp
theorem valI_enough {ds : List Do} {fr : List Int} {a : Nat} {v : Int} : ∀ {m : Nat}, valI ds fr m a = some v → valI ds fr ds.length a = some v := by
  intro m
  induction m with
  | zero => intro h; rw [valI] at h; cases h
  | succ m ih =>
    intro h
    cases hm : valI ds fr m a with
    | some w =>
      have := valI_mono hm
      rw [h] at this
      cases this
      exact ih hm
    | none =>
      obtain ⟨l, h1, h2, h3⟩ := chain m a (by rw [h]; simp) hm
      have := nodup_leN (b := List.range ds.length) h2 (fun b hb => List.mem_range.2 (h3 b hb).1)
      rw [List.length_range, h1] at this
      have hv := valI_up h (ds.length - (m + 1))
      rwa [show m + 1 + (ds.length - (m + 1)) = ds.length by omega] at hv

/-! ### what a copy stores -/
theorem srcOf_eq {es : List Evt} {ds : List Do} {a r : Nat} (ht : (es[r]?.getD default).t = (es[a]?.getD default).t) (hr : (ds[r]?.getD default).reads = true) : ∀ k, r < k → (∀ j, r < j → j < k → (ds[j]?.getD default).reads = false) → srcOf es ds a k = r
  | 0, h, _ => absurd h (by omega)
  | k + 1, h, hno => by
    rw [srcOf]
    rcases Nat.lt_or_ge r k with hk | hk
    · rw [hno k hk (by omega), Bool.and_false]
      exact srcOf_eq ht hr k hk fun j h1 h2 => hno j h1 (by omega)
    · have : r = k := by omega
      subst this
      rw [ht, hr]; simp
theorem evThr_t {t : Nat} {l : List Do} {e : Evt} : ∀ {k : Nat}, e ∈ evThr t l k → e.t = t := fun h => by
  obtain ⟨_, _, _, _, h1, _⟩ := mem_evThr h
  exact h1
theorem evPro_t {p : Prog} {e : Evt} {i : Nat} (h : e ∈ evPro p i) : e.t < (i : Int) := by
  obtain ⟨j, l, h1, _, h2⟩ := mem_evPro h
  have := evThr_t h2
  omega
theorem events_pw (p : Prog) : ∀ i, (evPro p i).Pairwise fun a b => a.t ≤ b.t
  | 0 => by simp [evPro]
  | i + 1 => by
    rw [evPro, List.pairwise_append]
    refine ⟨events_pw p i, ?_, fun a ha b hb => ?_⟩
    · split
      · exact List.pairwise_of_forall_mem_list fun a ha b hb => by rw [evThr_t ha, evThr_t hb]; exact Int.le_refl _
      · exact List.Pairwise.nil
    · have := evPro_t ha
      split at hb
      · rw [evThr_t hb]; omega
      · cases hb
theorem scene_copyT {p : Prog} (h : progOk p = true) {a : Nat} {e : Evt} (he : (events p)[a]? = some e) (h3 : (stepAt p e).k = 3) : ∃ (r : Nat) (e' : Evt), r < a ∧ (events p)[r]? = some e' ∧ e'.t = e.t ∧ (stepAt p e').reads = true := by
  have hth : ∀ l ∈ p, threadOk l = true := by
    simp only [progOk, Bool.and_eq_true, List.all_eq_true] at h
    exact h.1.1.2
  obtain ⟨i, l, j, d, hl, hd, h1, h2, hst, hpos⟩ := events_get he
  rw [hst] at h3
  have hok := hth l (List.mem_of_getElem? hl)
  simp only [threadOk, Bool.and_eq_true] at hok
  rcases thrGo_copy hok.1 hd h3 with hf | ⟨j', d', k1, k2, k3⟩
  · cases hf
  · refine ⟨(evPro p i).length + (evThr i l j').length, ⟨i, j', false⟩, ?_, events_at hl k2, by rw [h1], by simp [stepAt, hl, k2, k3]⟩
    have := evThr_mono (t := i) k2 k1; omega
theorem src_last {p : Prog} (h : progOk p = true) {a : Nat} {e : Evt} (he : (events p)[a]? = some e) (h3 : (stepAt p e).k = 3) : srcOf (events p) (scene p).ds a a = lastRd (scene p).ds a := by
  obtain ⟨r, e', h1, h2, h4, h5⟩ := scene_copyT h he h3
  obtain ⟨k1, ⟨d, k2, k3⟩, k4⟩ := lastRd_spec (ds := (scene p).ds) (a := a) ⟨r, stepAt p e', h1, scene_get h2, h5⟩
  obtain ⟨q, hq⟩ : ∃ q, lastRd (scene p).ds a = q := ⟨_, rfl⟩
  rw [hq] at k1 k2 k4 ⊢
  have hqr : r ≤ q := by
    rcases Nat.lt_or_ge q r with hh | hh
    · have := k4 r _ hh h1 (scene_get h2)
      rw [h5] at this; cases this
    · exact hh
  have hal := (List.getElem?_eq_some_iff.1 he).1
  obtain ⟨eq, heq⟩ : ∃ e, (events p)[q]? = some e := ⟨_, List.getElem?_eq_getElem (by omega)⟩
  have hpw := List.pairwise_iff_getElem.1 (events_pw p p.length)
  have t1 : e'.t ≤ eq.t := by
    rcases Nat.lt_or_ge r q with hh | hh
    · have := hpw r q (by have := (List.getElem?_eq_some_iff.1 h2).1; exact this) (by have := (List.getElem?_eq_some_iff.1 heq).1; exact this) hh
      rw [← (List.getElem?_eq_some_iff.1 h2).2, ← (List.getElem?_eq_some_iff.1 heq).2]; exact this
    · have : r = q := by omega
      subst this; rw [h2] at heq; cases heq; exact Int.le_refl _
  have t2 : eq.t ≤ e.t := by
    have := hpw q a (by have := (List.getElem?_eq_some_iff.1 heq).1; exact this) hal k1
    rw [← (List.getElem?_eq_some_iff.1 heq).2, ← (List.getElem?_eq_some_iff.1 he).2]; exact this
  refine srcOf_eq (by rw [heq, he]; simp only [Option.getD_some]; omega) (by rw [k2]; exact k3) a k1 fun j j1 j2 => ?_
  obtain ⟨dj, hdj⟩ : ∃ d, (scene p).ds[j]? = some d := ⟨_, List.getElem?_eq_getElem (by simp [scene]; omega)⟩
  rw [hdj]
  exact k4 j dj j1 j2 hdj
end Go.Proofs.YtfbgabkcjjahiaaGreatDoor
namespace Go.Proofs.YtfbgabkcjjahiaaGreatDoor
open Go.RowKit

theorem thr_open : ∀ {l : List Do} {r : Bool}, thrGo l r true = true → ∃ (t : Nat) (dt : Do), l[t]? = some dt ∧ dt.k = 8 ∧ ∀ (j : Nat) dj, j < t → l[j]? = some dj → dj.k ≠ 7 ∧ dj.k ≠ 8
  | [], _, h => by simp [thrGo] at h
  | d0 :: l, r, h => by
    rw [thrGo] at h
    split at h
    · cases h
    · rename_i hw
      have h7 : d0.k ≠ 7 := fun e => hw (by simp [Do.wrong, e])
      by_cases h8 : d0.k = 8
      · exact ⟨0, d0, rfl, h8, fun j dj hj => absurd hj (by omega)⟩
      · have e : (d0.k == 7 || (true && !(d0.k == 8))) = true := by simp [h8]
        rw [e] at h
        obtain ⟨t, dt, h1, h2, h3⟩ := thr_open h
        refine ⟨t + 1, dt, by simpa using h1, h2, fun j dj hj hd => ?_⟩
        cases j with
        | zero => simp at hd; subst hd; exact ⟨h7, h8⟩
        | succ j => exact h3 j dj (by omega) (by simpa using hd)
theorem thr_in : ∀ {l : List Do} {r i : Bool} {f : Nat} {d : Do}, thrGo l r i = true → l[f]? = some d → d.k = 7 → ∃ (t : Nat) (dt : Do), f < t ∧ l[t]? = some dt ∧ dt.k = 8 ∧ ∀ (j : Nat) dj, f < j → j < t → l[j]? = some dj → dj.k ≠ 7 ∧ dj.k ≠ 8
  | [], _, _, _, _, _, h, _ => by simp at h
  | d0 :: l, r, i, f, d, h, hd, h7 => by
    rw [thrGo] at h
    split at h
    · cases h
    · rename_i hw
      cases f with
      | zero =>
        simp at hd; subst hd
        have e : (d0.k == 7 || (i && !(d0.k == 8))) = true := by simp [h7]
        rw [e] at h
        obtain ⟨t, dt, h1, h2, h3⟩ := thr_open h
        refine ⟨t + 1, dt, by omega, by simpa using h1, h2, fun j dj hj hj2 hd => ?_⟩
        cases j with
        | zero => omega
        | succ j => exact h3 j dj (by omega) (by simpa using hd)
      | succ f =>
        obtain ⟨t, dt, h0, h1, h2, h3⟩ := thr_in h (by simpa using hd) h7
        refine ⟨t + 1, dt, by omega, by simpa using h1, h2, fun j dj hj hj2 hd => ?_⟩
        cases j with
        | zero => omega
        | succ j => exact h3 j dj (by omega) (by omega) (by simpa using hd)
theorem thr_out : ∀ {l : List Do} {r i : Bool} {b : Nat} {d : Do}, thrGo l r i = true → l[b]? = some d → d.k = 8 →
    (i = true ∧ ∀ (j : Nat) dj, j < b → l[j]? = some dj → dj.k ≠ 7 ∧ dj.k ≠ 8) ∨ ∃ (f : Nat) (df : Do), f < b ∧ l[f]? = some df ∧ df.k = 7 ∧ ∀ (j : Nat) dj, f < j → j < b → l[j]? = some dj → dj.k ≠ 7 ∧ dj.k ≠ 8
  | [], _, _, _, _, _, h, _ => by simp at h
  | d0 :: l, r, i, b, d, h, hd, h8 => by
    rw [thrGo] at h
    split at h
    · cases h
    · rename_i hw
      cases b with
      | zero =>
        simp at hd; subst hd
        left
        refine ⟨?_, fun j dj hj => absurd hj (by omega)⟩
        cases i
        · exact absurd (by simp [Do.wrong, h8]) hw
        · rfl
      | succ b =>
        rcases thr_out h (by simpa using hd) h8 with ⟨h1, h2⟩ | ⟨f, df, h0, h1, h2, h3⟩
        · by_cases h7 : d0.k = 7
          · right
            refine ⟨0, d0, by omega, rfl, h7, fun j dj hj hj2 hd => ?_⟩
            cases j with
            | zero => omega
            | succ j => exact h2 j dj (by omega) (by simpa using hd)
          · left
            have : i = true ∧ d0.k ≠ 8 := by simpa [h7] using h1
            refine ⟨this.1, fun j dj hj hd => ?_⟩
            cases j with
            | zero => simp at hd; subst hd; exact ⟨h7, this.2⟩
            | succ j => exact h2 j dj (by omega) (by simpa using hd)
        · right
          refine ⟨f + 1, df, by omega, by simpa using h1, h2, fun j dj hj hj2 hd => ?_⟩
          cases j with
          | zero => omega
          | succ j => exact h3 j dj (by omega) (by omega) (by simpa using hd)

/-! ### the order of events -/
def Evt.lt (e f : Evt) : Prop := e.t < f.t ∨ (e.t = f.t ∧ (e.s < f.s ∨ (e.s = f.s ∧ f.l = true)))
theorem evThr_lt (t : Nat) (l : List Do) : ∀ k, (evThr t l k).Pairwise Evt.lt
  | 0 => by simp [evThr]
  | k + 1 => by
    rw [evThr, List.pairwise_append]
    refine ⟨evThr_lt t l k, ?_, fun a ha b hb => ?_⟩
    · split
      · unfold evsOf
        split
        · simp [Evt.lt]
        · simp
      · exact List.Pairwise.nil
    · obtain ⟨j, d, h1, _, h2, h3, _⟩ := mem_evThr ha
      split at hb
      · unfold evsOf at hb
        split at hb
        · simp at hb
          rcases hb with rfl | rfl <;> exact .inr ⟨h2, .inl (by simp only [h3]; omega)⟩
        · simp at hb
          subst hb
          exact .inr ⟨h2, .inl (by simp only [h3]; omega)⟩
      · cases hb
theorem evPro_lt (p : Prog) : ∀ i, (evPro p i).Pairwise Evt.lt
  | 0 => by simp [evPro]
  | i + 1 => by
    rw [evPro, List.pairwise_append]
    refine ⟨evPro_lt p i, ?_, fun a ha b hb => ?_⟩
    · split
      · exact evThr_lt _ _ _
      · exact List.Pairwise.nil
    · have := evPro_t ha
      split at hb
      · rw [Evt.lt, evThr_t hb]; exact .inl this
      · cases hb
theorem events_lt {p : Prog} {a b : Nat} {ea eb : Evt} (ha : (events p)[a]? = some ea) (hb : (events p)[b]? = some eb) (h : a < b) : ea.lt eb := by
  obtain ⟨ha1, ha2⟩ := List.getElem?_eq_some_iff.1 ha
  obtain ⟨hb1, hb2⟩ := List.getElem?_eq_some_iff.1 hb
  have := List.pairwise_iff_getElem.1 (evPro_lt p p.length) a b ha1 hb1 h
  rw [← ha2, ← hb2]; exact this

/-- What is known of an event. -/
structure At (p : Prog) (a : Nat) (e : Evt) (i : Nat) (l : List Do) (j : Nat) (d : Do) : Prop where
  ev : (events p)[a]? = some e
  pl : p[i]? = some l
  ld : l[j]? = some d
  t : e.t = i
  s : e.s = j
  st : stepAt p e = d
  late : e.l = true → d.k = 9
theorem At.of {p : Prog} {a : Nat} {e : Evt} (h : (events p)[a]? = some e) : ∃ i l j d, At p a e i l j d := by
  obtain ⟨i, l, k, d, h1, h2, h3, h4, h5, h6⟩ := mem_events (List.mem_of_getElem? h)
  exact ⟨i, l, k, d, h, h1, h2, h3, h4, h5, h6⟩
theorem At.kd {p : Prog} {a i j : Nat} {e : Evt} {l : List Do} {d : Do} (h : At p a e i l j d) : kd (scene p).ds a = d.k := by
  rw [Go.Proofs.YtfbgabkcjjahiaaGreatDoor.kd, scene_get h.ev, h.st]; rfl
theorem At.th {p : Prog} {a i j : Nat} {e : Evt} {l : List Do} {d : Do} (h : At p a e i l j d) : th (events p) a = i := by
  rw [Go.Proofs.YtfbgabkcjjahiaaGreatDoor.th, h.ev, ← h.t]; rfl
/-- An event between two of one thread, whose steps are no waits. -/
theorem At.between {p : Prog} {a b c i ja jc : Nat} {ea ec : Evt} {l : List Do} {da dc : Do} (ha : At p a ea i l ja da) (hc : At p c ec i l jc dc) (h9 : da.k ≠ 9) (h9c : dc.k ≠ 9) (h1 : a < b) (h2 : b < c) : ∃ eb jb db, At p b eb i l jb db ∧ ja < jb ∧ jb < jc := by
  have hcl := (List.getElem?_eq_some_iff.1 hc.ev).1
  obtain ⟨eb, heb⟩ : ∃ e, (events p)[b]? = some e := ⟨_, List.getElem?_eq_getElem (by omega)⟩
  obtain ⟨i', l', jb, db, hb⟩ := At.of heb
  have k1 := events_lt ha.ev hb.ev h1
  have k2 := events_lt hb.ev hc.ev h2
  simp only [Evt.lt, ha.t, hb.t, hc.t, ha.s, hb.s, hc.s] at k1 k2
  have hii : i' = i := by omega
  subst hii
  have hll : l' = l := Option.some.inj (hb.pl.symm.trans ha.pl)
  subst hll
  refine ⟨eb, jb, db, hb, ?_, ?_⟩
  · rcases k1 with k1 | ⟨_, k1 | ⟨k1, k3⟩⟩
    · omega
    · omega
    · have : ja = jb := by omega
      subst this
      have : da = db := Option.some.inj (ha.ld.symm.trans hb.ld)
      subst this
      exact absurd (hb.late k3) h9
  · rcases k2 with k2 | ⟨_, k2 | ⟨k2, k3⟩⟩
    · omega
    · omega
    · exact absurd (hc.late k3) h9c
theorem At.ord {p : Prog} {a c i ja jc : Nat} {ea ec : Evt} {l : List Do} {da dc : Do} (ha : At p a ea i l ja da) (hc : At p c ec i l jc dc) (h : ja < jc) : a < c := by
  rcases Nat.lt_or_ge a c with h1 | h1
  · exact h1
  · rcases Nat.lt_or_ge c a with h2 | h2
    · have := events_lt hc.ev ha.ev h2
      simp only [Evt.lt, ha.t, hc.t, ha.s, hc.s] at this
      omega
    · have : a = c := by omega
      subst this
      have e : ea = ec := Option.some.inj (ha.ev.symm.trans hc.ev)
      have h1 := ha.s
      have h2 := hc.s
      rw [e] at h1
      omega
theorem At.mk' {p : Prog} {l : List Do} {d : Do} {i j : Nat} (hl : p[i]? = some l) (hd : l[j]? = some d) : At p ((evPro p i).length + (evThr i l j).length) ⟨i, j, false⟩ i l j d :=
  ⟨events_at hl hd, hl, hd, rfl, rfl, by simp [stepAt, hl, hd], nofun⟩
/-- Two events of one thread between which nobody goes in or out. -/
structure Quiet (p : Prog) (f t : Nat) : Prop where
  lt : f < t
  tl : t < (events p).length
  same : th (events p) f = th (events p) t
  no : ∀ j, f < j → j < t → kd (scene p).ds j ≠ 7 ∧ kd (scene p).ds j ≠ 8 ∧ th (events p) j = th (events p) f
theorem ok_thr {p : Prog} (h : progOk p = true) {i : Nat} {l : List Do} (hl : p[i]? = some l) : thrGo l false false = true := by
  simp only [progOk, Bool.and_eq_true, List.all_eq_true] at h
  have := h.1.1.2 l (List.mem_of_getElem? hl)
  simp only [threadOk, Bool.and_eq_true] at this
  exact this.1
theorem in_out {p : Prog} (h : progOk p = true) {f : Nat} (hf : f < (events p).length) (h7 : kd (scene p).ds f = 7) : ∃ t, Quiet p f t ∧ kd (scene p).ds t = 8 := by
  obtain ⟨i, l, j, d, ha⟩ := At.of (List.getElem?_eq_getElem hf)
  rw [ha.kd] at h7
  obtain ⟨t, dt, k1, k2, k3, k4⟩ := thr_in (ok_thr h ha.pl) ha.ld h7
  have hc := At.mk' ha.pl k2
  have hlt := ha.ord hc k1
  refine ⟨_, ⟨hlt, (List.getElem?_eq_some_iff.1 hc.ev).1, by rw [ha.th, hc.th], fun x hx1 hx2 => ?_⟩, by rw [hc.kd]; exact k3⟩
  obtain ⟨eb, jb, db, hb, m1, m2⟩ := ha.between hc (by omega) (by omega) hx1 hx2
  have := k4 jb db m1 m2 hb.ld
  exact ⟨by rw [hb.kd]; exact this.1, by rw [hb.kd]; exact this.2, by rw [hb.th, ha.th]⟩
theorem out_in {p : Prog} (h : progOk p = true) {b : Nat} (hb : b < (events p).length) (h8 : kd (scene p).ds b = 8) : ∃ f, Quiet p f b ∧ kd (scene p).ds f = 7 := by
  obtain ⟨i, l, j, d, hc⟩ := At.of (List.getElem?_eq_getElem hb)
  rw [hc.kd] at h8
  rcases thr_out (ok_thr h hc.pl) hc.ld h8 with ⟨hf, _⟩ | ⟨f, df, k1, k2, k3, k4⟩
  · cases hf
  have ha := At.mk' hc.pl k2
  have hlt := ha.ord hc k1
  refine ⟨_, ⟨hlt, hb, by rw [ha.th, hc.th], fun x hx1 hx2 => ?_⟩, by rw [ha.kd]; exact k3⟩
  obtain ⟨eb, jb, db, hx, m1, m2⟩ := ha.between hc (by omega) (by omega) hx1 hx2
  have := k4 jb db m1 m2 hx.ld
  exact ⟨by rw [hx.kd]; exact this.1, by rw [hx.kd]; exact this.2, by rw [hx.th, ha.th]⟩
end Go.Proofs.YtfbgabkcjjahiaaGreatDoor
namespace Go.Proofs.YtfbgabkcjjahiaaGreatDoor
open Go.RowKit
set_option pp.maxSteps 3000

theorem kinds {d : Do} (hu : d.uses = true) : (d.reads = true ∧ d.valued = false ∧ (d.k == 3) = false) ∨ (d.reads = false ∧ d.valued = false ∧ (d.k == 3) = true) ∨ (d.reads = false ∧ d.valued = true ∧ (d.k == 3) = false) := by
  simp only [Do.uses, Do.reads, Do.writes, Do.valued] at *
  by_cases h1 : d.k = 1
  · simp [h1]
  by_cases h2 : d.k = 2
  · simp [h2]
  by_cases h3 : d.k = 3
  · simp [h3]
  by_cases h5 : d.k = 5
  · simp [h5]
  by_cases h6 : d.k = 6
  · simp [h6]
  · simp [h1, h2, h3, h5, h6] at hu
def orM (o : Option Int) : Int := match o with | some v => v | none => -1
theorem val_eq {p : Prog} (hok : progOk p = true) {x : Exe} (hf : fromOk (scene p).ds x.fr) : ∀ (m a : Nat) (d : Do), (scene p).ds[a]? = some d → d.uses = true →
    valS (events p) (scene p).ds x.fr m a = orM (valI (scene p).ds x.fr m a) ∧ ∀ v, valI (scene p).ds x.fr m a = some v → 0 ≤ v := by
  intro m
  induction m with
  | zero =>
    intro a d hd hu
    have : ¬ ((a : Int) < 0) := by omega
    simp [valS, valI, this, orM]
  | succ m ih =>
    intro a d hd hu
    have h0 : ¬ ((a : Int) < 0) := by omega
    rw [valS, if_neg h0, valI]
    simp only [Int.toNat_natCast, hd]
    rcases kinds hu with ⟨hr, hv, h3⟩ | ⟨hr, hv, h3⟩ | ⟨hr, hv, h3⟩
    · simp only [hr, hv, h3, if_true, Bool.false_eq_true, if_false]
      have hal := (List.getElem?_eq_some_iff.1 hd).1
      obtain ⟨f, hfa⟩ : ∃ f, x.fr[a]? = some f := ⟨_, List.getElem?_eq_getElem (by have := hf.1; omega)⟩
      rw [hfa, Option.getD_some]
      dsimp only
      rcases hf.2 a d f hd hfa hr with rfl | ⟨b, d', rfl, h1, h2⟩
      · have : ∀ m, valS (events p) (scene p).ds x.fr m (-1) = 0 := fun m => by cases m <;> simp [valS]
        rw [this]
        simp [orM]
      · have hb : (((b : Nat) : Int) == -1) = false := beq_eq_false_iff_ne.2 (by omega)
        rw [hb]
        simp only [Bool.false_eq_true, if_false, Int.toNat_natCast]
        exact ih b d' h1 (by simp [Do.uses, h2])
    · simp only [hr, hv, h3, if_true, Bool.false_eq_true, if_false]
      have h3' : d.k = 3 := by simpa using h3
      obtain ⟨e, he⟩ : ∃ e, (events p)[a]? = some e := ⟨_, List.getElem?_eq_getElem (by have := (List.getElem?_eq_some_iff.1 hd).1; simpa [scene] using this)⟩
      have hst : stepAt p e = d := by have := scene_get he; rw [hd] at this; cases this; rfl
      rw [src_last hok he (by rw [hst]; exact h3')]
      obtain ⟨_, ⟨d', k2, k3⟩, _⟩ := lastRd_spec (scene_copy hok a d hd h3')
      exact ih _ d' k2 (by simp [Do.uses, k3])
    · simp only [hr, hv, h3, if_true, Bool.false_eq_true, if_false, orM]
      have := formed_val (scene_formed hok d (List.mem_of_getElem? hd))
      exact ⟨trivial, fun v hv => by cases hv; exact this⟩
theorem ends_eq {p : Prog} (hok : progOk p = true) {x : Exe} (hf : fits (scene p) x = true) : (scene p).ds.zipIdx.all (endOk (scene p).ds x.fr) = endsS p x := by
  have hsl : (scene p).ds.length = (events p).length := by simp [scene]
  have hfr := fromOk_of (scene_len p) hf
  have key : ∀ (a : Nat) (d : Do), (scene p).ds[a]? = some d → endOk (scene p).ds x.fr (d, a) = endS p x.fr a := by
    intro a d hd
    simp only [endOk, endS]
    cases hu : d.uses
    · have hr : d.reads = false := by cases h : d.reads <;> simp [Do.uses, h] at hu ⊢
      have hw : d.writes = false := by cases h : d.writes <;> simp [Do.uses, h] at hu ⊢
      have h3 : (d.k == 3) = false := by cases h : (d.k == 3) <;> simp [Do.writes, h] at hw ⊢
      have h0 : ¬ ((a : Int) < 0) := by omega
      have : valS (events p) (scene p).ds x.fr (2 * (events p).length + 2) a = d.v := by
        rw [show 2 * (events p).length + 2 = (2 * (events p).length + 1) + 1 from rfl, valS, if_neg h0]
        simp [hd, hr, h3]
      rw [this]
      have := formed_val (scene_formed hok d (List.mem_of_getElem? hd))
      have : ¬ d.v < 0 := by omega
      simp [this]
    · obtain ⟨h1, h2⟩ := val_eq hok hfr (2 * (events p).length + 2) a d hd hu
      rw [h1]
      cases hv : valI (scene p).ds x.fr (2 * (events p).length + 2) a with
      | none =>
        have : valI (scene p).ds x.fr (scene p).ds.length a = none := by
          cases hn : valI (scene p).ds x.fr (scene p).ds.length a with
          | none => rfl
          | some v =>
            have := valI_up hn ((events p).length + 2)
            rw [hsl, show (events p).length + ((events p).length + 2) = 2 * (events p).length + 2 by omega, hv] at this
            cases this
        rw [this]; simp [orM]
      | some v =>
        rw [valI_enough hv]
        have := h2 v hv
        have : ¬ v < 0 := by omega
        simp [orM, this]
  rw [endsS, Bool.eq_iff_iff]
  simp only [List.all_eq_true]
  constructor
  · intro h a ha
    have hal : a < (scene p).ds.length := by rw [hsl]; simpa using ha
    have hd : (scene p).ds[a]? = some (scene p).ds[a] := List.getElem?_eq_getElem hal
    rw [← key a _ hd]
    exact h _ (List.mem_of_getElem? (i := a) (by simp [hd]))
  · rintro h ⟨d, a⟩ hq
    obtain ⟨i, hi⟩ := List.getElem?_of_mem hq
    simp only [List.getElem?_zipIdx, Option.map_eq_some_iff, Prod.mk.injEq, Nat.zero_add] at hi
    obtain ⟨d', hd, rfl, rfl⟩ := hi
    rw [key i _ hd]
    exact h i (by rw [← hsl]; simpa using (List.getElem?_eq_some_iff.1 hd).1)
theorem ok_eq (p : Prog) (x : Exe) : execOk p x = specOk p x := by
  unfold execOk specOk
  cases hok : progOk p
  · rfl
  simp only [Bool.true_and]
  unfold okX
  cases hf : fits (scene p) x
  · rw [← fits_form hok, hf]; rfl
  · rw [← fits_form hok, hf, ends_eq hok hf]

/-! ### among all -/
theorem erase_perm {l : List Int} {i : Nat} (h : i < l.length) : (l[i] :: l.eraseIdx i).Perm l := by
  have e : l.take i ++ l[i] :: l.drop (i + 1) = l := by rw [← List.drop_eq_getElem_cons h, List.take_append_drop]
  rw [List.eraseIdx_eq_take_drop_succ]
  conv => rhs; rw [← e]
  exact List.perm_middle.symm
theorem mem_perms : ∀ {n : Nat} {l row : List Int}, l.length = n → l.Perm row → row ∈ perms n l
  | 0, l, row, hl, hp => by
    have : l = [] := List.eq_nil_of_length_eq_zero hl
    subst this
    have : row = [] := by simpa using hp.symm
    subst this; simp [perms]
  | n + 1, l, row, hl, hp => by
    cases row with
    | nil => have := hp.length_eq; rw [hl] at this; simp at this
    | cons z row =>
      have hz : z ∈ l := hp.mem_iff.2 (by simp)
      obtain ⟨i, hi⟩ := List.getElem?_of_mem hz
      have hil := (List.getElem?_eq_some_iff.1 hi).1
      have hzi : l[i] = z := (List.getElem?_eq_some_iff.1 hi).2
      have h1 : (z :: l.eraseIdx i).Perm l := by rw [← hzi]; exact erase_perm hil
      have h2 : (l.eraseIdx i).Perm row := (h1.trans hp).cons_inv
      simp only [perms, List.mem_flatMap, List.mem_range, List.mem_map]
      exact ⟨i, hil, row, mem_perms (by rw [List.length_eraseIdx_of_lt hil]; omega) h2, by simp [List.getD, hi]⟩
theorem mem_froms {ds : List Do} {fr : List Int} (h : ∀ (j : Nat) (d : Do), ds[j]? = some d → ∃ f, fr[j]? = some f ∧ f ∈ choicesOf ds d) : ∀ k, k ≤ ds.length → fr.take k ∈ fromsK ds k
  | 0, _ => by simp [fromsK]
  | k + 1, hk => by
    have hd : ds[k]? = some ds[k] := List.getElem?_eq_getElem (by omega)
    obtain ⟨f, hf, hc⟩ := h k _ hd
    rw [fromsK, hd]
    simp only [List.mem_flatMap, List.mem_map]
    exact ⟨fr.take k, mem_froms h k (by omega), f, hc, (take_get hf).symm⟩
theorem mem_orders {ds : List Do} {od : List (List Int)} (h : ∀ (j : Nat), j < 3 → ∃ r, od[j]? = some r ∧ (writersOf ds j).Perm r) : ∀ k, k ≤ 3 → od.take k ∈ ordersK ds k
  | 0, _ => by simp [ordersK]
  | k + 1, hk => by
    obtain ⟨r, hr, hp⟩ := h k (by omega)
    rw [ordersK]
    simp only [List.mem_flatMap, List.mem_map]
    exact ⟨od.take k, mem_orders h k (by omega), r, mem_perms rfl hp, (take_get hr).symm⟩
theorem mem_all {p : Prog} (hok : progOk p = true) (x : Exe) : x ∈ allOf (scene p) ↔ okX (scene p) x = true := by
  have hsl : (scene p).ds.length = (events p).length := by simp [scene]
  constructor
  · intro h
    simp only [allOf, List.mem_flatMap] at h
    obtain ⟨f, _, o, _, h⟩ := h
    unfold oneOf at h
    split at h
    · simp at h; subst h; assumption
    · cases h
  · intro h
    have hfit : fits (scene p) x = true := by unfold okX at h; simp only [Bool.and_eq_true] at h; exact h.1
    have hform : formS p x = true := by rw [← fits_form hok]; exact hfit
    have h' := hform
    simp only [formS, Bool.and_eq_true, decide_eq_true_eq, List.all_eq_true] at h'
    obtain ⟨⟨⟨h1, h2⟩, h3⟩, _⟩ := h'
    simp only [fits, Bool.and_eq_true, decide_eq_true_eq, List.all_eq_true] at hfit
    obtain ⟨⟨_, h4⟩, _⟩ := hfit
    have m1 : x.fr ∈ fromsOf (scene p).ds := by
      have := mem_froms (ds := (scene p).ds) (fr := x.fr) (fun j d hd => by
        have hj : j < x.fr.length := by have := (List.getElem?_eq_some_iff.1 hd).1; omega
        have hf : x.fr[j]? = some x.fr[j] := List.getElem?_eq_getElem hj
        refine ⟨_, hf, ?_⟩
        have := h4 (d, x.fr[j]) (List.mem_of_getElem? (i := j) (by simp [List.getElem?_zip_eq_some, hd, hf]))
        simp only [frOk] at this
        unfold choicesOf
        cases hr : d.reads
        · simp only [hr, Bool.false_eq_true, if_false, beq_iff_eq] at this ⊢
          simp [this]
        · simp only [hr, if_true, Bool.or_eq_true, beq_iff_eq, List.contains_iff_mem] at this ⊢
          simp only [List.mem_cons]
          exact this) (scene p).ds.length (Nat.le_refl _)
      rwa [List.take_of_length_le (by omega)] at this
    have m2 : x.od ∈ ordersOf (scene p).ds := by
      have := mem_orders (ds := (scene p).ds) (od := x.od) (fun j hj => by
        have hr : x.od[j]? = some x.od[j] := List.getElem?_eq_getElem (by omega)
        refine ⟨_, hr, ?_⟩
        have := h3 j (by simpa using hj)
        simp only [placeS, hr, Option.getD_some, Bool.and_eq_true, beq_iff_eq, List.all_eq_true, List.contains_iff_mem] at this
        exact perm_of (writers_nodup _ _) this.2 (by omega)) 3 (Nat.le_refl _)
      rwa [List.take_of_length_le (by omega)] at this
    simp only [allOf, List.mem_flatMap]
    exact ⟨x.fr, m1, x.od, m2, by unfold oneOf; rw [if_pos h]; simp⟩
theorem mem_execAll (p : Prog) (x : Exe) : x ∈ execAll p ↔ execOk p x = true := by
  unfold execAll execOk
  cases hok : progOk p
  · simp
  · simp only [if_true, Bool.true_and]
    exact mem_all hok x
end Go.Proofs.YtfbgabkcjjahiaaGreatDoor
namespace Go.Proofs.YtfbgabkcjjahiaaGreatDoor
open Go.RowKit

theorem scene_p {p : Prog} (h : progOk p = true) : ∀ d ∈ (scene p).ds, d.uses = true → 0 ≤ d.p ∧ d.p < 3 := fun d hd hu => by
  have := formed_place (scene_formed h d hd) hu; omega

/-! ### what a way that is one has -/
structure Way (p : Prog) (x : Exe) : Prop where
  ok : progOk p = true
  fr : x.fr.length = (scene p).ds.length
  od : x.od.length = 3
  from_ : ∀ (i : Nat) d f, (scene p).ds[i]? = some d → x.fr[i]? = some f → frOk (scene p).ds (d, f) = true
theorem Way.of {p : Prog} {x : Exe} (h : execOk p x = true) : Way p x := by
  simp only [execOk, okX, fits, Bool.and_eq_true, decide_eq_true_eq] at h
  obtain ⟨h0, ⟨⟨⟨h1, h2⟩, h3⟩, h4⟩, h5⟩ := h
  refine ⟨h0, by rw [h1, scene_len], h2, fun i d f hd hf => ?_⟩
  rw [List.all_eq_true] at h3
  refine h3 (d, f) (List.mem_of_getElem? (i := i) ?_)
  rw [List.getElem?_zip_eq_some]
  exact ⟨hd, hf⟩
/-- That from which is read was written, by an event that writes. -/
theorem Way.read {p : Prog} {x : Exe} (h : Way p x) {a b : Nat} (hb : x.fr[b]? = some (a : Int)) : ((scene p).ds[a]?.getD default).writes = true ∧ ((scene p).ds[b]?.getD default).reads = true := by
  have hbl := (List.getElem?_eq_some_iff.1 hb).1
  obtain ⟨d, hd⟩ : ∃ d, (scene p).ds[b]? = some d := ⟨_, List.getElem?_eq_getElem (by rw [← h.fr]; exact hbl)⟩
  have := h.from_ b d a hd hb
  simp only [frOk] at this
  split at this
  · rename_i hr
    rw [Bool.or_eq_true] at this
    rcases this with h1 | h1
    · simp at h1
    · have h2 : (a : Int) ∈ writersOf (scene p).ds d.p := by simpa using h1
      obtain ⟨b', d', k1, k2, k3, k4, _⟩ := mem_wrs h2
      have : a = b' := by omega
      subst this
      rw [hd, k3]
      exact ⟨k4, hr⟩
  · simp at this

/-! ### the reference's words -/
section
variable (p : Prog) (x : Exe)
def dsA (a : Nat) : Do := (scene p).ds[a]?.getD default
def sameS (a b : Nat) : Bool := (dsA p a).uses && (dsA p b).uses && (dsA p a).p == (dsA p b).p
def readS (a b : Nat) : Bool := (dsA p a).writes && (dsA p b).reads && x.fr[b]?.getD 0 == (a : Int)
def rankS (a : Nat) : Int := if (dsA p a).writes then Lib.idxOf (x.od[(dsA p a).p.toNat]?.getD []) a else if (dsA p a).reads then Lib.idxOf (x.od[(dsA p a).p.toNat]?.getD []) (x.fr[a]?.getD 0) else 0
def overS (a b : Nat) : Bool := (dsA p b).writes && !(a == b) && sameS p a b && decide (rankS p x a < rankS p x b)
def insS (a b : Nat) : Bool := ownB (events p) a b && (kd (scene p).ds a == 7 || kd (scene p).ds b == 8) && (List.range b).all fun k => decide (k ≤ a) || !((kd (scene p).ds a == 7 && kd (scene p).ds k == 8) || (kd (scene p).ds b == 8 && kd (scene p).ds k == 7))
def wallB (d : Do) : Bool := d.k == 4 || d.k == 9
def looseS (a b : Nat) : Bool := ownB (events p) a b && (wallB (dsA p a) || wallB (dsA p b) || (dsA p a).k == 5 || (dsA p b).k == 6 || insS p a b || ((dsA p b).k == 3 && srcOf (events p) (scene p).ds b b == (a : Int)))
def staysS (kind : Int) (a b : Nat) : Bool := if kind == 1 then ownB (events p) a b else if kind == 2 then ownB (events p) a b && !((dsA p a).writes && (dsA p b).reads) else if kind == 3 then looseS p a b else ownB (events p) a b && sameS p a b
def apartS (a b : Nat) : Bool := th (events p) a != th (events p) b
def toldS (kind : Int) (a b : Nat) : Bool := if kind == 2 then (apartS p a b && readS p x a b) || overS p x a b else if kind == 3 then apartS p a b && (readS p x a b || overS p x a b) else readS p x a b || overS p x a b
end
theorem writes_noreads {d : Do} (h : d.writes = true) : d.reads = false := by
  simp only [Do.writes, Do.reads, Bool.or_eq_true, beq_iff_eq] at *
  cases hr : (d.k == 2 || d.k == 5) <;> simp_all <;> omega
theorem read_eq {p : Prog} {x : Exe} (h : Way p x) {a b : Nat} (hb : b < (scene p).ds.length) : readS p x a b = (x.fr[b]?.getD 0 == (a : Int)) := by
  obtain ⟨z, hz⟩ : ∃ z, x.fr[b]? = some z := ⟨_, List.getElem?_eq_getElem (by rw [h.fr]; exact hb)⟩
  rw [readS, hz, Option.getD_some]
  by_cases hza : z = (a : Int)
  · subst hza
    obtain ⟨h1, h2⟩ := h.read hz
    simp [dsA, h1, h2]
  · simp [hza]
theorem over_eq (p : Prog) (x : Exe) (a b : Nat) : overS p x a b = overB (scene p).ds x a b := by
  obtain ⟨da, hda⟩ : ∃ d, (scene p).ds[a]?.getD default = d := ⟨_, rfl⟩
  obtain ⟨db, hdb⟩ : ∃ d, (scene p).ds[b]?.getD default = d := ⟨_, rfl⟩
  simp only [overS, overB, sameS, rankS, dsA, hda, hdb]
  cases hw : db.writes
  · simp
  have hub : db.uses = true := by simp [Do.uses, hw]
  cases hab : (a == b)
  · cases hua : da.uses
    · simp
    cases hpp : (da.p == db.p)
    · simp
    have hpe : da.p = db.p := by simpa using hpp
    rw [hpe]
    cases hwa : da.writes
    · have hra : da.reads = true := by simpa [Do.uses, hwa] using hua
      simp [hub, hra]
    · simp [hub, writes_noreads hwa]
  · simp

/-! ### between a going in and its going out -/
theorem bkI_some {es : List Evt} {ds : List Do} {a f : Nat} : ∀ {k : Nat}, bkI es ds a k = some f → f ≤ k ∧ kd ds f = 7 ∧ (∀ j, f < j → j ≤ k → kd ds j ≠ 7) ∧ (∀ j, f < j → j ≤ k → j ≠ a → kd ds j ≠ 8) ∧ ∀ j, f ≤ j → j < k → th es j = th es a
  | 0, h => by
    rw [bkI] at h
    split at h
    · rename_i h7
      cases h
      exact ⟨Nat.le_refl _, by simpa using h7, fun j h1 h2 => absurd h1 (by omega), fun j h1 h2 => absurd h1 (by omega), fun j h1 h2 => absurd h2 (by omega)⟩
    · cases h
  | k + 1, h => by
    rw [bkI] at h
    split at h
    · rename_i h7
      cases h
      exact ⟨Nat.le_refl _, by simpa using h7, fun j h1 h2 => absurd h1 (by omega), fun j h1 h2 => absurd h1 (by omega), fun j h1 h2 => absurd h2 (by omega)⟩
    · rename_i h7
      split at h
      · cases h
      · rename_i h8
        split at h
        · cases h
        · rename_i ht
          obtain ⟨k1, k2, k3, k4, k5⟩ := bkI_some h
          have h7' : kd ds (k + 1) ≠ 7 := by simpa using h7
          have ht' : th es k = th es a := by simpa using ht
          refine ⟨by omega, k2, fun j h1 h2 => ?_, fun j h1 h2 h3 => ?_, fun j h1 h2 => ?_⟩
          · rcases Nat.lt_or_ge j (k + 1) with hh | hh
            · exact k3 j h1 (by omega)
            · have : j = k + 1 := by omega
              subst this; exact h7'
          · rcases Nat.lt_or_ge j (k + 1) with hh | hh
            · exact k4 j h1 (by omega) h3
            · have : j = k + 1 := by omega
              subst this
              intro h8'
              exact h8 (by simp [h8', h3])
          · rcases Nat.lt_or_ge j k with hh | hh
            · exact k5 j h1 hh
            · have : j = k := by omega
              subst this; exact ht'
theorem bkI_of {es : List Evt} {ds : List Do} {a f : Nat} (h7 : kd ds f = 7) : ∀ {k : Nat}, f ≤ k → (∀ j, f < j → j ≤ k → kd ds j ≠ 7) → (∀ j, f < j → j ≤ k → j ≠ a → kd ds j ≠ 8) → (∀ j, f ≤ j → j < k → th es j = th es a) → bkI es ds a k = some f
  | 0, h1, _, _, _ => by
    have : f = 0 := by omega
    subst this
    rw [bkI, h7]; rfl
  | k + 1, h1, h2, h3, h4 => by
    rcases Nat.lt_or_ge f (k + 1) with hh | hh
    · have e1 : (kd ds (k + 1) == 7) = false := by simpa using h2 (k + 1) hh (Nat.le_refl _)
      have e2 : (!(k + 1 == a) && kd ds (k + 1) == 8) = false := by
        by_cases ha : k + 1 = a
        · simp [ha]
        · have := h3 (k + 1) hh (Nat.le_refl _) ha
          simp [this]
      have e3 : (th es k != th es a) = false := by have := h4 k (by omega) (by omega); simp [this]
      rw [bkI, e1, e2, e3]
      simp only [Bool.false_eq_true, if_false]
      exact bkI_of h7 (by omega) (fun j k1 k2 => h2 j k1 (by omega)) (fun j k1 k2 => h3 j k1 (by omega)) (fun j k1 k2 => h4 j k1 (by omega))
    · have : f = k + 1 := by omega
      subst this
      rw [bkI, h7]; rfl
theorem insS_iff {p : Prog} {a b : Nat} (ho : ownB (events p) a b = true) : insS p a b = true ↔ (kd (scene p).ds a = 7 ∨ kd (scene p).ds b = 8) ∧ ∀ k, a < k → k < b → ¬ (kd (scene p).ds a = 7 ∧ kd (scene p).ds k = 8) ∧ ¬ (kd (scene p).ds b = 8 ∧ kd (scene p).ds k = 7) := by
  rw [insS, ho, Bool.true_and, Bool.and_eq_true, Bool.or_eq_true, beq_iff_eq, beq_iff_eq, List.all_eq_true]
  refine and_congr Iff.rfl ⟨fun h k h1 h2 => ?_, fun h k hk => ?_⟩
  · have := h k (List.mem_range.2 h2)
    rw [Bool.or_eq_true, decide_eq_true_eq] at this
    have := this.resolve_left (by omega)
    simp only [Bool.not_eq_true', Bool.or_eq_false_iff, Bool.and_eq_false_iff, beq_eq_false_iff_ne] at this
    omega
  · rw [Bool.or_eq_true, decide_eq_true_eq]
    rcases Nat.lt_or_ge a k with hh | hh
    · right
      have := h k hh (List.mem_range.1 hk)
      simp only [Bool.not_eq_true', Bool.or_eq_false_iff, Bool.and_eq_false_iff, beq_eq_false_iff_ne]
      omega
    · exact .inl hh
/-- The first going out behind a going in. -/
theorem Quiet.out {p : Prog} {f t : Nat} (h : Quiet p f t) (h7 : kd (scene p).ds f = 7) (h8 : kd (scene p).ds t = 8) : IsOut (scene p).ds f t := by
  refine ⟨by have := h.lt; omega, by have := h.tl; simpa [scene] using this, h8, fun j h1 h2 => ?_⟩
  rcases Nat.lt_or_ge f j with hh | hh
  · exact (h.no j hh h2).2.1
  · have : j = f := by omega
    subst this; omega
theorem out_ex {p : Prog} (h : progOk p = true) (a : Nat) (ha : a < (events p).length) : ∃ t, ∀ f, bkI (events p) (scene p).ds a a = some f → Quiet p f t ∧ kd (scene p).ds f = 7 ∧ kd (scene p).ds t = 8 := by
  cases hb : bkI (events p) (scene p).ds a a with
  | none => exact ⟨0, fun f hf => by cases hf⟩
  | some f =>
    obtain ⟨k1, k2, _⟩ := bkI_some hb
    obtain ⟨t, h1, h2⟩ := in_out h (by omega) k2
    exact ⟨t, fun f' hf => by cases hf; exact ⟨h1, k2, h2⟩⟩
/-- What the program says of the inside. -/
def insI (p : Prog) (a b t : Nat) : Bool := match bkI (events p) (scene p).ds a a with
  | none => false
  | some f => (kd (scene p).ds a == 7 || kd (scene p).ds b == 8) && decide (a ≤ t) && decide (f ≤ a) && decide (b ≤ t) && (kd (scene p).ds a == 7 || b == t)
theorem ins_eq {p : Prog} (h : progOk p = true) {a b t : Nat} (hb : b < (events p).length) (ho : ownB (events p) a b = true) (ht : ∀ f, bkI (events p) (scene p).ds a a = some f → Quiet p f t ∧ kd (scene p).ds f = 7 ∧ kd (scene p).ds t = 8) :
    insI p a b t = insS p a b := by
  have hab : a < b ∧ th (events p) a = th (events p) b := by simpa [ownB, th] using ho
  rw [Bool.eq_iff_iff, insS_iff ho]
  by_cases h7 : kd (scene p).ds a = 7
  · have hbk : bkI (events p) (scene p).ds a a = some a := bkI_of h7 (Nat.le_refl _) (fun j h1 h2 => absurd h1 (by omega)) (fun j h1 h2 => absurd h1 (by omega)) (fun j h1 h2 => absurd h1 (by omega))
    obtain ⟨q, _, h8⟩ := ht a hbk
    rw [insI, hbk]
    have := q.lt
    have e1 : decide (a ≤ t) = true := by simp; omega
    simp only [h7, e1, beq_self_eq_true, Bool.true_or, Bool.true_and, Bool.and_true, Nat.le_refl, decide_true, decide_eq_true_eq, true_or, true_and]
    constructor
    · intro hbt k k1 k2
      have := q.no k k1 (by omega)
      omega
    · intro hk
      rcases Nat.lt_or_ge t b with hh | hh
      · exact absurd h8 (hk t q.lt hh).1
      · exact hh
  · have h7' : (kd (scene p).ds a == 7) = false := by simpa using h7
    by_cases h8 : kd (scene p).ds b = 8
    · obtain ⟨f', q, hf7⟩ := out_in h hb h8
      constructor
      · intro hi
        refine ⟨.inr h8, fun k k1 k2 => ⟨by omega, fun hk => ?_⟩⟩
        rw [insI] at hi
        split at hi
        · cases hi
        · rename_i f hf
          obtain ⟨q2, _, _⟩ := ht f hf
          rw [h7'] at hi
          simp only [Bool.and_eq_true, decide_eq_true_eq, Bool.false_or, beq_iff_eq] at hi
          have := (q2.no k (by omega) (by omega)).1
          exact this hk.2
      · rintro ⟨_, hk⟩
        have hfa : f' < a := by
          rcases Nat.lt_or_ge f' a with hh | hh
          · exact hh
          · rcases Nat.lt_or_ge a f' with h2 | h2
            · exact absurd ⟨h8, hf7⟩ (hk f' h2 q.lt).2
            · have : f' = a := by omega
              subst this; exact absurd hf7 h7
        have hbk : bkI (events p) (scene p).ds a a = some f' := by
          refine bkI_of hf7 (by omega) (fun j h1 h2 => (q.no j h1 (by omega)).1) (fun j h1 h2 _ => (q.no j h1 (by omega)).2.1) (fun j h1 h2 => ?_)
          have e : ∀ j, f' ≤ j → j < b → th (events p) j = th (events p) f' := fun j h1 h2 => by
            rcases Nat.lt_or_ge f' j with hh | hh
            · exact (q.no j hh h2).2.2
            · have : j = f' := by omega
              rw [this]
          rw [e j h1 (by omega), e a (by omega) hab.1]
        obtain ⟨q2, _, ht8⟩ := ht f' hbk
        have htb : t = b := by
          rcases Nat.lt_or_ge t b with hh | hh
          · exact absurd ht8 (q.no t q2.lt hh).2.1
          · rcases Nat.lt_or_ge b t with h2 | h2
            · exact absurd h8 (q2.no b (by omega) h2).2.1
            · omega
        subst htb
        rw [insI, hbk]
        simp [h8]
        omega
    · have h8' : (kd (scene p).ds b == 8) = false := by simpa using h8
      constructor
      · intro hi
        rw [insI] at hi
        split at hi
        · cases hi
        · simp [h7', h8'] at hi
      · rintro ⟨hk, _⟩
        omega
end Go.Proofs.YtfbgabkcjjahiaaGreatDoor
namespace Go.Proofs.YtfbgabkcjjahiaaGreatDoor
open Go.RowKit
set_option pp.maxSteps 3000

/-- The value of an event. -/
def valF (p : Prog) (x : Exe) (i : Nat) : Int := (valI (scene p).ds x.fr (scene p).ds.length i).getD 0
def rdK (f : Nat → Int) (ds : List Do) : Nat → List Int
  | 0 => []
  | k + 1 => rdK f ds k ++ match ds[k]? with | some d => if d.reads then [f k] else [] | none => []
def lsF (f : Nat → Int) (row : List Int) : Int := match row[row.length - 1]? with | some z => f z.toNat | none => 0
/-- What is seen of a way. -/
def seenF (p : Prog) (x : Exe) : Sn := ⟨rdK (valF p x) (scene p).ds (scene p).ds.length, x.od.map (lsF (valF p x))⟩
theorem rdK_le (f : Nat → Int) (ds : List Do) : ∀ k, (rdK f ds k).length ≤ k
  | 0 => by simp [rdK]
  | k + 1 => by
    have := rdK_le f ds k
    rw [rdK, List.length_append]
    have : (match ds[k]? with | some d => if d.reads then [f k] else [] | none => []).length ≤ 1 := by
      split
      · split <;> simp
      · simp
    omega
theorem rdK_yes {f : Nat → Int} {ds : List Do} {k : Nat} {d : Do} (hd : ds[k]? = some d) (hr : d.reads = true) : rdK f ds (k + 1) = rdK f ds k ++ [f k] := by rw [rdK, hd]; simp [hr]
theorem rdK_no {f : Nat → Int} {ds : List Do} {k : Nat} {d : Do} (hd : ds[k]? = some d) (hr : d.reads = false) : rdK f ds (k + 1) = rdK f ds k := by rw [rdK, hd]; simp [hr]
theorem val_some {p : Prog} {x : Exe} (h : execOk p x = true) {a : Nat} {d : Do} (hd : (scene p).ds[a]? = some d) (hu : d.uses = true) : valI (scene p).ds x.fr (scene p).ds.length a = some (valF p x a) := by
  simp only [execOk, okX, Bool.and_eq_true, List.all_eq_true] at h
  have := h.2.2 (d, a) (List.mem_of_getElem? (i := a) (by simp [hd]))
  simp only [endOk, hu, Bool.not_true, Bool.false_or] at this
  obtain ⟨v, hv⟩ := Option.isSome_iff_exists.1 this
  rw [valF, hv]; rfl
theorem od_at {p : Prog} {x : Exe} (h : execOk p x = true) {row : List Int} (hr : row ∈ x.od) {z : Int} (hz : z ∈ row) : ∃ (b : Nat) (d : Do), z = b ∧ (scene p).ds[b]? = some d ∧ d.uses = true := by
  simp only [execOk, okX, fits, Bool.and_eq_true, List.all_eq_true] at h
  obtain ⟨i, hi⟩ := List.getElem?_of_mem hr
  have := h.2.1.2 (row, i) (List.mem_of_getElem? (i := i) (by simp [hi]))
  rw [odOk, sorted_eq (writers_pw _ _) (writers_nodup _ _), Bool.and_eq_true, beq_iff_eq, List.all_eq_true] at this
  have hp := perm_of (writers_nodup (scene p).ds i) (fun y hy => List.contains_iff_mem.1 (this.2 y hy)) (Nat.le_of_eq this.1.symm)
  obtain ⟨b, d, k1, k2, k3, k4, _⟩ := mem_wrs (hp.mem_iff.2 hz)
  exact ⟨b, d, k2, k3, by simp [Do.uses, k4]⟩
theorem seen_fn (p : Prog) (x : Exe) (h : execOk p x = true) (hx : x.small) : Fp Tryz.prog 50 [(scene p).V, x.V] (seenF p x).V := by
  have hw := Way.of h
  have hpk := hw.ok
  have hel := events_le hpk
  have hsl : (scene p).ds.length = (events p).length := by simp [scene]
  have hod := hw.od
  have hf : fromOk (scene p).ds x.fr := fromOk_of (scene_len p) (by simp only [execOk, okX, Bool.and_eq_true] at h; exact h.2.1)
  have hval := fun a d hd hu => value_fn (scene p) x a (by omega) (scene_len p) hx.fr (scene_copy hpk) hf ⟨d, hd, hu⟩
  obtain ⟨f, hff⟩ : ∃ f, valF p x = f := ⟨_, rfl⟩
  have hval' : ∀ (a : Nat) (d : Do), (scene p).ds[a]? = some d → d.uses = true → Fp Tryz.prog 89 [(scene p).V, x.V, .int .i64 a] (.tuple [.int .i64 (f a), .bool true]) := by
    intro a d hd hu
    have := hval a d hd hu
    rw [val_some h hd hu, hff] at this
    exact this
  clear hval
  have hodr : ∀ row ∈ x.od, ∀ z ∈ row, ∃ (b : Nat) (d : Do), z = b ∧ (scene p).ds[b]? = some d ∧ d.uses = true := fun row hr z hz => od_at h hr hz
  have hrow := hx.row
  rw [seenF, hff, Sn.V_eq]
  rw [Sc.V_eq, Exe.V_eq] at hval'
  rw [Sc.V_eq, Exe.V_eq]
  generalize (scene p).p = pp at hval' ⊢
  generalize (scene p).es = es at hval' ⊢
  generalize (scene p).ds = ds at hval' hodr hsl ⊢
  refine Fc.start (S := [17]) Tryz.func50 Tryz.ntmps50 Tryz.results50 rfl (by decide) rfl (by kernel_rfl) ?_
  simp (maxSteps := 1000000) (disch := omega) only [push_cast, go_sem, zA, zB, zC, zD, zE, zF, simprocAttr]
  intro g2 g3 g4 g5
  refine Sat.loop (σ := EvS) (fun y => upd (upd (upd (upd (upd (upd (upd noT 2 (.ptr 2 [] 0 0 g2 3)) 3 (.ptr 3 [] 0 0 g3 2)) 4 (.ptr 4 [] 0 0 g4 2)) 5 (.ptr 5 [] 0 0 g5 2)) 14 (.sl (ds.map Do.V))) 15 (.int .i64 ds.length)) 16 (.int .i64 y.k))
    (fun y => (((noM.set 2 (.own 74 (some g2) 1 [.agg [.sl (pp.map thrV), .sl (es.map Evt.V), .sl (ds.map Do.V)]])).set 3 (.own 33 (some g3) 1 [.agg [.sl (x.fr.map (V.int .i64)), .sl (x.od.map intsV)]])).set 4 (.own 28 (some g4) 1 [.agg [.own 0 none 0 [], .own 0 none 0 []]])).set 5 (.own 28 (some g5) 1 [.agg [.own y.e y.γ y.c ((rdK f ds y.k).map (V.int .i64)), .own 0 none 0 []]]))
    (fun y => y.k ≤ ds.length ∧ (y.γ = none ∨ y.e = 3)) (fun y => ds.length - y.k) ⟨0, 0, none, 0⟩ (by simp) ?_ ?_
  · (refine Less.start ?_; repeat (first | exact LessO.nil | exact LessO.all | refine LessO.skip (by decide) ?_ | refine LessO.upd ?_ ?_ | refine LessO.set ?_ ?_)) <;> (try simp (maxSteps := 1000000) (disch := omega) only [push_cast, go_sem, zA, zB, zC, zD, zE, zF, simprocAttr])
    all_goals rfl
  rintro ⟨k, e, γ, c⟩ ⟨hk, hγ⟩ J hJ
  simp only at hk hγ hJ
  have hγ' : (γ = none ∨ e = 3) = True := by simp only [hγ]
  have hrl := rdK_le f ds k
  refine Sat.of (S := [17]) (by kernel_rfl) ?_
  rcases Nat.lt_or_ge k ds.length with hlt | hge
  · obtain ⟨d, hd⟩ : ∃ d, ds[k]? = some d := ⟨_, List.getElem?_eq_getElem hlt⟩
    have hre := reads_fn d
    rw [Do.V_eq] at hre
    simp (maxSteps := 1000000) (disch := omega) only [push_cast, go_sem, zA, zB, zC, zD, zE, zF, simprocAttr, hd, hlt, Do.V_eq]
    intro g7
    refine callR.pure hre rfl rfl ?_
    cases hr : d.reads
    · simp (maxSteps := 1000000) (disch := omega) only [push_cast, go_sem, zA, zB, zC, zD, zE, zF, simprocAttr]
      refine hJ ⟨k + 1, e, γ, c⟩ _ _ ⟨by dsimp only; omega, hγ⟩ (by dsimp only; omega) ?_
      dsimp only
      rw [rdK_no hd hr]
      (refine Less.start ?_; repeat (first | exact LessO.nil | exact LessO.all | refine LessO.skip (by decide) ?_ | refine LessO.upd ?_ ?_ | refine LessO.set ?_ ?_)) <;> (try simp (maxSteps := 1000000) (disch := omega) only [push_cast, go_sem, zA, zB, zC, zD, zE, zF, simprocAttr])
    · simp (maxSteps := 1000000) (disch := omega) only [push_cast, go_sem, zA, zB, zC, zD, zE, zF, simprocAttr]
      refine callR.pure (hval' k d hd (by simp [Do.uses, hr])) rfl rfl ?_
      simp (maxSteps := 1000000) (disch := omega) only [push_cast, go_sem, zA, zB, zC, zD, zE, zF, simprocAttr, hγ']
      intro g33
      refine ⟨by omega, fun γ' c' _ => ?_⟩
      refine hJ ⟨k + 1, 3, γ', c'⟩ _ _ ⟨by dsimp only; omega, .inr rfl⟩ (by dsimp only; omega) ?_
      dsimp only
      rw [rdK_yes hd hr]
      (refine Less.start ?_; repeat (first | exact LessO.nil | exact LessO.all | refine LessO.skip (by decide) ?_ | refine LessO.upd ?_ ?_ | refine LessO.set ?_ ?_)) <;> (try simp (maxSteps := 1000000) (disch := omega) only [push_cast, go_sem, zA, zB, zC, zD, zE, zF, simprocAttr])
      all_goals simp
  have : k = ds.length := by omega
  subst this
  simp (maxSteps := 1000000) (disch := omega) only [push_cast, go_sem, zA, zB, zC, zD, zE, zF, simprocAttr]
  refine Sat.loop (σ := EvS) (fun y => upd (upd (upd (upd (upd (upd (upd noT 2 (.ptr 2 [] 0 0 g2 3)) 3 (.ptr 3 [] 0 0 g3 2)) 4 (.ptr 4 [] 0 0 g4 2)) 5 (.ptr 5 [] 0 0 g5 2)) 38 (.sl (x.od.map intsV))) 39 (.int .i64 x.od.length)) 40 (.int .i64 y.k))
    (fun y => (((noM.set 2 (.own 74 (some g2) 1 [.agg [.sl (pp.map thrV), .sl (es.map Evt.V), .sl (ds.map Do.V)]])).set 3 (.own 33 (some g3) 1 [.agg [.sl (x.fr.map (V.int .i64)), .sl (x.od.map intsV)]])).set 4 (.own 28 (some g4) 1 [.agg [.own 0 none 0 [], .own 0 none 0 []]])).set 5 (.own 28 (some g5) 1 [.agg [.own e γ c ((rdK f ds ds.length).map (V.int .i64)), .own y.e y.γ y.c (((x.od.take y.k).map (lsF f)).map (V.int .i64))]]))
    (fun y => y.k ≤ x.od.length ∧ (y.γ = none ∨ y.e = 3)) (fun y => x.od.length - y.k) ⟨0, 0, none, 0⟩ (by simp) ?_ ?_
  · (refine Less.start ?_; repeat (first | exact LessO.nil | exact LessO.all | refine LessO.skip (by decide) ?_ | refine LessO.upd ?_ ?_ | refine LessO.set ?_ ?_)) <;> (try simp (maxSteps := 1000000) (disch := omega) only [push_cast, go_sem, zA, zB, zC, zD, zE, zF, simprocAttr])
    all_goals rfl
  rintro ⟨k, e2, γ2, c2⟩ ⟨hk2, hγ2⟩ J2 hJ2
  simp only at hk2 hγ2 hJ2
  have hγ2' : (γ2 = none ∨ e2 = 3) = True := by simp only [hγ2]
  refine Sat.of (S := [17]) (by kernel_rfl) ?_
  rcases Nat.lt_or_ge k x.od.length with hlt | hge
  · obtain ⟨row, hro⟩ : ∃ row, x.od[k]? = some row := ⟨_, List.getElem?_eq_getElem hlt⟩
    have htk := take_get hro
    have htl : ((x.od.take k).map (lsF f)).length = k := by rw [List.length_map, List.length_take]; omega
    have hrs := hrow row (List.mem_of_getElem? hro)
    by_cases h0 : (0 : Int) < row.length
    · obtain ⟨m, hm⟩ : ∃ m, row.length = m + 1 := ⟨row.length - 1, by omega⟩
      obtain ⟨z, hz⟩ : ∃ z, row[m]? = some z := ⟨_, List.getElem?_eq_getElem (by omega)⟩
      obtain ⟨b, d, rfl, hbd, hbu⟩ := hodr row (List.mem_of_getElem? hro) z (List.mem_of_getElem? hz)
      have hls : lsF f row = f b := by rw [lsF, hm, Nat.add_sub_cancel, hz]; simp
      have hmm : m < m + 1 := by omega
      have hmi : (m : Int) < (m : Int) + 1 := by omega
      have h0' : (0 : Int) < (m : Int) + 1 := by omega
      simp (maxSteps := 1000000) (disch := omega) only [push_cast, go_sem, zA, zB, zC, zD, zE, zF, simprocAttr, hlt, hro, intsV_eq, hm, h0']
      refine Sat.drawnE [] [] (List.range 13) (pureT [(89, .tuple [.int .i64 (f b), .bool true])]) (by kernel_rfl) (by kernel_rfl) ?_
      simp (maxSteps := 1000000) (disch := omega) only [push_cast, go_sem, zA, zB, zC, zD, zE, zF, simprocAttr, hm, hz, hmm, hmi]
      refine runD_pure rfl (hval' b d hbd hbu) rfl rfl ?_ ?_
      · rfl
      simp (maxSteps := 1000000) (disch := omega) only [push_cast, go_sem, zA, zB, zC, zD, zE, zF, simprocAttr, hγ2', htl]
      intro g62
      refine ⟨by omega, fun γ' c' _ => ?_⟩
      refine hJ2 ⟨k + 1, 3, γ', c'⟩ _ _ ⟨by dsimp only; omega, .inr rfl⟩ (by dsimp only; omega) ?_
      dsimp only
      rw [htk, List.map_append, List.map_append]
      (refine Less.start ?_; repeat (first | exact LessO.nil | exact LessO.all | refine LessO.skip (by decide) ?_ | refine LessO.upd ?_ ?_ | refine LessO.set ?_ ?_)) <;> (try simp (maxSteps := 1000000) (disch := omega) only [push_cast, go_sem, zA, zB, zC, zD, zE, zF, simprocAttr])
      all_goals simp [hls]
    · have hls : lsF f row = 0 := by
        have : row = [] := List.eq_nil_of_length_eq_zero (by omega)
        subst this; rfl
      simp (maxSteps := 1000000) (disch := omega) only [push_cast, go_sem, zA, zB, zC, zD, zE, zF, simprocAttr, hlt, hro, intsV_eq, h0, hγ2', htl]
      intro g62
      refine ⟨by omega, fun γ' c' _ => ?_⟩
      refine hJ2 ⟨k + 1, 3, γ', c'⟩ _ _ ⟨by dsimp only; omega, .inr rfl⟩ (by dsimp only; omega) ?_
      dsimp only
      rw [htk, List.map_append, List.map_append]
      (refine Less.start ?_; repeat (first | exact LessO.nil | exact LessO.all | refine LessO.skip (by decide) ?_ | refine LessO.upd ?_ ?_ | refine LessO.set ?_ ?_)) <;> (try simp (maxSteps := 1000000) (disch := omega) only [push_cast, go_sem, zA, zB, zC, zD, zE, zF, simprocAttr])
      all_goals simp [hls]
  have : k = x.od.length := by omega
  subst this
  rw [List.take_length]
  simp (maxSteps := 1000000) (disch := omega) only [push_cast, go_sem, zA, zB, zC, zD, zE, zF, simprocAttr]
  refine Sat.freezeC 5 [] 0 0 (n0 := .own 28 (some g5) 1 [.agg [.own e γ c ((rdK f ds ds.length).map (V.int .i64)), .own e2 γ2 c2 ((x.od.map (lsF f)).map (V.int .i64))]]) (d := .own e γ c ((rdK f ds ds.length).map (V.int .i64))) ?_ rfl rfl ?_
  · rfl
  have e1 : (V.own e γ c ((rdK f ds ds.length).map (V.int .i64))).fz = .sl ((rdK f ds ds.length).map (V.int .i64)) := by simp only [V.fz, fzs_map, fzs_int]
  rw [e1]
  refine Sat.freezeC 5 [] 0 1 (n0 := .own 28 (some g5) 1 [.agg [.sl ((rdK f ds ds.length).map (V.int .i64)), .own e2 γ2 c2 ((x.od.map (lsF f)).map (V.int .i64))]]) (d := .own e2 γ2 c2 ((x.od.map (lsF f)).map (V.int .i64))) ?_ rfl rfl ?_
  · rfl
  have e2 : (V.own e2 γ2 c2 ((x.od.map (lsF f)).map (V.int .i64))).fz = .sl ((x.od.map (lsF f)).map (V.int .i64)) := by simp only [V.fz, fzs_map, fzs_int]
  rw [e2]
  refine Sat.of (S := []) (by kernel_rfl) ?_
  simp (maxSteps := 1000000) (disch := omega) only [push_cast, go_sem, zA, zB, zC, zD, zE, zF, simprocAttr]
end Go.Proofs.YtfbgabkcjjahiaaGreatDoor
namespace Go.Proofs.YtfbgabkcjjahiaaGreatDoor
open Go.RowKit
set_option pp.maxSteps 3000

section
variable {P : Program} {M : Mem} {k : V → Mem → Prop} {ro c : Bool}
/-- A function that looks at the object of its first argument. -/
abbrev Fo (P : Program) (f : FuncId) (bs : List V) (g n : Nat) (o v : V) : Prop := Fc P f (.ptr 0 [] 0 0 g n :: bs) (noM.set 0 o) fun r m => r = v ∧ m = noM.set 0 o
theorem look_nodup {a g n : Nat} {xs : List V} (hk : (xs.all fun v => v.key.isNone) = true) : (((V.ptr a [] 0 0 g n :: xs).map V.key).filterMap id).Nodup := by
  have hk' : ((xs.map V.key).all fun x => x.isNone) = true := by rw [List.all_map]; exact hk
  rw [List.map_cons, List.filterMap_cons]
  show (a :: (xs.map V.key).filterMap id).Nodup
  rw [keys_none hk']; simp
theorem look_foot {a g n : Nat} {xs : List V} {o : V} (hM : M a = some o) : footM M ((V.ptr a [] 0 0 g n :: xs).map V.key) 0 = some o := by simp [footM, V.key, hM]
theorem look_merge {a g n : Nat} {xs : List V} {o : V} {d : Option Nat} (hM : M a = some o) (hk : (xs.all fun v => v.key.isNone) = true) : mergeM M ((V.ptr a [] 0 0 g n :: xs).map V.key) d (noM.set 0 o) = M := by
  have hk' : ((xs.map V.key).all fun x => x.isNone) = true := by rw [List.all_map]; exact hk
  rw [merge_eq, List.map_cons]
  have e1 : (noM.set 0 o) 100 = none := rfl
  have e2 : (noM.set 0 o) 0 = some o := rfl
  rw [e1, mgD_none', key_ptr, mg_some, e2, mg_all_none hk', MemU_some, set_self hM]
theorem look_args {a g n : Nat} {xs : List V} (hk : (xs.all fun v => v.key.isNone) = true) : renArgs 0 (V.ptr a [] 0 0 g n :: xs) = .ptr 0 [] 0 0 g n :: xs := by rw [renArgs_cons, renArgs_none hk]; rfl
theorem callR.look {f : FuncId} {bs : List V} {a g n : Nat} {o v : V} {d : Option Nat} (h : Fo P f bs g n o v) (hM : M a = some o) (hk : (bs.all fun v => v.key.isNone) = true) (h9 : Nat.ble (bs.length + 1) 90 = true)
    (hK : runV (some (True, det (resN d v) M)) k .mk) : callR P f (.ptr a [] 0 0 g n :: bs) d M k .mk := by
  refine callR.intro (F := noM.set 0 o) (R := fun r m => r = v ∧ m = noM.set 0 o) (by rw [look_args hk]; exact h) (look_nodup hk) (Nat.le_of_ble_eq_true h9) (Sub.set Sub.no (look_foot hM)) ?_
  rintro r0 Mf ⟨rfl, rfl⟩
  rw [look_merge hM hk]
  exact (runV_det.1 hK).2
def lookT (o : V) (pure looks : List (FuncId × V)) : Table := fun f args F => match pure.lookup f with
  | some v => some fun r m => r = v ∧ m = noM
  | none => (looks.lookup f).map fun v r m => r = v ∧ m = noM.set 0 o
theorem runD_look {f : FuncId} {xs : List V} {a g n : Nat} {o v : V} {d : Nat} {pure looks : List (FuncId × V)} (h : Fo P f xs g n o v) (hM : M a = some o) (hp : pure.lookup f = none) (hl : looks.lookup f = some v)
    (hk : (xs.all fun v => v.key.isNone) = true) (h9 : Nat.ble (xs.length + 1) 90 = true) (hchk : c = true) (hK : runV (some (True, det (resN (some d) v) M)) k .mk) :
    runD (callV (specT P (lookT o pure looks)) f (.ptr a [] 0 0 g n :: xs) (some d) M) ro M c k .mk := by
  refine runD_call (F := noM.set 0 o) (R := fun r m => r = v ∧ m = noM.set 0 o) (by simp only [lookT, hp, hl, Option.map_some]) (by rw [look_args hk]; exact h) (Sub.set Sub.no (look_foot hM)) (look_nodup hk) (Nat.le_of_ble_eq_true h9) ⟨v, _, rfl, rfl⟩
    (fun _ r0 Mf hr => by rw [hr.2]; exact look_merge hM hk) hchk ?_
  rintro r0 r Mf ⟨rfl, rfl⟩ h5
  rw [look_merge hM hk, h5 d rfl]
  exact (runV_det.1 hK).2
end

/-- What the reference looks at. -/
def ordV (p : Prog) (g : Nat) (c2 c3 c4 c5 : V) : V := .own 134 (some g) 1 [.agg [.sl (p.map thrV), .sl ((events p).map Evt.V), c2, c3, c4, c5]]
theorem ordV_eq (p : Prog) (g : Nat) (c2 c3 c4 c5 : V) : ordV p g c2 c3 c4 c5 = .own 134 (some g) 1 [.agg [.sl (p.map thrV), .sl ((events p).map Evt.V), c2, c3, c4, c5]] := rfl
section
variable (p : Prog) (g : Nat) (c2 c3 c4 c5 : V) (a b : Nat)
theorem odo_fn (ha : a < (events p).length) : Fo Tryz.prog 102 [.int .i64 a] g 6 (ordV p g c2 c3 c4 c5) (dsA p a).V := by
  obtain ⟨ea, hea⟩ : ∃ e, (events p)[a]? = some e := ⟨_, List.getElem?_eq_getElem ha⟩
  have e1 : dsA p a = stepAt p ea := by rw [dsA, scene_get hea]; rfl
  have hdo := l12Do_fn p ea (evIn_of (List.mem_of_getElem? hea))
  rw [e1]
  rw [progV_eq, Evt.V_eq, Do.V_eq] at hdo
  refine Fc.start (S := []) Tryz.func102 Tryz.ntmps102 Tryz.results102 rfl (by decide) rfl (by kernel_rfl) ?_
  simp (maxSteps := 1000000) (disch := omega) only [push_cast, go_sem, zA, zB, zC, zD, zE, zF, simprocAttr, ordV_eq]
  intro g4
  refine Sat.drawnE [] [] [3, 7, 10, 11] (pureT [(118, (stepAt p ea).V)]) (by kernel_rfl) (by kernel_rfl) ?_
  simp (maxSteps := 1000000) (disch := omega) only [push_cast, go_sem, zA, zB, zC, zD, zE, zF, simprocAttr, hea, ha, Evt.V_eq]
  refine runD_pure rfl hdo rfl rfl ?_ ?_
  · rfl
  simp (maxSteps := 1000000) (disch := omega) only [push_cast, go_sem, zA, zB, zC, zD, zE, zF, simprocAttr, Do.V_eq]
  refine ⟨_, ?_, rfl⟩
  ((repeat (first | exact Sub.no | refine Sub.set ?_ ?_)) <;> (try simp (disch := omega) only [push_cast, go_sem, zA, zB, zC, zD, zE, zF, simprocAttr]))
theorem oown_fn (ha : a < (events p).length) (hb : b < (events p).length) : Fo Tryz.prog 139 [.int .i64 a, .int .i64 b] g 6 (ordV p g c2 c3 c4 c5) (.bool (ownB (events p) a b)) := by
  obtain ⟨ea, hea⟩ : ∃ e, (events p)[a]? = some e := ⟨_, List.getElem?_eq_getElem ha⟩
  obtain ⟨eb, heb⟩ : ∃ e, (events p)[b]? = some e := ⟨_, List.getElem?_eq_getElem hb⟩
  refine Fc.start (S := []) Tryz.func139 Tryz.ntmps139 Tryz.results139 rfl (by decide) rfl (by kernel_rfl) ?_
  simp (maxSteps := 1000000) (disch := omega) only [push_cast, go_sem, zA, zB, zC, zD, zE, zF, simprocAttr, ordV_eq]
  refine Sat.drawnE [] [] (List.range 23) (fun _ _ _ => none) (by kernel_rfl) (by kernel_rfl) ?_
  by_cases h : a < b
  all_goals
    simp (maxSteps := 1000000) (disch := omega) only [push_cast, go_sem, zA, zB, zC, zD, zE, zF, simprocAttr, h, hea, heb, ha, hb, Evt.V_eq]
    refine ⟨_, Sub.rfl, ?_, rfl⟩
    simp [ownB, h, hea, heb]
end
/-- Of each event, whether it reads; whether it writes. -/
def rdsV (p : Prog) : V := .sl ((scene p).ds.map fun d => .bool d.reads)
def wrtV (p : Prog) : V := .sl ((scene p).ds.map fun d => .bool d.writes)
theorem rdsV_eq (p : Prog) : rdsV p = .sl ((scene p).ds.map fun d => .bool d.reads) := rfl
theorem wrtV_eq (p : Prog) : wrtV p = .sl ((scene p).ds.map fun d => .bool d.writes) := rfl
section
variable (p : Prog) (x : Exe) (g : Nat) (c4 c5 : V) (a b : Nat)
theorem osame_fn (ha : a < (events p).length) (hb : b < (events p).length) : Fo Tryz.prog 141 [.int .i64 a, .int .i64 b] g 6 (ordV p g (rdsV p) (wrtV p) c4 c5) (.bool (sameS p a b)) := by
  obtain ⟨ea, hea⟩ : ∃ e, (events p)[a]? = some e := ⟨_, List.getElem?_eq_getElem ha⟩
  obtain ⟨eb, heb⟩ : ∃ e, (events p)[b]? = some e := ⟨_, List.getElem?_eq_getElem hb⟩
  have hsl : (scene p).ds.length = (events p).length := by simp [scene]
  have hda : (scene p).ds[a]? = some (dsA p a) := by rw [dsA, scene_get hea]; rfl
  have hdb : (scene p).ds[b]? = some (dsA p b) := by rw [dsA, scene_get heb]; rfl
  have h1 := odo_fn p g (rdsV p) (wrtV p) c4 c5 a ha
  have h2 := odo_fn p g (rdsV p) (wrtV p) c4 c5 b hb
  rw [ordV_eq, rdsV_eq, wrtV_eq, Do.V_eq] at h1 h2
  refine Fc.start (S := []) Tryz.func141 Tryz.ntmps141 Tryz.results141 rfl (by decide) rfl (by kernel_rfl) ?_
  cases hra : (dsA p a).reads <;> cases hwa : (dsA p a).writes
  · simp (maxSteps := 1000000) (disch := omega) only [push_cast, go_sem, zA, zB, zC, zD, zE, zF, simprocAttr, ordV_eq, rdsV_eq, wrtV_eq, hda, hdb, hsl, ha, hb, hra, hwa]
    refine ⟨_, Sub.rfl, ?_, rfl⟩
    simp [sameS, Do.uses, hra, hwa]
  all_goals
    cases hrb : (dsA p b).reads <;> cases hwb : (dsA p b).writes
    · simp (maxSteps := 1000000) (disch := omega) only [push_cast, go_sem, zA, zB, zC, zD, zE, zF, simprocAttr, ordV_eq, rdsV_eq, wrtV_eq, hda, hdb, hsl, ha, hb, hra, hwa, hrb, hwb]
      refine ⟨_, Sub.rfl, ?_, rfl⟩
      simp [sameS, Do.uses, hrb, hwb]
    all_goals
      simp (maxSteps := 1000000) (disch := omega) only [push_cast, go_sem, zA, zB, zC, zD, zE, zF, simprocAttr, ordV_eq, rdsV_eq, wrtV_eq, hda, hdb, hsl, ha, hb, hra, hwa, hrb, hwb]
      refine callR.look h1 rfl rfl rfl ?_
      simp (maxSteps := 1000000) (disch := omega) only [push_cast, go_sem, zA, zB, zC, zD, zE, zF, simprocAttr]
      refine callR.look h2 rfl rfl rfl ?_
      simp (maxSteps := 1000000) (disch := omega) only [push_cast, go_sem, zA, zB, zC, zD, zE, zF, simprocAttr]
      refine ⟨_, Sub.rfl, ?_, rfl⟩
      simp [sameS, Do.uses, hra, hwa, hrb, hwb]
theorem oread_fn (hx : x.fr.length = (events p).length) (ha : a < (events p).length) (hb : b < (events p).length) : Fo Tryz.prog 137 [.int .i64 a, .int .i64 b] g 6 (ordV p g (rdsV p) (wrtV p) (.sl (x.fr.map (V.int .i64))) c5) (.bool (readS p x a b)) := by
  obtain ⟨ea, hea⟩ : ∃ e, (events p)[a]? = some e := ⟨_, List.getElem?_eq_getElem ha⟩
  obtain ⟨eb, heb⟩ : ∃ e, (events p)[b]? = some e := ⟨_, List.getElem?_eq_getElem hb⟩
  obtain ⟨z, hz⟩ : ∃ z, x.fr[b]? = some z := ⟨_, List.getElem?_eq_getElem (by omega)⟩
  have hsl : (scene p).ds.length = (events p).length := by simp [scene]
  have hda : (scene p).ds[a]? = some (dsA p a) := by rw [dsA, scene_get hea]; rfl
  have hdb : (scene p).ds[b]? = some (dsA p b) := by rw [dsA, scene_get heb]; rfl
  refine Fc.start (S := []) Tryz.func137 Tryz.ntmps137 Tryz.results137 rfl (by decide) rfl (by kernel_rfl) ?_
  cases hwa : (dsA p a).writes
  · simp (maxSteps := 1000000) (disch := omega) only [push_cast, go_sem, zA, zB, zC, zD, zE, zF, simprocAttr, ordV_eq, rdsV_eq, wrtV_eq, hda, hdb, hsl, ha, hb, hwa]
    refine ⟨_, Sub.rfl, ?_, rfl⟩
    simp [readS, hwa]
  cases hrb : (dsA p b).reads
  all_goals
    simp (maxSteps := 1000000) (disch := omega) only [push_cast, go_sem, zA, zB, zC, zD, zE, zF, simprocAttr, ordV_eq, rdsV_eq, wrtV_eq, hda, hdb, hsl, ha, hb, hwa, hrb, hz, hx]
    refine ⟨_, Sub.rfl, ?_, rfl⟩
    simp [readS, hwa, hrb, hz]
theorem oover_fn (hc : ∀ (i : Nat) , i < (events p).length → 0 ≤ (dsA p i).p) (ha : a < (events p).length) (hb : b < (events p).length) :
    Fo Tryz.prog 138 [.int .i64 a, .int .i64 b] g 6 (ordV p g (rdsV p) (wrtV p) c4 (.sl (((List.range (events p).length).map (rankS p x)).map (V.int .i64)))) (.bool (overS p x a b)) := by
  obtain ⟨ea, hea⟩ : ∃ e, (events p)[a]? = some e := ⟨_, List.getElem?_eq_getElem ha⟩
  obtain ⟨eb, heb⟩ : ∃ e, (events p)[b]? = some e := ⟨_, List.getElem?_eq_getElem hb⟩
  have hsl : (scene p).ds.length = (events p).length := by simp [scene]
  have hda : (scene p).ds[a]? = some (dsA p a) := by rw [dsA, scene_get hea]; rfl
  have hdb : (scene p).ds[b]? = some (dsA p b) := by rw [dsA, scene_get heb]; rfl
  obtain ⟨rk, hrk⟩ : ∃ rk, (List.range (events p).length).map (rankS p x) = rk := ⟨_, rfl⟩
  have hra : rk[a]? = some (rankS p x a) := by rw [← hrk]; simp [ha]
  have hrb : rk[b]? = some (rankS p x b) := by rw [← hrk]; simp [hb]
  have hrl : rk.length = (events p).length := by rw [← hrk]; simp
  rw [hrk]
  have hs := osame_fn p g c4 (.sl (rk.map (V.int .i64))) a b ha hb
  rw [ordV_eq, rdsV_eq, wrtV_eq] at hs
  refine Fc.start (S := []) Tryz.func138 Tryz.ntmps138 Tryz.results138 rfl (by decide) rfl (by kernel_rfl) ?_
  simp (maxSteps := 1000000) (disch := omega) only [push_cast, go_sem, zA, zB, zC, zD, zE, zF, simprocAttr, ordV_eq, rdsV_eq, wrtV_eq]
  refine Sat.drawnE [] [] (List.range 36) (lookT (.own 134 (some g) 1 [.agg [.sl (p.map thrV), .sl ((events p).map Evt.V), .sl ((scene p).ds.map fun d => .bool d.reads), .sl ((scene p).ds.map fun d => .bool d.writes), c4, .sl (rk.map (V.int .i64))]]) [] [(141, .bool (sameS p a b))]) (by kernel_rfl) (by kernel_rfl) ?_
  cases hwb : (dsA p b).writes
  · simp (maxSteps := 1000000) (disch := omega) only [push_cast, go_sem, zA, zB, zC, zD, zE, zF, simprocAttr, hda, hdb, hsl, ha, hb, hwb]
    refine ⟨_, Sub.rfl, ?_, rfl⟩
    simp [overS, hwb]
  by_cases hab : a = b
  · subst hab
    have hab' : ((a : Int) != a) = false := by simp
    simp (maxSteps := 1000000) (disch := omega) only [push_cast, go_sem, zA, zB, zC, zD, zE, zF, simprocAttr, hda, hdb, hsl, ha, hb, hwb, hab']
    refine ⟨_, Sub.rfl, ?_, rfl⟩
    simp [overS]
  have hab' : ((a : Int) != b) = true := by simp; omega
  have hab2 : (a == b) = false := by simpa using hab
  simp (maxSteps := 1000000) (disch := omega) only [push_cast, go_sem, zA, zB, zC, zD, zE, zF, simprocAttr, hda, hdb, hsl, ha, hb, hwb, hab']
  refine runD_look hs rfl rfl rfl rfl rfl ?_ ?_
  · rfl
  cases hss : sameS p a b
  all_goals
    simp (maxSteps := 1000000) (disch := omega) only [push_cast, go_sem, zA, zB, zC, zD, zE, zF, simprocAttr, hra, hrb, hrl, ha, hb, hwb, hab']
    refine ⟨_, Sub.rfl, ?_, rfl⟩
    simp [overS, hwb, hss, hab2]
theorem owall_fn (d : Do) : Fp Tryz.prog 157 [d.V] (.bool (wallB d)) := by
  refine Fc.start (S := []) Tryz.func157 Tryz.ntmps157 Tryz.results157 rfl (by decide) rfl (by kernel_rfl) ?_
  simp (maxSteps := 1000000) (disch := omega) only [push_cast, go_sem, zA, zB, zC, zD, zE, zF, simprocAttr, Do.V_eq]
  refine ⟨fun h => ?_, fun h => ?_⟩ <;> simp [wallB, h]
end
def badB (fa tb : Bool) (d : Do) : Bool := (fa && d.k == 8) || (tb && d.k == 7)
theorem insS_val {p : Prog} {a b : Nat} (ho : ownB (events p) a b = true) (hft : ((dsA p a).k == 7 || (dsA p b).k == 8) = true) :
    ((∀ j, a < j → j < b → badB ((dsA p a).k == 7) ((dsA p b).k == 8) (dsA p j) = false) → insS p a b = true) ∧ (∀ j, a < j → j < b → badB ((dsA p a).k == 7) ((dsA p b).k == 8) (dsA p j) = true → insS p a b = false) := by
  have hi := insS_iff ho
  have e : ∀ k, kd (scene p).ds k = (dsA p k).k := fun _ => rfl
  simp only [e] at hi
  rw [Bool.or_eq_true, beq_iff_eq, beq_iff_eq] at hft
  refine ⟨fun h => hi.2 ⟨hft, fun k k1 k2 => ?_⟩, fun j j1 j2 hb => ?_⟩
  · have := h k k1 k2
    simp only [badB, Bool.or_eq_false_iff, Bool.and_eq_false_iff, beq_eq_false_iff_ne] at this
    omega
  · rw [← Bool.not_eq_true]
    intro hh
    have := (hi.1 hh).2 j j1 j2
    simp only [badB, Bool.or_eq_true, Bool.and_eq_true, beq_iff_eq] at hb
    omega
section
variable (p : Prog) (x : Exe) (g : Nat) (c2 c3 c4 c5 : V) (a b : Nat)
theorem oinside_fn (hn : (events p).length ≤ 42) (ha : a < (events p).length) (hb : b < (events p).length) : Fo Tryz.prog 158 [.int .i64 a, .int .i64 b] g 6 (ordV p g c2 c3 c4 c5) (.bool (insS p a b)) := by
  have h1 := odo_fn p g c2 c3 c4 c5 a ha
  have h2 := odo_fn p g c2 c3 c4 c5 b hb
  have h3 := oown_fn p g c2 c3 c4 c5 a b ha hb
  rw [ordV_eq] at h1 h2 h3
  obtain ⟨fa, hfa⟩ : ∃ v, ((dsA p a).k == 7) = v := ⟨_, rfl⟩
  obtain ⟨tb, htb⟩ : ∃ v, ((dsA p b).k == 8) = v := ⟨_, rfl⟩
  refine Fc.start (S := [6]) Tryz.func158 Tryz.ntmps158 Tryz.results158 rfl (by decide) rfl (by kernel_rfl) ?_
  simp (maxSteps := 1000000) (disch := omega) only [push_cast, go_sem, zA, zB, zC, zD, zE, zF, simprocAttr, ordV_eq]
  refine callR.look h1 rfl rfl rfl ?_
  simp (maxSteps := 1000000) (disch := omega) only [push_cast, go_sem, zA, zB, zC, zD, zE, zF, simprocAttr, Do.V_eq, hfa]
  refine callR.look h2 rfl rfl rfl ?_
  simp (maxSteps := 1000000) (disch := omega) only [push_cast, go_sem, zA, zB, zC, zD, zE, zF, simprocAttr, Do.V_eq, htb]
  refine callR.look h3 rfl rfl rfl ?_
  cases ho : ownB (events p) a b
  · simp (maxSteps := 1000000) (disch := omega) only [push_cast, go_sem, zA, zB, zC, zD, zE, zF, simprocAttr]
    refine ⟨_, Sub.rfl, ?_, rfl⟩
    simp [insS, ho]
  have hab : a < b := by simp only [ownB, Bool.and_eq_true, decide_eq_true_eq] at ho; exact ho.1
  cases hft : (fa || tb)
  · rw [Bool.or_eq_false_iff] at hft
    obtain ⟨rfl, rfl⟩ := hft
    simp (maxSteps := 1000000) (disch := omega) only [push_cast, go_sem, zA, zB, zC, zD, zE, zF, simprocAttr]
    refine ⟨_, Sub.rfl, ?_, rfl⟩
    have e1 : (kd (scene p).ds a == 7) = false := hfa
    have e2 : (kd (scene p).ds b == 8) = false := htb
    simp [insS, ho, e1, e2]
  have hv := insS_val ho (by rw [hfa, htb]; exact hft)
  rw [hfa, htb] at hv
  obtain ⟨hv1, hv2⟩ := hv
  cases fa <;> cases tb <;> first | (cases hft; done) | skip
  all_goals
    simp (maxSteps := 1000000) (disch := omega) only [push_cast, go_sem, zA, zB, zC, zD, zE, zF, simprocAttr]
    refine Sat.loop (σ := Nat) (fun k => upd (upd (upd (upd (upd (upd noT 0 (.ptr 0 [] 0 0 g 6)) 1 (.int .i64 a)) 2 (.int .i64 b)) 7 (.bool ((dsA p a).k == 7))) 8 (.bool ((dsA p b).k == 8))) 9 (.int .i64 k)) (fun _ => noM.set 0 (.own 134 (some g) 1 [.agg [.sl (p.map thrV), .sl ((events p).map Evt.V), c2, c3, c4, c5]]))
      (fun k => a < k ∧ k ≤ b ∧ ∀ j, a < j → j < k → badB ((dsA p a).k == 7) ((dsA p b).k == 8) (dsA p j) = false) (fun k => b - k) (a + 1) ⟨by omega, by omega, fun j j1 j2 => absurd j1 (by omega)⟩ ?_ ?_
    · rw [hfa, htb]
      (refine Less.start ?_; repeat (first | exact LessO.nil | exact LessO.all | refine LessO.skip (by decide) ?_ | refine LessO.upd ?_ ?_ | refine LessO.set ?_ ?_)) <;> (try simp (maxSteps := 1000000) (disch := omega) only [push_cast, go_sem, zA, zB, zC, zD, zE, zF, simprocAttr])
    rintro k ⟨hk1, hk2, hk3⟩ J hJ
    rw [hfa, htb] at hk3
    rw [hfa, htb]
    refine Sat.of (S := []) (by kernel_rfl) ?_
    by_cases hkb : k = b
    · subst hkb
      simp (maxSteps := 1000000) (disch := omega) only [push_cast, go_sem, zA, zB, zC, zD, zE, zF, simprocAttr]
      refine ⟨_, Sub.rfl, ?_, rfl⟩
      rw [hv1 hk3]
    have hkb' : k < b := by omega
    have hk := odo_fn p g c2 c3 c4 c5 k (by omega)
    rw [ordV_eq] at hk
    simp (maxSteps := 1000000) (disch := omega) only [push_cast, go_sem, zA, zB, zC, zD, zE, zF, simprocAttr, hkb']
    refine callR.look hk rfl rfl rfl ?_
    cases h8 : ((dsA p k).k == 8) <;> cases h7 : ((dsA p k).k == 7)
    all_goals
      simp (maxSteps := 1000000) (disch := omega) only [push_cast, go_sem, zA, zB, zC, zD, zE, zF, simprocAttr, Do.V_eq, h8, h7]
      try (refine callR.look hk rfl rfl rfl ?_; simp (maxSteps := 1000000) (disch := omega) only [push_cast, go_sem, zA, zB, zC, zD, zE, zF, simprocAttr, Do.V_eq, h7])
      first
      | (refine ⟨_, Sub.rfl, ?_, rfl⟩
         rw [hv2 k (by omega) (by omega) (by simp [badB, h7, h8])])
      | (refine hJ (k + 1) _ _ ⟨by omega, by omega, fun j j1 j2 => ?_⟩ (by omega) ?_
         · rw [hfa, htb]
           rcases Nat.lt_or_ge j k with hh | hh
           · exact hk3 j j1 hh
           · have : j = k := by omega
             subst this
             simp [badB, h7, h8]
         · rw [hfa, htb]
           (refine Less.start ?_; repeat (first | exact LessO.nil | exact LessO.all | refine LessO.skip (by decide) ?_ | refine LessO.upd ?_ ?_ | refine LessO.set ?_ ?_)) <;> (try simp (maxSteps := 1000000) (disch := omega) only [push_cast, go_sem, zA, zB, zC, zD, zE, zF, simprocAttr]))
end
end Go.Proofs.YtfbgabkcjjahiaaGreatDoor
namespace Go.Proofs.YtfbgabkcjjahiaaGreatDoor
open Go.RowKit
set_option pp.maxSteps 3000

section
variable {P : Program} {M : Mem} {k : V → Mem → Prop} {ro c : Bool}
/-- A call, in a drawn region, that looks at a row. -/
theorem runD_peek {spec : Table} {f : FuncId} {a l cp : Nat} {γ : Option Nat} {o v : V} {d : Nat} (h : Fc P f [.msl 0 [] γ l cp] (noM.set 0 o) fun r m => r = v ∧ m = noM.set 0 o) (hM : M a = some o)
    (hs : spec f [.msl 0 [] γ l cp] (noM.set 0 o) = some fun r m => r = v ∧ m = noM.set 0 o) (hchk : c = true) (hK : runV (some (True, det (resN (some d) v) M)) k .mk) :
    runD (callV (specT P spec) f [.msl a [] γ l cp] (some d) M) ro M c k .mk := by
  have hf : footM M ([V.msl a [] γ l cp].map V.key) = noM.set 0 o := by
    funext i
    cases i with
    | zero => simp [footM, V.key, hM, Mem.set]
    | succ i => simp [footM, Mem.set, noM]
  have hm : mergeM M ([V.msl a [] γ l cp].map V.key) (some d) (noM.set 0 o) = M := by
    rw [merge_eq, List.map_cons]
    have e1 : (noM.set 0 o) 100 = none := rfl
    have e2 : (noM.set 0 o) 0 = some o := rfl
    rw [e1, mgD_none', key_msl, mg_some, e2, List.map_nil, mg_nil, MemU_some, set_self hM]
  have hr : renArgs 0 [V.msl a [] γ l cp] = [.msl 0 [] γ l cp] := by rw [renArgs_cons]; rfl
  refine runD_call (F := noM.set 0 o) (R := fun r m => r = v ∧ m = noM.set 0 o) (by rw [hr, hf]; exact hs) (by rw [hr]; exact h) (by rw [hf]; exact Sub.rfl) (by simp [V.key]) (by simp) ⟨v, _, rfl, rfl⟩ (fun _ r0 Mf hr => by rw [hr.2]; exact hm) hchk ?_
  rintro r0 r Mf ⟨rfl, rfl⟩ h5
  rw [hm, h5 d rfl]
  exact (runV_det.1 hK).2
end
def decI : V → List Int
  | .sl l => l.map fun x => match x with | .int _ n => n | _ => 0
  | _ => []
theorem decI_sl (l : List Int) : decI (.sl (l.map (V.int .i64))) = l := by
  rw [decI, List.map_map]
  exact List.map_id'' (fun _ => rfl) l
theorem cmpOr_fn (a b : Int) (γ : Option Nat) (c : Nat) : Fc Tryz.prog 130 [.msl 0 [] γ 2 c] (noM.set 0 (.own 3 γ c [.int .i64 a, .int .i64 b])) fun r m => r = .int .i64 (orI a b) ∧ m = noM.set 0 (.own 3 γ c [.int .i64 a, .int .i64 b]) := by
  refine Fc.start (S := []) Tryz.func130 Tryz.ntmps130 Tryz.results130 rfl (by decide) rfl (by kernel_rfl) ?_
  simp (maxSteps := 1000000) (disch := omega) only [push_cast, go_sem, zA, zB, zC, zD, zE, zF, simprocAttr]
  refine Sat.loop (σ := Nat) (fun i => upd (upd (upd (upd (upd noT 0 (.msl 0 [] γ 2 c)) 3 (.int .i64 0)) 6 (.msl 0 [] γ 2 c)) 7 (.int .i64 2)) 8 (.int .i64 i)) (fun _ => noM.set 0 (.own 3 γ c [.int .i64 a, .int .i64 b]))
    (fun i => i = 0 ∨ (i = 1 ∧ a = 0) ∨ (i = 2 ∧ a = 0 ∧ b = 0)) (fun i => 2 - i) 0 (.inl rfl) ?_ ?_
  · (refine Less.start ?_; repeat (first | exact LessO.nil | exact LessO.all | refine LessO.skip (by decide) ?_ | refine LessO.upd ?_ ?_ | refine LessO.set ?_ ?_)) <;> (try simp (maxSteps := 1000000) (disch := omega) only [push_cast, go_sem, zA, zB, zC, zD, zE, zF, simprocAttr])
  rintro i hi J hJ
  refine Sat.someG (o := 0) (e := 3) (γ := γ) (cap := c) (es := [.int .i64 a, .int .i64 b]) rfl (by simp) ?_
  rintro g rfl
  refine Sat.of (S := []) (by kernel_rfl) ?_
  rcases hi with rfl | ⟨rfl, rfl⟩ | ⟨rfl, rfl, rfl⟩
  · by_cases h0 : a = 0
    · subst h0
      simp (maxSteps := 1000000) (disch := omega) only [push_cast, go_sem, zA, zB, zC, zD, zE, zF, simprocAttr]
      refine hJ 1 _ _ (.inr (.inl ⟨rfl, rfl⟩)) (by omega) ?_
      (refine Less.start ?_; repeat (first | exact LessO.nil | exact LessO.all | refine LessO.skip (by decide) ?_ | refine LessO.upd ?_ ?_ | refine LessO.set ?_ ?_)) <;> (try simp (maxSteps := 1000000) (disch := omega) only [push_cast, go_sem, zA, zB, zC, zD, zE, zF, simprocAttr])
    · have h1 : (a != 0) = true := by simpa using h0
      simp (maxSteps := 1000000) (disch := omega) only [push_cast, go_sem, zA, zB, zC, zD, zE, zF, simprocAttr, h1]
      refine ⟨_, Sub.rfl, ?_, rfl⟩
      rw [orI, if_neg h0]
  · by_cases h0 : b = 0
    · subst h0
      simp (maxSteps := 1000000) (disch := omega) only [push_cast, go_sem, zA, zB, zC, zD, zE, zF, simprocAttr]
      refine hJ 2 _ _ (.inr (.inr ⟨rfl, rfl, rfl⟩)) (by omega) ?_
      (refine Less.start ?_; repeat (first | exact LessO.nil | exact LessO.all | refine LessO.skip (by decide) ?_ | refine LessO.upd ?_ ?_ | refine LessO.set ?_ ?_)) <;> (try simp (maxSteps := 1000000) (disch := omega) only [push_cast, go_sem, zA, zB, zC, zD, zE, zF, simprocAttr])
    · have h1 : (b != 0) = true := by simpa using h0
      simp (maxSteps := 1000000) (disch := omega) only [push_cast, go_sem, zA, zB, zC, zD, zE, zF, simprocAttr, h1]
      refine ⟨_, Sub.rfl, ?_, rfl⟩
      rfl
  · simp (maxSteps := 1000000) (disch := omega) only [push_cast, go_sem, zA, zB, zC, zD, zE, zF, simprocAttr]
    refine ⟨_, Sub.rfl, ?_, rfl⟩
    rfl

def cmpT : Table := fun f args F =>
  if f = 131 then match args with
    | [a, b] => some fun r m => r = .int .i64 (cmpL (decI a) (decI b)) ∧ m = noM
    | _ => none
  else if f = 130 then match F 0 with
    | some (.own e γ c [.int .i64 x, .int .i64 y]) => some fun r m => r = .int .i64 (orI x y) ∧ m = noM.set 0 (.own e γ c [.int .i64 x, .int .i64 y])
    | _ => none
  else none
theorem cmpT_at (a b : List Int) : cmpT 131 [.sl (a.map (V.int .i64)), .sl (b.map (V.int .i64))] noM = some fun r m => r = .int .i64 (cmpL a b) ∧ m = noM := by
  have : cmpT 131 [.sl (a.map (V.int .i64)), .sl (b.map (V.int .i64))] noM = some fun r m => r = .int .i64 (cmpL (decI (.sl (a.map (V.int .i64)))) (decI (.sl (b.map (V.int .i64))))) ∧ m = noM := rfl
  rw [this, decI_sl, decI_sl]
theorem compare_fn (s t : Sn) (hs : s.small) (ht : t.small) : Fp Tryz.prog 90 [s.V, t.V] (.int .i64 (cmpS s t)) := by
  have h1 := sCompare_fn s.rd t.rd hs.rd ht.rd
  have h2 := sCompare_fn s.ls t.ls hs.ls ht.ls
  refine Fc.start (S := []) Tryz.func90 Tryz.ntmps90 Tryz.results90 rfl (by decide) rfl (by kernel_rfl) ?_
  simp (maxSteps := 1000000) (disch := omega) only [push_cast, go_sem, zA, zB, zC, zD, zE, zF, simprocAttr, Sn.V_eq]
  intro g2 g3
  refine Sat.drawnE [] [] [0, 1, 2, 3, 4, 5, 6, 7, 8, 9, 11, 12] cmpT (by kernel_rfl) (by kernel_rfl) ?_
  simp (maxSteps := 1000000) (disch := omega) only [push_cast, go_sem, zA, zB, zC, zD, zE, zF, simprocAttr]
  refine runD_pure (cmpT_at s.rd t.rd) h1 rfl rfl ?_ ?_
  · rfl
  simp (maxSteps := 1000000) (disch := omega) only [push_cast, go_sem, zA, zB, zC, zD, zE, zF, simprocAttr]
  refine runD_pure (cmpT_at s.ls t.ls) h2 rfl rfl ?_ ?_
  · rfl
  simp (maxSteps := 1000000) (disch := omega) only [push_cast, go_sem, zA, zB, zC, zD, zE, zF, simprocAttr]
  intro g15
  refine runD_peek (cmpOr_fn (cmpL s.rd t.rd) (cmpL s.ls t.ls) (some g15) 2) rfl rfl rfl ?_
  simp (maxSteps := 1000000) (disch := omega) only [push_cast, go_sem, zA, zB, zC, zD, zE, zF, simprocAttr]
  rfl
theorem same_fn (s t : Sn) (hs : s.small) (ht : t.small) : Fp Tryz.prog 51 [s.V, t.V] (.bool (decide (s = t))) := by
  have h1 := compare_fn s t hs ht
  have h2 : (cmpS s t == 0) = decide (s = t) := by
    rw [Bool.eq_iff_iff, beq_iff_eq, decide_eq_true_eq]; exact cmpS_zero
  rw [← h2]
  refine Fc.start (S := []) Tryz.func51 Tryz.ntmps51 Tryz.results51 rfl (by decide) rfl (by kernel_rfl) ?_
  simp (maxSteps := 1000000) (disch := omega) only [push_cast, go_sem, zA, zB, zC, zD, zE, zF, simprocAttr, Sn.V_eq]
  intro g2 g3
  rw [Sn.V_eq, Sn.V_eq] at h1
  refine callR.pure h1 rfl rfl ?_
  simp (maxSteps := 1000000) (disch := omega) only [push_cast, go_sem, zA, zB, zC, zD, zE, zF, simprocAttr]
end Go.Proofs.YtfbgabkcjjahiaaGreatDoor
namespace Go.Proofs.YtfbgabkcjjahiaaGreatDoor
open Go.RowKit
set_option pp.maxSteps 3000

theorem loose_eq {p : Prog} (h : progOk p = true) {a b t : Nat} (hb : b < (events p).length) (ho : ownB (events p) a b = true) (ht : ∀ f, bkI (events p) (scene p).ds a a = some f → Quiet p f t ∧ kd (scene p).ds f = 7 ∧ kd (scene p).ds t = 8) (f : Int) (t' : Int) (ok : Bool)
    (hr : insR a t (bkI (events p) (scene p).ds a a) = .tuple [.int .i64 f, .int .i64 t', .bool ok]) : looseB (dsA p a) (dsA p b) a b (lastRd (scene p).ds b) f t' ok = looseS p a b := by
  have hi := ins_eq h hb ho ht
  have e : insI p a b t = ((kd (scene p).ds a == 7 || kd (scene p).ds b == 8) && ok && decide (f ≤ a) && decide ((b : Int) ≤ t') && (kd (scene p).ds a == 7 || (b : Int) == t')) := by
    rw [insI]
    cases hbk : bkI (events p) (scene p).ds a a with
    | none =>
      rw [hbk] at hr
      simp only [insR, V.tuple.injEq, List.cons.injEq, V.int.injEq, V.bool.injEq, true_and, and_true] at hr
      obtain ⟨rfl, rfl, rfl⟩ := hr
      simp
    | some f0 =>
      rw [hbk] at hr
      simp only [insR, V.tuple.injEq, List.cons.injEq, V.int.injEq, V.bool.injEq, true_and, and_true] at hr
      obtain ⟨rfl, rfl, rfl⟩ := hr
      have e1 : decide ((f0 : Int) ≤ a) = decide (f0 ≤ a) := by simp
      have e2 : decide ((b : Int) ≤ t) = decide (b ≤ t) := by simp
      have e3 : ((b : Int) == (t : Int)) = (b == t) := by rw [Bool.eq_iff_iff]; simp; omega
      rw [e1, e2, e3]
  have hsl : (scene p).ds.length = (events p).length := by simp [scene]
  obtain ⟨eb, heb⟩ : ∃ e, (events p)[b]? = some e := ⟨_, List.getElem?_eq_getElem hb⟩
  have hs : ((dsA p b).k == 3 && srcOf (events p) (scene p).ds b b == (a : Int)) = ((dsA p b).k == 3 && lastRd (scene p).ds b == a) := by
    by_cases h3 : (dsA p b).k = 3
    · have e4 : dsA p b = stepAt p eb := by rw [dsA, scene_get heb]; rfl
      have := src_last h heb (by rw [← e4]; exact h3)
      have e5 : ((lastRd (scene p).ds b : Int) == (a : Int)) = (lastRd (scene p).ds b == a) := by rw [Bool.eq_iff_iff, beq_iff_eq, beq_iff_eq]; omega
      rw [this, e5]
    · have h3' : ((dsA p b).k == 3) = false := by simpa using h3
      rw [h3']; rfl
  rw [looseS, ho, hs, ← hi, e, looseB]
  simp only [Bool.true_and, wallB, dsA, kd]
  cases ((scene p).ds[a]?.getD default).k == 4 <;> cases ((scene p).ds[a]?.getD default).k == 9 <;> cases ((scene p).ds[b]?.getD default).k == 4 <;> cases ((scene p).ds[b]?.getD default).k == 9 <;>
    cases ((scene p).ds[a]?.getD default).k == 5 <;> cases ((scene p).ds[b]?.getD default).k == 6 <;> simp [Bool.or_comm]
theorem has_eq {p : Prog} {x : Exe} (h : Way p x) {a b : Nat} (hb : b < (scene p).ds.length) {kind : Int} (hk : inB kind 1 3 = true) (lo : Bool) (hlo : ownB (events p) a b = true → lo = looseS p a b) :
    hasB (ownB (events p) a b) (x.fr[b]?.getD 0 == (a : Int)) (overB (scene p).ds x a b) (th (events p) a != th (events p) b) (dsA p a).writes (dsA p b).reads lo kind = (staysS p kind a b || toldS p x kind a b) := by
  rw [← read_eq h hb, ← over_eq]
  have hk' : kind = 1 ∨ kind = 2 ∨ kind = 3 := by simp [inB] at hk; omega
  have hol : ownB (events p) a b = false → looseS p a b = false := fun ho => by simp [looseS, ho]
  simp only [hasB, staysS, toldS, apartS]
  rcases hk' with rfl | rfl | rfl
  · simp [Bool.or_assoc]
  · simp [Bool.or_assoc, Bool.and_comm]
  · cases ho : ownB (events p) a b
    · simp [hol ho, Bool.and_comm]
    · simp [hlo ho, Bool.and_comm]

theorem isOrd_fn (n : Int) : Fp Tryz.prog 47 [.int .i64 n] (.bool (inB n 1 3)) := by
  refine Fc.start (S := []) Tryz.func47 Tryz.ntmps47 Tryz.results47 rfl (by decide) rfl (by kernel_rfl) ?_
  simp (maxSteps := 1000000) (disch := omega) only [push_cast, go_sem, zA, zB, zC, zD, zE, zF, simprocAttr]
  refine callR.pure (in_fn n 1 3) rfl rfl ?_
  simp (maxSteps := 1000000) (disch := omega) only [push_cast, go_sem, zA, zB, zC, zD, zE, zF, simprocAttr]
theorem insR_ex (a t : Nat) (o : Option Nat) : ∃ (f t' : Int) (ok : Bool), insR a t o = .tuple [.int .i64 f, .int .i64 t', .bool ok] := by
  cases o with
  | none => exact ⟨0, 0, false, rfl⟩
  | some f => exact ⟨f, t, decide (a ≤ t), rfl⟩
end Go.Proofs.YtfbgabkcjjahiaaGreatDoor
