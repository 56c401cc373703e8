/-
 The machine of values against the model: calls by contract; every operation.
-/
import Derived.Test.YtkdolbffabmemaaGreatDoorLvj
namespace Go.Proofs.YtkdolbffabmemaaGreatDoor
open Go.RowKit
set_option linter.unusedSimpArgs false
set_option linter.unusedVariables false
def Fn (P : Program) (f : FuncId) (args : List V) (F : Mem) (R : Post) : Prop :=
 ∀ (imm : Nat → Prop) (w : World) (vals : Array Value), Glob imm w → Inv (szT P) imm w F → (∀ g, imm g → g < w.heap.size) → vals.size = args.length → (∀ (j : Nat) c u, args[j]? = some c → vals[j]? = some u → Rp imm w c u) →
  Calls P f vals w fun e w' => ∃ v r m imm', e = .returned v ∧ R r m ∧ Rp imm' w' r v ∧ Step (szT P) imm w F imm' w' m
def goFn (P : Program) (f : FuncId) : Bool := match P.funcs[f]? with | some fn => fn.name != "runtime.NumGoroutine" && fn.body.isSome | none => false
def Sound (P : Program) (Φ : Table) : Prop := ∀ f args F R, Φ f args F = some R → Fn P f args F R ∧ goFn P f = true
section
variable {P : Program} {imm imm' imm0 : Nat → Prop} {w w' w0 : World} {M M0 M' : Mem} {t : Nat → V} {a : Act} {o : Oper}
theorem keys_inj {ks : List (Option Nat)} : (ks.filterMap id).Nodup → ∀ {i j k : Nat}, ks[i]? = some (some k) → ks[j]? = some (some k) → i = j := by
 induction ks with
 | nil => intro _ i j k h; simp at h
 | cons x ks ih =>
  intro hn i j k hi hj
  have mem : ∀ {l : Nat}, ks[l]? = some (some k) → k ∈ ks.filterMap id := fun h => List.mem_filterMap.2 ⟨some k, List.mem_of_getElem? h, rfl⟩
  cases x with
  | none =>
   simp at hn
   cases i <;> cases j <;> simp at hi hj
   exact congrArg (· + 1) (ih hn hi hj)
  | some y =>
   simp only [List.filterMap_cons, id, List.nodup_cons] at hn
   cases i <;> cases j <;> simp at hi hj
   ·rfl
   ·subst hi; exact absurd (mem hj) hn.1
   ·subst hj; exact absurd (mem hi) hn.1
   ·exact congrArg (· + 1) (ih hn.2 hi hj)
theorem footM_some {ks : List (Option Nat)} {i : Nat} {v : V} (h : footM M ks i = some v) : ∃ k, ks[i]? = some (some k) ∧ M k = some v := by
 unfold footM at h
 cases hk : ks[i]? with
 | none => simp [hk] at h
 | some x =>
  cases x with
  | none => simp [hk] at h
  | some k => simp [hk] at h; exact ⟨k, rfl, h⟩
theorem footM_getP {ks : List (Option Nat)} {i : Nat} {q : Path} {v : V} (h : (footM M ks).getP i q = some v) : ∃ k, ks[i]? = some (some k) ∧ M.getP k q = some v := by
 cases hf : footM M ks i with
 | none => simp [Mem.getP, hf] at h
 | some x =>
  obtain ⟨k, h1, h2⟩ := footM_some hf
  exact ⟨k, h1, by simpa [Mem.getP, hf, h2] using h⟩
theorem Inv.foot {ks : List (Option Nat)} (h : Inv (szT P) imm w M) (hn : (ks.filterMap id).Nodup) : Inv (szT P) imm w (footM M ks) := by
 refine ⟨fun o q v hv => ?_, fun o v hv => ?_, ?_⟩
 ·obtain ⟨k, _, h1⟩ := footM_getP hv
  exact h.nd _ _ _ h1
 ·obtain ⟨k, _, h1⟩ := footM_some hv
  exact h.top _ _ h1
 ·intro o q o' q' g e cap es e' cap' es' h1 h2
  obtain ⟨k, k1, k2⟩ := footM_getP h1
  obtain ⟨k', l1, l2⟩ := footM_getP h2
  obtain ⟨rfl, rfl⟩ := h.inj _ _ _ _ _ _ _ _ _ _ _ k2 l2
  exact ⟨keys_inj hn k1 l1, rfl⟩
theorem foot_owns {ks : List (Option Nat)} {g : Nat} (h : (footM M ks).owns g) : ∃ k q e cap es, some k ∈ ks ∧ M.getP k q = some (.own e (some g) cap es) := by
 obtain ⟨o, q, e, cap, es, hq⟩ := h
 obtain ⟨k, h1, h2⟩ := footM_getP hq
 exact ⟨k, q, e, cap, es, List.mem_of_getElem? h1, h2⟩
theorem mergeM_cases {ks : List (Option Nat)} {d : Option Nat} {Mf : Mem} (k : Nat) :
  (d = some k ∧ mergeM M ks d Mf k = Mf 100) ∨ (∃ i, ks[i]? = some (some k) ∧ mergeM M ks d Mf k = Mf i ∧ ¬ (d = some k ∧ (Mf 100).isSome = true)) ∨ (some k ∉ ks ∧ mergeM M ks d Mf k = M k ∧ ¬ (d = some k ∧ (Mf 100).isSome = true)) := by
 by_cases h : d = some k ∧ (Mf 100).isSome = true
 ·exact .inl ⟨h.1, by simp only [mergeM, if_pos h]⟩
 ·cases hi : ks.idxOf? (some k) with
  | none =>
   refine .inr (.inr ⟨?_, by simp only [mergeM, if_neg h, hi], h⟩)
   rw [List.idxOf?_eq_none_iff] at hi
   exact hi
  | some i =>
   refine .inr (.inl ⟨i, ?_, by simp only [mergeM, if_neg h, hi], h⟩)
   unfold List.idxOf? at hi
   obtain ⟨hlt, h1, _⟩ := List.findIdx?_eq_some_iff_getElem.1 hi
   simp only [beq_iff_eq] at h1
   simp [hlt, h1]
theorem Step.merge {ks : List (Option Nat)} {d : Option Nat} {Mf : Mem} (hI : Inv (szT P) imm w M) (hi : ∀ g, imm g → g < w.heap.size) (hn : (ks.filterMap id).Nodup) (hl : ks.length ≤ 90)
  (h : Step (szT P) imm w (footM M ks) imm' w' Mf) : Step (szT P) imm w M imm' w' (mergeM M ks d Mf) := by
 have hev : Ev imm w imm' w' := h.ev (hI.foot hn) hi
 have get : ∀ k q v, (mergeM M ks d Mf).getP k q = some v → (∃ i, Mf.getP i q = some v ∧ ((i = 100 ∧ d = some k) ∨ ks[i]? = some (some k))) ∨ (some k ∉ ks ∧ M.getP k q = some v) := by
  intro k q v hv
  rcases mergeM_cases (M := M) (ks := ks) (d := d) (Mf := Mf) k with ⟨h1, h2⟩ | ⟨i, h1, h2, _⟩ | ⟨h1, h2, _⟩
  ·exact .inl ⟨100, by simpa [Mem.getP, h2] using hv, .inl ⟨rfl, h1⟩⟩
  ·exact .inl ⟨i, by simpa [Mem.getP, h2] using hv, .inr h1⟩
  ·exact .inr ⟨h1, by simpa [Mem.getP, h2] using hv⟩
 have notF : ∀ k q e g cap es, some k ∉ ks → M.getP k q = some (.own e (some g) cap es) → ¬ (footM M ks).owns g := by
  intro k q e g cap es hk hq hf
  obtain ⟨k', q', e', cap', es', h1, h2⟩ := foot_owns hf
  obtain ⟨rfl, _⟩ := hI.inj _ _ _ _ _ _ _ _ _ _ _ hq h2
  exact hk h1
 have idx_lt : ∀ {i k : Nat}, ks[i]? = some (some k) → i < 90 := fun h => Nat.lt_of_lt_of_le (List.getElem?_eq_some_iff.1 h).1 hl
 refine ⟨⟨fun k q v hv => ?_, fun k v hv => ?_, ?_⟩, h.lt, h.size, h.os, h.tape, h.output, fun g hg hno => h.block g hg (fun hf => hno ?_), fun g hg => ?_⟩
 ·rcases get _ _ _ hv with ⟨i, h1, _⟩ | ⟨h1, h2⟩
  ·exact h.inv.nd _ _ _ h1
  ·refine Nd.up (here := fun _ _ => False) (c := .undef) hev (hI.nd _ _ _ h2) (.inl rfl) (fun _ _ h => h) (fun e g cap es hq => ?_)
   subst hq
   have hb := h.block g (hI.nd _ _ _ h2).lt (notF _ _ _ _ _ _ h1 h2)
   exact ⟨hb.1, fun hi' => (hI.nd _ _ _ h2).1 (hb.2.1 hi')⟩
 ·have hv' : (mergeM M ks d Mf).getP k [] = some v := by simp [Mem.getP, hv, V.getP]
  rcases get _ _ _ hv' with ⟨i, h1, _⟩ | ⟨h1, h2⟩
  ·cases hm : Mf i with
   | none => simp [Mem.getP, hm] at h1
   | some x => simp [Mem.getP, hm, V.getP] at h1; subst h1; exact h.inv.top _ _ hm
  ·cases hm : M k with
   | none => simp [Mem.getP, hm] at h2
   | some x => simp [Mem.getP, hm, V.getP] at h2; subst h2; exact hI.top _ _ hm
 ·intro k1 q1 k2 q2 g e1 c1 es1 e2 c2 es2 hv1 hv2
  have cross : ∀ i k q q' e cap es e' cap' es', Mf.getP i q = some (.own e (some g) cap es) → some k ∉ ks → M.getP k q' = some (.own e' (some g) cap' es') → False := by
   intro i k q q' e cap es e' cap' es' h1 h2 h3
   rcases h.owns g ⟨i, q, e, cap, es, h1⟩ with h4 | h4
   ·exact notF _ _ _ _ _ _ h2 h3 h4
   ·have := (hI.nd _ _ _ h3).lt; omega
  rcases get _ _ _ hv1 with ⟨i, a1, a2⟩ | ⟨a1, a2⟩ <;> rcases get _ _ _ hv2 with ⟨j, b1, b2⟩ | ⟨b1, b2⟩
  ·obtain ⟨rfl, rfl⟩ := h.inv.inj _ _ _ _ _ _ _ _ _ _ _ a1 b1
   rcases a2 with ⟨rfl, a2⟩ | a2 <;> rcases b2 with ⟨b0, b2⟩ | b2
   ·rw [a2] at b2; cases b2; exact ⟨rfl, rfl⟩
   ·have := idx_lt b2; omega
   ·have := idx_lt a2; omega
   ·rw [a2] at b2; cases b2; exact ⟨rfl, rfl⟩
  ·exact (cross _ _ _ _ _ _ _ _ _ _ a1 b1 b2).elim
  ·exact (cross _ _ _ _ _ _ _ _ _ _ b1 a1 a2).elim
  ·exact hI.inj _ _ _ _ _ _ _ _ _ _ _ a2 b2
 ·obtain ⟨k, q, e, cap, es, _, h1⟩ := foot_owns hf
  exact ⟨k, q, e, cap, es, h1⟩
 ·obtain ⟨k, q, e, cap, es, hq⟩ := hg
  rcases get _ _ _ hq with ⟨i, h1, _⟩ | ⟨_, h2⟩
  ·rcases h.owns g ⟨i, q, e, cap, es, h1⟩ with h4 | h4
   ·obtain ⟨k', q', e', cap', es', _, h2⟩ := foot_owns h4
    exact .inl ⟨k', q', e', cap', es', h2⟩
   ·exact .inr h4
  ·exact .inl ⟨k, q, e, cap, es, h2⟩
theorem renArgs_get : ∀ (l : List V) (i j : Nat) (c : V), (renArgs i l)[j]? = some c → ∃ c0, l[j]? = some c0 ∧ c = c0.ren (i + j)
 | [], _, _, _, h => by simp [renArgs] at h
 | v :: vs, i, j, c, h => by
  cases j with
  | zero => simp [renArgs] at h; exact ⟨v, rfl, h.symm⟩
  | succ j =>
   simp [renArgs] at h
   obtain ⟨c0, h1, h2⟩ := renArgs_get vs (i + 1) j c h
   exact ⟨c0, by simpa using h1, by rw [h2]; congr 1; omega⟩
theorem renArgs_length : ∀ (l : List V) (i : Nat), (renArgs i l).length = l.length
 | [], _ => rfl
 | v :: vs, i => by simp [renArgs, renArgs_length vs]
theorem Rp.ren {c : V} {u : Value} (h : Rp imm w c u) (d : Nat) : Rp imm w (c.ren d) u := by
 cases c <;> first | exact h | exact h.msl_any | exact h.ptr_any
theorem Rp.ren100 {c : V} {u : Value} (h : Rp imm w c u) (d : Nat) : Rp imm w (c.ren100 d) u := by
 unfold V.ren100
 split
 ·exact h.msl_any
 ·exact h.ptr_any
 ·exact h
theorem callV_sound {Φ : Table} (hΦ : Sound P Φ) (c : Call) (fo : Operand) (ho : o.op = .call c) (hcal : c.callee = .value fo) {f : FuncId} {first cap : List V} (hf : evV t fo = .fn (.func f) first cap)
  {pre : Prop} {R : Post} (hop : callV Φ f (first ++ c.args.toList.map (evV t) ++ cap) o.dst M = some (pre, R)) (hG : Glob imm w) (hI : Inv (szT P) imm w M) (hi : ∀ g, imm g → g < w.heap.size) (ht : Tm imm w t a)
  {next : Act → World → Prop} {Q : Exit → Act → World → Prop} (hnx : ∀ v r m imm' w', R r m → Rp imm' w' r v → Step (szT P) imm w M imm' w' m → next (a.put o.dst v) w') : o.wp P a w next Q := by
 unfold callV at hop
 simp only at hop
 split at hop
 ·rename_i hc
  obtain ⟨hnd, hlen⟩ := hc
  rw [Option.map_eq_some_iff] at hop
  obtain ⟨R0, hR0, heq⟩ := hop
  cases heq
  obtain ⟨hFn, hgo⟩ := hΦ _ _ _ _ hR0
  have hfv := hf ▸ ht.eval fo
  generalize hfo : a.eval fo = fv at hfv
  cases hfv with
  | fn _ as bs ar br ha hb h1 h2 =>
  have hargs : (ar ++ c.args.map a.eval ++ br).size = (renArgs 0 (first ++ c.args.toList.map (evV t) ++ cap)).length := by
   simp [renArgs_length, ha, hb]
  have hrun : (execOp a.eval o).run P w = .ok (.enter f (ar ++ c.args.map a.eval ++ br)) w := by
   unfold goFn at hgo
   cases hfn : P.funcs[f]? with
   | none => simp [hfn] at hgo
   | some fn =>
    simp only [hfn, Bool.and_eq_true, bne_iff_ne, ne_eq, Option.isSome_iff_exists] at hgo
    obtain ⟨hname, body, hbody⟩ := hgo
    simp [execOp, ho, resolve, hcal, hfo, Deferred.ofValue, invoke, callFunc, program, Sem.run, hfn, hname, hbody, Result.andThen]
  have hrel : ∀ (j : Nat) c' u, (renArgs 0 (first ++ c.args.toList.map (evV t) ++ cap))[j]? = some c' → (ar ++ c.args.map a.eval ++ br)[j]? = some u → Rp imm w c' u := by
   intro j c' u hj hu
   obtain ⟨c0, k1, rfl⟩ := renArgs_get _ _ _ _ hj
   refine Rp.ren ?_ _
   rw [List.append_assoc] at k1
   rw [Array.append_assoc] at hu
   rw [List.getElem?_append] at k1
   rw [Array.getElem?_append] at hu
   rw [ha] at hu
   split at k1
   ·rename_i hlt
    rw [if_pos hlt] at hu
    exact h1 j c0 u k1 hu
   ·rename_i hlt
    rw [if_neg hlt] at hu
    rw [List.getElem?_append] at k1
    rw [Array.getElem?_append] at hu
    simp only [List.length_map, Array.length_toList, Array.size_map] at k1 hu
    split at k1
    ·rename_i hlt2
     rw [if_pos hlt2] at hu
     simp [Option.map_eq_some_iff] at k1 hu
     obtain ⟨x, x1, rfl⟩ := k1
     obtain ⟨y, y1, rfl⟩ := hu
     rw [x1] at y1; cases y1
     exact ht.eval x
    ·rename_i hlt2
     rw [if_neg hlt2] at hu
     exact h2 _ c0 u k1 hu
  have hcalls := hFn imm w _ hG (hI.foot hnd) hi hargs hrel
  unfold Oper.wp
  rw [hrun, Oper.upon_enter]
  refine hcalls.mono ?_
  rintro e w' ⟨v, r, mf, imm', rfl, hR, hv, hS⟩
  have hS' := Step.merge (d := o.dst) hI hi hnd (by simpa using hlen) hS
  cases hd : o.dst with
  | none =>
   have := hnx v r _ imm' w' ⟨r, mf, hR, by rw [hd]; trivial, rfl⟩ hv hS'
   rw [hd] at this; exact this
  | some d =>
   have := hnx v (r.ren100 d) _ imm' w' ⟨r, mf, hR, by rw [hd], rfl⟩ (hv.ren100 d) hS'
   rw [hd] at this; exact this
 ·cases hop
theorem opV_sound {Φ : Table} (hΦ : Sound P Φ) {pre : Prop} {R : Post} (h : opV Φ P o t M = some (pre, R)) (hp : pre) (hG : Glob imm w) (hI : Inv (szT P) imm w M) (hi : ∀ g, imm g → g < w.heap.size) (ht : Tm imm w t a)
  {next : Act → World → Prop} {Q : Exit → Act → World → Prop} (hnx : ∀ v r m imm' w', R r m → Rp imm' w' r v → Step (szT P) imm w M imm' w' m → next (a.put o.dst v) w') : o.wp P a w next Q := by
 unfold opV at h
 split at h
 ·rename_i x ho; cases h; exact (opOk_move x ho hI hi ht).wp hnx
 ·rename_i x ho
  unfold assignV at h
  split at h
  ·rename_i d s γ l cap hd hx
   split at h
   ·rename_i ob hs; cases h; exact (opOk_assign_key x ho hs (.inl ⟨γ, l, cap, hx, rfl⟩) hI hi ht).wp hnx
   ·cases h; exact (opOk_assign_undef x ho hI hi ht).wp hnx
  ·rename_i d s g k hd hx
   split at h
   ·rename_i ob hs; cases h; exact (opOk_assign_key x ho hs (.inr ⟨0, 0, g, k, hx, rfl⟩) hI hi ht).wp hnx
   ·cases h; exact (opOk_assign_undef x ho hI hi ht).wp hnx
  ·rename_i d hd hx; cases h; exact (opOk_assign_nil x ho hx hI hi ht).wp hnx
  ·cases h; exact (opOk_assign x ho hI hi ht).wp hnx
 ·rename_i c x y ho
  unfold pickV at h
  split at h
  ·rename_i b hc; cases h; exact (opOk_pick c x y ho hc hI hi ht).wp hnx
  ·cases h
 ·rename_i e ho
  unfold allocV at h
  split at h
  ·rename_i d z hd hz
   split at h
   ·rename_i hok
    simp only [Bool.and_eq_true] at hok
    cases h; exact (opOk_alloc e ho hz hok.1 hok.2 hI hi).wp hnx
   ·cases h
  ·cases h
 ·rename_i e x ho
  unfold boxV at h
  split at h
  ·rename_i d hd
   split at h
   ·rename_i hok
    simp only [Bool.and_eq_true] at hok
    cases h; exact (opOk_box e x ho hok.1 hok.2 hI hi ht).wp hnx
   ·cases h
  ·cases h
 ·rename_i ty parts ho
  unfold buildV at h
  split at h
  ·rename_i z pl hz hpl
   rw [Option.map_eq_some_iff] at h
   obtain ⟨cs, hf, heq⟩ := h
   cases heq
   exact (opOk_build ty parts ho hz hpl hf hI hi ht).wp hnx
  ·cases h
 ·rename_i ty n parts ho
  unfold buildSliceV at h
  split at h
  ·rename_i d e hd he
   split at h
   ·rename_i z hz
    split at h
    ·rename_i hok
     simp only [Bool.and_eq_true, decide_eq_true_eq, Bool.or_eq_true] at hok
     obtain ⟨⟨⟨⟨⟨⟨⟨h1, h2⟩, h3⟩, h4⟩, h5⟩, h6⟩, h7⟩, h8⟩ := hok
     cases h
     exact (opOk_buildSlice ty n parts ho he hz h1 (by rw [List.map_map] at h2; exact h2) (by rw [List.all_map] at h3; simpa [Function.comp_def] using h3) h4 h5 h6 h8 h7 hI hi ht).wp hnx
    ·cases h
   ·cases h
  ·cases h
 ·rename_i ty x ho
  unfold loadV at h
  split at h
  ·rename_i s q i j g k ag hx hb
   split at h
   ·rename_i e g' cap es hn
    split at h
    ·rename_i y hy
     split at h
     ·rename_i hag
      subst hag
      split at h
      ·rename_i hall
       cases h
       obtain ⟨rfl, hk, hle⟩ := hp
       exact (opOk_load_ptr ty x ho hx hb hn hk hy (.inl ⟨rfl, hle, by simpa using hall, rfl⟩) hI hi ht).wp hnx
      ·cases h
     ·rename_i hag
      have hagf : ag = false := by simpa using hag
      subst hagf
      split at h
      ·rename_i e' γ cap' es' hc
       cases h
       obtain ⟨rfl, hk⟩ := hp
       exact (opOk_load_ptr ty x ho hx hb hn hk hy (.inr ⟨rfl, _, hc, .inr ⟨_, _, _, _, rfl, rfl⟩⟩) hI hi ht).wp hnx
      ·rename_i c hno hc
       cases h
       obtain ⟨rfl, hk⟩ := hp
       exact (opOk_load_ptr ty x ho hx hb hn hk hy (.inr ⟨rfl, _, hc, .inl ⟨by cases c <;> first | rfl | exact absurd rfl (hno _ _ _ _), rfl⟩⟩) hI hi ht).wp hnx
      ·cases h
    ·cases h
   ·cases h
  ·rename_i cs ag hx hb
   split at h
   ·rename_i hag
    subst hag
    cases h
    exact (opOk_load_eptr ty x ho hx hb (.inl ⟨rfl, hp, rfl⟩) hI hi ht).wp hnx
   ·rename_i hag
    have hagf : ag = false := by simpa using hag
    subst hagf
    split at h
    ·rename_i c hc
     cases h
     exact (opOk_load_eptr ty x ho hx hb (.inr ⟨rfl, hc⟩) hI hi ht).wp hnx
    ·cases h
  ·cases h
 ·rename_i ty x y ho
  unfold storeV at h
  split at h
  ·rename_i s q i j g k hx
   split at h
   ·rename_i e g' cap es hn
    split at h
    ·rename_i M' hM'
     cases h
     obtain ⟨rfl, hk, hl, hall, hpos, hd⟩ := hp
     exact (opOk_store ty x y ho hx hn hk hM' hl hall hpos hd hI hi ht).wp hnx
    ·cases h
   ·cases h
  ·cases h
 ·rename_i x ho
  unfold nilCheckV at h
  split at h
  ·rename_i s q i j g k hx; cases h; exact (opOk_nilCheck_ptr x ho hx hI hi ht).wp hnx
  ·rename_i cs hx; cases h; exact (opOk_nilCheck_eptr x ho hx hI hi ht).wp hnx
  ·cases h
 ·rename_i s x f ho
  unfold fieldAddrV at h
  split at h
  ·rename_i o' q i j g k off ft hx hf; cases h; exact (opOk_fieldAddr s x f ho hf hI hi ht (.inl ⟨_, _, _, _, _, _, hx, rfl⟩)).wp hnx
  ·rename_i cs off ft hx hf; cases h; exact (opOk_fieldAddr s x f ho hf hI hi ht (.inr ⟨_, hx, rfl⟩)).wp hnx
  ·cases h
 ·rename_i s x f ho
  unfold fieldV at h
  split at h
  ·rename_i cs off ft hx hf
   split at h
   ·rename_i hb; cases h; exact (opOk_field s x f ho hf hI hi ht hx hb (.inl ⟨rfl, hp, rfl⟩)).wp hnx
   ·rename_i hb
    split at h
    ·rename_i c hc; cases h; exact (opOk_field s x f ho hf hI hi ht hx hb (.inr ⟨rfl, hc⟩)).wp hnx
    ·cases h
   ·cases h
  ·cases h
 ·rename_i ty x ix ho
  unfold indexAddrV at h
  split at h
  ·rename_i k n hn
   split at h
   ·rename_i es e _ hx he; cases h; obtain ⟨h0, h1, h2, h3⟩ := hp; exact (opOk_index_sl ty x ix ho hn hx he h0 h1 h2 h3 hI hi ht).wp hnx
   ·rename_i s q g l cap e _ hx he; cases h; obtain ⟨h0, h1, h2⟩ := hp; exact (opOk_index_msl ty x ix ho hn hx he h0 h1 h2 hI hi ht).wp hnx
   ·rename_i s q i j g kk _ len e hx he; cases h; obtain ⟨h0, h1, h2⟩ := hp; exact (opOk_index_arr ty x ix ho hn he h0 h1 h2 hI hi ht (.inl ⟨_, _, _, _, _, _, hx, rfl⟩)).wp hnx
   ·rename_i cs _ len e hx he; cases h; obtain ⟨h0, h1, h2⟩ := hp; exact (opOk_index_arr ty x ix ho hn he h0 h1 h2 hI hi ht (.inr ⟨_, hx, rfl⟩)).wp hnx
   ·cases h
  ·cases h
 ·rename_i ty x ix ho
  unfold indexV at h
  split at h
  ·rename_i s k n _ hx hn he; cases h; exact (opOk_index_str ty x ix ho hn hx he hp.1 hp.2 hI hi ht).wp hnx
  ·rename_i cs k n _ len e hx hn he
   cases hb : aggT P e with
   | none => rw [hb] at h; cases h
   | some b =>
    rw [hb] at h
    cases b
    ·cases h
     obtain ⟨h0, h1, h2, h3⟩ := hp
     exact (opOk_index_agg ty x ix ho hn hx he h0 h1 h3 hb hI hi ht (.inr ⟨rfl, by simp [List.getElem?_eq_getElem h2]⟩)).wp hnx
    ·cases h
     obtain ⟨h0, h1, h2, h3⟩ := hp
     exact (opOk_index_agg ty x ix ho hn hx he h0 h1 h3 hb hI hi ht (.inl ⟨rfl, h2, rfl⟩)).wp hnx
  ·cases h
 ·rename_i ty x lo hi' ho
  unfold sliceV at h
  split at h
  ·rename_i es hx
   split at h
   ·rename_i k1 l k2 hh e hlo hhi he; cases h; obtain ⟨h0, h1, h2, h3, h4⟩ := hp; exact (opOk_slice_sl ty x lo hi' ho hx hlo hhi he h0 h1 h2 h3 h4 hI hi ht).wp hnx
   ·cases h
  ·cases h
 ·rename_i ty len cap ho
  unfold makeSliceV at h
  split at h
  ·rename_i d e k n k' c hd he hn hc
   split at h
   ·rename_i z hz
    split at h
    ·rename_i hok
     simp only [Bool.and_eq_true] at hok
     cases h; obtain ⟨h0, h1, h2, h3, h4⟩ := hp
     exact (opOk_makeSlice ty len cap ho he hz hn hc hok.1 hok.2 h0 h1 h2 h3 h4 hI hi ht).wp hnx
    ·cases h
   ·cases h
  ·cases h
 ·rename_i f first cap ho; cases h; exact (opOk_makeFunc f first cap ho hI hi ht).wp hnx
 ·rename_i x i ho
  unfold extractV at h
  split at h
  ·rename_i vs hx
   split at h
   ·rename_i v hv; cases h; exact (opOk_extract x i ho hx hv hI hi ht).wp hnx
   ·cases h
  ·cases h
 ·rename_i op ty x y ty2 ho
  unfold detO at h
  split at h
  rotate_left
  ·cases h
  rename_i v hv
  cases h
  exact (opOk_binE op ty ty2 x y ho hv hI hi ht).wp hnx
 ·rename_i op ty x ho
  unfold detO at h
  split at h
  rotate_left
  ·cases h
  rename_i v hv
  cases h
  exact (opOk_unOp op ty x ho hv hI hi ht).wp hnx
 ·rename_i s d x ho
  unfold convertV at h
  split at h
  ·rename_i k n k' k2 hx hd hs; cases h; exact (opOk_convert s d x ho hx hd hs hI hi ht).wp hnx
  ·cases h
 ·rename_i c ho
  unfold callBV at h
  split at h
  ·rename_i hcal
   split at h
   ·rename_i x ty ha hty
    unfold lenOpV at h
    split at h
    ·rename_i s hx hs; cases h; exact (opOk_len c ty x ho hcal ha hty (.inl ⟨s, hx, hs, rfl⟩) hI hi ht).wp hnx
    ·cases h
    ·rename_i e he hno1 hno2
     rw [Option.map_eq_some_iff] at h
     obtain ⟨n, hn, heq⟩ := h
     cases heq
     refine (opOk_len c ty x ho hcal ha hty (.inr ⟨_, he, fun s hs => ?_, hn⟩) hI hi ht).wp hnx
     cases hst : strT P ty with
     | true => exact hno1 s hs hst
     | false => exact hno2 s hs hst
    ·cases h
   ·cases h
  ·rename_i hcal
   split at h
   ·rename_i s x ty tx ha hty
    unfold appendV at h
    split at h
    ·rename_i d e hd he
     split at h
     ·rename_i hok
      obtain ⟨rfl, hpos, hz⟩ := hok
      split at h
      ·rename_i c1 es M1 h1
       split at h
       ·rename_i c2 ys M2 h2
        cases h
        obtain ⟨k1, k2, k3, k4, k5⟩ := hp
        exact (opOk_append c s x ty e ho hcal ha hty he hpos hz h1 h2 k1 k2 k3 k4 k5 hI hi ht).wp hnx
       ·cases h
      ·cases h
     ·cases h
    ·cases h
   ·cases h
  ·rename_i fo hcal
   unfold callOpV at h
   split at h
   ·rename_i f first cap hf
    exact callV_sound hΦ c fo ho hcal hf h hG hI hi ht hnx
   ·cases h
  ·rename_i hcal
   split at h
   ·rename_i x y ha
    unfold detO at h
    split at h
    ·rename_i v hv; cases h; exact (opOk_max c true x y ho hcal ha hv hI hi ht).wp hnx
    ·cases h
   ·cases h
  ·rename_i hcal
   split at h
   ·rename_i x y ha
    unfold detO at h
    split at h
    ·rename_i v hv; cases h; exact (opOk_max c false x y ho hcal ha hv hI hi ht).wp hnx
    ·cases h
   ·cases h
  ·cases h
 ·cases h
end
end Go.Proofs.YtkdolbffabmemaaGreatDoor
