/-
 The machine of values: code, functions.
-/
import Derived.Test.YtkdolbffabmemaaGreatDoorLvk
import Derived.Deep.LoopGhost
namespace Go.Proofs.YtkdolbffabmemaaGreatDoor
open Go.RowKit
set_option linter.unusedSimpArgs false
set_option linter.unusedVariables false
structure St where
 t : Nat → V
 M : Mem
def upd (t : Nat → V) (d : Nat) (v : V) : Nat → V := fun i => if i = d then v else t i
def putT (t : Nat → V) (d : Option Nat) (v : V) : Nat → V := match d with | some d => upd t d v | none => t
inductive Lk {α : Type} (a : α) : Type where
 | mk
def runV (x : Option (Prop × Post)) (k : V → Mem → Prop) (u : Lk k) : Prop := ∃ pre R, x = some (pre, R) ∧ pre ∧ ∀ r m, R r m → k r m
def runOp (P : Program) (o : Oper) (t : Nat → V) (M : Mem) (K : (Nat → V) → Mem → Prop) : Prop :=
 ∃ Φ, Sound P Φ ∧ runV (opV Φ P o t M) (fun r m => K (putT t o.dst r) m) .mk
def gd : List (Option Nat) → Nat → Nat
 | some d :: _, 0 => d
 | _ :: ds, n + 1 => gd ds n
 | _, _ => 0
def wpS (v : V) (t : Nat → V) (d : Nat) (want : Bool) (A B : (Nat → V) → Prop) (u : Lk (t, A, B)) : Prop :=
 match v with
 | .bool b => if b = want then A (upd t d (.bool b)) else B (upd t d (.bool b))
 | .tuple [] => B t
 | _ => False
def wpOp (P : Program) (ds : List (Option Nat)) (o : Oper) (t : Nat → V) (M : Mem) (K : (Nat → V) → Mem → Prop) : Prop :=
 match o.guard with
 | none => runOp P o t M K
 | some (j, want) => wpS (t (gd ds j)) t (gd ds j) want (fun t => runOp P o t M K) (fun t => K (putT t o.dst (.tuple [])) M) .mk
def wpL (P : Program) (ds : List (Option Nat)) : List Oper → (Nat → V) → Mem → ((Nat → V) → Mem → Prop) → Prop
 | [], t, M, K => K t M
 | o :: l, t, M, K => wpOp P ds o t M fun t M => wpL P ds l t M K
structure Rel (P : Program) (N : Nat) (imm0 : Nat → Prop) (w0 : World) (M0 : Mem) (imm : Nat → Prop) (t : Nat → V) (M : Mem) (a : Act) (w : World) : Prop where
 size : a.tmps.size = N
 defers : a.defers = []
 tm : Tm imm w t a
 step : Step (szT P) imm0 w0 M0 imm w M
 glob : Glob imm w
section
variable {P : Program} {N : Nat} {imm imm' imm0 : Nat → Prop} {w w' w0 : World} {M M0 M' : Mem} {t : Nat → V} {a : Act} {o : Oper} {ops : Array Oper}
theorem Tm.put (h : Tm imm w t a) {d : Option Nat} {r : V} {v : Value} (hd : ∀ i, d = some i → i < a.tmps.size) (hr : Rp imm w r v) : Tm imm w (putT t d r) (a.put d v) := by
 intro i
 cases d with
 | none => exact h i
 | some d =>
  simp only [putT, upd, Act.put]
  by_cases hi : i = d
  ·subst hi
   have := hd i rfl
   simp [Array.getD_eq_getD_getElem?, this, hr]
  ·rw [if_neg hi]
   have := h i
   simp only [Array.getD_eq_getD_getElem?] at this ⊢
   rw [Array.getElem?_setIfInBounds_ne (fun e => hi e.symm)]
   exact this
theorem put_size (a : Act) (d : Option Nat) (v : Value) : (a.put d v).tmps.size = a.tmps.size := by
 cases d <;> simp [Act.put]
theorem put_defers (a : Act) (d : Option Nat) (v : Value) : (a.put d v).defers = a.defers := by
 cases d <;> simp [Act.put]
theorem Rel.put (h : Rel P N imm0 w0 M0 imm t M a w) {d : Option Nat} {r : V} {v : Value} {m : Mem} (hd : ∀ i, d = some i → i < N) (hr : Rp imm' w' r v) (hS : Step (szT P) imm w M imm' w' m) :
  Rel P N imm0 w0 M0 imm' (putT t d r) m (a.put d v) w' :=
 ⟨by rw [put_size, h.size], by rw [put_defers, h.defers], (h.tm.ev (hS.ev h.step.inv h.step.lt)).put (by rw [h.size]; exact hd) hr, h.step.trans hS, h.glob.ev (hS.ev h.step.inv h.step.lt)⟩
def Less (t' t : Nat → V) (M' M : Mem) : Prop := (∀ i, t' i = .undef ∨ t' i = t i) ∧ ∀ k v, M' k = some v → M k = some v
theorem Rel.less (h : Rel P N imm0 w0 M0 imm t M a w) {t' : Nat → V} (hl : Less t' t M' M) : Rel P N imm0 w0 M0 imm t' M' a w :=
 ⟨h.size, h.defers, fun i => by
  rcases hl.1 i with e | e
  ·rw [e]; exact .undef _
  ·rw [e]; exact h.tm i, h.step.mem (h.step.inv.sub hl.2) (fun g hg => h.step.owns g (owns_sub hl.2 hg)), h.glob⟩
def dstOk (N : Nat) (ops : Array Oper) : Bool := ops.all fun o => (match o.dst with | some d => decide (d < N) | none => true) && (match o.guard with | some (j, _) => ((ops[j]?).bind (·.dst)).isSome | none => true)
theorem gd_get : ∀ {ds : List (Option Nat)} {j d : Nat}, ds[j]? = some (some d) → gd ds j = d
 | [], _, _, h => by simp at h
 | x :: ds, 0, d, h => by simp at h; subst h; rfl
 | x :: ds, j + 1, d, h => by simp at h; simpa [gd] using gd_get h
theorem upd_self (t : Nat → V) (d : Nat) : upd t d (t d) = t := by funext i; simp only [upd]; split <;> simp_all
abbrev Kont := Exit → (Nat → V) → Mem → Prop
def Sat (P : Program) (N : Nat) (c : Code) (t : Nat → V) (M : Mem) (K : Kont) : Prop :=
 ∀ (imm0 : Nat → Prop) (w0 : World) (M0 : Mem) (imm : Nat → Prop) (a : Act) (w : World), Rel P N imm0 w0 M0 imm t M a w →
  c.wp P (fun e a' w' => ∃ t' M' imm', Rel P N imm0 w0 M0 imm' t' M' a' w' ∧ K e t' M') a w
theorem yielded_bool {d j : Nat} {b : Bool} (hj : (ops[j]?).bind (·.dst) = some d) (h : Tm imm w t a) (hb : t d = .bool b) : yielded ops a.tmps j = some b := by
 have := h d
 rw [hb] at this
 have hv := this.bool_inv
 rw [Array.getD_eq_getD_getElem?] at hv
 unfold yielded
 rw [hj]
 simp only [Option.bind_some]
 cases he : a.tmps[d]? with
 | none => rw [he] at hv; cases hv
 | some v => rw [he] at hv; simp at hv; rw [hv]
theorem yielded_undef {d j : Nat} (hj : (ops[j]?).bind (·.dst) = some d) (h : Tm imm w t a) (hb : t d = .tuple []) : yielded ops a.tmps j = none := by
 have := h d
 rw [hb] at this
 obtain ⟨arr, hv, hl, _⟩ := this.tuple_inv
 rw [Array.getD_eq_getD_getElem?] at hv
 unfold yielded
 rw [hj]
 simp only [Option.bind_some]
 cases he : a.tmps[d]? with
 | none => rfl
 | some v => rw [he] at hv; simp at hv; rw [hv]
theorem wpOp_sound {K : (Nat → V) → Mem → Prop} (h : wpOp P (ops.toList.map (·.dst)) o t M K) (hd : ∀ i, o.dst = some i → i < N) (hg' : ∀ j b, o.guard = some (j, b) → ∃ d, (ops[j]?).bind (·.dst) = some d) (hr : Rel P N imm0 w0 M0 imm t M a w) {next : Act → World → Prop} {Q : Exit → Act → World → Prop}
  (hn : ∀ imm' t' M' a' w', Rel P N imm0 w0 M0 imm' t' M' a' w' → K t' M' → next a' w') :
  if Region.wanted o (yielded ops a.tmps) then o.wp P a w next Q else next (a.put o.dst undef) w := by
 have run : runOp P o t M K → o.wp P a w next Q := by
  rintro ⟨Φ, hΦ, pre, R, h1, h2, h3⟩
  exact opV_sound hΦ h1 h2 hr.glob hr.step.inv hr.step.lt hr.tm (fun v r m imm' w' k1 k2 k3 => hn _ _ _ _ _ (hr.put hd k2 k3) (h3 r m k1))
 have skip : K (putT t o.dst (.tuple [])) M → next (a.put o.dst undef) w := fun h =>
  hn _ _ _ _ _ (hr.put hd (.tuple [] #[] rfl (by simp)) (Step.refl hr.step.inv hr.step.lt)) h
 unfold wpOp at h
 cases hg : o.guard with
 | none =>
  simp only [hg] at h
  rw [if_pos (by simp [Region.wanted, hg])]
  exact run h
 | some jw =>
  obtain ⟨j, want⟩ := jw
  simp only [hg] at h
  obtain ⟨d, hj⟩ := hg' j want hg
  have hgd : gd (ops.toList.map (·.dst)) j = d := by
   apply gd_get
   rw [List.getElem?_map, Array.getElem?_toList]
   cases ho : ops[j]? with
   | none => simp [ho] at hj
   | some o' => simp [ho] at hj; simp [hj]
  rw [hgd] at h
  unfold wpS at h
  split at h
  ·rename_i b hb
   rw [← hb, upd_self] at h
   have hy := yielded_bool (ops := ops) hj hr.tm hb
   split at h
   ·rename_i hbw
    rw [if_pos (by simp [Region.wanted, hg, hy, hbw])]
    exact run h
   ·rename_i hbw
    rw [if_neg (by simp [Region.wanted, hg, hy, hbw])]
    exact skip h
  ·rename_i hb
   have hy := yielded_undef (ops := ops) hj hr.tm hb
   rw [if_neg (by simp [Region.wanted, hg, hy])]
   exact skip h
  ·exact h.elim
theorem wpL_sound {Q : Exit → Act → World → Prop} {K : (Nat → V) → Mem → Prop} : ∀ (l : List Oper) (t : Nat → V) (M : Mem) (imm : Nat → Prop) (a : Act) (w : World), (∀ o ∈ l, (∀ i, o.dst = some i → i < N) ∧ ∀ j b, o.guard = some (j, b) → ∃ d, (ops[j]?).bind (·.dst) = some d) → wpL P (ops.toList.map (·.dst)) l t M K →
  Rel P N imm0 w0 M0 imm t M a w → (∀ imm' t' M' a' w', Rel P N imm0 w0 M0 imm' t' M' a' w' → K t' M' → Q .normal a' w') → wpList P ops Q l a w
 | [], t, M, imm, a, w, _, h, hr, hn => hn _ _ _ _ _ hr h
 | o :: l, t, M, imm, a, w, hd, h, hr, hn => by
  have := wpOp_sound (Q := Q) h (hd o (by simp)).1 (hd o (by simp)).2 hr (next := fun a w => wpList P ops Q l a w) (fun imm' t' M' a' w' hr' h' => wpL_sound l t' M' imm' a' w' (fun o ho => hd o (by simp [ho])) h' hr' hn)
  unfold wpList
  split
  ·rename_i hw
   rw [if_pos hw] at this
   exact .inl this
  ·rename_i hw
   rw [if_neg hw] at this
   exact this
theorem Sat.region {id : Nat} {ops : Array Oper} {K : Kont} (hd : dstOk N ops = true) (h : wpL P (ops.toList.map (·.dst)) ops.toList t M (K .normal)) : Sat P N (.region id ops false) t M K := by
 intro imm0 w0 M0 imm a w hr
 refine wp_region_list (wpL_sound ops.toList t M imm a w (fun o ho => ?_) h hr (fun imm' t' M' a' w' hr' hk => ⟨t', M', imm', hr', hk⟩))
 have := Array.all_eq_true'.1 hd o (by simpa using ho)
 rw [Bool.and_eq_true] at this
 refine ⟨fun i hi => ?_, fun j b hj => ?_⟩
 ·have h1 := this.1; rw [hi] at h1; simpa using h1
 ·have h1 := this.2; rw [hj] at h1; exact Option.isSome_iff_exists.1 h1
theorem Sat.mono {c : Code} {K K' : Kont} (h : Sat P N c t M K) (hk : ∀ e t M, K e t M → K' e t M) : Sat P N c t M K' := by
 intro imm0 w0 M0 imm a w hr
 exact Code.wp_mono (fun e a w ⟨t', M', imm', h1, h2⟩ => ⟨t', M', imm', h1, hk _ _ _ h2⟩) (h _ _ _ _ _ _ hr)
theorem Sat.less {c : Code} {K : Kont} {t' : Nat → V} (h : Sat P N c t' M' K) (hl : Less t' t M' M) : Sat P N c t M K := fun imm0 w0 M0 imm a w hr => h _ _ _ _ _ _ (hr.less hl)
def Kont.then (next : (Nat → V) → Mem → Prop) (K : Kont) : Kont
 | .normal, t, M => next t M
 | e, t, M => K e t M
theorem Sat.seq {x y : Code} {K : Kont} (h : ∀ K' : (Nat → V) → Mem → Prop, (∀ t M, Sat P N y t M K → K' t M) → Sat P N x t M (Kont.then K' K)) : Sat P N (.seq x y) t M K := by
 intro imm0 w0 M0 imm a w hr
 refine wp_seq (Code.wp_mono ?_ (h (fun t M => Sat P N y t M K) (fun _ _ h => h) _ _ _ _ _ _ hr))
 rintro e a' w' ⟨t', M', imm', h1, h2⟩
 cases e with
 | normal => exact h2 _ _ _ _ _ _ h1
 | _ => exact ⟨t', M', imm', h1, h2⟩
theorem Sat.skip {K : Kont} (h : K .normal t M) : Sat P N .skip t M K := fun imm0 w0 M0 imm a w hr => wp_skip ⟨t, M, imm, hr, h⟩
theorem Sat.exit {id : Nat} {K : Kont} (h : K (.exit id) t M) : Sat P N (.exit id) t M K := fun imm0 w0 M0 imm a w hr => wp_exit ⟨t, M, imm, hr, h⟩
theorem Sat.ret {K : Kont} (h : K .ret t M) : Sat P N .ret t M K := fun imm0 w0 M0 imm a w hr => wp_ret ⟨t, M, imm, hr, h⟩
theorem Sat.label {l : Nat} {K : Kont} (h : K .normal t M) : Sat P N (.label l) t M K := fun imm0 w0 M0 imm a w hr => wp_label ⟨t, M, imm, hr, h⟩
theorem Sat.cond {c : Operand} {x y : Code} {K : Kont} (b : Bool) (hb : evV t c = .bool b) (ht : b = true → Sat P N x t M K) (hf : b = false → Sat P N y t M K) : Sat P N (.cond c x y) t M K := by
 intro imm0 w0 M0 imm a w hr
 have hv := (hb ▸ hr.tm.eval c : Rp imm w (.bool b) _).bool_inv
 exact wp_cond_split hv (fun h => ht h _ _ _ _ _ _ hr) (fun h => hf h _ _ _ _ _ _ hr)
def Kont.inBlock (id : Nat) (K : Kont) : Kont
 | .exit id', t, M => if id' = id then K .normal t M else K (.exit id') t M
 | e, t, M => K e t M
theorem Sat.block {id : Nat} {c : Code} {K : Kont} (h : Sat P N c t M (Kont.inBlock id K)) : Sat P N (.block id c) t M K := by
 intro imm0 w0 M0 imm a w hr
 refine wp_block (Code.wp_mono ?_ (h _ _ _ _ _ _ hr))
 rintro e a' w' ⟨t', M', imm', h1, h2⟩
 cases e with
 | exit id' =>
  simp only [Kont.inBlock] at h2
  simp only [Exit.inBlock]
  split at h2
  ·rename_i hid; rw [if_pos hid]; exact ⟨t', M', imm', h1, h2⟩
  ·rename_i hid; rw [if_neg hid]; exact ⟨t', M', imm', h1, h2⟩
 | _ => exact ⟨t', M', imm', h1, h2⟩
theorem Sat.loop {σ : Type} {c : Code} {K : Kont} (T : σ → Nat → V) (Mm : σ → Mem) (I : σ → Prop) (μ : σ → Nat) (x0 : σ) (h0 : I x0) (hl : Less (T x0) t (Mm x0) M)
  (round : ∀ x, I x → ∀ J : (Nat → V) → Mem → Prop, (∀ x' t' M', I x' → μ x' < μ x → Less (T x') t' (Mm x') M' → J t' M') → Sat P N c (T x) (Mm x) (Kont.then J K)) : Sat P N (.loop c) t M K := by
 intro imm0 w0 M0 imm a w hr
 refine wp_loop_ghost (fun n a w => ∃ x imm, μ x = n ∧ I x ∧ Rel P N imm0 w0 M0 imm (T x) (Mm x) a w) (μ x0) ⟨x0, imm, rfl, h0, hr.less hl⟩ ?_
 rintro n a w ⟨x, imm, rfl, hI, hr⟩
 refine Code.wp_mono ?_ (round x hI (fun t' M' => ∃ x', I x' ∧ μ x' < μ x ∧ Less (T x') t' (Mm x') M') (fun x' t' M' h1 h2 h3 => ⟨x', h1, h2, h3⟩) _ _ _ _ _ _ hr)
 rintro e a' w' ⟨t', M', imm', h1, h2⟩
 cases e with
 | normal =>
  obtain ⟨x', k1, k2, k3⟩ := h2
  exact ⟨μ x', k2, x', imm', rfl, k1, h1.less k3⟩
 | _ => exact ⟨t', M', imm', h1, h2⟩
def frT (o : Nat) (γ : Option Nat) (cap : Nat) (es : List V) (t : Nat → V) : Nat → V := fun i =>
 match t i with
 | .msl o' [] γ' l c => if o' = o ∧ γ' = γ ∧ l = es.length ∧ c = cap then .sl (es.map V.fz) else .msl o' [] γ' l c
 | v => v
theorem Rel.freeze (h : Rel P N imm0 w0 M0 imm t M a w) {o : Nat} {e : TypeId} {γ : Option Nat} {cap : Nat} {es : List V} (ho : M o = some (.own e γ cap es)) :
  ∃ imm', Rel P N imm0 w0 M0 imm' (frT o γ cap es t) (M.era o) a w := by
 obtain ⟨h1, h2, h3⟩ := h.step.inv.freeze ho
 have hlt : ∀ g, (imm g ∨ (V.own e γ cap es).blocks g) → g < w.heap.size := fun g hg => hg.elim (h.step.lt g) (fun hb => (h3 g hb).1)
 refine ⟨fun g => imm g ∨ (V.own e γ cap es).blocks g, h.size, h.defers, fun i => ?_, ?_, h.glob.ev fun g hg => ⟨.inl hg, rfl⟩⟩
 ·have hi := (h.tm i).ev (imm' := fun g => imm g ∨ (V.own e γ cap es).blocks g) (w' := w) (fun g hg => ⟨.inl hg, rfl⟩)
  unfold frT
  split
  ·rename_i o' γ' l c heq
   rw [heq] at hi
   split
   ·rename_i hc
    obtain ⟨rfl, rfl, rfl, rfl⟩ := hc
    have := hi.msl_inv
    rw [this]; exact h2
   ·exact hi
  ·exact hi
 ·refine h.step.trans ⟨h1, hlt, Nat.le_refl _, rfl, rfl, rfl, fun g hg hno => ⟨rfl, ?_⟩, fun g hg => .inl (owns_sub era_sub hg)⟩
  exact ⟨fun hh => hh.resolve_right (fun hb => hno (h3 g hb).2), .inl⟩
theorem Rel.freezeC (h : Rel P N imm0 w0 M0 imm t M a w) {o : Nat} {q : Path} {i j : Nat} {n0 c : V} (hn : M.getP o q = some n0) (hc : n0.cellAt i j = some c) (ho : c.isOwn = true) :
  ∃ imm', Rel P N imm0 w0 M0 imm' t (M.setP o q i j c.fz) a w := by
 obtain ⟨h1, h3⟩ := h.step.inv.freezeC hn hc ho
 have hlt : ∀ g, (imm g ∨ c.blocks g) → g < w.heap.size := fun g hg => hg.elim (h.step.lt g) (fun hb => (h3 g hb).1)
 refine ⟨fun g => imm g ∨ c.blocks g, h.size, h.defers, h.tm.ev (fun g hg => ⟨.inl hg, rfl⟩), ?_, h.glob.ev fun g hg => ⟨.inl hg, rfl⟩⟩
 refine h.step.trans ⟨h1, hlt, Nat.le_refl _, rfl, rfl, rfl, fun g hg hno => ⟨rfl, ?_⟩, fun g hg => ?_⟩
 ·exact ⟨fun hh => hh.resolve_right (fun hb => hno (h3 g hb).2), .inl⟩
 ·exact .inl (owns_setP (fz_one ho) hn hc (fun _ _ _ h => h) (fun r e g cap es hr => absurd rfl ((getP_plain (sz := szT P) (fz_isOwn c) r _ hr).2 _ _ _ _)) hg)
theorem Sat.freeze {c : Code} {K : Kont} (o : Nat) {e : TypeId} {γ : Option Nat} {cap : Nat} {es : List V} (ho : M o = some (.own e γ cap es)) (h : Sat P N c (frT o γ cap es t) (M.era o) K) : Sat P N c t M K := by
 intro imm0 w0 M0 imm a w hr
 obtain ⟨imm', hr'⟩ := hr.freeze ho
 exact h _ _ _ _ _ _ hr'
theorem Sat.freezeC {c : Code} {K : Kont} (o : Nat) (q : Path) (i j : Nat) {n0 d : V} (hn : M.getP o q = some n0) (hc : n0.cellAt i j = some d) (ho : d.isOwn = true) (h : Sat P N c t (M.setP o q i j d.fz) K) : Sat P N c t M K := by
 intro imm0 w0 M0 imm a w hr
 obtain ⟨imm', hr'⟩ := hr.freezeC hn hc ho
 exact h _ _ _ _ _ _ hr'
def resV (P : Program) (t : Nat → V) (M : Mem) : ResultVar → Option (Prop × V)
  | .tmp i => some (True, t i)
  | .cell i ty =>
    match t i, aggT P ty with
    | .ptr s q i j g k, some ag =>
      match M.getP s q with
      | some (.own e (some g') cap es) =>
        match es[i]? with
        | some x => if ag then
              (if (x.cells.drop j).take (szT P ty) |>.all fun c => !c.isOwn then some (g' = g ∧ k = szT P e ∧ j + szT P ty ≤ x.cells.length, .agg ((x.cells.drop j).take (szT P ty))) else none)
            else match x.cells[j]? with
              | some (.own _ γ cap' es') => some (g' = g ∧ k = szT P e, .msl s (q ++ [(i, j)]) γ es'.length cap')
              | some c => some (g' = g ∧ k = szT P e, c)
              | none => none
        | none => none
      | _ => none
    | _, _ => none
theorem resV_sound {rv : ResultVar} {pre : Prop} {r : V} (h : resV P t M rv = some (pre, r)) (hp : pre) (hr : Rel P N imm0 w0 M0 imm t M a w) :
  ∃ v, (match rv with | .tmp t => pure (a.tmps.getD t undef) | .cell p ty => do loadVar ty (← asAddr (a.tmps.getD p undef)) : Sem Value).run P w = .ok v w ∧ Rp imm w r v := by
 cases rv with
 | tmp i => simp [resV] at h; obtain ⟨_, rfl⟩ := h; exact ⟨_, rfl, hr.tm i⟩
 | cell p ty =>
  simp only [resV] at h
  split at h
  ·rename_i s q i j g k ag hx hb
   have hv := (hx ▸ hr.tm p : Rp imm w (.ptr s q i j g k) _).ptr_inv
   have conv : ∀ v, (Instr.loadAt ty (.pointer (some ⟨g, i * k + j, none⟩))).run P w = .ok v w → (do loadVar ty (← asAddr (a.tmps.getD p undef)) : Sem Value).run P w = .ok v w := by
    intro v h1
    rw [hv]
    simp only [Instr.loadAt, Instr.sureAddr, asAddr, Sem.run_bind, Sem.run_pure, Result.andThen_ok] at h1 ⊢
    exact h1
   split at h
   ·rename_i e g' cap es hn
    split at h
    ·rename_i y hy
     split at h
     ·rename_i hag
      subst hag
      split at h
      ·rename_i hall
       cases h
       obtain ⟨rfl, hk, hle⟩ := hp
       obtain ⟨v, h1, h2⟩ := loadPtr_run (P := P) (imm := imm) (w := w) (M := M) ty hb hn hk hy (.inl ⟨rfl, hle, by simpa using hall, rfl⟩) hr.step.inv
       exact ⟨v, conv v h1, h2⟩
      ·cases h
     ·rename_i hag
      have hagf : ag = false := by simpa using hag
      subst hagf
      split at h
      ·rename_i e' γ cap' es' hc
       cases h
       obtain ⟨rfl, hk⟩ := hp
       obtain ⟨v, h1, h2⟩ := loadPtr_run (P := P) (imm := imm) (w := w) (M := M) ty hb hn hk hy (.inr ⟨rfl, _, hc, .inr ⟨_, _, _, _, rfl, rfl⟩⟩) hr.step.inv
       exact ⟨v, conv v h1, h2⟩
      ·rename_i c hno hc
       cases h
       obtain ⟨rfl, hk⟩ := hp
       obtain ⟨v, h1, h2⟩ := loadPtr_run (P := P) (imm := imm) (w := w) (M := M) ty hb hn hk hy (.inr ⟨rfl, _, hc, .inl ⟨by cases r <;> first | rfl | exact absurd rfl (hno _ _ _ _), rfl⟩⟩) hr.step.inv
       exact ⟨v, conv v h1, h2⟩
      ·cases h
    ·cases h
   ·cases h
  ·cases h
def resL (P : Program) (t : Nat → V) (M : Mem) : List ResultVar → Option (Prop × List V)
 | [] => some (True, [])
 | r :: rs => match resV P t M r, resL P t M rs with
  | some (p, v), some (p', vs) => some (p ∧ p', v :: vs)
  | _, _ => none
def Ret (P : Program) (rs : List ResultVar) (R : Post) (t : Nat → V) (M : Mem) : Prop :=
 ∃ pre vs m, resL P t M rs = some (pre, vs) ∧ pre ∧ (∀ k v, m k = some v → M k = some v) ∧ R (match vs with | [v] => v | vs => .tuple vs) m
theorem resL_sound (hr : Rel P N imm0 w0 M0 imm t M a w) : ∀ {rs : List ResultVar} {pre : Prop} {vs : List V}, resL P t M rs = some (pre, vs) → pre →
  ∃ us : List Value, (rs.mapM (m := Sem) fun | .tmp t => pure (a.tmps.getD t undef) | .cell p ty => do loadVar ty (← asAddr (a.tmps.getD p undef))).run P w = .ok us w ∧ us.length = vs.length ∧
   ∀ (j : Nat) c u, vs[j]? = some c → us[j]? = some u → Rp imm w c u
 | [], pre, vs, h, hp => by simp [resL] at h; obtain ⟨_, rfl⟩ := h; exact ⟨[], by simp, rfl, by simp⟩
 | r :: rs, pre, vs, h, hp => by
  simp only [resL] at h
  split at h
  ·rename_i p v p' vs' h1 h2
   cases h
   obtain ⟨hp1, hp2⟩ := hp
   obtain ⟨u, k1, k2⟩ := resV_sound h1 hp1 hr
   obtain ⟨us, l1, l2, l3⟩ := resL_sound hr h2 hp2
   refine ⟨u :: us, ?_, by simp [l2], fun j c u' hc hu => ?_⟩
   ·rw [List.mapM_cons]
    simp only [Sem.run_bind]
    rw [k1]
    simp only [Result.andThen_ok]
    rw [l1]
    simp
   ·cases j with
    | zero => simp at hc hu; subst hc; subst hu; exact k2
    | succ j => simp at hc hu; exact l3 j c u' hc hu
  ·cases h
theorem Ret.sound {fn : Func} {R : Post} (h : Ret P fn.results.toList R t M) (hr : Rel P N imm0 w0 M0 imm t M a w) :
  ∃ v, (results fn a.tmps).run P w = .ok v w ∧ ∃ r m imm', R r m ∧ Rp imm' w r v ∧ Step (szT P) imm0 w0 M0 imm' w m := by
 obtain ⟨pre, vs, m, h1, h2, h3, h4⟩ := h
 obtain ⟨us, k1, k2, k3⟩ := resL_sound hr h1 h2
 refine ⟨if h : us.toArray.size = 1 then us.toArray[0] else .tuple us.toArray, ?_, _, m, imm, h4, ?_, (hr.less (t' := t) ⟨fun i => .inr rfl, h3⟩).step⟩
 ·have k1' : (fn.results.mapM (m := Sem) fun | .tmp t => pure (a.tmps.getD t undef) | .cell p ty => do loadVar ty (← asAddr (a.tmps.getD p undef))).run P w = .ok us.toArray w := by
   rw [Array.mapM_eq_mapM_toList]
   simp [-Array.getD_eq_getD_getElem?, k1]
  unfold results
  rw [Sem.run_bind]
  refine (congrArg (fun z : Result (Array Value) => z.andThen fun a w' => Sem.run P (pure (if h : a.size = 1 then a[0] else Value.tuple a)) w') k1').trans ?_
  rfl
 ·cases vs with
  | nil =>
   have : us = [] := by simpa using k2
   subst this
   exact .tuple [] #[] rfl (by simp)
  | cons v vs =>
   cases vs with
   | nil =>
    match us, k2 with
    | [u], _ => exact k3 0 v u rfl rfl
   | cons v2 vs =>
    match us, k2 with
    | u :: u2 :: us, hk =>
     simp only [List.size_toArray, List.length_cons]
     rw [dif_neg (by omega)]
     exact .tuple _ _ (by simpa using hk) (fun j c u' hc hu => k3 j c u' hc (by simpa using hu))
def Fin (P : Program) (rs : List ResultVar) (R : Post) : Kont
 | .normal, t, M => Ret P rs R t M
 | .ret, t, M => Ret P rs R t M
 | _, _, _ => False
def argT (args : List V) : Nat → V := fun i => (args[i]?).getD (.tuple [])
theorem Fn.of {f : FuncId} {fn : Func} {c : Code} {args : List V} {F : Mem} {R : Post} (hf : P.funcs[f]? = some fn) (hb : fn.body = some c)
  (h : Sat P (args.length + (fn.ntmps - args.length)) c (argT args) F (Fin P fn.results.toList R)) : Fn P f args F R := by
 intro imm w vals hG hI hi hsz hv
 refine calls_of_wp hf hb ?_
 have hrel : Rel P (args.length + (fn.ntmps - args.length)) imm w F imm (argT args) F { tmps := vals ++ Array.replicate (fn.ntmps - vals.size) undef, defers := [] } w := by
  refine ⟨by simp [hsz], rfl, fun i => ?_, Step.refl hI hi, hG⟩
  simp only [argT]
  cases ha : args[i]? with
  | none =>
   have hge : vals.size ≤ i := by rw [hsz]; exact List.getElem?_eq_none_iff.1 ha
   have : (vals ++ Array.replicate (fn.ntmps - vals.size) undef).getD i undef = undef := by
    rw [Array.getD_eq_getD_getElem?, Array.getElem?_append_right hge, Array.getElem?_replicate]
    split <;> rfl
   rw [this]
   exact .tuple [] #[] rfl (by simp)
  | some c =>
   have hlt : i < vals.size := by rw [hsz]; exact (List.getElem?_eq_some_iff.1 ha).1
   have hu : vals[i]? = some vals[i] := by simp [hlt]
   have : (vals ++ Array.replicate (fn.ntmps - vals.size) undef).getD i undef = vals[i] := by
    rw [Array.getD_eq_getD_getElem?, Array.getElem?_append_left hlt, hu]; rfl
   rw [this]
   exact hv i c _ ha hu
 refine Code.wp_mono ?_ (h _ _ _ _ _ _ hrel)
 rintro e a w' ⟨t', M', imm', hr, hk⟩
 have fin : Ret P fn.results.toList R t' M' → a.defers = [] ∧ ∃ v, (results fn a.tmps).run P w' = .ok v w' ∧ ∃ v_1 r m imm', Ending.returned v = .returned v_1 ∧ R r m ∧ Rp imm' w' r v_1 ∧ Step (szT P) imm w F imm' w' m := by
  intro hret
  obtain ⟨v, h1, r, m, imm'', h2, h3, h4⟩ := hret.sound hr
  exact ⟨hr.defers, v, h1, v, r, m, imm'', rfl, h2, h3, h4⟩
 cases e with
 | normal => exact fin hk
 | ret => exact fin hk
 | _ => exact hk.elim
def noT : Nat → V := fun _ => .undef
def noM : Mem := fun _ => none
theorem Less.nil : Less noT t noM M := ⟨fun _ => .inl rfl, fun _ _ h => by cases h⟩
theorem Less.upd {t' : Nat → V} {d : Nat} {v : V} (h : Less t' t M' M) (hv : t d = v) : Less (upd t' d v) t M' M := by
 refine ⟨fun i => ?_, h.2⟩
 simp only [Go.Proofs.YtkdolbffabmemaaGreatDoor.upd]
 split
 ·right; subst_vars; rfl
 ·exact h.1 i
theorem Less.set {t' : Nat → V} {d : Nat} {v : V} (h : Less t' t M' M) (hv : M d = some v) : Less t' t (M'.set d v) M := by
 refine ⟨h.1, fun k u hk => ?_⟩
 simp only [Mem.set] at hk
 split at hk
 ·cases hk; subst_vars; exact hv
 ·exact h.2 k u hk
end
end Go.Proofs.YtkdolbffabmemaaGreatDoor
