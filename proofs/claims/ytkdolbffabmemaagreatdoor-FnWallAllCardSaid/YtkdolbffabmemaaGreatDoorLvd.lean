/-
 The machine of values against the model, operation by operation: its words.
-/
import Derived.Test.YtkdolbffabmemaaGreatDoorLvc
import Derived.Lib.TrailingZeros
namespace Go.Proofs.YtkdolbffabmemaaGreatDoor
open Go.RowKit
set_option linter.unusedSimpArgs false
set_option linter.unusedVariables false
structure Step (sz : TypeId → Nat) (imm : Nat → Prop) (w : World) (M : Mem) (imm' : Nat → Prop) (w' : World) (M' : Mem) : Prop where
 inv : Inv sz imm' w' M'
 lt : ∀ g, imm' g → g < w'.heap.size
 size : w.heap.size ≤ w'.heap.size
 os : w'.os = w.os
 tape : w'.tape = w.tape
 output : w'.output = w.output
 block : ∀ g, g < w.heap.size → ¬ M.owns g → w'.heap[g]? = w.heap[g]? ∧ (imm' g ↔ imm g)
 owns : ∀ g, M'.owns g → M.owns g ∨ w.heap.size ≤ g
section
variable {sz : TypeId → Nat} {imm imm' imm'' : Nat → Prop} {w w' w'' : World} {M M' M'' : Mem}
theorem Inv.notOwn (h : Inv sz imm w M) {g : Nat} (hi : imm g) : ¬ M.owns g := fun ⟨o, q, e, cap, es, hq⟩ => (h.nd o q _ hq).1 hi
theorem Step.refl (h : Inv sz imm w M) (hi : ∀ g, imm g → g < w.heap.size) : Step sz imm w M imm w M :=
 ⟨h, hi, Nat.le_refl _, rfl, rfl, rfl, fun _ _ _ => ⟨rfl, Iff.rfl⟩, fun _ h => .inl h⟩
theorem Step.trans (h : Step sz imm w M imm' w' M') (h' : Step sz imm' w' M' imm'' w'' M'') : Step sz imm w M imm'' w'' M'' := by
 refine ⟨h'.inv, h'.lt, Nat.le_trans h.size h'.size, h'.os.trans h.os, h'.tape.trans h.tape, h'.output.trans h.output, fun g hg hn => ?_, fun g hg => ?_⟩
 ·have h1 := h.block g hg hn
  have h2 := h'.block g (Nat.lt_of_lt_of_le hg h.size) (fun ho => (h.owns g ho).elim hn (fun hle => by omega))
  exact ⟨h2.1.trans h1.1, h2.2.trans h1.2⟩
 ·rcases h'.owns g hg with h1 | h1
  ·exact h.owns g h1
  ·have := h.size; exact .inr (by omega)
theorem Step.ev (hI : Inv sz imm w M) (hi : ∀ g, imm g → g < w.heap.size) (h : Step sz imm w M imm' w' M') : Ev imm w imm' w' :=
 fun g hg => let h1 := h.block g (hi g hg) (hI.notOwn hg); ⟨h1.2.2 hg, h1.1⟩
theorem Step.mem (h : Step sz imm w M imm' w' M') (hI : Inv sz imm' w' M'') (ho : ∀ g, M''.owns g → M.owns g ∨ w.heap.size ≤ g) : Step sz imm w M imm' w' M'' :=
 ⟨hI, h.lt, h.size, h.os, h.tape, h.output, h.block, ho⟩
theorem owns_sub (hs : ∀ o v, M' o = some v → M o = some v) {g : Nat} (h : M'.owns g) : M.owns g := by
 obtain ⟨o, q, e, cap, es, hq⟩ := h
 refine ⟨o, q, e, cap, es, ?_⟩
 cases ho : M' o with
 | none => simp [Mem.getP, ho] at hq
 | some t => simpa [Mem.getP, ho, hs o t ho] using hq
theorem era_sub {o : Nat} : ∀ o' v, (M.era o) o' = some v → M o' = some v := by
 intro o' v h
 simp only [Mem.era] at h
 split at h
 ·cases h
 ·exact h
theorem Step.era (h : Step sz imm w M imm' w' M') (o : Nat) : Step sz imm w M imm' w' (M'.era o) :=
 h.mem (h.inv.era o) (fun g hg => h.owns g (owns_sub era_sub hg))
theorem owns_rekey {o d : Nat} {v : V} (ho : M o = some v) {g : Nat} (h : ((M.era o).set d v).owns g) : M.owns g := by
 obtain ⟨o', q, e, cap, es, hq⟩ := h
 rw [Mem.getP_set] at hq
 split at hq
 ·exact ⟨o, q, e, cap, es, by simpa [Mem.getP, ho] using hq⟩
 ·rw [Mem.getP_era] at hq
  split at hq
  ·cases hq
  ·exact ⟨o', q, e, cap, es, hq⟩
theorem Step.rekey (h : Step sz imm w M imm' w' M') {o d : Nat} {v : V} (ho : M' o = some v) : Step sz imm w M imm' w' ((M'.era o).set d v) :=
 h.mem (h.inv.rekey ho) (fun g hg => h.owns g (owns_rekey ho hg))
theorem Inv.nilrow (h : Inv sz imm w M) (d : Nat) (e : TypeId) : Inv sz imm w (M.set d (.own e none 0 [])) := by
 have hg : ∀ o q v, (M.set d (.own e none 0 [])).getP o q = some v → (o = d ∧ q = [] ∧ v = .own e none 0 []) ∨ (o ≠ d ∧ M.getP o q = some v) := by
  intro o q v hv
  rw [Mem.getP_set] at hv
  split at hv
  ·cases q with
   | nil => simp [V.getP] at hv; exact .inl ⟨‹_›, rfl, hv.symm⟩
   | cons a q => obtain ⟨i, j⟩ := a; simp [V.getP, V.cellAt] at hv
  ·exact .inr ⟨‹_›, hv⟩
 refine ⟨fun o q v hv => ?_, fun o v hv => ?_, ?_⟩
 ·rcases hg _ _ _ hv with ⟨_, _, rfl⟩ | ⟨_, h1⟩
  ·exact ⟨rfl, rfl⟩
  ·exact h.nd _ _ _ h1
 ·simp only [Mem.set] at hv
  split at hv
  ·cases hv; rfl
  ·exact h.top _ _ hv
 ·intro o1 q1 o2 q2 g e1 c1 es1 e2 c2 es2 h1 h2
  rcases hg _ _ _ h1 with ⟨_, _, k⟩ | ⟨_, k⟩ <;> rcases hg _ _ _ h2 with ⟨_, _, l⟩ | ⟨_, l⟩
  ·cases k
  ·cases k
  ·cases l
  ·exact h.inj _ _ _ _ _ _ _ _ _ _ _ k l
theorem owns_nilrow {d : Nat} {e : TypeId} {g : Nat} (h : (M.set d (.own e none 0 [])).owns g) : M.owns g := by
 obtain ⟨o', q, e', cap, es, hq⟩ := h
 rw [Mem.getP_set] at hq
 split at hq
 ·cases q with
  | nil => simp [V.getP] at hq
  | cons a q => obtain ⟨i, j⟩ := a; simp [V.getP, V.cellAt] at hq
 ·exact ⟨o', q, e', cap, es, hq⟩
def Tab (g : Nat) (tab : List Nat) (w : World) : Prop := ∀ j, j < tab.length → w.cell? ⟨g, j, none⟩ = some (.int .u8 (tab.getD j 0))
def globT : List (Nat × List Nat) := [(0, Go.Lib.deBruijn64tab)]
def Glob (imm : Nat → Prop) (w : World) : Prop := ∀ x ∈ globT, imm x.1 ∧ Tab x.1 x.2 w
theorem Tab.same {g : Nat} {tab : List Nat} (h : Tab g tab w) (he : w'.heap[g]? = w.heap[g]?) : Tab g tab w' := fun j hj => by
 have := h j hj
 unfold World.cell? at this ⊢
 rw [he]; exact this
theorem Glob.ev (h : Glob imm w) (he : Ev imm w imm' w') : Glob imm' w' := fun x hx => ⟨(he _ (h x hx).1).1, (h x hx).2.same (he _ (h x hx).1).2⟩
theorem ofVal_rp : ∀ (n : Nat) (v : Value), SizeOf.sizeOf v ≤ n → Rp imm w (ofVal v) v := by
 intro n
 induction n with
 | zero => intro v hs; cases v <;> simp at hs
 | succ n ih =>
  intro v hs
  have hgo : ∀ (cs : List Value), SizeOf.sizeOf cs ≤ n → (ofVal.go cs).length = cs.length ∧ ∀ (j : Nat) (c : V) (u : Value), (ofVal.go cs)[j]? = some c → cs[j]? = some u → Rp imm w c u := by
   intro cs
   induction cs with
   | nil => intro _; exact ⟨rfl, by simp⟩
   | cons x cs ihc =>
    intro hsz
    simp at hsz
    obtain ⟨h1, h2⟩ := ihc (by omega)
    refine ⟨by simp [ofVal.go, h1], fun j c u hc hu => ?_⟩
    cases j with
    | zero => simp [ofVal.go] at hc hu; subst hc; subst hu; exact ih _ (by omega)
    | succ j => simp [ofVal.go] at hc hu; exact h2 j c u hc hu
  unfold ofVal
  split
  ·exact .bool _
  ·exact .int _ _
  ·exact .str _
  ·exact .nilp
  ·exact .nilsl
  ·exact .nilfn
  ·rename_i cs
   obtain ⟨h1, h2⟩ := hgo cs (by simp at hs; omega)
   exact .agg _ _ (by simp [h1]) (fun j c u hc hu => h2 j c u hc (by simpa using hu))
  ·exact .tuple [] #[] rfl (by simp)
  ·exact .undef _
theorem Rp.one {c : V} {u : Value} (h : Rp imm w c u) (hc : c.one = true) : u.oneCell' = true := by
 cases h <;> first | rfl | simp [V.one] at hc
def Tm (imm : Nat → Prop) (w : World) (t : Nat → V) (a : Act) : Prop := ∀ i, Rp imm w (t i) (a.tmps.getD i undef)
theorem Tm.ev {t : Nat → V} {a : Act} (h : Tm imm w t a) (he : Ev imm w imm' w') : Tm imm' w' t a := fun i => (h i).ev he
theorem Tm.eval {t : Nat → V} {a : Act} (h : Tm imm w t a) (x : Operand) : Rp imm w (evV t x) (a.eval x) := by
 cases x with
 | tmp i => exact h i
 | const v => exact ofVal_rp _ v (Nat.le_refl _)
 | global g => exact .undef _
 | func f => exact .fn _ [] [] #[] #[] rfl rfl (by simp) (by simp)
def Ok (P : Program) (R : Post) (o : Oper) (a : Act) (imm : Nat → Prop) (w : World) (M : Mem) : Prop :=
 ∃ nx v r m imm' w', (execOp a.eval o).run P w = .ok nx w' ∧ (nx = .value v ∨ (nx = .skip ∧ v = undef)) ∧ R r m ∧ Rp imm' w' r v ∧ Step (szT P) imm w M imm' w' m
theorem Ok.quiet {P : Program} {R : Post} {o : Oper} {a : Act} {v : Value} {r : V} (hI : Inv (szT P) imm w M) (hi : ∀ g, imm g → g < w.heap.size)
  (h : (execOp a.eval o).run P w = .ok (.value v) w) (hr : R r M) (hp : Rp imm w r v) : Ok P R o a imm w M :=
 ⟨_, v, r, M, imm, w, h, .inl rfl, hr, hp, Step.refl hI hi⟩
theorem Ok.wp {P : Program} {R : Post} {o : Oper} {a : Act} (h : Ok P R o a imm w M) {next : Act → World → Prop} {Q : Exit → Act → World → Prop}
  (hn : ∀ v r m imm' w', R r m → Rp imm' w' r v → Step (szT P) imm w M imm' w' m → next (a.put o.dst v) w') : o.wp P a w next Q := by
 obtain ⟨nx, v, r, m, imm', w', h1, h2, h3, h4, h5⟩ := h
 unfold Oper.wp
 rw [h1]
 rcases h2 with rfl | ⟨rfl, rfl⟩
 ·exact hn _ _ _ _ _ h3 h4 h5
 ·exact hn _ _ _ _ _ h3 h4 h5
end
section
variable {P : Program} {t : TypeId}
theorem run_sizeOf_of {i : TypeInfo} (h : P.info? t = some i) (w : World) : (Go.sizeOf t).run P w = .ok (szT P t) w := by
 simp [Go.sizeOf, typeInfo, h, szT]
theorem info_of_underlying {d : TypeDesc} (h : P.underlying t = some d) : ∃ i, P.info? t = some i := by
 unfold Program.underlying at h
 cases hi : P.info? t with
 | none => simp [hi] at h
 | some i => exact ⟨i, rfl⟩
theorem run_sizeOf_und {d : TypeDesc} (h : P.underlying t = some d) (w : World) : (Go.sizeOf t).run P w = .ok (szT P t) w := by
 obtain ⟨i, hi⟩ := info_of_underlying h
 exact run_sizeOf_of hi w
theorem run_isAgg {b : Bool} (h : aggT P t = some b) (w : World) : (isAgg t).run P w = .ok b w := by
 unfold aggT at h
 cases hu : P.underlying t with
 | none => simp [hu] at h
 | some d =>
  simp only [hu, Option.map_some, Option.some.injEq] at h
  simp only [isAgg, run_underlying hu, Sem.run_bind, Result.andThen]
  cases d <;> simp_all
theorem elT_und {e : TypeId} (h : elT P t = some e) : P.underlying t = some (.slice e) := by
 unfold elT at h
 split at h <;> simp_all
theorem arrT_und {n : Nat} {e : TypeId} (h : arrT P t = some (n, e)) : P.underlying t = some (.array n e) := by
 unfold arrT at h
 split at h <;> simp_all
theorem strT_und (h : strT P t = true) : P.underlying t = some .string := by
 unfold strT at h
 split at h <;> simp_all
theorem intT_und {k : IntKind} (h : intT P t = some k) : P.underlying t = some (.int k) := by
 unfold intT at h
 split at h <;> simp_all
end
end Go.Proofs.YtkdolbffabmemaaGreatDoor
