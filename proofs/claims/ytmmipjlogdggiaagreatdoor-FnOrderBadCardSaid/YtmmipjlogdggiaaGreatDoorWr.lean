/-
  'FnOrderBad' answers true at every input, and leaves its argument as it was: the row and its card.
  For every slice of bytes that can be read, of whatever length; the one listed package-level table is tied to the program's text.
-/
import Derived.Test.YtmmipjlogdggiaaGreatDoorWh
import Derived.Test.YtmmipjlogdggiaaGreatDoorCards
import Derived.Test.YtmmipjlogdggiaaGreatDoorTie
import Derived.ProofKit
import Derived.OpenShut
import Derived.ChangeSlices
import Derived.JoinedOf
import Derived.JoinedAt
import Derived.Deep.DeepHandedRow
import Derived.Lib.LaidTab
namespace Go.Proofs.YtmmipjlogdggiaaGreatDoor
open Go.ChangeShapes Go.WideShapes Go.ChangeAt Go.RowKit
set_option linter.unusedSimpArgs false
set_option linter.unusedVariables false

theorem own : ownKnob Tryz.prog.godebug = none := by kernel_rfl
theorem laidOut' : laidOutB Tryz.prog = true := by kernel_rfl
theorem cells8 : Tryz.prog.cellsOf 5 = 1 := by kernel_rfl

/-- A row of bytes that is never written again. -/
theorem code_rp {imm : Nat → Prop} {W : World} {b off len cap : Nat} {zs : List Int} (hlz : len ≤ zs.length) (hl : len ≤ cap) (hi : imm b) (hcell : ∀ i, i < zs.length → W.cell? ⟨b, off + i, none⟩ = some (.int .u8 (zs.getD i 0))) :
    Rp imm W (codeV (zs.take len)) (.slice (some ⟨b, off, none⟩) len cap) := by
  by_cases h0 : len = 0
  · subst h0; exact .sl0 _ _
  have hc0 := hcell 0 (by omega)
  unfold World.cell? at hc0
  split at hc0
  · rename_i cur t fr hg
    have hln : (zs.take len).length = len := by rw [List.length_take]; omega
    have e : ((zs.take len).map (V.int .u8)).length = len := by rw [List.length_map]; exact hln
    have get : ∀ (i : Nat) (x : V), ((zs.take len).map (V.int .u8))[i]? = some x → x = .int .u8 (zs.getD i 0) ∧ i < len := by
      intro i x hx
      have hlt : i < len := by have := (List.getElem?_eq_some_iff.1 hx).1; omega
      rw [List.getElem?_map, List.getElem?_take_of_lt hlt] at hx
      obtain ⟨y, hy, rfl⟩ := Option.map_eq_some_iff.1 hx
      exact ⟨by rw [List.getD, hy]; rfl, hlt⟩
    have := Rp.sl (imm := imm) (w := W) ((zs.take len).map (V.int .u8)) b off cap 1 cur t fr (fun i _ => .int .u8 (zs.getD i 0)) hi hg (by omega)
      (fun i x hx => by rw [(get i x hx).1]; rfl)
      (fun i x j c hx hc => by
        obtain ⟨rfl, hlt⟩ := get i x hx
        have hj : j = 0 := by
          cases j with
          | zero => rfl
          | succ j => simp [V.cells] at hc
        subst hj
        have := hcell i (by omega)
        unfold World.cell? at this
        simp only [hg] at this
        simpa using this)
      (fun i x j c hx hc => by
        obtain ⟨rfl, hlt⟩ := get i x hx
        have hj : j = 0 := by
          cases j with
          | zero => rfl
          | succ j => simp [V.cells] at hc
        subst hj
        simp [V.cells] at hc
        subst hc
        exact .int _ _)
    rw [e] at this
    exact this
  · cases hc0

theorem inv_no {sz : TypeId → Nat} {imm : Nat → Prop} {w : World} : Inv sz imm w noM :=
  ⟨fun o q v h => (by simp [Mem.getP, noM] at h), fun o v h => (by cases h), fun o q o' q' g e cap es e' cap' es' h => (by simp [Mem.getP, noM] at h)⟩
theorem not_owns_no {g : Nat} : ¬ noM.owns g := by
  rintro ⟨o, q, e, cap, es, h⟩
  simp [Mem.getP, noM] at h

/-- A law of one code: what its contract says of the world. -/
theorem law_calls {f : FuncId} {W : World} {x : V} {v : Value} {imm : Nat → Prop} (h : Fp Tryz.prog f [x] (.bool true)) (hi : ∀ g, imm g → g < W.heap.size) (hx : Rp imm W x v) :
    Calls Tryz.prog f #[v] W fun e w' => e = .returned (.bool true) ∧ Below W.heap.size W w' := by
  refine (h.fn imm W #[v] inv_no hi rfl ?_).mono ?_
  · intro j c u hj hu
    cases j with
    | zero => simp at hj hu; subst hj; subst hu; exact hx
    | succ j => simp at hj
  · rintro e w' ⟨r, r', m, imm', rfl, ⟨rfl, rfl⟩, h3, h4⟩
    rw [h3.bool_inv]
    exact ⟨rfl, h4.os, h4.tape, h4.output, h4.size, fun k hk => (h4.block k hk not_owns_no).1⟩

set_option maxRecDepth 100000 in
theorem contract (H : Type) (enc : TypeId × Value → H) (W : World) (base : Nat) (args : Array Value) (ds gs : List (DataW H)) (before : List MemPlace)
    (hval : ∀ (j : Nat) t v, Tryz.f3.params[j]? = some t → args[j]? = some v → Value.okWide Tryz.prog W .any base t v)
    (hW : DataW.Whole enc Tryz.prog Tryz.f3.params.toList Rows.fnOrderBadSpec.vars false W args.toList ds gs before) :
    Calls Tryz.prog 3 args W fun e W' => ∃ v, e = .returned v ∧ Rows.fnOrderBadSpec.post enc Tryz.prog Tryz.f3 false true false false W args v W' := by
  have hW' := hW
  obtain ⟨p, q, hA0, hV, rfl, hfz, hnd⟩ := hW
  have hA : DataW.TrodAll enc Tryz.prog W 0 (fun _ => true) true Tryz.f3.params.toList args.toList ds p := hA0
  rw [Tryz.params3] at hA hval
  obtain ⟨v0, d0, rfl, rfl, h0⟩ := trodAll_one hA
  obtain ⟨rfl, rfl⟩ := trodVars_none hV
  obtain ⟨a0, len, cap, rfl⟩ := okWide_slice Tryz.underlying22 (hval 0 22 v0 rfl rfl)
  have h0k := h0
  obtain ⟨fuel, hf⟩ := h0
  clear hA0
  simp only [List.append_nil] at hW'
  have hlt : ∀ x ∈ p, x.block < W.heap.size := fun x hx => by simpa using hW'.lt x hx
  have fin : Calls Tryz.prog 3 #[.slice a0 len cap] W fun e w' => e = .returned (.bool true) ∧ Below W.heap.size W w' := by
    rcases open_ints Tryz.underlying22 Tryz.underlying5 cells8 hf with ⟨hcs, hx⟩ | ⟨a, len', cap', zs, hcs, _, hl, hm, hz, hx, hcell, hwz⟩
    · simp [Value.cells] at hcs
      obtain ⟨rfl, rfl, rfl⟩ := hcs
      exact law_calls (imm := fun _ => False) (law_fn [] (fun b hb => by cases hb)) (fun g h => h.elim) (.sl0 _ _)
    · simp [Value.cells] at hcs
      obtain ⟨rfl, rfl, rfl⟩ := hcs
      simp only [if_true] at hz
      have hc8 : Code8 (zs.take len) := by
        intro n hn
        have := hwz n (List.mem_of_mem_take hn)
        simp [Lit.wf, IntKind.min, IntKind.max, IntKind.signed, IntKind.bits] at this
        omega
      by_cases hl0 : len = 0
      · subst hl0
        exact law_calls (imm := fun _ => False) (law_fn [] (fun b hb => by cases hb)) (fun g h => h.elim) (.sl0 _ _)
      · obtain ⟨b, off, spot⟩ := a
        have hspot : spot = none := by simpa [Addr.add] using World.cell?_spot (hcell 0 (by omega))
        subst hspot
        refine law_calls (imm := fun g => g = b) (law_fn (zs.take len) hc8) (fun g hg => ?_) (code_rp (by omega) hl rfl fun i hi => by rw [← add_plain]; exact hcell i hi)
        subst hg
        have := hcell 0 (by omega)
        rw [add_plain] at this
        unfold World.cell? at this
        split at this
        · rename_i hh; exact (Array.getElem?_eq_some_iff.1 hh).1
        · cases this
  refine fin.mono fun e W' ⟨he, bel⟩ => ?_
  subst he
  refine ⟨_, rfl, _, _, _, [], p, [], hW', ?_, ?_, rfl, bel.frame _, fun h => by cases h⟩
  · exact trodAll_mk1 (shut_bool Tryz.underlying4 _)
  · rw [Tryz.params3]
    exact trodAll_mk1 (Below.trod laidOut' (by kernel_rfl) (of_decide_eq_true (by kernel_rfl)) h0k bel hlt)

/-- A world for the witness: the settled one, the table holding what its initialiser lays. -/
noncomputable def laidWorld (os : Os) : World :=
  { World.holding Tryz.prog os ⟨#[], #[], []⟩ with heap := (World.holding Tryz.prog os ⟨#[], #[], []⟩).heap.modify 0 fun
      | .cells _ t frozen => .cells #[.int .u8 0, .int .u8 1, .int .u8 56, .int .u8 2, .int .u8 57, .int .u8 49, .int .u8 28, .int .u8 3, .int .u8 61, .int .u8 58, .int .u8 42, .int .u8 50, .int .u8 38, .int .u8 29, .int .u8 17, .int .u8 4, .int .u8 62, .int .u8 47, .int .u8 59, .int .u8 36, .int .u8 45, .int .u8 43, .int .u8 51, .int .u8 22, .int .u8 53, .int .u8 39, .int .u8 33, .int .u8 30, .int .u8 24, .int .u8 18, .int .u8 12, .int .u8 5, .int .u8 63, .int .u8 55, .int .u8 48, .int .u8 27, .int .u8 60, .int .u8 41, .int .u8 37, .int .u8 16, .int .u8 46, .int .u8 35, .int .u8 44, .int .u8 21, .int .u8 52, .int .u8 32, .int .u8 23, .int .u8 11, .int .u8 54, .int .u8 26, .int .u8 40, .int .u8 15, .int .u8 34, .int .u8 20, .int .u8 31, .int .u8 10, .int .u8 25, .int .u8 14, .int .u8 19, .int .u8 9, .int .u8 13, .int .u8 8, .int .u8 7, .int .u8 6] t frozen
      | o => o }
theorem laid_met (os : Os) : laidMet Tryz.prog Rows.fnOrderBadRow.laid ((laidWorld os).forCall (fun _ _ => 0) ⟨#[], #[.slice none 0 0], []⟩).memory :=
  laidMet_of_run' 8 (by kernel_rfl) (by kernel_rfl)
theorem reads (os : Os) {H : Type} (enc : TypeId × Value → H) : ∃ places, DataW.whole enc Tryz.prog ((laidWorld os).forCall (fun _ _ => 0) ⟨#[], #[.slice none 0 0], []⟩).memory Tryz.f3.params.toList Rows.fnOrderBadSpec.vars false #[Value.slice none 0 0].toList 8 = some ([.nil], [], places) :=
  ⟨[], by kernel_rfl⟩

set_option maxRecDepth 100000 in
theorem lifted (os : Os) (started : os.Started) (H : Type) (enc : TypeId × Value → H) (F : Stop.Interp) :
    ReturnsInHanded {} Tryz.checked os 3 .any ((OpenSpec.ofChange Rows.fnOrderBadSpec).preRow enc Tryz.prog Tryz.f3 Rows.fnOrderBadRow.domain false Rows.fnOrderBadRow.laid) (((OpenSpec.ofChange Rows.fnOrderBadSpec).at F).post enc Tryz.prog Tryz.f3 false true false false) := by
  obtain ⟨places, hx⟩ := reads os enc
  refine returnsInHanded_of_row (C := Tryz.checked) (s := OpenSpec.ofChange Rows.fnOrderBadSpec) own started (by kernel_rfl) Tryz.func3
    (witness_row_at (enc := enc) (C := Tryz.checked) false (laidWorld os) #[.slice none 0 0] rfl (by kernel_rfl) (by kernel_rfl) (by kernel_rfl)
      (OpenSpec.preRow_of_cond 8 hx (by kernel_rfl) (fun k hk => by cases hk) (by kernel_rfl) (laid_met os))) ?_
  intro W base args ds gs before hval hW _ _ _ hL _ _
  exact contract H enc W base args ds gs before hval hW

theorem said : Rows.FnOrderBadSaid :=
  OpenClaim.holds_of_cond 3 Tryz.f3 rfl rfl rfl rfl rfl rfl rfl ⟨rfl, rfl, rfl, rfl, rfl⟩ rfl rfl rfl rfl rfl (by kernel_rfl) Tryz.func3 (by kernel_rfl)
    (of_decide_eq_true (by kernel_rfl)) (by unfold Func.isWrapper; first | (rw [if_pos (by decide +kernel)]; kernel_rfl) | (rw [if_neg (by decide +kernel)]; exact ⟨rfl, rfl⟩))
    (fun os started H enc _ F => by rw [OpenClaim.pre_eq_preRow]; exact lifted os started H enc F)

/-- No parameter wants a stand-in; the program's own looks are off. -/
theorem plain (f : FuncId) (fn : Func) (hf : Tryz.pinned.checked.prog.funcNamed "loop.example/fathomline/laws.FnOrderBad" = some f) (hfn : Tryz.pinned.checked.prog.funcs[f]? = some fn) :
    false = Tryz.pinned.checked.prog.looks [] ∧ ∀ (j : Nat) t, fn.params[j]? = some t → Tryz.pinned.checked.prog.wantsStandIn t = false := by
  obtain rfl : f = 3 := Option.some.inj ((show Tryz.prog.funcNamed "loop.example/fathomline/laws.FnOrderBad" = some 3 by kernel_rfl).symm.trans hf) |>.symm
  obtain rfl : fn = Tryz.f3 := (Option.some.inj (Tryz.func3.symm.trans hfn)).symm
  refine ⟨by kernel_rfl, fun j t ht => ?_⟩
  rw [Tryz.params3] at ht
  obtain rfl : t = 22 := by simpa using Array.mem_of_getElem? ht
  exact (show Tryz.prog.wantsStandIn 22 = false by kernel_rfl)

theorem fnOrderBad_holds : Rows.FnOrderBadCardSaid :=
  Claim7.holds_tied_plain_at .later [] _ _ _ _ said (fun _ h => by cases h) (by kernel_rfl) (fun _ h => by cases h) fnOrderBad_row_tie rfl ⟨rfl, rfl⟩ (by kernel_rfl) rfl plain (by kernel_rfl)
end Go.Proofs.YtmmipjlogdggiaaGreatDoor
