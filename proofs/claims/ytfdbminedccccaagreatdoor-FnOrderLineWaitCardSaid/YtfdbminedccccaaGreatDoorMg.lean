/-
  The reference: the events of a net in line. The reference: which events must be ahead of which, the first way in which it holds of all who wait; OrderLine. The law's helpers: whether numbers are the same; whether ways are. Draws: a program, a way and an order by which it holds, mostly. A law: in line all events stand once, and none behind what it must be ahead of. A law: in line who waits goes on only when no reader is in that was there before. A law: in line who waits goes on only when no reader is in that was there before; its walk. Rows: what all laws of a code share. Rows of a great seat: the library's table, from what the row lists.
-/
import Derived.Test.YtfdbminedccccaaGreatDoorMf
import Derived.Test.YtfdbminedccccaaGreatDoorRows
import Derived.ProofKit
import Derived.OpenShut
import Derived.ChangeSlices
import Derived.JoinedOf
import Derived.JoinedAt
import Derived.Deep.DeepHandedRow
import Derived.Lib.LaidTab
import Derived.Test.YtfdbminedccccaaGreatDoorCards
import Derived.Test.YtfdbminedccccaaGreatDoorTie
/-! ## The reference: the events of a net in line -/
namespace Go.Proofs.YtfdbminedccccaaGreatDoor
open Go.RowKit
set_option linter.unusedSimpArgs false
set_option linter.unusedVariables false
set_option pp.maxSteps 3000

/-- A row that is handed over beside another thing stays. -/
theorem Fp.fzT {P : Program} {f : FuncId} {args : List V} {v : V} (h : Fc P f args noM fun r m => (r = v ∧ m = noM) ∨ ∃ s γ cap e es x, r = .tuple [.msl s [] γ es.length cap, x] ∧ m s = some (.own e γ cap es) ∧ v = .tuple [.sl (es.map V.fz), x]) : Fp P f args v := by
  refine ⟨fun imm w vals hG hI hi hs hv => (h.fn imm w vals hG hI hi hs hv).mono ?_, h.go⟩
  rintro e' w' ⟨u, r, m, imm', rfl, hq, hr, hS⟩
  rcases hq with ⟨rfl, rfl⟩ | ⟨s, γ, cap, e, es, x, rfl, hm, rfl⟩
  · exact ⟨_, _, _, imm', rfl, ⟨rfl, rfl⟩, hr, hS⟩
  obtain ⟨h1, h2, h3⟩ := hS.inv.freeze (o := s) (e := e) (γ := γ) (cap := cap) (es := es) hm
  have he : Ev imm' w' (fun g' => imm' g' ∨ (V.own e γ cap es).blocks g') w' := fun g' hg => ⟨.inl hg, rfl⟩
  refine ⟨_, _, noM, fun g' => imm' g' ∨ (V.own e γ cap es).blocks g', rfl, ⟨rfl, rfl⟩, ?_, ⟨inv_no, fun g hg => hg.elim (hS.lt g) (fun hb => (h3 g hb).1), hS.size, hS.os, hS.tape, hS.output, fun g hg hno => ⟨(hS.block g hg hno).1, ?_⟩, fun g hg => absurd hg not_owns_no⟩⟩
  · cases hr with
    | tuple _ arr hl hh =>
      refine .tuple _ arr hl fun j c u' hc hu => ?_
      cases j with
      | zero =>
        simp at hc; subst hc
        have := hh 0 (.msl s [] γ es.length cap) u' rfl hu
        cases this
        exact h2
      | succ j =>
        have := hh (j + 1) c u' (by simpa using hc) hu
        exact this.ev he
  constructor
  · rintro (h | h)
    · exact (hS.block g hg hno).2.1 h
    · rcases hS.owns g (h3 g h).2 with h | h
      · exact absurd h not_owns_no
      · omega
  · exact fun h => .inl ((hS.block g hg hno).2.2 h)
/-- Events that are told. -/
def intsN (l : List Nat) : List Int := l.map fun n : Nat => (n : Int)
theorem intsN_len (l : List Nat) : (intsN l).length = l.length := by simp [intsN]
theorem intsN_has (l : List Nat) (b : Nat) : (intsN l).contains (b : Int) = l.contains b := by
  rw [Bool.eq_iff_iff, List.contains_iff_mem, List.contains_iff_mem, intsN, List.mem_map]
  exact ⟨fun ⟨x, hx, e⟩ => by have : x = b := by omega
                              rw [← this]; exact hx, fun h => ⟨b, h, rfl⟩⟩
def lineW : Option (List Nat) → V
  | some l => .tuple [intsV (intsN l), .bool true]
  | none => .tuple [intsV [], .bool false]
theorem nline_fn (R : Nat → Nat → Bool) (n : Nat) (hn : n ≤ 62) : Fp Tryz.prog 51 [netE (netL R n)] (lineW (lineE R n)) := by
  have hNl := netL_len R n
  refine Fp.fzT ?_
  refine Fc.start (S := [17]) Tryz.func51 Tryz.ntmps51 Tryz.results51 rfl (by decide) rfl (by kernel_rfl) ?_
  simp (maxSteps := 1000000) (disch := omega) only [push_cast, go_sem, wpS_tt, wpS_tf, wpS_ft, wpS_ff, wpCond_tt, wpCond_ff, simprocAttr, netE_eq]
  intro g9
  refine Sat.loop (σ := EvS × List Nat × (Nat → Bool)) (fun x => upd (upd noT 0 (.eptr [.sl ((netL R n).map boolsV)])) 4 (.msl 4 [] x.1.γ x.2.1.length x.1.c)) (fun x => noM.set 4 (.own x.1.e x.1.γ x.1.c ((intsN x.2.1).map (V.int .i64))))
    (fun x => cntE n x.2.2 = x.1.k ∧ x.1.k ≤ n ∧ x.2.1.length + x.1.k = n ∧ x.1.e = 3 ∧ (∀ b, b < n → x.2.2 b = !x.2.1.contains b) ∧ lineE R n = (elimE R n x.1.k x.2.2).map (x.2.1 ++ ·)) (fun x => x.1.k) (⟨n, 3, some g9, 0⟩, [], fun x => decide (x < n)) ⟨cnt_all, Nat.le_refl _, by simp, rfl, fun b hb => by simp [hb], ?_⟩ ?_ ?_
  · dsimp only
    rw [lineE]
    cases elimE R n n fun x => decide (x < n) <;> rfl
  · (refine Less.start ?_; repeat (first | exact LessO.nil | exact LessO.all | refine LessO.skip (by decide) ?_ | refine LessO.upd ?_ ?_ | refine LessO.set ?_ ?_)) <;> (try simp (maxSteps := 1000000) (disch := omega) only [push_cast, go_sem, wpS_tt, wpS_tf, wpS_ft, wpS_ff, wpCond_tt, wpCond_ff, simprocAttr])
    all_goals simp [intsN]
  rintro ⟨⟨k, e, γ, c⟩, out, L⟩ ⟨hc, hk, hol, hγ, hL, hline⟩ J hJ
  simp only at hc hk hol hγ hL hline hJ
  subst hγ
  refine Sat.of (S := [17]) (by kernel_rfl) ?_
  have hγ' : (γ = none ∨ 3 = 3) = True := by simp
  have hil := intsN_len out
  have hhas := fun b => l12HasO_fn (intsN out) b γ c (by rw [hil]; omega)
  rw [hil] at hhas
  cases k with
  | zero =>
    have hnl : ¬ ((out.length : Int) < n) := by omega
    simp (maxSteps := 1000000) (disch := omega) only [push_cast, go_sem, wpS_tt, wpS_tf, wpS_ft, wpS_ff, wpCond_tt, wpCond_ff, simprocAttr, hNl, hnl]
    refine Sat.freezeT (upd noT 4 (intsV (intsN out))) noM 4 (e := 3) (γ := γ) (cap := c) (es := (intsN out).map (V.int .i64)) rfl ?_ ?_
    · (refine Less.start ?_; repeat (first | exact LessO.nil | exact LessO.all | refine LessO.skip (by decide) ?_ | refine LessO.upd ?_ ?_ | refine LessO.set ?_ ?_)) <;> (try simp (maxSteps := 1000000) (disch := omega) only [push_cast, go_sem, wpS_tt, wpS_tf, wpS_ft, wpS_ff, wpCond_tt, wpCond_ff, simprocAttr])
      rw [hil]; simp [intsV]
    refine Sat.of (S := []) (by kernel_rfl) ?_
    simp (maxSteps := 1000000) (disch := omega) only [push_cast, go_sem, wpS_tt, wpS_tf, wpS_ft, wpS_ff, wpCond_tt, wpCond_ff, simprocAttr, intsV_eq]
    refine ⟨_, Sub.rfl, .inl ⟨?_, rfl⟩⟩
    rw [hline, elimE]
    simp [lineW, intsV]
  | succ k =>
    rw [elimE] at hline
    have hnl : (out.length : Int) < n := by omega
    simp (maxSteps := 1000000) (disch := omega) only [push_cast, go_sem, wpS_tt, wpS_tf, wpS_ft, wpS_ff, wpCond_tt, wpCond_ff, simprocAttr, hNl, hnl]
    refine Sat.loop (σ := Nat × Option Nat) (fun x => upd (upd (upd (upd noT 0 (.eptr [.sl ((netL R n).map boolsV)])) 4 (.msl 4 [] γ out.length c)) 5 (.int .i64 (optZ x.2))) 6 (.int .i64 x.1)) (fun x => noM.set 4 (.own 3 γ c ((intsN out).map (V.int .i64))))
      (fun x => x.1 ≤ n ∧ (x.2 = none → ∀ j, j < x.1 → freeE R n L j = false) ∧ ∀ z, x.2 = some z → z < n ∧ pickE R n L = some z) (fun x => n - x.1) (0, none) ⟨by dsimp only; omega, fun _ j hj => absurd hj (Nat.not_lt_zero j), fun z hz => by cases hz⟩ ?_ ?_
    · (refine Less.start ?_; repeat (first | exact LessO.nil | exact LessO.all | refine LessO.skip (by decide) ?_ | refine LessO.upd ?_ ?_ | refine LessO.set ?_ ?_)) <;> (try simp (maxSteps := 1000000) (disch := omega) only [push_cast, go_sem, wpS_tt, wpS_tf, wpS_ft, wpS_ff, wpCond_tt, wpCond_ff, simprocAttr])
      all_goals rfl
    rintro ⟨b, o⟩ ⟨hb, hno, hso⟩ J2 hJ2
    simp only at hb hno hso hJ2
    refine Sat.of (S := []) (by kernel_rfl) ?_
    cases o with
    | some z =>
      obtain ⟨hz, hpk⟩ := hso z rfl
      rw [hpk] at hline
      have hz0 : ¬ ((z : Int) < 0) := by omega
      have hLz := (free_iff.1 (pick_some hpk).2).1
      have hcr := cnt_rem (L := L) hLz hz
      have e1 : optZ (some z) = (z : Int) := rfl
      by_cases hbn : b < n
      all_goals
        simp (maxSteps := 1000000) (disch := omega) only [push_cast, go_sem, wpS_tt, wpS_tf, wpS_ft, wpS_ff, wpCond_tt, wpCond_ff, simprocAttr, e1, hz0, hbn, hNl, hγ']
        intro g70
        refine ⟨⟨hil, by rw [hil]; omega⟩, fun γ6 c6 _ => ?_⟩
        refine hJ (⟨k, 3, γ6, c6⟩, out ++ [z], fun x => L x && !(x == z)) _ _ ⟨by dsimp only; omega, by dsimp only; omega, by simp at hol ⊢; omega, rfl, fun x hx => ?_, ?_⟩ (by dsimp only; omega) ?_
        · dsimp only
          rw [hL x hx]
          rw [List.contains_append, Bool.not_or]
          simp [Bool.beq_eq_decide_eq]
        · dsimp only
          have hl2 : lineE R n = ((elimE R n k fun x => L x && !(x == z)).map (z :: ·)).map (out ++ ·) := hline
          rw [hl2]
          cases elimE R n k fun x => L x && !(x == z) <;> simp
        · (refine Less.start ?_; repeat (first | exact LessO.nil | exact LessO.all | refine LessO.skip (by decide) ?_ | refine LessO.upd ?_ ?_ | refine LessO.set ?_ ?_)) <;> (try simp (maxSteps := 1000000) (disch := omega) only [push_cast, go_sem, wpS_tt, wpS_tf, wpS_ft, wpS_ff, wpCond_tt, wpCond_ff, simprocAttr])
          all_goals simp [intsN]
    | none =>
      have hno' := hno rfl
      have e1 : optZ none = -1 := rfl
      rcases Nat.lt_or_ge b n with hbn | hbn
      · simp (maxSteps := 1000000) (disch := omega) only [push_cast, go_sem, wpS_tt, wpS_tf, wpS_ft, wpS_ff, wpCond_tt, wpCond_ff, simprocAttr, e1, hbn, hNl]
        refine callR.peek (hhas b) rfl rfl rfl ?_
        rw [intsN_has]
        simp (maxSteps := 1000000) (disch := omega) only [push_cast, go_sem, wpS_tt, wpS_tf, wpS_ft, wpS_ff, wpCond_tt, wpCond_ff, simprocAttr]
        refine Sat.loop (σ := Nat × Bool) (fun x => upd (upd (upd (upd (upd (upd noT 0 (.eptr [.sl ((netL R n).map boolsV)])) 4 (.msl 4 [] γ out.length c)) 5 (.int .i64 (-1))) 6 (.int .i64 b)) 7 (.bool x.2)) 8 (.int .i64 x.1)) (fun x => noM.set 4 (.own 3 γ c ((intsN out).map (V.int .i64))))
          (fun x => x.1 ≤ n ∧ x.2 = frB R L b x.1) (fun x => n - x.1) (0, L b) ⟨by dsimp only; omega, by simp [frB]⟩ ?_ ?_
        · (refine Less.start ?_; repeat (first | exact LessO.nil | exact LessO.all | refine LessO.skip (by decide) ?_ | refine LessO.upd ?_ ?_ | refine LessO.set ?_ ?_)) <;> (try simp (maxSteps := 1000000) (disch := omega) only [push_cast, go_sem, wpS_tt, wpS_tf, wpS_ft, wpS_ff, wpCond_tt, wpCond_ff, simprocAttr])
          all_goals first | rfl | (rw [hL b hbn]) | simp
        rintro ⟨a, fr⟩ ⟨ha, hfr⟩ J3 hJ3
        simp only at ha hfr hJ3
        refine Sat.of (S := []) (by kernel_rfl) ?_
        cases fr with
        | false =>
          have hff := frB_no (n := n) hfr.symm ha
          by_cases han : a < n
          all_goals
            simp (maxSteps := 1000000) (disch := omega) only [push_cast, go_sem, wpS_tt, wpS_tf, wpS_ft, wpS_ff, wpCond_tt, wpCond_ff, simprocAttr, han, hNl]
            refine hJ2 (b + 1, none) _ _ ⟨by dsimp only; omega, fun _ j hj => ?_, fun z hz => by cases hz⟩ (by dsimp only; omega) ?_
            · rcases Nat.lt_or_ge j b with h | h
              · exact hno' j h
              · have : j = b := by dsimp only at hj; omega
                rw [this]; exact hff
            · (refine Less.start ?_; repeat (first | exact LessO.nil | exact LessO.all | refine LessO.skip (by decide) ?_ | refine LessO.upd ?_ ?_ | refine LessO.set ?_ ?_)) <;> (try simp (maxSteps := 1000000) (disch := omega) only [push_cast, go_sem, wpS_tt, wpS_tf, wpS_ft, wpS_ff, wpCond_tt, wpCond_ff, simprocAttr])
              all_goals rfl
        | true =>
          rcases Nat.lt_or_ge a n with han | han
          · have hLa := hL a han
            have hna := netL_get (R := R) han
            have hnb : (List.range n)[b]? = some b := List.getElem?_range hbn
            simp (maxSteps := 1000000) (disch := omega) only [push_cast, go_sem, wpS_tt, wpS_tf, wpS_ft, wpS_ff, wpCond_tt, wpCond_ff, simprocAttr, han, hNl]
            refine callR.peek (hhas a) rfl rfl rfl ?_
            rw [intsN_has]
            cases hc2 : out.contains a
            · rw [hc2] at hLa
              simp (maxSteps := 1000000) (disch := omega) only [push_cast, go_sem, wpS_tt, wpS_tf, wpS_ft, wpS_ff, wpCond_tt, wpCond_ff, simprocAttr, hna, hNl, han, boolsV_eq, hnb, hbn, List.length_range]
              refine hJ3 (a + 1, !R a b) _ _ ⟨by dsimp only; omega, by dsimp only; rw [frB_succ, ← hfr, hLa]; simp⟩ (by dsimp only; omega) ?_
              (refine Less.start ?_; repeat (first | exact LessO.nil | exact LessO.all | refine LessO.skip (by decide) ?_ | refine LessO.upd ?_ ?_ | refine LessO.set ?_ ?_)) <;> (try simp (maxSteps := 1000000) (disch := omega) only [push_cast, go_sem, wpS_tt, wpS_tf, wpS_ft, wpS_ff, wpCond_tt, wpCond_ff, simprocAttr])
            · rw [hc2] at hLa
              simp (maxSteps := 1000000) (disch := omega) only [push_cast, go_sem, wpS_tt, wpS_tf, wpS_ft, wpS_ff, wpCond_tt, wpCond_ff, simprocAttr]
              refine hJ3 (a + 1, true) _ _ ⟨by dsimp only; omega, by dsimp only; rw [frB_succ, ← hfr, hLa]; rfl⟩ (by dsimp only; omega) ?_
              (refine Less.start ?_; repeat (first | exact LessO.nil | exact LessO.all | refine LessO.skip (by decide) ?_ | refine LessO.upd ?_ ?_ | refine LessO.set ?_ ?_)) <;> (try simp (maxSteps := 1000000) (disch := omega) only [push_cast, go_sem, wpS_tt, wpS_tf, wpS_ft, wpS_ff, wpCond_tt, wpCond_ff, simprocAttr])
          · have : a = n := by omega
            subst this
            have hfe : freeE R a L b = true := hfr.symm
            simp (maxSteps := 1000000) (disch := omega) only [push_cast, go_sem, wpS_tt, wpS_tf, wpS_ft, wpS_ff, wpCond_tt, wpCond_ff, simprocAttr, hNl]
            refine hJ2 (b + 1, some b) _ _ ⟨by dsimp only; omega, nofun, fun z hz => ?_⟩ (by dsimp only; omega) ?_
            · cases hz
              exact ⟨hbn, find_some hbn hfe hno'⟩
            · (refine Less.start ?_; repeat (first | exact LessO.nil | exact LessO.all | refine LessO.skip (by decide) ?_ | refine LessO.upd ?_ ?_ | refine LessO.set ?_ ?_)) <;> (try simp (maxSteps := 1000000) (disch := omega) only [push_cast, go_sem, wpS_tt, wpS_tf, wpS_ft, wpS_ff, wpCond_tt, wpCond_ff, simprocAttr])
              all_goals rfl
      · have : b = n := by omega
        subst this
        have hpk : pickE R b L = none := find_none hno'
        rw [hpk] at hline
        simp (maxSteps := 1000000) (disch := omega) only [push_cast, go_sem, wpS_tt, wpS_tf, wpS_ft, wpS_ff, wpCond_tt, wpCond_ff, simprocAttr, e1, hNl]
        intro g67
        refine ⟨_, Sub.rfl, .inr ⟨2, some g67, 0, 3, [], .bool false, rfl, rfl, by rw [hline]; rfl⟩⟩
end Go.Proofs.YtfdbminedccccaaGreatDoor
/-! ## The reference: which events must be ahead of which, the first way in which it holds of all who wait; OrderLine -/
namespace Go.Proofs.YtfdbminedccccaaGreatDoor
open Go.RowKit
set_option linter.unusedSimpArgs false
set_option linter.unusedVariables false
set_option pp.maxSteps 3000

def foundR (n : Nat) (out : Nat → Nat) : List (Nat × Nat) → (Nat → Nat → Bool) → (Nat → Nat → Bool) × Bool
  | [], R => (R, (lineE R n).isSome)
  | (e, i) :: l, R => if (lineE R n).isSome then (if (foundR n out l (wiR R (out i) e)).2 then foundR n out l (wiR R (out i) e) else foundR n out l (wiR R (e - 1) i)) else (R, false)
def foundV (n : Nat) (x : (Nat → Nat → Bool) × Bool) : V := .tuple [netE (netL x.1 n), .bool x.2]
theorem foundV_eq (n : Nat) (R : Nat → Nat → Bool) (b : Bool) : foundV n (R, b) = .tuple [.eptr [.sl ((netL R n).map boolsV)], .bool b] := rfl
theorem found_no {n : Nat} {out : Nat → Nat} {l : List (Nat × Nat)} {R : Nat → Nat → Bool} (h : lineE R n = none) : foundR n out l R = (R, false) := by
  cases l with
  | nil => rw [foundR, h]; rfl
  | cons q l => obtain ⟨e, i⟩ := q; rw [foundR, h]; rfl
/-- It is what the program settles. -/
theorem found_settle {n : Nat} {out : Nat → Nat} : ∀ {l : List (Nat × Nat)} {R : Nat → Nat → Bool}, (foundR n out l R).2 = (settleR n out l R).isSome ∧ ∀ r, settleR n out l R = some r → foundR n out l R = (r, true)
  | [], R => by
    rw [foundR, settleR]
    cases hl : (lineE R n).isSome
    · exact ⟨rfl, nofun⟩
    · exact ⟨rfl, fun r hr => by cases hr; rfl⟩
  | (e, i) :: l, R => by
    rw [foundR, settleR]
    obtain ⟨a1, a2⟩ := found_settle (n := n) (out := out) (l := l) (R := wiR R (out i) e)
    obtain ⟨b1, b2⟩ := found_settle (n := n) (out := out) (l := l) (R := wiR R (e - 1) i)
    cases hl : (lineE R n).isSome
    · exact ⟨rfl, nofun⟩
    · simp only [if_true]
      cases hs : settleR n out l (wiR R (out i) e) with
      | none =>
        rw [hs] at a1
        rw [a1]
        simp only [Option.isSome_none, Bool.false_eq_true, if_false, Option.none_or]
        exact ⟨b1, b2⟩
      | some r1 =>
        rw [hs] at a1
        rw [a1]
        simp only [Option.isSome_some, if_true, Option.some_or]
        exact ⟨a1, fun r hr => by cases hr; exact a2 r1 hs⟩
theorem ofound_fn (p : Prog) (g : Nat) (c4 c5 : V) (hok : progOk p = true) : ∀ (m frm : Nat) (R : Nat → Nat → Bool), (chRef p (events p).length).length - frm = m → frm ≤ (chRef p (events p).length).length →
    Fo Tryz.prog 50 [netE (netL R (events p).length), .int .i64 frm] g 6 (ordV p g (rdsV p) (wrtV p) c4 c5) (foundV (events p).length (foundR (events p).length (outA p) ((chRef p (events p).length).drop frm) R)) := by
  have hel := events_le hok
  have hsl : (scene p).ds.length = (events p).length := by simp [scene]
  have hcl := chRef_le p (by omega) (events p).length
  have hdo := fun a ha => odo_fn p g (rdsV p) (wrtV p) c4 c5 a ha
  have hout := fun i hi h7 => oouts_fn p g (rdsV p) (wrtV p) c4 c5 hok i hi h7
  have hpre := @chRef_pre p
  have hoq := fun i hi h7 => (outA_spec hok (i := i) hi h7).1.tl
  have hnx := @wait_next p
  rw [ordV_eq, rdsV_eq, wrtV_eq] at hdo hout
  obtain ⟨n, hnn⟩ : ∃ n, (events p).length = n := ⟨_, rfl⟩
  rw [hnn] at hsl hel hcl hdo hout hoq hnx ⊢
  obtain ⟨CL, hCL⟩ : ∃ l, chRef p n = l := ⟨_, rfl⟩
  rw [hCL] at hcl ⊢
  intro m
  induction m using Nat.strongRecOn with
  | _ m ih =>
  intro frm R hm hfl
  have hho := holds_fn R n (by omega)
  rw [ordV_eq, rdsV_eq, wrtV_eq] at ih ⊢
  rw [netE_eq] at hho
  refine Fc.start (S := []) Tryz.func50 Tryz.ntmps50 Tryz.results50 rfl (by decide) rfl (by kernel_rfl) ?_
  simp (maxSteps := 1000000) (disch := omega) only [push_cast, go_sem, wpS_tt, wpS_tf, wpS_ft, wpS_ff, wpCond_tt, wpCond_ff, simprocAttr, netE_eq]
  refine callR.pure hho rfl rfl ?_
  cases hl : lineE R n with
  | none =>
    simp (maxSteps := 1000000) (disch := omega) only [push_cast, go_sem, wpS_tt, wpS_tf, wpS_ft, wpS_ff, wpCond_tt, wpCond_ff, simprocAttr, Option.isSome_none]
    rw [found_no hl]
    refine ⟨_, ?_, rfl, rfl⟩
    ((repeat (first | exact Sub.no | refine Sub.set ?_ ?_)) <;> (try simp (disch := omega) only [push_cast, go_sem, wpS_tt, wpS_tf, wpS_ft, wpS_ff, wpCond_tt, wpCond_ff, simprocAttr]))
  | some ls =>
    simp (maxSteps := 1000000) (disch := omega) only [push_cast, go_sem, wpS_tt, wpS_tf, wpS_ft, wpS_ff, wpCond_tt, wpCond_ff, simprocAttr, Option.isSome_some]
    refine Sat.loop (σ := Nat) (fun w => upd (upd (upd (upd (upd noT 0 (.ptr 0 [] 0 0 g 6)) 1 (.eptr [.sl ((netL R n).map boolsV)])) 2 (.int .i64 frm)) 8 (.int .i64 (chRef p w).length)) 9 (.int .i64 w)) (fun w => noM.set 0 (.own 74 (some g) 1 [.agg [.sl (p.map thrV), .sl ((events p).map Evt.V), .sl ((scene p).ds.map fun d => .bool d.reads), .sl ((scene p).ds.map fun d => .bool d.writes), c4, c5]]))
      (fun w => w ≤ n ∧ (chRef p w).length ≤ frm) (fun w => n - w) 0 ⟨by omega, by simp [chRef]⟩ ?_ ?_
    · (refine Less.start ?_; repeat (first | exact LessO.nil | exact LessO.all | refine LessO.skip (by decide) ?_ | refine LessO.upd ?_ ?_ | refine LessO.set ?_ ?_)) <;> (try simp (maxSteps := 1000000) (disch := omega) only [push_cast, go_sem, wpS_tt, wpS_tf, wpS_ft, wpS_ff, wpCond_tt, wpCond_ff, simprocAttr])
      all_goals simp [chRef]
    rintro w ⟨hw, hwf⟩ J hJ
    refine Sat.of (S := []) (by kernel_rfl) ?_
    rcases Nat.lt_or_ge w n with hlt | hge
    · obtain ⟨ew, hew⟩ : ∃ e, (events p)[w]? = some e := ⟨_, List.getElem?_eq_getElem (by omega)⟩
      have hwe : w < (events p).length := by omega
      have hkw : kd (scene p).ds w = (dsA p w).k := rfl
      have hlw : ltA (events p) w = ew.l := by rw [ltA, hew]; rfl
      have hdw := hdo w hlt
      rw [Do.V_eq] at hdw
      simp (maxSteps := 1000000) (disch := omega) only [push_cast, go_sem, wpS_tt, wpS_tf, wpS_ft, wpS_ff, wpCond_tt, wpCond_ff, simprocAttr, hlt, hnn]
      refine callR.look hdw rfl rfl rfl ?_
      cases h9 : ((dsA p w).k == 9)
      · have h9' : ((dsA p w).k != 9) = true := by simp [bne, h9]
        simp (maxSteps := 1000000) (disch := omega) only [push_cast, go_sem, wpS_tt, wpS_tf, wpS_ft, wpS_ff, wpCond_tt, wpCond_ff, simprocAttr, h9']
        have hcs : (chRef p (w + 1)).length = (chRef p w).length := by rw [chRef_succ, hkw, h9]; simp
        refine hJ (w + 1) _ _ ⟨by omega, by omega⟩ (by omega) ?_
        rw [hcs]
        (refine Less.start ?_; repeat (first | exact LessO.nil | exact LessO.all | refine LessO.skip (by decide) ?_ | refine LessO.upd ?_ ?_ | refine LessO.set ?_ ?_)) <;> (try simp (maxSteps := 1000000) (disch := omega) only [push_cast, go_sem, wpS_tt, wpS_tf, wpS_ft, wpS_ff, wpCond_tt, wpCond_ff, simprocAttr])
      have h9' : ((dsA p w).k != 9) = false := by simp [bne, h9]
      cases hll : ew.l
      rotate_left
      · simp (maxSteps := 1000000) (disch := omega) only [push_cast, go_sem, wpS_tt, wpS_tf, wpS_ft, wpS_ff, wpCond_tt, wpCond_ff, simprocAttr, h9', hew, hwe, Evt.V_eq, hll]
        have hcs : (chRef p (w + 1)).length = (chRef p w).length := by rw [chRef_succ, hlw, hll]; simp
        refine hJ (w + 1) _ _ ⟨by omega, by omega⟩ (by omega) ?_
        rw [hcs]
        (refine Less.start ?_; repeat (first | exact LessO.nil | exact LessO.all | refine LessO.skip (by decide) ?_ | refine LessO.upd ?_ ?_ | refine LessO.set ?_ ?_)) <;> (try simp (maxSteps := 1000000) (disch := omega) only [push_cast, go_sem, wpS_tt, wpS_tf, wpS_ft, wpS_ff, wpCond_tt, wpCond_ff, simprocAttr])
      simp (maxSteps := 1000000) (disch := omega) only [push_cast, go_sem, wpS_tt, wpS_tf, wpS_ft, wpS_ff, wpCond_tt, wpCond_ff, simprocAttr, h9', hew, hwe, Evt.V_eq, hll]
      have h9k : kd (scene p).ds w = 9 := by rw [hkw]; simpa using h9
      have hlwf : ltA (events p) w = false := by rw [hlw, hll]
      have hw1 := (hnx hlt h9k hlwf).1
      refine Sat.loop (σ := Nat) (fun j => upd (upd (upd (upd (upd (upd noT 0 (.ptr 0 [] 0 0 g 6)) 1 (.eptr [.sl ((netL R n).map boolsV)])) 2 (.int .i64 frm)) 8 (.int .i64 ((chRef p w).length + (chIn (scene p).ds (w + 1) j).length : Nat))) 9 (.int .i64 w)) 10 (.int .i64 j)) (fun _ => noM.set 0 (.own 74 (some g) 1 [.agg [.sl (p.map thrV), .sl ((events p).map Evt.V), .sl ((scene p).ds.map fun d => .bool d.reads), .sl ((scene p).ds.map fun d => .bool d.writes), c4, c5]]))
        (fun j => j ≤ n ∧ (chRef p w).length + (chIn (scene p).ds (w + 1) j).length ≤ frm) (fun j => n - j) 0 ⟨by omega, by simpa [chIn] using hwf⟩ ?_ ?_
      · (refine Less.start ?_; repeat (first | exact LessO.nil | exact LessO.all | refine LessO.skip (by decide) ?_ | refine LessO.upd ?_ ?_ | refine LessO.set ?_ ?_)) <;> (try simp (maxSteps := 1000000) (disch := omega) only [push_cast, go_sem, wpS_tt, wpS_tf, wpS_ft, wpS_ff, wpCond_tt, wpCond_ff, simprocAttr])
        all_goals simp [chIn]
      rintro j ⟨hj, hjf⟩ J2 hJ2
      refine Sat.of (S := []) (by kernel_rfl) ?_
      have hcw := chRef_le p (by omega) w
      have hci := chIn_le (scene p).ds (w + 1) j
      rcases Nat.lt_or_ge j n with hlt2 | hge2
      · have hkj : kd (scene p).ds j = (dsA p j).k := rfl
        have hdj := hdo j hlt2
        rw [Do.V_eq] at hdj
        simp (maxSteps := 1000000) (disch := omega) only [push_cast, go_sem, wpS_tt, wpS_tf, wpS_ft, wpS_ff, wpCond_tt, wpCond_ff, simprocAttr, hlt2, hnn]
        refine callR.look hdj rfl rfl rfl ?_
        cases h7 : ((dsA p j).k == 7)
        · have h7' : ((dsA p j).k != 7) = true := by simp [bne, h7]
          simp (maxSteps := 1000000) (disch := omega) only [push_cast, go_sem, wpS_tt, wpS_tf, wpS_ft, wpS_ff, wpCond_tt, wpCond_ff, simprocAttr, h7']
          have hcs : (chIn (scene p).ds (w + 1) (j + 1)).length = (chIn (scene p).ds (w + 1) j).length := by rw [chIn_succ, hkj, h7]; simp
          refine hJ2 (j + 1) _ _ ⟨by omega, by omega⟩ (by omega) ?_
          rw [hcs]
          (refine Less.start ?_; repeat (first | exact LessO.nil | exact LessO.all | refine LessO.skip (by decide) ?_ | refine LessO.upd ?_ ?_ | refine LessO.set ?_ ?_)) <;> (try simp (maxSteps := 1000000) (disch := omega) only [push_cast, go_sem, wpS_tt, wpS_tf, wpS_ft, wpS_ff, wpCond_tt, wpCond_ff, simprocAttr])
        have h7' : ((dsA p j).k != 7) = false := by simp [bne, h7]
        have h7k : kd (scene p).ds j = 7 := by rw [hkj]; simpa using h7
        rcases Nat.lt_or_ge ((chRef p w).length + (chIn (scene p).ds (w + 1) j).length) frm with hcf | hcf
        · have hng : ¬ ((frm : Int) < ((chRef p w).length : Int) + ((chIn (scene p).ds (w + 1) j).length : Int) + 1) := by omega
          simp (maxSteps := 1000000) (disch := omega) only [push_cast, go_sem, wpS_tt, wpS_tf, wpS_ft, wpS_ff, wpCond_tt, wpCond_ff, simprocAttr, h7', hng]
          have hcs : (chIn (scene p).ds (w + 1) (j + 1)).length = (chIn (scene p).ds (w + 1) j).length + 1 := by rw [chIn_succ, hkj, h7]; simp
          refine hJ2 (j + 1) _ _ ⟨by omega, by omega⟩ (by omega) ?_
          rw [hcs]
          (refine Less.start ?_; repeat (first | exact LessO.nil | exact LessO.all | refine LessO.skip (by decide) ?_ | refine LessO.upd ?_ ?_ | refine LessO.set ?_ ?_)) <;> (try simp (maxSteps := 1000000) (disch := omega) only [push_cast, go_sem, wpS_tt, wpS_tf, wpS_ft, wpS_ff, wpCond_tt, wpCond_ff, simprocAttr])
          all_goals omega
        · have hg : ((frm : Int) < ((chRef p w).length : Int) + ((chIn (scene p).ds (w + 1) j).length : Int) + 1) := by omega
          obtain ⟨r, hr⟩ := hpre h9k hlwf h7k (by omega) hlt
          rw [hCL] at hr
          have hfe : frm = (chRef p w ++ chIn (scene p).ds (w + 1) j).length := by rw [List.length_append]; omega
          have hd0 : CL.drop frm = (w + 1, j) :: r := by rw [hr, hfe]; exact List.drop_left
          have hd1 : CL.drop (frm + 1) = r := by rw [← List.drop_drop, hd0]; rfl
          have hfl1 : frm + 1 ≤ CL.length := by rw [hr, List.length_append, ← hfe]; simp
          have ho := hout j hlt2 h7k
          have hoj := hoq j hlt2 h7k
          have hw2 := nwith_fn R n (outA p j) (w + 1) (by omega) hoj hw1
          have hw3 := nwith_fn R n w j (by omega) hlt hlt2
          have ih1 := ih (m - 1) (by omega) (frm + 1) (wiR R (outA p j) (w + 1)) (by omega) hfl1
          have ih2 := ih (m - 1) (by omega) (frm + 1) (wiR R w j) (by omega) hfl1
          rw [hd1, netE_eq] at ih1 ih2
          rw [show ((frm + 1 : Nat) : Int) = (frm : Int) + 1 by omega] at ih1 ih2
          rw [show ((w + 1 : Nat) : Int) = (w : Int) + 1 by omega] at hw2
          rw [netE_eq, netE_eq] at hw2 hw3
          have hset : foundR n (outA p) (CL.drop frm) R = (if (foundR n (outA p) r (wiR R (outA p j) (w + 1))).2 then foundR n (outA p) r (wiR R (outA p j) (w + 1)) else foundR n (outA p) r (wiR R w j)) := by rw [hd0, foundR, hl]; rfl
          rw [hset]
          simp (maxSteps := 1000000) (disch := omega) only [push_cast, go_sem, wpS_tt, wpS_tf, wpS_ft, wpS_ff, wpCond_tt, wpCond_ff, simprocAttr, h7', hg]
          refine callR.look ho rfl rfl rfl ?_
          simp (maxSteps := 1000000) (disch := omega) only [push_cast, go_sem, wpS_tt, wpS_tf, wpS_ft, wpS_ff, wpCond_tt, wpCond_ff, simprocAttr]
          refine callR.pure hw2 rfl rfl ?_
          simp (maxSteps := 1000000) (disch := omega) only [push_cast, go_sem, wpS_tt, wpS_tf, wpS_ft, wpS_ff, wpCond_tt, wpCond_ff, simprocAttr]
          refine callR.look ih1 rfl rfl rfl ?_
          obtain ⟨⟨R1, b1⟩, hf1⟩ : ∃ x, foundR n (outA p) r (wiR R (outA p j) (w + 1)) = x := ⟨_, rfl⟩
          obtain ⟨⟨R2, b2⟩, hf2⟩ : ∃ x, foundR n (outA p) r (wiR R w j) = x := ⟨_, rfl⟩
          rw [hf1, hf2]
          rw [hf2] at ih2
          cases b1 with
          | true =>
            simp (maxSteps := 1000000) (disch := omega) only [push_cast, go_sem, wpS_tt, wpS_tf, wpS_ft, wpS_ff, wpCond_tt, wpCond_ff, simprocAttr, foundV_eq]
            refine ⟨_, ?_, rfl⟩
            ((repeat (first | exact Sub.no | refine Sub.set ?_ ?_)) <;> (try simp (disch := omega) only [push_cast, go_sem, wpS_tt, wpS_tf, wpS_ft, wpS_ff, wpCond_tt, wpCond_ff, simprocAttr]))
          | false =>
            simp (maxSteps := 1000000) (disch := omega) only [push_cast, go_sem, wpS_tt, wpS_tf, wpS_ft, wpS_ff, wpCond_tt, wpCond_ff, simprocAttr, foundV_eq]
            refine callR.pure hw3 rfl rfl ?_
            simp (maxSteps := 1000000) (disch := omega) only [push_cast, go_sem, wpS_tt, wpS_tf, wpS_ft, wpS_ff, wpCond_tt, wpCond_ff, simprocAttr]
            refine callR.look ih2 rfl rfl rfl ?_
            simp (maxSteps := 1000000) (disch := omega) only [push_cast, go_sem, wpS_tt, wpS_tf, wpS_ft, wpS_ff, wpCond_tt, wpCond_ff, simprocAttr, foundV_eq]
            refine ⟨_, ?_, rfl⟩
            ((repeat (first | exact Sub.no | refine Sub.set ?_ ?_)) <;> (try simp (disch := omega) only [push_cast, go_sem, wpS_tt, wpS_tf, wpS_ft, wpS_ff, wpCond_tt, wpCond_ff, simprocAttr]))
      · have : j = n := by omega
        subst this
        simp (maxSteps := 1000000) (disch := omega) only [push_cast, go_sem, wpS_tt, wpS_tf, wpS_ft, wpS_ff, wpCond_tt, wpCond_ff, simprocAttr, hnn]
        have hcs : (chRef p (w + 1)).length = (chRef p w).length + (chIn (scene p).ds (w + 1) j).length := by rw [chRef_succ, hkw, h9, hlwf, hsl]; simp
        refine hJ (w + 1) _ _ ⟨by omega, by omega⟩ (by omega) ?_
        rw [hcs]
        (refine Less.start ?_; repeat (first | exact LessO.nil | exact LessO.all | refine LessO.skip (by decide) ?_ | refine LessO.upd ?_ ?_ | refine LessO.set ?_ ?_)) <;> (try simp (maxSteps := 1000000) (disch := omega) only [push_cast, go_sem, wpS_tt, wpS_tf, wpS_ft, wpS_ff, wpCond_tt, wpCond_ff, simprocAttr])
    · have : w = n := by omega
      subst this
      simp (maxSteps := 1000000) (disch := omega) only [push_cast, go_sem, wpS_tt, wpS_tf, wpS_ft, wpS_ff, wpCond_tt, wpCond_ff, simprocAttr, hnn]
      have : frm = CL.length := by rw [hCL] at hwf; omega
      rw [this, List.drop_length, foundR, hl]
      refine ⟨_, ?_, rfl, rfl⟩
      ((repeat (first | exact Sub.no | refine Sub.set ?_ ?_)) <;> (try simp (disch := omega) only [push_cast, go_sem, wpS_tt, wpS_tf, wpS_ft, wpS_ff, wpCond_tt, wpCond_ff, simprocAttr]))

theorem settle_line {n : Nat} {out : Nat → Nat} : ∀ {l : List (Nat × Nat)} {R r : Nat → Nat → Bool}, settleR n out l R = some r → (lineE r n).isSome = true
  | [], R, r, h => by
    rw [settleR] at h
    cases hl : (lineE R n).isSome
    · rw [hl] at h; cases h
    · rw [hl] at h; cases h; exact hl
  | (e, i) :: l, R, r, h => by
    rw [settleR] at h
    cases hl : (lineE R n).isSome
    · rw [hl] at h; cases h
    · rw [hl] at h
      simp only [if_true] at h
      rcases Option.or_eq_some_iff.1 h with h | ⟨_, h⟩
      · exact settle_line h
      · exact settle_line h
/-- All events in a line that an order allows. -/
def lineS (p : Prog) (x : Exe) (kind : Int) : Option (List Nat) := if holdsS p x kind then (settledS p x kind).bind fun r => lineE r (events p).length else none
theorem lineS_yes {p : Prog} {x : Exe} {kind : Int} (h : holdsS p x kind = true) : ∃ r l, settledS p x kind = some r ∧ settleR (events p).length (outA p) (chRef p (events p).length) (netR p x kind) = some r ∧ lineE r (events p).length = some l ∧ lineS p x kind = some l := by
  rw [lineS, h]
  simp only [holdsS, Bool.and_eq_true] at h
  obtain ⟨r, hr⟩ := Option.isSome_iff_exists.1 h.2
  have hr2 := hr
  rw [settledS] at hr2
  split at hr2
  · obtain ⟨l, hl⟩ := Option.isSome_iff_exists.1 (settle_line hr2)
    exact ⟨r, l, hr, hr2, hl, by rw [hr]; exact hl⟩
  · cases hr2
theorem lineW_some (l : List Nat) : lineW (some l) = .tuple [.sl ((intsN l).map (V.int .i64)), .bool true] := rfl
theorem specOrderLine_fn (p : Prog) (x : Exe) (kind : Int) (hp : p.length < 2 ^ 40) (hx : x.small) : Fp Tryz.prog 20 [progV p, x.V, .int .i64 kind] (lineW (lineS p x kind)) := by
  have h1 := specOrderHolds_fn p x kind hp hx
  rw [progV_eq, Exe.V_eq] at h1
  refine Fp.fzT ?_
  refine Fc.start (S := [5]) Tryz.func20 Tryz.ntmps20 Tryz.results20 rfl (by decide) rfl (by kernel_rfl) ?_
  simp (maxSteps := 1000000) (disch := omega) only [push_cast, go_sem, wpS_tt, wpS_tf, wpS_ft, wpS_ff, wpCond_tt, wpCond_ff, simprocAttr, progV_eq, Exe.V_eq]
  intro g3 g4
  refine callR.pure h1 rfl rfl ?_
  cases hh : holdsS p x kind
  · simp (maxSteps := 1000000) (disch := omega) only [push_cast, go_sem, wpS_tt, wpS_tf, wpS_ft, wpS_ff, wpCond_tt, wpCond_ff, simprocAttr]
    intro g16
    refine ⟨noM.set 6 (.own 3 (some g16) 0 []), Sub.set Sub.no rfl, .inr ⟨6, some g16, 0, 3, [], .bool false, rfl, rfl, by rw [lineS, hh]; rfl⟩⟩
  obtain ⟨r, l, hr1, hr2, hl, hls⟩ := lineS_yes hh
  have hh' := hh
  simp only [holdsS, Bool.and_eq_true] at hh'
  have hw : Way p x := Way.of (by rw [ok_eq]; exact hh'.1.1)
  have hpk := hw.ok
  have hel := events_le hpk
  have hsl : (scene p).ds.length = (events p).length := by simp [scene]
  have hfr : x.fr.length = (events p).length := by rw [hw.fr, hsl]
  have hlk := olook_fn p hp hpk
  rw [progV_eq] at hlk
  simp (maxSteps := 1000000) (disch := omega) only [push_cast, go_sem, wpS_tt, wpS_tf, wpS_ft, wpS_ff, wpCond_tt, wpCond_ff, simprocAttr]
  refine callR.new hlk rfl rfl ?_
  rintro r0 ob ⟨g, rfl, rfl⟩
  simp (maxSteps := 1000000) (disch := omega) only [push_cast, go_sem, wpS_tt, wpS_tf, wpS_ft, wpS_ff, wpCond_tt, wpCond_ff, simprocAttr, ordV_eq]
  have hway := oway_fn p x g hpk hfr hw.od hx.row
  rw [ordV_eq, rdsV_eq, wrtV_eq, Exe.V_eq] at hway
  rw [rdsV_eq, wrtV_eq]
  refine callR.mod hway rfl rfl rfl ?_
  rintro r0 ob ⟨gr, rfl, rfl⟩
  simp (maxSteps := 1000000) (disch := omega) only [push_cast, go_sem, wpS_tt, wpS_tf, wpS_ft, wpS_ff, wpCond_tt, wpCond_ff, simprocAttr, ordV_eq]
  have hnk := onet_fn p g (.sl (x.fr.map (V.int .i64))) (.sl (((List.range (events p).length).map (rankS p x)).map (V.int .i64))) hel kind
  have hwk := owhole_fn p x g (staysS p kind) hel hfr (ds_place hpk) kind
  have hfo := ofound_fn p g (.sl (x.fr.map (V.int .i64))) (.sl (((List.range (events p).length).map (rankS p x)).map (V.int .i64))) hpk _ 0 (netR p x kind) rfl (by omega)
  have hli := nline_fn r (events p).length (by omega)
  rw [List.drop_zero, found_settle.2 r hr2, foundV_eq, ordV_eq, rdsV_eq, wrtV_eq, netE_eq] at hfo
  rw [ordV_eq, rdsV_eq, wrtV_eq, netE_eq] at hnk
  rw [ordV_eq, rdsV_eq, wrtV_eq, netE_eq, netE_eq] at hwk
  rw [show bothR (staysS p kind) (toldS p x kind) = netR p x kind from rfl] at hwk
  rw [netE_eq, hl, lineW_some] at hli
  refine Sat.freezeC 8 [] 0 5 (n0 := .own 74 (some g) 1 [.agg [.sl (p.map thrV), .sl ((events p).map Evt.V), .sl ((scene p).ds.map fun d => .bool d.reads), .sl ((scene p).ds.map fun d => .bool d.writes), .sl (x.fr.map (V.int .i64)), .own 3 (some gr) (events p).length (((List.range (events p).length).map (rankS p x)).map (V.int .i64))]])
    (d := .own 3 (some gr) (events p).length (((List.range (events p).length).map (rankS p x)).map (V.int .i64))) ?_ rfl rfl ?_
  · rfl
  have e1 : (V.own 3 (some gr) (events p).length (((List.range (events p).length).map (rankS p x)).map (V.int .i64))).fz = .sl (((List.range (events p).length).map (rankS p x)).map (V.int .i64)) := by simp only [V.fz, fzs_map, fzs_int]
  rw [e1]
  generalize ((List.range (events p).length).map (rankS p x)).map (V.int .i64) = rk at hnk hwk hfo ⊢
  refine Sat.of (S := []) (by kernel_rfl) ?_
  simp (maxSteps := 1000000) (disch := omega) only [push_cast, go_sem, wpS_tt, wpS_tf, wpS_ft, wpS_ff, wpCond_tt, wpCond_ff, simprocAttr]
  refine callR.look hnk rfl rfl rfl ?_
  simp (maxSteps := 1000000) (disch := omega) only [push_cast, go_sem, wpS_tt, wpS_tf, wpS_ft, wpS_ff, wpCond_tt, wpCond_ff, simprocAttr]
  refine callR.look hwk rfl rfl rfl ?_
  simp (maxSteps := 1000000) (disch := omega) only [push_cast, go_sem, wpS_tt, wpS_tf, wpS_ft, wpS_ff, wpCond_tt, wpCond_ff, simprocAttr]
  refine callR.look hfo rfl rfl rfl ?_
  simp (maxSteps := 1000000) (disch := omega) only [push_cast, go_sem, wpS_tt, wpS_tf, wpS_ft, wpS_ff, wpCond_tt, wpCond_ff, simprocAttr]
  refine callR.pure hli rfl rfl ?_
  simp (maxSteps := 1000000) (disch := omega) only [push_cast, go_sem, wpS_tt, wpS_tf, wpS_ft, wpS_ff, wpCond_tt, wpCond_ff, simprocAttr]
  exact ⟨noM, Sub.no, .inl ⟨by rw [hls]; rfl, rfl⟩⟩
theorem natE_map (l : List Nat) : l.map natE = (intsN l).map (V.int .i64) := by rw [intsN, List.map_map]; rfl
theorem implOrderLine_fn (p : Prog) (x : Exe) (kind : Int) (hp : p.length < 2 ^ 40) (hl : ∀ l ∈ p, l.length < 2 ^ 40) (hx : x.small) : Fp Tryz.prog 21 [progV p, x.V, .int .i64 kind] (lineV (lineS p x kind)) := by
  have h1 := implExecOk_fn p x hp hl hx
  rw [ok_eq] at h1
  rw [lineS, holdsS]
  refine Fp.nilT ?_
  refine Fc.start (S := []) Tryz.func21 Tryz.ntmps21 Tryz.results21 rfl (by decide) rfl (by kernel_rfl) ?_
  simp (maxSteps := 1000000) (disch := omega) only [push_cast, go_sem, wpS_tt, wpS_tf, wpS_ft, wpS_ff, wpCond_tt, wpCond_ff, simprocAttr, progV_eq, Exe.V_eq]
  intro g3 g4
  refine callR.pure h1 rfl rfl ?_
  cases hok : specOk p x
  · simp (maxSteps := 1000000) (disch := omega) only [push_cast, go_sem, wpS_tt, wpS_tf, wpS_ft, wpS_ff, wpCond_tt, wpCond_ff, simprocAttr]
    exact .inr ⟨6, [], .bool false, rfl, rfl⟩
  have hw : Way p x := Way.of (by rw [ok_eq]; exact hok)
  have hpk := hw.ok
  have hel := events_le hpk
  simp (maxSteps := 1000000) (disch := omega) only [push_cast, go_sem, wpS_tt, wpS_tf, wpS_ft, wpS_ff, wpCond_tt, wpCond_ff, simprocAttr]
  refine callR.pure (isOrd_fn kind) rfl rfl ?_
  cases hk : inB kind 1 3
  · simp (maxSteps := 1000000) (disch := omega) only [push_cast, go_sem, wpS_tt, wpS_tf, wpS_ft, wpS_ff, wpCond_tt, wpCond_ff, simprocAttr]
    exact .inr ⟨6, [], .bool false, rfl, rfl⟩
  have hs := settled_fn p x kind hw hx hk
  have hsc := sceneOf_fn p hpk
  rw [Exe.V_eq] at hs
  rw [Sc.V_eq] at hs hsc
  cases hr : settledS p x kind with
  | none =>
    rw [hr, no_settle] at hs
    simp (maxSteps := 1000000) (disch := omega) only [push_cast, go_sem, wpS_tt, wpS_tf, wpS_ft, wpS_ff, wpCond_tt, wpCond_ff, simprocAttr]
    refine Sat.drawnE [] [] [0, 1, 2, 4] (pureT [(29, (.agg [.sl ((scene p).p.map thrV), .sl ((scene p).es.map Evt.V), .sl ((scene p).ds.map Do.V)])), (30, .tuple [.nilsl, .bool false])]) (by kernel_rfl) (by kernel_rfl) ?_
    simp (maxSteps := 1000000) (disch := omega) only [push_cast, go_sem, wpS_tt, wpS_tf, wpS_ft, wpS_ff, wpCond_tt, wpCond_ff, simprocAttr]
    refine runD_pure rfl hsc rfl rfl ?_ ?_
    · rfl
    simp (maxSteps := 1000000) (disch := omega) only [push_cast, go_sem, wpS_tt, wpS_tf, wpS_ft, wpS_ff, wpCond_tt, wpCond_ff, simprocAttr]
    refine runD_pure rfl hs rfl rfl ?_ ?_
    · rfl
    simp (maxSteps := 1000000) (disch := omega) only [push_cast, go_sem, wpS_tt, wpS_tf, wpS_ft, wpS_ff, wpCond_tt, wpCond_ff, simprocAttr]
    exact .inr ⟨6, [], .bool false, rfl, rfl⟩
  | some r =>
    have hr2 := hr
    rw [settledS] at hr2
    split at hr2
    rotate_left
    · cases hr2
    obtain ⟨l, hll⟩ := Option.isSome_iff_exists.1 (settle_line hr2)
    have hli := lineR_fn r (events p).length (by omega)
    rw [bitsV_eq, hll, ok_line] at hli
    rw [hr, some_settle] at hs
    simp (maxSteps := 1000000) (disch := omega) only [push_cast, go_sem, wpS_tt, wpS_tf, wpS_ft, wpS_ff, wpCond_tt, wpCond_ff, simprocAttr]
    refine Sat.drawnE [] [] [0, 1, 2, 4] (pureT [(29, (.agg [.sl ((scene p).p.map thrV), .sl ((scene p).es.map Evt.V), .sl ((scene p).ds.map Do.V)])), (30, .tuple [.sl ((graphL r (events p).length).map bitE), .bool true])]) (by kernel_rfl) (by kernel_rfl) ?_
    simp (maxSteps := 1000000) (disch := omega) only [push_cast, go_sem, wpS_tt, wpS_tf, wpS_ft, wpS_ff, wpCond_tt, wpCond_ff, simprocAttr]
    refine runD_pure rfl hsc rfl rfl ?_ ?_
    · rfl
    simp (maxSteps := 1000000) (disch := omega) only [push_cast, go_sem, wpS_tt, wpS_tf, wpS_ft, wpS_ff, wpCond_tt, wpCond_ff, simprocAttr]
    refine runD_pure rfl hs rfl rfl ?_ ?_
    · rfl
    simp (maxSteps := 1000000) (disch := omega) only [push_cast, go_sem, wpS_tt, wpS_tf, wpS_ft, wpS_ff, wpCond_tt, wpCond_ff, simprocAttr]
    refine callR.pure hli rfl rfl ?_
    simp (maxSteps := 1000000) (disch := omega) only [push_cast, go_sem, wpS_tt, wpS_tf, wpS_ft, wpS_ff, wpCond_tt, wpCond_ff, simprocAttr]
    left
    rw [hll]; rfl
end Go.Proofs.YtfdbminedccccaaGreatDoor
/-! ## The law's helpers: whether numbers are the same; whether ways are -/
namespace Go.Proofs.YtfdbminedccccaaGreatDoor
open Go.RowKit
set_option linter.unusedSimpArgs false
set_option linter.unusedVariables false
set_option pp.maxSteps 3000

theorem list_eq_drop {α : Type} [BEq α] [LawfulBEq α] {a b : List α} {k : Nat} (hl : a.length = b.length) (h : ∀ (j : Nat) (x y : α), j < k → a[j]? = some x → b[j]? = some y → (x == y) = true) (hk : a.length ≤ k) : a = b := by
  apply List.ext_getElem hl
  intro j h1 h2
  exact beq_iff_eq.1 (h j _ _ (by omega) (List.getElem?_eq_getElem h1) (List.getElem?_eq_getElem h2))
theorem list_ne_at {α : Type} {a b : List α} {k : Nat} {x y : α} (hx : a[k]? = some x) (hy : b[k]? = some y) (h : x ≠ y) : a ≠ b := fun e => by
  rw [e, hy] at hx; cases hx; exact h rfl
theorem lpInts_fn (a b : List Int) (ha : a.length < 2 ^ 40) (hb : b.length < 2 ^ 40) : Fp Tryz.prog 15 [intsV a, intsV b] (.bool (decide (a = b))) := by
  refine Fc.start (S := [8]) Tryz.func15 Tryz.ntmps15 Tryz.results15 rfl (by decide) rfl (by kernel_rfl) ?_
  cases hl : ((a.length : Int) != b.length)
  rotate_left
  · simp (maxSteps := 1000000) (disch := omega) only [push_cast, go_sem, wpS_tt, wpS_tf, wpS_ft, wpS_ff, wpCond_tt, wpCond_ff, simprocAttr, intsV_eq, hl]
    have : ¬ a = b := fun h => by rw [h] at hl; simp at hl
    simp [this]
  have hl' : a.length = b.length := by have : (a.length : Int) = b.length := by simpa using hl
                                       omega
  simp (maxSteps := 1000000) (disch := omega) only [push_cast, go_sem, wpS_tt, wpS_tf, wpS_ft, wpS_ff, wpCond_tt, wpCond_ff, simprocAttr, intsV_eq, hl]
  refine Sat.loop (σ := Nat) (fun k => upd (upd (upd noT 0 (.sl (a.map (V.int .i64)))) 1 (.sl (b.map (V.int .i64)))) 5 (.int .i64 k)) (fun _ => noM)
    (fun k => k ≤ a.length ∧ ∀ (j : Nat) (x y : Int), j < k → a[j]? = some x → b[j]? = some y → (x == y) = true) (fun k => a.length - k) 0 (by simp) ?_ ?_
  · (refine Less.start ?_; repeat (first | exact LessO.nil | exact LessO.all | refine LessO.skip (by decide) ?_ | refine LessO.upd ?_ ?_ | refine LessO.set ?_ ?_)) <;> (try simp (maxSteps := 1000000) (disch := omega) only [push_cast, go_sem, wpS_tt, wpS_tf, wpS_ft, wpS_ff, wpCond_tt, wpCond_ff, simprocAttr])
  rintro k ⟨hk, hall⟩ J hJ
  refine Sat.of (S := []) (by kernel_rfl) ?_
  rcases Nat.lt_or_ge k a.length with hlt | hge
  · obtain ⟨x, hx⟩ : ∃ x, a[k]? = some x := ⟨_, List.getElem?_eq_getElem hlt⟩
    have hltb : k < b.length := by omega
    obtain ⟨y, hy⟩ : ∃ y, b[k]? = some y := ⟨_, List.getElem?_eq_getElem hltb⟩
    cases hne : (x != y)
    · simp (maxSteps := 1000000) (disch := omega) only [push_cast, go_sem, wpS_tt, wpS_tf, wpS_ft, wpS_ff, wpCond_tt, wpCond_ff, simprocAttr, hlt]
      refine Sat.drawnE [] [] [3, 7] (fun _ _ _ => none) (by kernel_rfl) (by kernel_rfl) ?_
      simp (maxSteps := 1000000) (disch := omega) only [push_cast, go_sem, wpS_tt, wpS_tf, wpS_ft, wpS_ff, wpCond_tt, wpCond_ff, simprocAttr, hx, hy, hlt, hltb, hne]
      refine hJ (k + 1) _ _ ⟨by omega, fun j x' y' hj h1 h2 => ?_⟩ (by omega) ?_
      · rcases Nat.lt_or_ge j k with h | h
        · exact hall j x' y' h h1 h2
        · have : j = k := by omega
          subst this; rw [hx] at h1; rw [hy] at h2; cases h1; cases h2
          simpa only [bne, Bool.not_eq_false'] using hne
      · (refine Less.start ?_; repeat (first | exact LessO.nil | exact LessO.all | refine LessO.skip (by decide) ?_ | refine LessO.upd ?_ ?_ | refine LessO.set ?_ ?_)) <;> (try simp (maxSteps := 1000000) (disch := omega) only [push_cast, go_sem, wpS_tt, wpS_tf, wpS_ft, wpS_ff, wpCond_tt, wpCond_ff, simprocAttr])
    · simp (maxSteps := 1000000) (disch := omega) only [push_cast, go_sem, wpS_tt, wpS_tf, wpS_ft, wpS_ff, wpCond_tt, wpCond_ff, simprocAttr, hlt]
      refine Sat.drawnE [] [] [3, 7] (fun _ _ _ => none) (by kernel_rfl) (by kernel_rfl) ?_
      simp (maxSteps := 1000000) (disch := omega) only [push_cast, go_sem, wpS_tt, wpS_tf, wpS_ft, wpS_ff, wpCond_tt, wpCond_ff, simprocAttr, hx, hy, hlt, hltb, hne]
      have : ¬ a = b := list_ne_at hx hy (by simpa using hne)
      simp [this]
  · have hkl : k = a.length := by omega
    subst hkl
    simp (maxSteps := 1000000) (disch := omega) only [push_cast, go_sem, wpS_tt, wpS_tf, wpS_ft, wpS_ff, wpCond_tt, wpCond_ff, simprocAttr]
    refine Sat.of (S := []) (by kernel_rfl) ?_
    simp (maxSteps := 1000000) (disch := omega) only [push_cast, go_sem, wpS_tt, wpS_tf, wpS_ft, wpS_ff, wpCond_tt, wpCond_ff, simprocAttr]
    have : a = b := list_eq_drop hl' hall (Nat.le_refl _)
    simp [this]

instance : DecidableEq Exe := fun x y => decidable_of_iff (x.fr = y.fr ∧ x.od = y.od) (by cases x; cases y; simp)
end Go.Proofs.YtfdbminedccccaaGreatDoor
/-! ## Draws: a program, a way and an order by which it holds, mostly -/
namespace Go.Proofs.YtfdbminedccccaaGreatDoor
open Go.RowKit
set_option linter.unusedSimpArgs false
set_option linter.unusedVariables false
set_option pp.maxSteps 3000

theorem elim_len {R : Nat → Nat → Bool} {n : Nat} : ∀ {k : Nat} {L : Nat → Bool} {l : List Nat}, elimE R n k L = some l → l.length = k
  | 0, L, l, h => by rw [elimE] at h; cases h; rfl
  | k + 1, L, l, h => by
    rw [elimE] at h
    split at h
    · cases h
    · rename_i b hb
      obtain ⟨l', h1, rfl⟩ := Option.map_eq_some_iff.1 h
      rw [List.length_cons, elim_len h1]
theorem line_len {R : Nat → Nat → Bool} {n : Nat} {l : List Nat} (h : lineE R n = some l) : l.length = n := elim_len h
theorem few_small {y : Exe} (hy : y.few) : y.small := ⟨by have := hy.fr; omega, by have := hy.od; omega, fun r hr => by have := hy.row r hr; omega⟩
theorem l71Hold_rd (bs : List Int) (hb : Bytes bs) (g p : Nat) (hp : p < 2 ^ 20) : Fr Tryz.prog 49 [] g (rdO bs g p)
    (fun r o' => ∃ (x : Prog) (y : Exe) (kind : Int), r = .tuple [progV x, y.V, .int .i64 kind] ∧ x.length ≤ 3 ∧ (∀ l ∈ x, l.length < 2 ^ 11) ∧ y.few ∧ ∃ q, p ≤ q ∧ q ≤ p + 2 ^ 26 ∧ o' = rdO bs g q) := by
  refine Fc.start (S := []) Tryz.func49 Tryz.ntmps49 Tryz.results49 rfl (by decide) rfl (by kernel_rfl) ?_
  simp (maxSteps := 1000000) (disch := omega) only [push_cast, go_sem, wpS_tt, wpS_tf, wpS_ft, wpS_ff, wpCond_tt, wpCond_ff, simprocAttr]
  intro g2 g3
  refine callR.rd (l71Exec_rd bs hb g p (by omega)) rfl rfl rfl ?_
  rintro r o' ⟨x, y, rfl, hx1, hx2, hy, q, hq1, hq2, rfl⟩
  simp (maxSteps := 1000000) (disch := omega) only [push_cast, go_sem, wpS_tt, wpS_tf, wpS_ft, wpS_ff, wpCond_tt, wpCond_ff, simprocAttr, progV_eq, Exe.V_eq]
  intro g5 g6
  refine callR.rd (l71Kind_pl bs hb g q (by omega)) rfl rfl rfl ?_
  rintro r o' ⟨⟨kind, rfl⟩, q1, hq3, hq4, rfl⟩
  simp (maxSteps := 1000000) (disch := omega) only [push_cast, go_sem, wpS_tt, wpS_tf, wpS_ft, wpS_ff, wpCond_tt, wpCond_ff, simprocAttr]
  refine Sat.loop (σ := Nat × Prog × Exe × Nat) (fun s => upd (upd (upd (upd (upd (upd (upd noT 0 (.ptr 0 [] 0 0 g 2)) 2 (.ptr 2 [] 0 0 g2 1)) 3 (.ptr 3 [] 0 0 g3 2)) 5 (.ptr 5 [] 0 0 g5 1)) 6 (.ptr 6 [] 0 0 g6 2)) 7 (.int .i64 kind)) 8 (.int .i64 s.1))
    (fun s => ((((noM.set 0 (rdO bs g s.2.2.2)).set 2 (.own 25 (some g2) 1 [.agg [.own 0 none 0 []]])).set 3 (.own 29 (some g3) 1 [.agg [.own 0 none 0 [], .own 0 none 0 []]])).set 5 (.own 25 (some g5) 1 [.agg [.sl (s.2.1.map thrV)]])).set 6 (.own 29 (some g6) 1 [.agg [.sl (s.2.2.1.fr.map (V.int .i64)), .sl (s.2.2.1.od.map intsV)]]))
    (fun s => s.1 ≤ 8 ∧ s.2.1.length ≤ 3 ∧ (∀ l ∈ s.2.1, l.length < 2 ^ 11) ∧ s.2.2.1.few ∧ q1 ≤ s.2.2.2 ∧ s.2.2.2 ≤ q1 + s.1 * (2 ^ 22 + 1)) (fun s => 8 - s.1) (0, x, y, q1) ⟨by dsimp only; omega, hx1, hx2, hy, by dsimp only; omega, by dsimp only; omega⟩ ?_ ?_
  · (refine Less.start ?_; repeat (first | exact LessO.nil | exact LessO.all | refine LessO.skip (by decide) ?_ | refine LessO.upd ?_ ?_ | refine LessO.set ?_ ?_)) <;> (try simp (maxSteps := 1000000) (disch := omega) only [push_cast, go_sem, wpS_tt, wpS_tf, wpS_ft, wpS_ff, wpCond_tt, wpCond_ff, simprocAttr])
  rintro ⟨i, x, y, q2⟩ ⟨hi, hx1, hx2, hy, hq5, hq6⟩ J hJ
  simp only at hi hx1 hx2 hy hq5 hq6 hJ
  refine Sat.of (S := []) (by kernel_rfl) ?_
  have hys := few_small hy
  have hyf := hy.fr
  have hh := specOrderHolds_fn x y kind (by omega) hys
  rw [progV_eq, Exe.V_eq] at hh
  by_cases h8 : (i : Int) < 8
  · simp (maxSteps := 1000000) (disch := omega) only [push_cast, go_sem, wpS_tt, wpS_tf, wpS_ft, wpS_ff, wpCond_tt, wpCond_ff, simprocAttr, h8]
    refine callR.rd (pick_rd bs hb g q2 (by omega) 8 (by omega)) rfl rfl rfl ?_
    rintro r o' ⟨v, rfl, hv0, hv1, _, rfl⟩
    by_cases hv : (0 : Int) < v
    · simp (maxSteps := 1000000) (disch := omega) only [push_cast, go_sem, wpS_tt, wpS_tf, wpS_ft, wpS_ff, wpCond_tt, wpCond_ff, simprocAttr, hv]
      refine callR.pure hh rfl rfl ?_
      cases hho : holdsS x y kind
      · simp (maxSteps := 1000000) (disch := omega) only [push_cast, go_sem, wpS_tt, wpS_tf, wpS_ft, wpS_ff, wpCond_tt, wpCond_ff, simprocAttr]
        refine callR.rd (l71Exec_rd bs hb g (q2 + 1) (by omega)) rfl rfl rfl ?_
        rintro r o' ⟨x', y', rfl, hx1', hx2', hy', q3, hq7, hq8, rfl⟩
        simp (maxSteps := 1000000) (disch := omega) only [push_cast, go_sem, wpS_tt, wpS_tf, wpS_ft, wpS_ff, wpCond_tt, wpCond_ff, simprocAttr, progV_eq, Exe.V_eq]
        refine hJ (i + 1, x', y', q3) _ _ ⟨by dsimp only; omega, hx1', hx2', hy', by dsimp only; omega, by dsimp only; omega⟩ (by dsimp only; omega) ?_
        (refine Less.start ?_; repeat (first | exact LessO.nil | exact LessO.all | refine LessO.skip (by decide) ?_ | refine LessO.upd ?_ ?_ | refine LessO.set ?_ ?_)) <;> (try simp (maxSteps := 1000000) (disch := omega) only [push_cast, go_sem, wpS_tt, wpS_tf, wpS_ft, wpS_ff, wpCond_tt, wpCond_ff, simprocAttr])
      · simp (maxSteps := 1000000) (disch := omega) only [push_cast, go_sem, wpS_tt, wpS_tf, wpS_ft, wpS_ff, wpCond_tt, wpCond_ff, simprocAttr]
        refine Sat.drawnE [(0, 1), (1, 3)] [] [0, 1] (fun _ _ _ => none) (by kernel_rfl) (by kernel_rfl) ?_
        simp (maxSteps := 1000000) (disch := omega) only [push_cast, go_sem, wpS_tt, wpS_tf, wpS_ft, wpS_ff, wpCond_tt, wpCond_ff, simprocAttr]
        refine ⟨_, ?_, _, ⟨x, y, kind, rfl, hx1, hx2, hy, q2 + 1, by omega, by omega, rfl⟩, rfl⟩
        ((repeat (first | exact Sub.no | refine Sub.set ?_ ?_)) <;> (try simp (disch := omega) only [push_cast, go_sem, wpS_tt, wpS_tf, wpS_ft, wpS_ff, wpCond_tt, wpCond_ff, simprocAttr]))
    · simp (maxSteps := 1000000) (disch := omega) only [push_cast, go_sem, wpS_tt, wpS_tf, wpS_ft, wpS_ff, wpCond_tt, wpCond_ff, simprocAttr, hv]
      refine Sat.drawnE [(0, 1), (1, 3)] [] [0, 1] (fun _ _ _ => none) (by kernel_rfl) (by kernel_rfl) ?_
      simp (maxSteps := 1000000) (disch := omega) only [push_cast, go_sem, wpS_tt, wpS_tf, wpS_ft, wpS_ff, wpCond_tt, wpCond_ff, simprocAttr]
      refine ⟨_, ?_, _, ⟨x, y, kind, rfl, hx1, hx2, hy, q2 + 1, by omega, by omega, rfl⟩, rfl⟩
      ((repeat (first | exact Sub.no | refine Sub.set ?_ ?_)) <;> (try simp (disch := omega) only [push_cast, go_sem, wpS_tt, wpS_tf, wpS_ft, wpS_ff, wpCond_tt, wpCond_ff, simprocAttr]))
  · simp (maxSteps := 1000000) (disch := omega) only [push_cast, go_sem, wpS_tt, wpS_tf, wpS_ft, wpS_ff, wpCond_tt, wpCond_ff, simprocAttr, h8]
    refine Sat.drawnE [(0, 1), (1, 3)] [] [0, 1] (fun _ _ _ => none) (by kernel_rfl) (by kernel_rfl) ?_
    simp (maxSteps := 1000000) (disch := omega) only [push_cast, go_sem, wpS_tt, wpS_tf, wpS_ft, wpS_ff, wpCond_tt, wpCond_ff, simprocAttr]
    refine ⟨_, ?_, _, ⟨x, y, kind, rfl, hx1, hx2, hy, q2, by omega, by omega, rfl⟩, rfl⟩
    ((repeat (first | exact Sub.no | refine Sub.set ?_ ?_)) <;> (try simp (disch := omega) only [push_cast, go_sem, wpS_tt, wpS_tf, wpS_ft, wpS_ff, wpCond_tt, wpCond_ff, simprocAttr]))
theorem DrawOrderLine_fn (bs : List Int) (hb : Code8 bs) (hl : bs.length < 2 ^ 40) : Fc Tryz.prog 19 [codeV bs] noM (fun r m => DrawnH r ∧ m = noM) := by
  refine Fc.start (S := []) Tryz.func19 Tryz.ntmps19 Tryz.results19 rfl (by decide) rfl (by kernel_rfl) ?_
  simp (maxSteps := 1000000) (disch := omega) only [push_cast, go_sem, wpS_tt, wpS_tf, wpS_ft, wpS_ff, wpCond_tt, wpCond_ff, simprocAttr, codeV_eq]
  intro g2 g3
  refine callR.new (l6Open_fn bs hl) rfl rfl ?_
  rintro r ob ⟨g, rfl, rfl⟩
  simp (maxSteps := 1000000) (disch := omega) only [push_cast, go_sem, wpS_tt, wpS_tf, wpS_ft, wpS_ff, wpCond_tt, wpCond_ff, simprocAttr]
  refine callR.rd (l71Hold_rd (bs.take 2000) hb.take g 0 (by omega)) rfl rfl rfl ?_
  rintro r o' ⟨x, y, kind, rfl, hx1, hx2, hy, q, hq1, hq2, rfl⟩
  simp (maxSteps := 1000000) (disch := omega) only [push_cast, go_sem, wpS_tt, wpS_tf, wpS_ft, wpS_ff, wpCond_tt, wpCond_ff, simprocAttr, progV_eq, Exe.V_eq]
  exact ⟨x, y, kind, rfl, hx1, hx2, few_small hy⟩
theorem holds_le {p : Prog} {x : Exe} {kind : Int} (h : holdsS p x kind = true) : (events p).length ≤ 42 := by
  simp only [holdsS, Bool.and_eq_true] at h
  exact events_le (Way.of (by rw [ok_eq]; exact h.1.1)).ok
theorem intsV_nil : intsV [] = .sl [] := rfl
theorem lawOrderLineHolds_fn (bs : List Int) (hb : Code8 bs) : Fp Tryz.prog 7 [codeV bs] (.bool true) := by
  refine Fc.start (S := [6]) Tryz.func7 Tryz.ntmps7 Tryz.results7 rfl (by decide) rfl (by kernel_rfl) ?_
  by_cases h : (1048576 : Int) < bs.length
  · simp (maxSteps := 1000000) (disch := omega) only [push_cast, go_sem, wpS_tt, wpS_tf, wpS_ft, wpS_ff, wpCond_tt, wpCond_ff, simprocAttr, codeV_eq, h]
  simp (maxSteps := 1000000) (disch := omega) only [push_cast, go_sem, wpS_tt, wpS_tf, wpS_ft, wpS_ff, wpCond_tt, wpCond_ff, simprocAttr, codeV_eq, h]
  refine callR.ex (DrawOrderLine_fn bs hb (by omega)) rfl rfl ?_
  rintro r ⟨p, x, kind, rfl, hp, hl, hx⟩
  have hl' : ∀ l ∈ p, l.length < 2 ^ 40 := fun l h => by have := hl l h; omega
  have h1 := implOrderLine_fn p x kind (by omega) hl' hx
  have h2 := specOrderLine_fn p x kind (by omega) hx
  have h3 := implOrderHolds_fn p x kind (by omega) hl' hx
  cases hh : holdsS p x kind
  · have hn : lineS p x kind = none := by rw [lineS, hh]; rfl
    rw [hn] at h1 h2
    rw [hh] at h3
    have hi := lpInts_fn [] [] (by decide) (by decide)
    rw [show lineV none = .tuple [.nilsl, .bool false] from rfl] at h1
    rw [show lineW none = .tuple [.sl [], .bool false] from rfl] at h2
    rw [intsV_nil] at hi
    simp (maxSteps := 1000000) (disch := omega) only [push_cast, go_sem, wpS_tt, wpS_tf, wpS_ft, wpS_ff, wpCond_tt, wpCond_ff, simprocAttr, progV_eq, Exe.V_eq]
    intro g3 g4
    refine callR.pure h2 rfl rfl ?_
    simp (maxSteps := 1000000) (disch := omega) only [push_cast, go_sem, wpS_tt, wpS_tf, wpS_ft, wpS_ff, wpCond_tt, wpCond_ff, simprocAttr]
    refine callR.pure h1 rfl rfl ?_
    simp (maxSteps := 1000000) (disch := omega) only [push_cast, go_sem, wpS_tt, wpS_tf, wpS_ft, wpS_ff, wpCond_tt, wpCond_ff, simprocAttr]
    refine Sat.freezeT (upd (upd (upd (upd (upd (upd (upd noT 3 (.ptr 3 [] 0 0 g3 1)) 4 (.ptr 4 [] 0 0 g4 2)) 5 (.int .i64 kind)) 6 (.sl [])) 7 (.bool false)) 9 (.bool false)) 8 (.sl []))
      ((noM.set 3 (.own 25 (some g3) 1 [.agg [.sl (p.map thrV)]])).set 4 (.own 29 (some g4) 1 [.agg [.sl (x.fr.map (V.int .i64)), .sl (x.od.map intsV)]])) 8 (e := 0) (γ := none) (cap := 0) (es := []) rfl ?_ ?_
    · (refine Less.start ?_; repeat (first | exact LessO.nil | exact LessO.all | refine LessO.skip (by decide) ?_ | refine LessO.upd ?_ ?_ | refine LessO.set ?_ ?_)) <;> (try simp (maxSteps := 1000000) (disch := omega) only [push_cast, go_sem, wpS_tt, wpS_tf, wpS_ft, wpS_ff, wpCond_tt, wpCond_ff, simprocAttr])
    refine Sat.of (S := []) (by kernel_rfl) ?_
    simp (maxSteps := 1000000) (disch := omega) only [push_cast, go_sem, wpS_tt, wpS_tf, wpS_ft, wpS_ff, wpCond_tt, wpCond_ff, simprocAttr]
    refine callR.pure hi rfl rfl ?_
    simp (maxSteps := 1000000) (disch := omega) only [push_cast, go_sem, wpS_tt, wpS_tf, wpS_ft, wpS_ff, wpCond_tt, wpCond_ff, simprocAttr]
    refine callR.pure h3 rfl rfl ?_
    simp (maxSteps := 1000000) (disch := omega) only [push_cast, go_sem, wpS_tt, wpS_tf, wpS_ft, wpS_ff, wpCond_tt, wpCond_ff, simprocAttr]
  · obtain ⟨r, l, hr1, hr2, hll, hls⟩ := lineS_yes hh
    rw [hls] at h1 h2
    rw [hh] at h3
    rw [show lineV (some l) = .tuple [.sl ((intsN l).map (V.int .i64)), .bool true] from by rw [← natE_map]; rfl] at h1
    rw [lineW_some] at h2
    have hel := holds_le hh
    have hln : (intsN l).length < 2 ^ 40 := by rw [intsN_len, line_len hll]; omega
    have hi := lpInts_fn (intsN l) (intsN l) hln hln
    rw [intsV_eq] at hi
    have hdt : decide (intsN l = intsN l) = true := by simp
    rw [hdt] at hi
    simp (maxSteps := 1000000) (disch := omega) only [push_cast, go_sem, wpS_tt, wpS_tf, wpS_ft, wpS_ff, wpCond_tt, wpCond_ff, simprocAttr, progV_eq, Exe.V_eq]
    intro g3 g4
    refine callR.pure h2 rfl rfl ?_
    simp (maxSteps := 1000000) (disch := omega) only [push_cast, go_sem, wpS_tt, wpS_tf, wpS_ft, wpS_ff, wpCond_tt, wpCond_ff, simprocAttr]
    refine callR.pure h1 rfl rfl ?_
    simp (maxSteps := 1000000) (disch := omega) only [push_cast, go_sem, wpS_tt, wpS_tf, wpS_ft, wpS_ff, wpCond_tt, wpCond_ff, simprocAttr]
    refine Sat.of (S := []) (by kernel_rfl) ?_
    simp (maxSteps := 1000000) (disch := omega) only [push_cast, go_sem, wpS_tt, wpS_tf, wpS_ft, wpS_ff, wpCond_tt, wpCond_ff, simprocAttr]
    refine callR.pure hi rfl rfl ?_
    simp (maxSteps := 1000000) (disch := omega) only [push_cast, go_sem, wpS_tt, wpS_tf, wpS_ft, wpS_ff, wpCond_tt, wpCond_ff, simprocAttr]
    refine callR.pure h3 rfl rfl ?_
    simp (maxSteps := 1000000) (disch := omega) only [push_cast, go_sem, wpS_tt, wpS_tf, wpS_ft, wpS_ff, wpCond_tt, wpCond_ff, simprocAttr]
end Go.Proofs.YtfdbminedccccaaGreatDoor
/-! ## A law: in line all events stand once, and none behind what it must be ahead of -/
namespace Go.Proofs.YtfdbminedccccaaGreatDoor
open Go.RowKit
set_option linter.unusedSimpArgs false
set_option linter.unusedVariables false
set_option pp.maxSteps 3000

theorem elim_mem {R : Nat → Nat → Bool} {n : Nat} : ∀ {k : Nat} {L : Nat → Bool} {l : List Nat}, elimE R n k L = some l → ∀ x ∈ l, L x = true ∧ x < n
  | 0, L, l, h, x, hx => by rw [elimE] at h; cases h; cases hx
  | k + 1, L, l, h, x, hx => by
    rw [elimE] at h
    split at h
    · cases h
    · rename_i b hb
      obtain ⟨l', h1, rfl⟩ := Option.map_eq_some_iff.1 h
      obtain ⟨hbn, hbf⟩ := pick_some hb
      rcases List.mem_cons.1 hx with rfl | hx
      · exact ⟨(free_iff.1 hbf).1, hbn⟩
      · obtain ⟨k1, k2⟩ := elim_mem h1 x hx
        rw [Bool.and_eq_true] at k1
        exact ⟨k1.1, k2⟩
theorem elim_pw {R : Nat → Nat → Bool} {n : Nat} : ∀ {k : Nat} {L : Nat → Bool} {l : List Nat}, elimE R n k L = some l → l.Pairwise fun a b => a ≠ b ∧ R b a = false
  | 0, L, l, h => by rw [elimE] at h; cases h; exact List.Pairwise.nil
  | k + 1, L, l, h => by
    rw [elimE] at h
    split at h
    · cases h
    · rename_i b hb
      obtain ⟨l', h1, rfl⟩ := Option.map_eq_some_iff.1 h
      obtain ⟨hbn, hbf⟩ := pick_some hb
      refine List.pairwise_cons.2 ⟨fun x hx => ?_, elim_pw h1⟩
      obtain ⟨k1, k2⟩ := elim_mem h1 x hx
      rw [Bool.and_eq_true, Bool.not_eq_true', beq_eq_false_iff_ne] at k1
      exact ⟨fun e => k1.2 e.symm, (free_iff.1 hbf).2 x k2 k1.1⟩
theorem line_pw {R : Nat → Nat → Bool} {n i k a b : Nat} {l : List Nat} (h : lineE R n = some l) (hi : l[i]? = some b) (hk : l[k]? = some a) (hki : k < i) : a ≠ b ∧ R b a = false ∧ a < n ∧ b < n := by
  obtain ⟨i1, i2⟩ := List.getElem?_eq_some_iff.1 hi
  obtain ⟨k1, k2⟩ := List.getElem?_eq_some_iff.1 hk
  have hp := List.pairwise_iff_getElem.1 (elim_pw h) k i k1 i1 hki
  rw [i2, k2] at hp
  exact ⟨hp.1, hp.2, (elim_mem h a (List.mem_of_getElem? hk)).2, (elim_mem h b (List.mem_of_getElem? hi)).2⟩
theorem settle_sub {n : Nat} {out : Nat → Nat} : ∀ {l : List (Nat × Nat)} {R r : Nat → Nat → Bool}, settleR n out l R = some r → ∀ a b, R a b = true → r a b = true
  | [], R, r, h, a, b, hR => by
    rw [settleR] at h
    split at h
    · cases h; exact hR
    · cases h
  | (e, i) :: l, R, r, h, a, b, hR => by
    rw [settleR] at h
    have wi : ∀ {x y : Nat}, wiR R x y a b = true := by simp [wiR, hR]
    split at h
    · rcases Option.or_eq_some_iff.1 h with h | ⟨_, h⟩
      · exact settle_sub h a b wi
      · exact settle_sub h a b wi
    · cases h
theorem hasS_line {p : Prog} {x : Exe} {kind : Int} {r : Nat → Nat → Bool} {l : List Nat} {i k a b : Nat} (hr : settleR (events p).length (outA p) (chRef p (events p).length) (netR p x kind) = some r) (hl : lineE r (events p).length = some l)
    (hi : l[i]? = some b) (hk : l[k]? = some a) (hki : k < i) : hasS p x kind b a = false := by
  obtain ⟨_, h2, _, _⟩ := line_pw hl hi hk hki
  have : netR p x kind b a = false := by
    cases h : netR p x kind b a
    · rfl
    · rw [settle_sub hr b a h] at h2; cases h2
  rw [hasS]
  rw [netR] at this
  simp only [Int.toNat_natCast, this, Bool.and_false]
theorem lawOrderLine_fn (bs : List Int) (hb : Code8 bs) : Fp Tryz.prog 6 [codeV bs] (.bool true) := by
  refine Fc.start (S := [6]) Tryz.func6 Tryz.ntmps6 Tryz.results6 rfl (by decide) rfl (by kernel_rfl) ?_
  by_cases h : (1048576 : Int) < bs.length
  · simp (maxSteps := 1000000) (disch := omega) only [push_cast, go_sem, wpS_tt, wpS_tf, wpS_ft, wpS_ff, wpCond_tt, wpCond_ff, simprocAttr, codeV_eq, h]
  simp (maxSteps := 1000000) (disch := omega) only [push_cast, go_sem, wpS_tt, wpS_tf, wpS_ft, wpS_ff, wpCond_tt, wpCond_ff, simprocAttr, codeV_eq, h]
  refine callR.ex (DrawOrderLine_fn bs hb (by omega)) rfl rfl ?_
  rintro r ⟨p, x, kind, rfl, hp, hl, hx⟩
  have hl' : ∀ l ∈ p, l.length < 2 ^ 40 := fun l h => by have := hl l h; omega
  have h1 := implOrderLine_fn p x kind (by omega) hl' hx
  have h2 := specOrderLine_fn p x kind (by omega) hx
  have h3 := implExecEvents_fn p (by omega) hl'
  cases hh : holdsS p x kind
  · have hn : lineS p x kind = none := by rw [lineS, hh]; rfl
    rw [hn] at h1 h2
    have hi := lpInts_fn [] [] (by decide) (by decide)
    rw [show lineV none = .tuple [.nilsl, .bool false] from rfl] at h1
    rw [show lineW none = .tuple [.sl [], .bool false] from rfl] at h2
    rw [intsV_nil] at hi
    simp (maxSteps := 1000000) (disch := omega) only [push_cast, go_sem, wpS_tt, wpS_tf, wpS_ft, wpS_ff, wpCond_tt, wpCond_ff, simprocAttr, progV_eq, Exe.V_eq]
    intro g3 g4
    refine callR.pure h2 rfl rfl ?_
    simp (maxSteps := 1000000) (disch := omega) only [push_cast, go_sem, wpS_tt, wpS_tf, wpS_ft, wpS_ff, wpCond_tt, wpCond_ff, simprocAttr]
    refine callR.pure h1 rfl rfl ?_
    simp (maxSteps := 1000000) (disch := omega) only [push_cast, go_sem, wpS_tt, wpS_tf, wpS_ft, wpS_ff, wpCond_tt, wpCond_ff, simprocAttr]
    refine Sat.freezeT (upd (upd (upd (upd noT 6 (.sl [])) 7 (.bool false)) 9 (.bool false)) 8 (.sl [])) noM 8 (e := 0) (γ := none) (cap := 0) (es := []) rfl ?_ ?_
    · (refine Less.start ?_; repeat (first | exact LessO.nil | exact LessO.all | refine LessO.skip (by decide) ?_ | refine LessO.upd ?_ ?_ | refine LessO.set ?_ ?_)) <;> (try simp (maxSteps := 1000000) (disch := omega) only [push_cast, go_sem, wpS_tt, wpS_tf, wpS_ft, wpS_ff, wpCond_tt, wpCond_ff, simprocAttr])
    refine Sat.of (S := []) (by kernel_rfl) ?_
    simp (maxSteps := 1000000) (disch := omega) only [push_cast, go_sem, wpS_tt, wpS_tf, wpS_ft, wpS_ff, wpCond_tt, wpCond_ff, simprocAttr]
    refine callR.pure hi rfl rfl ?_
    simp (maxSteps := 1000000) (disch := omega) only [push_cast, go_sem, wpS_tt, wpS_tf, wpS_ft, wpS_ff, wpCond_tt, wpCond_ff, simprocAttr]
    refine callR.pure hi rfl rfl ?_
    simp (maxSteps := 1000000) (disch := omega) only [push_cast, go_sem, wpS_tt, wpS_tf, wpS_ft, wpS_ff, wpCond_tt, wpCond_ff, simprocAttr]
  · obtain ⟨r, l, hr1, hr2, hll, hls⟩ := lineS_yes hh
    have hel := holds_le hh
    have hok : progOk p = true := by
      simp only [holdsS, Bool.and_eq_true] at hh
      exact (Way.of (by rw [ok_eq]; exact hh.1.1)).ok
    have hlen := line_len hll
    have hil := intsN_len l
    have hln : (intsN l).length < 2 ^ 40 := by rw [hil, hlen]; omega
    rw [hok, if_pos rfl] at h3
    rw [progV_eq] at h3
    rw [hls] at h1 h2
    rw [show lineV (some l) = .tuple [.sl ((intsN l).map (V.int .i64)), .bool true] from by rw [← natE_map]; rfl] at h1
    rw [lineW_some] at h2
    have hi := lpInts_fn (intsN l) (intsN l) hln hln
    rw [intsV_eq] at hi
    have hdt : decide (intsN l = intsN l) = true := by simp
    rw [hdt] at hi
    simp (maxSteps := 1000000) (disch := omega) only [push_cast, go_sem, wpS_tt, wpS_tf, wpS_ft, wpS_ff, wpCond_tt, wpCond_ff, simprocAttr, progV_eq, Exe.V_eq]
    intro g3 g4
    refine callR.pure h2 rfl rfl ?_
    simp (maxSteps := 1000000) (disch := omega) only [push_cast, go_sem, wpS_tt, wpS_tf, wpS_ft, wpS_ff, wpCond_tt, wpCond_ff, simprocAttr]
    refine callR.pure h1 rfl rfl ?_
    simp (maxSteps := 1000000) (disch := omega) only [push_cast, go_sem, wpS_tt, wpS_tf, wpS_ft, wpS_ff, wpCond_tt, wpCond_ff, simprocAttr]
    refine Sat.of (S := []) (by kernel_rfl) ?_
    simp (maxSteps := 1000000) (disch := omega) only [push_cast, go_sem, wpS_tt, wpS_tf, wpS_ft, wpS_ff, wpCond_tt, wpCond_ff, simprocAttr]
    refine callR.pure hi rfl rfl ?_
    simp (maxSteps := 1000000) (disch := omega) only [push_cast, go_sem, wpS_tt, wpS_tf, wpS_ft, wpS_ff, wpCond_tt, wpCond_ff, simprocAttr]
    refine Sat.loop (σ := Nat) (fun i => upd (upd (upd (upd (upd noT 3 (.ptr 3 [] 0 0 g3 1)) 4 (.ptr 4 [] 0 0 g4 2)) 5 (.int .i64 kind)) 8 (.sl ((intsN l).map (V.int .i64)))) 10 (.int .i64 i))
      (fun _ => (noM.set 3 (.own 25 (some g3) 1 [.agg [.sl (p.map thrV)]])).set 4 (.own 29 (some g4) 1 [.agg [.sl (x.fr.map (V.int .i64)), .sl (x.od.map intsV)]]))
      (fun i => i ≤ l.length) (fun i => l.length - i) 0 (by omega) ?_ ?_
    · (refine Less.start ?_; repeat (first | exact LessO.nil | exact LessO.all | refine LessO.skip (by decide) ?_ | refine LessO.upd ?_ ?_ | refine LessO.set ?_ ?_)) <;> (try simp (maxSteps := 1000000) (disch := omega) only [push_cast, go_sem, wpS_tt, wpS_tf, wpS_ft, wpS_ff, wpCond_tt, wpCond_ff, simprocAttr])
    rintro i hi' J hJ
    refine Sat.of (S := []) (by kernel_rfl) ?_
    rcases Nat.lt_or_ge i l.length with hlt | hge
    · simp (maxSteps := 1000000) (disch := omega) only [push_cast, go_sem, wpS_tt, wpS_tf, wpS_ft, wpS_ff, wpCond_tt, wpCond_ff, simprocAttr, hlt, hil]
      refine Sat.loop (σ := Nat) (fun k => upd (upd (upd (upd (upd (upd noT 3 (.ptr 3 [] 0 0 g3 1)) 4 (.ptr 4 [] 0 0 g4 2)) 5 (.int .i64 kind)) 8 (.sl ((intsN l).map (V.int .i64)))) 10 (.int .i64 i)) 11 (.int .i64 k))
        (fun _ => (noM.set 3 (.own 25 (some g3) 1 [.agg [.sl (p.map thrV)]])).set 4 (.own 29 (some g4) 1 [.agg [.sl (x.fr.map (V.int .i64)), .sl (x.od.map intsV)]]))
        (fun k => k ≤ i) (fun k => i - k) 0 (by omega) ?_ ?_
      · (refine Less.start ?_; repeat (first | exact LessO.nil | exact LessO.all | refine LessO.skip (by decide) ?_ | refine LessO.upd ?_ ?_ | refine LessO.set ?_ ?_)) <;> (try simp (maxSteps := 1000000) (disch := omega) only [push_cast, go_sem, wpS_tt, wpS_tf, wpS_ft, wpS_ff, wpCond_tt, wpCond_ff, simprocAttr])
      rintro k hk J2 hJ2
      refine Sat.of (S := []) (by kernel_rfl) ?_
      rcases Nat.lt_or_ge k i with hlt2 | hge2
      · obtain ⟨b, hib⟩ : ∃ b, l[i]? = some b := ⟨_, List.getElem?_eq_getElem hlt⟩
        obtain ⟨a, hka⟩ : ∃ a, l[k]? = some a := ⟨_, List.getElem?_eq_getElem (by omega)⟩
        have hib' : (intsN l)[i]? = some (b : Int) := by rw [intsN, List.getElem?_map, hib]; rfl
        have hka' : (intsN l)[k]? = some (a : Int) := by rw [intsN, List.getElem?_map, hka]; rfl
        have hpw := line_pw hll hib hka hlt2
        have hab : ((a : Int) == (b : Int)) = false := by
          rw [beq_eq_false_iff_ne]
          exact fun e => hpw.1 (by omega)
        have hoh := implOrderHas_fn p x kind b a (by omega) hl' hx
        rw [hasS_line hr2 hll hib hka hlt2, progV_eq, Exe.V_eq] at hoh
        have hkl : k < l.length := by omega
        simp (maxSteps := 1000000) (disch := omega) only [push_cast, go_sem, wpS_tt, wpS_tf, wpS_ft, wpS_ff, wpCond_tt, wpCond_ff, simprocAttr, hlt2]
        refine Sat.drawnE [] [] (List.range 23) (pureT [(16, .bool false)]) (by kernel_rfl) (by kernel_rfl) ?_
        simp (maxSteps := 1000000) (disch := omega) only [push_cast, go_sem, wpS_tt, wpS_tf, wpS_ft, wpS_ff, wpCond_tt, wpCond_ff, simprocAttr, hib', hka', hlt, hkl, hil, hab]
        refine runD_pure rfl hoh rfl rfl ?_ ?_
        · rfl
        simp (maxSteps := 1000000) (disch := omega) only [push_cast, go_sem, wpS_tt, wpS_tf, wpS_ft, wpS_ff, wpCond_tt, wpCond_ff, simprocAttr]
        refine hJ2 (k + 1) _ _ (by omega) (by omega) ?_
        (refine Less.start ?_; repeat (first | exact LessO.nil | exact LessO.all | refine LessO.skip (by decide) ?_ | refine LessO.upd ?_ ?_ | refine LessO.set ?_ ?_)) <;> (try simp (maxSteps := 1000000) (disch := omega) only [push_cast, go_sem, wpS_tt, wpS_tf, wpS_ft, wpS_ff, wpCond_tt, wpCond_ff, simprocAttr])
      · have : k = i := by omega
        subst this
        simp (maxSteps := 1000000) (disch := omega) only [push_cast, go_sem, wpS_tt, wpS_tf, wpS_ft, wpS_ff, wpCond_tt, wpCond_ff, simprocAttr]
        refine hJ (k + 1) _ _ (by omega) (by omega) ?_
        (refine Less.start ?_; repeat (first | exact LessO.nil | exact LessO.all | refine LessO.skip (by decide) ?_ | refine LessO.upd ?_ ?_ | refine LessO.set ?_ ?_)) <;> (try simp (maxSteps := 1000000) (disch := omega) only [push_cast, go_sem, wpS_tt, wpS_tf, wpS_ft, wpS_ff, wpCond_tt, wpCond_ff, simprocAttr])
    · have : i = l.length := by omega
      subst this
      simp (maxSteps := 1000000) (disch := omega) only [push_cast, go_sem, wpS_tt, wpS_tf, wpS_ft, wpS_ff, wpCond_tt, wpCond_ff, simprocAttr, hil]
      refine callR.pure h3 rfl rfl ?_
      simp (maxSteps := 1000000) (disch := omega) only [push_cast, go_sem, wpS_tt, wpS_tf, wpS_ft, wpS_ff, wpCond_tt, wpCond_ff, simprocAttr, hil]
      rw [hlen]; simp
end Go.Proofs.YtfdbminedccccaaGreatDoor
/-! ## A law: in line who waits goes on only when no reader is in that was there before -/
namespace Go.Proofs.YtfdbminedccccaaGreatDoor
open Go.RowKit
set_option linter.unusedSimpArgs false
set_option linter.unusedVariables false
set_option pp.maxSteps 3000

theorem elim_all {R : Nat → Nat → Bool} {n : Nat} : ∀ {k : Nat} {L : Nat → Bool} {l : List Nat}, elimE R n k L = some l → cntE n L = k → ∀ x, x < n → L x = true → x ∈ l
  | 0, L, l, h, hc, x, hx, hL => by have := cnt_pos hx hL; omega
  | k + 1, L, l, h, hc, x, hx, hL => by
    rw [elimE] at h
    split at h
    · cases h
    · rename_i b hb
      obtain ⟨l', h1, rfl⟩ := Option.map_eq_some_iff.1 h
      obtain ⟨hbn, hbf⟩ := pick_some hb
      by_cases hxb : x = b
      · subst hxb; exact List.mem_cons_self ..
      · have hcr := cnt_rem (L := L) (free_iff.1 hbf).1 hbn
        refine List.mem_cons_of_mem _ (elim_all h1 (by omega) x hx ?_)
        simp [hL, hxb]
theorem line_all {R : Nat → Nat → Bool} {n x : Nat} {l : List Nat} (h : lineE R n = some l) (hx : x < n) : ∃ i : Nat, l[i]? = some x := List.mem_iff_getElem?.1 (elim_all h cnt_all x hx (by simpa using hx))
theorem elim_self {R : Nat → Nat → Bool} {n : Nat} : ∀ {k : Nat} {L : Nat → Bool} {l : List Nat}, elimE R n k L = some l → ∀ x ∈ l, R x x = false
  | 0, L, l, h, x, hx => by rw [elimE] at h; cases h; cases hx
  | k + 1, L, l, h, x, hx => by
    rw [elimE] at h
    split at h
    · cases h
    · rename_i b hb
      obtain ⟨l', h1, rfl⟩ := Option.map_eq_some_iff.1 h
      obtain ⟨hbn, hbf⟩ := pick_some hb
      rcases List.mem_cons.1 hx with rfl | hx
      · exact (free_iff.1 hbf).2 x hbn (free_iff.1 hbf).1
      · exact elim_self h1 x hx
theorem line_ahead {R : Nat → Nat → Bool} {n i k a b : Nat} {l : List Nat} (h : lineE R n = some l) (hi : l[i]? = some a) (hk : l[k]? = some b) (hR : R a b = true) : i < k := by
  rcases Nat.lt_or_ge i k with h1 | h1
  · exact h1
  · exfalso
    rcases Nat.lt_or_ge k i with h2 | h2
    · have := (line_pw h hi hk h2).2.1
      rw [this] at hR; cases hR
    · have : i = k := by omega
      subst this
      rw [hi] at hk
      cases hk
      rw [elim_self h a (List.mem_of_getElem? hi)] at hR; cases hR
theorem settle_choice {n : Nat} {out : Nat → Nat} : ∀ {l : List (Nat × Nat)} {R r : Nat → Nat → Bool}, settleR n out l R = some r → ∀ q ∈ l, r (out q.2) q.1 = true ∨ r (q.1 - 1) q.2 = true
  | [], R, r, h, q, hq => by cases hq
  | (e, i) :: l, R, r, h, q, hq => by
    rw [settleR] at h
    split at h
    · rcases Option.or_eq_some_iff.1 h with h | ⟨_, h⟩
      · rcases List.mem_cons.1 hq with rfl | hq
        · exact .inl (settle_sub h _ _ (by simp [wiR]))
        · exact settle_choice h q hq
      · rcases List.mem_cons.1 hq with rfl | hq
        · exact .inr (settle_sub h _ _ (by simp [wiR]))
        · exact settle_choice h q hq
    · cases h
theorem lpKind_fn (p : Prog) (e : Evt) (he : evIn p e) : Fp Tryz.prog 23 [progV p, e.V] (.int .i64 (stepAt p e).k) := by
  obtain ⟨i, l, j, d, hl, hd, h1, h2⟩ := he
  have hst : stepAt p e = d := by simp [stepAt, h1, h2, hl, hd]
  have hil := (List.getElem?_eq_some_iff.1 hl).1
  have hjl := (List.getElem?_eq_some_iff.1 hd).1
  rw [hst]
  refine Fc.start (S := []) Tryz.func23 Tryz.ntmps23 Tryz.results23 rfl (by decide) rfl (by kernel_rfl) ?_
  simp (maxSteps := 1000000) (disch := omega) only [push_cast, go_sem, wpS_tt, wpS_tf, wpS_ft, wpS_ff, wpCond_tt, wpCond_ff, simprocAttr, progV_eq, Evt.V_eq]
  intro g1 g2
  refine Sat.drawnE [] [] [1, 3, 5, 7, 10] (fun _ _ _ => none) (by kernel_rfl) (by kernel_rfl) ?_
  simp (maxSteps := 1000000) (disch := omega) only [push_cast, go_sem, wpS_tt, wpS_tf, wpS_ft, wpS_ff, wpCond_tt, wpCond_ff, simprocAttr, h1, h2, hl, hd, hil, hjl, thrV_eq, Do.V_eq]
theorem lpPlace_fn (l : List Nat) (i e : Nat) (hl : l.length ≤ 62) (hi : l[i]? = some e) (hno : ∀ j a, j < i → l[j]? = some a → a ≠ e) : Fp Tryz.prog 24 [.sl ((intsN l).map (V.int .i64)), .int .i64 e] (.int .i64 i) := by
  have hil := intsN_len l
  have hlt := (List.getElem?_eq_some_iff.1 hi).1
  refine Fc.start (S := []) Tryz.func24 Tryz.ntmps24 Tryz.results24 rfl (by decide) rfl (by kernel_rfl) ?_
  simp (maxSteps := 1000000) (disch := omega) only [push_cast, go_sem, wpS_tt, wpS_tf, wpS_ft, wpS_ff, wpCond_tt, wpCond_ff, simprocAttr]
  refine Sat.loop (σ := Nat) (fun k => upd (upd (upd noT 0 (.sl ((intsN l).map (V.int .i64)))) 1 (.int .i64 e)) 5 (.int .i64 k)) (fun _ => noM) (fun k => k ≤ i) (fun k => i - k) 0 (by omega) ?_ ?_
  · (refine Less.start ?_; repeat (first | exact LessO.nil | exact LessO.all | refine LessO.skip (by decide) ?_ | refine LessO.upd ?_ ?_ | refine LessO.set ?_ ?_)) <;> (try simp (maxSteps := 1000000) (disch := omega) only [push_cast, go_sem, wpS_tt, wpS_tf, wpS_ft, wpS_ff, wpCond_tt, wpCond_ff, simprocAttr])
  rintro k hk J hJ
  refine Sat.of (S := []) (by kernel_rfl) ?_
  have hkl : k < l.length := by omega
  rcases Nat.lt_or_ge k i with h | h
  · obtain ⟨a, ha⟩ : ∃ a, l[k]? = some a := ⟨_, List.getElem?_eq_getElem hkl⟩
    have ha' : (intsN l)[k]? = some (a : Int) := by rw [intsN, List.getElem?_map, ha]; rfl
    have hne : ((a : Int) == (e : Int)) = false := by
      rw [beq_eq_false_iff_ne]
      exact fun h2 => hno k a h ha (by omega)
    simp (maxSteps := 1000000) (disch := omega) only [push_cast, go_sem, wpS_tt, wpS_tf, wpS_ft, wpS_ff, wpCond_tt, wpCond_ff, simprocAttr, ha', hkl, hil, hne]
    refine hJ (k + 1) _ _ (by omega) (by omega) ?_
    (refine Less.start ?_; repeat (first | exact LessO.nil | exact LessO.all | refine LessO.skip (by decide) ?_ | refine LessO.upd ?_ ?_ | refine LessO.set ?_ ?_)) <;> (try simp (maxSteps := 1000000) (disch := omega) only [push_cast, go_sem, wpS_tt, wpS_tf, wpS_ft, wpS_ff, wpCond_tt, wpCond_ff, simprocAttr])
  · have : k = i := by omega
    subst this
    have ha' : (intsN l)[k]? = some (e : Int) := by rw [intsN, List.getElem?_map, hi]; rfl
    have hne : ((e : Int) == (e : Int)) = true := by simp
    simp (maxSteps := 1000000) (disch := omega) only [push_cast, go_sem, wpS_tt, wpS_tf, wpS_ft, wpS_ff, wpCond_tt, wpCond_ff, simprocAttr, ha', hkl, hil, hne]
end Go.Proofs.YtfdbminedccccaaGreatDoor
/-! ## A law: in line who waits goes on only when no reader is in that was there before; its walk -/
namespace Go.Proofs.YtfdbminedccccaaGreatDoor
open Go.RowKit
set_option linter.unusedSimpArgs false
set_option linter.unusedVariables false
set_option pp.maxSteps 3000

theorem place_ex {R : Nat → Nat → Bool} {n x : Nat} {l : List Nat} (h : lineE R n = some l) (hn : n ≤ 62) (hx : x < n) : ∃ i : Nat, l[i]? = some x ∧ Fp Tryz.prog 24 [.sl ((intsN l).map (V.int .i64)), .int .i64 x] (.int .i64 i) := by
  obtain ⟨i, hi⟩ := line_all h hx
  exact ⟨i, hi, lpPlace_fn l i x (by rw [line_len h]; exact hn) hi fun j a hj ha => (line_pw h hi ha hj).1⟩
theorem lawOrderLineWait_fn (bs : List Int) (hb : Code8 bs) : Fp Tryz.prog 8 [codeV bs] (.bool true) := by
  refine Fc.start (S := [6]) Tryz.func8 Tryz.ntmps8 Tryz.results8 rfl (by decide) rfl (by kernel_rfl) ?_
  by_cases h : (1048576 : Int) < bs.length
  · simp (maxSteps := 1000000) (disch := omega) only [push_cast, go_sem, wpS_tt, wpS_tf, wpS_ft, wpS_ff, wpCond_tt, wpCond_ff, simprocAttr, codeV_eq, h]
  simp (maxSteps := 1000000) (disch := omega) only [push_cast, go_sem, wpS_tt, wpS_tf, wpS_ft, wpS_ff, wpCond_tt, wpCond_ff, simprocAttr, codeV_eq, h]
  refine callR.ex (DrawOrderLine_fn bs hb (by omega)) rfl rfl ?_
  rintro r ⟨p, x, kind, rfl, hp, hl, hx⟩
  have hl' : ∀ l ∈ p, l.length < 2 ^ 40 := fun l h => by have := hl l h; omega
  have h1 := implOrderLine_fn p x kind (by omega) hl' hx
  have h2 := specOrderLine_fn p x kind (by omega) hx
  have h3 := implExecEvents_fn p (by omega) hl'
  cases hh : holdsS p x kind
  · have hn : lineS p x kind = none := by rw [lineS, hh]; rfl
    rw [hn] at h1 h2
    have hi := lpInts_fn [] [] (by decide) (by decide)
    rw [show lineV none = .tuple [.nilsl, .bool false] from rfl] at h1
    rw [show lineW none = .tuple [.sl [], .bool false] from rfl] at h2
    rw [intsV_nil] at hi
    simp (maxSteps := 1000000) (disch := omega) only [push_cast, go_sem, wpS_tt, wpS_tf, wpS_ft, wpS_ff, wpCond_tt, wpCond_ff, simprocAttr, progV_eq, Exe.V_eq]
    intro g3 g4
    refine callR.pure h2 rfl rfl ?_
    simp (maxSteps := 1000000) (disch := omega) only [push_cast, go_sem, wpS_tt, wpS_tf, wpS_ft, wpS_ff, wpCond_tt, wpCond_ff, simprocAttr]
    refine callR.pure h1 rfl rfl ?_
    simp (maxSteps := 1000000) (disch := omega) only [push_cast, go_sem, wpS_tt, wpS_tf, wpS_ft, wpS_ff, wpCond_tt, wpCond_ff, simprocAttr]
    refine Sat.freezeT (upd (upd (upd (upd noT 6 (.sl [])) 7 (.bool false)) 9 (.bool false)) 8 (.sl [])) noM 8 (e := 0) (γ := none) (cap := 0) (es := []) rfl ?_ ?_
    · (refine Less.start ?_; repeat (first | exact LessO.nil | exact LessO.all | refine LessO.skip (by decide) ?_ | refine LessO.upd ?_ ?_ | refine LessO.set ?_ ?_)) <;> (try simp (maxSteps := 1000000) (disch := omega) only [push_cast, go_sem, wpS_tt, wpS_tf, wpS_ft, wpS_ff, wpCond_tt, wpCond_ff, simprocAttr])
    refine Sat.of (S := []) (by kernel_rfl) ?_
    simp (maxSteps := 1000000) (disch := omega) only [push_cast, go_sem, wpS_tt, wpS_tf, wpS_ft, wpS_ff, wpCond_tt, wpCond_ff, simprocAttr]
    refine callR.pure hi rfl rfl ?_
    simp (maxSteps := 1000000) (disch := omega) only [push_cast, go_sem, wpS_tt, wpS_tf, wpS_ft, wpS_ff, wpCond_tt, wpCond_ff, simprocAttr]
    refine callR.pure hi rfl rfl ?_
    simp (maxSteps := 1000000) (disch := omega) only [push_cast, go_sem, wpS_tt, wpS_tf, wpS_ft, wpS_ff, wpCond_tt, wpCond_ff, simprocAttr]
  · obtain ⟨r, l, hr1, hr2, hll, hls⟩ := lineS_yes hh
    have hel := holds_le hh
    have hok : progOk p = true := by
      simp only [holdsS, Bool.and_eq_true] at hh
      exact (Way.of (by rw [ok_eq]; exact hh.1.1)).ok
    have hlen := line_len hll
    have hil := intsN_len l
    have hln : (intsN l).length < 2 ^ 40 := by rw [hil, hlen]; omega
    rw [hok, if_pos rfl] at h3
    rw [progV_eq] at h3
    rw [hls] at h1 h2
    rw [show lineV (some l) = .tuple [.sl ((intsN l).map (V.int .i64)), .bool true] from by rw [← natE_map]; rfl] at h1
    rw [lineW_some] at h2
    have hi := lpInts_fn (intsN l) (intsN l) hln hln
    rw [intsV_eq] at hi
    have hdt : decide (intsN l = intsN l) = true := by simp
    rw [hdt] at hi
    simp (maxSteps := 1000000) (disch := omega) only [push_cast, go_sem, wpS_tt, wpS_tf, wpS_ft, wpS_ff, wpCond_tt, wpCond_ff, simprocAttr, progV_eq, Exe.V_eq]
    intro g3 g4
    refine callR.pure h2 rfl rfl ?_
    simp (maxSteps := 1000000) (disch := omega) only [push_cast, go_sem, wpS_tt, wpS_tf, wpS_ft, wpS_ff, wpCond_tt, wpCond_ff, simprocAttr]
    refine callR.pure h1 rfl rfl ?_
    simp (maxSteps := 1000000) (disch := omega) only [push_cast, go_sem, wpS_tt, wpS_tf, wpS_ft, wpS_ff, wpCond_tt, wpCond_ff, simprocAttr]
    refine Sat.of (S := []) (by kernel_rfl) ?_
    simp (maxSteps := 1000000) (disch := omega) only [push_cast, go_sem, wpS_tt, wpS_tf, wpS_ft, wpS_ff, wpCond_tt, wpCond_ff, simprocAttr]
    refine callR.pure hi rfl rfl ?_
    simp (maxSteps := 1000000) (disch := omega) only [push_cast, go_sem, wpS_tt, wpS_tf, wpS_ft, wpS_ff, wpCond_tt, wpCond_ff, simprocAttr]
    refine callR.pure h3 rfl rfl ?_
    simp (maxSteps := 1000000) (disch := omega) only [push_cast, go_sem, wpS_tt, wpS_tf, wpS_ft, wpS_ff, wpCond_tt, wpCond_ff, simprocAttr]
    have hkind : ∀ (a : Nat) (e : Evt), (events p)[a]? = some e → Fp Tryz.prog 23 [.agg [.sl (p.map thrV)], .agg [.int .i64 e.t, .int .i64 e.s, .bool e.l]] (.int .i64 (kd (scene p).ds a)) := by
      intro a e he
      have := lpKind_fn p e (evIn_of (List.mem_of_getElem? he))
      rw [progV_eq, Evt.V_eq] at this
      rw [kd, scene_get he]; exact this
    obtain ⟨n, hnn⟩ : ∃ n, (events p).length = n := ⟨_, rfl⟩
    refine Sat.loop (σ := Nat) (fun w => upd (upd (upd (upd noT 3 (.ptr 3 [] 0 0 g3 1)) 8 (.sl ((intsN l).map (V.int .i64)))) 10 (.sl ((events p).map Evt.V))) 11 (.int .i64 w)) (fun _ => noM.set 3 (.own 25 (some g3) 1 [.agg [.sl (p.map thrV)]])) (fun w => w ≤ n) (fun w => n - w) 0 (by omega) ?_ ?_
    · (refine Less.start ?_; repeat (first | exact LessO.nil | exact LessO.all | refine LessO.skip (by decide) ?_ | refine LessO.upd ?_ ?_ | refine LessO.set ?_ ?_)) <;> (try simp (maxSteps := 1000000) (disch := omega) only [push_cast, go_sem, wpS_tt, wpS_tf, wpS_ft, wpS_ff, wpCond_tt, wpCond_ff, simprocAttr])
    rintro w hw J hJ
    refine Sat.of (S := []) (by kernel_rfl) ?_
    rcases Nat.lt_or_ge w n with hlt | hge
    · obtain ⟨ew, hew⟩ : ∃ e, (events p)[w]? = some e := ⟨_, List.getElem?_eq_getElem (by omega)⟩
      have hwe : w < (events p).length := by omega
      have hlw : ltA (events p) w = ew.l := by rw [ltA, hew]; rfl
      have hkw := hkind w ew hew
      obtain ⟨kw, hkwe⟩ : ∃ k, kd (scene p).ds w = k := ⟨_, rfl⟩
      rw [hkwe] at hkw
      simp (maxSteps := 1000000) (disch := omega) only [push_cast, go_sem, wpS_tt, wpS_tf, wpS_ft, wpS_ff, wpCond_tt, wpCond_ff, simprocAttr, hlt, hnn]
      refine Sat.drawnE [] [] (List.range 14) (pureT [(23, .int .i64 kw)]) (by kernel_rfl) (by kernel_rfl) ?_
      simp (maxSteps := 1000000) (disch := omega) only [push_cast, go_sem, wpS_tt, wpS_tf, wpS_ft, wpS_ff, wpCond_tt, wpCond_ff, simprocAttr, hew, hwe, Evt.V_eq]
      refine runD_pure rfl hkw rfl rfl ?_ ?_
      · rfl
      cases h9 : (kw == 9)
      · have h9' : (kw != 9) = true := by simp [bne, h9]
        simp (maxSteps := 1000000) (disch := omega) only [push_cast, go_sem, wpS_tt, wpS_tf, wpS_ft, wpS_ff, wpCond_tt, wpCond_ff, simprocAttr, h9']
        refine hJ (w + 1) _ _ (by omega) (by omega) ?_
        (refine Less.start ?_; repeat (first | exact LessO.nil | exact LessO.all | refine LessO.skip (by decide) ?_ | refine LessO.upd ?_ ?_ | refine LessO.set ?_ ?_)) <;> (try simp (maxSteps := 1000000) (disch := omega) only [push_cast, go_sem, wpS_tt, wpS_tf, wpS_ft, wpS_ff, wpCond_tt, wpCond_ff, simprocAttr])
      have h9' : (kw != 9) = false := by simp [bne, h9]
      cases hll2 : ew.l
      rotate_left
      · simp (maxSteps := 1000000) (disch := omega) only [push_cast, go_sem, wpS_tt, wpS_tf, wpS_ft, wpS_ff, wpCond_tt, wpCond_ff, simprocAttr, h9', hew, hwe, Evt.V_eq, hll2]
        refine hJ (w + 1) _ _ (by omega) (by omega) ?_
        (refine Less.start ?_; repeat (first | exact LessO.nil | exact LessO.all | refine LessO.skip (by decide) ?_ | refine LessO.upd ?_ ?_ | refine LessO.set ?_ ?_)) <;> (try simp (maxSteps := 1000000) (disch := omega) only [push_cast, go_sem, wpS_tt, wpS_tf, wpS_ft, wpS_ff, wpCond_tt, wpCond_ff, simprocAttr])
      simp (maxSteps := 1000000) (disch := omega) only [push_cast, go_sem, wpS_tt, wpS_tf, wpS_ft, wpS_ff, wpCond_tt, wpCond_ff, simprocAttr, h9', hew, hwe, Evt.V_eq, hll2]
      have h9k : kd (scene p).ds w = 9 := by rw [hkwe]; simpa using h9
      have hlwf : ltA (events p) w = false := by rw [hlw, hll2]
      have hw1 := (wait_next hwe h9k hlwf).1
      obtain ⟨pw, hpw, fpw⟩ := place_ex hll (by omega) hwe
      obtain ⟨pw1, hpw1, fpw1⟩ := place_ex hll (by omega) hw1
      refine Sat.loop (σ := Nat) (fun j => upd (upd (upd (upd (upd noT 3 (.ptr 3 [] 0 0 g3 1)) 8 (.sl ((intsN l).map (V.int .i64)))) 10 (.sl ((events p).map Evt.V))) 11 (.int .i64 w)) 12 (.int .i64 j)) (fun _ => noM.set 3 (.own 25 (some g3) 1 [.agg [.sl (p.map thrV)]])) (fun j => j ≤ n) (fun j => n - j) 0 (by omega) ?_ ?_
      · (refine Less.start ?_; repeat (first | exact LessO.nil | exact LessO.all | refine LessO.skip (by decide) ?_ | refine LessO.upd ?_ ?_ | refine LessO.set ?_ ?_)) <;> (try simp (maxSteps := 1000000) (disch := omega) only [push_cast, go_sem, wpS_tt, wpS_tf, wpS_ft, wpS_ff, wpCond_tt, wpCond_ff, simprocAttr])
      rintro j hj J2 hJ2
      refine Sat.of (S := []) (by kernel_rfl) ?_
      rcases Nat.lt_or_ge j n with hlt2 | hge2
      · obtain ⟨ej, hej⟩ : ∃ e, (events p)[j]? = some e := ⟨_, List.getElem?_eq_getElem (by omega)⟩
        have hje : j < (events p).length := by omega
        have hkj := hkind j ej hej
        obtain ⟨kj, hkje⟩ : ∃ k, kd (scene p).ds j = k := ⟨_, rfl⟩
        rw [hkje] at hkj
        simp (maxSteps := 1000000) (disch := omega) only [push_cast, go_sem, wpS_tt, wpS_tf, wpS_ft, wpS_ff, wpCond_tt, wpCond_ff, simprocAttr, hlt2, hnn]
        refine Sat.drawnE [] [] (List.range 7) (pureT [(23, .int .i64 kj)]) (by kernel_rfl) (by kernel_rfl) ?_
        simp (maxSteps := 1000000) (disch := omega) only [push_cast, go_sem, wpS_tt, wpS_tf, wpS_ft, wpS_ff, wpCond_tt, wpCond_ff, simprocAttr, hej, hje, Evt.V_eq]
        refine runD_pure rfl hkj rfl rfl ?_ ?_
        · rfl
        cases h7 : (kj == 7)
        · have h7' : (kj != 7) = true := by simp [bne, h7]
          simp (maxSteps := 1000000) (disch := omega) only [push_cast, go_sem, wpS_tt, wpS_tf, wpS_ft, wpS_ff, wpCond_tt, wpCond_ff, simprocAttr, h7']
          refine hJ2 (j + 1) _ _ (by omega) (by omega) ?_
          (refine Less.start ?_; repeat (first | exact LessO.nil | exact LessO.all | refine LessO.skip (by decide) ?_ | refine LessO.upd ?_ ?_ | refine LessO.set ?_ ?_)) <;> (try simp (maxSteps := 1000000) (disch := omega) only [push_cast, go_sem, wpS_tt, wpS_tf, wpS_ft, wpS_ff, wpCond_tt, wpCond_ff, simprocAttr])
        have h7' : (kj != 7) = false := by simp [bne, h7]
        have h7k : kd (scene p).ds j = 7 := by rw [hkje]; simpa using h7
        obtain ⟨hq, h8⟩ := outA_spec hok hje h7k
        obtain ⟨t, ht⟩ : ∃ t, outA p j = t := ⟨_, rfl⟩
        have hch := settle_choice hr2 (w + 1, j) (by
          obtain ⟨r', hr'⟩ := chRef_pre h9k hlwf h7k (by simp [scene]; exact hje) hwe
          rw [hr']; simp)
        rw [ht] at hq h8
        simp only [Nat.add_sub_cancel, ht] at hch
        have hjt := hq.lt
        have htl := hq.tl
        obtain ⟨pj, hpj, fpj⟩ := place_ex hll (by omega) hje
        obtain ⟨po, hpo, fpo⟩ := place_ex hll (by omega) htl
        simp (maxSteps := 1000000) (disch := omega) only [push_cast, go_sem, wpS_tt, wpS_tf, wpS_ft, wpS_ff, wpCond_tt, wpCond_ff, simprocAttr, h7']
        refine Sat.loop (σ := Nat) (fun k => upd (upd (upd (upd (upd (upd noT 3 (.ptr 3 [] 0 0 g3 1)) 8 (.sl ((intsN l).map (V.int .i64)))) 10 (.sl ((events p).map Evt.V))) 11 (.int .i64 w)) 12 (.int .i64 j)) 13 (.int .i64 k)) (fun _ => noM.set 3 (.own 25 (some g3) 1 [.agg [.sl (p.map thrV)]])) (fun k => j ≤ k ∧ k ≤ t) (fun k => t - k) j ⟨Nat.le_refl _, by omega⟩ ?_ ?_
        · (refine Less.start ?_; repeat (first | exact LessO.nil | exact LessO.all | refine LessO.skip (by decide) ?_ | refine LessO.upd ?_ ?_ | refine LessO.set ?_ ?_)) <;> (try simp (maxSteps := 1000000) (disch := omega) only [push_cast, go_sem, wpS_tt, wpS_tf, wpS_ft, wpS_ff, wpCond_tt, wpCond_ff, simprocAttr])
        rintro k ⟨hjk, hkt⟩ J3 hJ3
        refine Sat.of (S := []) (by kernel_rfl) ?_
        obtain ⟨ek, hek⟩ : ∃ e, (events p)[k]? = some e := ⟨_, List.getElem?_eq_getElem (by omega)⟩
        have hke : k < (events p).length := by omega
        have hkk := hkind k ek hek
        obtain ⟨kk, hkke⟩ : ∃ x, kd (scene p).ds k = x := ⟨_, rfl⟩
        rw [hkke] at hkk
        simp (maxSteps := 1000000) (disch := omega) only [push_cast, go_sem, wpS_tt, wpS_tf, wpS_ft, wpS_ff, wpCond_tt, wpCond_ff, simprocAttr]
        refine Sat.drawnE [] [] (List.range 7) (pureT [(23, .int .i64 kk)]) (by kernel_rfl) (by kernel_rfl) ?_
        simp (maxSteps := 1000000) (disch := omega) only [push_cast, go_sem, wpS_tt, wpS_tf, wpS_ft, wpS_ff, wpCond_tt, wpCond_ff, simprocAttr, hek, hke, Evt.V_eq]
        refine runD_pure rfl hkk rfl rfl ?_ ?_
        · rfl
        rcases Nat.lt_or_ge k t with hkt2 | hkt2
        · have h8' : (kk != 8) = true := by
            have : kk ≠ 8 := by
              rw [← hkke]
              rcases Nat.lt_or_ge j k with h | h
              · exact (hq.no k h hkt2).2.1
              · have : k = j := by omega
                rw [this, h7k]; decide
            simpa [bne] using this
          simp (maxSteps := 1000000) (disch := omega) only [push_cast, go_sem, wpS_tt, wpS_tf, wpS_ft, wpS_ff, wpCond_tt, wpCond_ff, simprocAttr, h8']
          refine hJ3 (k + 1) _ _ ⟨by omega, by omega⟩ (by omega) ?_
          (refine Less.start ?_; repeat (first | exact LessO.nil | exact LessO.all | refine LessO.skip (by decide) ?_ | refine LessO.upd ?_ ?_ | refine LessO.set ?_ ?_)) <;> (try simp (maxSteps := 1000000) (disch := omega) only [push_cast, go_sem, wpS_tt, wpS_tf, wpS_ft, wpS_ff, wpCond_tt, wpCond_ff, simprocAttr])
        · have : k = t := by omega
          subst this
          have h8' : (kk != 8) = false := by rw [← hkke, h8]; rfl
          simp (maxSteps := 1000000) (disch := omega) only [push_cast, go_sem, wpS_tt, wpS_tf, wpS_ft, wpS_ff, wpCond_tt, wpCond_ff, simprocAttr, h8']
          refine callR.pure fpj rfl rfl ?_
          simp (maxSteps := 1000000) (disch := omega) only [push_cast, go_sem, wpS_tt, wpS_tf, wpS_ft, wpS_ff, wpCond_tt, wpCond_ff, simprocAttr]
          refine callR.pure fpw rfl rfl ?_
          by_cases hlp : (pj : Int) < pw
          · rw [show ((w + 1 : Nat) : Int) = (w : Int) + 1 by omega] at fpw1
            have hgt : ¬ ((pw1 : Int) < po) := by
              rcases hch with hc | hc
              · have := line_ahead hll hpo hpw1 hc
                omega
              · have := line_ahead hll hpw hpj hc
                omega
            simp (maxSteps := 1000000) (disch := omega) only [push_cast, go_sem, wpS_tt, wpS_tf, wpS_ft, wpS_ff, wpCond_tt, wpCond_ff, simprocAttr, hlp]
            refine callR.pure fpo rfl rfl ?_
            simp (maxSteps := 1000000) (disch := omega) only [push_cast, go_sem, wpS_tt, wpS_tf, wpS_ft, wpS_ff, wpCond_tt, wpCond_ff, simprocAttr]
            refine callR.pure fpw1 rfl rfl ?_
            simp (maxSteps := 1000000) (disch := omega) only [push_cast, go_sem, wpS_tt, wpS_tf, wpS_ft, wpS_ff, wpCond_tt, wpCond_ff, simprocAttr, hgt]
            refine hJ2 (j + 1) _ _ (by omega) (by omega) ?_
            (refine Less.start ?_; repeat (first | exact LessO.nil | exact LessO.all | refine LessO.skip (by decide) ?_ | refine LessO.upd ?_ ?_ | refine LessO.set ?_ ?_)) <;> (try simp (maxSteps := 1000000) (disch := omega) only [push_cast, go_sem, wpS_tt, wpS_tf, wpS_ft, wpS_ff, wpCond_tt, wpCond_ff, simprocAttr])
          · simp (maxSteps := 1000000) (disch := omega) only [push_cast, go_sem, wpS_tt, wpS_tf, wpS_ft, wpS_ff, wpCond_tt, wpCond_ff, simprocAttr, hlp]
            refine hJ2 (j + 1) _ _ (by omega) (by omega) ?_
            (refine Less.start ?_; repeat (first | exact LessO.nil | exact LessO.all | refine LessO.skip (by decide) ?_ | refine LessO.upd ?_ ?_ | refine LessO.set ?_ ?_)) <;> (try simp (maxSteps := 1000000) (disch := omega) only [push_cast, go_sem, wpS_tt, wpS_tf, wpS_ft, wpS_ff, wpCond_tt, wpCond_ff, simprocAttr])
      · have : j = n := by omega
        subst this
        simp (maxSteps := 1000000) (disch := omega) only [push_cast, go_sem, wpS_tt, wpS_tf, wpS_ft, wpS_ff, wpCond_tt, wpCond_ff, simprocAttr, hnn]
        refine hJ (w + 1) _ _ (by omega) (by omega) ?_
        (refine Less.start ?_; repeat (first | exact LessO.nil | exact LessO.all | refine LessO.skip (by decide) ?_ | refine LessO.upd ?_ ?_ | refine LessO.set ?_ ?_)) <;> (try simp (maxSteps := 1000000) (disch := omega) only [push_cast, go_sem, wpS_tt, wpS_tf, wpS_ft, wpS_ff, wpCond_tt, wpCond_ff, simprocAttr])
    · have : w = n := by omega
      subst this
      simp (maxSteps := 1000000) (disch := omega) only [push_cast, go_sem, wpS_tt, wpS_tf, wpS_ft, wpS_ff, wpCond_tt, wpCond_ff, simprocAttr, hnn]
end Go.Proofs.YtfdbminedccccaaGreatDoor
/-! ## Rows: what all laws of a code share -/
namespace Go.Proofs.YtfdbminedccccaaGreatDoor
open Go.ChangeShapes Go.WideShapes Go.ChangeAt Go.RowKit
set_option linter.unusedSimpArgs false
set_option linter.unusedVariables false

theorem own : ownKnob Tryz.prog.godebug = none := by kernel_rfl
theorem laidOut' : laidOutB Tryz.prog = true := by kernel_rfl
theorem cells8 : Tryz.prog.cellsOf 5 = 1 := by kernel_rfl

/-- A row of bytes that is never written again. -/
theorem code_rp {imm : Nat → Prop} {W : World} {b off len cap : Nat} {zs : List Int} (hlz : len ≤ zs.length) (hl : len ≤ cap) (hi : imm b) (hcell : ∀ i, i < zs.length → W.cell? ⟨b, off + i, none⟩ = some (.int .u8 (zs.getD i 0))) :
    Rp imm W (codeV (zs.take len)) (.slice (some ⟨b, off, none⟩) len cap) := by
  by_cases h0 : len = 0
  · subst h0; exact .sl0 _ _
  have hc0 := hcell 0 (by omega)
  unfold World.cell? at hc0
  split at hc0
  · rename_i cur t fr hg
    have hln : (zs.take len).length = len := by rw [List.length_take]; omega
    have e : ((zs.take len).map (V.int .u8)).length = len := by rw [List.length_map]; exact hln
    have get : ∀ (i : Nat) (x : V), ((zs.take len).map (V.int .u8))[i]? = some x → x = .int .u8 (zs.getD i 0) ∧ i < len := by
      intro i x hx
      have hlt : i < len := by have := (List.getElem?_eq_some_iff.1 hx).1; omega
      rw [List.getElem?_map, List.getElem?_take_of_lt hlt] at hx
      obtain ⟨y, hy, rfl⟩ := Option.map_eq_some_iff.1 hx
      exact ⟨by rw [List.getD, hy]; rfl, hlt⟩
    have := Rp.sl (imm := imm) (w := W) ((zs.take len).map (V.int .u8)) b off cap 1 cur t fr (fun i _ => .int .u8 (zs.getD i 0)) hi hg (by omega)
      (fun i x hx => by rw [(get i x hx).1]; rfl)
      (fun i x j c hx hc => by
        obtain ⟨rfl, hlt⟩ := get i x hx
        have hj : j = 0 := by
          cases j with
          | zero => rfl
          | succ j => simp [V.cells] at hc
        subst hj
        have := hcell i (by omega)
        unfold World.cell? at this
        simp only [hg] at this
        simpa using this)
      (fun i x j c hx hc => by
        obtain ⟨rfl, hlt⟩ := get i x hx
        have hj : j = 0 := by
          cases j with
          | zero => rfl
          | succ j => simp [V.cells] at hc
        subst hj
        simp [V.cells] at hc
        subst hc
        exact .int _ _)
    rw [e] at this
    exact this
  · cases hc0

/-- A law of one code: what its contract says of the world. -/
theorem law_calls {f : FuncId} {W : World} {x : V} {v : Value} {imm : Nat → Prop} (h : Fp Tryz.prog f [x] (.bool true)) (hG : Glob imm W) (hi : ∀ g, imm g → g < W.heap.size) (hx : Rp imm W x v) :
    Calls Tryz.prog f #[v] W fun e w' => e = .returned (.bool true) ∧ Below W.heap.size W w' := by
  refine (h.fn imm W #[v] hG inv_no hi rfl ?_).mono ?_
  · intro j c u hj hu
    cases j with
    | zero => simp at hj hu; subst hj; subst hu; exact hx
    | succ j => simp at hj
  · rintro e w' ⟨r, r', m, imm', rfl, ⟨rfl, rfl⟩, h3, h4⟩
    rw [h3.bool_inv]
    exact ⟨rfl, h4.os, h4.tape, h4.output, h4.size, fun k hk => (h4.block k hk not_owns_no).1⟩
end Go.Proofs.YtfdbminedccccaaGreatDoor
/-! ## Rows of a great seat: the library's table, from what the row lists -/
namespace Go.Proofs.YtfdbminedccccaaGreatDoor
open Go.ChangeShapes Go.WideShapes Go.ChangeAt Go.RowKit
set_option linter.unusedSimpArgs false
set_option linter.unusedVariables false

theorem laid_tab {H : Type} : (Rows.laid_math_bits_deBruijn64tab : DataW H) = Lib.tabData .u8 (Lib.deBruijn64tab.map fun n : Nat => (n : Int)) := rfl
theorem tabs_of {W : World} {rest : List (String × DataW Unit)} (h : laidMet Tryz.prog (("math/bits.deBruijn64tab", Rows.laid_math_bits_deBruijn64tab) :: rest) W) : ∀ x ∈ globT, Tab x.1 x.2 W := by
  rw [laid_tab] at h
  intro x hx
  simp only [globT, List.mem_cons, List.not_mem_nil, or_false] at hx
  subst hx
  intro j hj
  have hT := Lib.tabIs_of_head (t := 123) (e := 5) (n := 64) (g := (globT.headD (0, [])).1) (by kernel_rfl) (by kernel_rfl) Tryz.underlying123 Tryz.underlying5 cells8 (by kernel_rfl) h
  have := hT.cell (g := (globT.headD (0, [])).1) (by kernel_rfl) j (by rw [List.length_map]; exact hj)
  have e : (Lib.deBruijn64tab.map fun n : Nat => (n : Int)).getD j 0 = ((Lib.deBruijn64tab.getD j 0 : Nat) : Int) := by
    simp only [List.getD, List.getElem?_map]
    cases Lib.deBruijn64tab[j]? <;> rfl
  rw [e] at this
  exact this
theorem glob_of {W : World} {imm : Nat → Prop} (hT : ∀ x ∈ globT, Tab x.1 x.2 W) (hi : ∀ x ∈ globT, imm x.1) : Glob imm W := fun x hx => ⟨hi x hx, hT x hx⟩
theorem glob_lt {W : World} (hT : ∀ x ∈ globT, Tab x.1 x.2 W) : ∀ x ∈ globT, x.1 < W.heap.size := by
  intro x hx
  have h := hT x hx
  simp only [globT, List.mem_cons, List.not_mem_nil, or_false] at hx
  subst hx
  have := h 0 (by decide)
  unfold World.cell? at this
  split at this
  · rename_i hh; exact (Array.getElem?_eq_some_iff.1 hh).1
  · cases this
end Go.Proofs.YtfdbminedccccaaGreatDoor
