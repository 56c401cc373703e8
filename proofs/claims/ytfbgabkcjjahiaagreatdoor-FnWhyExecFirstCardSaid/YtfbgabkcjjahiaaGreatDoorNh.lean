/-
  All that may be seen by an order, by the reference. A looser order has fewer that must be ahead; so it holds where a stricter one does. Draws: a program, a way and an order. A law: what a stricter order allows a looser one does. Draws: what was seen of a program. Draws: a program, what may be seen of it, and an order. The reference: the events of a net in line. The reference: which events must be ahead of which, the first way in which it holds of all who wait; OrderLine. The law's helpers: whether numbers are the same; whether ways are. Draws: a program, a way and an order by which it holds, mostly. Laws: the way that is told is one, holds, and is seen so; it has a line. A law: no way ahead of the one that is told is such. Rows: what all laws of a code share. Rows of a great seat: the library's table, from what the row lists.
-/
import Derived.Test.YtfbgabkcjjahiaaGreatDoorNg
import Derived.Test.YtfbgabkcjjahiaaGreatDoorRows
import Derived.ProofKit
import Derived.OpenShut
import Derived.ChangeSlices
import Derived.JoinedOf
import Derived.JoinedAt
import Derived.Deep.DeepHandedRow
import Derived.Lib.LaidTab
import Derived.Test.YtfbgabkcjjahiaaGreatDoorCards
import Derived.Test.YtfbgabkcjjahiaaGreatDoorTie
set_option linter.unusedSimpArgs false
set_option linter.unusedVariables false
namespace Go.Proofs.YtfbgabkcjjahiaaGreatDoor
open Go.RowKit
set_option pp.maxSteps 3000

/-- What is seen of all ways that an order allows. -/
def seensS (p : Prog) (kind : Int) (l : List Exe) : List Sn := (l.filter fun x => holdsS p x kind).map (seenF p)
def ordAll (p : Prog) (kind : Int) : List Sn := if progOk p && inB kind 1 3 then (seensS p kind (specAll p)).foldl putS [] else []
def accS (p : Prog) (kind : Int) (l : List Exe) : List Sn := (seensS p kind l).foldl putS []
theorem acc_yes {p : Prog} {kind : Int} {l : List Exe} {x : Exe} (h : holdsS p x kind = true) : accS p kind (l ++ [x]) = putS (accS p kind l) (seenF p x) := by
  simp [accS, seensS, List.filter_append, h]
theorem acc_no {p : Prog} {kind : Int} {l : List Exe} {x : Exe} (h : holdsS p x kind = false) : accS p kind (l ++ [x]) = accS p kind l := by
  simp [accS, seensS, List.filter_append, h]
theorem put_mem {L : List Sn} {s t : Sn} (h : t ∈ putS L s) : t ∈ L ∨ t = s := by
  rw [putS] at h
  split at h
  · exact .inl h
  · have key : ∀ L : List Sn, t ∈ insP L s → t ∈ L ∨ t = s := by
      intro L
      induction L with
      | nil => intro h; simp [insP] at h; exact .inr h
      | cons a L ih =>
        intro h
        rw [insP] at h
        split at h
        · simp at h ⊢; rcases h with h | h | h
          · exact .inr h
          · exact .inl (.inl h)
          · exact .inl (.inr h)
        · simp at h ⊢; rcases h with h | h
          · exact .inl (.inl h)
          · exact (ih h).imp .inr id
    exact key L h
theorem fold_mem {t : Sn} : ∀ {l L : List Sn}, t ∈ l.foldl putS L → t ∈ L ∨ t ∈ l
  | [], L, h => .inl h
  | s :: l, L, h => by
    rw [List.foldl_cons] at h
    rcases fold_mem h with h | h
    · rcases put_mem h with h | h
      · exact .inl h
      · exact .inr (by simp [h])
    · exact .inr (by simp [h])
theorem fold_len : ∀ {l L : List Sn}, (l.foldl putS L).length ≤ L.length + l.length
  | [], L => by simp
  | s :: l, L => by
    rw [List.foldl_cons]
    have := fold_len (l := l) (L := putS L s)
    have := put_len L s
    rw [List.length_cons]; omega
theorem acc_len (p : Prog) (kind : Int) (l : List Exe) : (accS p kind l).length ≤ l.length := by
  have := fold_len (l := seensS p kind l) (L := [])
  have h2 : (seensS p kind l).length ≤ l.length := by rw [seensS, List.length_map]; exact List.length_filter_le _ _
  rw [accS]; simp at this; omega
theorem acc_small {p : Prog} {kind : Int} {l : List Exe} (h : ∀ x ∈ l, execOk p x = true) : ∀ t ∈ accS p kind l, t.small := fun t ht => by
  rcases fold_mem ht with h1 | h1
  · cases h1
  · simp only [seensS, List.mem_map, List.mem_filter] at h1
    obtain ⟨x, ⟨hx, _⟩, rfl⟩ := h1
    exact rdK_small p x (h x hx)
theorem l13All_fn (p : Prog) (kind : Int) (hp : p.length < 2 ^ 40) : Fp Tryz.prog 68 [progV p, .sl ((specAll p).map Exe.V), .int .i64 kind] (.sl ((ordAll p kind).map Sn.V)) := by
  have h1 := specProgOk_fn p hp
  rw [progV_eq] at h1
  rw [ordAll]
  have hle := specAll_le p
  refine Fc.start (S := [2, 8, 11]) Tryz.func68 Tryz.ntmps68 Tryz.results68 rfl (by decide) rfl (by kernel_rfl) ?_
  simp (maxSteps := 1000000) (disch := omega) only [push_cast, go_sem, zA, zB, zC, zD, zE, zF, simprocAttr, progV_eq]
  intro g3 g12
  refine Sat.freezeT (upd (upd (upd (upd noT 1 (.sl ((specAll p).map Exe.V))) 2 (.int .i64 kind)) 3 (.ptr 3 [] 0 0 g3 1)) 7 (.sl [])) (noM.set 3 (.own 25 (some g3) 1 [.agg [.sl (p.map thrV)]])) 7 (e := 28) (γ := some g12) (cap := 0) (es := []) rfl ?_ ?_
  · (refine Less.start ?_; repeat (first | exact LessO.nil | exact LessO.all | refine LessO.skip (by decide) ?_ | refine LessO.upd ?_ ?_ | refine LessO.set ?_ ?_)) <;> (try simp (maxSteps := 1000000) (disch := omega) only [push_cast, go_sem, zA, zB, zC, zD, zE, zF, simprocAttr])
  refine Sat.of (S := [8, 11]) (by kernel_rfl) ?_
  simp (maxSteps := 1000000) (disch := omega) only [push_cast, go_sem, zA, zB, zC, zD, zE, zF, simprocAttr]
  refine callR.pure h1 rfl rfl ?_
  cases hok : progOk p
  · simp (maxSteps := 1000000) (disch := omega) only [push_cast, go_sem, zA, zB, zC, zD, zE, zF, simprocAttr]
  simp (maxSteps := 1000000) (disch := omega) only [push_cast, go_sem, zA, zB, zC, zD, zE, zF, simprocAttr]
  refine callR.pure (l6In_fn kind 1 3) rfl rfl ?_
  cases hk : inB kind 1 3
  · simp (maxSteps := 1000000) (disch := omega) only [push_cast, go_sem, zA, zB, zC, zD, zE, zF, simprocAttr]
  have hel := events_le hok
  have hsl : (scene p).ds.length = (events p).length := by simp [scene]
  have hlk := olook_fn p hp hok
  rw [progV_eq] at hlk
  simp (maxSteps := 1000000) (disch := omega) only [push_cast, go_sem, zA, zB, zC, zD, zE, zF, simprocAttr]
  refine callR.new hlk rfl rfl ?_
  rintro r ob ⟨g, rfl, rfl⟩
  have hn0 := onet_fn p g (.own 0 none 0 []) (.own 0 none 0 []) hel 0
  have hnk := onet_fn p g (.own 0 none 0 []) (.own 0 none 0 []) hel kind
  rw [ordV_eq, netE_eq] at hn0 hnk
  simp (maxSteps := 1000000) (disch := omega) only [push_cast, go_sem, zA, zB, zC, zD, zE, zF, simprocAttr, ordV_eq]
  refine callR.look hn0 rfl rfl rfl ?_
  simp (maxSteps := 1000000) (disch := omega) only [push_cast, go_sem, zA, zB, zC, zD, zE, zF, simprocAttr]
  refine callR.look hnk rfl rfl rfl ?_
  simp (maxSteps := 1000000) (disch := omega) only [push_cast, go_sem, zA, zB, zC, zD, zE, zF, simprocAttr]
  rw [rdsV_eq, wrtV_eq]
  refine Sat.freezeC 8 [] 0 4 (n0 := .own 134 (some g) 1 [.agg [.sl (p.map thrV), .sl ((events p).map Evt.V), .sl ((scene p).ds.map fun d => .bool d.reads), .sl ((scene p).ds.map fun d => .bool d.writes), .own 0 none 0 [], .own 0 none 0 []]]) (d := .own 0 none 0 []) ?_ rfl rfl ?_
  · rfl
  rw [fz_own0]
  refine Sat.freezeC 8 [] 0 5 (n0 := .own 134 (some g) 1 [.agg [.sl (p.map thrV), .sl ((events p).map Evt.V), .sl ((scene p).ds.map fun d => .bool d.reads), .sl ((scene p).ds.map fun d => .bool d.writes), .sl [], .own 0 none 0 []]]) (d := .own 0 none 0 []) ?_ rfl rfl ?_
  · rfl
  rw [fz_own0]
  have hwh := fun x R kind hfr => owhole_fn p x g R hel hfr (ds_place hok) kind
  refine Sat.loop (σ := Nat × List V × List V) (fun y => upd (upd (upd (upd (upd (upd (upd (upd noT 1 (.sl ((specAll p).map Exe.V))) 2 (.int .i64 kind)) 3 (.ptr 3 [] 0 0 g3 1)) 7 (.sl ((accS p kind ((specAll p).take y.1)).map Sn.V))) 8 (.ptr 8 [] 0 0 g 6)) 9 (netE (netL (staysS p 0) (events p).length))) 10 (netE (netL (staysS p kind) (events p).length))) 11 (.int .i64 y.1))
    (fun y => (noM.set 3 (.own 25 (some g3) 1 [.agg [.sl (p.map thrV)]])).set 8 (.own 134 (some g) 1 [.agg [.sl (p.map thrV), .sl ((events p).map Evt.V), .sl ((scene p).ds.map fun d => .bool d.reads), .sl ((scene p).ds.map fun d => .bool d.writes), .sl y.2.1, .sl y.2.2]]))
    (fun y => y.1 ≤ (specAll p).length) (fun y => (specAll p).length - y.1) (0, [], []) (by simp) ?_ ?_
  · (refine Less.start ?_; repeat (first | exact LessO.nil | exact LessO.all | refine LessO.skip (by decide) ?_ | refine LessO.upd ?_ ?_ | refine LessO.set ?_ ?_)) <;> (try simp (maxSteps := 1000000) (disch := omega) only [push_cast, go_sem, zA, zB, zC, zD, zE, zF, simprocAttr])
    all_goals rfl
  rintro ⟨i, a, b⟩ hi J hJ
  simp only at hi hJ
  refine Sat.of (S := [11]) (by kernel_rfl) ?_
  have hal := acc_len p kind ((specAll p).take i)
  have htl : ((specAll p).take i).length = i := by rw [List.length_take]; omega
  rw [htl] at hal
  rcases Nat.lt_or_ge i (specAll p).length with hlt | hge
  · obtain ⟨x, hx⟩ : ∃ x, (specAll p)[i]? = some x := ⟨_, List.getElem?_eq_getElem hlt⟩
    have hxm := List.mem_of_getElem? hx
    have hxo := all_ok (p := p) (x := x) (by rw [all_eq]; exact hxm)
    have hw := Way.of hxo
    have hsm := specAll_small hxm
    have hxs : x.small := ⟨by omega, by omega, fun r hr => by have := hsm.2.2 r hr; omega⟩
    have hfr : x.fr.length = (events p).length := by rw [hw.fr, hsl]
    have htk := take_get hx
    have hway := oway2_fn p x a b g hok hfr hw.od hxs.row
    rw [ordV_eq, rdsV_eq, wrtV_eq, Exe.V_eq] at hway
    simp (maxSteps := 1000000) (disch := omega) only [push_cast, go_sem, zA, zB, zC, zD, zE, zF, simprocAttr, hx, hlt, Exe.V_eq]
    refine callR.mod hway rfl rfl rfl ?_
    rintro r ob ⟨gr, rfl, rfl⟩
    simp (maxSteps := 1000000) (disch := omega) only [push_cast, go_sem, zA, zB, zC, zD, zE, zF, simprocAttr, ordV_eq]
    have hw0 := hwh x (staysS p 0) 0 hfr
    have hwk := hwh x (staysS p kind) kind hfr
    have hwt := owaits_fn p g (.sl (x.fr.map (V.int .i64))) (.sl (((List.range (events p).length).map (rankS p x)).map (V.int .i64))) hok _ 0 (netR p x kind) rfl (by omega)
    have hho := holds_fn (netR p x 0) (events p).length (by omega)
    rw [List.drop_zero, ordV_eq, rdsV_eq, wrtV_eq, netE_eq] at hwt
    rw [ordV_eq, rdsV_eq, wrtV_eq, netE_eq, netE_eq] at hw0 hwk
    rw [show bothR (staysS p 0) (toldS p x 0) = netR p x 0 from rfl] at hw0
    rw [show bothR (staysS p kind) (toldS p x kind) = netR p x kind from rfl] at hwk
    rw [netE_eq] at hho
    have hse := l12Seen_fn p x hxo hxs
    have hpu := l2Put_fn (accS p kind ((specAll p).take i)) (seenF p x) (by omega) (acc_small fun y hy => all_ok (p := p) (x := y) (by rw [all_eq]; exact List.mem_of_mem_take hy)) (rdK_small p x hxo)
    rw [progV_eq, Exe.V_eq, Sn.V_eq] at hse
    rw [Sn.V_eq] at hpu
    refine Sat.freezeC 8 [] 0 5 (n0 := .own 134 (some g) 1 [.agg [.sl (p.map thrV), .sl ((events p).map Evt.V), .sl ((scene p).ds.map fun d => .bool d.reads), .sl ((scene p).ds.map fun d => .bool d.writes), .sl (x.fr.map (V.int .i64)), .own 3 (some gr) (events p).length (((List.range (events p).length).map (rankS p x)).map (V.int .i64))]])
      (d := .own 3 (some gr) (events p).length (((List.range (events p).length).map (rankS p x)).map (V.int .i64))) ?_ rfl rfl ?_
    · rfl
    have e1 : (V.own 3 (some gr) (events p).length (((List.range (events p).length).map (rankS p x)).map (V.int .i64))).fz = .sl (((List.range (events p).length).map (rankS p x)).map (V.int .i64)) := by simp only [V.fz, fzs_map, fzs_int]
    rw [e1]
    generalize ((List.range (events p).length).map (rankS p x)).map (V.int .i64) = rk at hw0 hwk hwt ⊢
    have hhs : holdsS p x kind = ((lineE (netR p x 0) (events p).length).isSome && (settledS p x kind).isSome) := by
      have := hxo
      rw [ok_eq] at this
      rw [holdsS, this, hk, settledS]
      cases lineE (netR p x 0) (events p).length <;> rfl
    refine Sat.of (S := []) (by kernel_rfl) ?_
    simp (maxSteps := 1000000) (disch := omega) only [push_cast, go_sem, zA, zB, zC, zD, zE, zF, simprocAttr, netE_eq]
    refine callR.look hw0 rfl rfl rfl ?_
    simp (maxSteps := 1000000) (disch := omega) only [push_cast, go_sem, zA, zB, zC, zD, zE, zF, simprocAttr]
    refine callR.pure hho rfl rfl ?_
    cases hln : lineE (netR p x 0) (events p).length with
    | none =>
      rw [hln] at hhs
      have hf : holdsS p x kind = false := hhs
      simp (maxSteps := 1000000) (disch := omega) only [push_cast, go_sem, zA, zB, zC, zD, zE, zF, simprocAttr, Option.isSome_none]
      refine hJ (i + 1, x.fr.map (V.int .i64), rk) _ _ (by dsimp only; omega) (by dsimp only; omega) ?_
      dsimp only
      rw [htk, acc_no hf]
      (refine Less.start ?_; repeat (first | exact LessO.nil | exact LessO.all | refine LessO.skip (by decide) ?_ | refine LessO.upd ?_ ?_ | refine LessO.set ?_ ?_)) <;> (try simp (maxSteps := 1000000) (disch := omega) only [push_cast, go_sem, zA, zB, zC, zD, zE, zF, simprocAttr])
      all_goals rfl
    | some ls =>
      rw [hln] at hhs
      simp (maxSteps := 1000000) (disch := omega) only [push_cast, go_sem, zA, zB, zC, zD, zE, zF, simprocAttr, Option.isSome_some]
      refine callR.look hwk rfl rfl rfl ?_
      simp (maxSteps := 1000000) (disch := omega) only [push_cast, go_sem, zA, zB, zC, zD, zE, zF, simprocAttr]
      refine callR.look hwt rfl rfl rfl ?_
      have hst : (settledS p x kind).isSome = (settleR (events p).length (outA p) (chRef p (events p).length) (netR p x kind)).isSome := by rw [settledS, hln]; rfl
      rw [hst] at hhs
      cases hr : (settleR (events p).length (outA p) (chRef p (events p).length) (netR p x kind)).isSome
      · rw [hr] at hhs
        have hf : holdsS p x kind = false := hhs
        simp (maxSteps := 1000000) (disch := omega) only [push_cast, go_sem, zA, zB, zC, zD, zE, zF, simprocAttr]
        refine hJ (i + 1, x.fr.map (V.int .i64), rk) _ _ (by dsimp only; omega) (by dsimp only; omega) ?_
        dsimp only
        rw [htk, acc_no hf]
        (refine Less.start ?_; repeat (first | exact LessO.nil | exact LessO.all | refine LessO.skip (by decide) ?_ | refine LessO.upd ?_ ?_ | refine LessO.set ?_ ?_)) <;> (try simp (maxSteps := 1000000) (disch := omega) only [push_cast, go_sem, zA, zB, zC, zD, zE, zF, simprocAttr])
        all_goals rfl
      · rw [hr] at hhs
        have hf : holdsS p x kind = true := hhs
        simp (maxSteps := 1000000) (disch := omega) only [push_cast, go_sem, zA, zB, zC, zD, zE, zF, simprocAttr]
        refine Sat.drawnE [] [] (List.range 13) (pureT [(79, .agg [.sl ((seenF p x).rd.map (V.int .i64)), .sl ((seenF p x).ls.map (V.int .i64))]), (115, .sl ((putS (accS p kind ((specAll p).take i)) (seenF p x)).map Sn.V))]) (by kernel_rfl) (by kernel_rfl) ?_
        simp (maxSteps := 1000000) (disch := omega) only [push_cast, go_sem, zA, zB, zC, zD, zE, zF, simprocAttr, hx, hlt, Exe.V_eq]
        refine runD_pure rfl hse rfl rfl ?_ ?_
        · rfl
        simp (maxSteps := 1000000) (disch := omega) only [push_cast, go_sem, zA, zB, zC, zD, zE, zF, simprocAttr]
        refine runD_pure rfl hpu rfl rfl ?_ ?_
        · rfl
        simp (maxSteps := 1000000) (disch := omega) only [push_cast, go_sem, zA, zB, zC, zD, zE, zF, simprocAttr]
        refine hJ (i + 1, x.fr.map (V.int .i64), rk) _ _ (by dsimp only; omega) (by dsimp only; omega) ?_
        dsimp only
        rw [htk, acc_yes hf]
        (refine Less.start ?_; repeat (first | exact LessO.nil | exact LessO.all | refine LessO.skip (by decide) ?_ | refine LessO.upd ?_ ?_ | refine LessO.set ?_ ?_)) <;> (try simp (maxSteps := 1000000) (disch := omega) only [push_cast, go_sem, zA, zB, zC, zD, zE, zF, simprocAttr])
        all_goals rfl
  · have : i = (specAll p).length := by omega
    subst this
    rw [List.take_length]
    simp (maxSteps := 1000000) (disch := omega) only [push_cast, go_sem, zA, zB, zC, zD, zE, zF, simprocAttr]
    rfl
end Go.Proofs.YtfbgabkcjjahiaaGreatDoor
namespace Go.Proofs.YtfbgabkcjjahiaaGreatDoor
open Go.RowKit
set_option pp.maxSteps 3000

end Go.Proofs.YtfbgabkcjjahiaaGreatDoor
namespace Go.Proofs.YtfbgabkcjjahiaaGreatDoor
open Go.RowKit
set_option pp.maxSteps 3000

theorem l71Kind_pl (bs : List Int) (hb : Bytes bs) (g p : Nat) (hp : p < 2 ^ 29) : Fr Tryz.prog 41 [] g (rdO bs g p)
    (fun r o' => (∃ v : Int, r = .int .i64 v) ∧ ∃ q, p ≤ q ∧ q ≤ p + 2 ∧ o' = rdO bs g q) := by
  refine Fc.start (S := []) Tryz.func41 Tryz.ntmps41 Tryz.results41 rfl (by decide) rfl (by kernel_rfl) ?_
  simp (maxSteps := 1000000) (disch := omega) only [push_cast, go_sem, zA, zB, zC, zD, zE, zF, simprocAttr]
  refine callR.rd (pick_rd bs hb g p (by omega) 24 (by omega)) rfl rfl rfl ?_
  rintro r o' ⟨v, rfl, hv0, hv1, _, rfl⟩
  simp (maxSteps := 1000000) (disch := omega) only [push_cast, go_sem, zA, zB, zC, zD, zE, zF, simprocAttr]
  refine ⟨fun hv g1 => ?_, fun hv => ?_⟩
  · refine callR.rd (pick_rd bs hb g (p + 1) (by omega) 3 (by omega)) rfl rfl rfl ?_
    rintro r o' ⟨u, rfl, hu0, hu1, _, rfl⟩
    have hu : u < 3 := hu1 (by omega)
    obtain ⟨n, rfl⟩ := Int.eq_ofNat_of_zero_le hu0
    obtain ⟨z, hz⟩ := ints_get (l := [.int .i64 0, .int .i64 4, .int .i64 (-1)]) (n := n) rfl (by simp; omega)
    simp (maxSteps := 1000000) (disch := omega) only [push_cast, go_sem, zA, zB, zC, zD, zE, zF, simprocAttr, hz]
    refine ⟨by omega, _, Sub.set Sub.no rfl, _, ⟨⟨_, rfl⟩, p + 1 + 1, by omega, by omega, rfl⟩, rfl⟩
  · refine callR.rd (pick_rd bs hb g (p + 1) (by omega) 3 (by omega)) rfl rfl rfl ?_
    rintro r o' ⟨u, rfl, hu0, hu1, _, rfl⟩
    simp (maxSteps := 1000000) (disch := omega) only [push_cast, go_sem, zA, zB, zC, zD, zE, zF, simprocAttr]
    exact ⟨_, Sub.rfl, _, ⟨⟨_, rfl⟩, p + 1 + 1, by omega, by omega, rfl⟩, rfl⟩
end Go.Proofs.YtfbgabkcjjahiaaGreatDoor
namespace Go.Proofs.YtfbgabkcjjahiaaGreatDoor
open Go.RowKit
set_option pp.maxSteps 3000

theorem specOrderAll_fn (p : Prog) (kind : Int) (hp : p.length < 2 ^ 40) : Fp Tryz.prog 31 [progV p, .int .i64 kind] (.sl ((ordAll p kind).map Sn.V)) := by
  have h1 := specAllF_fn p hp
  have h2 := l13All_fn p kind hp
  rw [progV_eq] at h1 h2
  refine Fc.start (S := []) Tryz.func31 Tryz.ntmps31 Tryz.results31 rfl (by decide) rfl (by kernel_rfl) ?_
  simp (maxSteps := 1000000) (disch := omega) only [push_cast, go_sem, zA, zB, zC, zD, zE, zF, simprocAttr, progV_eq]
  intro g2
  refine Sat.drawnE [] [] (List.range 6) (pureT [(43, .sl ((specAll p).map Exe.V)), (68, .sl ((ordAll p kind).map Sn.V))]) (by kernel_rfl) (by kernel_rfl) ?_
  simp (maxSteps := 1000000) (disch := omega) only [push_cast, go_sem, zA, zB, zC, zD, zE, zF, simprocAttr]
  refine runD_pure rfl h1 rfl rfl ?_ ?_
  · rfl
  simp (maxSteps := 1000000) (disch := omega) only [push_cast, go_sem, zA, zB, zC, zD, zE, zF, simprocAttr]
  refine runD_pure rfl h2 rfl rfl ?_ ?_
  · rfl
  simp (maxSteps := 1000000) (disch := omega) only [push_cast, go_sem, zA, zB, zC, zD, zE, zF, simprocAttr]
theorem ord_small {p : Prog} {kind : Int} : ∀ t ∈ ordAll p kind, t.small := by
  rw [ordAll]
  split
  · exact acc_small (p := p) (kind := kind) (l := specAll p) fun x hx => all_ok (p := p) (x := x) (by rw [all_eq]; exact hx)
  · exact fun t ht => by cases ht
theorem ord_len (p : Prog) (kind : Int) : (ordAll p kind).length < 2 ^ 30 := by
  rw [ordAll]
  split
  · have := acc_len p kind (specAll p)
    have := specAll_le p
    rw [accS] at *; omega
  · simp
theorem progReads_ex (p : Prog) (hp : p.length ≤ 3) (hl : ∀ l ∈ p, l.length < 2 ^ 11) : Fc Tryz.prog 117 [progV p] noM (fun r m => (∃ n : Int, r = .int .i64 n ∧ n < 2 ^ 14) ∧ m = noM) := by
  have h1 := specProgOk_fn p (by omega)
  rw [progV_eq] at h1
  refine Fc.start (S := []) Tryz.func117 Tryz.ntmps117 Tryz.results117 rfl (by decide) rfl (by kernel_rfl) ?_
  simp (maxSteps := 1000000) (disch := omega) only [push_cast, go_sem, zA, zB, zC, zD, zE, zF, simprocAttr, progV_eq]
  intro g1
  refine callR.pure h1 rfl rfl ?_
  cases hok : progOk p
  · simp (maxSteps := 1000000) (disch := omega) only [push_cast, go_sem, zA, zB, zC, zD, zE, zF, simprocAttr]
    exact ⟨_, rfl, by omega⟩
  simp (maxSteps := 1000000) (disch := omega) only [push_cast, go_sem, zA, zB, zC, zD, zE, zF, simprocAttr]
  refine Sat.loop (σ := Nat × Nat) (fun s => upd (upd (upd noT 1 (.ptr 1 [] 0 0 g1 1)) 3 (.int .i64 s.2)) 4 (.int .i64 s.1)) (fun _ => noM.set 1 (.own 25 (some g1) 1 [.agg [.sl (p.map thrV)]]))
    (fun s => s.1 ≤ p.length ∧ s.2 ≤ s.1 * 2 ^ 11) (fun s => p.length - s.1) (0, 0) (by simp) ?_ ?_
  · (refine Less.start ?_; repeat (first | exact LessO.nil | exact LessO.all | refine LessO.skip (by decide) ?_ | refine LessO.upd ?_ ?_ | refine LessO.set ?_ ?_)) <;> (try simp (maxSteps := 1000000) (disch := omega) only [push_cast, go_sem, zA, zB, zC, zD, zE, zF, simprocAttr])
  rintro ⟨i, c⟩ ⟨hi, hc⟩ J hJ
  simp only at hi hc hJ
  refine Sat.of (S := []) (by kernel_rfl) ?_
  rcases Nat.lt_or_ge i p.length with hlt | hge
  · obtain ⟨l, hll⟩ : ∃ l, p[i]? = some l := ⟨_, List.getElem?_eq_getElem hlt⟩
    have hls := hl l (List.mem_of_getElem? hll)
    simp (maxSteps := 1000000) (disch := omega) only [push_cast, go_sem, zA, zB, zC, zD, zE, zF, simprocAttr, hlt]
    refine Sat.loop (σ := Nat × Nat) (fun s => upd (upd (upd (upd noT 1 (.ptr 1 [] 0 0 g1 1)) 3 (.int .i64 s.2)) 4 (.int .i64 i)) 5 (.int .i64 s.1)) (fun _ => noM.set 1 (.own 25 (some g1) 1 [.agg [.sl (p.map thrV)]]))
      (fun s => s.1 ≤ l.length ∧ s.2 ≤ c + s.1) (fun s => l.length - s.1) (0, c) (by simp) ?_ ?_
    · (refine Less.start ?_; repeat (first | exact LessO.nil | exact LessO.all | refine LessO.skip (by decide) ?_ | refine LessO.upd ?_ ?_ | refine LessO.set ?_ ?_)) <;> (try simp (maxSteps := 1000000) (disch := omega) only [push_cast, go_sem, zA, zB, zC, zD, zE, zF, simprocAttr])
    rintro ⟨k, c2⟩ ⟨hk, hc2⟩ J2 hJ2
    simp only at hk hc2 hJ2
    refine Sat.of (S := []) (by kernel_rfl) ?_
    rcases Nat.lt_or_ge k l.length with hlt2 | hge2
    · obtain ⟨d, hd⟩ : ∃ d, l[k]? = some d := ⟨_, List.getElem?_eq_getElem hlt2⟩
      have hre := l1Reads_fn d
      rw [Do.V_eq] at hre
      simp (maxSteps := 1000000) (disch := omega) only [push_cast, go_sem, zA, zB, zC, zD, zE, zF, simprocAttr, hlt, hll, hlt2, hd, thrV_eq, Do.V_eq]
      refine callR.pure hre rfl rfl ?_
      cases d.reads
      · simp (maxSteps := 1000000) (disch := omega) only [push_cast, go_sem, zA, zB, zC, zD, zE, zF, simprocAttr]
        refine hJ2 (k + 1, c2) _ _ ⟨by dsimp only; omega, by dsimp only; omega⟩ (by dsimp only; omega) ?_
        (refine Less.start ?_; repeat (first | exact LessO.nil | exact LessO.all | refine LessO.skip (by decide) ?_ | refine LessO.upd ?_ ?_ | refine LessO.set ?_ ?_)) <;> (try simp (maxSteps := 1000000) (disch := omega) only [push_cast, go_sem, zA, zB, zC, zD, zE, zF, simprocAttr])
      · simp (maxSteps := 1000000) (disch := omega) only [push_cast, go_sem, zA, zB, zC, zD, zE, zF, simprocAttr]
        refine hJ2 (k + 1, c2 + 1) _ _ ⟨by dsimp only; omega, by dsimp only; omega⟩ (by dsimp only; omega) ?_
        (refine Less.start ?_; repeat (first | exact LessO.nil | exact LessO.all | refine LessO.skip (by decide) ?_ | refine LessO.upd ?_ ?_ | refine LessO.set ?_ ?_)) <;> (try simp (maxSteps := 1000000) (disch := omega) only [push_cast, go_sem, zA, zB, zC, zD, zE, zF, simprocAttr])
    · have : k = l.length := by omega
      subst this
      simp (maxSteps := 1000000) (disch := omega) only [push_cast, go_sem, zA, zB, zC, zD, zE, zF, simprocAttr, hlt, hll, thrV_eq]
      refine hJ (i + 1, c2) _ _ ⟨by dsimp only; omega, by dsimp only; omega⟩ (by dsimp only; omega) ?_
      (refine Less.start ?_; repeat (first | exact LessO.nil | exact LessO.all | refine LessO.skip (by decide) ?_ | refine LessO.upd ?_ ?_ | refine LessO.set ?_ ?_)) <;> (try simp (maxSteps := 1000000) (disch := omega) only [push_cast, go_sem, zA, zB, zC, zD, zE, zF, simprocAttr])
  · have : i = p.length := by omega
    subst this
    simp (maxSteps := 1000000) (disch := omega) only [push_cast, go_sem, zA, zB, zC, zD, zE, zF, simprocAttr]
    exact ⟨_, rfl, by omega⟩

/-- A way of what was seen, whatever it is. -/
theorem l71Seen_rd (bs : List Int) (hb : Bytes bs) (g p : Nat) (x : Prog) (hp : p < 2 ^ 27) (hx : x.length ≤ 3) (hl : ∀ l ∈ x, l.length < 2 ^ 11) : Fr Tryz.prog 74 [progV x] g (rdO bs g p)
    (fun r o' => (∃ s : Sn, r = s.V ∧ s.small) ∧ ∃ q, p ≤ q ∧ q ≤ p + 2 ^ 15 ∧ o' = rdO bs g q) := by
  have hpr := progReads_ex x hx hl
  rw [progV_eq] at hpr
  refine Fc.start (S := [10, 15, 17]) Tryz.func74 Tryz.ntmps74 Tryz.results74 rfl (by decide) rfl (by kernel_rfl) ?_
  simp (maxSteps := 1000000) (disch := omega) only [push_cast, go_sem, zA, zB, zC, zD, zE, zF, simprocAttr, progV_eq]
  intro g3 g4 g8 g5
  refine callR.ex hpr rfl rfl ?_
  rintro r ⟨n, rfl, hn⟩
  simp (maxSteps := 1000000) (disch := omega) only [push_cast, go_sem, zA, zB, zC, zD, zE, zF, simprocAttr]
  refine Sat.loop (σ := EvS × List Int × Nat × Int) (fun y => upd (upd (upd (upd (upd noT 0 (.ptr 0 [] 0 0 g 2)) 3 (.ptr 3 [] 0 0 g3 1)) 4 (.ptr 4 [] 0 0 g4 2)) 5 (.ptr 5 [] 0 0 g5 2)) 6 (.int .i64 y.2.2.2))
    (fun y => (((noM.set 0 (rdO bs g y.2.2.1)).set 3 (.own 25 (some g3) 1 [.agg [.sl (x.map thrV)]])).set 4 (.own 28 (some g4) 1 [.agg [.own 0 none 0 [], .own 0 none 0 []]])).set 5 (.own 28 (some g5) 1 [.agg [.own y.1.e y.1.γ y.1.c (y.2.1.map (V.int .i64)), .own 0 none 0 []]]))
    (fun y => y.1.e = 3 ∧ y.2.2.2 ≤ n ∧ (y.2.1.length : Int) + max y.2.2.2 0 ≤ max n 0 ∧ p ≤ y.2.2.1 ∧ y.2.2.1 ≤ p + y.2.1.length) (fun y => y.2.2.2.toNat) (⟨0, 3, some g8, 0⟩, [], p, n) ⟨rfl, by dsimp only; omega, by dsimp only; simp, by dsimp only; omega, by dsimp only; omega⟩ ?_ ?_
  · (refine Less.start ?_; repeat (first | exact LessO.nil | exact LessO.all | refine LessO.skip (by decide) ?_ | refine LessO.upd ?_ ?_ | refine LessO.set ?_ ?_)) <;> (try simp (maxSteps := 1000000) (disch := omega) only [push_cast, go_sem, zA, zB, zC, zD, zE, zF, simprocAttr])
    all_goals rfl
  rintro ⟨⟨k0, e, γ, c⟩, rd, q, m⟩ ⟨he, hm, hml, hq1, hq2⟩ J hJ
  simp only at he hm hml hq1 hq2 hJ
  subst he
  have hγ' : (γ = none ∨ 3 = 3) = True := by simp
  refine Sat.of (S := [10, 15, 17]) (by kernel_rfl) ?_
  by_cases hm0 : 0 < m
  · simp (maxSteps := 1000000) (disch := omega) only [push_cast, go_sem, zA, zB, zC, zD, zE, zF, simprocAttr, hm0]
    refine Sat.drawnE [(1, 3), (1, 4)] [] [0, 1, 2, 6] (rdTab bs g [(70, 1, pickQ)] []) (by kernel_rfl) (by kernel_rfl) ?_
    simp (maxSteps := 1000000) (disch := omega) only [push_cast, go_sem, zA, zB, zC, zD, zE, zF, simprocAttr]
    refine runD_pl (pick_pl bs hb g q (by omega) 4 (by omega)) rfl rfl rfl rfl pickQ_ne ?_ ?_
    · rfl
    rintro r q3 hq5 hq6 ⟨n', v, hn', rfl, hv⟩
    simp (maxSteps := 1000000) (disch := omega) only [push_cast, go_sem, zA, zB, zC, zD, zE, zF, simprocAttr, hγ']
    intro g20
    refine ⟨by omega, fun γ1 c1 _ => ?_⟩
    refine hJ (⟨0, 3, γ1, c1⟩, rd ++ [v], q3, m - 1) _ _ ⟨rfl, by dsimp only; omega, by dsimp only; rw [List.length_append]; simp; omega, by dsimp only; omega, by dsimp only; rw [List.length_append]; simp; omega⟩ (by dsimp only; omega) ?_
    (refine Less.start ?_; repeat (first | exact LessO.nil | exact LessO.all | refine LessO.skip (by decide) ?_ | refine LessO.upd ?_ ?_ | refine LessO.set ?_ ?_)) <;> (try simp (maxSteps := 1000000) (disch := omega) only [push_cast, go_sem, zA, zB, zC, zD, zE, zF, simprocAttr])
    all_goals simp
  simp (maxSteps := 1000000) (disch := omega) only [push_cast, go_sem, zA, zB, zC, zD, zE, zF, simprocAttr, hm0]
  have hrl : rd.length ≤ 2 ^ 14 := by omega
  have hq0 : q ≤ p + 2 ^ 14 := by omega
  clear hJ hml hm hm0 hpr hn hq2
  refine Sat.loop (σ := EvS × List Int × Nat) (fun y => upd (upd (upd (upd (upd noT 0 (.ptr 0 [] 0 0 g 2)) 3 (.ptr 3 [] 0 0 g3 1)) 4 (.ptr 4 [] 0 0 g4 2)) 5 (.ptr 5 [] 0 0 g5 2)) 7 (.int .i64 y.2.1.length))
    (fun y => (((noM.set 0 (rdO bs g y.2.2)).set 3 (.own 25 (some g3) 1 [.agg [.sl (x.map thrV)]])).set 4 (.own 28 (some g4) 1 [.agg [.own 0 none 0 [], .own 0 none 0 []]])).set 5 (.own 28 (some g5) 1 [.agg [.own 3 γ c (rd.map (V.int .i64)), .own y.1.e y.1.γ y.1.c (y.2.1.map (V.int .i64))]]))
    (fun y => (y.1.γ = none ∨ y.1.e = 3) ∧ y.2.1.length ≤ 3 ∧ q ≤ y.2.2 ∧ y.2.2 ≤ q + y.2.1.length) (fun y => 3 - y.2.1.length) (⟨0, 0, none, 0⟩, [], q) ⟨.inl rfl, by dsimp only; simp, by dsimp only; omega, by dsimp only; omega⟩ ?_ ?_
  · (refine Less.start ?_; repeat (first | exact LessO.nil | exact LessO.all | refine LessO.skip (by decide) ?_ | refine LessO.upd ?_ ?_ | refine LessO.set ?_ ?_)) <;> (try simp (maxSteps := 1000000) (disch := omega) only [push_cast, go_sem, zA, zB, zC, zD, zE, zF, simprocAttr])
    all_goals rfl
  rintro ⟨⟨k1, e2, γ2, c2⟩, ls, q1⟩ ⟨he, hm, hq3, hq4⟩ J hJ
  simp only at he hm hq3 hq4 hJ
  have hγ2 : (γ2 = none ∨ e2 = 3) = True := by simp only [he]
  refine Sat.of (S := [10, 15, 17]) (by kernel_rfl) ?_
  by_cases hm0 : (ls.length : Int) < 3
  · simp (maxSteps := 1000000) (disch := omega) only [push_cast, go_sem, zA, zB, zC, zD, zE, zF, simprocAttr, hm0]
    refine Sat.drawnE [(1, 3), (1, 4)] [] [0, 1, 2, 6] (rdTab bs g [(70, 1, pickQ)] []) (by kernel_rfl) (by kernel_rfl) ?_
    simp (maxSteps := 1000000) (disch := omega) only [push_cast, go_sem, zA, zB, zC, zD, zE, zF, simprocAttr]
    refine runD_pl (pick_pl bs hb g q1 (by omega) 4 (by omega)) rfl rfl rfl rfl pickQ_ne ?_ ?_
    · rfl
    rintro r q5 hq5 hq6 ⟨n', v, hn', rfl, hv⟩
    simp (maxSteps := 1000000) (disch := omega) only [push_cast, go_sem, zA, zB, zC, zD, zE, zF, simprocAttr, hγ2]
    intro g20
    refine ⟨by omega, fun γ1 c1 _ => ?_⟩
    refine hJ (⟨0, 3, γ1, c1⟩, ls ++ [v], q5) _ _ ⟨.inr rfl, by dsimp only; rw [List.length_append]; simp; omega, by dsimp only; omega, by dsimp only; rw [List.length_append]; simp; omega⟩ (by dsimp only; rw [List.length_append]; simp; omega) ?_
    (refine Less.start ?_; repeat (first | exact LessO.nil | exact LessO.all | refine LessO.skip (by decide) ?_ | refine LessO.upd ?_ ?_ | refine LessO.set ?_ ?_)) <;> (try simp (maxSteps := 1000000) (disch := omega) only [push_cast, go_sem, zA, zB, zC, zD, zE, zF, simprocAttr])
    all_goals simp
  have hls : ls.length = 3 := by omega
  simp (maxSteps := 1000000) (disch := omega) only [push_cast, go_sem, zA, zB, zC, zD, zE, zF, simprocAttr, hm0]
  clear hJ
  refine Sat.of (S := [15, 17]) (by kernel_rfl) ?_
  simp (maxSteps := 1000000) (disch := omega) only [push_cast, go_sem, zA, zB, zC, zD, zE, zF, simprocAttr]
  refine callR.rd (pick_rd bs hb g q1 (by omega) 16 (by omega)) rfl rfl rfl ?_
  rintro r o' ⟨v, rfl, hv0, hv1, _, rfl⟩
  by_cases h0 : v = 0
  · have e0 : (v == 0) = true := by simpa using h0
    simp (maxSteps := 1000000) (disch := omega) only [push_cast, go_sem, zA, zB, zC, zD, zE, zF, simprocAttr, e0, hγ']
    intro g40
    refine ⟨by omega, fun γ1 c1 _ => ?_⟩
    rw [show rd.map (V.int .i64) ++ [V.int .i64 0] = (rd ++ [0]).map (V.int .i64) from by simp]
    refine Sat.freezeC 5 [] 0 0 (n0 := .own 28 (some g5) 1 [.agg [.own 3 γ1 c1 ((rd ++ [0]).map (V.int .i64)), .own e2 γ2 c2 (ls.map (V.int .i64))]]) (d := .own 3 γ1 c1 ((rd ++ [0]).map (V.int .i64))) ?_ rfl rfl ?_
    · rfl
    have ez1 : (V.own 3 γ1 c1 ((rd ++ [0]).map (V.int .i64))).fz = .sl ((rd ++ [0]).map (V.int .i64)) := by simp only [V.fz, fzs_map, fzs_int]
    rw [ez1]
    refine Sat.freezeC 5 [] 0 1 (n0 := .own 28 (some g5) 1 [.agg [.sl ((rd ++ [0]).map (V.int .i64)), .own e2 γ2 c2 (ls.map (V.int .i64))]]) (d := .own e2 γ2 c2 (ls.map (V.int .i64))) ?_ rfl rfl ?_
    · rfl
    have ez2 : (V.own e2 γ2 c2 (ls.map (V.int .i64))).fz = .sl (ls.map (V.int .i64)) := by simp only [V.fz, fzs_map, fzs_int]
    rw [ez2]
    refine Sat.of (S := []) (by kernel_rfl) ?_
    simp (maxSteps := 1000000) (disch := omega) only [push_cast, go_sem, zA, zB, zC, zD, zE, zF, simprocAttr]
    refine ⟨_, ?_, _, ⟨⟨⟨rd ++ [0], ls⟩, rfl, ⟨by dsimp only; simp; omega, by dsimp only; simp; omega⟩⟩, q1 + 1, by omega, by omega, rfl⟩, rfl⟩
    ((repeat (first | exact Sub.no | refine Sub.set ?_ ?_)) <;> (try simp (disch := omega) only [push_cast, go_sem, zA, zB, zC, zD, zE, zF, simprocAttr]))
  have e0 : (v == 0) = false := by simpa using h0
  by_cases h1 : v = 1
  · have e1 : (v == 1) = true := by simpa using h1
    simp (maxSteps := 1000000) (disch := omega) only [push_cast, go_sem, zA, zB, zC, zD, zE, zF, simprocAttr, e0, e1]
    refine Sat.someP (o := 5) (q := [(0, 1)]) (e := e2) (γ := γ2) (cap := c2) (es := ls.map (V.int .i64)) rfl (fun h => by have := congrArg List.length h; simp at this; rw [this] at hls; simp at hls) ?_
    rintro g7 rfl
    obtain rfl : e2 = 3 := he.resolve_left nofun
    refine Sat.drawnE [(1, 2), (1, 4), (2, 4)] [] [0, 1, 3, 5, 6, 7] (rdTab bs g [(70, 1, pickQ)] []) (by kernel_rfl) (by kernel_rfl) ?_
    simp (maxSteps := 1000000) (disch := omega) only [push_cast, go_sem, zA, zB, zC, zD, zE, zF, simprocAttr]
    intro g47
    refine runD_pl (pick_pl bs hb g (q1 + 1) (by omega) 2 (by omega)) rfl rfl rfl rfl pickQ_ne ?_ ?_
    · rfl
    rintro r q5 hq5 hq6 ⟨n', u, hn', rfl, hu⟩
    cases hn'
    have hu1 := hu.2.1 (by omega)
    obtain ⟨u, rfl⟩ := Int.eq_ofNat_of_zero_le hu.1
    obtain ⟨z, hz⟩ := ints_get (l := [.int .i64 (-1), .int .i64 4]) (n := u) rfl (by simp; omega)
    have hu2 : (u : Int) < 2 := hu1
    obtain ⟨y0, hy0⟩ : ∃ y, ls[0]? = some y := ⟨_, List.getElem?_eq_getElem (by omega)⟩
    simp (maxSteps := 1000000) (disch := omega) only [push_cast, go_sem, zA, zB, zC, zD, zE, zF, simprocAttr, hz, hls, hu2, hy0]
    rw [modInts]
    refine Sat.freezeC 5 [] 0 0 (n0 := .own 28 (some g5) 1 [.agg [.own 3 γ c (rd.map (V.int .i64)), .own 3 (some g7) c2 ((ls.set 0 z).map (V.int .i64))]]) (d := .own 3 γ c (rd.map (V.int .i64))) ?_ rfl rfl ?_
    · rfl
    have ey1 : (V.own 3 γ c (rd.map (V.int .i64))).fz = .sl (rd.map (V.int .i64)) := by simp only [V.fz, fzs_map, fzs_int]
    rw [ey1]
    refine Sat.freezeC 5 [] 0 1 (n0 := .own 28 (some g5) 1 [.agg [.sl (rd.map (V.int .i64)), .own 3 (some g7) c2 ((ls.set 0 z).map (V.int .i64))]]) (d := .own 3 (some g7) c2 ((ls.set 0 z).map (V.int .i64))) ?_ rfl rfl ?_
    · rfl
    have ey2 : (V.own 3 (some g7) c2 ((ls.set 0 z).map (V.int .i64))).fz = .sl ((ls.set 0 z).map (V.int .i64)) := by simp only [V.fz, fzs_map, fzs_int]
    rw [ey2]
    refine Sat.of (S := []) (by kernel_rfl) ?_
    simp (maxSteps := 1000000) (disch := omega) only [push_cast, go_sem, zA, zB, zC, zD, zE, zF, simprocAttr]
    refine ⟨_, ?_, _, ⟨⟨⟨rd, ls.set 0 z⟩, rfl, ⟨by dsimp only; omega, by dsimp only; simp; omega⟩⟩, q5, by omega, by omega, rfl⟩, rfl⟩
    ((repeat (first | exact Sub.no | refine Sub.set ?_ ?_)) <;> (try simp (disch := omega) only [push_cast, go_sem, zA, zB, zC, zD, zE, zF, simprocAttr]))
  have e1 : (v == 1) = false := by simpa using h1
  simp (maxSteps := 1000000) (disch := omega) only [push_cast, go_sem, zA, zB, zC, zD, zE, zF, simprocAttr, e0, e1]
  refine Sat.freezeC 5 [] 0 0 (n0 := .own 28 (some g5) 1 [.agg [.own 3 γ c (rd.map (V.int .i64)), .own e2 γ2 c2 (ls.map (V.int .i64))]]) (d := .own 3 γ c (rd.map (V.int .i64))) ?_ rfl rfl ?_
  · rfl
  have ez3 : (V.own 3 γ c (rd.map (V.int .i64))).fz = .sl (rd.map (V.int .i64)) := by simp only [V.fz, fzs_map, fzs_int]
  rw [ez3]
  refine Sat.freezeC 5 [] 0 1 (n0 := .own 28 (some g5) 1 [.agg [.sl (rd.map (V.int .i64)), .own e2 γ2 c2 (ls.map (V.int .i64))]]) (d := .own e2 γ2 c2 (ls.map (V.int .i64))) ?_ rfl rfl ?_
  · rfl
  have ez4 : (V.own e2 γ2 c2 (ls.map (V.int .i64))).fz = .sl (ls.map (V.int .i64)) := by simp only [V.fz, fzs_map, fzs_int]
  rw [ez4]
  refine Sat.of (S := []) (by kernel_rfl) ?_
  by_cases h2 : v = 2
  · have e2 : (v == 2) = true := by simpa using h2
    have et : List.drop 1 (List.take 3 (ls.map (V.int .i64))) = (ls.drop 1).map (V.int .i64) := by
      rw [List.take_of_length_le (by simp; omega), List.map_drop]
    simp (maxSteps := 1000000) (disch := omega) only [push_cast, go_sem, zA, zB, zC, zD, zE, zF, simprocAttr, e2, hls, et]
    refine ⟨fun y hy => by simp at hy; obtain ⟨z, _, rfl⟩ := hy; rfl, ?_⟩
    refine Sat.of (S := []) (by kernel_rfl) ?_
    simp (maxSteps := 1000000) (disch := omega) only [push_cast, go_sem, zA, zB, zC, zD, zE, zF, simprocAttr]
    refine ⟨_, ?_, _, ⟨⟨⟨rd, ls.drop 1⟩, rfl, ⟨by dsimp only; omega, by dsimp only; simp; omega⟩⟩, q1 + 1, by omega, by omega, rfl⟩, rfl⟩
    ((repeat (first | exact Sub.no | refine Sub.set ?_ ?_)) <;> (try simp (disch := omega) only [push_cast, go_sem, zA, zB, zC, zD, zE, zF, simprocAttr]))
  have e2 : (v == 2) = false := by simpa using h2
  simp (maxSteps := 1000000) (disch := omega) only [push_cast, go_sem, zA, zB, zC, zD, zE, zF, simprocAttr, e2]
  refine Sat.of (S := []) (by kernel_rfl) ?_
  simp (maxSteps := 1000000) (disch := omega) only [push_cast, go_sem, zA, zB, zC, zD, zE, zF, simprocAttr]
  refine ⟨_, ?_, _, ⟨⟨⟨rd, ls⟩, rfl, ⟨by dsimp only; omega, by dsimp only; omega⟩⟩, q1 + 1, by omega, by omega, rfl⟩, rfl⟩
  ((repeat (first | exact Sub.no | refine Sub.set ?_ ?_)) <;> (try simp (disch := omega) only [push_cast, go_sem, zA, zB, zC, zD, zE, zF, simprocAttr]))
end Go.Proofs.YtfbgabkcjjahiaaGreatDoor
namespace Go.Proofs.YtfbgabkcjjahiaaGreatDoor
open Go.RowKit
set_option pp.maxSteps 3000

theorem l71Why_rd (bs : List Int) (hb : Bytes bs) (g p : Nat) (kind : Int) (hp : p < 2 ^ 20) : Fr Tryz.prog 42 [.int .i64 kind] g (rdO bs g p)
    (fun r o' => (∃ (x : Prog) (s : Sn), r = .tuple [progV x, s.V] ∧ x.length ≤ 3 ∧ (∀ l ∈ x, l.length < 2 ^ 11) ∧ s.small) ∧ ∃ q, p ≤ q ∧ q ≤ p + 2 ^ 26 ∧ o' = rdO bs g q) := by
  refine Fc.start (S := []) Tryz.func42 Tryz.ntmps42 Tryz.results42 rfl (by decide) rfl (by kernel_rfl) ?_
  simp (maxSteps := 1000000) (disch := omega) only [push_cast, go_sem, zA, zB, zC, zD, zE, zF, simprocAttr]
  intro g4 g5
  refine callR.rd (l71Any_rd bs hb g p (by omega)) rfl rfl rfl ?_
  rintro r o' ⟨x, rfl, hx1, hx2, q, hq1, hq2, rfl⟩
  have hall := specOrderAll_fn x kind (by omega)
  rw [progV_eq] at hall
  simp (maxSteps := 1000000) (disch := omega) only [push_cast, go_sem, zA, zB, zC, zD, zE, zF, simprocAttr, progV_eq]
  intro g6
  refine callR.pure hall rfl rfl ?_
  have hol := ord_len x kind
  by_cases h0 : ((ordAll x kind).length : Int) = 0
  · have e0 : (((ordAll x kind).length : Int) == 0) = true := by simpa using h0
    simp (maxSteps := 1000000) (disch := omega) only [push_cast, go_sem, zA, zB, zC, zD, zE, zF, simprocAttr, e0]
    refine Sat.drawnE [(0, 3)] [] [0, 1, 2] (rdTab bs g [(74, 32768, fun _ r => ∃ s : Sn, r = s.V ∧ s.small)] []) (by kernel_rfl) (by kernel_rfl) ?_
    simp (maxSteps := 1000000) (disch := omega) only [push_cast, go_sem, zA, zB, zC, zD, zE, zF, simprocAttr]
    have hsn := l71Seen_rd bs hb g q x (by omega) hx1 hx2
    rw [progV_eq] at hsn
    refine runD_pl (cc := 32768) (Q := fun _ r => ∃ s : Sn, r = s.V ∧ s.small) hsn rfl rfl rfl rfl ⟨_, ⟨[], []⟩, rfl, by decide, by decide⟩ ?_ ?_
    · rfl
    rintro r q3 hq5 hq6 ⟨s, rfl, hs⟩
    simp (maxSteps := 1000000) (disch := omega) only [push_cast, go_sem, zA, zB, zC, zD, zE, zF, simprocAttr, Sn.V_eq]
    refine ⟨_, ?_, _, ⟨⟨x, s, rfl, hx1, hx2, hs⟩, q3, by omega, by omega, rfl⟩, rfl⟩
    ((repeat (first | exact Sub.no | refine Sub.set ?_ ?_)) <;> (try simp (disch := omega) only [push_cast, go_sem, zA, zB, zC, zD, zE, zF, simprocAttr]))
  have e0 : (((ordAll x kind).length : Int) == 0) = false := by simpa using h0
  simp (maxSteps := 1000000) (disch := omega) only [push_cast, go_sem, zA, zB, zC, zD, zE, zF, simprocAttr, e0]
  refine callR.rd (pick_rd bs hb g q (by omega) 4 (by omega)) rfl rfl rfl ?_
  rintro r o' ⟨v, rfl, hv0, hv1, _, rfl⟩
  by_cases h1 : v = 0
  · have e1 : (v == 0) = true := by simpa using h1
    simp (maxSteps := 1000000) (disch := omega) only [push_cast, go_sem, zA, zB, zC, zD, zE, zF, simprocAttr, e1]
    refine Sat.drawnE [(0, 3)] [] [0, 1, 2] (rdTab bs g [(74, 32768, fun _ r => ∃ s : Sn, r = s.V ∧ s.small)] []) (by kernel_rfl) (by kernel_rfl) ?_
    simp (maxSteps := 1000000) (disch := omega) only [push_cast, go_sem, zA, zB, zC, zD, zE, zF, simprocAttr]
    have hsn := l71Seen_rd bs hb g (q + 1) x (by omega) hx1 hx2
    rw [progV_eq] at hsn
    refine runD_pl (cc := 32768) (Q := fun _ r => ∃ s : Sn, r = s.V ∧ s.small) hsn rfl rfl rfl rfl ⟨_, ⟨[], []⟩, rfl, by decide, by decide⟩ ?_ ?_
    · rfl
    rintro r q3 hq5 hq6 ⟨s, rfl, hs⟩
    simp (maxSteps := 1000000) (disch := omega) only [push_cast, go_sem, zA, zB, zC, zD, zE, zF, simprocAttr, Sn.V_eq]
    refine ⟨_, ?_, _, ⟨⟨x, s, rfl, hx1, hx2, hs⟩, q3, by omega, by omega, rfl⟩, rfl⟩
    ((repeat (first | exact Sub.no | refine Sub.set ?_ ?_)) <;> (try simp (disch := omega) only [push_cast, go_sem, zA, zB, zC, zD, zE, zF, simprocAttr]))
  have e1 : (v == 0) = false := by simpa using h1
  simp (maxSteps := 1000000) (disch := omega) only [push_cast, go_sem, zA, zB, zC, zD, zE, zF, simprocAttr, e1]
  refine Sat.drawnE [(0, 5), (7, 8)] [] [0, 1, 2, 3, 4, 6, 7] (rdTab bs g [(70, 1, pickQ)] []) (by kernel_rfl) (by kernel_rfl) ?_
  simp (maxSteps := 1000000) (disch := omega) only [push_cast, go_sem, zA, zB, zC, zD, zE, zF, simprocAttr]
  refine runD_pl (pick_pl bs hb g (q + 1) (by omega) (ordAll x kind).length (by omega)) rfl rfl rfl rfl pickQ_ne ?_ ?_
  · rfl
  rintro r q5 hq5 hq6 ⟨n', u, hn', rfl, hu⟩
  cases hn'
  have hu1 := hu.2.1 (by omega)
  obtain ⟨u, rfl⟩ := Int.eq_ofNat_of_zero_le hu.1
  have hul : u < (ordAll x kind).length := by omega
  obtain ⟨s, hsu⟩ : ∃ s, (ordAll x kind)[u]? = some s := ⟨_, List.getElem?_eq_getElem hul⟩
  have hs := ord_small s (List.mem_of_getElem? hsu)
  simp (maxSteps := 1000000) (disch := omega) only [push_cast, go_sem, zA, zB, zC, zD, zE, zF, simprocAttr, hsu, hul, hu1, Sn.V_eq]
  refine ⟨_, ?_, _, ⟨⟨x, s, rfl, hx1, hx2, hs⟩, q5, by omega, by omega, rfl⟩, rfl⟩
  ((repeat (first | exact Sub.no | refine Sub.set ?_ ?_)) <;> (try simp (disch := omega) only [push_cast, go_sem, zA, zB, zC, zD, zE, zF, simprocAttr]))
/-- What is drawn. -/
def DrawnW (r : V) : Prop := ∃ (p : Prog) (s : Sn) (kind : Int), r = .tuple [progV p, s.V, .int .i64 kind] ∧ p.length ≤ 3 ∧ (∀ l ∈ p, l.length < 2 ^ 11) ∧ s.small
theorem DrawWhyExec_fn (bs : List Int) (hb : Code8 bs) (hl : bs.length < 2 ^ 40) : Fc Tryz.prog 15 [codeV bs] noM (fun r m => DrawnW r ∧ m = noM) := by
  refine Fc.start (S := []) Tryz.func15 Tryz.ntmps15 Tryz.results15 rfl (by decide) rfl (by kernel_rfl) ?_
  simp (maxSteps := 1000000) (disch := omega) only [push_cast, go_sem, zA, zB, zC, zD, zE, zF, simprocAttr, codeV_eq]
  intro g2 g3
  refine callR.new (l6Open_fn bs hl) rfl rfl ?_
  rintro r ob ⟨g, rfl, rfl⟩
  simp (maxSteps := 1000000) (disch := omega) only [push_cast, go_sem, zA, zB, zC, zD, zE, zF, simprocAttr]
  refine callR.rd (l71Kind_pl (bs.take 2000) hb.take g 0 (by omega)) rfl rfl rfl ?_
  rintro r o' ⟨⟨kind, rfl⟩, q1, hq3, hq4, rfl⟩
  simp (maxSteps := 1000000) (disch := omega) only [push_cast, go_sem, zA, zB, zC, zD, zE, zF, simprocAttr]
  refine callR.rd (l71Why_rd (bs.take 2000) hb.take g q1 kind (by omega)) rfl rfl rfl ?_
  rintro r o' ⟨⟨x, s, rfl, hx1, hx2, hs⟩, q, hq1, hq2, rfl⟩
  simp (maxSteps := 1000000) (disch := omega) only [push_cast, go_sem, zA, zB, zC, zD, zE, zF, simprocAttr, progV_eq, Sn.V_eq]
  intro g7 g8
  refine Sat.drawnE [(1, 3)] [] [0, 1, 2] (fun _ _ _ => none) (by kernel_rfl) (by kernel_rfl) ?_
  simp (maxSteps := 1000000) (disch := omega) only [push_cast, go_sem, zA, zB, zC, zD, zE, zF, simprocAttr]
  exact ⟨x, s, kind, rfl, hx1, hx2, hs⟩
end Go.Proofs.YtfbgabkcjjahiaaGreatDoor
namespace Go.Proofs.YtfbgabkcjjahiaaGreatDoor
open Go.RowKit
set_option pp.maxSteps 3000

end Go.Proofs.YtfbgabkcjjahiaaGreatDoor
namespace Go.Proofs.YtfbgabkcjjahiaaGreatDoor
open Go.RowKit
set_option pp.maxSteps 3000

end Go.Proofs.YtfbgabkcjjahiaaGreatDoor
namespace Go.Proofs.YtfbgabkcjjahiaaGreatDoor
open Go.RowKit
set_option pp.maxSteps 3000

theorem list_eq_drop {α : Type} [BEq α] [LawfulBEq α] {a b : List α} {k : Nat} (hl : a.length = b.length) (h : ∀ (j : Nat) (x y : α), j < k → a[j]? = some x → b[j]? = some y → (x == y) = true) (hk : a.length ≤ k) : a = b := by
  apply List.ext_getElem hl
  intro j h1 h2
  exact beq_iff_eq.1 (h j _ _ (by omega) (List.getElem?_eq_getElem h1) (List.getElem?_eq_getElem h2))
theorem list_ne_at {α : Type} {a b : List α} {k : Nat} {x y : α} (hx : a[k]? = some x) (hy : b[k]? = some y) (h : x ≠ y) : a ≠ b := fun e => by
  rw [e, hy] at hx; cases hx; exact h rfl
theorem lpInts_fn (a b : List Int) (ha : a.length < 2 ^ 40) (hb : b.length < 2 ^ 40) : Fp Tryz.prog 53 [intsV a, intsV b] (.bool (decide (a = b))) := by
  refine Fc.start (S := [8]) Tryz.func53 Tryz.ntmps53 Tryz.results53 rfl (by decide) rfl (by kernel_rfl) ?_
  cases hl : ((a.length : Int) != b.length)
  rotate_left
  · simp (maxSteps := 1000000) (disch := omega) only [push_cast, go_sem, zA, zB, zC, zD, zE, zF, simprocAttr, intsV_eq, hl]
    have : ¬ a = b := fun h => by rw [h] at hl; simp at hl
    simp [this]
  have hl' : a.length = b.length := by have : (a.length : Int) = b.length := by simpa using hl
                                       omega
  simp (maxSteps := 1000000) (disch := omega) only [push_cast, go_sem, zA, zB, zC, zD, zE, zF, simprocAttr, intsV_eq, hl]
  refine Sat.loop (σ := Nat) (fun k => upd (upd (upd noT 0 (.sl (a.map (V.int .i64)))) 1 (.sl (b.map (V.int .i64)))) 5 (.int .i64 k)) (fun _ => noM)
    (fun k => k ≤ a.length ∧ ∀ (j : Nat) (x y : Int), j < k → a[j]? = some x → b[j]? = some y → (x == y) = true) (fun k => a.length - k) 0 (by simp) ?_ ?_
  · (refine Less.start ?_; repeat (first | exact LessO.nil | exact LessO.all | refine LessO.skip (by decide) ?_ | refine LessO.upd ?_ ?_ | refine LessO.set ?_ ?_)) <;> (try simp (maxSteps := 1000000) (disch := omega) only [push_cast, go_sem, zA, zB, zC, zD, zE, zF, simprocAttr])
  rintro k ⟨hk, hall⟩ J hJ
  refine Sat.of (S := []) (by kernel_rfl) ?_
  rcases Nat.lt_or_ge k a.length with hlt | hge
  · obtain ⟨x, hx⟩ : ∃ x, a[k]? = some x := ⟨_, List.getElem?_eq_getElem hlt⟩
    have hltb : k < b.length := by omega
    obtain ⟨y, hy⟩ : ∃ y, b[k]? = some y := ⟨_, List.getElem?_eq_getElem hltb⟩
    cases hne : (x != y)
    · simp (maxSteps := 1000000) (disch := omega) only [push_cast, go_sem, zA, zB, zC, zD, zE, zF, simprocAttr, hlt]
      refine Sat.drawnE [] [] [3, 7] (fun _ _ _ => none) (by kernel_rfl) (by kernel_rfl) ?_
      simp (maxSteps := 1000000) (disch := omega) only [push_cast, go_sem, zA, zB, zC, zD, zE, zF, simprocAttr, hx, hy, hlt, hltb, hne]
      refine hJ (k + 1) _ _ ⟨by omega, fun j x' y' hj h1 h2 => ?_⟩ (by omega) ?_
      · rcases Nat.lt_or_ge j k with h | h
        · exact hall j x' y' h h1 h2
        · have : j = k := by omega
          subst this; rw [hx] at h1; rw [hy] at h2; cases h1; cases h2
          simpa only [bne, Bool.not_eq_false'] using hne
      · (refine Less.start ?_; repeat (first | exact LessO.nil | exact LessO.all | refine LessO.skip (by decide) ?_ | refine LessO.upd ?_ ?_ | refine LessO.set ?_ ?_)) <;> (try simp (maxSteps := 1000000) (disch := omega) only [push_cast, go_sem, zA, zB, zC, zD, zE, zF, simprocAttr])
    · simp (maxSteps := 1000000) (disch := omega) only [push_cast, go_sem, zA, zB, zC, zD, zE, zF, simprocAttr, hlt]
      refine Sat.drawnE [] [] [3, 7] (fun _ _ _ => none) (by kernel_rfl) (by kernel_rfl) ?_
      simp (maxSteps := 1000000) (disch := omega) only [push_cast, go_sem, zA, zB, zC, zD, zE, zF, simprocAttr, hx, hy, hlt, hltb, hne]
      have : ¬ a = b := list_ne_at hx hy (by simpa using hne)
      simp [this]
  · have hkl : k = a.length := by omega
    subst hkl
    simp (maxSteps := 1000000) (disch := omega) only [push_cast, go_sem, zA, zB, zC, zD, zE, zF, simprocAttr]
    refine Sat.of (S := []) (by kernel_rfl) ?_
    simp (maxSteps := 1000000) (disch := omega) only [push_cast, go_sem, zA, zB, zC, zD, zE, zF, simprocAttr]
    have : a = b := list_eq_drop hl' hall (Nat.le_refl _)
    simp [this]

instance : DecidableEq Exe := fun x y => decidable_of_iff (x.fr = y.fr ∧ x.od = y.od) (by cases x; cases y; simp)
theorem lpExec_fn (x y : Exe) (hx : x.small) (hy : y.small) : Fp Tryz.prog 18 [x.V, y.V] (.bool (decide (x = y))) := by
  have hxy : (x = y) = (x.fr = y.fr ∧ x.od = y.od) := by cases x; cases y; simp
  have hfr := lpInts_fn x.fr y.fr hx.fr hy.fr
  have hxo := hx.od
  refine Fc.start (S := [8]) Tryz.func18 Tryz.ntmps18 Tryz.results18 rfl (by decide) rfl (by kernel_rfl) ?_
  by_cases hf : x.fr = y.fr
  rotate_left
  · have hd : decide (x.fr = y.fr) = false := by simp [hf]
    rw [hd] at hfr
    simp (maxSteps := 1000000) (disch := omega) only [push_cast, go_sem, zA, zB, zC, zD, zE, zF, simprocAttr, Exe.V_eq]
    intro g1 g2
    refine callR.pure hfr rfl rfl ?_
    simp (maxSteps := 1000000) (disch := omega) only [push_cast, go_sem, zA, zB, zC, zD, zE, zF, simprocAttr]
    simp [hxy, hf]
  have hd : decide (x.fr = y.fr) = true := by simp [hf]
  rw [hd] at hfr
  cases hl : ((x.od.length : Int) != y.od.length)
  rotate_left
  · simp (maxSteps := 1000000) (disch := omega) only [push_cast, go_sem, zA, zB, zC, zD, zE, zF, simprocAttr, Exe.V_eq]
    intro g1 g2
    refine callR.pure hfr rfl rfl ?_
    simp (maxSteps := 1000000) (disch := omega) only [push_cast, go_sem, zA, zB, zC, zD, zE, zF, simprocAttr, hl]
    have : ¬ x.od = y.od := fun h => by rw [h] at hl; simp at hl
    simp [hxy, this]
  have hl' : x.od.length = y.od.length := by have : (x.od.length : Int) = y.od.length := by simpa using hl
                                             omega
  simp (maxSteps := 1000000) (disch := omega) only [push_cast, go_sem, zA, zB, zC, zD, zE, zF, simprocAttr, Exe.V_eq]
  intro g1 g2
  refine callR.pure hfr rfl rfl ?_
  simp (maxSteps := 1000000) (disch := omega) only [push_cast, go_sem, zA, zB, zC, zD, zE, zF, simprocAttr, hl]
  refine Sat.loop (σ := Nat) (fun k => upd (upd (upd noT 2 (.ptr 2 [] 0 0 g1 2)) 3 (.ptr 3 [] 0 0 g2 2)) 5 (.int .i64 k))
    (fun _ => (noM.set 2 (.own 33 (some g1) 1 [.agg [.sl (x.fr.map (V.int .i64)), .sl (x.od.map intsV)]])).set 3 (.own 33 (some g2) 1 [.agg [.sl (y.fr.map (V.int .i64)), .sl (y.od.map intsV)]]))
    (fun k => k ≤ x.od.length ∧ ∀ (j : Nat) (r q : List Int), j < k → x.od[j]? = some r → y.od[j]? = some q → (r == q) = true) (fun k => x.od.length - k) 0 (by simp) ?_ ?_
  · (refine Less.start ?_; repeat (first | exact LessO.nil | exact LessO.all | refine LessO.skip (by decide) ?_ | refine LessO.upd ?_ ?_ | refine LessO.set ?_ ?_)) <;> (try simp (maxSteps := 1000000) (disch := omega) only [push_cast, go_sem, zA, zB, zC, zD, zE, zF, simprocAttr])
  rintro k ⟨hk, hall⟩ J hJ
  refine Sat.of (S := []) (by kernel_rfl) ?_
  rcases Nat.lt_or_ge k x.od.length with hlt | hge
  · obtain ⟨r, hr⟩ : ∃ r, x.od[k]? = some r := ⟨_, List.getElem?_eq_getElem hlt⟩
    have hltb : k < y.od.length := by omega
    obtain ⟨q, hq⟩ : ∃ q, y.od[k]? = some q := ⟨_, List.getElem?_eq_getElem hltb⟩
    have hc := lpInts_fn r q (hx.row r (List.mem_of_getElem? hr)) (hy.row q (List.mem_of_getElem? hq))
    simp (maxSteps := 1000000) (disch := omega) only [push_cast, go_sem, zA, zB, zC, zD, zE, zF, simprocAttr, hlt]
    refine Sat.drawnE [] [] (List.range 12) (pureT [(53, .bool (decide (r = q)))]) (by kernel_rfl) (by kernel_rfl) ?_
    simp (maxSteps := 1000000) (disch := omega) only [push_cast, go_sem, zA, zB, zC, zD, zE, zF, simprocAttr, hr, hq, hlt, hltb, intsV_eq]
    refine runD_pure rfl hc rfl rfl ?_ ?_
    · rfl
    by_cases he : r = q
    · have hd : decide (r = q) = true := by simp [he]
      rw [hd]
      simp (maxSteps := 1000000) (disch := omega) only [push_cast, go_sem, zA, zB, zC, zD, zE, zF, simprocAttr]
      refine hJ (k + 1) _ _ ⟨by omega, fun j r' q' hj h1 h2 => ?_⟩ (by omega) ?_
      · rcases Nat.lt_or_ge j k with h | h
        · exact hall j r' q' h h1 h2
        · have : j = k := by omega
          subst this; rw [hr] at h1; rw [hq] at h2; cases h1; cases h2
          exact beq_iff_eq.2 he
      · (refine Less.start ?_; repeat (first | exact LessO.nil | exact LessO.all | refine LessO.skip (by decide) ?_ | refine LessO.upd ?_ ?_ | refine LessO.set ?_ ?_)) <;> (try simp (maxSteps := 1000000) (disch := omega) only [push_cast, go_sem, zA, zB, zC, zD, zE, zF, simprocAttr])
    · have hd : decide (r = q) = false := by simp [he]
      rw [hd]
      simp (maxSteps := 1000000) (disch := omega) only [push_cast, go_sem, zA, zB, zC, zD, zE, zF, simprocAttr]
      have : ¬ x.od = y.od := list_ne_at hr hq he
      simp [hxy, this]
  · have hkl : k = x.od.length := by omega
    subst hkl
    simp (maxSteps := 1000000) (disch := omega) only [push_cast, go_sem, zA, zB, zC, zD, zE, zF, simprocAttr]
    refine Sat.of (S := []) (by kernel_rfl) ?_
    simp (maxSteps := 1000000) (disch := omega) only [push_cast, go_sem, zA, zB, zC, zD, zE, zF, simprocAttr]
    have : x.od = y.od := list_eq_drop hl' hall (Nat.le_refl _)
    simp [hxy, hf, this]
end Go.Proofs.YtfbgabkcjjahiaaGreatDoor
namespace Go.Proofs.YtfbgabkcjjahiaaGreatDoor
open Go.RowKit
set_option pp.maxSteps 3000

end Go.Proofs.YtfbgabkcjjahiaaGreatDoor
namespace Go.Proofs.YtfbgabkcjjahiaaGreatDoor
open Go.RowKit
set_option pp.maxSteps 3000

theorem lpSame_fn (s t : Sn) (hs : s.small) (ht : t.small) : Fp Tryz.prog 20 [s.V, t.V] (.bool (decide (s = t))) := by
  have h1 := lpInts_fn s.rd t.rd hs.rd ht.rd
  have h2 := lpInts_fn s.ls t.ls hs.ls ht.ls
  have hst : decide (s = t) = (decide (s.rd = t.rd) && decide (s.ls = t.ls)) := by
    obtain ⟨a, b⟩ := s
    obtain ⟨c, d⟩ := t
    rw [Bool.eq_iff_iff]; simp
  rw [hst]
  rw [intsV_eq, intsV_eq] at h1 h2
  refine Fc.start (S := []) Tryz.func20 Tryz.ntmps20 Tryz.results20 rfl (by decide) rfl (by kernel_rfl) ?_
  simp (maxSteps := 1000000) (disch := omega) only [push_cast, go_sem, zA, zB, zC, zD, zE, zF, simprocAttr, Sn.V_eq]
  intro g2 g3
  refine callR.pure h1 rfl rfl ?_
  cases decide (s.rd = t.rd)
  · simp (maxSteps := 1000000) (disch := omega) only [push_cast, go_sem, zA, zB, zC, zD, zE, zF, simprocAttr]
  · simp (maxSteps := 1000000) (disch := omega) only [push_cast, go_sem, zA, zB, zC, zD, zE, zF, simprocAttr]
    refine callR.pure h2 rfl rfl ?_
    simp (maxSteps := 1000000) (disch := omega) only [push_cast, go_sem, zA, zB, zC, zD, zE, zF, simprocAttr]
theorem why_yes {p : Prog} {s : Sn} {kind : Int} {x : Exe} (h : whyS p s kind = some x) : x ∈ execAll p ∧ execOk p x = true ∧ seenF p x = s ∧ holdsS p x kind = true ∧ x.small := by
  rw [whyS] at h
  split at h
  · have hm := List.mem_of_find?_eq_some h
    have hq := List.find?_some h
    simp only [Bool.and_eq_true, decide_eq_true_eq] at hq
    have hsm := specAll_small (p := p) (y := x) (by rw [← all_eq]; exact hm)
    exact ⟨hm, all_ok hm, hq.1, hq.2, ⟨by omega, by omega, fun r hr => by have := hsm.2.2 r hr; omega⟩⟩
  · cases h
theorem none_small : (⟨[], []⟩ : Exe).small := ⟨by decide, by decide, nofun⟩
end Go.Proofs.YtfbgabkcjjahiaaGreatDoor
namespace Go.Proofs.YtfbgabkcjjahiaaGreatDoor
open Go.RowKit
set_option pp.maxSteps 3000

theorem find_idx {q : Exe → Bool} {x : Exe} : ∀ {l : List Exe}, l.find? q = some x → ∃ i : Nat, l[i]? = some x ∧ ∀ (j : Nat) y, j < i → l[j]? = some y → q y = false
  | [], h => by cases h
  | a :: l, h => by
    rw [List.find?_cons] at h
    cases hq : q a
    · rw [hq] at h
      obtain ⟨i, h1, h2⟩ := find_idx h
      refine ⟨i + 1, by simpa using h1, fun j y hj hy => ?_⟩
      cases j with
      | zero => simp at hy; subst hy; exact hq
      | succ j => exact h2 j y (by omega) (by simpa using hy)
    · rw [hq] at h
      cases h
      exact ⟨0, rfl, fun j y hj => absurd hj (by omega)⟩
theorem lawWhyExecFirst_fn (bs : List Int) (hb : Code8 bs) : Fp Tryz.prog 4 [codeV bs] (.bool true) := by
  refine Fc.start (S := []) Tryz.func4 Tryz.ntmps4 Tryz.results4 rfl (by decide) rfl (by kernel_rfl) ?_
  by_cases h : (1048576 : Int) < bs.length
  · simp (maxSteps := 1000000) (disch := omega) only [push_cast, go_sem, zA, zB, zC, zD, zE, zF, simprocAttr, codeV_eq, h]
  simp (maxSteps := 1000000) (disch := omega) only [push_cast, go_sem, zA, zB, zC, zD, zE, zF, simprocAttr, codeV_eq, h]
  refine callR.ex (DrawWhyExec_fn bs hb (by omega)) rfl rfl ?_
  rintro r ⟨p, s, kind, rfl, hp, hl, hs⟩
  have hl' : ∀ l ∈ p, l.length < 2 ^ 40 := fun l h => by have := hl l h; omega
  have h1 := implWhyExec_fn p s kind (by omega) hl' hs
  have h2 := specWhyExec_fn p s kind (by omega) hs
  cases hw : whyS p s kind with
  | none =>
    have h3 := lpExec_fn ⟨[], []⟩ ⟨[], []⟩ none_small none_small
    rw [show (⟨[], []⟩ : Exe).V = .agg [.sl [], .sl []] from rfl] at h3
    rw [hw, show whyV none = .tuple [.agg [.sl [], .sl []], .bool false] from rfl, progV_eq, Sn.V_eq] at h1 h2
    simp (maxSteps := 1000000) (disch := omega) only [push_cast, go_sem, zA, zB, zC, zD, zE, zF, simprocAttr, progV_eq, Sn.V_eq]
    intro g3 g4
    refine callR.pure h2 rfl rfl ?_
    simp (maxSteps := 1000000) (disch := omega) only [push_cast, go_sem, zA, zB, zC, zD, zE, zF, simprocAttr]
    intro g6
    refine callR.pure h1 rfl rfl ?_
    simp (maxSteps := 1000000) (disch := omega) only [push_cast, go_sem, zA, zB, zC, zD, zE, zF, simprocAttr]
    intro g8
    refine callR.pure h3 rfl rfl ?_
    simp (maxSteps := 1000000) (disch := omega) only [push_cast, go_sem, zA, zB, zC, zD, zE, zF, simprocAttr]
    refine callR.pure h3 rfl rfl ?_
    simp (maxSteps := 1000000) (disch := omega) only [push_cast, go_sem, zA, zB, zC, zD, zE, zF, simprocAttr]
  | some x =>
    obtain ⟨hm, hok, hse, hho, hxs⟩ := why_yes hw
    have h3 := lpExec_fn x x hxs hxs
    have d1 : decide (x = x) = true := by simp
    rw [d1, Exe.V_eq] at h3
    have hall := implExecAll_fn p (by omega) hl'
    rw [progV_eq] at hall
    have hle : (execAll p).length < 2 ^ 30 := by rw [all_eq]; exact specAll_le p
    have hf : ∃ i : Nat, (execAll p)[i]? = some x ∧ ∀ (j : Nat) y, j < i → (execAll p)[j]? = some y → (decide (seenF p y = s) && holdsS p y kind) = false := by
      have hw2 := hw
      rw [whyS] at hw2
      split at hw2
      · exact find_idx hw2
      · cases hw2
    obtain ⟨n, hn1, hn2⟩ := hf
    have hnl := (List.getElem?_eq_some_iff.1 hn1).1
    rw [hw, show whyV (some x) = .tuple [.agg [.sl (x.fr.map (V.int .i64)), .sl (x.od.map intsV)], .bool true] from rfl, progV_eq, Sn.V_eq] at h1 h2
    simp (maxSteps := 1000000) (disch := omega) only [push_cast, go_sem, zA, zB, zC, zD, zE, zF, simprocAttr, progV_eq, Sn.V_eq]
    intro g3 g4
    refine callR.pure h2 rfl rfl ?_
    simp (maxSteps := 1000000) (disch := omega) only [push_cast, go_sem, zA, zB, zC, zD, zE, zF, simprocAttr]
    intro g6
    refine callR.pure h1 rfl rfl ?_
    simp (maxSteps := 1000000) (disch := omega) only [push_cast, go_sem, zA, zB, zC, zD, zE, zF, simprocAttr]
    intro g8
    refine callR.pure h3 rfl rfl ?_
    simp (maxSteps := 1000000) (disch := omega) only [push_cast, go_sem, zA, zB, zC, zD, zE, zF, simprocAttr]
    refine callR.pure hall rfl rfl ?_
    simp (maxSteps := 1000000) (disch := omega) only [push_cast, go_sem, zA, zB, zC, zD, zE, zF, simprocAttr]
    refine Sat.loop (σ := Nat) (fun i => upd (upd (upd (upd (upd (upd noT 3 (.ptr 3 [] 0 0 g3 1)) 4 (.ptr 4 [] 0 0 g4 2)) 5 (.int .i64 kind)) 8 (.ptr 8 [] 0 0 g8 2)) 10 (.sl ((execAll p).map Exe.V))) 11 (.int .i64 i))
      (fun _ => ((noM.set 3 (.own 25 (some g3) 1 [.agg [.sl (p.map thrV)]])).set 4 (.own 28 (some g4) 1 [.agg [.sl (s.rd.map (V.int .i64)), .sl (s.ls.map (V.int .i64))]])).set 8 (.own 33 (some g8) 1 [.agg [.sl (x.fr.map (V.int .i64)), .sl (x.od.map intsV)]]))
      (fun i => i ≤ n) (fun i => n - i) 0 (by omega) ?_ ?_
    · (refine Less.start ?_; repeat (first | exact LessO.nil | exact LessO.all | refine LessO.skip (by decide) ?_ | refine LessO.upd ?_ ?_ | refine LessO.set ?_ ?_)) <;> (try simp (maxSteps := 1000000) (disch := omega) only [push_cast, go_sem, zA, zB, zC, zD, zE, zF, simprocAttr])
    rintro i hi J hJ
    refine Sat.of (S := []) (by kernel_rfl) ?_
    have hlt : i < (execAll p).length := by omega
    obtain ⟨y, hy⟩ : ∃ y, (execAll p)[i]? = some y := ⟨_, List.getElem?_eq_getElem hlt⟩
    have hym := List.mem_of_getElem? hy
    have hyo := all_ok hym
    have hsm := specAll_small (p := p) (y := y) (by rw [← all_eq]; exact hym)
    have hys : y.small := ⟨by omega, by omega, fun r hr => by have := hsm.2.2 r hr; omega⟩
    have h9 := lpExec_fn y x hys hxs
    rw [Exe.V_eq, Exe.V_eq] at h9
    simp (maxSteps := 1000000) (disch := omega) only [push_cast, go_sem, zA, zB, zC, zD, zE, zF, simprocAttr]
    refine Sat.drawnE [] [] (List.range 13) (pureT [(18, .bool (decide (y = x)))]) (by kernel_rfl) (by kernel_rfl) ?_
    simp (maxSteps := 1000000) (disch := omega) only [push_cast, go_sem, zA, zB, zC, zD, zE, zF, simprocAttr, hy, hlt, Exe.V_eq]
    refine runD_pure rfl h9 rfl rfl ?_ ?_
    · rfl
    cases hd : decide (y = x)
    rotate_left
    · simp (maxSteps := 1000000) (disch := omega) only [push_cast, go_sem, zA, zB, zC, zD, zE, zF, simprocAttr]
    have hin : i < n := by
      rcases Nat.lt_or_ge i n with h | h
      · exact h
      · have : i = n := by omega
        subst this
        rw [hn1] at hy
        cases hy
        simp at hd
    have hq := hn2 i y hin hy
    have h4 := implExecSeen_fn p y (by omega) hl' hys
    have h5 := lpSame_fn (seenF p y) s (rdK_small p y hyo) hs
    have h6 := implOrderHolds_fn p y kind (by omega) hl' hys
    rw [exSeenV, hyo, if_pos rfl, progV_eq, Exe.V_eq, Sn.V_eq] at h4
    rw [Sn.V_eq, Sn.V_eq] at h5
    rw [progV_eq, Exe.V_eq] at h6
    simp (maxSteps := 1000000) (disch := omega) only [push_cast, go_sem, zA, zB, zC, zD, zE, zF, simprocAttr]
    refine Sat.drawnE [(0, 9), (4, 9), (5, 9)] [] [0, 1, 2, 3, 4, 5, 6, 7, 8, 11] (pureT [(19, .tuple [.agg [.sl ((seenF p y).rd.map (V.int .i64)), .sl ((seenF p y).ls.map (V.int .i64))], .bool true])]) (by kernel_rfl) (by kernel_rfl) ?_
    simp (maxSteps := 1000000) (disch := omega) only [push_cast, go_sem, zA, zB, zC, zD, zE, zF, simprocAttr, hy, hlt, Exe.V_eq]
    refine runD_pure rfl h4 rfl rfl ?_ ?_
    · rfl
    simp (maxSteps := 1000000) (disch := omega) only [push_cast, go_sem, zA, zB, zC, zD, zE, zF, simprocAttr]
    intro g12
    refine Sat.drawnE [] [] (List.range 12) (pureT [(20, .bool (decide (seenF p y = s))), (21, .bool (holdsS p y kind))]) (by kernel_rfl) (by kernel_rfl) ?_
    simp (maxSteps := 1000000) (disch := omega) only [push_cast, go_sem, zA, zB, zC, zD, zE, zF, simprocAttr]
    refine runD_pure rfl h5 rfl rfl ?_ ?_
    · rfl
    cases hd2 : decide (seenF p y = s)
    · simp (maxSteps := 1000000) (disch := omega) only [push_cast, go_sem, zA, zB, zC, zD, zE, zF, simprocAttr]
      refine hJ (i + 1) _ _ (by omega) (by omega) ?_
      (refine Less.start ?_; repeat (first | exact LessO.nil | exact LessO.all | refine LessO.skip (by decide) ?_ | refine LessO.upd ?_ ?_ | refine LessO.set ?_ ?_)) <;> (try simp (maxSteps := 1000000) (disch := omega) only [push_cast, go_sem, zA, zB, zC, zD, zE, zF, simprocAttr])
    · rw [hd2] at hq
      have hf : holdsS p y kind = false := hq
      simp (maxSteps := 1000000) (disch := omega) only [push_cast, go_sem, zA, zB, zC, zD, zE, zF, simprocAttr, hy, hlt, Exe.V_eq]
      refine runD_pure rfl h6 rfl rfl ?_ ?_
      · rfl
      rw [hf]
      simp (maxSteps := 1000000) (disch := omega) only [push_cast, go_sem, zA, zB, zC, zD, zE, zF, simprocAttr]
      refine hJ (i + 1) _ _ (by omega) (by omega) ?_
      (refine Less.start ?_; repeat (first | exact LessO.nil | exact LessO.all | refine LessO.skip (by decide) ?_ | refine LessO.upd ?_ ?_ | refine LessO.set ?_ ?_)) <;> (try simp (maxSteps := 1000000) (disch := omega) only [push_cast, go_sem, zA, zB, zC, zD, zE, zF, simprocAttr])
end Go.Proofs.YtfbgabkcjjahiaaGreatDoor
namespace Go.Proofs.YtfbgabkcjjahiaaGreatDoor
open Go.ChangeShapes Go.WideShapes Go.ChangeAt Go.RowKit

theorem own : ownKnob Tryz.prog.godebug = none := by kernel_rfl
theorem laidOut' : laidOutB Tryz.prog = true := by kernel_rfl
theorem cells8 : Tryz.prog.cellsOf 5 = 1 := by kernel_rfl

/-- A row of bytes that is never written again. -/
theorem code_rp {imm : Nat → Prop} {W : World} {b off len cap : Nat} {zs : List Int} (hlz : len ≤ zs.length) (hl : len ≤ cap) (hi : imm b) (hcell : ∀ i, i < zs.length → W.cell? ⟨b, off + i, none⟩ = some (.int .u8 (zs.getD i 0))) :
    Rp imm W (codeV (zs.take len)) (.slice (some ⟨b, off, none⟩) len cap) := by
  by_cases h0 : len = 0
  · subst h0; exact .sl0 _ _
  have hc0 := hcell 0 (by omega)
  unfold World.cell? at hc0
  split at hc0
  · rename_i cur t fr hg
    have hln : (zs.take len).length = len := by rw [List.length_take]; omega
    have e : ((zs.take len).map (V.int .u8)).length = len := by rw [List.length_map]; exact hln
    have get : ∀ (i : Nat) (x : V), ((zs.take len).map (V.int .u8))[i]? = some x → x = .int .u8 (zs.getD i 0) ∧ i < len := by
      intro i x hx
      have hlt : i < len := by have := (List.getElem?_eq_some_iff.1 hx).1; omega
      rw [List.getElem?_map, List.getElem?_take_of_lt hlt] at hx
      obtain ⟨y, hy, rfl⟩ := Option.map_eq_some_iff.1 hx
      exact ⟨by rw [List.getD, hy]; rfl, hlt⟩
    have := Rp.sl (imm := imm) (w := W) ((zs.take len).map (V.int .u8)) b off cap 1 cur t fr (fun i _ => .int .u8 (zs.getD i 0)) hi hg (by omega)
      (fun i x hx => by rw [(get i x hx).1]; rfl)
      (fun i x j c hx hc => by
        obtain ⟨rfl, hlt⟩ := get i x hx
        have hj : j = 0 := by
          cases j with
          | zero => rfl
          | succ j => simp [V.cells] at hc
        subst hj
        have := hcell i (by omega)
        unfold World.cell? at this
        simp only [hg] at this
        simpa using this)
      (fun i x j c hx hc => by
        obtain ⟨rfl, hlt⟩ := get i x hx
        have hj : j = 0 := by
          cases j with
          | zero => rfl
          | succ j => simp [V.cells] at hc
        subst hj
        simp [V.cells] at hc
        subst hc
        exact .int _ _)
    rw [e] at this
    exact this
  · cases hc0

/-- A law of one code: what its contract says of the world. -/
theorem law_calls {f : FuncId} {W : World} {x : V} {v : Value} {imm : Nat → Prop} (h : Fp Tryz.prog f [x] (.bool true)) (hG : Glob imm W) (hi : ∀ g, imm g → g < W.heap.size) (hx : Rp imm W x v) :
    Calls Tryz.prog f #[v] W fun e w' => e = .returned (.bool true) ∧ Below W.heap.size W w' := by
  refine (h.fn imm W #[v] hG inv_no hi rfl ?_).mono ?_
  · intro j c u hj hu
    cases j with
    | zero => simp at hj hu; subst hj; subst hu; exact hx
    | succ j => simp at hj
  · rintro e w' ⟨r, r', m, imm', rfl, ⟨rfl, rfl⟩, h3, h4⟩
    rw [h3.bool_inv]
    exact ⟨rfl, h4.os, h4.tape, h4.output, h4.size, fun k hk => (h4.block k hk not_owns_no).1⟩
end Go.Proofs.YtfbgabkcjjahiaaGreatDoor
namespace Go.Proofs.YtfbgabkcjjahiaaGreatDoor
open Go.ChangeShapes Go.WideShapes Go.ChangeAt Go.RowKit

theorem laid_tab {H : Type} : (Rows.laid_math_bits_deBruijn64tab : DataW H) = Lib.tabData .u8 (Lib.deBruijn64tab.map fun n : Nat => (n : Int)) := rfl
theorem tabs_of {W : World} {rest : List (String × DataW Unit)} (h : laidMet Tryz.prog (("math/bits.deBruijn64tab", Rows.laid_math_bits_deBruijn64tab) :: rest) W) : ∀ x ∈ globT, Tab x.1 x.2 W := by
  rw [laid_tab] at h
  intro x hx
  simp only [globT, List.mem_cons, List.not_mem_nil, or_false] at hx
  subst hx
  intro j hj
  have hT := Lib.tabIs_of_head (t := 165) (e := 5) (n := 64) (g := (globT.headD (0, [])).1) (by kernel_rfl) (by kernel_rfl) Tryz.underlying165 Tryz.underlying5 cells8 (by kernel_rfl) h
  have := hT.cell (g := (globT.headD (0, [])).1) (by kernel_rfl) j (by rw [List.length_map]; exact hj)
  have e : (Lib.deBruijn64tab.map fun n : Nat => (n : Int)).getD j 0 = ((Lib.deBruijn64tab.getD j 0 : Nat) : Int) := by
    simp only [List.getD, List.getElem?_map]
    cases Lib.deBruijn64tab[j]? <;> rfl
  rw [e] at this
  exact this
theorem glob_of {W : World} {imm : Nat → Prop} (hT : ∀ x ∈ globT, Tab x.1 x.2 W) (hi : ∀ x ∈ globT, imm x.1) : Glob imm W := fun x hx => ⟨hi x hx, hT x hx⟩
theorem glob_lt {W : World} (hT : ∀ x ∈ globT, Tab x.1 x.2 W) : ∀ x ∈ globT, x.1 < W.heap.size := by
  intro x hx
  have h := hT x hx
  simp only [globT, List.mem_cons, List.not_mem_nil, or_false] at hx
  subst hx
  have := h 0 (by decide)
  unfold World.cell? at this
  split at this
  · rename_i hh; exact (Array.getElem?_eq_some_iff.1 hh).1
  · cases this
end Go.Proofs.YtfbgabkcjjahiaaGreatDoor
