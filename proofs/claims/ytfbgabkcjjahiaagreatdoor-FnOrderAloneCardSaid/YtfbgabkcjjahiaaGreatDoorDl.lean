/-
 Contracts and plain laws.
-/
import Derived.Test.YtfbgabkcjjahiaaGreatDoorDa
import Derived.Test.YtfbgabkcjjahiaaGreatDoorDf
import Derived.Test.YtfbgabkcjjahiaaGreatDoorDj
import Derived.Test.YtfbgabkcjjahiaaGreatDoorDk
import Derived.Test.YtfbgabkcjjahiaaGreatDoorRows
import Derived.ProofKit
import Derived.OpenShut
import Derived.ChangeSlices
import Derived.JoinedOf
import Derived.JoinedAt
import Derived.Deep.DeepHandedRow
import Derived.Lib.LaidTab
import Derived.Test.YtfbgabkcjjahiaaGreatDoorCards
import Derived.Test.YtfbgabkcjjahiaaGreatDoorTie
set_option linter.unusedSimpArgs false
set_option linter.unusedVariables false
set_option linter.unusedSectionVars false
namespace Go.Proofs.YtfbgabkcjjahiaaGreatDoor
section
open Go.RowKit
theorem lpList_fn (a b : List Sn) (ha : ∀ s ∈ a, s.small) (hb : ∀ s ∈ b, s.small) (hal : a.length < 2 ^ 40) (hbl : b.length < 2 ^ 40) : Fp Tryz.prog 30 [.sl (a.map Sn.V), .sl (b.map Sn.V)] (.bool (decide (a = b))) := by
  refine Fc.start (S := [8]) Tryz.func30 Tryz.ntmps30 Tryz.results30 rfl (by decide) rfl (by kernel_rfl) ?_
  cases hl : ((a.length : Int) != b.length)
  rotate_left
  · simp (disch := omega) only [push_cast, go_sem, zA, simprocAttr, hl]
    have : ¬ a = b := fun h => by rw [h] at hl; simp at hl
    simp [this]
  have hl' : a.length = b.length := by have : (a.length : Int) = b.length := by simpa using hl
                                       omega
  simp (disch := omega) only [push_cast, go_sem, zA, simprocAttr, hl]
  refine Sat.loop (σ := Nat) (fun k => upd (upd (upd noT 0 (.sl (a.map Sn.V))) 1 (.sl (b.map Sn.V))) 5 (.int .i64 k)) (fun _ => noM)
    (fun k => k ≤ a.length ∧ ∀ (j : Nat) (x y : Sn), j < k → a[j]? = some x → b[j]? = some y → (x == y) = true) (fun k => a.length - k) 0 (by simp) ?_ ?_
  · (refine zB ?_; repeat (first | exact zC | exact zD | refine zE (by decide) ?_ | refine zF ?_ ?_ | refine zG ?_ ?_)) <;> (try simp (disch := omega) only [push_cast, go_sem, zA, simprocAttr])
  rintro k ⟨hk, hall⟩ J hJ
  refine Sat.of (S := []) (by kernel_rfl) ?_
  rcases Nat.lt_or_ge k a.length with hlt | hge
  · obtain ⟨x, hx⟩ : ∃ x, a[k]? = some x := ⟨_, List.getElem?_eq_getElem hlt⟩
    have hltb : k < b.length := by omega
    obtain ⟨y, hy⟩ : ∃ y, b[k]? = some y := ⟨_, List.getElem?_eq_getElem hltb⟩
    have hs := lpSame_fn x y (ha x (List.mem_of_getElem? hx)) (hb y (List.mem_of_getElem? hy))
    rw [Sn.V_eq, Sn.V_eq] at hs
    cases he : decide (x = y)
    · rw [he] at hs
      simp (disch := omega) only [push_cast, go_sem, zA, simprocAttr, hlt]
      refine Sat.drawnE [] [] (List.range 10) (pureT [(20, .bool false)]) (by kernel_rfl) (by kernel_rfl) ?_
      simp (disch := omega) only [push_cast, go_sem, zA, simprocAttr, hx, hy, hlt, hltb, Sn.V_eq]
      refine runD_pure rfl hs rfl rfl ?_ ?_
      · rfl
      simp (disch := omega) only [push_cast, go_sem, zA, simprocAttr]
      have : ¬ a = b := list_ne_at hx hy (of_decide_eq_false he)
      simp [this]
    · rw [he] at hs
      simp (disch := omega) only [push_cast, go_sem, zA, simprocAttr, hlt]
      refine Sat.drawnE [] [] (List.range 10) (pureT [(20, .bool true)]) (by kernel_rfl) (by kernel_rfl) ?_
      simp (disch := omega) only [push_cast, go_sem, zA, simprocAttr, hx, hy, hlt, hltb, Sn.V_eq]
      refine runD_pure rfl hs rfl rfl ?_ ?_
      · rfl
      simp (disch := omega) only [push_cast, go_sem, zA, simprocAttr]
      refine hJ (k + 1) _ _ ⟨by omega, fun j x' y' hj h1 h2 => ?_⟩ (by omega) ?_
      · rcases Nat.lt_or_ge j k with h | h
        · exact hall j x' y' h h1 h2
        · have : j = k := by omega
          subst this; rw [hx] at h1; rw [hy] at h2; cases h1; cases h2
          exact beq_iff_eq.2 (of_decide_eq_true he)
      · (refine zB ?_; repeat (first | exact zC | exact zD | refine zE (by decide) ?_ | refine zF ?_ ?_ | refine zG ?_ ?_)) <;> (try simp (disch := omega) only [push_cast, go_sem, zA, simprocAttr])
  · have hkl : k = a.length := by omega
    subst hkl
    simp (disch := omega) only [push_cast, go_sem, zA, simprocAttr]
    refine Sat.of (S := []) (by kernel_rfl) ?_
    simp (disch := omega) only [push_cast, go_sem, zA, simprocAttr]
    have : a = b := list_eq_drop hl' hall (Nat.le_refl _)
    simp [this]
end
section
open Go.RowKit
end
section
open Go.RowKit
def DrawnA (r : V) : Prop := ∃ (p : Prog) (kind : Int), r = .tuple [progV p, .int .i64 kind] ∧ p.length ≤ 3 ∧ (∀ l ∈ p, l.length < 2 ^ 11)
theorem DrawOrderAll_fn (bs : List Int) (hb : Code8 bs) (hl : bs.length < 2 ^ 40) : Fc Tryz.prog 29 [codeV bs] noM (fun r m => DrawnA r ∧ m = noM) := by
 refine Fc.start (S := []) Tryz.func29 Tryz.ntmps29 Tryz.results29 rfl (by decide) rfl (by kernel_rfl) ?_
 simp (disch := omega) only [push_cast, go_sem, zA, simprocAttr, codeV_eq]
 intro g2
 refine callR.new (l6Open_fn bs hl) rfl rfl ?_
 rintro r ob ⟨g, rfl, rfl⟩
 simp (disch := omega) only [push_cast, go_sem, zA, simprocAttr]
 refine callR.rd (l71Any_rd (bs.take 2000) hb.take g 0 (by omega)) rfl rfl rfl ?_
 rintro r o' ⟨x, rfl, hx1, hx2, q, hq1, hq2, rfl⟩
 simp (disch := omega) only [push_cast, go_sem, zA, simprocAttr, progV_eq]
 refine callR.rd (l71Kind_pl (bs.take 2000) hb.take g q (by omega)) rfl rfl rfl ?_
 rintro r o' ⟨⟨kind, rfl⟩, q1, hq3, hq4, rfl⟩
 simp (disch := omega) only [push_cast, go_sem, zA, simprocAttr]
 exact ⟨x, kind, rfl, hx1, hx2⟩
end
section
open Go.RowKit
theorem told_uses {p : Prog} {x : Exe} {k : Int} {a b : Nat} (h : toldS p x k a b = true) : (dsA p a).uses = true ∧ (dsA p b).uses = true ∧ (readS p x a b = true ∨ overS p x a b = true) := by
 have h1 : readS p x a b = true ∨ overS p x a b = true := by
  rw [toldS] at h
  split at h
  ·rw [Bool.or_eq_true, Bool.and_eq_true] at h; exact h.imp And.right id
  ·split at h
   ·rw [Bool.and_eq_true, Bool.or_eq_true] at h; exact h.2
   ·rw [Bool.or_eq_true] at h; exact h
 refine ⟨?_, ?_, h1⟩
 ·rcases h1 with h1 | h1
  ·simp only [readS, Bool.and_eq_true] at h1; exact uses_or.2 (.inr h1.1.1)
  ·simp only [overS, sameS, Bool.and_eq_true] at h1; exact h1.1.2.1.1
 ·rcases h1 with h1 | h1
  ·simp only [readS, Bool.and_eq_true] at h1; exact uses_or.2 (.inl h1.1.2)
  ·simp only [overS, sameS, Bool.and_eq_true] at h1; exact h1.1.2.1.2
end
section
open Go.RowKit
theorem idxFrom_at : ∀ {r : List Int} {k i : Nat} {z : Int}, r.Nodup → r[k]? = some z → Lib.idxFrom r z i = ((i + k : Nat) : Int)
 | [], k, i, z, _, h => by simp at h
 | w :: r, 0, i, z, hn, h => by simp at h; subst h; simp [Lib.idxFrom]
 | w :: r, k + 1, i, z, hn, h => by
  rw [List.nodup_cons] at hn
  have hz : r[k]? = some z := by simpa using h
  have hw : w ≠ z := fun e => hn.1 (e ▸ List.mem_of_getElem? hz)
  rw [Lib.idxFrom, if_neg hw, idxFrom_at hn.2 hz]
  omega
theorem idxOf_at {r : List Int} {k : Nat} {z : Int} (hn : r.Nodup) (h : r[k]? = some z) : Lib.idxOf r z = (k : Int) := by
 rw [Lib.idxOf, idxFrom_at hn h]; omega
theorem idxOf_none {r : List Int} {z : Int} (h : z ∉ r) : Lib.idxOf r z < 0 := by
 have := Lib.idxOf_nonneg_iff r z
 have h2 : ¬ (r.contains z = true) := by simpa using h
 rw [← this] at h2
 omega
theorem idxOf_lt {r : List Int} (hp : r.Pairwise (· < ·)) {a b : Int} (ha : a ∈ r) (hb : b ∈ r) : Lib.idxOf r a < Lib.idxOf r b ↔ a < b := by
 have hn : r.Nodup := hp.imp fun {a b} hab e => by omega
 obtain ⟨i, hi⟩ := List.getElem?_of_mem ha
 obtain ⟨j, hj⟩ := List.getElem?_of_mem hb
 rw [idxOf_at hn hi, idxOf_at hn hj]
 obtain ⟨hil, rfl⟩ := List.getElem?_eq_some_iff.1 hi
 obtain ⟨hjl, rfl⟩ := List.getElem?_eq_some_iff.1 hj
 have pw := List.pairwise_iff_getElem.1 hp
 constructor
 ·intro h; exact pw i j hil hjl (by omega)
 ·intro h
  rcases Nat.lt_trichotomy i j with h1 | h1 | h1
  ·omega
  ·subst h1; omega
  ·have := pw j i hjl hil h1; omega
def lastW (ds : List Do) (pl : Int) : Nat → Option Nat
 | 0 => none
 | k + 1 => if (ds[k]?.getD default).writes && (ds[k]?.getD default).p == pl then some k else lastW ds pl k
theorem lastW_some {ds : List Do} {pl : Int} : ∀ {k w : Nat}, lastW ds pl k = some w → w < k ∧ (ds[w]?.getD default).writes = true ∧ (ds[w]?.getD default).p = pl ∧ ∀ j, w < j → j < k → (ds[j]?.getD default).writes = true → (ds[j]?.getD default).p ≠ pl
 | 0, w, h => by cases h
 | k + 1, w, h => by
  rw [lastW] at h
  split at h
  ·rename_i hc
   cases h
   rw [Bool.and_eq_true, beq_iff_eq] at hc
   exact ⟨by omega, hc.1, hc.2, fun j h1 h2 => by omega⟩
  ·rename_i hc
   obtain ⟨h1, h2, h3, h4⟩ := lastW_some h
   refine ⟨by omega, h2, h3, fun j k1 k2 hw => ?_⟩
   rcases Nat.lt_or_ge j k with hh | hh
   ·exact h4 j k1 hh hw
   ·have : j = k := by omega
    subst this
    intro e; exact hc (by simp [hw, e])
theorem lastW_none {ds : List Do} {pl : Int} : ∀ {k : Nat}, lastW ds pl k = none → ∀ j, j < k → (ds[j]?.getD default).writes = true → (ds[j]?.getD default).p ≠ pl
 | 0, h, j, hj, _ => by omega
 | k + 1, h, j, hj, hw => by
  rw [lastW] at h
  split at h
  ·cases h
  ·rename_i hc
   rcases Nat.lt_or_ge j k with hh | hh
   ·exact lastW_none h j hh hw
   ·have : j = k := by omega
    subst this
    intro e; exact hc (by simp [hw, e])
def fr0 (ds : List Do) (b : Nat) : Int := if (ds[b]?.getD default).reads then (match lastW ds (ds[b]?.getD default).p b with | some w => (w : Int) | none => -1) else -2
def way0 (ds : List Do) : Exe := ⟨(List.range ds.length).map (fr0 ds), [writersOf ds 0, writersOf ds 1, writersOf ds 2]⟩
theorem way0_fr {ds : List Do} {b : Nat} (h : b < ds.length) : (way0 ds).fr[b]? = some (fr0 ds b) := by
 simp only [way0, List.getElem?_map, List.getElem?_range h, Option.map_some]
theorem way0_od {ds : List Do} {k : Nat} (h : k < 3) : (way0 ds).od[k]? = some (writersOf ds k) := by
 obtain rfl | rfl | rfl : k = 0 ∨ k = 1 ∨ k = 2 := by omega
 all_goals rfl
theorem fr0_cases {ds : List Do} {b : Nat} {d : Do} (hd : ds[b]? = some d) : (d.reads = false ∧ fr0 ds b = -2) ∨ (d.reads = true ∧ lastW ds d.p b = none ∧ fr0 ds b = -1) ∨ ∃ w, d.reads = true ∧ lastW ds d.p b = some w ∧ fr0 ds b = w := by
 rw [fr0, hd, Option.getD_some]
 cases hr : d.reads
 ·exact .inl ⟨rfl, by simp⟩
 ·cases hl : lastW ds d.p b with
  | none => exact .inr (.inl ⟨rfl, rfl, by simp⟩)
  | some w => exact .inr (.inr ⟨w, rfl, rfl, by simp⟩)
theorem way0_ok {ds : List Do} (hc : copyOk ds) : OKW ds (way0 ds) := by
 have hget : ∀ {b : Nat} {d : Do} {w : Nat}, ds[b]? = some d → lastW ds d.p b = some w → w < b ∧ ∃ d', ds[w]? = some d' ∧ d'.writes = true ∧ d'.p = d.p := by
  intro b d w hd hl
  obtain ⟨h1, h2, h3, _⟩ := lastW_some hl
  have hw : w < ds.length := by have := (List.getElem?_eq_some_iff.1 hd).1; omega
  rw [List.getElem?_eq_getElem hw] at h2 h3
  exact ⟨h1, _, List.getElem?_eq_getElem hw, h2, h3⟩
 refine ⟨by simp [way0], rfl, fun k hk => ⟨_, way0_od hk, writers_nodup _ _, fun z => mem_writers⟩, fun i d f hd hf hr => ?_, fun i d f hd hf hr => ?_, fun i d hd hu => ?_⟩
 ·rw [way0_fr (List.getElem?_eq_some_iff.1 hd).1] at hf
  cases hf
  rcases fr0_cases hd with ⟨h, _⟩ | ⟨_, _, h⟩ | ⟨w, _, h1, h2⟩
  ·rw [hr] at h; cases h
  ·exact .inl h
  ·obtain ⟨_, d', h3, h4, h5⟩ := hget hd h1
   exact .inr ⟨w, d', h2, h3, h4, h5⟩
 ·rw [way0_fr (List.getElem?_eq_some_iff.1 hd).1] at hf
  cases hf
  rcases fr0_cases hd with ⟨_, h⟩ | ⟨h, _⟩ | ⟨w, h, _⟩
  ·exact h
  ·rw [hr] at h; cases h
  ·rw [hr] at h; cases h
 ·have key : ∀ n i, i < n → ∀ d, ds[i]? = some d → d.uses = true → ∃ v, Val ds (way0 ds).fr i v := by
   intro n
   induction n with
   | zero => intro i h; omega
   | succ n ih =>
    intro i hi d hd hu
    have hfr := way0_fr (List.getElem?_eq_some_iff.1 hd).1
    rcases uses_or.1 hu with hr | hw
    ·rcases fr0_cases hd with ⟨h, _⟩ | ⟨_, _, h⟩ | ⟨w, _, h1, h2⟩
     ·rw [hr] at h; cases h
     ·exact ⟨0, .no hd hr (by rw [hfr, h])⟩
     ·obtain ⟨h0, d', h3, h4, h5⟩ := hget hd h1
      obtain ⟨v, hv⟩ := ih w (by omega) d' h3 (uses_or.2 (.inr h4))
      exact ⟨v, .rd hd hr (by rw [hfr, h2]) hv⟩
    ·by_cases h3 : d.k = 3
     ·obtain ⟨k1, ⟨d', k2, k3⟩, _⟩ := lastRd_spec (hc i d hd h3)
      obtain ⟨v, hv⟩ := ih _ (by omega) d' k2 (uses_or.2 (.inl k3))
      exact ⟨v, .cp hd h3 hv⟩
     ·exact ⟨d.v, .val hd (k_writes hw h3)⟩
  exact key (i + 1) i (by omega) d hd hu
theorem thr_open9 : ∀ {l : List Do} {r : Bool} {j : Nat} {d : Do}, thrGo l r true = true → l[j]? = some d → d.k = 9 → ∃ (t : Nat) (dt : Do), t < j ∧ l[t]? = some dt ∧ dt.k = 8
 | [], _, _, _, h, _, _ => by simp [thrGo] at h
 | d0 :: l, r, j, d, h, hd, h9 => by
  rw [thrGo] at h
  split at h
  ·cases h
  ·rename_i hw
   cases j with
   | zero => simp at hd; subst hd; exact absurd (by simp [Do.wrong, h9]) hw
   | succ j =>
    by_cases h8 : d0.k = 8
    ·exact ⟨0, d0, by omega, rfl, h8⟩
    ·have e : (d0.k == 7 || (true && !(d0.k == 8))) = true := by simp [h8]
     rw [e] at h
     obtain ⟨t, dt, h1, h2, h3⟩ := thr_open9 h (by simpa using hd) h9
     exact ⟨t + 1, dt, by omega, by simpa using h2, h3⟩
theorem thr_in9 : ∀ {l : List Do} {r i : Bool} {f j : Nat} {df d : Do}, thrGo l r i = true → l[f]? = some df → df.k = 7 → f < j → l[j]? = some d → d.k = 9 → ∃ (t : Nat) (dt : Do), f < t ∧ t < j ∧ l[t]? = some dt ∧ dt.k = 8
 | [], _, _, _, _, _, _, _, h, _, _, _, _ => by simp at h
 | d0 :: l, r, i, f, j, df, d, h, hf, h7, hfj, hd, h9 => by
  rw [thrGo] at h
  split at h
  ·cases h
  ·rename_i hw
   obtain ⟨j, rfl⟩ : ∃ j', j = j' + 1 := ⟨j - 1, by omega⟩
   have hd' : l[j]? = some d := by simpa using hd
   cases f with
   | zero =>
    simp at hf; subst hf
    have e : (d0.k == 7 || (i && !(d0.k == 8))) = true := by simp [h7]
    rw [e] at h
    obtain ⟨t, dt, h1, h2, h3⟩ := thr_open9 h hd' h9
    exact ⟨t + 1, dt, by omega, by omega, by simpa using h2, h3⟩
   | succ f =>
    obtain ⟨t, dt, h0, h1, h2, h3⟩ := thr_in9 h (by simpa using hf) h7 (by omega) hd' h9
    exact ⟨t + 1, dt, by omega, by omega, by simpa using h2, h3⟩
theorem Quiet.nowait {p : Prog} (hok : progOk p = true) {i t w : Nat} (q : Quiet p i t) (h7 : kd (scene p).ds i = 7) (h1 : i < w) (h2 : w < t) : kd (scene p).ds w ≠ 9 := by
 intro h9
 have htl := q.tl
 obtain ⟨a, l, j, d, hi⟩ := At.of (List.getElem?_eq_getElem (show i < (events p).length by omega))
 obtain ⟨a', l', j', d', hw⟩ := At.of (List.getElem?_eq_getElem (show w < (events p).length by omega))
 have hth := (q.no w h1 h2).2.2
 rw [hi.th, hw.th] at hth
 have e : a' = a := by omega
 subst e
 have e : l' = l := Option.some.inj (hw.pl.symm.trans hi.pl)
 subst e
 rw [hi.kd] at h7
 rw [hw.kd] at h9
 have hlt := events_lt hi.ev hw.ev h1
 simp only [Evt.lt, hi.t, hw.t, hi.s, hw.s] at hlt
 have hjj : j < j' := by
  rcases hlt with h | ⟨_, h | ⟨h, _⟩⟩
  ·omega
  ·omega
  ·have : j = j' := by omega
   subst this
   have : d = d' := Option.some.inj (hi.ld.symm.trans hw.ld)
   subst this; omega
 obtain ⟨s, ds, k1, k2, k3, k4⟩ := thr_in9 (ok_thr hok hi.pl) hi.ld h7 hjj hw.ld h9
 have hm := At.mk' hi.pl k3
 have m1 := hi.ord hm k1
 have m2 := hm.ord hw k2
 have := (q.no _ m1 (by omega)).2.1
 rw [hm.kd] at this
 exact this k4
theorem way0_net {p : Prog} (hok : progOk p = true) {kind : Int} {a b : Nat} (ha : a < (events p).length) (hb : b < (events p).length) (h : netR p (way0 (scene p).ds) kind a b = true) : a < b := by
 have hsl := scene_n p
 have hx := way0_ok (scene_copy hok)
 rw [netR, Bool.or_eq_true] at h
 rcases h with h | h
 ·have ho : ownB (events p) a b = true := by
   rcases stays_cases p kind a b with ⟨_, e⟩ | ⟨_, e⟩ | ⟨_, e⟩ | ⟨_, _, _, e⟩
   ·rw [e] at h; exact h
   ·rw [e, Bool.and_eq_true] at h; exact h.1
   ·rw [e, looseS, Bool.and_eq_true] at h; exact h.1
   ·rw [e, Bool.and_eq_true] at h; exact h.1
  exact (own_iff.1 ho).1
 ·obtain ⟨ua, ub, h⟩ := told_uses h
  have hda := ds_at ha
  have hdb := ds_at hb
  have fa := way0_fr (ds := (scene p).ds) (b := a) (by omega)
  have fb := way0_fr (ds := (scene p).ds) (b := b) (by omega)
  rcases h with h | h
  ·simp only [readS, Bool.and_eq_true, beq_iff_eq] at h
   rw [fb, Option.getD_some] at h
   rcases fr0_cases hdb with ⟨_, e⟩ | ⟨_, _, e⟩ | ⟨w, _, e1, e2⟩
   ·omega
   ·omega
   ·have := (lastW_some e1).1
    omega
  ·simp only [overS, sameS, Bool.and_eq_true, Bool.not_eq_true', beq_eq_false_iff_ne, decide_eq_true_eq, beq_iff_eq] at h
   obtain ⟨⟨⟨wb, hne⟩, ⟨_, hpp⟩⟩, hrk⟩ := h
   have hpl := formed_place (scene_formed hok _ (List.mem_of_getElem? hdb)) ub
   have hod := way0_od (ds := (scene p).ds) (k := (dsA p b).p.toNat) (by omega)
   have hkk : (((dsA p b).p.toNat : Nat) : Int) = (dsA p b).p := by omega
   have pw := writers_pw (scene p).ds (dsA p b).p
   have mb : (b : Int) ∈ writersOf (scene p).ds (dsA p b).p := mem_writers.2 ⟨b, _, rfl, hdb, wb, rfl⟩
   rw [rankS, rankS, hpp, hod, wb, Option.getD_some, hkk, if_pos rfl] at hrk
   cases wa : (dsA p a).writes
   ·have ra : (dsA p a).reads = true := (uses_or.1 ua).resolve_right (by rw [wa]; simp)
    rw [wa, ra, fa, Option.getD_some] at hrk
    simp only [Bool.false_eq_true, if_false, if_true] at hrk
    rcases Nat.lt_or_gt_of_ne hne with hlt | hgt
    ·exact hlt
    ·exfalso
     rcases fr0_cases hda with ⟨e, _⟩ | ⟨_, e, _⟩ | ⟨w, _, e1, e2⟩
     ·rw [ra] at e; cases e
     ·have := lastW_none e b hgt (by show (dsA p b).writes = true; exact wb)
      exact this hpp.symm
     ·obtain ⟨k1, k2, k3, k4⟩ := lastW_some e1
      rw [e2] at hrk
      have mw : (w : Int) ∈ writersOf (scene p).ds (dsA p b).p := by
       have hwl : w < (events p).length := by omega
       exact mem_writers.2 ⟨w, _, rfl, ds_at hwl, k2, by rw [← hpp]; exact k3⟩
      have := (idxOf_lt pw mw mb).1 hrk
      exact k4 b (by omega) hgt (by show (dsA p b).writes = true; exact wb) hpp.symm
   ·rw [wa, if_pos rfl] at hrk
    have ma : (a : Int) ∈ writersOf (scene p).ds (dsA p b).p := mem_writers.2 ⟨a, _, rfl, hda, wa, hpp⟩
    have := (idxOf_lt pw ma mb).1 hrk
    omega
theorem late_k9 {p : Prog} {e : Nat} (he : e < (events p).length) (hl : ltA (events p) e = true) : kd (scene p).ds e = 9 := by
 obtain ⟨i, l, j, d, h⟩ := At.of (List.getElem?_eq_getElem he)
 rw [h.kd]
 refine h.late ?_
 rw [ltA, List.getElem?_eq_getElem he] at hl
 exact hl
theorem way0_holds {p : Prog} (hok : progOk p = true) (kind : Int) : Hld p (way0 (scene p).ds) kind := by
 refine ⟨⟨id, fun a b ha hb h => way0_net hok ha hb h⟩, fun e i => decide (outA p i < e), id, fun a b ha hb h => ?_⟩
 rcases h with h | ⟨e, i, hw, h⟩
 ·exact way0_net hok ha hb h
 ·rcases h with ⟨h1, rfl, rfl⟩ | ⟨h1, rfl, rfl⟩
  ·exact of_decide_eq_true h1
  ·have h1 := of_decide_eq_false h1
   show a < b
   obtain ⟨w, k1, k2, _⟩ := wait_prev hw.el hw.late
   have hwa : w = a := by omega
   subst hwa
   obtain ⟨q, h8⟩ := outA_spec hok hw.il hw.k7
   have h9 := late_k9 hw.el hw.late
   have hne : outA p b ≠ w + 1 := fun e => by rw [e, h9] at h8; omega
   rcases Nat.lt_or_ge w b with hh | hh
   ·exact hh
   ·exfalso
    have hne2 : b ≠ w := fun e => by have := hw.k7; rw [e, k2] at this; omega
    exact q.nowait hok hw.k7 (w := w) (by omega) (by omega) k2
theorem way0_ord {p : Prog} (hok : progOk p = true) {kind : Int} (hk : inB kind 1 3 = true) : seenF p (way0 (scene p).ds) ∈ ordAll p kind :=
 mem_ordW.2 ⟨hok, hk, _, way0_ok (scene_copy hok), way0_holds hok kind, rfl⟩
theorem way0_only {p : Prog} (hok : progOk p = true) (hT : ∀ a b, a < (events p).length → b < (events p).length → th (events p) a = th (events p) b) {x : Exe} (hx : OKW (scene p).ds x) (hr : Rkd (events p).length fun a b => netR p x 0 a b = true) : x = way0 (scene p).ds := by
 have hsl := scene_n p
 obtain ⟨r, hr⟩ := hr
 have own0 : ∀ a b, a < (events p).length → b < (events p).length → a < b → sameS p a b = true → r a < r b := by
  intro a b ha hb hab hs
  refine hr a b ha hb ?_
  show netR p x 0 a b = true
  rw [netR, Bool.or_eq_true]
  left
  show (ownB (events p) a b && sameS p a b) = true
  rw [hs, own_iff.2 ⟨hab, hT a b ha hb⟩]; rfl
 have tld : ∀ a b, a < (events p).length → b < (events p).length → (readS p x a b = true ∨ overS p x a b = true) → r a < r b := by
  intro a b ha hb h
  refine hr a b ha hb ?_
  show netR p x 0 a b = true
  rw [netR, Bool.or_eq_true]
  right
  show (readS p x a b || overS p x a b) = true
  rw [Bool.or_eq_true]; exact h
 have sm : ∀ a b, (dsA p a).uses = true → (dsA p b).uses = true → (dsA p a).p = (dsA p b).p → sameS p a b = true := by
  intro a b h1 h2 h3; rw [sameS, h1, h2, h3]; simp
 have hod : x.od = (way0 (scene p).ds).od := by
  apply List.ext_getElem?
  intro k
  by_cases hk : k < 3
  ·obtain ⟨row, h1, h2, h3⟩ := hx.od k hk
   rw [h1, way0_od hk]
   congr 1
   have pw : row.Pairwise (· < ·) := by
    rw [List.pairwise_iff_getElem]
    intro i j hi hj hij
    obtain ⟨a, da, ea, ga, wa, pa⟩ := (h3 _).1 (List.getElem_mem hi)
    obtain ⟨b, db, eb, gb, wb, pb⟩ := (h3 _).1 (List.getElem_mem hj)
    have hal : a < (events p).length := by rw [← hsl]; exact (List.getElem?_eq_some_iff.1 ga).1
    have hbl : b < (events p).length := by rw [← hsl]; exact (List.getElem?_eq_some_iff.1 gb).1
    rw [ds_at hal] at ga; cases ga
    rw [ds_at hbl] at gb; cases gb
    have ia := idxOf_at h2 (List.getElem?_eq_getElem hi)
    have ib := idxOf_at h2 (List.getElem?_eq_getElem hj)
    rw [ea] at ia
    rw [eb] at ib
    have hne : a ≠ b := fun e => by subst e; omega
    have ua := uses_or.2 (.inr wa)
    have ub := uses_or.2 (.inr wb)
    have hs := sm a b ua ub (by rw [pa, pb])
    have hov : overS p x a b = true := by
     have e1 : (dsA p a).p.toNat = k := by omega
     have e2 : (dsA p b).p.toNat = k := by omega
     have : (a == b) = false := beq_eq_false_iff_ne.2 hne
     rw [overS, wb, hs, this, rankS, rankS, wa, wb, e1, e2, h1, Option.getD_some, if_pos rfl, if_pos rfl, ia, ib]
     simp; omega
    have k1 := tld a b hal hbl (.inr hov)
    rcases Nat.lt_or_gt_of_ne hne with h | h
    ·omega
    ·have := own0 b a hbl hal h (sm b a ub ua (by rw [pa, pb])); omega
   have hp : row.Perm (writersOf (scene p).ds k) := (List.perm_ext_iff_of_nodup h2 (writers_nodup _ _)).2 fun z => by rw [h3, mem_writers]
   exact List.Perm.eq_of_pairwise (le := fun s t => s < t) (fun a b _ _ h1 h2 => by omega) pw (writers_pw _ _) hp
  ·rw [List.getElem?_eq_none (by rw [hx.odl]; omega), List.getElem?_eq_none (by show 3 ≤ k; omega)]
 have hfr : x.fr = (way0 (scene p).ds).fr := by
  apply List.ext_getElem?
  intro b
  by_cases hb : b < (events p).length
  ·obtain ⟨z, hz⟩ : ∃ z, x.fr[b]? = some z := ⟨_, List.getElem?_eq_getElem (by rw [hx.frl, hsl]; exact hb)⟩
   have hdb := ds_at hb
   rw [hz, way0_fr (by omega)]
   congr 1
   have noover : ∀ w', w' < b → (dsA p w').writes = true → (dsA p w').p = (dsA p b).p → (dsA p b).uses = true → overS p x b w' = false := by
    intro w' h1 h2 h3 h4
    cases ho : overS p x b w'
    ·rfl
    ·have k1 := tld b w' hb (by omega) (.inr ho)
     have k2 := own0 w' b (by omega) hb h1 (sm w' b (uses_or.2 (.inr h2)) h4 h3)
     omega
   rcases fr0_cases hdb with ⟨e, h⟩ | ⟨e, hl, h⟩ | ⟨w, e, hl, h⟩
   ·rw [h]; exact hx.nr b _ z hdb hz e
   all_goals
    have ub : (dsA p b).uses = true := uses_or.2 (.inl e)
    have nw : (dsA p b).writes = false := (k_reads e).1
    have hpl := formed_place (scene_formed hok _ (List.mem_of_getElem? hdb)) ub
    have hkk : (((dsA p b).p.toNat : Nat) : Int) = (dsA p b).p := by omega
    have hrow : x.od[(dsA p b).p.toNat]? = some (writersOf (scene p).ds (dsA p b).p) := by rw [hod, way0_od (by omega), hkk]
    have pw := writers_pw (scene p).ds (dsA p b).p
    have over_of : ∀ w', w' < (events p).length → (dsA p w').writes = true → (dsA p w').p = (dsA p b).p → Lib.idxOf (writersOf (scene p).ds (dsA p b).p) z < Lib.idxOf (writersOf (scene p).ds (dsA p b).p) w' → overS p x b w' = true := by
     intro w' h1 h2 h3 h4
     have hne : (b == w') = false := beq_eq_false_iff_ne.2 fun e => by subst e; rw [nw] at h2; cases h2
     have hs := sm b w' ub (uses_or.2 (.inr h2)) h3.symm
     rw [overS, h2, hne, hs, rankS, rankS, nw, e, h2, hz, h3, hrow]
     simpa using h4
   ·rw [h]
    rcases hx.rd b _ z hdb hz e with h1 | ⟨w, d', h1, h2, h3, h4⟩
    ·exact h1
    ·exfalso
     have hwl : w < (events p).length := by rw [← hsl]; exact (List.getElem?_eq_some_iff.1 h2).1
     rw [ds_at hwl] at h2; cases h2
     have hrd : readS p x w b = true := by rw [readS, h3, e, hz, h1]; simp
     have k1 := tld w b hwl hb (.inl hrd)
     rcases Nat.lt_trichotomy w b with hh | hh | hh
     ·exact lastW_none hl w hh h3 h4
     ·subst hh; rw [nw] at h3; cases h3
     ·have := own0 b w hb hwl hh (sm b w ub (uses_or.2 (.inr h3)) h4.symm); omega
   ·rw [h]
    obtain ⟨j1, j2, j3, j4⟩ := lastW_some hl
    have hwl0 : w < (events p).length := by omega
    have mw : (w : Int) ∈ writersOf (scene p).ds (dsA p b).p := mem_writers.2 ⟨w, _, rfl, ds_at hwl0, j2, j3⟩
    rcases hx.rd b _ z hdb hz e with h1 | ⟨u, d', h1, h2, h3, h4⟩
    ·exfalso
     have k0 : Lib.idxOf (writersOf (scene p).ds (dsA p b).p) z < 0 := idxOf_none fun hm => by
      obtain ⟨b', _, hb', _⟩ := mem_writers.1 hm; omega
     have k1 := (Lib.idxOf_nonneg_iff (writersOf (scene p).ds (dsA p b).p) (w : Int)).symm ▸ (List.contains_iff_mem.2 mw)
     have := over_of w hwl0 j2 j3 (by omega)
     rw [noover w j1 j2 j3 ub] at this; cases this
    ·have hul : u < (events p).length := by rw [← hsl]; exact (List.getElem?_eq_some_iff.1 h2).1
     rw [ds_at hul] at h2; cases h2
     have hrd : readS p x u b = true := by rw [readS, h3, e, hz, h1]; simp
     have k1 := tld u b hul hb (.inl hrd)
     have hub : u < b := by
      rcases Nat.lt_trichotomy u b with hh | hh | hh
      ·exact hh
      ·subst hh; rw [nw] at h3; cases h3
      ·have := own0 b u hb hul hh (sm b u ub (uses_or.2 (.inr h3)) h4.symm); omega
     have mu : (u : Int) ∈ writersOf (scene p).ds (dsA p b).p := mem_writers.2 ⟨u, _, rfl, ds_at hul, h3, h4⟩
     rcases Nat.lt_trichotomy u w with hh | hh | hh
     ·exfalso
      have := over_of w hwl0 j2 j3 (by rw [h1]; exact (idxOf_lt pw mu mw).2 (by omega))
      rw [noover w j1 j2 j3 ub] at this; cases this
     ·omega
     ·exfalso; exact j4 u hh hub h3 h4
  ·rw [List.getElem?_eq_none (by rw [hx.frl]; omega), List.getElem?_eq_none (by simp [way0]; omega)]
 cases x
 cases h : way0 (scene p).ds
 rw [h] at hfr hod
 simp only at hfr hod
 rw [hfr, hod]
theorem alone_th {l : List Do} {a b : Nat} (ha : a < (events [l]).length) (hb : b < (events [l]).length) : th (events [l]) a = th (events [l]) b := by
 obtain ⟨i, l1, j, d, h⟩ := At.of (List.getElem?_eq_getElem ha)
 obtain ⟨i', l2, j', d', h'⟩ := At.of (List.getElem?_eq_getElem hb)
 have h1 := (List.getElem?_eq_some_iff.1 h.pl).1
 have h2 := (List.getElem?_eq_some_iff.1 h'.pl).1
 simp at h1 h2
 rw [h.th, h'.th, h1, h2]
theorem alone_ord {l : List Do} (hok : progOk [l] = true) {k : Int} (hk : inB k 1 3 = true) : ordAll [l] k = [seenF [l] (way0 (scene [l]).ds)] := by
 refine strict_ext (ord_strict _ _) (by simp [strictS]) fun s => ?_
 rw [List.mem_singleton]
 constructor
 ·intro hs
  obtain ⟨_, _, x, hx, hh, rfl⟩ := mem_ordW.1 hs
  rw [way0_only hok (fun a b => alone_th) hx hh.pl]
 ·rintro rfl
  exact way0_ord hok hk
theorem alone_ok {p : Prog} (h : progOk p = true) {l : List Do} (hl : l ∈ p) : progOk [l] = true := by
 simp only [progOk, Bool.and_eq_true, decide_eq_true_eq, List.all_eq_true] at h ⊢
 have le : ∀ (f : List Do → Nat) (q : Prog), l ∈ q → f l ≤ (q.map f).sum := by
  intro f q
  induction q with
  | nil => intro h; cases h
  | cons m q ih =>
   intro h
   rw [List.map_cons, List.sum_cons]
   rcases List.mem_cons.1 h with rfl | h
   ·omega
   ·have := ih h; omega
 have h1 := le List.length p hl
 have h2 := le usesOf p hl
 have e1 : stepsP [l] = l.length := by simp [stepsP]
 have e2 : usesP [l] = usesOf l := by simp [usesP]
 rw [e1, e2]
 simp only [stepsP, usesP] at h
 refine ⟨⟨⟨by simp, fun m hm => ?_⟩, by omega⟩, by omega⟩
 rw [List.mem_singleton.1 hm]
 exact h.1.1.2 l hl
end
section
open Go.RowKit
theorem lawOrderAlone_fn (bs ms : List Int) (hb : Code8 bs) : Fp Tryz.prog 11 [codeV bs, codeV ms] (.bool true) := by
 refine Fc.start (S := []) Tryz.func11 Tryz.ntmps11 Tryz.results11 rfl (by decide) rfl (by kernel_rfl) ?_
 by_cases h : (1048576 : Int) < bs.length
 ·simp (disch := omega) only [push_cast, go_sem, zA, simprocAttr, codeV_eq, h]
 by_cases h' : (1048576 : Int) < ms.length
 ·simp (disch := omega) only [push_cast, go_sem, zA, simprocAttr, codeV_eq, h, h']
 simp (disch := omega) only [push_cast, go_sem, zA, simprocAttr, codeV_eq, h, h']
 refine callR.ex (DrawOrderAll_fn bs hb (by omega)) rfl rfl ?_
 rintro r ⟨p, kind, rfl, hp, hl⟩
 have hl' : ∀ l ∈ p, l.length < 2 ^ 40 := fun l h => by have := hl l h; omega
 have hn := fun p k => (show (ordAll p k).length < 2 ^ 40 by have := ord_len p k; omega)
 have h1 := fun k => implOrderAll_fn p k (by omega) hl'
 have h2 := specOrderAll_fn p kind (by omega)
 simp only [ordI_eq] at h1
 have h3 := fun p k => lpList_fn (ordAll p k) (ordAll p k) ord_small ord_small (hn _ _) (hn _ _)
 simp only [decide_true] at h3
 have hok := specProgOk_fn p (by omega)
 rw [progV_eq] at h1 h2 hok
 simp (disch := omega) only [push_cast, go_sem, zA, simprocAttr, progV_eq]
 intro g3
 cases hpo : progOk p
 ·refine Sat.drawnE [] [] (List.range 19) (pureT [(28, .sl ((ordAll p kind).map Sn.V)), (31, .sl ((ordAll p kind).map Sn.V)), (30, .bool true), (36, .bool (progOk p))]) (by kernel_rfl) (by kernel_rfl) ?_
  simp (disch := omega) only [push_cast, go_sem, zA, simprocAttr]
  refine runD_pure rfl (h1 kind) rfl rfl ?_ ?_
  ·rfl
  simp (disch := omega) only [push_cast, go_sem, zA, simprocAttr]
  refine runD_pure rfl h2 rfl rfl ?_ ?_
  ·rfl
  simp (disch := omega) only [push_cast, go_sem, zA, simprocAttr]
  refine runD_pure rfl (h3 p kind) rfl rfl ?_ ?_
  ·rfl
  simp (disch := omega) only [push_cast, go_sem, zA, simprocAttr]
  refine runD_pure rfl hok rfl rfl ?_ ?_
  ·rfl
  simp (disch := omega) only [push_cast, go_sem, zA, simprocAttr, hpo]
  refine Sat.drawnE [] [] (List.range 8) (pureT [(28, .sl ((ordAll p kind).map Sn.V)), (31, .sl ((ordAll p kind).map Sn.V)), (30, .bool true)]) (by kernel_rfl) (by kernel_rfl) ?_
  simp (disch := omega) only [push_cast, go_sem, zA, simprocAttr]
  refine runD_pure rfl (h1 kind) rfl rfl ?_ ?_
  ·rfl
  simp (disch := omega) only [push_cast, go_sem, zA, simprocAttr]
  refine runD_pure rfl h2 rfl rfl ?_ ?_
  ·rfl
  simp (disch := omega) only [push_cast, go_sem, zA, simprocAttr]
  refine runD_pure rfl (h3 p kind) rfl rfl ?_ ?_
  ·rfl
  simp (disch := omega) only [push_cast, go_sem, zA, simprocAttr]
 by_cases h0 : p.length = 0
 ·have h0' : ((p.length : Int) == 0) = true := by simp [h0]
  refine Sat.drawnE [] [] (List.range 19) (pureT [(28, .sl ((ordAll p kind).map Sn.V)), (31, .sl ((ordAll p kind).map Sn.V)), (30, .bool true), (36, .bool (progOk p))]) (by kernel_rfl) (by kernel_rfl) ?_
  simp (disch := omega) only [push_cast, go_sem, zA, simprocAttr]
  refine runD_pure rfl (h1 kind) rfl rfl ?_ ?_
  ·rfl
  simp (disch := omega) only [push_cast, go_sem, zA, simprocAttr]
  refine runD_pure rfl h2 rfl rfl ?_ ?_
  ·rfl
  simp (disch := omega) only [push_cast, go_sem, zA, simprocAttr]
  refine runD_pure rfl (h3 p kind) rfl rfl ?_ ?_
  ·rfl
  simp (disch := omega) only [push_cast, go_sem, zA, simprocAttr]
  refine runD_pure rfl hok rfl rfl ?_ ?_
  ·rfl
  simp (disch := omega) only [push_cast, go_sem, zA, simprocAttr, hpo, h0']
  refine Sat.drawnE [] [] (List.range 8) (pureT [(28, .sl ((ordAll p kind).map Sn.V)), (31, .sl ((ordAll p kind).map Sn.V)), (30, .bool true)]) (by kernel_rfl) (by kernel_rfl) ?_
  simp (disch := omega) only [push_cast, go_sem, zA, simprocAttr]
  refine runD_pure rfl (h1 kind) rfl rfl ?_ ?_
  ·rfl
  simp (disch := omega) only [push_cast, go_sem, zA, simprocAttr]
  refine runD_pure rfl h2 rfl rfl ?_ ?_
  ·rfl
  simp (disch := omega) only [push_cast, go_sem, zA, simprocAttr]
  refine runD_pure rfl (h3 p kind) rfl rfl ?_ ?_
  ·rfl
  simp (disch := omega) only [push_cast, go_sem, zA, simprocAttr]
 have h0' : ((p.length : Int) == 0) = false := by simp; intro e; subst e; simp at h0
 have hz : ¬ ((p.length : Nat) : Int) = 0 := by omega
 have hpos : (0 : Int) < ((p.length : Nat) : Int) := by omega
 obtain ⟨k, hk⟩ : ∃ k : Nat, ((ms.length : Nat) : Int).tmod (p.length : Nat) = k := ⟨_, (Int.toNat_of_nonneg (Int.tmod_nonneg _ (by omega))).symm⟩
 have hkl : k < p.length := by have := Int.tmod_lt_of_pos ((ms.length : Nat) : Int) hpos; omega
 obtain ⟨l, he⟩ : ∃ l, p[k]? = some l := ⟨_, List.getElem?_eq_getElem hkl⟩
 have hone := alone_ok hpo (List.mem_of_getElem? he)
 have hll := hl' l (List.mem_of_getElem? he)
 have q1 := fun k => implOrderAll_fn [l] k (by simp) (fun m hm => by rw [List.mem_singleton.1 hm]; exact hll)
 simp only [ordI_eq] at q1
 have a1 := alone_ord hone (k := 1) rfl
 have a2 := alone_ord hone (k := 2) rfl
 have a3 := alone_ord hone (k := 3) rfl
 have h4 := h3 [l] 1
 have q2 := q1 2
 have q3 := q1 3
 have q1 := q1 1
 rw [a2] at q2
 rw [a3] at q3
 rw [a1] at q1 h4
 rw [progV_eq] at q1 q2 q3
 refine Sat.drawnE [] [] (List.range 19) (pureT [(28, .sl ((ordAll p kind).map Sn.V)), (31, .sl ((ordAll p kind).map Sn.V)), (30, .bool true), (36, .bool (progOk p))]) (by kernel_rfl) (by kernel_rfl) ?_
 simp (disch := omega) only [push_cast, go_sem, zA, simprocAttr]
 refine runD_pure rfl (h1 kind) rfl rfl ?_ ?_
 ·rfl
 simp (disch := omega) only [push_cast, go_sem, zA, simprocAttr]
 refine runD_pure rfl h2 rfl rfl ?_ ?_
 ·rfl
 simp (disch := omega) only [push_cast, go_sem, zA, simprocAttr]
 refine runD_pure rfl (h3 p kind) rfl rfl ?_ ?_
 ·rfl
 simp (disch := omega) only [push_cast, go_sem, zA, simprocAttr]
 refine runD_pure rfl hok rfl rfl ?_ ?_
 ·rfl
 simp (disch := omega) only [push_cast, go_sem, zA, simprocAttr, hpo, h0', hz, hk]
 have hsl : List.drop k (List.take ((k : Int) + 1).toNat (List.map thrV p)) = [l].map thrV := by
  rw [show ((k : Int) + 1).toNat = k + 1 by omega, ← List.map_take, ← List.map_drop, take_get he, List.drop_append_of_le_length (by rw [List.length_take]; omega), List.drop_of_length_le (by rw [List.length_take]; omega)]
  rfl
 refine ⟨⟨by omega, by omega, fun x hx => by obtain ⟨_, _, rfl⟩ := List.mem_map.1 hx; rfl⟩, fun g8 => ?_⟩
 rw [hsl]
 refine callR.pure q1 rfl rfl ?_
 simp (disch := omega) only [push_cast, go_sem, zA, simprocAttr]
 refine callR.pure q2 rfl rfl ?_
 simp (disch := omega) only [push_cast, go_sem, zA, simprocAttr]
 refine callR.pure h4 rfl rfl ?_
 simp (disch := omega) only [push_cast, go_sem, zA, simprocAttr]
 refine callR.pure q3 rfl rfl ?_
 simp (disch := omega) only [push_cast, go_sem, zA, simprocAttr]
 refine callR.pure h4 rfl rfl ?_
 simp (disch := omega) only [push_cast, go_sem, zA, simprocAttr]
end
section
open Go.ChangeShapes Go.WideShapes Go.ChangeAt Go.RowKit
theorem own : ownKnob Tryz.prog.godebug = none := by kernel_rfl
theorem laidOut' : laidOutB Tryz.prog = true := by kernel_rfl
theorem cells8 : Tryz.prog.cellsOf 5 = 1 := by kernel_rfl
theorem code_rp {imm : Nat → Prop} {W : World} {b off len cap : Nat} {zs : List Int} (hlz : len ≤ zs.length) (hl : len ≤ cap) (hi : imm b) (hcell : ∀ i, i < zs.length → W.cell? ⟨b, off + i, none⟩ = some (.int .u8 (zs.getD i 0))) :
  Rp imm W (codeV (zs.take len)) (.slice (some ⟨b, off, none⟩) len cap) := by
 by_cases h0 : len = 0
 ·subst h0; exact .sl0 _ _
 have hc0 := hcell 0 (by omega)
 unfold World.cell? at hc0
 split at hc0
 ·rename_i cur t fr hg
  have hln : (zs.take len).length = len := by rw [List.length_take]; omega
  have e : ((zs.take len).map (V.int .u8)).length = len := by rw [List.length_map]; exact hln
  have get : ∀ (i : Nat) (x : V), ((zs.take len).map (V.int .u8))[i]? = some x → x = .int .u8 (zs.getD i 0) ∧ i < len := by
   intro i x hx
   have hlt : i < len := by have := (List.getElem?_eq_some_iff.1 hx).1; omega
   rw [List.getElem?_map, List.getElem?_take_of_lt hlt] at hx
   obtain ⟨y, hy, rfl⟩ := Option.map_eq_some_iff.1 hx
   exact ⟨by rw [List.getD, hy]; rfl, hlt⟩
  have := Rp.sl (imm := imm) (w := W) ((zs.take len).map (V.int .u8)) b off cap 1 cur t fr (fun i _ => .int .u8 (zs.getD i 0)) hi hg (by omega)
   (fun i x hx => by rw [(get i x hx).1]; rfl)
   (fun i x j c hx hc => by
    obtain ⟨rfl, hlt⟩ := get i x hx
    have hj : j = 0 := by
     cases j with
     | zero => rfl
     | succ j => simp [V.cells] at hc
    subst hj
    have := hcell i (by omega)
    unfold World.cell? at this
    simp only [hg] at this
    simpa using this)
   (fun i x j c hx hc => by
    obtain ⟨rfl, hlt⟩ := get i x hx
    have hj : j = 0 := by
     cases j with
     | zero => rfl
     | succ j => simp [V.cells] at hc
    subst hj
    simp [V.cells] at hc
    subst hc
    exact .int _ _)
  rw [e] at this
  exact this
 ·cases hc0
end
section
open Go.ChangeShapes Go.WideShapes Go.ChangeAt Go.RowKit
theorem laid_tab {H : Type} : (Rows.laid_math_bits_deBruijn64tab : DataW H) = Lib.tabData .u8 (Lib.deBruijn64tab.map fun n : Nat => (n : Int)) := rfl
theorem tabs_of {W : World} {rest : List (String × DataW Unit)} (h : laidMet Tryz.prog (("math/bits.deBruijn64tab", Rows.laid_math_bits_deBruijn64tab) :: rest) W) : ∀ x ∈ globT, Tab x.1 x.2 W := by
 rw [laid_tab] at h
 intro x hx
 simp only [globT, List.mem_cons, List.not_mem_nil, or_false] at hx
 subst hx
 intro j hj
 have hT := Lib.tabIs_of_head (t := 165) (e := 5) (n := 64) (g := (globT.headD (0, [])).1) (by kernel_rfl) (by kernel_rfl) Tryz.underlying165 Tryz.underlying5 cells8 (by kernel_rfl) h
 have := hT.cell (g := (globT.headD (0, [])).1) (by kernel_rfl) j (by rw [List.length_map]; exact hj)
 have e : (Lib.deBruijn64tab.map fun n : Nat => (n : Int)).getD j 0 = ((Lib.deBruijn64tab.getD j 0 : Nat) : Int) := by
  simp only [List.getD, List.getElem?_map]
  cases Lib.deBruijn64tab[j]? <;> rfl
 rw [e] at this
 exact this
theorem glob_of {W : World} {imm : Nat → Prop} (hT : ∀ x ∈ globT, Tab x.1 x.2 W) (hi : ∀ x ∈ globT, imm x.1) : Glob imm W := fun x hx => ⟨hi x hx, hT x hx⟩
theorem glob_lt {W : World} (hT : ∀ x ∈ globT, Tab x.1 x.2 W) : ∀ x ∈ globT, x.1 < W.heap.size := by
 intro x hx
 have h := hT x hx
 simp only [globT, List.mem_cons, List.not_mem_nil, or_false] at hx
 subst hx
 have := h 0 (by decide)
 unfold World.cell? at this
 split at this
 ·rename_i hh; exact (Array.getElem?_eq_some_iff.1 hh).1
 ·cases this
end
section
open Go.ChangeShapes Go.WideShapes Go.ChangeAt Go.RowKit
theorem code_of {H : Type} {enc : TypeId × Value → H} {W : World} {a0 : Option Addr} {len cap : Nat} {d0 : DataW H} {p0 : List MemPlace} (h0 : DataW.Trod enc Tryz.prog W 0 (fun _ => true) true 22 (.slice a0 len cap) d0 p0) :
  ∃ bs : List Int, Code8 bs ∧ ∃ g : Option Nat, (∀ b, g = some b → b < W.heap.size) ∧ ∀ imm : Nat → Prop, (∀ b, g = some b → imm b) → Rp imm W (codeV bs) (.slice a0 len cap) := by
 obtain ⟨fuel, hf⟩ := h0
 rcases open_ints Tryz.underlying22 Tryz.underlying5 cells8 hf with ⟨hcs, hx⟩ | ⟨a, len', cap', zs, hcs, _, hl, hm, hz, hx, hcell, hwz⟩
 ·simp [Value.cells] at hcs
  obtain ⟨rfl, rfl, rfl⟩ := hcs
  exact ⟨[], (fun b hb => by cases hb), none, (fun b hb => by cases hb), (fun imm _ => .sl0 _ _)⟩
 ·simp [Value.cells] at hcs
  obtain ⟨rfl, rfl, rfl⟩ := hcs
  simp only [if_true] at hz
  have hc8 : Code8 (zs.take len) := by
   intro n hn
   have := hwz n (List.mem_of_mem_take hn)
   simp [Lit.wf, IntKind.min, IntKind.max, IntKind.signed, IntKind.bits] at this
   omega
  by_cases hl0 : len = 0
  ·subst hl0
   exact ⟨[], (fun b hb => by cases hb), none, (fun b hb => by cases hb), (fun imm _ => .sl0 _ _)⟩
  ·obtain ⟨b, off, spot⟩ := a
   have hspot : spot = none := by simpa [Addr.add] using World.cell?_spot (hcell 0 (by omega))
   subst hspot
   refine ⟨zs.take len, hc8, some b, fun b' hb => ?_, fun imm hi => code_rp (by omega) hl (hi b rfl) fun i hi => by rw [← add_plain]; exact hcell i hi⟩
   cases hb
   have := hcell 0 (by omega)
   rw [add_plain] at this
   unfold World.cell? at this
   split at this
   ·rename_i hh; exact (Array.getElem?_eq_some_iff.1 hh).1
   ·cases this
theorem law_calls2 {f : FuncId} {W : World} {x y : V} {v u : Value} {imm : Nat → Prop} (h : Fp Tryz.prog f [x, y] (.bool true)) (hG : Glob imm W) (hi : ∀ g, imm g → g < W.heap.size) (hx : Rp imm W x v) (hy : Rp imm W y u) (hk : x.key = none ∧ y.key = none) :
  Calls Tryz.prog f #[v, u] W fun e w' => e = .returned (.bool true) ∧ Below W.heap.size W w' := by
 refine (h.fn imm W #[v, u] hG inv_no hi rfl ?_).mono ?_
 ·intro j c w hj hu
  match j with
  | 0 => simp at hj hu; subst hj; subst hu; exact hx
  | 1 => simp at hj hu; subst hj; subst hu; exact hy
  | j + 2 => simp at hj
 ·rintro e w' ⟨r, r', m, imm', rfl, ⟨rfl, rfl⟩, h3, h4⟩
  rw [h3.bool_inv]
  exact ⟨rfl, h4.os, h4.tape, h4.output, h4.size, fun k hk => (h4.block k hk not_owns_no).1⟩
end
end Go.Proofs.YtfbgabkcjjahiaaGreatDoor
