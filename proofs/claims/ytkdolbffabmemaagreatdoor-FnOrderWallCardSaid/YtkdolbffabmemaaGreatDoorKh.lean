/-
 Contracts and plain laws.
-/
import Derived.Test.YtkdolbffabmemaaGreatDoorKd
import Derived.Test.YtkdolbffabmemaaGreatDoorKe
import Derived.Test.YtkdolbffabmemaaGreatDoorKf
import Derived.Test.YtkdolbffabmemaaGreatDoorKg
set_option linter.unusedSimpArgs false
set_option linter.unusedVariables false
set_option linter.unusedSectionVars false
namespace Go.Proofs.YtkdolbffabmemaaGreatDoor
section
open Go.RowKit Go.Maps Go.Sort Go.Shelf Go.Lib
set_option maxHeartbeats 1000000 in
theorem mCompact_nil (A : Option Addr) (cap : Nat) (fv : Value) (w : World) : Calls Tryz.prog 46 #[.slice A 0 cap, fv] w fun e w' => e = .returned (.slice A 0 cap) ∧ w' = w := by
 go_enter Tryz.func46, Tryz.ntmps46
 go_wp2
 go_ret
 exact ⟨rfl, rfl⟩
def RpOk (imm : Nat → Prop) (w : World) (p : El × Sn) : Prop :=
 Rp imm w (.sl (p.2.rd.map (V.int .i64))) (.slice p.1.a.1 p.1.a.2.1 p.1.a.2.2) ∧ Rp imm w (.sl (p.2.ls.map (V.int .i64))) (.slice p.1.b.1 p.1.b.2.1 p.1.b.2.2) ∧ p.2.small
def Pr (imm : Nat → Prop) (w : World) : Type := { p : El × Sn // RpOk imm w p }
section
variable {imm : Nat → Prop} {w : World}
instance : Inhabited (Pr imm w) := ⟨⟨(⟨(none, 0, 0), (none, 0, 0)⟩, ⟨[], []⟩), .sl0 _ _, .sl0 _ _, ⟨by simp, by simp⟩⟩⟩
def Pr.el (p : Pr imm w) : El := p.1.1
def Pr.sn (p : Pr imm w) : Sn := p.1.2
theorem Pr.mk' {x : El} {s : Sn} (h1 : Rp imm w (.sl (s.rd.map (V.int .i64))) (.slice x.a.1 x.a.2.1 x.a.2.2)) (h2 : Rp imm w (.sl (s.ls.map (V.int .i64))) (.slice x.b.1 x.b.2.1 x.b.2.2)) (h : s.small) : ∃ p : Pr imm w, p.el = x ∧ p.sn = s := ⟨⟨(x, s), h1, h2, h⟩, rfl, rfl⟩
theorem prs (f : Nat → Pr imm w → Prop) : ∀ (n : Nat), (∀ i, i < n → ∃ p, f i p) → ∃ ps : List (Pr imm w), ps.length = n ∧ ∀ i p, ps[i]? = some p → f i p
 | 0, _ => ⟨[], rfl, fun i p h => by simp at h⟩
 | n + 1, h => by
  obtain ⟨ps, h1, h2⟩ := prs f n (fun i hi => h i (by omega))
  obtain ⟨p, hp⟩ := h n (by omega)
  refine ⟨ps ++ [p], by simp [h1], fun i q hq => ?_⟩
  by_cases hi : i < ps.length
  ·rw [List.getElem?_append_left hi] at hq; exact h2 i q hq
  ·have : i = n := by have := (List.getElem?_eq_some_iff.1 hq).1; simp at this; omega
   subst this
   rw [List.getElem?_append_right (by omega), h1, Nat.sub_self] at hq
   simp at hq; subst hq; exact hp
theorem pr_rp (p : Pr imm w) {j : Nat} {c : V} {u : Value} (hu : (enc2 p.el)[j]? = some u) (hc : p.sn.V.cells[j]? = some c) : Rp imm w c u := by
 match j, hu, hc with
 | 0, hu, hr => simp [enc2] at hu; simp [Sn.V, V.cells] at hr; subst hu; subst hr; exact p.2.1
 | 1, hu, hr => simp [enc2] at hu; simp [Sn.V, V.cells] at hr; subst hu; subst hr; exact p.2.2.1
 | t + 2, hu, hr => simp [enc2] at hu
theorem Rp.later {l : List Int} {x : Option Addr × Nat × Nat} (h : Rp imm w (.sl (l.map (V.int .i64))) (.slice x.1 x.2.1 x.2.2)) {W : World} (hi : ∀ g, imm g → g < w.heap.size) (hs : w.heap.size ≤ W.heap.size) (hc : ∀ a : Addr, imm a.block → W.cell? a = w.cell? a) : IntsAt W x l := by
 obtain ⟨A, c, e, h'⟩ := h.ints_inv
 injection e with e1 e2 e3
 refine ⟨e2, fun hne => ?_⟩
 obtain ⟨g, off, rfl, hg, _, hj⟩ := h' hne
 exact ⟨g, off, e1, by have := hi g hg; omega, fun j hj' => (hc _ hg).trans (hj j hj')⟩
theorem lays_same {blk size : Nat} (hi : ∀ g, imm g → g < w.heap.size) (hni : ¬ imm blk) (hblk : blk < w.heap.size) : ∀ dk : Array (Pr imm w), dk.size = size → ∀ W, SWK (fun x : Pr imm w => enc2 x.el) 2 w blk 0 dk W → ∀ (x y : Pr imm w) (n : Nat) (os : Array Obj),
  Calls Tryz.prog 50 #[agg2 x.el, agg2 y.el] (grow (W.drewN n) os) fun e w' => e = .returned (.bool (decide (x.sn = y.sn))) ∧ ∃ q os', w' = grow ((grow (W.drewN n) os).drewN q) os' := by
 intro dk _ W hW x y n os
 have hW2 := hW.grown n os
 have hs : w.heap.size ≤ (grow (W.drewN n) os).heap.size := hW2.le
 have hc : ∀ a : Addr, imm a.block → (grow (W.drewN n) os).cell? a = w.cell? a := fun a ha => by
  obtain ⟨n', os', e⟩ := hW2
  rw [e]
  unfold sortWorldK
  have := hi _ ha
  rw [cell?_grow _ _ _ (by rw [size_putRowK]; exact this), cell?_putRowK_other _ 2 _ blk 0 dk a (fun e => hni (e ▸ ha))]
  rfl
 have := mSame x.el y.el x.sn y.sn _ (x.2.1.later hi hs hc) (x.2.2.1.later hi hs hc) (y.2.1.later hi hs hc) (y.2.2.1.later hi hs hc) x.2.2.2.rd x.2.2.2.ls y.2.2.2.rd y.2.2.2.ls
 rwa [show decide (cmpS x.sn y.sn = 0) = decide (x.sn = y.sn) by rw [decide_eq_decide]; exact cmpS_zero] at this
theorem Inv.sns {sz : TypeId → Nat} {d g : Nat} {e : TypeId} {cap : Nat} {l : List Sn} (hsz : sz e = 2) (hs : ∀ s ∈ l, s.small) (hI : Inv sz imm w (noM.set d (.own e (some g) cap (l.map Sn.V)))) :
  ¬ imm g ∧ l.length ≤ cap ∧ cap ≤ maxLen ∧ ∃ (cur : Array Value) (ps : List (Pr imm w)), w.heap[g]? = some (.cells cur e (0, 0)) ∧ cur.size = cap * 2 ∧ ps.map Pr.sn = l ∧ ∀ (i : Nat) (p : Pr imm w) (j : Nat), ps[i]? = some p → j < 2 → cur[i * 2 + j]? = (enc2 p.el)[j]? := by
 obtain ⟨h0, h1, h2, cur, h3, h4, h5⟩ := hI.nd d [] (.own e (some g) cap (l.map Sn.V)) (by simp [Mem.getP_set, V.getP])
 have key : ∀ i, i < l.length → ∃ p : Pr imm w, l[i]? = some p.sn ∧ ∀ j, j < 2 → cur[i * 2 + j]? = (enc2 p.el)[j]? := by
  intro i hi
  have hx : (l.map Sn.V)[i]? = some (l[i]).V := by rw [List.getElem?_map, List.getElem?_eq_getElem hi]; rfl
  obtain ⟨_, k⟩ := h5 i _ hx
  obtain ⟨ua, a1, _, a2⟩ := k 0 _ rfl
  obtain ⟨ub, b1, _, b2⟩ := k 1 _ rfl
  have a2' : Rp imm w (.sl ((l[i]).rd.map (V.int .i64))) ua := a2
  have b2' : Rp imm w (.sl ((l[i]).ls.map (V.int .i64))) ub := b2
  obtain ⟨xa, rfl⟩ := a2'.ofInts
  obtain ⟨xb, rfl⟩ := b2'.ofInts
  obtain ⟨p, p1, p2⟩ := Pr.mk' (x := ⟨xa, xb⟩) (s := l[i]) a2' b2' (hs _ (List.getElem_mem hi))
  rw [hsz] at a1 b1
  refine ⟨p, by rw [p2, List.getElem?_eq_getElem hi], fun j hj => ?_⟩
  rw [p1]
  match j, hj with
  | 0, _ => exact a1
  | 1, _ => exact b1
 obtain ⟨ps, q1, q2⟩ := prs (fun i p => l[i]? = some p.sn ∧ ∀ j, j < 2 → cur[i * 2 + j]? = (enc2 p.el)[j]?) _ key
 refine ⟨h0, by simpa using h1, h2, cur, ps, h3, by rw [h4, hsz], ?_, fun i p j hp hj => (q2 i p hp).2 j hj⟩
 apply List.ext_getElem?
 intro j
 rw [List.getElem?_map]
 cases hp : ps[j]? with
 | none =>
  have := List.getElem?_eq_none_iff.1 hp
  rw [List.getElem?_eq_none (by omega)]; rfl
 | some p => rw [(q2 j p hp).1]; rfl
theorem holds2r {g : Nat} {cur : Array Value} {e : TypeId} {ps : List (Pr imm w)} (hb : w.heap[g]? = some (.cells cur e (0, 0))) (ht : ∀ (i : Nat) (p : Pr imm w) (j : Nat), ps[i]? = some p → j < 2 → cur[i * 2 + j]? = (enc2 p.el)[j]?) : HoldsK (fun p : Pr imm w => enc2 p.el) 2 w g 0 ps.toArray := by
 intro j hj
 have hj' : j < ps.length * 2 := by simpa using hj
 have hl : j / 2 < ps.length := by omega
 have h1 := ht (j / 2) ps[j / 2] (j % 2) (List.getElem?_eq_getElem hl) (by omega)
 have e1 : j / 2 * 2 + j % 2 = j := by omega
 rw [e1] at h1
 have h2 : (flatK (fun p : Pr imm w => enc2 p.el) 2 ps.toArray)[j]! = (enc2 (ps[j / 2]).el)[j % 2]! := by rw [get_flatK _ _ _ _ (by simpa using hj')]; simp [hl]
 refine ⟨cell_heap hb ?_, by simp [World.frozen?, hb]⟩
 rw [Nat.zero_add, h1, h2, List.getElem?_eq_getElem (by show _ < 2; omega), getElem!_pos _ (j % 2) (by show _ < 2; omega)]; rfl
end
theorem compact_len (l : List Sn) : (compact l).length ≤ l.length := by
 unfold compact compactUpTo
 rw [List.length_map]
 exact Nat.le_trans (List.length_filter_le _ _) (by simp)
theorem compactS_fn (l : List Sn) (γ : Option Nat) (cap : Nat) (hsm : ∀ s ∈ l, s.small) (hl : l.length < 2 ^ 40) : Fc Tryz.prog 46 [.msl 0 [] γ l.length cap, .fn (.func 50) [] []] (noM.set 0 (.own 34 γ cap (l.map Sn.V)))
  fun r m => r = .msl 100 [] γ (compact l).length cap ∧ m = noM.set 100 (.own 34 γ cap ((compact l).map Sn.V)) := by
 refine ⟨fun imm w vals hG hI hi hs hv => ?_, by kernel_rfl⟩
 obtain ⟨a, b, rfl, ha, hb⟩ := vals2 (P := Tryz.prog) hs hv
 have eb : b = .func (.func 50) #[] #[] := by
  cases hb with
  | fn f xs bs ar br k1 k2 _ _ => rw [show ar = #[] by simpa using k1, show br = #[] by simpa using k2]
 subst eb
 cases ha
 cases γ with
 | none =>
  have hnd := hI.nd 0 [] (.own 34 none cap (l.map Sn.V)) (by simp [Mem.getP_set, V.getP])
  have hz : l = [] := by simpa using hnd.1
  have hcap : cap = 0 := hnd.2
  subst hz; subst hcap
  refine (mCompact_nil none 0 _ w).mono ?_
  rintro e w' ⟨rfl, rfl⟩
  refine ⟨_, _, _, imm, rfl, ⟨rfl, rfl⟩, .msl _ _ _ _ _, Inv.nil _ _, hi, Nat.le_refl _, rfl, rfl, rfl, fun _ _ _ => ⟨rfl, Iff.rfl⟩, fun g hg => absurd (owns_nilrow hg) not_owns_no⟩
 | some g =>
  obtain ⟨hni, h1, h2, cur, ps, h3, h4, h5, h6⟩ := hI.sns szT_seen hsm
  have hlt := (Array.getElem?_eq_some_iff.1 h3).1
  have hpl : ps.length = l.length := by rw [← h5, List.length_map]
  have hm := mCompact (α := Pr imm w) Pr.el Pr.sn 50 (enters_of Tryz.func50 (by kernel_rfl) rfl) g 0 cap ps.toArray w (lays_same hi hni hlt) (holds2r h3 h6) hlt (by simp; omega) (by simp; omega)
  have e0 : (compactUpTo (ps.toArray.map Pr.sn) ps.toArray.size) = compact l := by
   unfold compact
   rw [← h5]; simp
  rw [e0] at hm
  simp only [List.size_toArray, hpl] at hm
  refine hm.mono ?_
  rintro e w' ⟨rfl, dk, vs, n, os, hds, hdk, hvs, rfl⟩
  have hcl := compact_len l
  have hF : (setMany (flatK (fun p : Pr imm w => enc2 p.el) 2 dk) ((compact l).length * 2) vs).size = l.length * 2 := by rw [size_setMany, size_flatK, hds]
  obtain ⟨⟨cur', k1, k2, k3⟩, k4, k5⟩ := flat_heap h3 n (setMany (flatK (fun p : Pr imm w => enc2 p.el) 2 dk) ((compact l).length * 2) vs) os (by rw [hF, h4]; exact Nat.mul_le_mul_right 2 h1)
  refine ⟨_, _, _, imm, rfl, ⟨rfl, rfl⟩, .msl _ _ _ _ _, Step.put2 (pl2_sn _) szT_seen hI hi rfl rfl rfl k5 k4 (by simp; omega) k1 (by omega) fun i x hx j c hj => ?_⟩
  rw [List.getElem?_map, Option.map_eq_some_iff] at hx
  obtain ⟨s, hsi, rfl⟩ := hx
  have hil := (List.getElem?_eq_some_iff.1 hsi).1
  have hj2 := (pl2_cell (x := s.V) ⟨_, _, rfl⟩ hj).1
  have hs' := hdk i hil
  rw [hsi] at hs'
  have hs2 : s = (dk[i]!).sn := Option.some.inj hs'
  have hidk : i < dk.size := by omega
  have hlt2 : i * 2 + j < dk.size * 2 := by omega
  obtain ⟨u, hu⟩ : ∃ u, (enc2 (dk[i]!).el)[j]? = some u := ⟨_, List.getElem?_eq_getElem (by show j < 2; exact hj2)⟩
  refine ⟨u, ?_, pr_rp dk[i]! hu (by rw [← hs2]; exact hj)⟩
  rw [k3 _ (by rw [hF]; omega)]
  have e1 := get_setMany vs ((compact l).length * 2) (flatK (fun p : Pr imm w => enc2 p.el) 2 dk) (i * 2 + j) (by simpa using hlt2)
  rw [if_neg (by omega), get_flatK _ _ _ _ hlt2, show (i * 2 + j) / 2 = i by omega, show (i * 2 + j) % 2 = j by omega] at e1
  rw [Array.getElem?_eq_getElem (by rw [hF]; omega), ← getElem!_pos _ (i * 2 + j) (by rw [hF]; omega), e1]
  have e2 := List.getElem?_eq_getElem (l := enc2 (dk[i]!).el) (i := j) (by show j < 2; exact hj2)
  rw [hu] at e2
  rw [getElem!_pos (enc2 (dk[i]!).el) j (by show j < 2; exact hj2), ← Option.some.inj e2]
end
section
open Go.RowKit
def valF (p : Prog) (x : Exe) (i : Nat) : Int := (valI (scene p).ds x.fr (scene p).ds.length i).getD 0
def rdK (f : Nat → Int) (ds : List Do) : Nat → List Int
 | 0 => []
 | k + 1 => rdK f ds k ++ match ds[k]? with | some d => if d.reads then [f k] else [] | none => []
def lsF (f : Nat → Int) (row : List Int) : Int := match row[row.length - 1]? with | some z => f z.toNat | none => 0
def seenF (p : Prog) (x : Exe) : Sn := ⟨rdK (valF p x) (scene p).ds (scene p).ds.length, x.od.map (lsF (valF p x))⟩
theorem rdK_le (f : Nat → Int) (ds : List Do) : ∀ k, (rdK f ds k).length ≤ k
 | 0 => by simp [rdK]
 | k + 1 => by
  have := rdK_le f ds k
  rw [rdK, List.length_append]
  have : (match ds[k]? with | some d => if d.reads then [f k] else [] | none => []).length ≤ 1 := by
   split
   ·split <;> simp
   ·simp
  omega
theorem rdK_yes {f : Nat → Int} {ds : List Do} {k : Nat} {d : Do} (hd : ds[k]? = some d) (hr : d.reads = true) : rdK f ds (k + 1) = rdK f ds k ++ [f k] := by rw [rdK, hd]; simp [hr]
theorem rdK_no {f : Nat → Int} {ds : List Do} {k : Nat} {d : Do} (hd : ds[k]? = some d) (hr : d.reads = false) : rdK f ds (k + 1) = rdK f ds k := by rw [rdK, hd]; simp [hr]
theorem val_some {p : Prog} {x : Exe} (h : execOk p x = true) {a : Nat} {d : Do} (hd : (scene p).ds[a]? = some d) (hu : d.uses = true) : valI (scene p).ds x.fr (scene p).ds.length a = some (valF p x a) := by
 simp only [execOk, okX, Bool.and_eq_true, List.all_eq_true] at h
 have := h.2.2 (d, a) (List.mem_of_getElem? (i := a) (by simp [hd]))
 simp only [endOk, hu, Bool.not_true, Bool.false_or] at this
 obtain ⟨v, hv⟩ := Option.isSome_iff_exists.1 this
 rw [valF, hv]; rfl
theorem od_at {p : Prog} {x : Exe} (h : execOk p x = true) {row : List Int} (hr : row ∈ x.od) {z : Int} (hz : z ∈ row) : ∃ (b : Nat) (d : Do), z = b ∧ (scene p).ds[b]? = some d ∧ d.uses = true := by
 simp only [execOk, okX, fits, Bool.and_eq_true, List.all_eq_true] at h
 obtain ⟨i, hi⟩ := List.getElem?_of_mem hr
 have := h.2.1.2 (row, i) (List.mem_of_getElem? (i := i) (by simp [hi]))
 rw [odOk, sorted_eq (writers_pw _ _) (writers_nodup _ _), Bool.and_eq_true, beq_iff_eq, List.all_eq_true] at this
 have hp := perm_of (writers_nodup (scene p).ds i) (fun y hy => List.contains_iff_mem.1 (this.2 y hy)) (Nat.le_of_eq this.1.symm)
 obtain ⟨b, d, k1, k2, k3, k4, _⟩ := mem_wrs (hp.mem_iff.2 hz)
 exact ⟨b, d, k2, k3, by simp [Do.uses, k4]⟩
theorem seen_fn (p : Prog) (x : Exe) (h : execOk p x = true) (hx : x.small) : Fp Tryz.prog 37 [(scene p).V, x.V] (seenF p x).V := by
 have hw := Way.of h
 have hpk := hw.ok
 have hel := events_le hpk
 have hsl : (scene p).ds.length = (events p).length := by simp [scene]
 have hod := hw.od
 have hf : fromOk (scene p).ds x.fr := fromOk_of (scene_len p) (by simp only [execOk, okX, Bool.and_eq_true] at h; exact h.2.1)
 have hval := fun a d hd hu => value_fn (scene p) x a (by omega) (scene_len p) hx.fr (scene_copy hpk) hf ⟨d, hd, hu⟩
 obtain ⟨f, hff⟩ : ∃ f, valF p x = f := ⟨_, rfl⟩
 have hval' : ∀ (a : Nat) (d : Do), (scene p).ds[a]? = some d → d.uses = true → Fp Tryz.prog 77 [(scene p).V, x.V, .int .i64 a] (.tuple [.int .i64 (f a), .bool true]) := by
  intro a d hd hu
  have := hval a d hd hu
  rw [val_some h hd hu, hff] at this
  exact this
 clear hval
 have hodr : ∀ row ∈ x.od, ∀ z ∈ row, ∃ (b : Nat) (d : Do), z = b ∧ (scene p).ds[b]? = some d ∧ d.uses = true := fun row hr z hz => od_at h hr hz
 have hrow := hx.row
 rw [seenF, hff, Sn.V_eq]
 rw [Sc.V_eq, Exe.V_eq] at hval'
 rw [Sc.V_eq, Exe.V_eq]
 generalize (scene p).p = pp at hval' ⊢
 generalize (scene p).es = es at hval' ⊢
 generalize (scene p).ds = ds at hval' hodr hsl ⊢
 refine Fc.start (S := [17]) Tryz.func37 Tryz.ntmps37 Tryz.results37 rfl (by decide) rfl (by kernel_rfl) ?_
 simp (disch := omega) only [push_cast, go_sem, zA, simprocAttr]
 intro g2 g3 g4 g5
 refine Sat.loop (σ := EvS) (fun y => upd (upd (upd (upd (upd (upd (upd noT 2 (.ptr 2 [] 0 0 g2 3)) 3 (.ptr 3 [] 0 0 g3 2)) 4 (.ptr 4 [] 0 0 g4 2)) 5 (.ptr 5 [] 0 0 g5 2)) 14 (.sl (ds.map Do.V))) 15 (.int .i64 ds.length)) 16 (.int .i64 y.k))
  (fun y => (((noM.set 2 (.own 55 (some g2) 1 [.agg [.sl (pp.map thrV), .sl (es.map Evt.V), .sl (ds.map Do.V)]])).set 3 (.own 61 (some g3) 1 [.agg [.sl (x.fr.map (V.int .i64)), .sl (x.od.map intsV)]])).set 4 (.own 34 (some g4) 1 [.agg [.own 0 none 0 [], .own 0 none 0 []]])).set 5 (.own 34 (some g5) 1 [.agg [.own y.e y.γ y.c ((rdK f ds y.k).map (V.int .i64)), .own 0 none 0 []]]))
  (fun y => y.k ≤ ds.length ∧ (y.γ = none ∨ y.e = 3)) (fun y => ds.length - y.k) ⟨0, 0, none, 0⟩ (by simp) ?_ ?_
 ·(refine zB ?_; repeat (first | exact zC | exact zD | refine zE (by decide) ?_ | refine zF ?_ ?_ | refine zG ?_ ?_)) <;> (try simp (disch := omega) only [push_cast, go_sem, zA, simprocAttr])
  all_goals rfl
 rintro ⟨k, e, γ, c⟩ ⟨hk, hγ⟩ J hJ
 simp only at hk hγ hJ
 have hγ' : (γ = none ∨ e = 3) = True := by simp only [hγ]
 have hrl := rdK_le f ds k
 refine Sat.of (S := [17]) (by kernel_rfl) ?_
 rcases Nat.lt_or_ge k ds.length with hlt | hge
 ·obtain ⟨d, hd⟩ : ∃ d, ds[k]? = some d := ⟨_, List.getElem?_eq_getElem hlt⟩
  have hre := reads_fn d
  rw [Do.V_eq] at hre
  simp (disch := omega) only [push_cast, go_sem, zA, simprocAttr, hd, hlt, Do.V_eq]
  intro g7
  refine callR.pure hre rfl rfl ?_
  cases hr : d.reads
  ·simp (disch := omega) only [push_cast, go_sem, zA, simprocAttr]
   refine hJ ⟨k + 1, e, γ, c⟩ _ _ ⟨by dsimp only; omega, hγ⟩ (by dsimp only; omega) ?_
   dsimp only
   rw [rdK_no hd hr]
   (refine zB ?_; repeat (first | exact zC | exact zD | refine zE (by decide) ?_ | refine zF ?_ ?_ | refine zG ?_ ?_)) <;> (try simp (disch := omega) only [push_cast, go_sem, zA, simprocAttr])
  ·simp (disch := omega) only [push_cast, go_sem, zA, simprocAttr]
   refine callR.pure (hval' k d hd (by simp [Do.uses, hr])) rfl rfl ?_
   simp (disch := omega) only [push_cast, go_sem, zA, simprocAttr, hγ']
   intro g33
   refine ⟨by omega, fun γ' c' _ => ?_⟩
   refine hJ ⟨k + 1, 3, γ', c'⟩ _ _ ⟨by dsimp only; omega, .inr rfl⟩ (by dsimp only; omega) ?_
   dsimp only
   rw [rdK_yes hd hr]
   (refine zB ?_; repeat (first | exact zC | exact zD | refine zE (by decide) ?_ | refine zF ?_ ?_ | refine zG ?_ ?_)) <;> (try simp (disch := omega) only [push_cast, go_sem, zA, simprocAttr])
   all_goals simp
 have : k = ds.length := by omega
 subst this
 simp (disch := omega) only [push_cast, go_sem, zA, simprocAttr]
 refine Sat.loop (σ := EvS) (fun y => upd (upd (upd (upd (upd (upd (upd noT 2 (.ptr 2 [] 0 0 g2 3)) 3 (.ptr 3 [] 0 0 g3 2)) 4 (.ptr 4 [] 0 0 g4 2)) 5 (.ptr 5 [] 0 0 g5 2)) 38 (.sl (x.od.map intsV))) 39 (.int .i64 x.od.length)) 40 (.int .i64 y.k))
  (fun y => (((noM.set 2 (.own 55 (some g2) 1 [.agg [.sl (pp.map thrV), .sl (es.map Evt.V), .sl (ds.map Do.V)]])).set 3 (.own 61 (some g3) 1 [.agg [.sl (x.fr.map (V.int .i64)), .sl (x.od.map intsV)]])).set 4 (.own 34 (some g4) 1 [.agg [.own 0 none 0 [], .own 0 none 0 []]])).set 5 (.own 34 (some g5) 1 [.agg [.own e γ c ((rdK f ds ds.length).map (V.int .i64)), .own y.e y.γ y.c (((x.od.take y.k).map (lsF f)).map (V.int .i64))]]))
  (fun y => y.k ≤ x.od.length ∧ (y.γ = none ∨ y.e = 3)) (fun y => x.od.length - y.k) ⟨0, 0, none, 0⟩ (by simp) ?_ ?_
 ·(refine zB ?_; repeat (first | exact zC | exact zD | refine zE (by decide) ?_ | refine zF ?_ ?_ | refine zG ?_ ?_)) <;> (try simp (disch := omega) only [push_cast, go_sem, zA, simprocAttr])
  all_goals rfl
 rintro ⟨k, e2, γ2, c2⟩ ⟨hk2, hγ2⟩ J2 hJ2
 simp only at hk2 hγ2 hJ2
 have hγ2' : (γ2 = none ∨ e2 = 3) = True := by simp only [hγ2]
 refine Sat.of (S := [17]) (by kernel_rfl) ?_
 rcases Nat.lt_or_ge k x.od.length with hlt | hge
 ·obtain ⟨row, hro⟩ : ∃ row, x.od[k]? = some row := ⟨_, List.getElem?_eq_getElem hlt⟩
  have htk := take_get hro
  have htl : ((x.od.take k).map (lsF f)).length = k := by rw [List.length_map, List.length_take]; omega
  have hrs := hrow row (List.mem_of_getElem? hro)
  by_cases h0 : (0 : Int) < row.length
  ·obtain ⟨m, hm⟩ : ∃ m, row.length = m + 1 := ⟨row.length - 1, by omega⟩
   obtain ⟨z, hz⟩ : ∃ z, row[m]? = some z := ⟨_, List.getElem?_eq_getElem (by omega)⟩
   obtain ⟨b, d, rfl, hbd, hbu⟩ := hodr row (List.mem_of_getElem? hro) z (List.mem_of_getElem? hz)
   have hls : lsF f row = f b := by rw [lsF, hm, Nat.add_sub_cancel, hz]; simp
   have hmm : m < m + 1 := by omega
   have hmi : (m : Int) < (m : Int) + 1 := by omega
   have h0' : (0 : Int) < (m : Int) + 1 := by omega
   simp (disch := omega) only [push_cast, go_sem, zA, simprocAttr, hlt, hro, intsV_eq, hm, h0']
   refine Sat.drawnE [] [] (List.range 13) (pureT [(77, .tuple [.int .i64 (f b), .bool true])]) (by kernel_rfl) (by kernel_rfl) ?_
   simp (disch := omega) only [push_cast, go_sem, zA, simprocAttr, hm, hz, hmm, hmi]
   refine runD_pure rfl (hval' b d hbd hbu) rfl rfl ?_ ?_
   ·rfl
   simp (disch := omega) only [push_cast, go_sem, zA, simprocAttr, hγ2', htl]
   intro g62
   refine ⟨by omega, fun γ' c' _ => ?_⟩
   refine hJ2 ⟨k + 1, 3, γ', c'⟩ _ _ ⟨by dsimp only; omega, .inr rfl⟩ (by dsimp only; omega) ?_
   dsimp only
   rw [htk, List.map_append, List.map_append]
   (refine zB ?_; repeat (first | exact zC | exact zD | refine zE (by decide) ?_ | refine zF ?_ ?_ | refine zG ?_ ?_)) <;> (try simp (disch := omega) only [push_cast, go_sem, zA, simprocAttr])
   all_goals simp [hls]
  ·have hls : lsF f row = 0 := by
    have : row = [] := List.eq_nil_of_length_eq_zero (by omega)
    subst this; rfl
   simp (disch := omega) only [push_cast, go_sem, zA, simprocAttr, hlt, hro, intsV_eq, h0, hγ2', htl]
   intro g62
   refine ⟨by omega, fun γ' c' _ => ?_⟩
   refine hJ2 ⟨k + 1, 3, γ', c'⟩ _ _ ⟨by dsimp only; omega, .inr rfl⟩ (by dsimp only; omega) ?_
   dsimp only
   rw [htk, List.map_append, List.map_append]
   (refine zB ?_; repeat (first | exact zC | exact zD | refine zE (by decide) ?_ | refine zF ?_ ?_ | refine zG ?_ ?_)) <;> (try simp (disch := omega) only [push_cast, go_sem, zA, simprocAttr])
   all_goals simp [hls]
 have : k = x.od.length := by omega
 subst this
 rw [List.take_length]
 simp (disch := omega) only [push_cast, go_sem, zA, simprocAttr]
 refine Sat.freezeC 5 [] 0 0 (n0 := .own 34 (some g5) 1 [.agg [.own e γ c ((rdK f ds ds.length).map (V.int .i64)), .own e2 γ2 c2 ((x.od.map (lsF f)).map (V.int .i64))]]) (d := .own e γ c ((rdK f ds ds.length).map (V.int .i64))) ?_ rfl rfl ?_
 ·rfl
 have e1 : (V.own e γ c ((rdK f ds ds.length).map (V.int .i64))).fz = .sl ((rdK f ds ds.length).map (V.int .i64)) := by simp only [V.fz, fzs_map, fzs_int]
 rw [e1]
 refine Sat.freezeC 5 [] 0 1 (n0 := .own 34 (some g5) 1 [.agg [.sl ((rdK f ds ds.length).map (V.int .i64)), .own e2 γ2 c2 ((x.od.map (lsF f)).map (V.int .i64))]]) (d := .own e2 γ2 c2 ((x.od.map (lsF f)).map (V.int .i64))) ?_ rfl rfl ?_
 ·rfl
 have e2 : (V.own e2 γ2 c2 ((x.od.map (lsF f)).map (V.int .i64))).fz = .sl ((x.od.map (lsF f)).map (V.int .i64)) := by simp only [V.fz, fzs_map, fzs_int]
 rw [e2]
 refine Sat.of (S := []) (by kernel_rfl) ?_
 simp (disch := omega) only [push_cast, go_sem, zA, simprocAttr]
end
section
open Go.RowKit
theorem fromsK_at {ds : List Do} : ∀ {k : Nat} {r : List Int}, k ≤ ds.length → r ∈ fromsK ds k → r.length = k
 | 0, r, _, h => by simp [fromsK] at h; subst h; rfl
 | k + 1, r, hk, h => by
  rw [fromsK, List.getElem?_eq_getElem (show k < ds.length by omega)] at h
  simp only [List.mem_flatMap, List.mem_map] at h
  obtain ⟨h0, h1, c, _, rfl⟩ := h
  have := fromsK_at (by omega) h1
  simp; omega
theorem fromsK_in {ds : List Do} : ∀ {k : Nat} {r : List Int}, k ≤ ds.length → r ∈ fromsK ds k → ∀ (i : Nat) d (z : Int), ds[i]? = some d → r[i]? = some z → z ∈ choicesOf ds d
 | 0, r, _, h, i, d, z, hd, hz => by simp [fromsK] at h; subst h; simp at hz
 | k + 1, r, hk, h, i, d, z, hd, hz => by
  have hdk : ds[k]? = some ds[k] := List.getElem?_eq_getElem (by omega)
  rw [fromsK, hdk] at h
  simp only [List.mem_flatMap, List.mem_map] at h
  obtain ⟨h0, h1, c, hc, rfl⟩ := h
  have hl := fromsK_at (by omega) h1
  rcases Nat.lt_or_ge i h0.length with hi | hi
  ·rw [List.getElem?_append_left hi] at hz
   exact fromsK_in (by omega) h1 i d z hd hz
  ·rw [List.getElem?_append_right hi] at hz
   have : i = k := by
    have := (List.getElem?_eq_some_iff.1 hz).1
    simp at this; omega
   subst this
   rw [hl, Nat.sub_self] at hz
   simp at hz; subst hz
   rw [hd] at hdk; cases hdk
   exact hc
theorem froms_step (ds : List Do) : ∀ k, k ≤ ds.length → (fromsK ds k).flatMap (compl ds (ds.length - k)) = compl ds ds.length []
 | 0, _ => by simp [fromsK]
 | k + 1, hk => by
  rw [← froms_step ds k (by omega)]
  have hdk : ds[k]? = some ds[k] := List.getElem?_eq_getElem (by omega)
  rw [fromsK, hdk]
  simp only [List.flatMap_assoc]
  rw [show ds.length - k = (ds.length - (k + 1)) + 1 by omega]
  rw [List.flatMap_def, List.flatMap_def]
  congr 1
  refine List.map_congr_left fun h hh => ?_
  have hl := fromsK_at (by omega) hh
  rw [compl, hl, hdk]
  simp only [List.flatMap_map]
theorem froms_eq (ds : List Do) : fromsOf ds = compl ds ds.length [] := by
 have := froms_step ds ds.length (Nat.le_refl _)
 rw [Nat.sub_self] at this
 rw [← this, fromsOf]
 have e : compl ds 0 = fun fr => [fr] := by funext fr; rfl
 rw [e]
 simp
theorem flat_filter {α β : Type} {p : α → Bool} {F : α → List β} : ∀ l : List α, (l.flatMap fun z => if p z then [] else F z) = (l.filter fun z => !p z).flatMap F
 | [] => rfl
 | a :: l => by
  rw [List.flatMap_cons, List.filter_cons, flat_filter l]
  cases h : p a <;> simp
theorem filter_erase : ∀ {l : List Int} {i : Nat} (h : i < l.length), l.Nodup → (l.filter fun z => !(z == l[i])) = l.eraseIdx i
 | a :: l, 0, _, hn => by
  rw [List.nodup_cons] at hn
  rw [List.getElem_cons_zero, List.filter_cons, List.eraseIdx_cons_zero]
  simp only [beq_self_eq_true, Bool.not_true, Bool.false_eq_true, if_false]
  rw [List.filter_eq_self]
  intro z hz
  have : z ≠ a := fun e => hn.1 (e ▸ hz)
  simpa using this
 | a :: l, i + 1, h, hn => by
  rw [List.nodup_cons] at hn
  rw [List.getElem_cons_succ, List.filter_cons, List.eraseIdx_cons_succ]
  have : a ≠ l[i]'(by simpa using h) := fun e => hn.1 (e ▸ List.getElem_mem _)
  have e : (!(a == l[i]'(by simpa using h))) = true := by simpa using this
  rw [e, if_pos rfl, filter_erase (by simpa using h) hn.2]
theorem range_getD (l : List Int) : l = (List.range l.length).map fun i => l.getD i 0 := by
 apply List.ext_getElem?
 intro i
 rw [List.getElem?_map]
 rcases Nat.lt_or_ge i l.length with h | h
 ·rw [List.getElem?_range h, List.getElem?_eq_getElem h]; simp [List.getD, h]
 ·rw [List.getElem?_eq_none h, List.getElem?_eq_none (by simpa using h)]; rfl
theorem rows_perms {l : List Int} (hn : l.Nodup) : ∀ (j : Nat) (h : List Int), (l.filter fun z => !h.contains z).length = j → rowsR l j h = (perms j (l.filter fun z => !h.contains z)).map (h ++ ·)
 | 0, h, _ => by simp [rowsR, perms]
 | j + 1, h, hl => by
  rw [rowsR, flat_filter]
  obtain ⟨rest, hr⟩ : ∃ rest, (l.filter fun z => !h.contains z) = rest := ⟨_, rfl⟩
  have hnr : rest.Nodup := by rw [← hr]; exact hn.filter _
  rw [hr] at hl ⊢
  rw [perms, List.map_flatMap]
  conv => lhs; rw [range_getD rest]
  rw [List.flatMap_map, List.flatMap_def, List.flatMap_def]
  congr 1
  refine List.map_congr_left fun i hi => ?_
  rw [List.mem_range] at hi
  have hg : rest.getD i 0 = rest[i] := by simp [List.getD, hi]
  have fe := filter_erase hi hnr
  obtain ⟨x, hx⟩ : ∃ x, rest[i] = x := ⟨_, rfl⟩
  rw [hx] at hg fe
  rw [hg]
  have he : (l.filter fun z => !(h ++ [x]).contains z) = rest.eraseIdx i := by
   rw [← fe, ← hr, List.filter_filter]
   refine List.filter_congr fun z hz => ?_
   rw [List.contains_append]
   have e : [x].contains z = (z == x) := by rw [Bool.eq_iff_iff]; simp
   rw [e]
   cases h.contains z <;> cases (z == x) <;> rfl
  have ih := rows_perms hn j (h ++ [x]) (by rw [he, List.length_eraseIdx_of_lt hi]; omega)
  rw [he] at ih
  rw [ih, List.map_map]
  refine List.map_congr_left fun r _ => by simp
theorem perms_rows {l : List Int} (hn : l.Nodup) : permsOf l = rowsR l l.length [] := by
 have e : (l.filter fun z => !([] : List Int).contains z) = l := by rw [List.filter_eq_self]; simp
 have := rows_perms hn l.length [] (by rw [e])
 rw [this, e, permsOf]
 simp
theorem orders_eq (ds : List Do) : ∀ k, ordersK ds k = ordersSK ds k
 | 0 => rfl
 | k + 1 => by rw [ordersK, ordersSK, orders_eq ds k, perms_rows (writers_nodup _ _)]
theorem perms_has : ∀ {n : Nat} {l row : List Int}, l.length = n → row ∈ perms n l → ∀ z ∈ l, z ∈ row
 | 0, l, row, hl, _, z, hz => by
  have : l = [] := List.eq_nil_of_length_eq_zero hl
  subst this; cases hz
 | n + 1, l, row, hl, h, z, hz => by
  simp only [perms, List.mem_flatMap, List.mem_range, List.mem_map] at h
  obtain ⟨i, hi, r, hr, rfl⟩ := h
  obtain ⟨j, hj⟩ := List.getElem?_of_mem hz
  by_cases hji : j = i
  ·subst hji
   have : l.getD j 0 = z := by simp [List.getD, hj]
   rw [this]; exact List.mem_cons_self
  ·refine List.mem_cons_of_mem _ (perms_has (by rw [List.length_eraseIdx_of_lt hi]; omega) hr z ?_)
   rw [List.mem_eraseIdx_iff_getElem?]
   exact ⟨j, hji, hj⟩
theorem odOk_of {ds : List Do} {k : Nat} {row : List Int} (h : row ∈ permsOf (writersOf ds k)) : odOk ds (row, k) = true := by
 rw [odOk, sorted_eq (writers_pw _ _) (writers_nodup _ _), Bool.and_eq_true, beq_iff_eq, List.all_eq_true]
 exact ⟨(perms_row rfl h).symm, fun z hz => List.contains_iff_mem.2 (perms_has rfl h z hz)⟩
theorem ordersK_at {ds : List Do} : ∀ {k : Nat} {r : List (List Int)}, r ∈ ordersK ds k → ∀ (i : Nat) row, r[i]? = some row → row ∈ permsOf (writersOf ds i)
 | 0, r, h, i, row, hr => by simp [ordersK] at h; subst h; simp at hr
 | k + 1, r, h, i, row, hr => by
  simp only [ordersK, List.mem_flatMap, List.mem_map] at h
  obtain ⟨h0, h1, c, hc, rfl⟩ := h
  have hl := ordersK_row h1
  rcases Nat.lt_or_ge i h0.length with hi | hi
  ·rw [List.getElem?_append_left hi] at hr
   exact ordersK_at h1 i row hr
  ·rw [List.getElem?_append_right hi] at hr
   have : i = k := by
    have := (List.getElem?_eq_some_iff.1 hr).1
    simp at this; omega
   subst this
   rw [hl, Nat.sub_self] at hr
   simp at hr; subst hr
   exact hc
theorem fits_of {p : Prog} {f : List Int} {o : List (List Int)} (hf : f ∈ fromsOf (scene p).ds) (ho : o ∈ ordersOf (scene p).ds) : fits (scene p) ⟨f, o⟩ = true := by
 have hsl : (scene p).ds.length = (events p).length := by simp [scene]
 have hes : (scene p).es = events p := rfl
 have hl := fromsK_at (Nat.le_refl _) hf
 have hol := ordersK_row ho
 simp only [fits, Bool.and_eq_true, decide_eq_true_eq, List.all_eq_true]
 refine ⟨⟨⟨by rw [hes]; omega, hol⟩, ?_⟩, ?_⟩
 ·rintro ⟨d, z⟩ hq
  obtain ⟨i, hi⟩ := List.getElem?_of_mem hq
  rw [List.getElem?_zip_eq_some] at hi
  have := fromsK_in (Nat.le_refl _) hf i d z hi.1 hi.2
  unfold choicesOf at this
  rw [frOk]
  cases hr : d.reads
  ·rw [hr] at this
   simpa using this
  ·rw [hr] at this
   simp only [if_true, List.mem_cons] at this
   simp only [if_true, Bool.or_eq_true, beq_iff_eq, List.contains_iff_mem]
   exact this
 ·rintro ⟨row, k⟩ hq
  obtain ⟨i, hi⟩ := List.getElem?_of_mem hq
  simp only [List.getElem?_zipIdx, Option.map_eq_some_iff, Prod.mk.injEq, Nat.zero_add] at hi
  obtain ⟨r', hr, rfl, rfl⟩ := hi
  exact odOk_of (ordersK_at ho i r' hr)
theorem one_eq {p : Prog} (hok : progOk p = true) {f : List Int} {o : List (List Int)} (hf : f ∈ fromsOf (scene p).ds) (ho : o ∈ ordersOf (scene p).ds) : oneOf (scene p) f o = oneS p f o := by
 have h1 := fits_of hf ho
 have h2 := ok_eq p ⟨f, o⟩
 rw [execOk, specOk, hok, Bool.true_and, Bool.true_and, ← fits_form hok, h1, Bool.true_and] at h2
 rw [oneOf, oneS, h2]
theorem flat_congr {α β : Type} {f g : α → List β} {l : List α} (h : ∀ a ∈ l, f a = g a) : l.flatMap f = l.flatMap g := by
 rw [List.flatMap_def, List.flatMap_def, List.map_congr_left h]
theorem all_eq (p : Prog) : execAll p = specAll p := by
 unfold execAll specAll
 cases hok : progOk p
 ·rfl
 rw [if_pos rfl, if_pos rfl]
 have hsl : (scene p).ds.length = (events p).length := by simp [scene]
 have e1 := froms_eq (scene p).ds
 rw [hsl] at e1
 have e2 := orders_eq (scene p).ds 3
 rw [allOf, allS, ← e1, ← e2]
 exact flat_congr fun f hf => flat_congr fun o ho => one_eq hok hf ho
end
section
open Go.RowKit
theorem fz_own0 : (V.own 0 none 0 []).fz = .sl [] := by simp only [V.fz, fzs_map, List.map_nil]
theorem rdK_small (p : Prog) (x : Exe) (h : execOk p x = true) : (seenF p x).small := by
 have hw := Way.of h
 have hel := events_le hw.ok
 have hsl : (scene p).ds.length = (events p).length := by simp [scene]
 have := rdK_le (valF p x) (scene p).ds (scene p).ds.length
 exact ⟨by rw [seenF]; dsimp only; omega, by rw [seenF]; dsimp only; rw [List.length_map, hw.od]; omega⟩
theorem all_ok {p : Prog} {x : Exe} (h : x ∈ execAll p) : execOk p x = true := (mem_execAll p x).1 h
end
section
open Go.RowKit
def grS2 (A : List Sn) (s : Sn) : Bool := A.any fun t => decide (0 < cmpS t s)
def insP : List Sn → Sn → List Sn
 | [], s => [s]
 | t :: L, s => if 0 < cmpS t s then s :: t :: L else t :: insP L s
def outK (A : List Sn) (s : Sn) : List Sn := if grS2 A s then insP A s else A
def putS (L : List Sn) (s : Sn) : List Sn := if L.contains s then L else insP L s
theorem ins_app {B : List Sn} {s : Sn} : ∀ {A : List Sn}, grS2 A s = true → insP (A ++ B) s = insP A s ++ B
 | [], h => by simp [grS2] at h
 | t :: A, h => by
  rw [List.cons_append, insP, insP]
  by_cases h1 : 0 < cmpS t s
  ·rw [if_pos h1, if_pos h1]; rfl
  ·rw [if_neg h1, if_neg h1, ins_app (by simpa [grS2, h1] using h)]; rfl
theorem ins_no {B : List Sn} {s : Sn} : ∀ {A : List Sn}, grS2 A s = false → insP (A ++ B) s = A ++ insP B s
 | [], _ => rfl
 | t :: A, h => by
  have h2 : ¬ 0 < cmpS t s ∧ grS2 A s = false := by simpa [grS2] using h
  rw [List.cons_append, insP, if_neg h2.1, ins_no h2.2]; rfl
theorem gr_app (A B : List Sn) (s : Sn) : grS2 (A ++ B) s = (grS2 A s || grS2 B s) := by simp [grS2]
theorem gr_one (t s : Sn) : grS2 [t] s = decide (0 < cmpS t s) := by simp [grS2]
theorem out_yes {A : List Sn} {t s : Sn} (h : grS2 A s = true) : outK (A ++ [t]) s = outK A s ++ [t] := by
 rw [outK, gr_app, h, Bool.true_or, if_pos rfl, ins_app h, outK, if_pos h]
theorem out_now {A : List Sn} {t s : Sn} (h : grS2 A s = false) (h1 : 0 < cmpS t s) : outK (A ++ [t]) s = outK A s ++ [s] ++ [t] := by
 rw [outK, gr_app, h, gr_one, Bool.false_or, if_pos (by simpa using h1), ins_no h, insP, if_pos h1, outK, h]; simp
theorem out_not {A : List Sn} {t s : Sn} (h : grS2 A s = false) (h1 : ¬ 0 < cmpS t s) : outK (A ++ [t]) s = outK A s ++ [t] := by
 have e : grS2 (A ++ [t]) s = false := by rw [gr_app, h, gr_one]; simpa using h1
 rw [outK, e, outK, h]; simp
theorem out_end {A : List Sn} {s : Sn} (h : grS2 A s = false) : outK A s ++ [s] = insP A s := by
 have := ins_no (B := []) h
 rw [List.append_nil] at this
 rw [this, outK, h]; simp [insP]
theorem ins_len (s : Sn) : ∀ A : List Sn, (insP A s).length = A.length + 1
 | [] => rfl
 | t :: A => by
  rw [insP]
  split
  ·rfl
  ·rw [List.length_cons, ins_len s A, List.length_cons]
theorem out_len (A : List Sn) (s : Sn) : (outK A s).length ≤ A.length + 1 := by
 rw [outK]
 split
 ·rw [ins_len]; omega
 ·omega
theorem put_len (L : List Sn) (s : Sn) : (putS L s).length ≤ L.length + 1 := by
 rw [putS]
 split
 ·omega
 ·rw [ins_len]; omega
@[push_cast] theorem fzs_sn (l : List Sn) : (l.map Sn.V).map V.fz = l.map Sn.V := by
 rw [List.map_map]
 refine List.map_congr_left fun d _ => ?_
 simp only [Function.comp, Sn.V, V.fz, fzs_map, List.map_cons, List.map_nil]
theorem l2Put_fn (L : List Sn) (s : Sn) (hL : L.length < 2 ^ 40) (hls : ∀ t ∈ L, t.small) (hs : s.small) : Fp Tryz.prog 86 [.sl (L.map Sn.V), s.V] (.sl ((putS L s).map Sn.V)) := by
 refine Fc.start (S := [15]) Tryz.func86 Tryz.ntmps86 Tryz.results86 rfl (by decide) rfl (by kernel_rfl) ?_
 simp (disch := omega) only [push_cast, go_sem, zA, simprocAttr, Sn.V_eq]
 intro g3 g9
 refine Sat.loop (σ := EvS) (fun x => upd (upd (upd (upd (upd noT 0 (.sl (L.map Sn.V))) 3 (.ptr 3 [] 0 0 g3 2)) 5 (.msl 5 [] x.γ (outK (L.take x.k) s).length x.c)) 6 (.bool (grS2 (L.take x.k) s))) 7 (.int .i64 x.k))
  (fun x => (noM.set 3 (.own 34 (some g3) 1 [.agg [.sl (s.rd.map (V.int .i64)), .sl (s.ls.map (V.int .i64))]])).set 5 (.own x.e x.γ x.c ((outK (L.take x.k) s).map Sn.V)))
  (fun x => x.k ≤ L.length ∧ (x.γ = none ∨ x.e = 34) ∧ s ∉ L.take x.k) (fun x => L.length - x.k) ⟨0, 34, some g9, 0⟩ (by simp) ?_ ?_
 ·(refine zB ?_; repeat (first | exact zC | exact zD | refine zE (by decide) ?_ | refine zF ?_ ?_ | refine zG ?_ ?_)) <;> (try simp (disch := omega) only [push_cast, go_sem, zA, simprocAttr])
  all_goals simp [outK, grS2]
 rintro ⟨k, e, γ, c⟩ ⟨hk, hγ, hno⟩ J hJ
 simp only at hk hγ hno hJ
 have hγ' : (γ = none ∨ e = 34) = True := by simp only [hγ]
 have hol := out_len (L.take k) s
 have htl : (L.take k).length = k := by rw [List.length_take]; omega
 obtain ⟨out, hout⟩ : ∃ out, outK (L.take k) s = out := ⟨_, rfl⟩
 rw [htl, hout] at hol
 rw [hout]
 refine Sat.of (S := [15]) (by kernel_rfl) ?_
 rcases Nat.lt_or_ge k L.length with hlt | hge
 ·obtain ⟨t, ht⟩ : ∃ t, L[k]? = some t := ⟨_, List.getElem?_eq_getElem hlt⟩
  have htk := take_get ht
  have hts := hls t (List.mem_of_getElem? ht)
  have hc := l2Seen_fn t s hts hs
  obtain ⟨v, hv⟩ : ∃ v, cmpS t s = v := ⟨_, rfl⟩
  rw [hv, Sn.V_eq, Sn.V_eq] at hc
  simp (disch := omega) only [push_cast, go_sem, zA, simprocAttr, hlt]
  refine Sat.drawnE [] [] (List.range 7) (pureT [(103, .int .i64 v)]) (by kernel_rfl) (by kernel_rfl) ?_
  simp (disch := omega) only [push_cast, go_sem, zA, simprocAttr, ht, hlt, Sn.V_eq]
  refine runD_pure rfl hc rfl rfl ?_ ?_
  ·rfl
  by_cases h0 : v = 0
  ·have h1 : (v == 0) = true := by simpa using h0
   simp (disch := omega) only [push_cast, go_sem, zA, simprocAttr, h1]
   have he : s = t := (cmpS_zero.1 (by rw [hv]; exact h0)).symm
   rw [putS, if_pos (by rw [he]; simpa using List.mem_of_getElem? ht)]
  have h1 : (v == 0) = false := by simpa using h0
  have hne : t ≠ s := fun h => h0 (by rw [← hv]; exact cmpS_zero.2 h)
  have hno' : s ∉ L.take (k + 1) := by
   rw [htk]; simp [hno]; exact fun h => hne h.symm
  cases hg : grS2 (L.take k) s
  ·by_cases h2 : 0 < v
   ·simp (disch := omega) only [push_cast, go_sem, zA, simprocAttr, h1, h2, hγ', ht, hlt, Sn.V_eq]
    intro g33
    refine ⟨by omega, fun γ1 c1 _ => ?_⟩
    intro g40
    refine ⟨by omega, fun γ2 c2 _ => ?_⟩
    refine hJ ⟨k + 1, 34, γ2, c2⟩ _ _ ⟨by dsimp only; omega, .inr rfl, hno'⟩ (by dsimp only; omega) ?_
    dsimp only
    rw [htk, out_now hg (by rw [hv]; exact h2), hout, gr_app, hg, gr_one, hv]
    (refine zB ?_; repeat (first | exact zC | exact zD | refine zE (by decide) ?_ | refine zF ?_ ?_ | refine zG ?_ ?_)) <;> (try simp (disch := omega) only [push_cast, go_sem, zA, simprocAttr])
    all_goals simp [h2, Sn.V]
   ·simp (disch := omega) only [push_cast, go_sem, zA, simprocAttr, h1, h2, hγ', ht, hlt, Sn.V_eq]
    intro g40
    refine ⟨by omega, fun γ2 c2 _ => ?_⟩
    refine hJ ⟨k + 1, 34, γ2, c2⟩ _ _ ⟨by dsimp only; omega, .inr rfl, hno'⟩ (by dsimp only; omega) ?_
    dsimp only
    rw [htk, out_not hg (by rw [hv]; exact h2), hout, gr_app, hg, gr_one, hv]
    (refine zB ?_; repeat (first | exact zC | exact zD | refine zE (by decide) ?_ | refine zF ?_ ?_ | refine zG ?_ ?_)) <;> (try simp (disch := omega) only [push_cast, go_sem, zA, simprocAttr])
    all_goals simp [h2, Sn.V]
  ·simp (disch := omega) only [push_cast, go_sem, zA, simprocAttr, h1, hγ', ht, hlt, Sn.V_eq]
   intro g40
   refine ⟨by omega, fun γ2 c2 _ => ?_⟩
   refine hJ ⟨k + 1, 34, γ2, c2⟩ _ _ ⟨by dsimp only; omega, .inr rfl, hno'⟩ (by dsimp only; omega) ?_
   dsimp only
   rw [htk, out_yes hg, hout, gr_app, hg]
   (refine zB ?_; repeat (first | exact zC | exact zD | refine zE (by decide) ?_ | refine zF ?_ ?_ | refine zG ?_ ?_)) <;> (try simp (disch := omega) only [push_cast, go_sem, zA, simprocAttr])
   all_goals simp [Sn.V]
 ·have : k = L.length := by omega
  subst this
  rw [List.take_length] at hno hout ⊢
  have hput : putS L s = insP L s := by rw [putS, if_neg (by simpa using hno)]
  rw [hput]
  cases hg : grS2 L s
  ·have he := out_end hg
   rw [hout] at he
   simp (disch := omega) only [push_cast, go_sem, zA, simprocAttr, hγ']
   intro g46
   refine ⟨by omega, fun γ2 c2 _ => ?_⟩
   refine Sat.freezeT (upd noT 5 (.sl ((insP L s).map Sn.V))) noM 5 (e := 34) (γ := γ2) (cap := c2) (es := (insP L s).map Sn.V) ?_ ?_ ?_
   ·rw [← he]; simp [Sn.V]; rfl
   ·have hil : (insP L s).length = out.length + 1 := by rw [← he]; simp
    (refine zB ?_; repeat (first | exact zC | exact zD | refine zE (by decide) ?_ | refine zF ?_ ?_ | refine zG ?_ ?_)) <;> (try simp (disch := omega) only [push_cast, go_sem, zA, simprocAttr])
    all_goals simp [hil]
   refine Sat.of (S := []) (by kernel_rfl) ?_
   simp (disch := omega) only [push_cast, go_sem, zA, simprocAttr]
  ·have he : out = insP L s := by rw [← hout, outK, hg]; rfl
   simp (disch := omega) only [push_cast, go_sem, zA, simprocAttr]
   refine Sat.freezeT (upd noT 5 (.sl ((insP L s).map Sn.V))) noM 5 (e := e) (γ := γ) (cap := c) (es := (insP L s).map Sn.V) ?_ ?_ ?_
   ·rw [← he]; rfl
   ·rw [he]; (refine zB ?_; repeat (first | exact zC | exact zD | refine zE (by decide) ?_ | refine zF ?_ ?_ | refine zG ?_ ?_)) <;> (try simp (disch := omega) only [push_cast, go_sem, zA, simprocAttr])
   refine Sat.of (S := []) (by kernel_rfl) ?_
   simp (disch := omega) only [push_cast, go_sem, zA, simprocAttr]
end
section
open Go.RowKit
def seenS (l : List Sn) : List Sn := Go.Lib.compact (sortSn l)
theorem seenS_le (l : List Sn) : (seenS l).length ≤ l.length := by
 have := compact_len (sortSn l)
 rw [sortSn_len] at this
 exact this
theorem compact_mem {l : List Sn} {s : Sn} (h : s ∈ Go.Lib.compact l) : s ∈ l := by
 unfold Go.Lib.compact Go.Lib.compactUpTo at h
 obtain ⟨j, hj, rfl⟩ := List.mem_map.1 h
 have hj' := List.mem_range.1 (List.mem_filter.1 hj).1
 simp [hj']
theorem seenS_mem {l : List Sn} {s : Sn} (h : s ∈ seenS l) : s ∈ l := (sortSn_perm l).mem_iff.1 (compact_mem h)
def cloneT : Table := fun f args _ => if f = 51 then match args with
  | [a] => some fun r m => r = a ∧ m = noM
  | _ => none
 else none
theorem clone_fp (zs : List Int) (hl : zs.length < 2 ^ 40) : Fp Tryz.prog 51 [.sl (zs.map (V.int .i64))] (.sl (zs.map (V.int .i64))) := by
 have := (clone_fn zs hl).frozen (by simp)
 rwa [fzs_int] at this
theorem seenSort_fn (l : List Sn) (hsm : ∀ s ∈ l, s.small) (hl : l.length < 2 ^ 40) : Fp Tryz.prog 17 [.sl (l.map Sn.V)] (.sl ((seenS l).map Sn.V)) := by
 have h1 := valuesS_fn l hsm
 have h2 := sortedS_fn l hsm hl
 have h3 := fun γ cap => compactS_fn (sortSn l) γ cap (fun s hs => hsm s ((sortSn_perm l).mem_iff.1 hs)) (by rw [sortSn_len]; exact hl)
 rw [sortSn_len, show Go.Lib.compact (sortSn l) = seenS l from rfl] at h3
 have hle := seenS_le l
 have hmem : ∀ s ∈ seenS l, s.small := fun s hs => hsm s (seenS_mem hs)
 generalize seenS l = L at *
 generalize sortSn l = S at *
 refine Fc.start (S := [3, 7]) Tryz.func17 Tryz.ntmps17 Tryz.results17 rfl (by decide) rfl (by kernel_rfl) ?_
 simp (disch := omega) only [push_cast, go_sem, zA, simprocAttr]
 refine callR.pure h1 rfl rfl ?_
 simp (disch := omega) only [push_cast, go_sem, zA, simprocAttr]
 refine callR.row h2 rfl rfl ?_
 intro γ1 cap1
 simp (disch := omega) only [push_cast, go_sem, zA, simprocAttr]
 refine callR.take (h3 γ1 cap1) rfl rfl rfl ?_
 simp (disch := omega) only [push_cast, go_sem, zA, simprocAttr]
 refine Sat.freezeT (upd (upd (upd (upd noT 3 (.msl 3 [] none 0 0)) 9 (.sl (L.map Sn.V))) 10 (.int .i64 L.length)) 11 (.int .i64 (0 : Nat))) (noM.set 3 (.own 0 none 0 [])) 9 (e := 34) (γ := γ1) (cap := cap1) (es := L.map Sn.V) rfl ?_ ?_
 ·(refine zB ?_; repeat (first | exact zC | exact zD | refine zE (by decide) ?_ | refine zF ?_ ?_ | refine zG ?_ ?_)) <;> (try simp (disch := omega) only [push_cast, go_sem, zA, simprocAttr])
  all_goals simp
 refine Sat.loop (σ := EvS) (fun x => upd (upd (upd (upd noT 9 (.sl (L.map Sn.V))) 10 (.int .i64 L.length)) 11 (.int .i64 x.k)) 3 (.msl 3 [] x.γ x.k x.c))
  (fun x => noM.set 3 (.own x.e x.γ x.c ((L.take x.k).map Sn.V)))
  (fun x => x.k ≤ L.length ∧ (x.γ = none ∨ x.e = 34)) (fun x => L.length - x.k) ⟨0, 0, none, 0⟩ (by simp) ?_ ?_
 ·(refine zB ?_; repeat (first | exact zC | exact zD | refine zE (by decide) ?_ | refine zF ?_ ?_ | refine zG ?_ ?_)) <;> (try simp (disch := omega) only [push_cast, go_sem, zA, simprocAttr])
  all_goals rfl
 rintro ⟨k, e, γ, c⟩ ⟨hk, hγ⟩ J hJ
 simp only at hk hγ hJ
 have hγ' : (γ = none ∨ e = 34) = True := by simp only [hγ]
 refine Sat.of (S := []) (by kernel_rfl) ?_
 rcases Nat.lt_or_ge k L.length with hlt | hge
 ·obtain ⟨x, hx⟩ : ∃ x, L[k]? = some x := ⟨_, List.getElem?_eq_getElem hlt⟩
  have hxs := hmem x (List.mem_of_getElem? hx)
  have hcA := clone_fp x.rd hxs.rd
  have hcB := clone_fp x.ls hxs.ls
  have htl : (L.take k).length = k := by rw [List.length_take]; omega
  simp (disch := omega) only [push_cast, go_sem, zA, simprocAttr, hx, hlt, Sn.V_eq]
  intro g5
  refine Sat.drawnE [] [] [0, 1, 2, 3, 4, 5, 6, 7] cloneT (by kernel_rfl) (by kernel_rfl) ?_
  simp (disch := omega) only [push_cast, go_sem, zA, simprocAttr]
  refine runD_pure rfl hcA rfl rfl ?_ ?_
  ·rfl
  simp (disch := omega) only [push_cast, go_sem, zA, simprocAttr]
  refine runD_pure rfl hcB rfl rfl ?_ ?_
  ·rfl
  simp (disch := omega) only [push_cast, go_sem, zA, simprocAttr, hγ']
  intro g6
  refine ⟨⟨htl, by omega⟩, fun γ' c' _ => ?_⟩
  refine hJ ⟨k + 1, 34, γ', c'⟩ _ _ ⟨by dsimp only; omega, .inr rfl⟩ (by dsimp only; omega) ?_
  (refine zB ?_; repeat (first | exact zC | exact zD | refine zE (by decide) ?_ | refine zF ?_ ?_ | refine zG ?_ ?_)) <;> (try simp (disch := omega) only [push_cast, go_sem, zA, simprocAttr])
  all_goals simp [take_get hx, Sn.V, htl]
 ·have : k = L.length := by omega
  subst this
  simp (disch := omega) only [push_cast, go_sem, zA, simprocAttr, List.take_length]
  refine Sat.freezeT (upd noT 3 (.sl (L.map Sn.V))) noM 3 (e := e) (γ := γ) (cap := c) (es := L.map Sn.V) rfl ?_ ?_
  ·(refine zB ?_; repeat (first | exact zC | exact zD | refine zE (by decide) ?_ | refine zF ?_ ?_ | refine zG ?_ ?_)) <;> (try simp (disch := omega) only [push_cast, go_sem, zA, simprocAttr])
  refine Sat.of (S := []) (by kernel_rfl) ?_
  simp (disch := omega) only [push_cast, go_sem, zA, simprocAttr]
end
section
open Go.RowKit
theorem valS_at {p : Prog} {x : Exe} (h : execOk p x = true) {a : Nat} {d : Do} (hd : (scene p).ds[a]? = some d) (hu : d.uses = true) : valS (events p) (scene p).ds x.fr (2 * (events p).length + 2) a = valF p x a := by
 have hw := Way.of h
 have hsl : (scene p).ds.length = (events p).length := by simp [scene]
 have hf : fromOk (scene p).ds x.fr := fromOk_of (scene_len p) (by simp only [execOk, okX, Bool.and_eq_true] at h; exact h.2.1)
 obtain ⟨h1, h2⟩ := val_eq hw.ok hf (2 * (events p).length + 2) a d hd hu
 have h3 := valI_up (val_some h hd hu) ((events p).length + 2)
 rw [hsl, show (events p).length + ((events p).length + 2) = 2 * (events p).length + 2 by omega] at h3
 rw [h1, h3]; rfl
theorem fr_lt {p : Prog} {x : Exe} (h : execOk p x = true) : ∀ f ∈ x.fr, f < (events p).length := by
 have hw := Way.of h
 have hsl : (scene p).ds.length = (events p).length := by simp [scene]
 intro f hf
 obtain ⟨i, hi⟩ := List.getElem?_of_mem hf
 have hil := (List.getElem?_eq_some_iff.1 hi).1
 rw [hw.fr] at hil
 have hd : (scene p).ds[i]? = some (scene p).ds[i] := List.getElem?_eq_getElem hil
 have := hw.from_ i _ f hd hi
 simp only [frOk] at this
 split at this
 ·rw [Bool.or_eq_true] at this
  rcases this with h1 | h1
  ·simp at h1; omega
  ·obtain ⟨b, d, k1, k2, k3, _⟩ := mem_wrs (List.contains_iff_mem.1 h1)
   have := (List.getElem?_eq_some_iff.1 k3).1
   omega
 ·simp at this; omega
theorem l12Seen_fn (p : Prog) (x : Exe) (h : execOk p x = true) (hx : x.small) : Fp Tryz.prog 87 [progV p, .sl ((events p).map Evt.V), x.V] (seenF p x).V := by
 have hw := Way.of h
 have hpk := hw.ok
 have hel := events_le hpk
 have hsl : (scene p).ds.length = (events p).length := by simp [scene]
 have hod := hw.od
 have hfl : x.fr.length = (events p).length := by rw [hw.fr, hsl]
 have hv := fun i hi => l12Val_fn p x hel hfl (fr_lt h) (2 * (events p).length + 2) i (by omega) hi
 have hm1 : valS (events p) (scene p).ds x.fr (2 * (events p).length + 2) (-1) = 0 := by simp [valS]
 have hva := fun a d hd hu => valS_at (a := a) (d := d) h hd hu
 have hodr : ∀ row ∈ x.od, ∀ z ∈ row, ∃ (b : Nat) (d : Do), z = b ∧ (scene p).ds[b]? = some d ∧ d.uses = true := fun row hr z hz => od_at h hr hz
 have hrow := hx.row
 obtain ⟨f, hff⟩ : ∃ f, valF p x = f := ⟨_, rfl⟩
 rw [hff] at hva
 rw [seenF, hff, Sn.V_eq, hsl]
 rw [Exe.V_eq] at hv ⊢
 rw [progV_eq] at hv
 obtain ⟨n, hnn⟩ : ∃ n, (events p).length = n := ⟨_, rfl⟩
 rw [hnn] at hel hsl hv hm1 hva ⊢
 have hev := fun (a : Nat) e (he : (events p)[a]? = some e) => l12Do_fn p e (evIn_of (List.mem_of_getElem? he))
 refine Fc.start (S := [14]) Tryz.func87 Tryz.ntmps87 Tryz.results87 rfl (by decide) rfl (by kernel_rfl) ?_
 simp (disch := omega) only [push_cast, go_sem, zA, simprocAttr, progV_eq]
 intro g3 g5 g6 g11 g7
 refine Sat.loop (σ := EvS) (fun y => upd (upd (upd (upd (upd (upd noT 1 (.sl ((events p).map Evt.V))) 3 (.ptr 3 [] 0 0 g3 1)) 5 (.ptr 5 [] 0 0 g5 2)) 6 (.ptr 6 [] 0 0 g6 2)) 7 (.ptr 7 [] 0 0 g7 2)) 8 (.int .i64 y.k))
  (fun y => (((noM.set 3 (.own 25 (some g3) 1 [.agg [.sl (p.map thrV)]])).set 5 (.own 61 (some g5) 1 [.agg [.sl (x.fr.map (V.int .i64)), .sl (x.od.map intsV)]])).set 6 (.own 34 (some g6) 1 [.agg [.own 0 none 0 [], .own 0 none 0 []]])).set 7 (.own 34 (some g7) 1 [.agg [.own y.e y.γ y.c ((rdK f (scene p).ds y.k).map (V.int .i64)), .own 0 none 0 []]]))
  (fun y => y.k ≤ n ∧ (y.γ = none ∨ y.e = 3)) (fun y => n - y.k) ⟨0, 3, some g11, 0⟩ (by simp) ?_ ?_
 ·(refine zB ?_; repeat (first | exact zC | exact zD | refine zE (by decide) ?_ | refine zF ?_ ?_ | refine zG ?_ ?_)) <;> (try simp (disch := omega) only [push_cast, go_sem, zA, simprocAttr])
  all_goals rfl
 rintro ⟨k, e, γ, c⟩ ⟨hk, hγ⟩ J hJ
 simp only at hk hγ hJ
 have hγ' : (γ = none ∨ e = 3) = True := by simp only [hγ]
 have hrl := rdK_le f (scene p).ds k
 refine Sat.of (S := [14]) (by kernel_rfl) ?_
 rcases Nat.lt_or_ge k n with hlt | hge
 ·obtain ⟨ev, he⟩ : ∃ d, (events p)[k]? = some d := ⟨_, List.getElem?_eq_getElem (by omega)⟩
  obtain ⟨d, hst⟩ : ∃ d, stepAt p ev = d := ⟨_, rfl⟩
  have hd := scene_get he
  have hdo := hev k ev he
  rw [hst] at hd hdo
  have hre := l1Reads_fn d
  rw [progV_eq, Evt.V_eq, Do.V_eq] at hdo
  rw [Do.V_eq] at hre
  have hkl : k < (events p).length := by omega
  simp (disch := omega) only [push_cast, go_sem, zA, simprocAttr, hnn, hlt]
  refine Sat.drawnE [] [] (List.range 7) (pureT [(130, .agg [.int .i64 d.k, .int .i64 d.p, .int .i64 d.v]), (44, .bool d.reads)]) (by kernel_rfl) (by kernel_rfl) ?_
  simp (disch := omega) only [push_cast, go_sem, zA, simprocAttr, hnn, hlt, he, hkl, Evt.V_eq]
  refine runD_pure rfl hdo rfl rfl ?_ ?_
  ·rfl
  simp (disch := omega) only [push_cast, go_sem, zA, simprocAttr]
  refine runD_pure rfl hre rfl rfl ?_ ?_
  ·rfl
  cases hr : d.reads
  ·simp (disch := omega) only [push_cast, go_sem, zA, simprocAttr]
   refine hJ ⟨k + 1, e, γ, c⟩ _ _ ⟨by dsimp only; omega, hγ⟩ (by dsimp only; omega) ?_
   dsimp only
   rw [rdK_no hd hr]
   (refine zB ?_; repeat (first | exact zC | exact zD | refine zE (by decide) ?_ | refine zF ?_ ?_ | refine zG ?_ ?_)) <;> (try simp (disch := omega) only [push_cast, go_sem, zA, simprocAttr])
  ·have hvk := hv k (by omega)
   rw [hva k d hd (by simp [Do.uses, hr])] at hvk
   simp (disch := omega) only [push_cast, go_sem, zA, simprocAttr]
   refine Sat.drawnE [(1, 11)] [] [0, 1, 2, 3, 4, 5, 6, 7, 8, 9, 10, 13] (pureT [(131, .int .i64 (f k))]) (by kernel_rfl) (by kernel_rfl) ?_
   simp (disch := omega) only [push_cast, go_sem, zA, simprocAttr, hnn]
   refine runD_pure rfl hvk rfl rfl ?_ ?_
   ·rfl
   simp (disch := omega) only [push_cast, go_sem, zA, simprocAttr, hγ']
   intro g37
   refine ⟨by omega, fun γ1 c1 _ => ?_⟩
   refine hJ ⟨k + 1, 3, γ1, c1⟩ _ _ ⟨by dsimp only; omega, .inr rfl⟩ (by dsimp only; omega) ?_
   dsimp only
   rw [rdK_yes hd hr]
   (refine zB ?_; repeat (first | exact zC | exact zD | refine zE (by decide) ?_ | refine zF ?_ ?_ | refine zG ?_ ?_)) <;> (try simp (disch := omega) only [push_cast, go_sem, zA, simprocAttr])
   all_goals simp
 have : k = n := by omega
 subst this
 simp (disch := omega) only [push_cast, go_sem, zA, simprocAttr, hnn]
 refine Sat.loop (σ := EvS) (fun y => upd (upd (upd (upd (upd (upd noT 1 (.sl ((events p).map Evt.V))) 3 (.ptr 3 [] 0 0 g3 1)) 5 (.ptr 5 [] 0 0 g5 2)) 6 (.ptr 6 [] 0 0 g6 2)) 7 (.ptr 7 [] 0 0 g7 2)) 9 (.int .i64 y.k))
  (fun y => (((noM.set 3 (.own 25 (some g3) 1 [.agg [.sl (p.map thrV)]])).set 5 (.own 61 (some g5) 1 [.agg [.sl (x.fr.map (V.int .i64)), .sl (x.od.map intsV)]])).set 6 (.own 34 (some g6) 1 [.agg [.own 0 none 0 [], .own 0 none 0 []]])).set 7 (.own 34 (some g7) 1 [.agg [.own e γ c ((rdK f (scene p).ds k).map (V.int .i64)), .own y.e y.γ y.c (((x.od.take y.k).map (lsF f)).map (V.int .i64))]]))
  (fun y => y.k ≤ 3 ∧ (y.γ = none ∨ y.e = 3)) (fun y => 3 - y.k) ⟨0, 0, none, 0⟩ (by simp) ?_ ?_
 ·(refine zB ?_; repeat (first | exact zC | exact zD | refine zE (by decide) ?_ | refine zF ?_ ?_ | refine zG ?_ ?_)) <;> (try simp (disch := omega) only [push_cast, go_sem, zA, simprocAttr])
  all_goals rfl
 rintro ⟨j, e2, γ2, c2⟩ ⟨hk2, hγ2⟩ J2 hJ2
 simp only at hk2 hγ2 hJ2
 have hγ2' : (γ2 = none ∨ e2 = 3) = True := by simp only [hγ2]
 refine Sat.of (S := [14]) (by kernel_rfl) ?_
 by_cases h3 : (j : Int) < 3
 ·have hlt : j < x.od.length := by omega
  have hl3 : j < 3 := by omega
  obtain ⟨row, hro⟩ : ∃ row, x.od[j]? = some row := ⟨_, List.getElem?_eq_getElem hlt⟩
  have htk := take_get hro
  have htl : ((x.od.take j).map (lsF f)).length = j := by rw [List.length_map, List.length_take]; omega
  have htl2 : (x.od.take j).length = j := by rw [List.length_take]; omega
  have hrs := hrow row (List.mem_of_getElem? hro)
  by_cases h0 : (0 : Int) < row.length
  ·obtain ⟨m, hm⟩ : ∃ m, row.length = m + 1 := ⟨row.length - 1, by omega⟩
   obtain ⟨z, hz⟩ : ∃ z, row[m]? = some z := ⟨_, List.getElem?_eq_getElem (by omega)⟩
   obtain ⟨b, d, rfl, hbd, hbu⟩ := hodr row (List.mem_of_getElem? hro) z (List.mem_of_getElem? hz)
   have hls : lsF f row = f b := by rw [lsF, hm, Nat.add_sub_cancel, hz]; simp
   have hmm : m < m + 1 := by omega
   have hmi : (m : Int) < (m : Int) + 1 := by omega
   have h0' : (0 : Int) < (m : Int) + 1 := by omega
   have hbl : b < k := by rw [← hsl]; exact (List.getElem?_eq_some_iff.1 hbd).1
   have hvb := hv b (by omega)
   rw [hva b d hbd hbu] at hvb
   simp (disch := omega) only [push_cast, go_sem, zA, simprocAttr, h3, hod, hl3, hro, intsV_eq, hm, h0']
   refine Sat.drawnE [] [] (List.range 15) (fun _ _ _ => none) (by kernel_rfl) (by kernel_rfl) ?_
   simp (disch := omega) only [push_cast, go_sem, zA, simprocAttr, hod, h3, hl3, hro, intsV_eq, hm, hz, hmm, hmi]
   refine Sat.drawnE [(1, 11)] [] [0, 1, 2, 3, 4, 5, 6, 7, 8, 9, 10, 13] (pureT [(131, .int .i64 (f b))]) (by kernel_rfl) (by kernel_rfl) ?_
   simp (disch := omega) only [push_cast, go_sem, zA, simprocAttr, hnn]
   refine runD_pure rfl hvb rfl rfl ?_ ?_
   ·rfl
   simp (disch := omega) only [push_cast, go_sem, zA, simprocAttr, hγ2', htl]
   intro g76
   refine ⟨by omega, fun γ1 c1 _ => ?_⟩
   refine hJ2 ⟨j + 1, 3, γ1, c1⟩ _ _ ⟨by dsimp only; omega, .inr rfl⟩ (by dsimp only; omega) ?_
   dsimp only
   rw [htk, List.map_append, List.map_append]
   (refine zB ?_; repeat (first | exact zC | exact zD | refine zE (by decide) ?_ | refine zF ?_ ?_ | refine zG ?_ ?_)) <;> (try simp (disch := omega) only [push_cast, go_sem, zA, simprocAttr])
   all_goals simp [hls]
  ·have hls : lsF f row = 0 := by
    have : row = [] := List.eq_nil_of_length_eq_zero (by omega)
    subst this; rfl
   have hvb := hv (-1) (by omega)
   rw [hm1] at hvb
   simp (disch := omega) only [push_cast, go_sem, zA, simprocAttr, h3, hod, hl3, hro, intsV_eq, h0]
   refine Sat.drawnE [(1, 11)] [] [0, 1, 2, 3, 4, 5, 6, 7, 8, 9, 10, 13] (pureT [(131, .int .i64 0)]) (by kernel_rfl) (by kernel_rfl) ?_
   simp (disch := omega) only [push_cast, go_sem, zA, simprocAttr, hnn]
   refine runD_pure rfl hvb rfl rfl ?_ ?_
   ·rfl
   simp (disch := omega) only [push_cast, go_sem, zA, simprocAttr, hγ2', htl]
   intro g76
   refine ⟨by omega, fun γ1 c1 _ => ?_⟩
   refine hJ2 ⟨j + 1, 3, γ1, c1⟩ _ _ ⟨by dsimp only; omega, .inr rfl⟩ (by dsimp only; omega) ?_
   dsimp only
   rw [htk, List.map_append, List.map_append]
   (refine zB ?_; repeat (first | exact zC | exact zD | refine zE (by decide) ?_ | refine zF ?_ ?_ | refine zG ?_ ?_)) <;> (try simp (disch := omega) only [push_cast, go_sem, zA, simprocAttr])
   all_goals simp [hls]
 have : j = 3 := by omega
 subst this
 have htt : x.od.take 3 = x.od := List.take_of_length_le (by omega)
 rw [htt]
 simp (disch := omega) only [push_cast, go_sem, zA, simprocAttr]
 refine Sat.freezeC 7 [] 0 0 (n0 := .own 34 (some g7) 1 [.agg [.own e γ c ((rdK f (scene p).ds k).map (V.int .i64)), .own e2 γ2 c2 ((x.od.map (lsF f)).map (V.int .i64))]]) (d := .own e γ c ((rdK f (scene p).ds k).map (V.int .i64))) ?_ rfl rfl ?_
 ·rfl
 have e1 : (V.own e γ c ((rdK f (scene p).ds k).map (V.int .i64))).fz = .sl ((rdK f (scene p).ds k).map (V.int .i64)) := by simp only [V.fz, fzs_map, fzs_int]
 rw [e1]
 refine Sat.freezeC 7 [] 0 1 (n0 := .own 34 (some g7) 1 [.agg [.sl ((rdK f (scene p).ds k).map (V.int .i64)), .own e2 γ2 c2 ((x.od.map (lsF f)).map (V.int .i64))]]) (d := .own e2 γ2 c2 ((x.od.map (lsF f)).map (V.int .i64))) ?_ rfl rfl ?_
 ·rfl
 have e2 : (V.own e2 γ2 c2 ((x.od.map (lsF f)).map (V.int .i64))).fz = .sl ((x.od.map (lsF f)).map (V.int .i64)) := by simp only [V.fz, fzs_map, fzs_int]
 rw [e2]
 refine Sat.of (S := []) (by kernel_rfl) ?_
 simp (disch := omega) only [push_cast, go_sem, zA, simprocAttr]
end
section
open Go.RowKit
def netL (R : Nat → Nat → Bool) (n : Nat) : List (List Bool) := (List.range n).map fun a => (List.range n).map (R a)
def boolsV (l : List Bool) : V := .sl (l.map V.bool)
theorem boolsV_eq (l : List Bool) : boolsV l = .sl (l.map V.bool) := rfl
def netE (L : List (List Bool)) : V := .eptr [.sl (L.map boolsV)]
theorem netE_eq (L : List (List Bool)) : netE L = .eptr [.sl (L.map boolsV)] := rfl
@[push_cast] theorem fzs_bl (l : List Bool) : (l.map V.bool).map V.fz = l.map V.bool := by rw [List.map_map]; exact List.map_congr_left fun d _ => rfl
@[push_cast] theorem flatL_bl (l : List Bool) : flatL (l.map V.bool) = true := by simp [flatL, V.cells, V.flatC]
@[push_cast] theorem fzs_bls (l : List (List Bool)) : (l.map boolsV).map V.fz = l.map boolsV := by rw [List.map_map]; exact List.map_congr_left fun d _ => rfl
theorem netL_len (R : Nat → Nat → Bool) (n : Nat) : (netL R n).length = n := by simp [netL]
theorem netL_get {R : Nat → Nat → Bool} {n a : Nat} (ha : a < n) : (netL R n)[a]? = some ((List.range n).map (R a)) := by
 rw [netL, List.getElem?_map, List.getElem?_range ha]; rfl
theorem netL_congr {R R' : Nat → Nat → Bool} {n : Nat} (h : ∀ a b, a < n → b < n → R a b = R' a b) : netL R n = netL R' n :=
 List.map_congr_left fun a ha => List.map_congr_left fun b hb => h a b (List.mem_range.1 ha) (List.mem_range.1 hb)
@[push_cast] theorem okY_bl (l : List Bool) : okY Tryz.prog 4 (l.map V.bool) = True := by
 simp only [okY, List.mem_map, eq_iff_iff, iff_true]
 rintro y ⟨d, _, rfl⟩
 exact ⟨by rw [szT_4]; rfl, by simp [V.cells, V.one]⟩
structure RowN where
 e : TypeId
 γ : Option Nat
 c : Nat
 l : List Bool
def RowN.V (x : RowN) : V := .own x.e x.γ x.c (x.l.map V.bool)
theorem RowN.V_eq (x : RowN) : x.V = .own x.e x.γ x.c (x.l.map V.bool) := rfl
theorem fz_rowN (x : RowN) : x.V.fz = boolsV x.l := by simp only [RowN.V, V.fz, fzs_map, fzs_bl, boolsV]
theorem fz_rowsN (xs : List RowN) : (xs.map RowN.V).map V.fz = (xs.map RowN.l).map boolsV := by
 rw [List.map_map, List.map_map]; exact List.map_congr_left fun d _ => fz_rowN d
def netO (g : Nat) (e : TypeId) (γ : Option Nat) (c : Nat) (xs : List RowN) : V := .own 150 (some g) 1 [.agg [.own e γ c (xs.map RowN.V)]]
theorem netO_eq (g : Nat) (e : TypeId) (γ : Option Nat) (c : Nat) (xs : List RowN) : netO g e γ c xs = .own 150 (some g) 1 [.agg [.own e γ c (xs.map RowN.V)]] := rfl
theorem ncopy_fn (L : List (List Bool)) (hn : L.length ≤ 62) (hr : ∀ l ∈ L, l.length ≤ 62) :
  Fc Tryz.prog 126 [netE L] noM (fun r m => ∃ ob, (∃ g e γ c xs, r = .ptr 100 [] 0 0 g 1 ∧ ob = netO g e γ c xs ∧ (γ = none ∨ e = 119) ∧ (∀ x ∈ xs, x.γ = none ∨ x.e = 4) ∧ xs.map RowN.l = L) ∧ m = noM.set 100 ob) := by
 refine Fc.rekeyP (R' := fun r m => ∃ g e γ c xs, r = .ptr 2 [] 0 0 g 1 ∧ m = noM.set 2 (netO g e γ c xs) ∧ (γ = none ∨ e = 119) ∧ (∀ x ∈ xs, x.γ = none ∨ x.e = 4) ∧ xs.map RowN.l = L) ?_ ?_
 rotate_left
 ·rintro r m ⟨g, e, γ, c, xs, rfl, rfl, h1, h2, h3⟩
  exact ⟨2, g, 1, _, rfl, rfl, _, ⟨g, e, γ, c, xs, rfl, rfl, h1, h2, h3⟩, era_set rfl⟩
 refine Fc.start (S := []) Tryz.func126 Tryz.ntmps126 Tryz.results126 rfl (by decide) rfl (by kernel_rfl) ?_
 simp (disch := omega) only [push_cast, go_sem, zA, simprocAttr, netE_eq]
 intro g3
 refine Sat.loop (σ := EvS × List RowN) (fun x => upd (upd (upd noT 0 (.eptr [.sl (L.map boolsV)])) 3 (.ptr 3 [] 0 0 g3 1)) 4 (.int .i64 x.1.k)) (fun x => noM.set 3 (.own 150 (some g3) 1 [.agg [.own x.1.e x.1.γ x.1.c (x.2.map RowN.V)]]))
  (fun x => x.1.k ≤ L.length ∧ (x.1.γ = none ∨ x.1.e = 119) ∧ (∀ y ∈ x.2, y.γ = none ∨ y.e = 4) ∧ x.2.map RowN.l = L.take x.1.k) (fun x => L.length - x.1.k) (⟨0, 0, none, 0⟩, []) (by simp) ?_ ?_
 ·(refine zB ?_; repeat (first | exact zC | exact zD | refine zE (by decide) ?_ | refine zF ?_ ?_ | refine zG ?_ ?_)) <;> (try simp (disch := omega) only [push_cast, go_sem, zA, simprocAttr])
 rintro ⟨⟨k, e, γ, c⟩, xs⟩ ⟨hk, hγ, hxe, hxs⟩ J hJ
 simp only at hk hγ hxe hxs hJ
 refine Sat.of (S := []) (by kernel_rfl) ?_
 rcases Nat.lt_or_ge k L.length with hlt | hge
 ·obtain ⟨row, hrow⟩ : ∃ row, L[k]? = some row := ⟨_, List.getElem?_eq_getElem hlt⟩
  have hrl := hr row (List.mem_of_getElem? hrow)
  have hγ' : (γ = none ∨ e = 119) = True := by simp only [hγ]
  have hxl : xs.length = k := by have := congrArg List.length hxs; rw [List.length_map, List.length_take, Nat.min_eq_left hk] at this; exact this
  simp (disch := omega) only [push_cast, go_sem, zA, simprocAttr, hlt]
  refine Sat.drawnE [(4, 5), (4, 9), (5, 9), (4, 12), (5, 12), (4, 13), (4, 14)] [] [] (fun _ _ _ => none) (by kernel_rfl) (by kernel_rfl) ?_
  simp (disch := omega) only [push_cast, go_sem, zA, simprocAttr, hrow, hlt, boolsV_eq, hγ']
  intro g21
  refine ⟨by omega, fun γ5 c5 _ => ?_⟩
  intro g30
  cases hfl : (V.own 4 γ5 c5 (row.map V.bool)).flatC <;> simp (disch := omega) only [push_cast, go_sem, zA, simprocAttr, hγ', hfl]
  all_goals
   refine ⟨by omega, fun γ6 c6 _ => ?_⟩
   refine hJ (⟨k + 1, 119, γ6, c6⟩, xs ++ [⟨4, γ5, c5, row⟩]) _ _ ⟨by dsimp only; omega, .inr rfl, ?_, ?_⟩ (by dsimp only; omega) ?_
   ·intro y hy
    rcases List.mem_append.1 hy with hy | hy
    ·exact hxe y hy
    ·obtain rfl := List.mem_singleton.1 hy; exact .inr rfl
   ·dsimp only
    rw [List.map_append, hxs, take_get hrow]
    rfl
   ·(refine zB ?_; repeat (first | exact zC | exact zD | refine zE (by decide) ?_ | refine zF ?_ ?_ | refine zG ?_ ?_)) <;> (try simp (disch := omega) only [push_cast, go_sem, zA, simprocAttr])
    all_goals simp [RowN.V]
 ·have : k = L.length := by omega
  subst this
  simp (disch := omega) only [push_cast, go_sem, zA, simprocAttr]
  refine ⟨_, ?_, g3, e, γ, c, xs, rfl, rfl, hγ, hxe, by rw [hxs, List.take_length]⟩
  ((repeat (first | exact Sub.no | refine Sub.set ?_ ?_)) <;> (try simp (disch := omega) only [push_cast, go_sem, zA, simprocAttr]))
  rw [netO_eq]
@[push_cast] theorem modBool (l : List Bool) (k : Nat) (z : Bool) : (l.map V.bool).modify k (fun x => x.setC 0 (V.bool z)) = (l.set k z).map V.bool := by
 apply List.ext_getElem?
 intro i
 rw [List.getElem?_modify, List.getElem?_map, List.getElem?_map, List.getElem?_set]
 by_cases h : k = i
 ·subst h
  cases hl : l[k]? with
  | none => have := List.getElem?_eq_none_iff.1 hl; simp; omega
  | some a => have := (List.getElem?_eq_some_iff.1 hl).1; simp [this, V.setC]
 ·simp [h]
@[push_cast] theorem modRow (xs : List RowN) (a : Nat) (e : TypeId) (γ : Option Nat) (c : Nat) (l : List Bool) :
  (xs.map RowN.V).modify a (fun x => x.setC 0 (V.own e γ c (l.map V.bool))) = (xs.set a ⟨e, γ, c, l⟩).map RowN.V := by
 apply List.ext_getElem?
 intro i
 rw [List.getElem?_modify, List.getElem?_map, List.getElem?_map, List.getElem?_set]
 by_cases h : a = i
 ·subst h
  cases hl : xs[a]? with
  | none => have := List.getElem?_eq_none_iff.1 hl; simp; omega
  | some y => have := (List.getElem?_eq_some_iff.1 hl).1; simp [this, V.setC, RowN.V]
 ·simp [h]
theorem netL_wi {R : Nat → Nat → Bool} {n a b : Nat} (ha : a < n) (hb : b < n) : (netL R n).modify a (fun l => l.set b true) = netL (wiR R a b) n := by
 apply List.ext_getElem?
 intro i
 rw [List.getElem?_modify]
 by_cases hi : i < n
 ·rw [netL_get hi, netL_get hi]
  by_cases h : a = i
  ·subst h
   simp only [if_true, Option.map_eq_map, Option.map_some, Option.some.injEq]
   apply List.ext_getElem?
   intro j
   rw [List.getElem?_set, List.getElem?_map, List.getElem?_map, List.length_map, List.length_range]
   by_cases hj : j < n
   ·rw [List.getElem?_range hj]
    by_cases h2 : b = j
    ·subst h2; simp [hj, wiR]
    ·have h3 : (j == b) = false := by simp; omega
     simp [h2, wiR, h3]
   ·have : (List.range n)[j]? = none := by simp; omega
    rw [this]
    by_cases h2 : b = j
    ·subst h2; simp [hj]
    ·simp [h2]
  ·have h' : (i == a) = false := by simp; omega
   simp [h, wiR, h']
 ·have e1 : (netL R n)[i]? = none := by rw [List.getElem?_eq_none_iff, netL_len]; omega
  have e2 : (netL (wiR R a b) n)[i]? = none := by rw [List.getElem?_eq_none_iff, netL_len]; omega
  rw [e1, e2]; split <;> rfl
theorem nwith_fn (R : Nat → Nat → Bool) (n a b : Nat) (hn : n ≤ 62) (ha : a < n) (hb : b < n) : Fp Tryz.prog 128 [netE (netL R n), .int .i64 a, .int .i64 b] (netE (netL (wiR R a b) n)) := by
 have hNl := netL_len R n
 have hcp := ncopy_fn (netL R n) (by rw [hNl]; exact hn) (fun l hl => by
  simp only [netL, List.mem_map] at hl
  obtain ⟨i, _, rfl⟩ := hl
  simp; exact hn)
 rw [netE_eq] at hcp
 refine Fc.start (S := [2, 3]) Tryz.func128 Tryz.ntmps128 Tryz.results128 rfl (by decide) rfl (by kernel_rfl) ?_
 simp (disch := omega) only [push_cast, go_sem, zA, simprocAttr, netE_eq]
 refine callR.new hcp rfl rfl ?_
 rintro r ob ⟨g, e, γ, c, xs, rfl, rfl, h1, h2, h3⟩
 simp (disch := omega) only [push_cast, go_sem, zA, simprocAttr, netO_eq]
 have hxl : xs.length = n := by have := congrArg List.length h3; rw [List.length_map, hNl] at this; exact this
 refine Sat.someP (o := 7) (q := [(0, 0)]) (e := e) (γ := γ) (cap := c) (es := xs.map RowN.V) rfl ?_ ?_
 ·intro h0
  have := congrArg List.length h0
  rw [List.length_map, hxl] at this; simp at this; omega
 rintro g1 rfl
 obtain rfl : e = 119 := h1.resolve_left nofun
 obtain ⟨⟨e1, γ1, c1, l1⟩, hrow⟩ : ∃ row, xs[a]? = some row := ⟨_, List.getElem?_eq_getElem (by omega)⟩
 have hl1 : l1 = (List.range n).map (R a) := by
  have := netL_get (R := R) ha
  rw [← h3, List.getElem?_map, hrow] at this
  simpa using this
 have hll : l1.length = n := by rw [hl1]; simp
 refine Sat.someP (o := 7) (q := [(0, 0), (a, 0)]) (e := e1) (γ := γ1) (cap := c1) (es := l1.map V.bool) ?_ ?_ ?_
 ·simp [Mem.getP, Mem.set, V.getP, V.cellAt, hrow, RowN.V, V.cells]
 ·intro h0
  have := congrArg List.length h0
  rw [List.length_map, hll] at this; simp at this; omega
 rintro g2 rfl
 obtain rfl : e1 = 4 := (h2 _ (List.mem_of_getElem? hrow)).resolve_left nofun
 obtain ⟨z, hz⟩ : ∃ z, l1[b]? = some z := ⟨_, List.getElem?_eq_getElem (by omega)⟩
 refine Sat.of (S := [3]) (by kernel_rfl) ?_
 simp (disch := omega) only [push_cast, go_sem, zA, simprocAttr, hrow, hxl, ha, RowN.V_eq, hll, hb, hz]
 have hfin : (xs.set a ⟨4, some g2, c1, l1.set b true⟩).map RowN.l = netL (wiR R a b) n := by
  rw [← netL_wi ha hb, ← h3]
  apply List.ext_getElem?
  intro i
  rw [List.getElem?_modify, List.getElem?_map, List.getElem?_map, List.getElem?_set]
  by_cases h : a = i
  ·subst h
   obtain ⟨k1, k2⟩ := List.getElem?_eq_some_iff.1 hrow
   simp [k1, k2]
  ·simp [h]
 refine Sat.fixP (o := 7) (g := g) (e := 150) (cap := 1) (es := [.agg [.own 119 (some g1) c ((xs.set a ⟨4, some g2, c1, l1.set b true⟩).map RowN.V)]]) (T := upd noT 7 (netE (netL (wiR R a b) n))) rfl ?_ ?_
 ·refine Fx.ptr Fx.nil rfl rfl (by kernel_rfl) ?_
  simp only [V.cells, List.drop_zero, List.map_cons, List.map_nil, V.fz, fzs_map, fz_rowsN, hfin]
 refine Sat.of (S := []) (by kernel_rfl) ?_
 simp (disch := omega) only [push_cast, go_sem, zA, simprocAttr, netE_eq]
end
section
open Go.RowKit
def goneL (L : Nat → Bool) (n : Nat) : List Bool := (List.range n).map fun b => !L b
theorem goneL_len (L : Nat → Bool) (n : Nat) : (goneL L n).length = n := by simp [goneL]
theorem goneL_get {L : Nat → Bool} {n a : Nat} (ha : a < n) : (goneL L n)[a]? = some (!L a) := by
 rw [goneL, List.getElem?_map, List.getElem?_range ha]; rfl
theorem goneL_zero (n : Nat) : goneL (fun x => decide (x < n)) n = List.replicate n false := by
 rw [goneL, List.eq_replicate_iff]
 refine ⟨by simp, fun b hb => ?_⟩
 simp only [List.mem_map, List.mem_range] at hb
 obtain ⟨i, hi, rfl⟩ := hb
 simp [hi]
theorem goneL_set {L : Nat → Bool} {n z : Nat} (hz : z < n) : (goneL L n).set z true = goneL (fun x => L x && !(x == z)) n := by
 apply List.ext_getElem?
 intro i
 rw [List.getElem?_set, goneL_len]
 by_cases hi : i < n
 ·rw [goneL_get hi, goneL_get hi]
  by_cases h : z = i
  ·subst h; simp [hi]
  ·have h2 : (i == z) = false := by simp; omega
   simp [h, h2]
 ·have e1 : (goneL L n)[i]? = none := by rw [List.getElem?_eq_none_iff, goneL_len]; omega
  have e2 : (goneL (fun x => L x && !(x == z)) n)[i]? = none := by rw [List.getElem?_eq_none_iff, goneL_len]; omega
  rw [e1, e2]
  by_cases h : z = i
  ·subst h; simp [hi]
  ·simp [h]
def frB (R : Nat → Nat → Bool) (L : Nat → Bool) (b a : Nat) : Bool := L b && (List.range a).all fun x => !L x || !R x b
theorem frB_succ (R : Nat → Nat → Bool) (L : Nat → Bool) (b a : Nat) : frB R L b (a + 1) = (frB R L b a && (!L a || !R a b)) := by
 simp [frB, List.range_succ, Bool.and_assoc]
theorem frB_no {R : Nat → Nat → Bool} {L : Nat → Bool} {n b : Nat} : ∀ {a : Nat}, frB R L b a = false → a ≤ n → freeE R n L b = false := by
 intro a h hle
 cases hf : freeE R n L b
 ·rfl
 ·rw [free_iff] at hf
  have : frB R L b a = true := by
   simp only [frB, Bool.and_eq_true, List.all_eq_true, List.mem_range, Bool.or_eq_true, Bool.not_eq_true']
   refine ⟨hf.1, fun x hx => ?_⟩
   cases hl : L x
   ·exact .inl rfl
   ·exact .inr (hf.2 x (by omega) hl)
  rw [this] at h; cases h
def optZ : Option Nat → Int
 | some z => z
 | none => -1
theorem holds_fn (R : Nat → Nat → Bool) (n : Nat) (hn : n ≤ 62) : Fp Tryz.prog 84 [netE (netL R n)] (.bool (lineE R n).isSome) := by
 have hNl := netL_len R n
 refine Fc.start (S := []) Tryz.func84 Tryz.ntmps84 Tryz.results84 rfl (by decide) rfl (by kernel_rfl) ?_
 simp (disch := omega) only [push_cast, go_sem, zA, simprocAttr, netE_eq, hNl]
 refine ⟨by omega, fun gr => ?_⟩
 refine Sat.loop (σ := Nat × (Nat → Bool)) (fun x => upd (upd (upd noT 0 (.eptr [.sl ((netL R n).map boolsV)])) 3 (.msl 3 [] (some gr) n n)) 4 (.int .i64 x.1)) (fun x => noM.set 3 (.own 4 (some gr) n ((goneL x.2 n).map V.bool)))
  (fun x => cntE n x.2 = x.1 ∧ x.1 ≤ n ∧ (lineE R n).isSome = (elimE R n x.1 x.2).isSome) (fun x => x.1) (n, fun x => decide (x < n)) ⟨cnt_all, Nat.le_refl _, rfl⟩ ?_ ?_
 ·(refine zB ?_; repeat (first | exact zC | exact zD | refine zE (by decide) ?_ | refine zF ?_ ?_ | refine zG ?_ ?_)) <;> (try simp (disch := omega) only [push_cast, go_sem, zA, simprocAttr])
  all_goals rw [goneL_zero]; simp
 rintro ⟨k, L⟩ ⟨hc, hk, hline⟩ J hJ
 simp only at hc hk hline hJ
 refine Sat.of (S := []) (by kernel_rfl) ?_
 cases k with
 | zero =>
  simp (disch := omega) only [push_cast, go_sem, zA, simprocAttr]
  rw [hline, elimE]; rfl
 | succ k =>
  rw [elimE] at hline
  have hg := goneL_len L n
  have hk0 : (0 : Int) < (k : Int) + 1 := by omega
  simp (disch := omega) only [push_cast, go_sem, zA, simprocAttr, hk0]
  refine Sat.loop (σ := Nat × Option Nat) (fun x => upd (upd (upd (upd (upd noT 0 (.eptr [.sl ((netL R n).map boolsV)])) 3 (.msl 3 [] (some gr) n n)) 4 (.int .i64 (k + 1 : Nat))) 5 (.int .i64 (optZ x.2))) 6 (.int .i64 x.1)) (fun x => noM.set 3 (.own 4 (some gr) n ((goneL L n).map V.bool)))
   (fun x => x.1 ≤ n ∧ (x.2 = none → ∀ j, j < x.1 → freeE R n L j = false) ∧ ∀ z, x.2 = some z → z < n ∧ pickE R n L = some z) (fun x => n - x.1) (0, none) ⟨by omega, fun _ j hj => absurd hj (Nat.not_lt_zero j), fun z hz => by cases hz⟩ ?_ ?_
  ·(refine zB ?_; repeat (first | exact zC | exact zD | refine zE (by decide) ?_ | refine zF ?_ ?_ | refine zG ?_ ?_)) <;> (try simp (disch := omega) only [push_cast, go_sem, zA, simprocAttr])
   all_goals rfl
  rintro ⟨b, o⟩ ⟨hb, hno, hso⟩ J2 hJ2
  simp only at hb hno hso hJ2
  refine Sat.of (S := []) (by kernel_rfl) ?_
  cases o with
  | some z =>
   obtain ⟨hz, hpk⟩ := hso z rfl
   rw [hpk] at hline
   have hz0 : ¬ ((z : Int) < 0) := by omega
   have hset := goneL_set (L := L) hz
   have hcr := cnt_rem (L := L) (free_iff.1 (pick_some hpk).2).1 hz
   have hgz := goneL_get (L := L) hz
   have e1 : optZ (some z) = (z : Int) := rfl
   by_cases hbn : b < n
   all_goals
    simp (disch := omega) only [push_cast, go_sem, zA, simprocAttr, e1, hz0, hbn, hNl, hg, hz, hgz]
    refine hJ (k, fun x => L x && !(x == z)) _ _ ⟨by dsimp only; omega, by dsimp only; omega, ?_⟩ (by dsimp only; omega) ?_
    ·dsimp only
     rw [hline]
     show (Option.map (z :: ·) (elimE R n k fun x => L x && !(x == z))).isSome = _
     rw [Option.isSome_map]
    ·dsimp only
     rw [← hset]
     (refine zB ?_; repeat (first | exact zC | exact zD | refine zE (by decide) ?_ | refine zF ?_ ?_ | refine zG ?_ ?_)) <;> (try simp (disch := omega) only [push_cast, go_sem, zA, simprocAttr])
  | none =>
   have hno' := hno rfl
   have e1 : optZ none = -1 := rfl
   rcases Nat.lt_or_ge b n with hbn | hbn
   ·have hgb := goneL_get (L := L) hbn
    simp (disch := omega) only [push_cast, go_sem, zA, simprocAttr, e1, hbn, hNl, hg, hgb]
    refine Sat.loop (σ := Nat × Bool) (fun x => upd (upd (upd (upd (upd (upd (upd noT 0 (.eptr [.sl ((netL R n).map boolsV)])) 3 (.msl 3 [] (some gr) n n)) 4 (.int .i64 (k + 1 : Nat))) 5 (.int .i64 (-1))) 6 (.int .i64 b)) 7 (.bool x.2)) 8 (.int .i64 x.1)) (fun x => noM.set 3 (.own 4 (some gr) n ((goneL L n).map V.bool)))
     (fun x => x.1 ≤ n ∧ x.2 = frB R L b x.1) (fun x => n - x.1) (0, L b) ⟨by dsimp only; omega, by simp [frB]⟩ ?_ ?_
    ·(refine zB ?_; repeat (first | exact zC | exact zD | refine zE (by decide) ?_ | refine zF ?_ ?_ | refine zG ?_ ?_)) <;> (try simp (disch := omega) only [push_cast, go_sem, zA, simprocAttr])
     all_goals first | rfl | simp
    rintro ⟨a, fr⟩ ⟨ha, hfr⟩ J3 hJ3
    simp only at ha hfr hJ3
    refine Sat.of (S := []) (by kernel_rfl) ?_
    cases fr with
    | false =>
     have hff := frB_no (n := n) hfr.symm ha
     by_cases han : a < n
     all_goals
      simp (disch := omega) only [push_cast, go_sem, zA, simprocAttr, han, hNl]
      refine hJ2 (b + 1, none) _ _ ⟨by dsimp only; omega, fun _ j hj => ?_, fun z hz => by cases hz⟩ (by dsimp only; omega) ?_
      ·rcases Nat.lt_or_ge j b with h | h
       ·exact hno' j h
       ·have : j = b := by dsimp only at hj; omega
        rw [this]; exact hff
      ·(refine zB ?_; repeat (first | exact zC | exact zD | refine zE (by decide) ?_ | refine zF ?_ ?_ | refine zG ?_ ?_)) <;> (try simp (disch := omega) only [push_cast, go_sem, zA, simprocAttr])
       all_goals rfl
    | true =>
     rcases Nat.lt_or_ge a n with han | han
     ·have hga := goneL_get (L := L) han
      have hna := netL_get (R := R) han
      have hnb : (List.range n)[b]? = some b := List.getElem?_range hbn
      cases hL : L a
      ·rw [hL] at hga
       simp (disch := omega) only [push_cast, go_sem, zA, simprocAttr, han, hNl, hg, hga]
       refine hJ3 (a + 1, true) _ _ ⟨by dsimp only; omega, by dsimp only; rw [frB_succ, ← hfr, hL]; rfl⟩ (by dsimp only; omega) ?_
       (refine zB ?_; repeat (first | exact zC | exact zD | refine zE (by decide) ?_ | refine zF ?_ ?_ | refine zG ?_ ?_)) <;> (try simp (disch := omega) only [push_cast, go_sem, zA, simprocAttr])
      ·rw [hL] at hga
       simp (disch := omega) only [push_cast, go_sem, zA, simprocAttr, han, hNl, hg, hga, hna, boolsV_eq, hnb, hbn, List.length_range]
       refine hJ3 (a + 1, !R a b) _ _ ⟨by dsimp only; omega, by dsimp only; rw [frB_succ, ← hfr, hL]; simp⟩ (by dsimp only; omega) ?_
       (refine zB ?_; repeat (first | exact zC | exact zD | refine zE (by decide) ?_ | refine zF ?_ ?_ | refine zG ?_ ?_)) <;> (try simp (disch := omega) only [push_cast, go_sem, zA, simprocAttr])
     ·have : a = n := by omega
      subst this
      have hfe : freeE R a L b = true := hfr.symm
      simp (disch := omega) only [push_cast, go_sem, zA, simprocAttr, hNl]
      refine hJ2 (b + 1, some b) _ _ ⟨by dsimp only; omega, nofun, fun z hz => ?_⟩ (by dsimp only; omega) ?_
      ·cases hz
       exact ⟨hbn, find_some hbn hfe hno'⟩
      ·(refine zB ?_; repeat (first | exact zC | exact zD | refine zE (by decide) ?_ | refine zF ?_ ?_ | refine zG ?_ ?_)) <;> (try simp (disch := omega) only [push_cast, go_sem, zA, simprocAttr])
       all_goals rfl
   ·have : b = n := by omega
    subst this
    have hpk : pickE R b L = none := find_none hno'
    rw [hpk] at hline
    simp (disch := omega) only [push_cast, go_sem, zA, simprocAttr, e1, hNl]
    rw [hline]; rfl
end
section
open Go.RowKit
section
variable (p : Prog) (x : Exe) (g : Nat) (c2 c3 c4 c5 : V) (a b : Nat)
theorem oloose_fn (hn : (events p).length ≤ 42) (ha : a < (events p).length) (hb : b < (events p).length) : Fo Tryz.prog 145 [.int .i64 a, .int .i64 b] g 6 (ordV p g c2 c3 c4 c5) (.bool (looseS p a b)) := by
 have h1 := odo_fn p g c2 c3 c4 c5 a ha
 have h2 := odo_fn p g c2 c3 c4 c5 b hb
 have h3 := oown_fn p g c2 c3 c4 c5 a b ha hb
 have h4 := oinside_fn p g c2 c3 c4 c5 a b hn ha hb
 have h5 := l12Source_fn p b hn hb
 have w1 := owall_fn (dsA p a)
 have w2 := owall_fn (dsA p b)
 rw [ordV_eq] at h1 h2 h3 h4
 rw [progV_eq] at h5
 rw [Do.V_eq] at w1 w2
 refine Fc.start (S := []) Tryz.func145 Tryz.ntmps145 Tryz.results145 rfl (by decide) rfl (by kernel_rfl) ?_
 simp (disch := omega) only [push_cast, go_sem, zA, simprocAttr, ordV_eq]
 refine callR.look h3 rfl rfl rfl ?_
 cases ho : ownB (events p) a b
 ·simp (disch := omega) only [push_cast, go_sem, zA, simprocAttr]
  refine ⟨_, Sub.rfl, ?_, rfl⟩
  simp [looseS, ho]
 simp (disch := omega) only [push_cast, go_sem, zA, simprocAttr]
 refine callR.look h1 rfl rfl rfl ?_
 simp (disch := omega) only [push_cast, go_sem, zA, simprocAttr, Do.V_eq]
 intro g7
 refine callR.look h2 rfl rfl rfl ?_
 simp (disch := omega) only [push_cast, go_sem, zA, simprocAttr, Do.V_eq]
 intro g8
 refine callR.pure w1 rfl rfl ?_
 have hl : looseS p a b = (wallB (dsA p a) || wallB (dsA p b) || (dsA p a).k == 5 || (dsA p b).k == 6 || insS p a b || ((dsA p b).k == 3 && srcOf (events p) (scene p).ds b b == (a : Int))) := by rw [looseS, ho, Bool.true_and]
 rw [hl]
 cases hw1 : wallB (dsA p a)
 rotate_left
 ·simp (disch := omega) only [push_cast, go_sem, zA, simprocAttr]
  refine ⟨_, ?_, rfl⟩
  ((repeat (first | exact Sub.no | refine Sub.set ?_ ?_)) <;> (try simp (disch := omega) only [push_cast, go_sem, zA, simprocAttr]))
 simp (disch := omega) only [push_cast, go_sem, zA, simprocAttr]
 refine callR.pure w2 rfl rfl ?_
 cases hw2 : wallB (dsA p b)
 rotate_left
 ·simp (disch := omega) only [push_cast, go_sem, zA, simprocAttr]
  refine ⟨_, ?_, rfl⟩
  ((repeat (first | exact Sub.no | refine Sub.set ?_ ?_)) <;> (try simp (disch := omega) only [push_cast, go_sem, zA, simprocAttr]))
 cases h5a : ((dsA p a).k == 5)
 rotate_left
 ·simp (disch := omega) only [push_cast, go_sem, zA, simprocAttr, h5a]
  refine ⟨_, ?_, rfl⟩
  ((repeat (first | exact Sub.no | refine Sub.set ?_ ?_)) <;> (try simp (disch := omega) only [push_cast, go_sem, zA, simprocAttr]))
 cases h6 : ((dsA p b).k == 6)
 rotate_left
 ·simp (disch := omega) only [push_cast, go_sem, zA, simprocAttr, h5a, h6]
  refine ⟨_, ?_, rfl⟩
  ((repeat (first | exact Sub.no | refine Sub.set ?_ ?_)) <;> (try simp (disch := omega) only [push_cast, go_sem, zA, simprocAttr]))
 simp (disch := omega) only [push_cast, go_sem, zA, simprocAttr, h5a, h6]
 refine callR.look h4 rfl rfl rfl ?_
 cases hin : insS p a b
 rotate_left
 ·simp (disch := omega) only [push_cast, go_sem, zA, simprocAttr]
  refine ⟨_, ?_, rfl⟩
  ((repeat (first | exact Sub.no | refine Sub.set ?_ ?_)) <;> (try simp (disch := omega) only [push_cast, go_sem, zA, simprocAttr]))
 simp (disch := omega) only [push_cast, go_sem, zA, simprocAttr]
 refine Sat.drawnE [] [] (List.range 18) (pureT [(149, .int .i64 (srcOf (events p) (scene p).ds b b))]) (by kernel_rfl) (by kernel_rfl) ?_
 cases h3 : ((dsA p b).k == 3)
 ·simp (disch := omega) only [push_cast, go_sem, zA, simprocAttr, h3]
  refine ⟨_, ?_, rfl⟩
  ((repeat (first | exact Sub.no | refine Sub.set ?_ ?_)) <;> (try simp (disch := omega) only [push_cast, go_sem, zA, simprocAttr]))
 ·simp (disch := omega) only [push_cast, go_sem, zA, simprocAttr, h3]
  refine runD_pure rfl h5 rfl rfl ?_ ?_
  ·rfl
  simp (disch := omega) only [push_cast, go_sem, zA, simprocAttr]
  refine ⟨_, ?_, rfl⟩
  ((repeat (first | exact Sub.no | refine Sub.set ?_ ?_)) <;> (try simp (disch := omega) only [push_cast, go_sem, zA, simprocAttr]))
theorem ostays_fn (hn : (events p).length ≤ 42) (kind : Int) (ha : a < (events p).length) (hb : b < (events p).length) : Fo Tryz.prog 124 [.int .i64 kind, .int .i64 a, .int .i64 b] g 6 (ordV p g (rdsV p) (wrtV p) c4 c5) (.bool (staysS p kind a b)) := by
 obtain ⟨ea, hea⟩ : ∃ e, (events p)[a]? = some e := ⟨_, List.getElem?_eq_getElem ha⟩
 obtain ⟨eb, heb⟩ : ∃ e, (events p)[b]? = some e := ⟨_, List.getElem?_eq_getElem hb⟩
 have hsl : (scene p).ds.length = (events p).length := by simp [scene]
 have hda : (scene p).ds[a]? = some (dsA p a) := by rw [dsA, scene_get hea]; rfl
 have hdb : (scene p).ds[b]? = some (dsA p b) := by rw [dsA, scene_get heb]; rfl
 have h1 := oown_fn p g (rdsV p) (wrtV p) c4 c5 a b ha hb
 have h2 := oloose_fn p g (rdsV p) (wrtV p) c4 c5 a b hn ha hb
 have h3 := osame_fn p g c4 c5 a b ha hb
 rw [ordV_eq, rdsV_eq, wrtV_eq] at h1 h2 h3
 unfold staysS
 refine Fc.start (S := []) Tryz.func124 Tryz.ntmps124 Tryz.results124 rfl (by decide) rfl (by kernel_rfl) ?_
 cases k1 : (kind == 1)
 rotate_left
 ·simp (disch := omega) only [push_cast, go_sem, zA, simprocAttr, ordV_eq, rdsV_eq, wrtV_eq, k1]
  refine callR.look h1 rfl rfl rfl ?_
  simp (disch := omega) only [push_cast, go_sem, zA, simprocAttr]
  first | exact ⟨_, Sub.rfl, rfl, rfl⟩ | exact ⟨_, Sub.rfl, rfl⟩
 cases k2 : (kind == 2)
 rotate_left
 ·simp (disch := omega) only [push_cast, go_sem, zA, simprocAttr, ordV_eq, rdsV_eq, wrtV_eq, k1, k2]
  refine callR.look h1 rfl rfl rfl ?_
  cases ho : ownB (events p) a b
  ·simp (disch := omega) only [push_cast, go_sem, zA, simprocAttr]
   first | exact ⟨_, Sub.rfl, rfl, rfl⟩ | exact ⟨_, Sub.rfl, rfl⟩
  cases hw : (dsA p a).writes <;> cases hr : (dsA p b).reads
  all_goals
   simp (disch := omega) only [push_cast, go_sem, zA, simprocAttr, hda, hdb, hsl, ha, hb, hw, hr]
   first | exact ⟨_, Sub.rfl, rfl, rfl⟩ | exact ⟨_, Sub.rfl, rfl⟩
 cases k3 : (kind == 3)
 rotate_left
 ·simp (disch := omega) only [push_cast, go_sem, zA, simprocAttr, ordV_eq, rdsV_eq, wrtV_eq, k1, k2, k3]
  refine callR.look h2 rfl rfl rfl ?_
  simp (disch := omega) only [push_cast, go_sem, zA, simprocAttr]
  first | exact ⟨_, Sub.rfl, rfl, rfl⟩ | exact ⟨_, Sub.rfl, rfl⟩
 simp (disch := omega) only [push_cast, go_sem, zA, simprocAttr, ordV_eq, rdsV_eq, wrtV_eq, k1, k2, k3]
 refine callR.look h1 rfl rfl rfl ?_
 cases ho : ownB (events p) a b
 ·simp (disch := omega) only [push_cast, go_sem, zA, simprocAttr]
  first | exact ⟨_, Sub.rfl, rfl, rfl⟩ | exact ⟨_, Sub.rfl, rfl⟩
 simp (disch := omega) only [push_cast, go_sem, zA, simprocAttr]
 refine callR.look h3 rfl rfl rfl ?_
 simp (disch := omega) only [push_cast, go_sem, zA, simprocAttr]
 first | exact ⟨_, Sub.rfl, rfl, rfl⟩ | exact ⟨_, Sub.rfl, rfl⟩
end
end
section
open Go.RowKit
section
variable (p : Prog) (x : Exe) (g : Nat) (a b : Nat)
theorem otold_fn (hx : x.fr.length = (events p).length) (hc : ∀ (i : Nat), i < (events p).length → 0 ≤ (dsA p i).p) (kind : Int) (ha : a < (events p).length) (hb : b < (events p).length) :
  Fo Tryz.prog 127 [.int .i64 kind, .int .i64 a, .int .i64 b] g 6 (ordV p g (rdsV p) (wrtV p) (.sl (x.fr.map (V.int .i64))) (.sl (((List.range (events p).length).map (rankS p x)).map (V.int .i64)))) (.bool (toldS p x kind a b)) := by
 obtain ⟨ea, hea⟩ : ∃ e, (events p)[a]? = some e := ⟨_, List.getElem?_eq_getElem ha⟩
 obtain ⟨eb, heb⟩ : ∃ e, (events p)[b]? = some e := ⟨_, List.getElem?_eq_getElem hb⟩
 have h1 := oread_fn p x g (.sl (((List.range (events p).length).map (rankS p x)).map (V.int .i64))) a b hx ha hb
 have h2 := oover_fn p x g (.sl (x.fr.map (V.int .i64))) a b hc ha hb
 rw [ordV_eq, rdsV_eq, wrtV_eq] at h1 h2
 obtain ⟨ap, hap⟩ : ∃ v, (ea.t != eb.t) = v := ⟨_, rfl⟩
 have e3 : apartS p a b = ap := by rw [apartS, th, th, hea, heb]; exact hap
 unfold toldS
 rw [e3]
 generalize ((List.range (events p).length).map (rankS p x)).map (V.int .i64) = rk at h1 h2 ⊢
 refine Fc.start (S := []) Tryz.func127 Tryz.ntmps127 Tryz.results127 rfl (by decide) rfl (by kernel_rfl) ?_
 simp (disch := omega) only [push_cast, go_sem, zA, simprocAttr, ordV_eq, rdsV_eq, wrtV_eq]
 refine Sat.drawnE [] [] (List.range 18) (fun _ _ _ => none) (by kernel_rfl) (by kernel_rfl) ?_
 simp (disch := omega) only [push_cast, go_sem, zA, simprocAttr, hea, heb, ha, hb, Evt.V_eq, hap]
 cases hrd : readS p x a b <;> cases hov : overS p x a b <;> rw [hrd] at h1 <;> rw [hov] at h2
 all_goals
  cases k1 : (kind == 2)
  ·cases k2 : (kind == 3)
   ·simp (disch := omega) only [push_cast, go_sem, zA, simprocAttr, k1, k2]
    refine callR.look h1 rfl rfl rfl ?_
    simp (disch := omega) only [push_cast, go_sem, zA, simprocAttr]
    try (refine callR.look h2 rfl rfl rfl ?_; simp (disch := omega) only [push_cast, go_sem, zA, simprocAttr])
    first | exact ⟨_, Sub.rfl, rfl, rfl⟩ | exact ⟨_, Sub.rfl, rfl⟩
   ·cases ap
    ·simp (disch := omega) only [push_cast, go_sem, zA, simprocAttr, k1, k2]
     first | exact ⟨_, Sub.rfl, rfl, rfl⟩ | exact ⟨_, Sub.rfl, rfl⟩
    ·simp (disch := omega) only [push_cast, go_sem, zA, simprocAttr, k1, k2]
     refine callR.look h1 rfl rfl rfl ?_
     simp (disch := omega) only [push_cast, go_sem, zA, simprocAttr]
     try (refine callR.look h2 rfl rfl rfl ?_; simp (disch := omega) only [push_cast, go_sem, zA, simprocAttr])
     first | exact ⟨_, Sub.rfl, rfl, rfl⟩ | exact ⟨_, Sub.rfl, rfl⟩
  ·cases ap
   ·simp (disch := omega) only [push_cast, go_sem, zA, simprocAttr, k1]
    refine callR.look h2 rfl rfl rfl ?_
    simp (disch := omega) only [push_cast, go_sem, zA, simprocAttr]
    first | exact ⟨_, Sub.rfl, rfl, rfl⟩ | exact ⟨_, Sub.rfl, rfl⟩
   ·simp (disch := omega) only [push_cast, go_sem, zA, simprocAttr, k1]
    refine callR.look h1 rfl rfl rfl ?_
    simp (disch := omega) only [push_cast, go_sem, zA, simprocAttr]
    try (refine callR.look h2 rfl rfl rfl ?_; simp (disch := omega) only [push_cast, go_sem, zA, simprocAttr])
    first | exact ⟨_, Sub.rfl, rfl, rfl⟩ | exact ⟨_, Sub.rfl, rfl⟩
end
theorem rank_fn (zs : List Int) (z : Int) (hl : zs.length < 2 ^ 40) : Fp Tryz.prog 125 [.sl (zs.map (V.int .i64)), .int .i64 z] (.int .i64 (Lib.idxOf zs z)) := by
 refine Fc.start (S := [6]) Tryz.func125 Tryz.ntmps125 Tryz.results125 rfl (by decide) rfl (by kernel_rfl) ?_
 simp (disch := omega) only [push_cast, go_sem, zA, simprocAttr]
 refine Sat.loop (σ := Nat) (fun k => upd (upd (upd noT 0 (.sl (zs.map (V.int .i64)))) 1 (.int .i64 z)) 5 (.int .i64 k)) (fun _ => noM)
  (fun k => k ≤ zs.length ∧ Lib.idxOf zs z = Lib.idxFrom (zs.drop k) z k) (fun k => zs.length - k) 0 ⟨by omega, rfl⟩ ?_ ?_
 ·(refine zB ?_; repeat (first | exact zC | exact zD | refine zE (by decide) ?_ | refine zF ?_ ?_ | refine zG ?_ ?_)) <;> (try simp (disch := omega) only [push_cast, go_sem, zA, simprocAttr])
 rintro k ⟨hk, hc⟩ J hJ
 refine Sat.of (S := []) (by kernel_rfl) ?_
 rcases Nat.lt_or_ge k zs.length with hlt | hge
 ·obtain ⟨y, hy⟩ : ∃ z, zs[k]? = some z := ⟨_, List.getElem?_eq_getElem hlt⟩
  rw [drop_get hy, Lib.idxFrom] at hc
  cases hyz : (y == z)
  ·have hyz' : ¬ y = z := by simpa using hyz
   rw [if_neg hyz'] at hc
   simp (disch := omega) only [push_cast, go_sem, zA, simprocAttr, hy, hlt, hyz]
   refine hJ (k + 1) _ _ ⟨by omega, hc⟩ (by omega) ?_
   (refine zB ?_; repeat (first | exact zC | exact zD | refine zE (by decide) ?_ | refine zF ?_ ?_ | refine zG ?_ ?_)) <;> (try simp (disch := omega) only [push_cast, go_sem, zA, simprocAttr])
  ·have hyz' : y = z := by simpa using hyz
   rw [if_pos hyz'] at hc
   simp (disch := omega) only [push_cast, go_sem, zA, simprocAttr, hy, hlt, hyz]
   exact hc.symm
 ·have : k = zs.length := by omega
  subst this
  rw [List.drop_length, Lib.idxFrom] at hc
  simp (disch := omega) only [push_cast, go_sem, zA, simprocAttr]
  refine Sat.of (S := []) (by kernel_rfl) ?_
  simp (disch := omega) only [push_cast, go_sem, zA, simprocAttr]
  exact hc.symm
end
section
open Go.RowKit
structure Exe.few (x : Exe) : Prop where
 fr : x.fr.length ≤ 43
 od : x.od.length = 3
 row : ∀ r ∈ x.od, r.length ≤ 43
theorem modInts (l : List Int) (k : Nat) (z : Int) : (l.map (V.int .i64)).modify k (fun x => x.setC 0 (V.int .i64 z)) = (l.set k z).map (V.int .i64) := by
 apply List.ext_getElem?
 intro i
 rw [List.getElem?_modify, List.getElem?_map, List.getElem?_map, List.getElem?_set]
 by_cases h : k = i
 ·subst h
  cases hl : l[k]? with
  | none => have := List.getElem?_eq_none_iff.1 hl; simp; omega
  | some a => have := (List.getElem?_eq_some_iff.1 hl).1; simp [this, V.setC]
 ·simp [h]
end
end Go.Proofs.YtkdolbffabmemaaGreatDoor
