/-
 Contracts and plain laws.
-/
import Derived.Test.YtkdolbffabmemaaGreatDoorLd
import Derived.Test.YtkdolbffabmemaaGreatDoorLe
import Derived.Test.YtkdolbffabmemaaGreatDoorLf
import Derived.Test.YtkdolbffabmemaaGreatDoorLg
set_option linter.unusedSimpArgs false
set_option linter.unusedVariables false
set_option linter.unusedSectionVars false
namespace Go.Proofs.YtkdolbffabmemaaGreatDoor
section
open Go.RowKit Go.Maps Go.Sort Go.Shelf Go.Lib
set_option maxHeartbeats 1000000 in
theorem mCompact_nil (A : Option Addr) (cap : Nat) (fv : Value) (w : World) : Calls Tryz.prog 46 #[.slice A 0 cap, fv] w fun e w' => e = .returned (.slice A 0 cap) ∧ w' = w := by
 go_enter Tryz.func46, Tryz.ntmps46
 go_wp2
 go_ret
 exact ⟨rfl, rfl⟩
def RpOk (imm : Nat → Prop) (w : World) (p : El × Sn) : Prop :=
 Rp imm w (.sl (p.2.rd.map (V.int .i64))) (.slice p.1.a.1 p.1.a.2.1 p.1.a.2.2) ∧ Rp imm w (.sl (p.2.ls.map (V.int .i64))) (.slice p.1.b.1 p.1.b.2.1 p.1.b.2.2) ∧ p.2.small
def Pr (imm : Nat → Prop) (w : World) : Type := { p : El × Sn // RpOk imm w p }
section
variable {imm : Nat → Prop} {w : World}
instance : Inhabited (Pr imm w) := ⟨⟨(⟨(none, 0, 0), (none, 0, 0)⟩, ⟨[], []⟩), .sl0 _ _, .sl0 _ _, ⟨by simp, by simp⟩⟩⟩
def Pr.el (p : Pr imm w) : El := p.1.1
def Pr.sn (p : Pr imm w) : Sn := p.1.2
theorem Pr.mk' {x : El} {s : Sn} (h1 : Rp imm w (.sl (s.rd.map (V.int .i64))) (.slice x.a.1 x.a.2.1 x.a.2.2)) (h2 : Rp imm w (.sl (s.ls.map (V.int .i64))) (.slice x.b.1 x.b.2.1 x.b.2.2)) (h : s.small) : ∃ p : Pr imm w, p.el = x ∧ p.sn = s := ⟨⟨(x, s), h1, h2, h⟩, rfl, rfl⟩
theorem prs (f : Nat → Pr imm w → Prop) : ∀ (n : Nat), (∀ i, i < n → ∃ p, f i p) → ∃ ps : List (Pr imm w), ps.length = n ∧ ∀ i p, ps[i]? = some p → f i p
 | 0, _ => ⟨[], rfl, fun i p h => by simp at h⟩
 | n + 1, h => by
  obtain ⟨ps, h1, h2⟩ := prs f n (fun i hi => h i (by omega))
  obtain ⟨p, hp⟩ := h n (by omega)
  refine ⟨ps ++ [p], by simp [h1], fun i q hq => ?_⟩
  by_cases hi : i < ps.length
  ·rw [List.getElem?_append_left hi] at hq; exact h2 i q hq
  ·have : i = n := by have := (List.getElem?_eq_some_iff.1 hq).1; simp at this; omega
   subst this
   rw [List.getElem?_append_right (by omega), h1, Nat.sub_self] at hq
   simp at hq; subst hq; exact hp
theorem pr_rp (p : Pr imm w) {j : Nat} {c : V} {u : Value} (hu : (enc2 p.el)[j]? = some u) (hc : p.sn.V.cells[j]? = some c) : Rp imm w c u := by
 match j, hu, hc with
 | 0, hu, hr => simp [enc2] at hu; simp [Sn.V, V.cells] at hr; subst hu; subst hr; exact p.2.1
 | 1, hu, hr => simp [enc2] at hu; simp [Sn.V, V.cells] at hr; subst hu; subst hr; exact p.2.2.1
 | t + 2, hu, hr => simp [enc2] at hu
theorem Rp.later {l : List Int} {x : Option Addr × Nat × Nat} (h : Rp imm w (.sl (l.map (V.int .i64))) (.slice x.1 x.2.1 x.2.2)) {W : World} (hi : ∀ g, imm g → g < w.heap.size) (hs : w.heap.size ≤ W.heap.size) (hc : ∀ a : Addr, imm a.block → W.cell? a = w.cell? a) : IntsAt W x l := by
 obtain ⟨A, c, e, h'⟩ := h.ints_inv
 injection e with e1 e2 e3
 refine ⟨e2, fun hne => ?_⟩
 obtain ⟨g, off, rfl, hg, _, hj⟩ := h' hne
 exact ⟨g, off, e1, by have := hi g hg; omega, fun j hj' => (hc _ hg).trans (hj j hj')⟩
theorem lays_same {blk size : Nat} (hi : ∀ g, imm g → g < w.heap.size) (hni : ¬ imm blk) (hblk : blk < w.heap.size) : ∀ dk : Array (Pr imm w), dk.size = size → ∀ W, SWK (fun x : Pr imm w => enc2 x.el) 2 w blk 0 dk W → ∀ (x y : Pr imm w) (n : Nat) (os : Array Obj),
  Calls Tryz.prog 50 #[agg2 x.el, agg2 y.el] (grow (W.drewN n) os) fun e w' => e = .returned (.bool (decide (x.sn = y.sn))) ∧ ∃ q os', w' = grow ((grow (W.drewN n) os).drewN q) os' := by
 intro dk _ W hW x y n os
 have hW2 := hW.grown n os
 have hs : w.heap.size ≤ (grow (W.drewN n) os).heap.size := hW2.le
 have hc : ∀ a : Addr, imm a.block → (grow (W.drewN n) os).cell? a = w.cell? a := fun a ha => by
  obtain ⟨n', os', e⟩ := hW2
  rw [e]
  unfold sortWorldK
  have := hi _ ha
  rw [cell?_grow _ _ _ (by rw [size_putRowK]; exact this), cell?_putRowK_other _ 2 _ blk 0 dk a (fun e => hni (e ▸ ha))]
  rfl
 have := mSame x.el y.el x.sn y.sn _ (x.2.1.later hi hs hc) (x.2.2.1.later hi hs hc) (y.2.1.later hi hs hc) (y.2.2.1.later hi hs hc) x.2.2.2.rd x.2.2.2.ls y.2.2.2.rd y.2.2.2.ls
 rwa [show decide (cmpS x.sn y.sn = 0) = decide (x.sn = y.sn) by rw [decide_eq_decide]; exact cmpS_zero] at this
theorem Inv.sns {sz : TypeId → Nat} {d g : Nat} {e : TypeId} {cap : Nat} {l : List Sn} (hsz : sz e = 2) (hs : ∀ s ∈ l, s.small) (hI : Inv sz imm w (noM.set d (.own e (some g) cap (l.map Sn.V)))) :
  ¬ imm g ∧ l.length ≤ cap ∧ cap ≤ maxLen ∧ ∃ (cur : Array Value) (ps : List (Pr imm w)), w.heap[g]? = some (.cells cur e (0, 0)) ∧ cur.size = cap * 2 ∧ ps.map Pr.sn = l ∧ ∀ (i : Nat) (p : Pr imm w) (j : Nat), ps[i]? = some p → j < 2 → cur[i * 2 + j]? = (enc2 p.el)[j]? := by
 obtain ⟨h0, h1, h2, cur, h3, h4, h5⟩ := hI.nd d [] (.own e (some g) cap (l.map Sn.V)) (by simp [Mem.getP_set, V.getP])
 have key : ∀ i, i < l.length → ∃ p : Pr imm w, l[i]? = some p.sn ∧ ∀ j, j < 2 → cur[i * 2 + j]? = (enc2 p.el)[j]? := by
  intro i hi
  have hx : (l.map Sn.V)[i]? = some (l[i]).V := by rw [List.getElem?_map, List.getElem?_eq_getElem hi]; rfl
  obtain ⟨_, k⟩ := h5 i _ hx
  obtain ⟨ua, a1, _, a2⟩ := k 0 _ rfl
  obtain ⟨ub, b1, _, b2⟩ := k 1 _ rfl
  have a2' : Rp imm w (.sl ((l[i]).rd.map (V.int .i64))) ua := a2
  have b2' : Rp imm w (.sl ((l[i]).ls.map (V.int .i64))) ub := b2
  obtain ⟨xa, rfl⟩ := a2'.ofInts
  obtain ⟨xb, rfl⟩ := b2'.ofInts
  obtain ⟨p, p1, p2⟩ := Pr.mk' (x := ⟨xa, xb⟩) (s := l[i]) a2' b2' (hs _ (List.getElem_mem hi))
  rw [hsz] at a1 b1
  refine ⟨p, by rw [p2, List.getElem?_eq_getElem hi], fun j hj => ?_⟩
  rw [p1]
  match j, hj with
  | 0, _ => exact a1
  | 1, _ => exact b1
 obtain ⟨ps, q1, q2⟩ := prs (fun i p => l[i]? = some p.sn ∧ ∀ j, j < 2 → cur[i * 2 + j]? = (enc2 p.el)[j]?) _ key
 refine ⟨h0, by simpa using h1, h2, cur, ps, h3, by rw [h4, hsz], ?_, fun i p j hp hj => (q2 i p hp).2 j hj⟩
 apply List.ext_getElem?
 intro j
 rw [List.getElem?_map]
 cases hp : ps[j]? with
 | none =>
  have := List.getElem?_eq_none_iff.1 hp
  rw [List.getElem?_eq_none (by omega)]; rfl
 | some p => rw [(q2 j p hp).1]; rfl
theorem holds2r {g : Nat} {cur : Array Value} {e : TypeId} {ps : List (Pr imm w)} (hb : w.heap[g]? = some (.cells cur e (0, 0))) (ht : ∀ (i : Nat) (p : Pr imm w) (j : Nat), ps[i]? = some p → j < 2 → cur[i * 2 + j]? = (enc2 p.el)[j]?) : HoldsK (fun p : Pr imm w => enc2 p.el) 2 w g 0 ps.toArray := by
 intro j hj
 have hj' : j < ps.length * 2 := by simpa using hj
 have hl : j / 2 < ps.length := by omega
 have h1 := ht (j / 2) ps[j / 2] (j % 2) (List.getElem?_eq_getElem hl) (by omega)
 have e1 : j / 2 * 2 + j % 2 = j := by omega
 rw [e1] at h1
 have h2 : (flatK (fun p : Pr imm w => enc2 p.el) 2 ps.toArray)[j]! = (enc2 (ps[j / 2]).el)[j % 2]! := by rw [get_flatK _ _ _ _ (by simpa using hj')]; simp [hl]
 refine ⟨cell_heap hb ?_, by simp [World.frozen?, hb]⟩
 rw [Nat.zero_add, h1, h2, List.getElem?_eq_getElem (by show _ < 2; omega), getElem!_pos _ (j % 2) (by show _ < 2; omega)]; rfl
end
theorem compact_len (l : List Sn) : (compact l).length ≤ l.length := by
 unfold compact compactUpTo
 rw [List.length_map]
 exact Nat.le_trans (List.length_filter_le _ _) (by simp)
theorem compactS_fn (l : List Sn) (γ : Option Nat) (cap : Nat) (hsm : ∀ s ∈ l, s.small) (hl : l.length < 2 ^ 40) : Fc Tryz.prog 46 [.msl 0 [] γ l.length cap, .fn (.func 50) [] []] (noM.set 0 (.own 34 γ cap (l.map Sn.V)))
  fun r m => r = .msl 100 [] γ (compact l).length cap ∧ m = noM.set 100 (.own 34 γ cap ((compact l).map Sn.V)) := by
 refine ⟨fun imm w vals hG hI hi hs hv => ?_, by kernel_rfl⟩
 obtain ⟨a, b, rfl, ha, hb⟩ := vals2 (P := Tryz.prog) hs hv
 have eb : b = .func (.func 50) #[] #[] := by
  cases hb with
  | fn f xs bs ar br k1 k2 _ _ => rw [show ar = #[] by simpa using k1, show br = #[] by simpa using k2]
 subst eb
 cases ha
 cases γ with
 | none =>
  have hnd := hI.nd 0 [] (.own 34 none cap (l.map Sn.V)) (by simp [Mem.getP_set, V.getP])
  have hz : l = [] := by simpa using hnd.1
  have hcap : cap = 0 := hnd.2
  subst hz; subst hcap
  refine (mCompact_nil none 0 _ w).mono ?_
  rintro e w' ⟨rfl, rfl⟩
  refine ⟨_, _, _, imm, rfl, ⟨rfl, rfl⟩, .msl _ _ _ _ _, Inv.nil _ _, hi, Nat.le_refl _, rfl, rfl, rfl, fun _ _ _ => ⟨rfl, Iff.rfl⟩, fun g hg => absurd (owns_nilrow hg) not_owns_no⟩
 | some g =>
  obtain ⟨hni, h1, h2, cur, ps, h3, h4, h5, h6⟩ := hI.sns szT_seen hsm
  have hlt := (Array.getElem?_eq_some_iff.1 h3).1
  have hpl : ps.length = l.length := by rw [← h5, List.length_map]
  have hm := mCompact (α := Pr imm w) Pr.el Pr.sn 50 (enters_of Tryz.func50 (by kernel_rfl) rfl) g 0 cap ps.toArray w (lays_same hi hni hlt) (holds2r h3 h6) hlt (by simp; omega) (by simp; omega)
  have e0 : (compactUpTo (ps.toArray.map Pr.sn) ps.toArray.size) = compact l := by
   unfold compact
   rw [← h5]; simp
  rw [e0] at hm
  simp only [List.size_toArray, hpl] at hm
  refine hm.mono ?_
  rintro e w' ⟨rfl, dk, vs, n, os, hds, hdk, hvs, rfl⟩
  have hcl := compact_len l
  have hF : (setMany (flatK (fun p : Pr imm w => enc2 p.el) 2 dk) ((compact l).length * 2) vs).size = l.length * 2 := by rw [size_setMany, size_flatK, hds]
  obtain ⟨⟨cur', k1, k2, k3⟩, k4, k5⟩ := flat_heap h3 n (setMany (flatK (fun p : Pr imm w => enc2 p.el) 2 dk) ((compact l).length * 2) vs) os (by rw [hF, h4]; exact Nat.mul_le_mul_right 2 h1)
  refine ⟨_, _, _, imm, rfl, ⟨rfl, rfl⟩, .msl _ _ _ _ _, Step.put2 (pl2_sn _) szT_seen hI hi rfl rfl rfl k5 k4 (by simp; omega) k1 (by omega) fun i x hx j c hj => ?_⟩
  rw [List.getElem?_map, Option.map_eq_some_iff] at hx
  obtain ⟨s, hsi, rfl⟩ := hx
  have hil := (List.getElem?_eq_some_iff.1 hsi).1
  have hj2 := (pl2_cell (x := s.V) ⟨_, _, rfl⟩ hj).1
  have hs' := hdk i hil
  rw [hsi] at hs'
  have hs2 : s = (dk[i]!).sn := Option.some.inj hs'
  have hidk : i < dk.size := by omega
  have hlt2 : i * 2 + j < dk.size * 2 := by omega
  obtain ⟨u, hu⟩ : ∃ u, (enc2 (dk[i]!).el)[j]? = some u := ⟨_, List.getElem?_eq_getElem (by show j < 2; exact hj2)⟩
  refine ⟨u, ?_, pr_rp dk[i]! hu (by rw [← hs2]; exact hj)⟩
  rw [k3 _ (by rw [hF]; omega)]
  have e1 := get_setMany vs ((compact l).length * 2) (flatK (fun p : Pr imm w => enc2 p.el) 2 dk) (i * 2 + j) (by simpa using hlt2)
  rw [if_neg (by omega), get_flatK _ _ _ _ hlt2, show (i * 2 + j) / 2 = i by omega, show (i * 2 + j) % 2 = j by omega] at e1
  rw [Array.getElem?_eq_getElem (by rw [hF]; omega), ← getElem!_pos _ (i * 2 + j) (by rw [hF]; omega), e1]
  have e2 := List.getElem?_eq_getElem (l := enc2 (dk[i]!).el) (i := j) (by show j < 2; exact hj2)
  rw [hu] at e2
  rw [getElem!_pos (enc2 (dk[i]!).el) j (by show j < 2; exact hj2), ← Option.some.inj e2]
end
section
open Go.RowKit
def valF (p : Prog) (x : Exe) (i : Nat) : Int := (valI (scene p).ds x.fr (scene p).ds.length i).getD 0
def rdK (f : Nat → Int) (ds : List Do) : Nat → List Int
 | 0 => []
 | k + 1 => rdK f ds k ++ match ds[k]? with | some d => if d.reads then [f k] else [] | none => []
def lsF (f : Nat → Int) (row : List Int) : Int := match row[row.length - 1]? with | some z => f z.toNat | none => 0
def seenF (p : Prog) (x : Exe) : Sn := ⟨rdK (valF p x) (scene p).ds (scene p).ds.length, x.od.map (lsF (valF p x))⟩
theorem rdK_le (f : Nat → Int) (ds : List Do) : ∀ k, (rdK f ds k).length ≤ k
 | 0 => by simp [rdK]
 | k + 1 => by
  have := rdK_le f ds k
  rw [rdK, List.length_append]
  have : (match ds[k]? with | some d => if d.reads then [f k] else [] | none => []).length ≤ 1 := by
   split
   ·split <;> simp
   ·simp
  omega
theorem rdK_yes {f : Nat → Int} {ds : List Do} {k : Nat} {d : Do} (hd : ds[k]? = some d) (hr : d.reads = true) : rdK f ds (k + 1) = rdK f ds k ++ [f k] := by rw [rdK, hd]; simp [hr]
theorem rdK_no {f : Nat → Int} {ds : List Do} {k : Nat} {d : Do} (hd : ds[k]? = some d) (hr : d.reads = false) : rdK f ds (k + 1) = rdK f ds k := by rw [rdK, hd]; simp [hr]
theorem val_some {p : Prog} {x : Exe} (h : execOk p x = true) {a : Nat} {d : Do} (hd : (scene p).ds[a]? = some d) (hu : d.uses = true) : valI (scene p).ds x.fr (scene p).ds.length a = some (valF p x a) := by
 simp only [execOk, okX, Bool.and_eq_true, List.all_eq_true] at h
 have := h.2.2 (d, a) (List.mem_of_getElem? (i := a) (by simp [hd]))
 simp only [endOk, hu, Bool.not_true, Bool.false_or] at this
 obtain ⟨v, hv⟩ := Option.isSome_iff_exists.1 this
 rw [valF, hv]; rfl
theorem od_at {p : Prog} {x : Exe} (h : execOk p x = true) {row : List Int} (hr : row ∈ x.od) {z : Int} (hz : z ∈ row) : ∃ (b : Nat) (d : Do), z = b ∧ (scene p).ds[b]? = some d ∧ d.uses = true := by
 simp only [execOk, okX, fits, Bool.and_eq_true, List.all_eq_true] at h
 obtain ⟨i, hi⟩ := List.getElem?_of_mem hr
 have := h.2.1.2 (row, i) (List.mem_of_getElem? (i := i) (by simp [hi]))
 rw [odOk, sorted_eq (writers_pw _ _) (writers_nodup _ _), Bool.and_eq_true, beq_iff_eq, List.all_eq_true] at this
 have hp := perm_of (writers_nodup (scene p).ds i) (fun y hy => List.contains_iff_mem.1 (this.2 y hy)) (Nat.le_of_eq this.1.symm)
 obtain ⟨b, d, k1, k2, k3, k4, _⟩ := mem_wrs (hp.mem_iff.2 hz)
 exact ⟨b, d, k2, k3, by simp [Do.uses, k4]⟩
theorem seen_fn (p : Prog) (x : Exe) (h : execOk p x = true) (hx : x.small) : Fp Tryz.prog 37 [(scene p).V, x.V] (seenF p x).V := by
 have hw := Way.of h
 have hpk := hw.ok
 have hel := events_le hpk
 have hsl : (scene p).ds.length = (events p).length := by simp [scene]
 have hod := hw.od
 have hf : fromOk (scene p).ds x.fr := fromOk_of (scene_len p) (by simp only [execOk, okX, Bool.and_eq_true] at h; exact h.2.1)
 have hval := fun a d hd hu => value_fn (scene p) x a (by omega) (scene_len p) hx.fr (scene_copy hpk) hf ⟨d, hd, hu⟩
 obtain ⟨f, hff⟩ : ∃ f, valF p x = f := ⟨_, rfl⟩
 have hval' : ∀ (a : Nat) (d : Do), (scene p).ds[a]? = some d → d.uses = true → Fp Tryz.prog 77 [(scene p).V, x.V, .int .i64 a] (.tuple [.int .i64 (f a), .bool true]) := by
  intro a d hd hu
  have := hval a d hd hu
  rw [val_some h hd hu, hff] at this
  exact this
 clear hval
 have hodr : ∀ row ∈ x.od, ∀ z ∈ row, ∃ (b : Nat) (d : Do), z = b ∧ (scene p).ds[b]? = some d ∧ d.uses = true := fun row hr z hz => od_at h hr hz
 have hrow := hx.row
 rw [seenF, hff, Sn.V_eq]
 rw [Sc.V_eq, Exe.V_eq] at hval'
 rw [Sc.V_eq, Exe.V_eq]
 generalize (scene p).p = pp at hval' ⊢
 generalize (scene p).es = es at hval' ⊢
 generalize (scene p).ds = ds at hval' hodr hsl ⊢
 refine Fc.start (S := [17]) Tryz.func37 Tryz.ntmps37 Tryz.results37 rfl (by decide) rfl (by kernel_rfl) ?_
 simp (disch := omega) only [push_cast, go_sem, zA, simprocAttr]
 intro g2 g3 g4 g5
 refine Sat.loop (σ := EvS) (fun y => upd (upd (upd (upd (upd (upd (upd noT 2 (.ptr 2 [] 0 0 g2 3)) 3 (.ptr 3 [] 0 0 g3 2)) 4 (.ptr 4 [] 0 0 g4 2)) 5 (.ptr 5 [] 0 0 g5 2)) 14 (.sl (ds.map Do.V))) 15 (.int .i64 ds.length)) 16 (.int .i64 y.k))
  (fun y => (((noM.set 2 (.own 55 (some g2) 1 [.agg [.sl (pp.map thrV), .sl (es.map Evt.V), .sl (ds.map Do.V)]])).set 3 (.own 61 (some g3) 1 [.agg [.sl (x.fr.map (V.int .i64)), .sl (x.od.map intsV)]])).set 4 (.own 34 (some g4) 1 [.agg [.own 0 none 0 [], .own 0 none 0 []]])).set 5 (.own 34 (some g5) 1 [.agg [.own y.e y.γ y.c ((rdK f ds y.k).map (V.int .i64)), .own 0 none 0 []]]))
  (fun y => y.k ≤ ds.length ∧ (y.γ = none ∨ y.e = 3)) (fun y => ds.length - y.k) ⟨0, 0, none, 0⟩ (by simp) ?_ ?_
 ·(refine zB ?_; repeat (first | exact zC | exact zD | refine zE (by decide) ?_ | refine zF ?_ ?_ | refine zG ?_ ?_)) <;> (try simp (disch := omega) only [push_cast, go_sem, zA, simprocAttr])
  all_goals rfl
 rintro ⟨k, e, γ, c⟩ ⟨hk, hγ⟩ J hJ
 simp only at hk hγ hJ
 have hγ' : (γ = none ∨ e = 3) = True := by simp only [hγ]
 have hrl := rdK_le f ds k
 refine Sat.of (S := [17]) (by kernel_rfl) ?_
 rcases Nat.lt_or_ge k ds.length with hlt | hge
 ·obtain ⟨d, hd⟩ : ∃ d, ds[k]? = some d := ⟨_, List.getElem?_eq_getElem hlt⟩
  have hre := reads_fn d
  rw [Do.V_eq] at hre
  simp (disch := omega) only [push_cast, go_sem, zA, simprocAttr, hd, hlt, Do.V_eq]
  intro g7
  refine callR.pure hre rfl rfl ?_
  cases hr : d.reads
  ·simp (disch := omega) only [push_cast, go_sem, zA, simprocAttr]
   refine hJ ⟨k + 1, e, γ, c⟩ _ _ ⟨by dsimp only; omega, hγ⟩ (by dsimp only; omega) ?_
   dsimp only
   rw [rdK_no hd hr]
   (refine zB ?_; repeat (first | exact zC | exact zD | refine zE (by decide) ?_ | refine zF ?_ ?_ | refine zG ?_ ?_)) <;> (try simp (disch := omega) only [push_cast, go_sem, zA, simprocAttr])
  ·simp (disch := omega) only [push_cast, go_sem, zA, simprocAttr]
   refine callR.pure (hval' k d hd (by simp [Do.uses, hr])) rfl rfl ?_
   simp (disch := omega) only [push_cast, go_sem, zA, simprocAttr, hγ']
   intro g33
   refine ⟨by omega, fun γ' c' _ => ?_⟩
   refine hJ ⟨k + 1, 3, γ', c'⟩ _ _ ⟨by dsimp only; omega, .inr rfl⟩ (by dsimp only; omega) ?_
   dsimp only
   rw [rdK_yes hd hr]
   (refine zB ?_; repeat (first | exact zC | exact zD | refine zE (by decide) ?_ | refine zF ?_ ?_ | refine zG ?_ ?_)) <;> (try simp (disch := omega) only [push_cast, go_sem, zA, simprocAttr])
   all_goals simp
 have : k = ds.length := by omega
 subst this
 simp (disch := omega) only [push_cast, go_sem, zA, simprocAttr]
 refine Sat.loop (σ := EvS) (fun y => upd (upd (upd (upd (upd (upd (upd noT 2 (.ptr 2 [] 0 0 g2 3)) 3 (.ptr 3 [] 0 0 g3 2)) 4 (.ptr 4 [] 0 0 g4 2)) 5 (.ptr 5 [] 0 0 g5 2)) 38 (.sl (x.od.map intsV))) 39 (.int .i64 x.od.length)) 40 (.int .i64 y.k))
  (fun y => (((noM.set 2 (.own 55 (some g2) 1 [.agg [.sl (pp.map thrV), .sl (es.map Evt.V), .sl (ds.map Do.V)]])).set 3 (.own 61 (some g3) 1 [.agg [.sl (x.fr.map (V.int .i64)), .sl (x.od.map intsV)]])).set 4 (.own 34 (some g4) 1 [.agg [.own 0 none 0 [], .own 0 none 0 []]])).set 5 (.own 34 (some g5) 1 [.agg [.own e γ c ((rdK f ds ds.length).map (V.int .i64)), .own y.e y.γ y.c (((x.od.take y.k).map (lsF f)).map (V.int .i64))]]))
  (fun y => y.k ≤ x.od.length ∧ (y.γ = none ∨ y.e = 3)) (fun y => x.od.length - y.k) ⟨0, 0, none, 0⟩ (by simp) ?_ ?_
 ·(refine zB ?_; repeat (first | exact zC | exact zD | refine zE (by decide) ?_ | refine zF ?_ ?_ | refine zG ?_ ?_)) <;> (try simp (disch := omega) only [push_cast, go_sem, zA, simprocAttr])
  all_goals rfl
 rintro ⟨k, e2, γ2, c2⟩ ⟨hk2, hγ2⟩ J2 hJ2
 simp only at hk2 hγ2 hJ2
 have hγ2' : (γ2 = none ∨ e2 = 3) = True := by simp only [hγ2]
 refine Sat.of (S := [17]) (by kernel_rfl) ?_
 rcases Nat.lt_or_ge k x.od.length with hlt | hge
 ·obtain ⟨row, hro⟩ : ∃ row, x.od[k]? = some row := ⟨_, List.getElem?_eq_getElem hlt⟩
  have htk := take_get hro
  have htl : ((x.od.take k).map (lsF f)).length = k := by rw [List.length_map, List.length_take]; omega
  have hrs := hrow row (List.mem_of_getElem? hro)
  by_cases h0 : (0 : Int) < row.length
  ·obtain ⟨m, hm⟩ : ∃ m, row.length = m + 1 := ⟨row.length - 1, by omega⟩
   obtain ⟨z, hz⟩ : ∃ z, row[m]? = some z := ⟨_, List.getElem?_eq_getElem (by omega)⟩
   obtain ⟨b, d, rfl, hbd, hbu⟩ := hodr row (List.mem_of_getElem? hro) z (List.mem_of_getElem? hz)
   have hls : lsF f row = f b := by rw [lsF, hm, Nat.add_sub_cancel, hz]; simp
   have hmm : m < m + 1 := by omega
   have hmi : (m : Int) < (m : Int) + 1 := by omega
   have h0' : (0 : Int) < (m : Int) + 1 := by omega
   simp (disch := omega) only [push_cast, go_sem, zA, simprocAttr, hlt, hro, intsV_eq, hm, h0']
   refine Sat.drawnE [] [] (List.range 13) (pureT [(77, .tuple [.int .i64 (f b), .bool true])]) (by kernel_rfl) (by kernel_rfl) ?_
   simp (disch := omega) only [push_cast, go_sem, zA, simprocAttr, hm, hz, hmm, hmi]
   refine runD_pure rfl (hval' b d hbd hbu) rfl rfl ?_ ?_
   ·rfl
   simp (disch := omega) only [push_cast, go_sem, zA, simprocAttr, hγ2', htl]
   intro g62
   refine ⟨by omega, fun γ' c' _ => ?_⟩
   refine hJ2 ⟨k + 1, 3, γ', c'⟩ _ _ ⟨by dsimp only; omega, .inr rfl⟩ (by dsimp only; omega) ?_
   dsimp only
   rw [htk, List.map_append, List.map_append]
   (refine zB ?_; repeat (first | exact zC | exact zD | refine zE (by decide) ?_ | refine zF ?_ ?_ | refine zG ?_ ?_)) <;> (try simp (disch := omega) only [push_cast, go_sem, zA, simprocAttr])
   all_goals simp [hls]
  ·have hls : lsF f row = 0 := by
    have : row = [] := List.eq_nil_of_length_eq_zero (by omega)
    subst this; rfl
   simp (disch := omega) only [push_cast, go_sem, zA, simprocAttr, hlt, hro, intsV_eq, h0, hγ2', htl]
   intro g62
   refine ⟨by omega, fun γ' c' _ => ?_⟩
   refine hJ2 ⟨k + 1, 3, γ', c'⟩ _ _ ⟨by dsimp only; omega, .inr rfl⟩ (by dsimp only; omega) ?_
   dsimp only
   rw [htk, List.map_append, List.map_append]
   (refine zB ?_; repeat (first | exact zC | exact zD | refine zE (by decide) ?_ | refine zF ?_ ?_ | refine zG ?_ ?_)) <;> (try simp (disch := omega) only [push_cast, go_sem, zA, simprocAttr])
   all_goals simp [hls]
 have : k = x.od.length := by omega
 subst this
 rw [List.take_length]
 simp (disch := omega) only [push_cast, go_sem, zA, simprocAttr]
 refine Sat.freezeC 5 [] 0 0 (n0 := .own 34 (some g5) 1 [.agg [.own e γ c ((rdK f ds ds.length).map (V.int .i64)), .own e2 γ2 c2 ((x.od.map (lsF f)).map (V.int .i64))]]) (d := .own e γ c ((rdK f ds ds.length).map (V.int .i64))) ?_ rfl rfl ?_
 ·rfl
 have e1 : (V.own e γ c ((rdK f ds ds.length).map (V.int .i64))).fz = .sl ((rdK f ds ds.length).map (V.int .i64)) := by simp only [V.fz, fzs_map, fzs_int]
 rw [e1]
 refine Sat.freezeC 5 [] 0 1 (n0 := .own 34 (some g5) 1 [.agg [.sl ((rdK f ds ds.length).map (V.int .i64)), .own e2 γ2 c2 ((x.od.map (lsF f)).map (V.int .i64))]]) (d := .own e2 γ2 c2 ((x.od.map (lsF f)).map (V.int .i64))) ?_ rfl rfl ?_
 ·rfl
 have e2 : (V.own e2 γ2 c2 ((x.od.map (lsF f)).map (V.int .i64))).fz = .sl ((x.od.map (lsF f)).map (V.int .i64)) := by simp only [V.fz, fzs_map, fzs_int]
 rw [e2]
 refine Sat.of (S := []) (by kernel_rfl) ?_
 simp (disch := omega) only [push_cast, go_sem, zA, simprocAttr]
end
section
open Go.RowKit
theorem fromsK_at {ds : List Do} : ∀ {k : Nat} {r : List Int}, k ≤ ds.length → r ∈ fromsK ds k → r.length = k
 | 0, r, _, h => by simp [fromsK] at h; subst h; rfl
 | k + 1, r, hk, h => by
  rw [fromsK, List.getElem?_eq_getElem (show k < ds.length by omega)] at h
  simp only [List.mem_flatMap, List.mem_map] at h
  obtain ⟨h0, h1, c, _, rfl⟩ := h
  have := fromsK_at (by omega) h1
  simp; omega
theorem fromsK_in {ds : List Do} : ∀ {k : Nat} {r : List Int}, k ≤ ds.length → r ∈ fromsK ds k → ∀ (i : Nat) d (z : Int), ds[i]? = some d → r[i]? = some z → z ∈ choicesOf ds d
 | 0, r, _, h, i, d, z, hd, hz => by simp [fromsK] at h; subst h; simp at hz
 | k + 1, r, hk, h, i, d, z, hd, hz => by
  have hdk : ds[k]? = some ds[k] := List.getElem?_eq_getElem (by omega)
  rw [fromsK, hdk] at h
  simp only [List.mem_flatMap, List.mem_map] at h
  obtain ⟨h0, h1, c, hc, rfl⟩ := h
  have hl := fromsK_at (by omega) h1
  rcases Nat.lt_or_ge i h0.length with hi | hi
  ·rw [List.getElem?_append_left hi] at hz
   exact fromsK_in (by omega) h1 i d z hd hz
  ·rw [List.getElem?_append_right hi] at hz
   have : i = k := by
    have := (List.getElem?_eq_some_iff.1 hz).1
    simp at this; omega
   subst this
   rw [hl, Nat.sub_self] at hz
   simp at hz; subst hz
   rw [hd] at hdk; cases hdk
   exact hc
theorem froms_step (ds : List Do) : ∀ k, k ≤ ds.length → (fromsK ds k).flatMap (compl ds (ds.length - k)) = compl ds ds.length []
 | 0, _ => by simp [fromsK]
 | k + 1, hk => by
  rw [← froms_step ds k (by omega)]
  have hdk : ds[k]? = some ds[k] := List.getElem?_eq_getElem (by omega)
  rw [fromsK, hdk]
  simp only [List.flatMap_assoc]
  rw [show ds.length - k = (ds.length - (k + 1)) + 1 by omega]
  rw [List.flatMap_def, List.flatMap_def]
  congr 1
  refine List.map_congr_left fun h hh => ?_
  have hl := fromsK_at (by omega) hh
  rw [compl, hl, hdk]
  simp only [List.flatMap_map]
theorem froms_eq (ds : List Do) : fromsOf ds = compl ds ds.length [] := by
 have := froms_step ds ds.length (Nat.le_refl _)
 rw [Nat.sub_self] at this
 rw [← this, fromsOf]
 have e : compl ds 0 = fun fr => [fr] := by funext fr; rfl
 rw [e]
 simp
theorem flat_filter {α β : Type} {p : α → Bool} {F : α → List β} : ∀ l : List α, (l.flatMap fun z => if p z then [] else F z) = (l.filter fun z => !p z).flatMap F
 | [] => rfl
 | a :: l => by
  rw [List.flatMap_cons, List.filter_cons, flat_filter l]
  cases h : p a <;> simp
theorem filter_erase : ∀ {l : List Int} {i : Nat} (h : i < l.length), l.Nodup → (l.filter fun z => !(z == l[i])) = l.eraseIdx i
 | a :: l, 0, _, hn => by
  rw [List.nodup_cons] at hn
  rw [List.getElem_cons_zero, List.filter_cons, List.eraseIdx_cons_zero]
  simp only [beq_self_eq_true, Bool.not_true, Bool.false_eq_true, if_false]
  rw [List.filter_eq_self]
  intro z hz
  have : z ≠ a := fun e => hn.1 (e ▸ hz)
  simpa using this
 | a :: l, i + 1, h, hn => by
  rw [List.nodup_cons] at hn
  rw [List.getElem_cons_succ, List.filter_cons, List.eraseIdx_cons_succ]
  have : a ≠ l[i]'(by simpa using h) := fun e => hn.1 (e ▸ List.getElem_mem _)
  have e : (!(a == l[i]'(by simpa using h))) = true := by simpa using this
  rw [e, if_pos rfl, filter_erase (by simpa using h) hn.2]
theorem range_getD (l : List Int) : l = (List.range l.length).map fun i => l.getD i 0 := by
 apply List.ext_getElem?
 intro i
 rw [List.getElem?_map]
 rcases Nat.lt_or_ge i l.length with h | h
 ·rw [List.getElem?_range h, List.getElem?_eq_getElem h]; simp [List.getD, h]
 ·rw [List.getElem?_eq_none h, List.getElem?_eq_none (by simpa using h)]; rfl
theorem rows_perms {l : List Int} (hn : l.Nodup) : ∀ (j : Nat) (h : List Int), (l.filter fun z => !h.contains z).length = j → rowsR l j h = (perms j (l.filter fun z => !h.contains z)).map (h ++ ·)
 | 0, h, _ => by simp [rowsR, perms]
 | j + 1, h, hl => by
  rw [rowsR, flat_filter]
  obtain ⟨rest, hr⟩ : ∃ rest, (l.filter fun z => !h.contains z) = rest := ⟨_, rfl⟩
  have hnr : rest.Nodup := by rw [← hr]; exact hn.filter _
  rw [hr] at hl ⊢
  rw [perms, List.map_flatMap]
  conv => lhs; rw [range_getD rest]
  rw [List.flatMap_map, List.flatMap_def, List.flatMap_def]
  congr 1
  refine List.map_congr_left fun i hi => ?_
  rw [List.mem_range] at hi
  have hg : rest.getD i 0 = rest[i] := by simp [List.getD, hi]
  have fe := filter_erase hi hnr
  obtain ⟨x, hx⟩ : ∃ x, rest[i] = x := ⟨_, rfl⟩
  rw [hx] at hg fe
  rw [hg]
  have he : (l.filter fun z => !(h ++ [x]).contains z) = rest.eraseIdx i := by
   rw [← fe, ← hr, List.filter_filter]
   refine List.filter_congr fun z hz => ?_
   rw [List.contains_append]
   have e : [x].contains z = (z == x) := by rw [Bool.eq_iff_iff]; simp
   rw [e]
   cases h.contains z <;> cases (z == x) <;> rfl
  have ih := rows_perms hn j (h ++ [x]) (by rw [he, List.length_eraseIdx_of_lt hi]; omega)
  rw [he] at ih
  rw [ih, List.map_map]
  refine List.map_congr_left fun r _ => by simp
theorem perms_rows {l : List Int} (hn : l.Nodup) : permsOf l = rowsR l l.length [] := by
 have e : (l.filter fun z => !([] : List Int).contains z) = l := by rw [List.filter_eq_self]; simp
 have := rows_perms hn l.length [] (by rw [e])
 rw [this, e, permsOf]
 simp
theorem orders_eq (ds : List Do) : ∀ k, ordersK ds k = ordersSK ds k
 | 0 => rfl
 | k + 1 => by rw [ordersK, ordersSK, orders_eq ds k, perms_rows (writers_nodup _ _)]
theorem perms_has : ∀ {n : Nat} {l row : List Int}, l.length = n → row ∈ perms n l → ∀ z ∈ l, z ∈ row
 | 0, l, row, hl, _, z, hz => by
  have : l = [] := List.eq_nil_of_length_eq_zero hl
  subst this; cases hz
 | n + 1, l, row, hl, h, z, hz => by
  simp only [perms, List.mem_flatMap, List.mem_range, List.mem_map] at h
  obtain ⟨i, hi, r, hr, rfl⟩ := h
  obtain ⟨j, hj⟩ := List.getElem?_of_mem hz
  by_cases hji : j = i
  ·subst hji
   have : l.getD j 0 = z := by simp [List.getD, hj]
   rw [this]; exact List.mem_cons_self
  ·refine List.mem_cons_of_mem _ (perms_has (by rw [List.length_eraseIdx_of_lt hi]; omega) hr z ?_)
   rw [List.mem_eraseIdx_iff_getElem?]
   exact ⟨j, hji, hj⟩
theorem odOk_of {ds : List Do} {k : Nat} {row : List Int} (h : row ∈ permsOf (writersOf ds k)) : odOk ds (row, k) = true := by
 rw [odOk, sorted_eq (writers_pw _ _) (writers_nodup _ _), Bool.and_eq_true, beq_iff_eq, List.all_eq_true]
 exact ⟨(perms_row rfl h).symm, fun z hz => List.contains_iff_mem.2 (perms_has rfl h z hz)⟩
theorem ordersK_at {ds : List Do} : ∀ {k : Nat} {r : List (List Int)}, r ∈ ordersK ds k → ∀ (i : Nat) row, r[i]? = some row → row ∈ permsOf (writersOf ds i)
 | 0, r, h, i, row, hr => by simp [ordersK] at h; subst h; simp at hr
 | k + 1, r, h, i, row, hr => by
  simp only [ordersK, List.mem_flatMap, List.mem_map] at h
  obtain ⟨h0, h1, c, hc, rfl⟩ := h
  have hl := ordersK_row h1
  rcases Nat.lt_or_ge i h0.length with hi | hi
  ·rw [List.getElem?_append_left hi] at hr
   exact ordersK_at h1 i row hr
  ·rw [List.getElem?_append_right hi] at hr
   have : i = k := by
    have := (List.getElem?_eq_some_iff.1 hr).1
    simp at this; omega
   subst this
   rw [hl, Nat.sub_self] at hr
   simp at hr; subst hr
   exact hc
theorem fits_of {p : Prog} {f : List Int} {o : List (List Int)} (hf : f ∈ fromsOf (scene p).ds) (ho : o ∈ ordersOf (scene p).ds) : fits (scene p) ⟨f, o⟩ = true := by
 have hsl : (scene p).ds.length = (events p).length := by simp [scene]
 have hes : (scene p).es = events p := rfl
 have hl := fromsK_at (Nat.le_refl _) hf
 have hol := ordersK_row ho
 simp only [fits, Bool.and_eq_true, decide_eq_true_eq, List.all_eq_true]
 refine ⟨⟨⟨by rw [hes]; omega, hol⟩, ?_⟩, ?_⟩
 ·rintro ⟨d, z⟩ hq
  obtain ⟨i, hi⟩ := List.getElem?_of_mem hq
  rw [List.getElem?_zip_eq_some] at hi
  have := fromsK_in (Nat.le_refl _) hf i d z hi.1 hi.2
  unfold choicesOf at this
  rw [frOk]
  cases hr : d.reads
  ·rw [hr] at this
   simpa using this
  ·rw [hr] at this
   simp only [if_true, List.mem_cons] at this
   simp only [if_true, Bool.or_eq_true, beq_iff_eq, List.contains_iff_mem]
   exact this
 ·rintro ⟨row, k⟩ hq
  obtain ⟨i, hi⟩ := List.getElem?_of_mem hq
  simp only [List.getElem?_zipIdx, Option.map_eq_some_iff, Prod.mk.injEq, Nat.zero_add] at hi
  obtain ⟨r', hr, rfl, rfl⟩ := hi
  exact odOk_of (ordersK_at ho i r' hr)
theorem one_eq {p : Prog} (hok : progOk p = true) {f : List Int} {o : List (List Int)} (hf : f ∈ fromsOf (scene p).ds) (ho : o ∈ ordersOf (scene p).ds) : oneOf (scene p) f o = oneS p f o := by
 have h1 := fits_of hf ho
 have h2 := ok_eq p ⟨f, o⟩
 rw [execOk, specOk, hok, Bool.true_and, Bool.true_and, ← fits_form hok, h1, Bool.true_and] at h2
 rw [oneOf, oneS, h2]
theorem flat_congr {α β : Type} {f g : α → List β} {l : List α} (h : ∀ a ∈ l, f a = g a) : l.flatMap f = l.flatMap g := by
 rw [List.flatMap_def, List.flatMap_def, List.map_congr_left h]
theorem all_eq (p : Prog) : execAll p = specAll p := by
 unfold execAll specAll
 cases hok : progOk p
 ·rfl
 rw [if_pos rfl, if_pos rfl]
 have hsl : (scene p).ds.length = (events p).length := by simp [scene]
 have e1 := froms_eq (scene p).ds
 rw [hsl] at e1
 have e2 := orders_eq (scene p).ds 3
 rw [allOf, allS, ← e1, ← e2]
 exact flat_congr fun f hf => flat_congr fun o ho => one_eq hok hf ho
end
section
open Go.RowKit
theorem rdK_small (p : Prog) (x : Exe) (h : execOk p x = true) : (seenF p x).small := by
 have hw := Way.of h
 have hel := events_le hw.ok
 have hsl : (scene p).ds.length = (events p).length := by simp [scene]
 have := rdK_le (valF p x) (scene p).ds (scene p).ds.length
 exact ⟨by rw [seenF]; dsimp only; omega, by rw [seenF]; dsimp only; rw [List.length_map, hw.od]; omega⟩
theorem all_ok {p : Prog} {x : Exe} (h : x ∈ execAll p) : execOk p x = true := (mem_execAll p x).1 h
end
section
open Go.RowKit
def insP : List Sn → Sn → List Sn
 | [], s => [s]
 | t :: L, s => if 0 < cmpS t s then s :: t :: L else t :: insP L s
def putS (L : List Sn) (s : Sn) : List Sn := if L.contains s then L else insP L s
theorem ins_len (s : Sn) : ∀ A : List Sn, (insP A s).length = A.length + 1
 | [] => rfl
 | t :: A => by
  rw [insP]
  split
  ·rfl
  ·rw [List.length_cons, ins_len s A, List.length_cons]
theorem put_len (L : List Sn) (s : Sn) : (putS L s).length ≤ L.length + 1 := by
 rw [putS]
 split
 ·omega
 ·rw [ins_len]; omega
@[push_cast] theorem fzs_sn (l : List Sn) : (l.map Sn.V).map V.fz = l.map Sn.V := by
 rw [List.map_map]
 refine List.map_congr_left fun d _ => ?_
 simp only [Function.comp, Sn.V, V.fz, fzs_map, List.map_cons, List.map_nil]
end
section
open Go.RowKit
def seenS (l : List Sn) : List Sn := Go.Lib.compact (sortSn l)
theorem seenS_le (l : List Sn) : (seenS l).length ≤ l.length := by
 have := compact_len (sortSn l)
 rw [sortSn_len] at this
 exact this
theorem compact_mem {l : List Sn} {s : Sn} (h : s ∈ Go.Lib.compact l) : s ∈ l := by
 unfold Go.Lib.compact Go.Lib.compactUpTo at h
 obtain ⟨j, hj, rfl⟩ := List.mem_map.1 h
 have hj' := List.mem_range.1 (List.mem_filter.1 hj).1
 simp [hj']
theorem seenS_mem {l : List Sn} {s : Sn} (h : s ∈ seenS l) : s ∈ l := (sortSn_perm l).mem_iff.1 (compact_mem h)
def cloneT : Table := fun f args _ => if f = 51 then match args with
  | [a] => some fun r m => r = a ∧ m = noM
  | _ => none
 else none
theorem clone_fp (zs : List Int) (hl : zs.length < 2 ^ 40) : Fp Tryz.prog 51 [.sl (zs.map (V.int .i64))] (.sl (zs.map (V.int .i64))) := by
 have := (clone_fn zs hl).frozen (by simp)
 rwa [fzs_int] at this
theorem seenSort_fn (l : List Sn) (hsm : ∀ s ∈ l, s.small) (hl : l.length < 2 ^ 40) : Fp Tryz.prog 17 [.sl (l.map Sn.V)] (.sl ((seenS l).map Sn.V)) := by
 have h1 := valuesS_fn l hsm
 have h2 := sortedS_fn l hsm hl
 have h3 := fun γ cap => compactS_fn (sortSn l) γ cap (fun s hs => hsm s ((sortSn_perm l).mem_iff.1 hs)) (by rw [sortSn_len]; exact hl)
 rw [sortSn_len, show Go.Lib.compact (sortSn l) = seenS l from rfl] at h3
 have hle := seenS_le l
 have hmem : ∀ s ∈ seenS l, s.small := fun s hs => hsm s (seenS_mem hs)
 generalize seenS l = L at *
 generalize sortSn l = S at *
 refine Fc.start (S := [3, 7]) Tryz.func17 Tryz.ntmps17 Tryz.results17 rfl (by decide) rfl (by kernel_rfl) ?_
 simp (disch := omega) only [push_cast, go_sem, zA, simprocAttr]
 refine callR.pure h1 rfl rfl ?_
 simp (disch := omega) only [push_cast, go_sem, zA, simprocAttr]
 refine callR.row h2 rfl rfl ?_
 intro γ1 cap1
 simp (disch := omega) only [push_cast, go_sem, zA, simprocAttr]
 refine callR.take (h3 γ1 cap1) rfl rfl rfl ?_
 simp (disch := omega) only [push_cast, go_sem, zA, simprocAttr]
 refine Sat.freezeT (upd (upd (upd (upd noT 3 (.msl 3 [] none 0 0)) 9 (.sl (L.map Sn.V))) 10 (.int .i64 L.length)) 11 (.int .i64 (0 : Nat))) (noM.set 3 (.own 0 none 0 [])) 9 (e := 34) (γ := γ1) (cap := cap1) (es := L.map Sn.V) rfl ?_ ?_
 ·(refine zB ?_; repeat (first | exact zC | exact zD | refine zE (by decide) ?_ | refine zF ?_ ?_ | refine zG ?_ ?_)) <;> (try simp (disch := omega) only [push_cast, go_sem, zA, simprocAttr])
  all_goals simp
 refine Sat.loop (σ := EvS) (fun x => upd (upd (upd (upd noT 9 (.sl (L.map Sn.V))) 10 (.int .i64 L.length)) 11 (.int .i64 x.k)) 3 (.msl 3 [] x.γ x.k x.c))
  (fun x => noM.set 3 (.own x.e x.γ x.c ((L.take x.k).map Sn.V)))
  (fun x => x.k ≤ L.length ∧ (x.γ = none ∨ x.e = 34)) (fun x => L.length - x.k) ⟨0, 0, none, 0⟩ (by simp) ?_ ?_
 ·(refine zB ?_; repeat (first | exact zC | exact zD | refine zE (by decide) ?_ | refine zF ?_ ?_ | refine zG ?_ ?_)) <;> (try simp (disch := omega) only [push_cast, go_sem, zA, simprocAttr])
  all_goals rfl
 rintro ⟨k, e, γ, c⟩ ⟨hk, hγ⟩ J hJ
 simp only at hk hγ hJ
 have hγ' : (γ = none ∨ e = 34) = True := by simp only [hγ]
 refine Sat.of (S := []) (by kernel_rfl) ?_
 rcases Nat.lt_or_ge k L.length with hlt | hge
 ·obtain ⟨x, hx⟩ : ∃ x, L[k]? = some x := ⟨_, List.getElem?_eq_getElem hlt⟩
  have hxs := hmem x (List.mem_of_getElem? hx)
  have hcA := clone_fp x.rd hxs.rd
  have hcB := clone_fp x.ls hxs.ls
  have htl : (L.take k).length = k := by rw [List.length_take]; omega
  simp (disch := omega) only [push_cast, go_sem, zA, simprocAttr, hx, hlt, Sn.V_eq]
  intro g5
  refine Sat.drawnE [] [] [0, 1, 2, 3, 4, 5, 6, 7] cloneT (by kernel_rfl) (by kernel_rfl) ?_
  simp (disch := omega) only [push_cast, go_sem, zA, simprocAttr]
  refine runD_pure rfl hcA rfl rfl ?_ ?_
  ·rfl
  simp (disch := omega) only [push_cast, go_sem, zA, simprocAttr]
  refine runD_pure rfl hcB rfl rfl ?_ ?_
  ·rfl
  simp (disch := omega) only [push_cast, go_sem, zA, simprocAttr, hγ']
  intro g6
  refine ⟨⟨htl, by omega⟩, fun γ' c' _ => ?_⟩
  refine hJ ⟨k + 1, 34, γ', c'⟩ _ _ ⟨by dsimp only; omega, .inr rfl⟩ (by dsimp only; omega) ?_
  (refine zB ?_; repeat (first | exact zC | exact zD | refine zE (by decide) ?_ | refine zF ?_ ?_ | refine zG ?_ ?_)) <;> (try simp (disch := omega) only [push_cast, go_sem, zA, simprocAttr])
  all_goals simp [take_get hx, Sn.V, htl]
 ·have : k = L.length := by omega
  subst this
  simp (disch := omega) only [push_cast, go_sem, zA, simprocAttr, List.take_length]
  refine Sat.freezeT (upd noT 3 (.sl (L.map Sn.V))) noM 3 (e := e) (γ := γ) (cap := c) (es := L.map Sn.V) rfl ?_ ?_
  ·(refine zB ?_; repeat (first | exact zC | exact zD | refine zE (by decide) ?_ | refine zF ?_ ?_ | refine zG ?_ ?_)) <;> (try simp (disch := omega) only [push_cast, go_sem, zA, simprocAttr])
  refine Sat.of (S := []) (by kernel_rfl) ?_
  simp (disch := omega) only [push_cast, go_sem, zA, simprocAttr]
end
section
open Go.RowKit
end
section
open Go.RowKit
def netL (R : Nat → Nat → Bool) (n : Nat) : List (List Bool) := (List.range n).map fun a => (List.range n).map (R a)
def boolsV (l : List Bool) : V := .sl (l.map V.bool)
@[push_cast] theorem fzs_bl (l : List Bool) : (l.map V.bool).map V.fz = l.map V.bool := by rw [List.map_map]; exact List.map_congr_left fun d _ => rfl
@[push_cast] theorem flatL_bl (l : List Bool) : flatL (l.map V.bool) = true := by simp [flatL, V.cells, V.flatC]
@[push_cast] theorem fzs_bls (l : List (List Bool)) : (l.map boolsV).map V.fz = l.map boolsV := by rw [List.map_map]; exact List.map_congr_left fun d _ => rfl
theorem netL_len (R : Nat → Nat → Bool) (n : Nat) : (netL R n).length = n := by simp [netL]
@[push_cast] theorem okY_bl (l : List Bool) : okY Tryz.prog 4 (l.map V.bool) = True := by
 simp only [okY, List.mem_map, eq_iff_iff, iff_true]
 rintro y ⟨d, _, rfl⟩
 exact ⟨by rw [szT_4]; rfl, by simp [V.cells, V.one]⟩
structure RowN where
 e : TypeId
 γ : Option Nat
 c : Nat
 l : List Bool
def RowN.V (x : RowN) : V := .own x.e x.γ x.c (x.l.map V.bool)
theorem RowN.V_eq (x : RowN) : x.V = .own x.e x.γ x.c (x.l.map V.bool) := rfl
@[push_cast] theorem modBool (l : List Bool) (k : Nat) (z : Bool) : (l.map V.bool).modify k (fun x => x.setC 0 (V.bool z)) = (l.set k z).map V.bool := by
 apply List.ext_getElem?
 intro i
 rw [List.getElem?_modify, List.getElem?_map, List.getElem?_map, List.getElem?_set]
 by_cases h : k = i
 ·subst h
  cases hl : l[k]? with
  | none => have := List.getElem?_eq_none_iff.1 hl; simp; omega
  | some a => have := (List.getElem?_eq_some_iff.1 hl).1; simp [this, V.setC]
 ·simp [h]
@[push_cast] theorem modRow (xs : List RowN) (a : Nat) (e : TypeId) (γ : Option Nat) (c : Nat) (l : List Bool) :
  (xs.map RowN.V).modify a (fun x => x.setC 0 (V.own e γ c (l.map V.bool))) = (xs.set a ⟨e, γ, c, l⟩).map RowN.V := by
 apply List.ext_getElem?
 intro i
 rw [List.getElem?_modify, List.getElem?_map, List.getElem?_map, List.getElem?_set]
 by_cases h : a = i
 ·subst h
  cases hl : xs[a]? with
  | none => have := List.getElem?_eq_none_iff.1 hl; simp; omega
  | some y => have := (List.getElem?_eq_some_iff.1 hl).1; simp [this, V.setC, RowN.V]
 ·simp [h]
end
section
open Go.RowKit
end
section
open Go.RowKit
section
variable (p : Prog) (x : Exe) (g : Nat) (c2 c3 c4 c5 : V) (a b : Nat)
end
end
section
open Go.RowKit
section
variable (p : Prog) (x : Exe) (g : Nat) (a b : Nat)
end
end
section
open Go.RowKit
structure Exe.few (x : Exe) : Prop where
 fr : x.fr.length ≤ 43
 od : x.od.length = 3
 row : ∀ r ∈ x.od, r.length ≤ 43
end
end Go.Proofs.YtkdolbffabmemaaGreatDoor
