/-
 Contracts and plain laws.
-/
import Derived.Test.YtkdolbffabmemaaGreatDoorLc
import Derived.Test.YtkdolbffabmemaaGreatDoorLd
import Derived.Test.YtkdolbffabmemaaGreatDoorLe
set_option linter.unusedSimpArgs false
set_option linter.unusedVariables false
set_option linter.unusedSectionVars false
namespace Go.Proofs.YtkdolbffabmemaaGreatDoor
section
open Go.RowKit
section
variable {P : Program} {M : Mem} {k : V → Mem → Prop} {ro c : Bool}
end
section
variable (p : Prog) (g : Nat) (c2 c3 c4 c5 : V) (a b : Nat)
end
section
variable (p : Prog) (x : Exe) (g : Nat) (c4 c5 : V) (a b : Nat)
end
section
variable (p : Prog) (x : Exe) (g : Nat) (c2 c3 c4 c5 : V) (a b : Nat)
end
end
section
open Go.RowKit
section
variable {P : Program} {N : Nat} {imm imm' imm0 : Nat → Prop} {w w' w0 : World} {M M0 M' Mm : Mem} {t T : Nat → V} {a : Act} {C : Kont}
def Fx (P : Program) (o g : Nat) (e : TypeId) (es : List V) (T t : Nat → V) : Prop := ∀ i, T i = .undef ∨ T i = t i ∨
 ∃ r j k x, t i = .ptr o [] r j g k ∧ es[r]? = some x ∧ k = szT P e ∧ T i = .eptr ((x.cells.drop j).map V.fz)
section
variable {o g : Nat} {e : TypeId} {cap : Nat} {es : List V}
theorem Fx.nil : Fx P o g e es noT t := fun _ => .inl rfl
theorem Fx.upd {d : Nat} {v : V} (h : Fx P o g e es T t) (hv : t d = v) : Fx P o g e es (upd T d v) t := fun i => by
 by_cases hi : i = d
 ·subst hi; exact .inr (.inl (by simp [Go.Proofs.YtkdolbffabmemaaGreatDoor.upd, hv]))
 ·have := h i; simpa [Go.Proofs.YtkdolbffabmemaaGreatDoor.upd, hi] using this
theorem Fx.ptr {d : Nat} {r j k : Nat} {cs : List V} {x : V} (h : Fx P o g e es T t) (hv : t d = .ptr o [] r j g k) (hx : es[r]? = some x) (hk : k = szT P e) (hcs : (x.cells.drop j).map V.fz = cs) :
  Fx P o g e es (Go.Proofs.YtkdolbffabmemaaGreatDoor.upd T d (.eptr cs)) t := fun i => by
 subst hcs
 by_cases hi : i = d
 ·subst hi; exact .inr (.inr ⟨r, j, k, x, hv, hx, hk, by simp [Go.Proofs.YtkdolbffabmemaaGreatDoor.upd]⟩)
 ·have := h i; simpa [Go.Proofs.YtkdolbffabmemaaGreatDoor.upd, hi] using this
theorem Rel.fixP (h : Rel P N imm0 w0 M0 imm t M a w) (ho : M o = some (.own e (some g) cap es)) (hT : Fx P o g e es T t) : ∃ imm', Rel P N imm0 w0 M0 imm' T (M.era o) a w := by
 have hI := h.step.inv
 obtain ⟨h1, k2, h3⟩ := hI.freeze ho
 have he : Ev imm w (fun g' => imm g' ∨ (V.own e (some g) cap es).blocks g') w := fun g' hg => ⟨.inl hg, rfl⟩
 have hlt : ∀ g', (imm g' ∨ (V.own e (some g) cap es).blocks g') → g' < w.heap.size := fun g' hg => hg.elim (h.step.lt g') (fun hb => (h3 g' hb).1)
 refine ⟨fun g' => imm g' ∨ (V.own e (some g) cap es).blocks g', h.size, h.defers, fun i => ?_, ?_, h.glob.ev he⟩
 ·rcases hT i with e1 | e1 | ⟨r, j, k, x, e1, e3, e4, e5⟩
  ·rw [e1]; exact .undef _
  ·rw [e1]; exact (h.tm i).ev he
  ·have hv := (e1 ▸ h.tm i : Rp imm w (.ptr o [] r j g k) _).ptr_inv
   have hnd := hI.nd o [] (.own e (some g) cap es) (by simp [Mem.getP, ho, V.getP])
   obtain ⟨n1, n2, n3, cur0, n4, n5, n6⟩ := hnd
   have hxl := (n6 r x e3).1
   have hxz : (es.map V.fz)[r]? = some x.fz := by rw [List.getElem?_map, e3]; rfl
   rw [e5, hv]
   generalize hes : es.map V.fz = zs at k2 hxz
   generalize hu : Value.slice ((some g).map fun g => (⟨g, 0, none⟩ : Addr)) es.length cap = u at k2
   cases k2 with
   | sl0 => simp at hxz
   | sl _ g' off cap' kk cur tt fr f hi hg hk hl hc hh =>
    simp only [Option.map_some, Value.slice.injEq, Option.some.injEq, Addr.mk.injEq] at hu
    obtain ⟨⟨rfl, rfl, _⟩, _, _⟩ := hu
    have hkk : kk = szT P e := by
     have := hl r x.fz hxz
     rw [cells_fz, List.length_map, hxl] at this
     exact this.symm
    subst hkk
    subst e4
    refine .eptr _ g (r * szT P e + j) cur tt fr (fun l => f r (j + l)) hi hg (fun l c hlc => ?_) (fun l c hlc => ?_)
    ·rw [List.getElem?_map, Option.map_eq_some_iff] at hlc
     obtain ⟨c0, hc0, rfl⟩ := hlc
     rw [List.getElem?_drop] at hc0
     have := hc r x.fz (j + l) c0.fz hxz (by rw [cells_fz, List.getElem?_map, hc0]; rfl)
     rw [← this]; congr 1; omega
    ·rw [List.getElem?_map, Option.map_eq_some_iff] at hlc
     obtain ⟨c0, hc0, rfl⟩ := hlc
     rw [List.getElem?_drop] at hc0
     exact hh r x.fz (j + l) c0.fz hxz (by rw [cells_fz, List.getElem?_map, hc0]; rfl)
 ·refine h.step.trans ⟨h1, hlt, Nat.le_refl _, rfl, rfl, rfl, fun g' hg hno => ⟨rfl, ?_⟩, fun g' hg => .inl (owns_sub era_sub hg)⟩
  exact ⟨fun hh => hh.resolve_right (fun hb => hno (h3 g' hb).2), .inl⟩
theorem Sat.fixP {c : Code} (o : Nat) (T : Nat → V) (ho : M o = some (.own e (some g) cap es)) (hT : Fx P o g e es T t) (h : Sat P N c T (M.era o) C) : Sat P N c t M C := by
 intro imm0 w0 M0 imm a w hr
 obtain ⟨imm', hr'⟩ := hr.fixP ho hT
 exact h _ _ _ _ _ _ hr'
end
end
section
variable {P : Program} {M : Mem} {k : V → Mem → Prop}
end
end
section
open Go.RowKit
def netR (p : Prog) (x : Exe) (kind : Int) (a b : Nat) : Bool := staysS p kind a b || toldS p x kind a b
theorem has_way (p : Prog) (x : Exe) (kind : Int) (a b : Nat) (hw : Way p x) (hx : x.small) (hk : inB kind 1 3 = true) (hal : a < (events p).length) (hbl : b < (events p).length) :
  Fp Tryz.prog 73 [(scene p).V, x.V, .int .i64 kind, .int .i64 a, .int .i64 b] (.bool (netR p x kind a b)) := by
 have hpk := hw.ok
 have hel := events_le hpk
 have hsl : (scene p).ds.length = (events p).length := by simp [scene]
 have hes : (scene p).es = events p := rfl
 obtain ⟨t, ht⟩ := out_ex hpk a hal
 obtain ⟨f, t', ok, hR⟩ := insR_ex a t (bkI (events p) (scene p).ds a a)
 have hfit : Fit (scene p).ds x := ⟨hw.fr, hw.od, hx.row, scene_p hpk⟩
 have hins := inside_fn (scene p) a t (by omega) (by omega) (scene_len p) (fun f hf => by obtain ⟨q1, q2, q3⟩ := ht f hf; exact q1.out q2 q3)
 rw [hes, hR] at hins
 obtain ⟨eb, heb⟩ : ∃ e, (events p)[b]? = some e := ⟨_, List.getElem?_eq_getElem hbl⟩
 obtain ⟨ea, hea⟩ : ∃ e, (events p)[a]? = some e := ⟨_, List.getElem?_eq_getElem hal⟩
 have hda : (scene p).ds[a]? = some (dsA p a) := by rw [dsA, scene_get hea]; rfl
 have hdb : (scene p).ds[b]? = some (dsA p b) := by rw [dsA, scene_get heb]; rfl
 have hlo := loose_fn (scene p) a b (by omega) (by omega) (lastRd (scene p).ds b) f t' ok (dsA p a) (dsA p b) hda hdb (fun h3 => by
  obtain ⟨r1, r2, r3⟩ := lastRd_spec (scene_copy hpk b _ hdb h3)
  exact lastRead_fn (scene p) b _ (by omega) (by omega) r1 r2 r3) hins
 have hhas := has_fn (scene p) x kind a b (by omega) (by omega) (scene_len p) hfit _ hlo
 have he := has_eq hw (by omega) hk (looseB (dsA p a) (dsA p b) a b (lastRd (scene p).ds b) f t' ok) (a := a) (b := b) (fun ho => loose_eq hpk hbl ho ht f t' ok hR)
 rw [hes] at hhas
 simp only [dsA] at he hhas
 rw [he] at hhas
 exact hhas
def scC (s : Sc) : List V := [.sl (s.p.map thrV), .sl (s.es.map Evt.V), .sl (s.ds.map Do.V)]
theorem scC_eq (s : Sc) : scC s = [.sl (s.p.map thrV), .sl (s.es.map Evt.V), .sl (s.ds.map Do.V)] := rfl
def exC (x : Exe) : List V := [.sl (x.fr.map (V.int .i64)), .sl (x.od.map intsV)]
theorem exC_eq (x : Exe) : exC x = [.sl (x.fr.map (V.int .i64)), .sl (x.od.map intsV)] := rfl
theorem set2_fn (p : Prog) (x : Exe) (kind : Int) (a b : Nat) (hw : Way p x) (hx : x.small) (hk : inB kind 1 3 = true) (hal : a < (events p).length) (hbl : b < (events p).length) :
  Fp Tryz.prog 72 [.int .i64 a, .int .i64 b, .eptr (scC (scene p)), .eptr (exC x), .eptr [.int .i64 kind]] (.bool (netR p x kind a b)) := by
 have h := has_way p x kind a b hw hx hk hal hbl
 rw [Sc.V_eq, Exe.V_eq] at h
 refine Fc.start (S := []) Tryz.func72 Tryz.ntmps72 Tryz.results72 rfl (by decide) rfl (by kernel_rfl) ?_
 simp (disch := omega) only [push_cast, go_sem, zA, simprocAttr, scC_eq, exC_eq]
 refine callR.pure h rfl rfl ?_
 simp (disch := omega) only [push_cast, go_sem, zA, simprocAttr]
def usesT : Table := fun f args _ => if f = 61 then match args with | [.agg [.int .i64 k, .int .i64 p, .int .i64 v]] => some fun r m => r = .bool (Do.uses ⟨k, p, v⟩) ∧ m = noM | _ => none else none
theorem place_eq {p : Prog} {x : Exe} (h : Way p x) {a b : Nat} (hb : b < (scene p).ds.length) :
  ((sameS p a b && ownB (events p) a b) || (x.fr[b]?.getD 0 == (a : Int)) || overB (scene p).ds x a b) = netR p x 0 a b := by
 rw [netR, ← read_eq h hb, ← over_eq]
 simp [staysS, toldS, Bool.and_comm, Bool.or_assoc]
theorem set1_fn (p : Prog) (x : Exe) (a b : Nat) (hw : Way p x) (hx : x.small) (hal : a < (events p).length) (hbl : b < (events p).length) :
  Fp Tryz.prog 68 [.int .i64 a, .int .i64 b, .eptr (scC (scene p)), .eptr (exC x)] (.bool (netR p x 0 a b)) := by
 have hpk := hw.ok
 have hsl : (scene p).ds.length = (events p).length := by simp [scene]
 have hes : (scene p).es = events p := rfl
 have hfit : Fit (scene p).ds x := ⟨hw.fr, hw.od, hx.row, scene_p hpk⟩
 have hover := over_fn (scene p) x a b (by omega) (by omega) hfit
 have hown := own_fn (scene p) a b hal hbl
 rw [← place_eq hw (by omega)]
 obtain ⟨eb, heb⟩ : ∃ e, (events p)[b]? = some e := ⟨_, List.getElem?_eq_getElem hbl⟩
 obtain ⟨ea, hea⟩ : ∃ e, (events p)[a]? = some e := ⟨_, List.getElem?_eq_getElem hal⟩
 have hda : (scene p).ds[a]? = some (dsA p a) := by rw [dsA, scene_get hea]; rfl
 have hdb : (scene p).ds[b]? = some (dsA p b) := by rw [dsA, scene_get heb]; rfl
 have has : a < (scene p).ds.length := by omega
 have hbs : b < (scene p).ds.length := by omega
 obtain ⟨z, hz⟩ : ∃ z, x.fr[b]? = some z := ⟨_, List.getElem?_eq_getElem (by rw [hw.fr]; exact hbs)⟩
 have hbf : b < x.fr.length := by rw [hw.fr]; exact hbs
 obtain ⟨ow, how⟩ : ∃ v, ownB (events p) a b = v := ⟨_, rfl⟩
 obtain ⟨ov, hov⟩ : ∃ v, overB (scene p).ds x a b = v := ⟨_, rfl⟩
 obtain ⟨rd, hrd⟩ : ∃ v, (z == (a : Int)) = v := ⟨_, rfl⟩
 obtain ⟨da, hda'⟩ : ∃ d, dsA p a = d := ⟨_, rfl⟩
 obtain ⟨db, hdb'⟩ : ∃ d, dsA p b = d := ⟨_, rfl⟩
 rw [hda'] at hda
 rw [hdb'] at hdb
 rw [hes] at hown
 rw [how] at hown
 rw [hov] at hover
 rw [how, hov, hz, Option.getD_some, hrd, sameS, hda', hdb']
 rw [Sc.V_eq] at hown hover
 rw [Exe.V_eq] at hover
 have hua := uses_fn da
 have hub := uses_fn db
 rw [Do.V_eq] at hua hub
 refine Fc.start (S := [2]) Tryz.func68 Tryz.ntmps68 Tryz.results68 rfl (by decide) rfl (by kernel_rfl) ?_
 simp (disch := omega) only [push_cast, go_sem, zA, simprocAttr, scC_eq, exC_eq]
 refine Sat.drawnE [] [] (List.range 30) usesT (by kernel_rfl) (by kernel_rfl) ?_
 simp (disch := omega) only [push_cast, go_sem, zA, simprocAttr, hda, hdb, has, hbs, Do.V_eq]
 refine runD_pure (spec := usesT) rfl hua rfl rfl ?_ ?_
 ·rfl
 cases h1 : da.uses
 ·simp (disch := omega) only [push_cast, go_sem, zA, simprocAttr]
  refine Sat.of (S := []) (by kernel_rfl) ?_
  simp (disch := omega) only [push_cast, go_sem, zA, simprocAttr, hz, hbf, hrd]
  cases rd
  ·simp (disch := omega) only [push_cast, go_sem, zA, simprocAttr]
   refine callR.pure hover rfl rfl ?_
   simp (disch := omega) only [push_cast, go_sem, zA, simprocAttr]
  ·simp (disch := omega) only [push_cast, go_sem, zA, simprocAttr]
 simp (disch := omega) only [push_cast, go_sem, zA, simprocAttr, hda, hdb, has, hbs, Do.V_eq]
 refine runD_pure (spec := usesT) rfl hub rfl rfl ?_ ?_
 ·rfl
 cases h2 : db.uses
 ·simp (disch := omega) only [push_cast, go_sem, zA, simprocAttr]
  refine Sat.of (S := []) (by kernel_rfl) ?_
  simp (disch := omega) only [push_cast, go_sem, zA, simprocAttr, hz, hbf, hrd]
  cases rd
  ·simp (disch := omega) only [push_cast, go_sem, zA, simprocAttr]
   refine callR.pure hover rfl rfl ?_
   simp (disch := omega) only [push_cast, go_sem, zA, simprocAttr]
  ·simp (disch := omega) only [push_cast, go_sem, zA, simprocAttr]
 simp (disch := omega) only [push_cast, go_sem, zA, simprocAttr, hda, hdb, has, hbs, Do.V_eq]
 cases h3 : (da.p == db.p)
 ·refine Sat.of (S := []) (by kernel_rfl) ?_
  simp (disch := omega) only [push_cast, go_sem, zA, simprocAttr, hz, hbf, hrd]
  cases rd
  ·simp (disch := omega) only [push_cast, go_sem, zA, simprocAttr]
   refine callR.pure hover rfl rfl ?_
   simp (disch := omega) only [push_cast, go_sem, zA, simprocAttr]
  ·simp (disch := omega) only [push_cast, go_sem, zA, simprocAttr]
 refine Sat.of (S := []) (by kernel_rfl) ?_
 simp (disch := omega) only [push_cast, go_sem, zA, simprocAttr]
 refine callR.pure hown rfl rfl ?_
 cases ow
 ·simp (disch := omega) only [push_cast, go_sem, zA, simprocAttr, hz, hbf, hrd]
  cases rd
  ·simp (disch := omega) only [push_cast, go_sem, zA, simprocAttr]
   refine callR.pure hover rfl rfl ?_
   simp (disch := omega) only [push_cast, go_sem, zA, simprocAttr]
  ·simp (disch := omega) only [push_cast, go_sem, zA, simprocAttr]
 ·simp (disch := omega) only [push_cast, go_sem, zA, simprocAttr]
end
section
open Go.RowKit
def chIn (ds : List Do) (e : Nat) : Nat → List (Nat × Nat)
 | 0 => []
 | j + 1 => chIn ds e j ++ (if kd ds j == 7 then [(e, j)] else [])
def ltA (es : List Evt) (k : Nat) : Bool := (es[k]?.getD default).l
def chOut (s : Sc) : Nat → List (Nat × Nat)
 | 0 => []
 | k + 1 => chOut s k ++ (if kd s.ds k == 9 && ltA s.es k then chIn s.ds k s.ds.length else [])
def chE (out : Nat → Nat) (q : Nat × Nat) : V := .agg [.int .i64 (out q.2 : Int), .int .i64 (q.1 : Int), .int .i64 ((q.1 : Int) - 1), .int .i64 (q.2 : Int)]
theorem chIn_le (ds : List Do) (e : Nat) : ∀ j, (chIn ds e j).length ≤ j
 | 0 => by simp [chIn]
 | j + 1 => by
  have := chIn_le ds e j
  simp only [chIn, List.length_append]
  split <;> simp <;> omega
theorem chOut_le (s : Sc) (hn : s.ds.length ≤ 62) : ∀ k, (chOut s k).length ≤ k * 62
 | 0 => by simp [chOut]
 | k + 1 => by
  have := chOut_le s hn k
  have := chIn_le s.ds k s.ds.length
  simp only [chOut, List.length_append]
  split <;> simp <;> omega
theorem fz_ch (out : Nat → Nat) (l : List (Nat × Nat)) : (l.map (chE out)).map V.fz = l.map (chE out) := by rw [List.map_map]; exact List.map_congr_left fun d _ => rfl
@[push_cast] theorem fzs_ch (out : Nat → Nat) (l : List (Nat × Nat)) : (l.map (chE out)).map V.fz = l.map (chE out) := fz_ch out l
@[push_cast] theorem flatL_ch (out : Nat → Nat) (l : List (Nat × Nat)) : flatL (l.map (chE out)) = true := by simp [flatL, V.cells, V.flatC, chE]
theorem choices_fn (s : Sc) (hn : s.ds.length ≤ 62) (hes : s.es.length = s.ds.length) (out : Nat → Nat)
  (hin : ∀ i, i < s.ds.length → kd s.ds i = 7 → Fp Tryz.prog 120 [s.V, .int .i64 i] (.tuple [.int .i64 i, .int .i64 (out i), .bool true])) :
  Fp Tryz.prog 75 [s.V] (.sl ((chOut s s.ds.length).map (chE out))) := by
 rw [Sc.V_eq] at hin
 obtain ⟨n, hnn⟩ : ∃ n, s.ds.length = n := ⟨_, rfl⟩
 rw [hnn] at hn hes hin ⊢
 refine Fc.start (S := [14]) Tryz.func75 Tryz.ntmps75 Tryz.results75 rfl (by decide) rfl (by kernel_rfl) ?_
 simp (disch := omega) only [push_cast, go_sem, zA, simprocAttr, Sc.V_eq]
 intro g1
 refine Sat.loop (σ := EvS) (fun x => upd (upd (upd (upd (upd noT 1 (.ptr 1 [] 0 0 g1 3)) 12 (.sl (s.ds.map Do.V))) 13 (.int .i64 n)) 14 (.int .i64 x.k)) 3 (.msl 3 [] x.γ (chOut s x.k).length x.c))
  (fun x => (noM.set 1 (.own 55 (some g1) 1 [.agg [.sl (s.p.map thrV), .sl (s.es.map Evt.V), .sl (s.ds.map Do.V)]])).set 3 (.own x.e x.γ x.c ((chOut s x.k).map (chE out))))
  (fun x => x.k ≤ n ∧ (x.γ = none ∨ x.e = 143)) (fun x => n - x.k) ⟨0, 0, none, 0⟩ (by simp) ?_ ?_
 ·(refine zB ?_; repeat (first | exact zC | exact zD | refine zE (by decide) ?_ | refine zF ?_ ?_ | refine zG ?_ ?_)) <;> (try simp (disch := omega) only [push_cast, go_sem, zA, simprocAttr])
  all_goals first | rfl | rw [hnn]
 rintro ⟨k, e, γ, c⟩ ⟨hk, hγ⟩ J hJ
 refine Sat.of (S := [14]) (by kernel_rfl) ?_
 simp only at hk hγ hJ
 have hb := chOut_le s (by omega) k
 rcases Nat.lt_or_ge k n with hlt | hge
 ·obtain ⟨d, hd⟩ : ∃ d, s.ds[k]? = some d := ⟨_, List.getElem?_eq_getElem (by omega)⟩
  obtain ⟨ev, hev⟩ : ∃ d, s.es[k]? = some d := ⟨_, List.getElem?_eq_getElem (by omega)⟩
  have hkd : kd s.ds k = d.k := by rw [kd, hd]; rfl
  have hla : ltA s.es k = ev.l := by rw [ltA, hev]; rfl
  have hlts : k < s.ds.length := by omega
  have hlte : k < s.es.length := by omega
  have hγ' : (γ = none ∨ e = 143) = True := by simp only [hγ]
  have hm : n - (k + 1) < n - k := by omega
  have same : (d.k == 9 && ev.l) = false → chOut s (k + 1) = chOut s k := fun h => by simp only [chOut, hkd, hla, h]; simp
  simp (disch := omega) only [push_cast, go_sem, zA, simprocAttr, hd, hlt, hlts, Do.V_eq, hγ']
  intro g2
  cases h9 : (d.k == 9)
  ·have h9' : (d.k != 9) = true := by simp [bne, h9]
   simp (disch := omega) only [push_cast, go_sem, zA, simprocAttr, h9']
   refine hJ ⟨k + 1, e, γ, c⟩ _ _ ⟨by dsimp only; omega, hγ⟩ hm ?_
   (refine zB ?_; repeat (first | exact zC | exact zD | refine zE (by decide) ?_ | refine zF ?_ ?_ | refine zG ?_ ?_)) <;> (try simp (disch := omega) only [push_cast, go_sem, zA, simprocAttr])
   all_goals rw [same (by rw [h9]; rfl)]
  have h9' : (d.k != 9) = false := by simp [bne, h9]
  cases hl : ev.l
  ·simp (disch := omega) only [push_cast, go_sem, zA, simprocAttr, h9', hev, hlte, Evt.V_eq, hl]
   refine hJ ⟨k + 1, e, γ, c⟩ _ _ ⟨by dsimp only; omega, hγ⟩ hm ?_
   (refine zB ?_; repeat (first | exact zC | exact zD | refine zE (by decide) ?_ | refine zF ?_ ?_ | refine zG ?_ ?_)) <;> (try simp (disch := omega) only [push_cast, go_sem, zA, simprocAttr])
   all_goals rw [same (by rw [hl]; simp)]
  simp (disch := omega) only [push_cast, go_sem, zA, simprocAttr, h9', hev, hlte, Evt.V_eq, hl]
  refine Sat.loop (σ := EvS) (fun x => upd (upd (upd (upd (upd (upd (upd (upd (upd noT 1 (.ptr 1 [] 0 0 g1 3)) 12 (.sl (s.ds.map Do.V))) 13 (.int .i64 n)) 14 (.int .i64 k)) 3 (.msl 3 [] x.γ (chOut s k ++ chIn s.ds k x.k).length x.c)) 4 (.int .i64 k)) 32 (.sl (s.ds.map Do.V))) 33 (.int .i64 n)) 34 (.int .i64 x.k))
   (fun x => (noM.set 1 (.own 55 (some g1) 1 [.agg [.sl (s.p.map thrV), .sl (s.es.map Evt.V), .sl (s.ds.map Do.V)]])).set 3 (.own x.e x.γ x.c ((chOut s k ++ chIn s.ds k x.k).map (chE out))))
   (fun x => x.k ≤ n ∧ (x.γ = none ∨ x.e = 143)) (fun x => n - x.k) ⟨0, e, γ, c⟩ ⟨by simp, hγ⟩ ?_ ?_
  ·(refine zB ?_; repeat (first | exact zC | exact zD | refine zE (by decide) ?_ | refine zF ?_ ?_ | refine zG ?_ ?_)) <;> (try simp (disch := omega) only [push_cast, go_sem, zA, simprocAttr])
   all_goals simp [chIn, hnn]
  rintro ⟨j, e2, γ2, c2⟩ ⟨hj, hγ2⟩ J2 hJ2
  refine Sat.of (S := []) (by kernel_rfl) ?_
  simp only at hj hγ2 hJ2
  have hb2 := chIn_le s.ds k j
  have hb3 : (chOut s k ++ chIn s.ds k j).length ≤ 62 * 62 + 62 := by rw [List.length_append]; omega
  rcases Nat.lt_or_ge j n with hlt2 | hge2
  ·obtain ⟨d2, hd2⟩ : ∃ d, s.ds[j]? = some d := ⟨_, List.getElem?_eq_getElem (by omega)⟩
   have hkd2 : kd s.ds j = d2.k := by rw [kd, hd2]; rfl
   have hlts2 : j < s.ds.length := by omega
   have hγ2' : (γ2 = none ∨ e2 = 143) = True := by simp only [hγ2]
   have hm2 : n - (j + 1) < n - j := by omega
   simp (disch := omega) only [push_cast, go_sem, zA, simprocAttr, hd2, hlt2, hlts2, Do.V_eq, hγ2']
   intro g3
   cases h7 : (d2.k == 7)
   ·have h7' : (d2.k != 7) = true := by simp [bne, h7]
    simp (disch := omega) only [push_cast, go_sem, zA, simprocAttr, h7']
    refine hJ2 ⟨j + 1, e2, γ2, c2⟩ _ _ ⟨by dsimp only; omega, hγ2⟩ hm2 ?_
    have : chIn s.ds k (j + 1) = chIn s.ds k j := by simp only [chIn, hkd2, h7]; simp
    rw [this]
    (refine zB ?_; repeat (first | exact zC | exact zD | refine zE (by decide) ?_ | refine zF ?_ ?_ | refine zG ?_ ?_)) <;> (try simp (disch := omega) only [push_cast, go_sem, zA, simprocAttr])
   have h7' : (d2.k != 7) = false := by simp [bne, h7]
   simp (disch := omega) only [push_cast, go_sem, zA, simprocAttr, h7']
   refine callR.pure (hin j hlt2 (by rw [hkd2]; simpa using h7)) rfl rfl ?_
   simp (disch := omega) only [push_cast, go_sem, zA, simprocAttr, hγ2']
   intro g4
   refine ⟨by omega, fun γ4 c4 _ => ?_⟩
   refine hJ2 ⟨j + 1, 143, γ4, c4⟩ _ _ ⟨by dsimp only; omega, .inr rfl⟩ hm2 ?_
   have : chIn s.ds k (j + 1) = chIn s.ds k j ++ [(k, j)] := by simp only [chIn, hkd2, h7]; rfl
   rw [this]
   (refine zB ?_; repeat (first | exact zC | exact zD | refine zE (by decide) ?_ | refine zF ?_ ?_ | refine zG ?_ ?_)) <;> (try simp (disch := omega) only [push_cast, go_sem, zA, simprocAttr])
   all_goals simp [chE]
   all_goals omega
  ·have : j = n := by omega
   subst this
   simp (disch := omega) only [push_cast, go_sem, zA, simprocAttr]
   refine hJ ⟨k + 1, e2, γ2, c2⟩ _ _ ⟨by dsimp only; omega, hγ2⟩ hm ?_
   have : chOut s (k + 1) = chOut s k ++ chIn s.ds k j := by simp only [chOut, hkd, hla, h9, hl, hnn]; rfl
   rw [this]
   (refine zB ?_; repeat (first | exact zC | exact zD | refine zE (by decide) ?_ | refine zF ?_ ?_ | refine zG ?_ ?_)) <;> (try simp (disch := omega) only [push_cast, go_sem, zA, simprocAttr])
 ·have : k = n := by omega
  subst this
  simp (disch := omega) only [push_cast, go_sem, zA, simprocAttr]
  refine Sat.freezeT (upd noT 3 (.sl ((chOut s k).map (chE out)))) noM 3 (e := e) (γ := γ) (cap := c) (es := (chOut s k).map (chE out)) rfl ?_ ?_
  ·(refine zB ?_; repeat (first | exact zC | exact zD | refine zE (by decide) ?_ | refine zF ?_ ?_ | refine zG ?_ ?_)) <;> (try simp (disch := omega) only [push_cast, go_sem, zA, simprocAttr])
  refine Sat.of (S := []) (by kernel_rfl) ?_
  simp (disch := omega) only [push_cast, go_sem, zA, simprocAttr]
end
section
open Go.RowKit
def wiR (R : Nat → Nat → Bool) (a b : Nat) : Nat → Nat → Bool := fun x y => R x y || (x == a && y == b)
def settleR (n : Nat) (out : Nat → Nat) : List (Nat × Nat) → (Nat → Nat → Bool) → Option (Nat → Nat → Bool)
 | [], R => if (lineE R n).isSome then some R else none
 | (e, i) :: l, R => if (lineE R n).isSome then (settleR n out l (wiR R (out i) e)).or (settleR n out l (wiR R (e - 1) i)) else none
def settleV (n : Nat) : Option (Nat → Nat → Bool) → V
 | some R => .tuple [bitsV (graphL R n), .bool true]
 | none => .tuple [.nilsl, .bool false]
theorem settle_no {n : Nat} {out : Nat → Nat} {l : List (Nat × Nat)} {R : Nat → Nat → Bool} (h : lineE R n = none) : settleR n out l R = none := by
 cases l with
 | nil => rw [settleR, h]; rfl
 | cons q l => obtain ⟨e, i⟩ := q; rw [settleR, h]; rfl
theorem graphL_wi {R : Nat → Nat → Bool} {n a b : Nat} (ha : a < n) (hb : b < n) : (graphL R n).set a (msk (R a) n ||| p2 b) = graphL (wiR R a b) n := by
 apply List.ext_getElem?
 intro i
 rw [List.getElem?_set, graphL_len, graphL, graphL, List.getElem?_map, List.getElem?_map]
 by_cases hi : i < n
 ·rw [List.getElem?_range hi]
  by_cases h : a = i
  ·subst h
   simp only [if_true, hi, Option.map_some, Option.some.injEq]
   apply bits_eq
   intro j
   rw [Nat.testBit_or, msk_bit, p2_bit, msk_bit, wiR]
   by_cases hj : j < n
   ·simp [hj]
   ·have hjb : (j == b) = false := by simp; omega
    simp [hj, hjb]
  ·have h' : (i == a) = false := by simp; omega
   simp only [h, if_false, Option.map_some, Option.some.injEq]
   apply bits_eq
   intro j
   rw [msk_bit, msk_bit, wiR, h']
   simp
 ·have : (List.range n)[i]? = none := by simp; omega
  rw [this]
  by_cases h : a = i
  ·subst h; simp [hi]
  ·simp [h]
theorem graphL_get {R : Nat → Nat → Bool} {n a : Nat} (ha : a < n) : (graphL R n)[a]? = some (msk (R a) n) := by
 rw [graphL, List.getElem?_map, List.getElem?_range ha]; rfl
theorem lineR_fn (R : Nat → Nat → Bool) (n : Nat) (hn : n ≤ 62) : Fp Tryz.prog 71 [bitsV (graphL R n)] (lineV (lineE R n)) := by
 have h := line_fn (graphL R n) (by rw [graphL_len]; exact hn) (graphL_lt hn)
 rw [graphL_len, line_congr fun a b ha hb => graphL_rel ha hb] at h
 exact h
theorem chE_eq (out : Nat → Nat) {e e' i : Nat} (h : (e : Int) - 1 = (e' : Int)) : chE out (e, i) = .agg [.int .i64 (out i : Int), .int .i64 (e : Int), .int .i64 (e' : Int), .int .i64 (i : Int)] := by rw [← h]; rfl
theorem some_settle (n : Nat) (R : Nat → Nat → Bool) : settleV n (some R) = .tuple [.sl ((graphL R n).map bitE), .bool true] := rfl
theorem no_settle (n : Nat) : settleV n none = .tuple [.nilsl, .bool false] := rfl
theorem ok_line (l : List Nat) : lineV (some l) = .tuple [.sl (l.map natE), .bool true] := rfl
theorem no_line : lineV none = .tuple [.nilsl, .bool false] := rfl
theorem settle_fn (n : Nat) (hn : n ≤ 62) (out : Nat → Nat) : ∀ (l : List (Nat × Nat)) (R : Nat → Nat → Bool), l.length < 2 ^ 40 → (∀ q ∈ l, 1 ≤ q.1 ∧ q.1 < n ∧ q.2 < n ∧ out q.2 < n) →
  Fp Tryz.prog 74 [bitsV (graphL R n), .sl (l.map (chE out))] (settleV n (settleR n out l R)) := by
 intro l
 induction l with
 | nil =>
  intro R _ _
  refine Fp.nilT ?_
  refine Fc.start (S := []) Tryz.func74 Tryz.ntmps74 Tryz.results74 rfl (by decide) rfl (by kernel_rfl) ?_
  simp (disch := omega) only [push_cast, go_sem, zA, simprocAttr, bitsV_eq]
  have hline := lineR_fn R n hn
  rw [bitsV_eq] at hline
  refine callR.pure hline rfl rfl ?_
  cases hl : lineE R n with
  | none =>
   simp (disch := omega) only [push_cast, go_sem, zA, simprocAttr, no_line]
   right
   exact ⟨4, [], .bool false, rfl, by rw [settle_no hl]; rfl⟩
  | some ls =>
   simp (disch := omega) only [push_cast, go_sem, zA, simprocAttr, ok_line]
   left
   rw [settleR, hl]; rfl
 | cons q l ih =>
  obtain ⟨e, i⟩ := q
  intro R hlen hq
  obtain ⟨he1, hen, hin, hon⟩ := hq (e, i) (List.mem_cons_self ..)
  simp only at he1 hen hin hon
  obtain ⟨e', hee⟩ : ∃ e', e = e' + 1 := ⟨e - 1, by omega⟩
  have he' : (e : Int) - 1 = (e' : Int) := by omega
  have he1' : e - 1 = e' := by omega
  have hen' : e' < n := by omega
  have hlen' : l.length < 2 ^ 40 := by simp only [List.length_cons] at hlen; omega
  have ihl := fun R' => ih R' hlen' fun q h => hq q (List.mem_cons_of_mem _ h)
  have hline := lineR_fn R n hn
  rw [bitsV_eq] at hline
  have hch := chE_eq (i := i) out he'
  rw [List.map_cons, hch]
  refine Fp.nilT ?_
  refine Fc.start (S := [11]) Tryz.func74 Tryz.ntmps74 Tryz.results74 rfl (by decide) rfl (by kernel_rfl) ?_
  simp (disch := omega) only [push_cast, go_sem, zA, simprocAttr, bitsV_eq]
  refine callR.pure hline rfl rfl ?_
  cases hl : lineE R n with
  | none =>
   simp (disch := omega) only [push_cast, go_sem, zA, simprocAttr, no_line]
   right
   exact ⟨4, [], .bool false, rfl, by rw [settle_no hl]; rfl⟩
  | some ls =>
   obtain ⟨r1, hr1⟩ : ∃ r, settleR n out l (wiR R (out i) e) = r := ⟨_, rfl⟩
   obtain ⟨r2, hr2⟩ : ∃ r, settleR n out l (wiR R e' i) = r := ⟨_, rfl⟩
   have hset : settleR n out ((e, i) :: l) R = r1.or r2 := by rw [settleR, hl, he1', hr1, hr2]; rfl
   rw [hset]
   have h1 := ihl (wiR R (out i) e)
   have h2 := ihl (wiR R e' i)
   rw [hr1, bitsV_eq] at h1
   rw [hr2, bitsV_eq] at h2
   have he0 : ((l.length : Int) + 1 == 0) = false := by simp; omega
   have hl0 : (0 : Int) < (l.length : Int) + 1 := by omega
   have hl1 : (1 : Int) ≤ (l.length : Int) + 1 := by omega
   have hall : ∀ x ∈ (V.agg [.int .i64 (out i : Int), .int .i64 (e : Int), .int .i64 (e' : Int), .int .i64 (i : Int)] :: l.map (chE out)), x.cells.length = 4 := by
    intro x hx
    rcases List.mem_cons.1 hx with rfl | hx
    ·rfl
    ·obtain ⟨q, _, rfl⟩ := List.mem_map.1 hx; rfl
   simp (disch := omega) only [push_cast, go_sem, zA, simprocAttr, ok_line, he0, hl0]
   refine Sat.loop (σ := Nat) (fun k => upd (upd (upd (upd noT 0 (.sl ((graphL R n).map bitE))) 1 (.sl (.agg [.int .i64 (out i : Int), .int .i64 (e : Int), .int .i64 (e' : Int), .int .i64 (i : Int)] :: l.map (chE out)))) 26 (.agg [.int .i64 (out i : Int), .int .i64 (e : Int), .int .i64 (e' : Int), .int .i64 (i : Int)])) 27 (.int .i64 k)) (fun _ => noM)
    (fun k => k ≤ 2 ∧ (1 ≤ k → r1 = none) ∧ (2 ≤ k → r2 = none)) (fun k => 2 - k) 0 (by omega) ?_ ?_
   ·(refine zB ?_; repeat (first | exact zC | exact zD | refine zE (by decide) ?_ | refine zF ?_ ?_ | refine zG ?_ ?_)) <;> (try simp (disch := omega) only [push_cast, go_sem, zA, simprocAttr])
   rintro k ⟨hk, hk1, hk2⟩ J hJ
   refine Sat.of (S := [11]) (by kernel_rfl) ?_
   have hne : graphL R n ≠ [] := by
    intro h0
    have := graphL_len R n
    rw [h0] at this
    simp at this; omega
   have hgl := graphL_len R n
   have hcl := cloneB_fn (graphL R n) (by rw [hgl]; omega) hne
   rw [bitsV_eq, hgl] at hcl
   have hm64 : ∀ a, msk (R a) n < 2 ^ 64 := fun a => Nat.lt_of_lt_of_le (msk_lt _ n) (Nat.pow_le_pow_right (by decide) (by omega))
   have hpe : p2 e < 2 ^ 64 := p2_lt (by omega)
   have hpi : p2 i < 2 ^ 64 := p2_lt (by omega)
   have hdr : List.drop 1 (List.take ((l.length : Int) + 1).toNat (V.agg [.int .i64 (out i : Int), .int .i64 (e : Int), .int .i64 (e' : Int), .int .i64 (i : Int)] :: l.map (chE out))) = l.map (chE out) := by
    rw [show ((l.length : Int) + 1).toNat = l.length + 1 by omega, List.take_succ_cons, List.drop_succ_cons, List.drop_zero, List.take_of_length_le (by simp)]
   match k, hk with
   | 0, _ =>
    have hget := graphL_get (R := R) hon
    have hnx := hon
    simp (disch := omega) only [push_cast, go_sem, zA, simprocAttr]
    intro g9
    refine callR.row hcl rfl rfl ?_
    intro γ cap
    simp (disch := omega) only [push_cast, go_sem, zA, simprocAttr]
    refine Sat.someG (o := 10) (e := 138) (γ := γ) (cap := cap) (es := (graphL R n).map bitE) rfl (by simpa using hne) ?_
    rintro g10 rfl
    refine Sat.drawnE [] [] [2, 4, 6] (fun _ _ _ => none) (by kernel_rfl) (by kernel_rfl) ?_
    simp (disch := omega) only [push_cast, go_sem, zA, simprocAttr, hget, hnx, bitE_eq, bin_shl64 (show e < 64 by omega), bin_or64 (hm64 (out i)) hpe]
    rw [modBits, graphL_wi hon hen]
    refine Sat.freezeT (upd (upd (upd (upd (upd noT 0 (.sl ((graphL R n).map bitE))) 1 (.sl (.agg [.int .i64 (out i : Int), .int .i64 (e : Int), .int .i64 (e' : Int), .int .i64 (i : Int)] :: l.map (chE out)))) 26 (.agg [.int .i64 (out i : Int), .int .i64 (e : Int), .int .i64 (e' : Int), .int .i64 (i : Int)])) 27 (.int .i64 0)) 10 (.sl ((graphL (wiR R (out i) e) n).map bitE))) noM 10 (e := 138) (γ := some g10) (cap := cap) (es := (graphL (wiR R (out i) e) n).map bitE) rfl ?_ ?_
    ·(refine zB ?_; repeat (first | exact zC | exact zD | refine zE (by decide) ?_ | refine zF ?_ ?_ | refine zG ?_ ?_)) <;> (try simp (disch := omega) only [push_cast, go_sem, zA, simprocAttr])
     rw [graphL_len]; simp
    refine Sat.of (S := []) (by kernel_rfl) ?_
    simp (disch := omega) only [push_cast, go_sem, zA, simprocAttr]
    refine ⟨⟨hl1, Int.le_refl _, hall⟩, ?_⟩
    rw [hdr]
    refine callR.pure h1 rfl rfl ?_
    cases hr : r1 with
    | some r =>
     simp (disch := omega) only [push_cast, go_sem, zA, simprocAttr, some_settle]
     left
     rfl
    | none =>
     simp (disch := omega) only [push_cast, go_sem, zA, simprocAttr, no_settle]
     refine hJ 1 _ _ ⟨by omega, fun _ => hr, fun h => absurd h (by omega)⟩ (by omega) ?_
     (refine zB ?_; repeat (first | exact zC | exact zD | refine zE (by decide) ?_ | refine zF ?_ ?_ | refine zG ?_ ?_)) <;> (try simp (disch := omega) only [push_cast, go_sem, zA, simprocAttr])
   | 1, _ =>
    have hget := graphL_get (R := R) hen'
    have hnx := hen'
    simp (disch := omega) only [push_cast, go_sem, zA, simprocAttr]
    intro g9
    refine callR.row hcl rfl rfl ?_
    intro γ cap
    simp (disch := omega) only [push_cast, go_sem, zA, simprocAttr]
    refine Sat.someG (o := 10) (e := 138) (γ := γ) (cap := cap) (es := (graphL R n).map bitE) rfl (by simpa using hne) ?_
    rintro g10 rfl
    refine Sat.drawnE [] [] [2, 4, 6] (fun _ _ _ => none) (by kernel_rfl) (by kernel_rfl) ?_
    simp (disch := omega) only [push_cast, go_sem, zA, simprocAttr, hget, hnx, bitE_eq, bin_shl64 (show i < 64 by omega), bin_or64 (hm64 (e')) hpi]
    rw [modBits, graphL_wi hen' hin]
    refine Sat.freezeT (upd (upd (upd (upd (upd noT 0 (.sl ((graphL R n).map bitE))) 1 (.sl (.agg [.int .i64 (out i : Int), .int .i64 (e : Int), .int .i64 (e' : Int), .int .i64 (i : Int)] :: l.map (chE out)))) 26 (.agg [.int .i64 (out i : Int), .int .i64 (e : Int), .int .i64 (e' : Int), .int .i64 (i : Int)])) 27 (.int .i64 1)) 10 (.sl ((graphL (wiR R (e') i) n).map bitE))) noM 10 (e := 138) (γ := some g10) (cap := cap) (es := (graphL (wiR R (e') i) n).map bitE) rfl ?_ ?_
    ·(refine zB ?_; repeat (first | exact zC | exact zD | refine zE (by decide) ?_ | refine zF ?_ ?_ | refine zG ?_ ?_)) <;> (try simp (disch := omega) only [push_cast, go_sem, zA, simprocAttr])
     rw [graphL_len]; simp
    refine Sat.of (S := []) (by kernel_rfl) ?_
    simp (disch := omega) only [push_cast, go_sem, zA, simprocAttr]
    refine ⟨⟨hl1, Int.le_refl _, hall⟩, ?_⟩
    rw [hdr]
    refine callR.pure h2 rfl rfl ?_
    have hr1' := hk1 (Nat.le_refl _)
    cases hr : r2 with
    | some r =>
     simp (disch := omega) only [push_cast, go_sem, zA, simprocAttr, some_settle]
     left
     rw [hr1']; rfl
    | none =>
     simp (disch := omega) only [push_cast, go_sem, zA, simprocAttr, no_settle]
     refine hJ 2 _ _ ⟨by omega, fun _ => hr1', fun _ => hr⟩ (by omega) ?_
     (refine zB ?_; repeat (first | exact zC | exact zD | refine zE (by decide) ?_ | refine zF ?_ ?_ | refine zG ?_ ?_)) <;> (try simp (disch := omega) only [push_cast, go_sem, zA, simprocAttr])
   | 2, _ =>
    simp (disch := omega) only [push_cast, go_sem, zA, simprocAttr]
    right
    exact ⟨4, [], .bool false, rfl, by rw [hk1 (by omega), hk2 (by omega)]; rfl⟩
end
section
open Go.RowKit
def Evt.lt2 (e f : Evt) : Prop := e.t < f.t ∨ (e.t = f.t ∧ (e.s < f.s ∨ (e.s = f.s ∧ e.l = false ∧ f.l = true)))
theorem evThr_lt2 (t : Nat) (l : List Do) : ∀ k, (evThr t l k).Pairwise Evt.lt2
 | 0 => by simp [evThr]
 | k + 1 => by
  rw [evThr, List.pairwise_append]
  refine ⟨evThr_lt2 t l k, ?_, fun a ha b hb => ?_⟩
  ·split
   ·unfold evsOf
    split
    ·simp [Evt.lt2]
    ·simp
   ·exact List.Pairwise.nil
  ·obtain ⟨j, d, h1, _, h2, h3, _⟩ := mem_evThr ha
   split at hb
   ·unfold evsOf at hb
    split at hb
    ·simp at hb
     rcases hb with rfl | rfl <;> exact .inr ⟨h2, .inl (by simp only [h3]; omega)⟩
    ·simp at hb
     subst hb
     exact .inr ⟨h2, .inl (by simp only [h3]; omega)⟩
   ·cases hb
theorem evPro_lt2 (p : Prog) : ∀ i, (evPro p i).Pairwise Evt.lt2
 | 0 => by simp [evPro]
 | i + 1 => by
  rw [evPro, List.pairwise_append]
  refine ⟨evPro_lt2 p i, ?_, fun a ha b hb => ?_⟩
  ·split
   ·exact evThr_lt2 _ _ _
   ·exact List.Pairwise.nil
  ·have := evPro_t ha
   split at hb
   ·rw [Evt.lt2, evThr_t hb]; exact .inl this
   ·cases hb
theorem events_lt2 {p : Prog} {a b : Nat} {ea eb : Evt} (ha : (events p)[a]? = some ea) (hb : (events p)[b]? = some eb) (h : a < b) : ea.lt2 eb := by
 obtain ⟨ha1, ha2⟩ := List.getElem?_eq_some_iff.1 ha
 obtain ⟨hb1, hb2⟩ := List.getElem?_eq_some_iff.1 hb
 have := List.pairwise_iff_getElem.1 (evPro_lt2 p p.length) a b ha1 hb1 h
 rw [← ha2, ← hb2]; exact this
theorem events_inj {p : Prog} {a b : Nat} {e : Evt} (ha : (events p)[a]? = some e) (hb : (events p)[b]? = some e) : a = b := by
 have no : ∀ {a b : Nat}, (events p)[a]? = some e → (events p)[b]? = some e → ¬ a < b := by
  intro a b ha hb h
  have := events_lt2 ha hb h
  simp only [Evt.lt2] at this
  rcases this with h1 | ⟨_, h1 | ⟨_, h1, h2⟩⟩
  ·omega
  ·omega
  ·rw [h1] at h2; cases h2
 have h1 := no ha hb
 have h2 := no hb ha
 omega
theorem evThr_late {t : Nat} {l : List Do} {d : Do} {j : Nat} (hd : l[j]? = some d) (h9 : d.k = 9) : ∀ {k : Nat}, j < k → (evThr t l k)[(evThr t l j).length + 1]? = some ⟨t, j, true⟩
 | 0, h => absurd h (by omega)
 | k + 1, h => by
  rcases Nat.lt_or_ge j k with hj | hj
  ·have := evThr_late (t := t) hd h9 hj
   rw [evThr, List.getElem?_append_left (List.getElem?_eq_some_iff.1 this).1]
   exact this
  ·have : j = k := by omega
   subst this
   rw [evThr, hd, List.getElem?_append_right (by omega)]
   have : (d.k == 9) = true := by simpa using h9
   simp [evsOf, this]
theorem events_late {p : Prog} {l : List Do} {d : Do} {i j : Nat} (hl : p[i]? = some l) (hd : l[j]? = some d) (h9 : d.k = 9) : (events p)[(evPro p i).length + (evThr i l j).length + 1]? = some ⟨i, j, true⟩ := by
 rw [Nat.add_assoc]
 exact evPro_at (List.getElem?_eq_some_iff.1 hl).1 hl (evThr_late hd h9 (List.getElem?_eq_some_iff.1 hd).1)
theorem wait_next {p : Prog} {w : Nat} (hw : w < (events p).length) (h9 : kd (scene p).ds w = 9) (hl : ltA (events p) w = false) : w + 1 < (events p).length ∧ kd (scene p).ds (w + 1) = 9 ∧ ltA (events p) (w + 1) = true := by
 obtain ⟨i, l, j, d, ha⟩ := At.of (List.getElem?_eq_getElem hw)
 have hd9 : d.k = 9 := by rw [← ha.kd]; exact h9
 have hm := At.mk' ha.pl ha.ld
 have hlt := events_late ha.pl ha.ld hd9
 have he : (events p)[w] = ⟨i, j, false⟩ := by
  have h1 := ha.t
  have h2 := ha.s
  rw [ltA, ha.ev] at hl
  cases hev : (events p)[w] with
  | mk t s l0 =>
   rw [hev] at h1 h2 hl
   simp only [Option.getD_some] at hl h1 h2
   rw [h1, h2, hl]
 have hwm : w = (evPro p i).length + (evThr i l j).length := events_inj (by rw [ha.ev, he]) hm.ev
 rw [← hwm] at hlt
 refine ⟨(List.getElem?_eq_some_iff.1 hlt).1, ?_, by rw [ltA, hlt]; rfl⟩
 have : (scene p).ds[w + 1]? = some d := by rw [scene_get hlt]; simp [stepAt, ha.pl, ha.ld]
 rw [kd, this]; exact hd9
theorem wait_prev {p : Prog} {e : Nat} (he : e < (events p).length) (hl : ltA (events p) e = true) : ∃ w, e = w + 1 ∧ kd (scene p).ds w = 9 ∧ ltA (events p) w = false := by
 obtain ⟨i, l, j, d, ha⟩ := At.of (List.getElem?_eq_getElem he)
 have hl' : (events p)[e].l = true := by rw [ltA, ha.ev] at hl; exact hl
 have hd9 : d.k = 9 := ha.late hl'
 have hm := At.mk' ha.pl ha.ld
 have hlt := events_late ha.pl ha.ld hd9
 have hee : (events p)[e] = ⟨i, j, true⟩ := by
  have h1 := ha.t
  have h2 := ha.s
  cases hev : (events p)[e] with
  | mk t s l0 =>
   rw [hev] at h1 h2 hl'
   simp only at hl' h1 h2
   rw [h1, h2, hl']
 have hwm : e = (evPro p i).length + (evThr i l j).length + 1 := events_inj (by rw [ha.ev, hee]) hlt
 exact ⟨_, hwm, by rw [hm.kd]; exact hd9, by rw [ltA, hm.ev]; rfl⟩
def chRef (p : Prog) : Nat → List (Nat × Nat)
 | 0 => []
 | w + 1 => chRef p w ++ (if kd (scene p).ds w == 9 && !ltA (events p) w then chIn (scene p).ds (w + 1) (scene p).ds.length else [])
theorem ch_step {p : Prog} : ∀ {k : Nat}, k + 1 ≤ (events p).length → chOut (scene p) (k + 1) = chRef p k
 | 0, h => by
  have h0 : ltA (events p) 0 = false := by
   cases hl : ltA (events p) 0
   ·rfl
   ·obtain ⟨w, h1, _⟩ := wait_prev (p := p) (e := 0) (by omega) hl
    omega
  simp [chOut, chRef, show (scene p).es = events p from rfl, h0]
 | k + 1, h => by
  rw [chOut, chRef, ch_step (by omega)]
  congr 1
  have e : (kd (scene p).ds (k + 1) == 9 && ltA (scene p).es (k + 1)) = (kd (scene p).ds k == 9 && !ltA (events p) k) := by
   rw [show (scene p).es = events p from rfl, Bool.eq_iff_iff, Bool.and_eq_true, Bool.and_eq_true, Bool.not_eq_true', beq_iff_eq, beq_iff_eq]
   constructor
   ·rintro ⟨_, h2⟩
    obtain ⟨w, h3, h4, h5⟩ := wait_prev (by omega) h2
    have : w = k := by omega
    subst this
    exact ⟨h4, h5⟩
   ·rintro ⟨h1, h2⟩
    exact (wait_next (by omega) h1 h2).2
  rw [e]
theorem ch_all (p : Prog) : chOut (scene p) (events p).length = chRef p (events p).length := by
 cases hn : (events p).length with
 | zero => rfl
 | succ n =>
  rw [ch_step (by omega), chRef]
  have : (kd (scene p).ds n == 9 && !ltA (events p) n) = false := by
   cases h : (kd (scene p).ds n == 9 && !ltA (events p) n)
   ·rfl
   ·rw [Bool.and_eq_true, Bool.not_eq_true', beq_iff_eq] at h
    have := (wait_next (by omega) h.1 h.2).1
    omega
  rw [this]; simp
theorem chIn_mem {ds : List Do} {e : Nat} {q : Nat × Nat} : ∀ {j : Nat}, q ∈ chIn ds e j → q.1 = e ∧ q.2 < j ∧ kd ds q.2 = 7
 | 0, h => by simp [chIn] at h
 | j + 1, h => by
  rw [chIn, List.mem_append] at h
  rcases h with h | h
  ·obtain ⟨h1, h2, h3⟩ := chIn_mem h
   exact ⟨h1, by omega, h3⟩
  ·split at h
   ·rename_i h7
    obtain rfl := List.mem_singleton.1 h
    exact ⟨rfl, by simp, by simpa using h7⟩
   ·cases h
theorem chRef_mem {p : Prog} {q : Nat × Nat} : ∀ {k : Nat}, q ∈ chRef p k → k ≤ (events p).length → 1 ≤ q.1 ∧ q.1 < (events p).length ∧ q.2 < (events p).length ∧ kd (scene p).ds q.2 = 7
 | 0, h, _ => by simp [chRef] at h
 | k + 1, h, hk => by
  rw [chRef, List.mem_append] at h
  rcases h with h | h
  ·exact chRef_mem h (by omega)
  ·split at h
   ·rename_i h9
    rw [Bool.and_eq_true, Bool.not_eq_true', beq_iff_eq] at h9
    obtain ⟨h1, h2, h3⟩ := chIn_mem h
    have := (wait_next (by omega) h9.1 h9.2).1
    have hsl : (scene p).ds.length = (events p).length := by simp [scene]
    exact ⟨by omega, by omega, by omega, h3⟩
   ·cases h
def outA (p : Prog) (i : Nat) : Nat := ((List.range (events p).length).find? fun k => decide (i < k) && ownB (events p) i k && kd (scene p).ds k == 8).getD 0
theorem outA_eq {p : Prog} {i t : Nat} (h : Quiet p i t) (h8 : kd (scene p).ds t = 8) : (List.range (events p).length).find? (fun k => decide (i < k) && ownB (events p) i k && kd (scene p).ds k == 8) = some t := by
 refine find_some h.tl ?_ fun j hj => ?_
 ·have := h.same
  simp only [th] at this
  simp [h.lt, h8, ownB, this]
 ·by_cases hij : i < j
  ·have := (h.no j hij hj).2.1
   simp [this]
  ·simp [hij]
theorem outA_spec {p : Prog} (h : progOk p = true) {i : Nat} (hi : i < (events p).length) (h7 : kd (scene p).ds i = 7) : Quiet p i (outA p i) ∧ kd (scene p).ds (outA p i) = 8 := by
 obtain ⟨t, h1, h2⟩ := in_out h hi h7
 have : outA p i = t := by rw [outA, outA_eq h1 h2]; rfl
 rw [this]; exact ⟨h1, h2⟩
def settledS (p : Prog) (x : Exe) (kind : Int) : Option (Nat → Nat → Bool) :=
 if (lineE (netR p x 0) (events p).length).isSome then settleR (events p).length (outA p) (chRef p (events p).length) (netR p x kind) else none
end
section
open Go.RowKit
theorem insideA_fn {p : Prog} (h : progOk p = true) (i : Nat) (hi : i < (scene p).ds.length) (h7 : kd (scene p).ds i = 7) :
  Fp Tryz.prog 120 [(scene p).V, .int .i64 i] (.tuple [.int .i64 i, .int .i64 (outA p i), .bool true]) := by
 have hsl : (scene p).ds.length = (events p).length := by simp [scene]
 have hel := events_le h
 obtain ⟨h1, h2⟩ := outA_spec h (by omega) h7
 have hbk : bkI (scene p).es (scene p).ds i i = some i := by
  cases i with
  | zero => rw [bkI, h7]; rfl
  | succ i => rw [bkI, h7]; rfl
 have := inside_fn (scene p) i (outA p i) hi (by omega) (scene_len p) (fun f hf => by rw [hbk] at hf; cases hf; exact h1.out h7 h2)
 rw [hbk, insR] at this
 have hle : decide (i ≤ outA p i) = true := by have := h1.lt; simp; omega
 rw [hle] at this
 exact this
theorem settled_fn (p : Prog) (x : Exe) (kind : Int) (hw : Way p x) (hx : x.small) (hk : inB kind 1 3 = true) :
  Fp Tryz.prog 36 [(scene p).V, x.V, .int .i64 kind] (settleV (events p).length (settledS p x kind)) := by
 have hpk := hw.ok
 have hel := events_le hpk
 have hsl : (scene p).ds.length = (events p).length := by simp [scene]
 have hes : (scene p).es = events p := rfl
 obtain ⟨n, hnn⟩ : ∃ n, (events p).length = n := ⟨_, rfl⟩
 have hg1 := graphOf_fn (scene p) (by rw [hes]; omega) 68 [.eptr (scC (scene p)), .eptr (exC x)] (netR p x 0) rfl (Nat.le_of_ble_eq_true rfl) (fun a b ha hb => set1_fn p x a b hw hx ha hb)
 have hg2 := graphOf_fn (scene p) (by rw [hes]; omega) 72 [.eptr (scC (scene p)), .eptr (exC x), .eptr [.int .i64 kind]] (netR p x kind) rfl (Nat.le_of_ble_eq_true rfl) (fun a b ha hb => set2_fn p x kind a b hw hx hk ha hb)
 have hch := choices_fn (scene p) (by omega) (scene_len p) (outA p) (fun i hi h7 => insideA_fn hpk i hi h7)
 have hlen := chOut_le (scene p) (by omega) (scene p).ds.length
 rw [hsl, ch_all] at hch hlen
 have hset := settle_fn (events p).length (by omega) (outA p) (chRef p (events p).length) (netR p x kind) (by omega) (fun q hq => by
  obtain ⟨q1, q2, q3, q4⟩ := chRef_mem hq (Nat.le_refl _)
  exact ⟨q1, q2, q3, (outA_spec hpk q3 q4).1.tl⟩)
 have hl := lineR_fn (netR p x 0) (events p).length (by omega)
 rw [settledS]
 rw [hes, Sc.V_eq, scC_eq, exC_eq] at hg1 hg2
 rw [Sc.V_eq] at hch
 rw [hnn] at hel hg1 hg2 hch hlen hset hl ⊢
 rw [bitsV_eq] at hg1 hg2 hset hl
 refine Fp.nilT ?_
 refine Fc.start (S := [1]) Tryz.func36 Tryz.ntmps36 Tryz.results36 rfl (by decide) rfl (by kernel_rfl) ?_
 simp (disch := omega) only [push_cast, go_sem, zA, simprocAttr, Sc.V_eq, Exe.V_eq]
 intro g3 g4 g5
 refine Sat.fixP (o := 3) (g := g3) (e := 55) (cap := 1) (es := [.agg [.sl ((scene p).p.map thrV), .sl ((scene p).es.map Evt.V), .sl ((scene p).ds.map Do.V)]]) (T := upd (upd (upd noT 3 (.eptr [.sl ((scene p).p.map thrV), .sl ((scene p).es.map Evt.V), .sl ((scene p).ds.map Do.V)])) 4 (.ptr 4 [] 0 0 g4 2)) 5 (.ptr 5 [] 0 0 g5 1)) rfl ?_ ?_
 ·exact Fx.upd (Fx.upd (Fx.ptr Fx.nil rfl rfl (by kernel_rfl) rfl) rfl) rfl
 refine Sat.fixP (o := 4) (g := g4) (e := 61) (cap := 1) (es := [.agg [.sl (x.fr.map (V.int .i64)), .sl (x.od.map intsV)]]) (T := upd (upd (upd noT 3 (.eptr [.sl ((scene p).p.map thrV), .sl ((scene p).es.map Evt.V), .sl ((scene p).ds.map Do.V)])) 4 (.eptr [.sl (x.fr.map (V.int .i64)), .sl (x.od.map intsV)])) 5 (.ptr 5 [] 0 0 g5 1)) rfl ?_ ?_
 ·exact Fx.upd (Fx.ptr (Fx.upd Fx.nil rfl) rfl rfl (by kernel_rfl) rfl) rfl
 refine Sat.fixP (o := 5) (g := g5) (e := 3) (cap := 1) (es := [.int .i64 kind]) (T := upd (upd (upd noT 3 (.eptr [.sl ((scene p).p.map thrV), .sl ((scene p).es.map Evt.V), .sl ((scene p).ds.map Do.V)])) 4 (.eptr [.sl (x.fr.map (V.int .i64)), .sl (x.od.map intsV)])) 5 (.eptr [.int .i64 kind])) rfl ?_ ?_
 ·exact Fx.ptr (Fx.upd (Fx.upd Fx.nil rfl) rfl) rfl rfl (by kernel_rfl) rfl
 refine Sat.of (S := []) (by kernel_rfl) ?_
 simp (disch := omega) only [push_cast, go_sem, zA, simprocAttr]
 refine callR.pure hg1 rfl rfl ?_
 simp (disch := omega) only [push_cast, go_sem, zA, simprocAttr]
 refine callR.pure hl rfl rfl ?_
 cases hl0 : lineE (netR p x 0) n with
 | none =>
  simp (disch := omega) only [push_cast, go_sem, zA, simprocAttr, no_line]
  right
  exact ⟨6, [], .bool false, rfl, rfl⟩
 | some ls =>
  simp (disch := omega) only [push_cast, go_sem, zA, simprocAttr, ok_line]
  cases hr : settleR n (outA p) (chRef p n) (netR p x kind) with
  | none =>
   rw [hr, no_settle] at hset
   refine Sat.drawnE [] [] [0, 2, 3, 4, 5] (pureT [(67, .sl ((graphL (netR p x kind) n).map bitE)), (75, .sl ((chRef p n).map (chE (outA p)))), (74, .tuple [.nilsl, .bool false])]) (by kernel_rfl) (by kernel_rfl) ?_
   simp (disch := omega) only [push_cast, go_sem, zA, simprocAttr]
   refine runD_pure rfl hg2 rfl rfl ?_ ?_
   ·rfl
   simp (disch := omega) only [push_cast, go_sem, zA, simprocAttr]
   refine runD_pure rfl hch rfl rfl ?_ ?_
   ·rfl
   simp (disch := omega) only [push_cast, go_sem, zA, simprocAttr]
   refine runD_pure rfl hset rfl rfl ?_ ?_
   ·rfl
   simp (disch := omega) only [push_cast, go_sem, zA, simprocAttr]
   right
   exact ⟨6, [], .bool false, rfl, rfl⟩
  | some r =>
   rw [hr, some_settle] at hset
   refine Sat.drawnE [] [] [0, 2, 3, 4, 5] (pureT [(67, .sl ((graphL (netR p x kind) n).map bitE)), (75, .sl ((chRef p n).map (chE (outA p)))), (74, .tuple [.sl ((graphL r n).map bitE), .bool true])]) (by kernel_rfl) (by kernel_rfl) ?_
   simp (disch := omega) only [push_cast, go_sem, zA, simprocAttr]
   refine runD_pure rfl hg2 rfl rfl ?_ ?_
   ·rfl
   simp (disch := omega) only [push_cast, go_sem, zA, simprocAttr]
   refine runD_pure rfl hch rfl rfl ?_ ?_
   ·rfl
   simp (disch := omega) only [push_cast, go_sem, zA, simprocAttr]
   refine runD_pure rfl hset rfl rfl ?_ ?_
   ·rfl
   simp (disch := omega) only [push_cast, go_sem, zA, simprocAttr]
   left
   rfl
def holdsS (p : Prog) (x : Exe) (kind : Int) : Bool := specOk p x && inB kind 1 3 && (settledS p x kind).isSome
end
section
open Go.RowKit
theorem netR_late {p : Prog} {x : Exe} {a b : Nat} (h3 : netR p x 2 a b = true) : netR p x 1 a b = true := by
 have e1 : staysS p 2 a b = (ownB (events p) a b && !((dsA p a).writes && (dsA p b).reads)) := rfl
 have e2 : staysS p 1 a b = ownB (events p) a b := rfl
 have e3 : toldS p x 2 a b = ((apartS p a b && readS p x a b) || overS p x a b) := rfl
 have e4 : toldS p x 1 a b = (readS p x a b || overS p x a b) := rfl
 rw [netR, e1, e3] at h3
 rw [netR, e2, e4]
 simp only [Bool.and_eq_true, Bool.or_eq_true] at h3 ⊢
 rcases h3 with h3 | h3 | h3
 ·exact .inl h3.1
 ·exact .inr (.inl h3.2)
 ·exact .inr (.inr h3)
theorem looseS_late {p : Prog} {a b : Nat} (h : looseS p a b = true) : ((dsA p a).writes && (dsA p b).reads) = false := by
 have hw : (dsA p a).writes = true → (dsA p a).k = 1 ∨ (dsA p a).k = 3 ∨ (dsA p a).k = 6 := fun h => by simpa [Do.writes, or_assoc] using h
 have hr : (dsA p b).reads = true → (dsA p b).k = 2 ∨ (dsA p b).k = 5 := fun h => by simpa [Do.reads] using h
 rw [Bool.eq_false_iff]
 intro hh
 rw [Bool.and_eq_true] at hh
 have k1 := hw hh.1
 have k2 := hr hh.2
 have e1 : kd (scene p).ds a = (dsA p a).k := rfl
 have e2 : kd (scene p).ds b = (dsA p b).k := rfl
 simp only [looseS, wallB, insS, Bool.and_eq_true, Bool.or_eq_true, beq_iff_eq, e1, e2] at h
 omega
theorem netR_loose {p : Prog} {x : Exe} {a b : Nat} (h3 : netR p x 3 a b = true) : netR p x 2 a b = true := by
 have e1 : staysS p 2 a b = (ownB (events p) a b && !((dsA p a).writes && (dsA p b).reads)) := rfl
 have e2 : staysS p 3 a b = looseS p a b := rfl
 have e3 : toldS p x 2 a b = ((apartS p a b && readS p x a b) || overS p x a b) := rfl
 have e4 : toldS p x 3 a b = (apartS p a b && (readS p x a b || overS p x a b)) := rfl
 rw [netR, e2, e4, Bool.or_eq_true] at h3
 rw [netR, e1, e3, Bool.or_eq_true]
 rcases h3 with h3 | h3
 ·left
  rw [looseS_late h3]
  simp only [looseS, Bool.and_eq_true] at h3
  simp [h3.1]
 ·right
  simp only [Bool.and_eq_true, Bool.or_eq_true] at h3 ⊢
  rcases h3 with ⟨h3, h4 | h4⟩
  ·exact .inl ⟨h3, h4⟩
  ·exact .inr h4
theorem settle_less {n : Nat} {out : Nat → Nat} : ∀ {l : List (Nat × Nat)} {R R' : Nat → Nat → Bool}, (∀ a b, a < n → b < n → R' a b = true → R a b = true) → (settleR n out l R).isSome = true → (settleR n out l R').isSome = true
 | [], R, R', hs, h => by
  rw [settleR] at h ⊢
  cases hl : (lineE R n).isSome
  ·rw [hl] at h; cases h
  ·rw [line_less hs hl]; rfl
 | (e, i) :: l, R, R', hs, h => by
  rw [settleR] at h ⊢
  have wi : ∀ {x y : Nat}, ∀ a b, a < n → b < n → wiR R' x y a b = true → wiR R x y a b = true := by
   intro x y a b ha hb hh
   simp only [wiR, Bool.or_eq_true] at hh ⊢
   exact hh.imp (hs a b ha hb) id
  cases hl : (lineE R n).isSome
  ·rw [hl] at h; cases h
  ·rw [line_less hs hl]
   rw [hl] at h
   simp only [if_true, Option.isSome_or, Bool.or_eq_true] at h ⊢
   exact h.imp (settle_less wi) (settle_less wi)
theorem settled_less {p : Prog} {x : Exe} {k k' : Int} (hs : ∀ a b, netR p x k' a b = true → netR p x k a b = true) (h : (settledS p x k).isSome = true) : (settledS p x k').isSome = true := by
 rw [settledS] at h ⊢
 cases hl : (lineE (netR p x 0) (events p).length).isSome
 ·rw [hl] at h; cases h
 ·rw [hl] at h
  exact settle_less (fun a b _ _ => hs a b) h
theorem holdsS_late {p : Prog} {x : Exe} (h : holdsS p x 1 = true) : holdsS p x 2 = true := by
 simp only [holdsS, Bool.and_eq_true] at h ⊢
 exact ⟨⟨h.1.1, rfl⟩, settled_less (fun a b => netR_late) h.2⟩
theorem holdsS_loose {p : Prog} {x : Exe} (h : holdsS p x 2 = true) : holdsS p x 3 = true := by
 simp only [holdsS, Bool.and_eq_true] at h ⊢
 exact ⟨⟨h.1.1, rfl⟩, settled_less (fun a b => netR_loose) h.2⟩
end
section
open Go.RowKit
def Code8 (bs : List Int) : Prop := ∀ b ∈ bs, 0 ≤ b ∧ b < 256
def codeV (bs : List Int) : V := .sl (bs.map (V.int .u8))
theorem codeV_eq (bs : List Int) : codeV bs = .sl (bs.map (V.int .u8)) := rfl
theorem Code8.take {bs : List Int} (h : Code8 bs) : Bytes (bs.take 2000) := ⟨by simp; omega, fun b hb => h b (List.mem_of_mem_take hb)⟩
theorem cells_code (bs : List Int) {s : Nat} (hs : s = 1) : (∀ x ∈ bs.map (V.int .u8), x.cells.length = s) = True := by
 simp only [List.mem_map, eq_iff_iff, iff_true]
 rintro x ⟨b, _, rfl⟩
 rw [hs]; rfl
theorem l6Open_fn (bs : List Int) (hl : bs.length < 2 ^ 40) : Fc Tryz.prog 29 [codeV bs] noM (fun r m => ∃ ob, (∃ g, r = .ptr 100 [] 0 0 g 2 ∧ ob = rdO (bs.take 2000) g 0) ∧ m = noM.set 100 ob) := by
 refine Fc.rekeyP (R' := fun r m => ∃ g, r = .ptr 2 [] 0 0 g 2 ∧ m = noM.set 2 (rdO (bs.take 2000) g 0)) ?_ ?_
 ·refine Fc.start (S := []) Tryz.func29 Tryz.ntmps29 Tryz.results29 rfl (by decide) rfl (by kernel_rfl) ?_
  by_cases h : (2000 : Int) < bs.length
  ·simp (disch := omega) only [push_cast, go_sem, zA, simprocAttr, codeV_eq, h, cells_code bs rfl]
   refine ⟨by omega, fun g => ⟨_, ?_, g, rfl, rfl⟩⟩
   ((repeat (first | exact Sub.no | refine Sub.set ?_ ?_)) <;> (try simp (disch := omega) only [push_cast, go_sem, zA, simprocAttr]))
   simp [rdO, List.map_take]
  ·simp (disch := omega) only [push_cast, go_sem, zA, simprocAttr, codeV_eq, h]
   refine fun g => ⟨_, ?_, g, rfl, rfl⟩
   ((repeat (first | exact Sub.no | refine Sub.set ?_ ?_)) <;> (try simp (disch := omega) only [push_cast, go_sem, zA, simprocAttr]))
   rw [List.take_of_length_le (by omega)]; rfl
 ·rintro r m ⟨g, rfl, rfl⟩
  refine ⟨2, g, 2, _, rfl, rfl, _, ⟨g, rfl, rfl⟩, era_set rfl⟩
end
section
open Go.RowKit
structure Sn where
 rd : List Int
 ls : List Int
deriving DecidableEq
def Sn.V (s : Sn) : V := .agg [.sl (s.rd.map (V.int .i64)), .sl (s.ls.map (V.int .i64))]
theorem Sn.V_eq (s : Sn) : s.V = .agg [.sl (s.rd.map (V.int .i64)), .sl (s.ls.map (V.int .i64))] := rfl
structure Sn.small (s : Sn) : Prop where
 rd : s.rd.length < 2 ^ 40
 ls : s.ls.length < 2 ^ 40
def cmpI (a b : Int) : Int := if a < b then -1 else if b < a then 1 else 0
def cmpL : List Int → List Int → Int
 | [], [] => 0
 | [], _ :: _ => -1
 | _ :: _, [] => 1
 | a :: l, b :: m => if a < b then -1 else if b < a then 1 else cmpL l m
def orI (a b : Int) : Int := if a = 0 then b else a
def cmpS (s t : Sn) : Int := orI (cmpL s.rd t.rd) (cmpL s.ls t.ls)
theorem cmpL_zero : ∀ {l m : List Int}, cmpL l m = 0 ↔ l = m
 | [], [] => by simp [cmpL]
 | [], _ :: _ => by simp [cmpL]
 | _ :: _, [] => by simp [cmpL]
 | a :: l, b :: m => by
  rw [cmpL]
  by_cases h1 : a < b
  ·rw [if_pos h1]; simp; intro h; omega
  ·rw [if_neg h1]
   by_cases h2 : b < a
   ·rw [if_pos h2]; simp; intro h; omega
   ·rw [if_neg h2, cmpL_zero]; simp
    intro _; omega
theorem cmpS_zero {s t : Sn} : cmpS s t = 0 ↔ s = t := by
 obtain ⟨a, b⟩ := s
 obtain ⟨c, d⟩ := t
 simp only [cmpS, orI, Sn.mk.injEq]
 by_cases h : cmpL a c = 0
 ·rw [if_pos h, cmpL_zero, cmpL_zero.1 h]; simp
 ·rw [if_neg h]
  exact ⟨fun h2 => absurd h2 h, fun h2 => absurd (cmpL_zero.2 h2.1) h⟩
theorem cmpL_step {l m : List Int} {i : Nat} {a b : Int} (ha : l[i]? = some a) (hb : m[i]? = some b) : cmpL (l.drop i) (m.drop i) = if cmpI a b = 0 then cmpL (l.drop (i + 1)) (m.drop (i + 1)) else cmpI a b := by
 rw [drop_get ha, drop_get hb, cmpL, cmpI]
 by_cases h1 : a < b
 ·simp [h1]
 ·by_cases h2 : b < a <;> simp [h1, h2]
end
section
open Go.RowKit
section
variable {P : Program} {M : Mem} {k : V → Mem → Prop} {ro c : Bool}
end
end
end Go.Proofs.YtkdolbffabmemaaGreatDoor
