/-
 The reader of codes: calls; what is drawn.
-/
import Derived.Test.YtkdolbffabmemaaGreatDoorLvw
namespace Go.Proofs.YtkdolbffabmemaaGreatDoor
open Go.RowKit
set_option linter.unusedSimpArgs false
set_option linter.unusedVariables false
section
variable {P : Program} {M : Mem} {k : V → Mem → Prop}
abbrev Fr (P : Program) (f : FuncId) (bs : List V) (g : Nat) (o : V) (Q : V → V → Prop) : Prop := Fc P f (.ptr 0 [] 0 0 g 2 :: bs) (noM.set 0 o) fun r m => ∃ o', Q r o' ∧ m = noM.set 0 o'
theorem callR.rd {f : FuncId} {bs : List V} {g a : Nat} {o : V} {Q : V → V → Prop} {d : Option Nat} (h : Fr P f bs g o Q) (hM : M a = some o) (hk : (bs.all fun v => v.key.isNone) = true) (h9 : Nat.ble (bs.length + 1) 90 = true)
  (hK : ∀ r o', Q r o' → runV (some (True, det (resN d r) (M.set a o'))) k .mk) : callR P f (.ptr a [] 0 0 g 2 :: bs) d M k .mk := by
 have hk' : ((bs.map V.key).all fun x => x.isNone) = true := by rw [List.all_map]; exact hk
 refine callR.intro (F := noM.set 0 o) (R := fun r m => ∃ o', Q r o' ∧ m = noM.set 0 o') (by rw [renArgs_cons, renArgs_none hk]; exact h) ?_ (Nat.le_of_ble_eq_true h9) ?_ ?_
 ·rw [List.map_cons, List.filterMap_cons]
  show (a :: (bs.map V.key).filterMap id).Nodup
  rw [keys_none hk']; simp
 ·exact Sub.set Sub.no (by simp [footM, V.key, hM])
 ·rintro r0 Mf ⟨o', hq, rfl⟩
  have : mergeM M ((V.ptr a [] 0 0 g 2 :: bs).map V.key) d (noM.set 0 o') = M.set a o' := by
   rw [merge_eq, List.map_cons]
   have e1 : (noM.set 0 o') 100 = none := rfl
   have e2 : (noM.set 0 o') 0 = some o' := rfl
   rw [e1, mgD_none', key_ptr, mg_some, e2, mg_all_none hk', MemU_some]
  rw [this]
  exact ((runV_det.1 (hK r0 o' hq)).2)
abbrev FrR (P : Program) (f : FuncId) (bs : List V) (g : Nat) (o : V) (Q : List V → V → Prop) (e : TypeId) : Prop :=
 Fc P f (.ptr 0 [] 0 0 g 2 :: bs) (noM.set 0 o) fun r m => ∃ o' γ cap es, Q es o' ∧ r = .msl 100 [] γ es.length cap ∧ m = (noM.set 0 o').set 100 (.own e γ cap es)
theorem FrR.of {f : FuncId} {bs : List V} {g : Nat} {o : V} {Q : List V → V → Prop} {e : TypeId} (s : Nat) (hs : s ≠ 0) (h : Fc P f (.ptr 0 [] 0 0 g 2 :: bs) (noM.set 0 o) fun r m => ∃ o' γ cap es, Q es o' ∧ r = .msl s [] γ es.length cap ∧ m = (noM.set 0 o').set s (.own e γ cap es)) : FrR P f bs g o Q e :=
 h.rekey (by
  rintro r m ⟨o', γ, cap, es, hq, rfl, rfl⟩
  refine .inr ⟨s, γ, es.length, cap, _, rfl, ?_, o', γ, cap, es, hq, rfl, era_set ?_⟩
  ·simp [Mem.set]
  ·simp [Mem.set, hs, noM])
theorem callR.rdRow {f : FuncId} {bs : List V} {g a : Nat} {o : V} {Q : List V → V → Prop} {d : Nat} {e : TypeId} (h : FrR P f bs g o Q e) (hM : M a = some o) (hk : (bs.all fun v => v.key.isNone) = true) (h9 : Nat.ble (bs.length + 1) 90 = true)
  (hK : ∀ es o' γ cap, Q es o' → runV (some (True, det (.msl d [] γ es.length cap) ((M.set a o').set d (.own e γ cap es)))) k .mk) : callR P f (.ptr a [] 0 0 g 2 :: bs) (some d) M k .mk := by
 have hk' : ((bs.map V.key).all fun x => x.isNone) = true := by rw [List.all_map]; exact hk
 refine callR.intro (F := noM.set 0 o) (R := fun r m => ∃ o' γ cap es, Q es o' ∧ r = .msl 100 [] γ es.length cap ∧ m = (noM.set 0 o').set 100 (.own e γ cap es)) (by rw [renArgs_cons, renArgs_none hk]; exact h) ?_ (Nat.le_of_ble_eq_true h9) ?_ ?_
 ·rw [List.map_cons, List.filterMap_cons]
  show (a :: (bs.map V.key).filterMap id).Nodup
  rw [keys_none hk']; simp
 ·exact Sub.set Sub.no (by simp [footM, V.key, hM])
 ·rintro r0 Mf ⟨o', γ, cap, es, hq, rfl, rfl⟩
  have : mergeM M ((V.ptr a [] 0 0 g 2 :: bs).map V.key) (some d) ((noM.set 0 o').set 100 (.own e γ cap es)) = (M.set a o').set d (.own e γ cap es) := by
   rw [merge_eq, List.map_cons]
   have e1 : ((noM.set 0 o').set 100 (.own e γ cap es)) 100 = some (.own e γ cap es) := rfl
   have e2 : ((noM.set 0 o').set 100 (.own e γ cap es)) 0 = some o' := rfl
   rw [e1, mgD_some, key_ptr, mg_some, e2, mg_all_none hk', MemU_some]
  rw [this]
  exact (runV_det.1 (hK es o' γ cap hq)).2
end
theorem pick_rd (bs : List Int) (hb : Bytes bs) (g p : Nat) (hp : p < 2 ^ 30) (n : Int) (hn : n < 2 ^ 30) : Fr Tryz.prog 58 [.int .i64 n] g (rdO bs g p)
  (fun r o' => ∃ v : Int, r = .int .i64 v ∧ 0 ≤ v ∧ (0 < n → v < n) ∧ (n ≤ 0 → v = 0) ∧ o' = rdO bs g (p + 1)) := by
 obtain ⟨h, hg⟩ := pick_fn bs hb g p hp n hn
 refine ⟨fun imm w vals hG hI hi hs hv => (h imm w vals hG hI hi hs hv).mono ?_, hg⟩
 rintro e w' ⟨v, r, m, imm', h1, ⟨z, k1, k2, k3, k4, k5⟩, h3, h4⟩
 exact ⟨v, r, m, imm', h1, ⟨_, ⟨z, k1, k2, k3, k4, rfl⟩, k5⟩, h3, h4⟩
section
variable {P : Program} {M : Mem} {k : V → Mem → Prop}
theorem callR.new {f : FuncId} {xs : List V} {d : Nat} {Q : V → V → Prop} (h : Fc P f xs noM fun r m => ∃ ob, Q r ob ∧ m = noM.set 100 ob) (hk : (xs.all fun v => v.key.isNone) = true) (h9 : Nat.ble xs.length 90 = true)
  (hK : ∀ r ob, Q r ob → runV (some (True, det (resN (some d) r) (M.set d ob))) k .mk) : callR P f xs (some d) M k .mk := by
 have hk' : ((xs.map V.key).all fun x => x.isNone) = true := by rw [List.all_map]; exact hk
 refine callR.intro (F := noM) (R := fun r m => ∃ ob, Q r ob ∧ m = noM.set 100 ob) (by rw [renArgs_none hk]; exact h) (by rw [keys_none hk']; exact List.nodup_nil) (Nat.le_of_ble_eq_true h9) Sub.no ?_
 rintro r0 Mf ⟨ob, hq, rfl⟩
 have : mergeM M (xs.map V.key) (some d) (noM.set 100 ob) = M.set d ob := by
  rw [merge_eq, mg_all_none hk']
  have e : (noM.set 100 ob) 100 = some ob := rfl
  rw [e, mgD_some]
 rw [this]
 exact (runV_det.1 (hK r0 ob hq)).2
end
section
variable {P : Program} {M : Mem} {k : V → Mem → Prop}
theorem callR.ex {f : FuncId} {xs : List V} {d : Nat} {Q : V → Prop} (h : Fc P f xs noM fun r m => Q r ∧ m = noM) (hk : (xs.all fun v => v.key.isNone) = true) (h9 : Nat.ble xs.length 90 = true)
  (hK : ∀ r, Q r → runV (some (True, det (resN (some d) r) M)) k .mk) : callR P f xs (some d) M k .mk := by
 have hk' : ((xs.map V.key).all fun x => x.isNone) = true := by rw [List.all_map]; exact hk
 refine callR.intro (F := noM) (R := fun r m => Q r ∧ m = noM) (by rw [renArgs_none hk]; exact h) (by rw [keys_none hk']; exact List.nodup_nil) (Nat.le_of_ble_eq_true h9) Sub.no ?_
 rintro r0 Mf ⟨hq, rfl⟩
 have : mergeM M (xs.map V.key) (some d) noM = M := by rw [merge_eq, mg_all_none hk']; rfl
 rw [this]
 exact (runV_det.1 (hK r0 hq)).2
end
theorem rdO_inj {bs : List Int} {g p q : Nat} (h : rdO bs g p = rdO bs g q) : p = q := by
 simp only [rdO, V.own.injEq, List.cons.injEq, V.agg.injEq, V.int.injEq, and_true, true_and] at h
 omega
def rdTab (bs : List Int) (g : Nat) (pl : List (FuncId × Nat × (List V → V → Prop))) (rw : List (FuncId × Nat × TypeId × (List V → List V → Prop))) : Table := fun f args F =>
 match pl.lookup f with
 | some (c, Q) => some fun r m => ∃ p q, F 0 = some (rdO bs g p) ∧ p ≤ q ∧ q ≤ p + c ∧ Q args r ∧ m = noM.set 0 (rdO bs g q)
 | none => match rw.lookup f with
  | some (c, e, Q) => some fun r m => ∃ p q γ cap es, F 0 = some (rdO bs g p) ∧ p ≤ q ∧ q ≤ p + c ∧ Q args es ∧ r = .msl 100 [] γ es.length cap ∧ m = (noM.set 0 (rdO bs g q)).set 100 (.own e γ cap es)
  | none => none
def pickQ (args : List V) (r : V) : Prop := ∃ n v : Int, args[1]? = some (.int .i64 n) ∧ r = .int .i64 v ∧ 0 ≤ v ∧ (0 < n → v < n) ∧ (n ≤ 0 → v = 0)
theorem pickQ_ne {a : V} {n : Int} : ∃ r, pickQ [a, .int .i64 n] r := ⟨_, n, 0, rfl, rfl, by omega, by omega, by omega⟩
section
variable {P : Program} {M : Mem} {k : V → Mem → Prop} {bs : List Int} {g p a : Nat} {xs : List V} {d : Nat} {f : FuncId} {pl : List (FuncId × Nat × (List V → V → Prop))} {rw' : List (FuncId × Nat × TypeId × (List V → List V → Prop))} {c : Bool}
theorem rd_args (hk : (xs.all fun v => v.key.isNone) = true) : renArgs 0 (V.ptr a [] 0 0 g 2 :: xs) = .ptr 0 [] 0 0 g 2 :: xs := by rw [renArgs_cons, renArgs_none hk]; rfl
theorem rd_nodup (hk : (xs.all fun v => v.key.isNone) = true) : (((V.ptr a [] 0 0 g 2 :: xs).map V.key).filterMap id).Nodup := by
 have hk' : ((xs.map V.key).all fun x => x.isNone) = true := by rw [List.all_map]; exact hk
 rw [List.map_cons, List.filterMap_cons]
 show (a :: (xs.map V.key).filterMap id).Nodup
 rw [keys_none hk']; simp
theorem rd_foot {o : V} (hM : M a = some o) : footM M ((V.ptr a [] 0 0 g 2 :: xs).map V.key) 0 = some o := by simp [footM, V.key, hM]
theorem rd_merge {o : V} {x : Option V} {Mf : Mem} (hk : (xs.all fun v => v.key.isNone) = true) (h0 : Mf 0 = some o) (h100 : Mf 100 = x) : mergeM M ((V.ptr a [] 0 0 g 2 :: xs).map V.key) (some d) Mf = mgD (some d) x (M.set a o) := by
 have hk' : ((xs.map V.key).all fun x => x.isNone) = true := by rw [List.all_map]; exact hk
 rw [merge_eq, List.map_cons, h100, key_ptr, mg_some, h0, mg_all_none hk', MemU_some]
theorem runD_pl {cc : Nat} {Q : List V → V → Prop} (h : Fr P f xs g (rdO bs g p) fun r o' => Q (.ptr 0 [] 0 0 g 2 :: xs) r ∧ ∃ q, p ≤ q ∧ q ≤ p + cc ∧ o' = rdO bs g q) (hM : M a = some (rdO bs g p)) (hl : pl.lookup f = some (cc, Q))
  (hk : (xs.all fun v => v.key.isNone) = true) (h9 : Nat.ble (xs.length + 1) 90 = true) (hne : ∃ r, Q (.ptr 0 [] 0 0 g 2 :: xs) r) (hchk : c = true)
  (hK : ∀ r q, p ≤ q → q ≤ p + cc → Q (.ptr 0 [] 0 0 g 2 :: xs) r → runV (some (True, det (resN (some d) r) (M.set a (rdO bs g q)))) k .mk) : runD (callV (specT P (rdTab bs g pl rw')) f (.ptr a [] 0 0 g 2 :: xs) (some d) M) false M c k .mk := by
 have hf := rd_foot (g := g) (xs := xs) hM
 refine runD_call (F := noM.set 0 (rdO bs g p)) (R := fun r m => ∃ p' q, footM M ((V.ptr a [] 0 0 g 2 :: xs).map V.key) 0 = some (rdO bs g p') ∧ p' ≤ q ∧ q ≤ p' + cc ∧ Q (.ptr 0 [] 0 0 g 2 :: xs) r ∧ m = noM.set 0 (rdO bs g q))
  (by rw [rd_args hk]; simp only [rdTab, hl]) ?_ (Sub.set Sub.no hf) (rd_nodup hk) (Nat.le_of_ble_eq_true h9) ?_ nofun hchk ?_
 ·rw [rd_args hk]
  refine ⟨fun imm w vals hG hI hi hs hv => (h.fn imm w vals hG hI hi hs hv).mono ?_, h.go⟩
  rintro e w' ⟨v, r, m, imm', h1, ⟨o', ⟨h2, q, h3, h4, rfl⟩, rfl⟩, h5, h6⟩
  exact ⟨v, r, _, imm', h1, ⟨p, q, hf, h3, h4, h2, rfl⟩, h5, h6⟩
 ·obtain ⟨r, hr⟩ := hne
  exact ⟨r, _, p, p, hf, Nat.le_refl _, by omega, hr, rfl⟩
 ·rintro r0 r Mf ⟨p', q, h1, h2, h3, h4, rfl⟩ h5
  obtain rfl := rdO_inj (Option.some.inj (hf.symm.trans h1))
  have := (runV_det.1 (hK r0 q h2 h3 h4)).2
  rw [rd_merge hk (o := rdO bs g q) (x := none) rfl rfl]
  rw [h5 d rfl]; exact this
theorem runD_rw {cc : Nat} {e : TypeId} {Q : List V → List V → Prop} (h : FrR P f xs g (rdO bs g p) (fun es o' => Q (.ptr 0 [] 0 0 g 2 :: xs) es ∧ ∃ q, p ≤ q ∧ q ≤ p + cc ∧ o' = rdO bs g q) e) (hM : M a = some (rdO bs g p)) (hl : pl.lookup f = none) (hl' : rw'.lookup f = some (cc, e, Q))
  (hk : (xs.all fun v => v.key.isNone) = true) (h9 : Nat.ble (xs.length + 1) 90 = true) (hne : ∃ es, Q (.ptr 0 [] 0 0 g 2 :: xs) es) (hchk : c = true)
  (hK : ∀ es q γ cap, p ≤ q → q ≤ p + cc → Q (.ptr 0 [] 0 0 g 2 :: xs) es → runV (some (True, det (.msl d [] γ es.length cap) ((M.set a (rdO bs g q)).set d (.own e γ cap es)))) k .mk) : runD (callV (specT P (rdTab bs g pl rw')) f (.ptr a [] 0 0 g 2 :: xs) (some d) M) false M c k .mk := by
 have hf := rd_foot (g := g) (xs := xs) hM
 refine runD_call (F := noM.set 0 (rdO bs g p)) (R := fun r m => ∃ p' q γ cap es, footM M ((V.ptr a [] 0 0 g 2 :: xs).map V.key) 0 = some (rdO bs g p') ∧ p' ≤ q ∧ q ≤ p' + cc ∧ Q (.ptr 0 [] 0 0 g 2 :: xs) es ∧ r = .msl 100 [] γ es.length cap ∧ m = (noM.set 0 (rdO bs g q)).set 100 (.own e γ cap es))
  (by rw [rd_args hk]; simp only [rdTab, hl, hl']) ?_ (Sub.set Sub.no hf) (rd_nodup hk) (Nat.le_of_ble_eq_true h9) ?_ nofun hchk ?_
 ·rw [rd_args hk]
  refine ⟨fun imm w vals hG hI hi hs hv => (h.fn imm w vals hG hI hi hs hv).mono ?_, h.go⟩
  rintro e w' ⟨v, r, m, imm', h1, ⟨o', γ, cap, es, ⟨h2, q, h3, h4, rfl⟩, h7, rfl⟩, h5, h6⟩
  exact ⟨v, r, _, imm', h1, ⟨p, q, γ, cap, es, hf, h3, h4, h2, h7, rfl⟩, h5, h6⟩
 ·obtain ⟨es, hr⟩ := hne
  exact ⟨_, _, p, p, none, 0, es, hf, Nat.le_refl _, by omega, hr, rfl, rfl⟩
 ·rintro r0 r Mf ⟨p', q, γ, cap, es, h1, h2, h3, h4, rfl, rfl⟩ h5
  obtain rfl := rdO_inj (Option.some.inj (hf.symm.trans h1))
  have := (runV_det.1 (hK es q γ cap h2 h3 h4)).2
  rw [rd_merge hk (o := rdO bs g q) (x := some (.own e γ cap es)) rfl rfl, h5 d rfl]
  exact this
end
theorem Fr.mono {P : Program} {f : FuncId} {xs : List V} {g : Nat} {o : V} {Q Q' : V → V → Prop} (h : Fr P f xs g o Q) (hQ : ∀ r o', Q r o' → Q' r o') : Fr P f xs g o Q' :=
 ⟨fun imm w vals hG hI hi hs hv => (h.fn imm w vals hG hI hi hs hv).mono (by rintro e w' ⟨v, r, m, imm', h1, ⟨o', h2, h3⟩, h4⟩; exact ⟨v, r, m, imm', h1, ⟨o', hQ _ _ h2, h3⟩, h4⟩), h.go⟩
theorem FrR.mono {P : Program} {f : FuncId} {xs : List V} {g : Nat} {o : V} {Q Q' : List V → V → Prop} {e : TypeId} (h : FrR P f xs g o Q e) (hQ : ∀ r o', Q r o' → Q' r o') : FrR P f xs g o Q' e :=
 ⟨fun imm w vals hG hI hi hs hv => (h.fn imm w vals hG hI hi hs hv).mono (by rintro e w' ⟨v, r, m, imm', h1, ⟨o', γ, cap, es, h2, h3⟩, h4⟩; exact ⟨v, r, m, imm', h1, ⟨o', γ, cap, es, hQ _ _ h2, h3⟩, h4⟩), h.go⟩
theorem pick_pl (bs : List Int) (hb : Bytes bs) (g p : Nat) (hp : p < 2 ^ 30) (n : Int) (hn : n < 2 ^ 30) : Fr Tryz.prog 58 [.int .i64 n] g (rdO bs g p) (fun r o' => pickQ (.ptr 0 [] 0 0 g 2 :: [.int .i64 n]) r ∧ ∃ q, p ≤ q ∧ q ≤ p + 1 ∧ o' = rdO bs g q) :=
 (pick_rd bs hb g p hp n hn).mono (by rintro r o' ⟨v, h1, h2, h3, h4, h5⟩; exact ⟨⟨n, v, rfl, h1, h2, h3, h4⟩, p + 1, by omega, by omega, h5⟩)
def ints : List V → Bool
 | [] => true
 | .int .i64 _ :: l => ints l
 | _ => false
theorem ints_get : ∀ {l : List V} {n : Nat}, ints l = true → n < l.length → ∃ z, l[n]? = some (.int .i64 z)
 | [], n, _, h => by simp at h
 | x :: l, n, h, hn => by
  unfold ints at h
  split at h
  ·rename_i h1; cases h1
  ·rename_i z l' h1
   cases h1
   cases n with
   | zero => exact ⟨_, rfl⟩
   | succ n => exact ints_get (l := l) h (by simpa using hn)
  ·cases h
end Go.Proofs.YtkdolbffabmemaaGreatDoor
