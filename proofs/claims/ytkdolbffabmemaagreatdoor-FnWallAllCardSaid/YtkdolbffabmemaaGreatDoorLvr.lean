/-
 The machine of values: what an operation looks at, the others.
-/
import Derived.Test.YtkdolbffabmemaaGreatDoorLvq
namespace Go.Proofs.YtkdolbffabmemaaGreatDoor
open Go.RowKit
set_option linter.unusedSimpArgs false
set_option linter.unusedVariables false
section
variable {P : Program} {T T' : List Nat} {M M' m : Mem} {Φ : Table}
theorem LocF.none : LocF T fun _ => none := by intro M M' pre Q _ h; cases h
theorem LocF.det {pre : Prop} {v : V} (ha : Agr T M M') : ∃ Q', some (pre, det v M') = some (pre, Q') ∧ ∀ r m', Q' r m' → (∀ k, k ∉ T → m' k = M' k) ∧ ∃ m, (Go.Proofs.YtkdolbffabmemaaGreatDoor.det v M) r m ∧ m = gl T m' M := by
 refine ⟨_, rfl, ?_⟩
 rintro r m' ⟨rfl, rfl⟩
 refine ⟨fun _ _ => rfl, M, ⟨rfl, rfl⟩, ?_⟩
 funext k; simp only [gl]; split
 ·rename_i hk; exact (ha k hk).symm
 ·rfl
theorem getP_agr {s : Nat} (hs : s ∈ T) (ha : Agr T M M') (q : Path) : M'.getP s q = M.getP s q := by simp only [Mem.getP, ha s hs]
theorem LocF.read {α : Type} {s : Nat} (hs : s ∈ T) (g : Option V → α) (q : Path) (F : α → Option (Prop × V)) : LocF T fun M => (F (g (M.getP s q))).map fun y => (y.1, Go.Proofs.YtkdolbffabmemaaGreatDoor.det y.2 M) := by
 intro M M' pre Q ha h
 have e := getP_agr hs ha q
 simp only at h ⊢
 rw [e]
 exact LocF.pure (x := F (g (M.getP s q))) M M' pre Q ha h
theorem loc_load {ty : TypeId} {v : V} (hT : ∀ k ∈ kV v, k ∈ T) : LocF T fun M => loadV P ty v M := by
 intro M M' pre Q ha h
 have det' : ∀ {p : Prop} {u : V}, some (p, Go.Proofs.YtkdolbffabmemaaGreatDoor.det u M) = some (pre, Q) → ∃ Q', some (p, Go.Proofs.YtkdolbffabmemaaGreatDoor.det u M') = some (pre, Q') ∧ ∀ r m', Q' r m' → (∀ k, k ∉ T → m' k = M' k) ∧ ∃ m, Q r m ∧ m = gl T m' M := by
  intro p u hh; cases hh; exact LocF.det ha
 cases v <;> first | (simp only [loadV] at h; cases h; done) | skip
 case ptr s q i j g k =>
  have e := getP_agr (hT s (by simp [kV])) ha q
  cases hag : aggT P ty with
  | none => simp only [loadV, hag] at h; cases h
  | some ag =>
   simp only [loadV, hag, e] at h ⊢
   split at h
   ·rename_i e' g' cap es hn
    split at h
    ·rename_i x hx
     split at h
     ·rename_i hag'
      rw [if_pos hag']
      split at h
      ·rename_i hall
       rw [if_pos hall]
       exact det' h
      ·cases h
     ·rename_i hag'
      rw [if_neg hag']
      split at h
      ·rename_i e2 γ2 cap2 es2 hc
       exact det' h
      ·rename_i c hno hc
       cases c <;> first | exact det' h | exact absurd rfl (hno _ _ _ _)
      ·cases h
    ·cases h
   ·cases h
 case eptr cs =>
  cases hag : aggT P ty with
  | none => simp only [loadV, hag] at h; cases h
  | some ag =>
   simp only [loadV, hag] at h ⊢
   split at h
   ·rename_i hag'
    rw [if_pos hag']
    exact det' h
   ·rename_i hag'
    rw [if_neg hag']
    split at h
    ·rename_i c hc
     exact det' h
    ·cases h
theorem loc_assign {d : Option Nat} {v : V} (hd : ∀ k ∈ d.toList, k ∈ T) (hT : ∀ k ∈ kV v, k ∈ T) : LocF T fun M => assignV d v M := by
 intro M M' pre Q ha h
 have det' : ∀ {p : Prop} {u : V}, some (p, Go.Proofs.YtkdolbffabmemaaGreatDoor.det u M) = some (pre, Q) → ∃ Q', some (p, Go.Proofs.YtkdolbffabmemaaGreatDoor.det u M') = some (pre, Q') ∧ ∀ r m', Q' r m' → (∀ k, k ∉ T → m' k = M' k) ∧ ∃ m, Q r m ∧ m = gl T m' M := by
  intro p u hh; cases hh; exact LocF.det ha
 have upd' : ∀ {p : Prop} {u : V} {U : Mem → Mem}, LU T (fun M => some (U M)) → some (p, Go.Proofs.YtkdolbffabmemaaGreatDoor.det u (U M)) = some (pre, Q) → ∃ Q', some (p, Go.Proofs.YtkdolbffabmemaaGreatDoor.det u (U M')) = some (pre, Q') ∧ ∀ r m', Q' r m' → (∀ k, k ∉ T → m' k = M' k) ∧ ∃ m, Q r m ∧ m = gl T m' M := by
  intro p u U hU hh; cases hh
  exact LocF.upd (pre := pre) (v := u) hU (f := fun M => some (pre, Go.Proofs.YtkdolbffabmemaaGreatDoor.det u (U M))) (fun M m hm => by cases hm; rfl) ha rfl
 cases d with
 | none => cases v <;> exact det' h
 | some d =>
  have hd' : d ∈ T := hd d (by simp)
  cases v <;> first | exact det' h | skip
  case nilsl => exact upd' (U := fun M => M.set d (.own 0 none 0 [])) (LU.set hd' _) h
  case msl s q γ l cap =>
   cases q with
   | cons _ _ => exact det' h
   | nil =>
    have hs : s ∈ T := hT s (by simp [kV])
    simp only [assignV, ha s hs] at h ⊢
    cases hM : M s with
    | none => simp only [hM] at h ⊢; exact det' h
    | some ob =>
     simp only [hM] at h ⊢
     exact upd' (U := fun M => (M.era s).set d ob) (LU.bind (LU.era hs) (LU.set hd' ob)) h
  case ptr s q i j g k =>
   have hs : s ∈ T := hT s (by simp [kV])
   by_cases hc : q = [] ∧ i = 0 ∧ j = 0
   ·obtain ⟨rfl, rfl, rfl⟩ := hc
    simp only [assignV, ha s hs] at h ⊢
    cases hM : M s with
    | none => simp only [hM] at h ⊢; exact det' h
    | some ob =>
     simp only [hM] at h ⊢
     exact upd' (U := fun M => (M.era s).set d ob) (LU.bind (LU.era hs) (LU.set hd' ob)) h
   ·have e : ∀ M, assignV (some d) (.ptr s q i j g k) M = some (True, Go.Proofs.YtkdolbffabmemaaGreatDoor.det (.ptr s q i j g k) M) := by
     intro M
     cases q with
     | cons _ _ => rfl
     | nil => cases i with
      | succ _ => rfl
      | zero => cases j with
       | succ _ => rfl
       | zero => exact absurd ⟨rfl, rfl, rfl⟩ hc
    simp only [e] at h ⊢
    exact det' h
theorem loc_newish {ok : Mem → Bool} {f : Nat → V} {U : Nat → Mem → Option Mem} (hok : ∀ {M M'}, Agr T M M' → ok M = true → ok M' = true) (hU : ∀ g, LU T (U g)) {pre : Prop} :
  LocF T fun M => if ok M = true then some (pre, fun r m => ∃ g, r = f g ∧ U g M = some m) else Option.none := by
 intro M M' p Q ha h
 simp only at h ⊢
 split at h
 ·rename_i h1
  cases h
  rw [if_pos (hok ha h1)]
  exact ⟨_, rfl, LocF.new hU ha⟩
 ·cases h
theorem loc_alloc {d : Option Nat} {e : TypeId} (hd : ∀ k ∈ d.toList, k ∈ T) (hz : ∀ k ∈ zK P e, k ∈ T) : LocF T fun M => allocV P d e M := by
 cases d with
 | none => exact LocF.none
 | some d =>
  have hd' : d ∈ T := hd d (by simp)
  simp only [allocV]
  cases hzz : zeroT P e with
  | none => exact LocF.none
  | some z =>
   have hU : ∀ g, LU T fun M => newO P M d e g 1 [z] := fun g => LU.newO hd' e g 1 (by
    intro v hv k hk; simp at hv; subst hv; exact hz k (by simp [zK, hzz, hk]))
   exact loc_newish (ok := fun M => okE P e [z] && (newO P M d e 0 1 [z]).isSome) (U := fun g M => newO P M d e g 1 [z])
    (fun {M M'} ha h => by simp only [Bool.and_eq_true] at h ⊢; exact ⟨h.1, (hU 0).isSome ha h.2⟩) hU
theorem loc_box {d : Option Nat} {e : TypeId} {v : V} (hd : ∀ k ∈ d.toList, k ∈ T) (hz : ∀ k ∈ kC v, k ∈ T) : LocF T fun M => boxV P d e v M := by
 cases d with
 | none => exact LocF.none
 | some d =>
  have hd' : d ∈ T := hd d (by simp)
  have hU : ∀ g, LU T fun M => newO P M d e g 1 [v] := fun g => LU.newO hd' e g 1 (by
    intro u hv k hk; simp at hv; subst hv; exact hz k hk)
  exact loc_newish (ok := fun M => okE P e [v] && (newO P M d e 0 1 [v]).isSome) (U := fun g M => newO P M d e g 1 [v])
    (fun {M M'} ha h => by simp only [Bool.and_eq_true] at h ⊢; exact ⟨h.1, (hU 0).isSome ha h.2⟩) hU
theorem mem_setL {v : V} : ∀ {ps : List (Nat × V)} {l : List V}, v ∈ setL ps l → v ∈ l ∨ ∃ p ∈ ps, p.2 = v
 | [], l, h => .inl h
 | p :: ps, l, h => by
  rcases mem_setL (ps := ps) (l := l.set p.1 p.2) h with h | ⟨x, h1, h2⟩
  ·rcases List.mem_or_eq_of_mem_set h with h | h
   ·exact .inl h
   ·exact .inr ⟨p, by simp, h.symm⟩
  ·exact .inr ⟨x, by simp [h1], h2⟩
theorem loc_buildSlice {d : Option Nat} {ty : TypeId} {n : Nat} {ps : List (Nat × V)} (hd : ∀ k ∈ d.toList, k ∈ T) (hz : ∀ k ∈ ((elT P ty).map (zK P)).getD [], k ∈ T) (hp : ∀ k ∈ ps.flatMap (fun p => kC p.2), k ∈ T) :
  LocF T fun M => buildSliceV P d ty n ps M := by
 cases d with
 | none => exact LocF.none
 | some d =>
  have hd' : d ∈ T := hd d (by simp)
  simp only [buildSliceV]
  cases he : elT P ty with
  | none => exact LocF.none
  | some e =>
   simp only
   cases hzz : zeroT P e with
   | none => exact LocF.none
   | some z =>
    have hU : ∀ g, LU T fun M => newO P M d e g n (setL ps (List.replicate n z)) := fun g => LU.newO hd' e g n (by
     intro v hv k hk
     rcases mem_setL hv with h | ⟨p, h1, rfl⟩
     ·have := List.eq_of_mem_replicate h
      subst this
      exact hz k (by simp [he, zK, hzz, hk])
     ·exact hp k (List.mem_flatMap.2 ⟨p, h1, hk⟩))
    exact loc_newish (ok := fun M => okE P e (setL ps (List.replicate n z)) && okE P e (ps.map fun p => p.2) && ps.all (fun p => p.1 < n) && decide (n * szT P e ≤ 2 ^ 24) && decide (0 < szT P e) && decide (z.cells.length = szT P e) && (decide (n = 0) || z.cells.all fun c => c.laid && c.one) &&
     (newO P M d e 0 n (setL ps (List.replicate n z))).isSome) (U := fun g M => newO P M d e g n (setL ps (List.replicate n z)))
     (fun {M M'} ha h => by
      rw [Bool.and_eq_true] at h ⊢
      exact ⟨h.1, (hU 0).isSome ha h.2⟩) hU
theorem loc_makeSlice {d : Option Nat} {ty : TypeId} {n c : V} (hd : ∀ k ∈ d.toList, k ∈ T) : LocF T fun M => makeSliceV P d ty n c M := by
 cases d with
 | none => intro M M' p Q ha h; cases n <;> cases c <;> cases h
 | some d =>
  have hd' : d ∈ T := hd d (by simp)
  intro M M' p Q ha h
  cases he : elT P ty with
  | none => simp only [makeSliceV, he] at h; cases h
  | some e =>
   cases n <;> cases c <;> simp only [makeSliceV, he] at h ⊢ <;> first | (cases h; done) | skip
   cases hzz : zeroT P e with
   | none => simp only [hzz] at h; cases h
   | some z =>
    simp only [hzz] at h ⊢
    split at h
    ·rename_i h1
     cases h
     rw [if_pos h1]
     refine ⟨_, rfl, ?_⟩
     rintro r m' ⟨g, rfl, rfl⟩
     obtain ⟨k1, k2⟩ := LU.set hd' _ M' M _ ha.symm rfl
     exact ⟨fun k hk => of_gl k2 hk, _, ⟨g, rfl, (Option.some.inj k1).symm⟩, rfl⟩
    ·cases h
theorem loc_store {ty : TypeId} {v x : V} (hv : ∀ k ∈ kV v, k ∈ T) (hx : ∀ k ∈ kC x, k ∈ T) : LocF T fun M => storeV P ty v x M := by
 intro M M' pre Q ha h
 cases v <;> first | (simp only [storeV] at h; cases h; done) | skip
 rename_i s q i j g k
 have hs : s ∈ T := hv s (by simp [kV])
 have e := getP_agr hs ha q
 simp only [storeV, e] at h ⊢
 split at h
 ·rename_i e' g' cap es hn
  have hU : LU T fun M => putAll s q M (x.cells.mapIdx fun l c => (i, j + l, c)) := LU.putAll hs q _ (by
   intro y hy k hk
   rw [List.mem_mapIdx] at hy
   obtain ⟨l, hl, rfl⟩ := hy
   exact hx k (by simp only [kC, List.mem_flatMap]; exact ⟨_, List.getElem_mem hl, hk⟩))
  split at h
  ·rename_i M1 hM1
   cases h
   obtain ⟨k1, k2⟩ := hU M M' M1 ha hM1
   simp only [k1]
   refine ⟨_, rfl, ?_⟩
   rintro r m' ⟨rfl, rfl⟩
   refine ⟨fun k hk => by simp [gl, hk], M1, ⟨rfl, rfl⟩, ?_⟩
   funext k
   by_cases hk : k ∈ T
   ·simp [gl, hk]
   ·simp [gl, hk, of_gl k2 hk]
  ·cases h
 ·cases h
theorem LU.comp {U U2 : Mem → Mem} (h : LU T fun M => some (U M)) (h2 : LU T fun M => some (U2 M)) : LU T fun M => some (U2 (U M)) := LU.bind h h2
theorem LU.at_ {U : Mem → Mem} (h : LU T fun M => some (U M)) (ha : Agr T M M') : U M' = gl T (U M) M' ∧ U M = gl T (U M) M := by
 obtain ⟨h1, h2⟩ := h M M' _ ha rfl
 exact ⟨Option.some.inj h1, h2⟩
theorem loc_row {d : Nat} {e : TypeId} {v : V} (hd : d ∈ T) (hv : ∀ k ∈ kV v, k ∈ T) (ha : Agr T M M') {c : Prop} {es : List V} (h : rowV d e M v = some (c, es, m)) : rowV d e M' v = some (c, es, gl T m M') ∧ m = gl T m M := by
 have fin : ∀ {U : Mem → Mem} {c' : Prop} {es' : List V}, LU T (fun M => some (U M)) → some (c', es', U M) = some (c, es, m) → some (c', es', U M') = some (c, es, gl T m M') ∧ m = gl T m M := by
  intro U c' es' hU hh
  cases hh
  obtain ⟨k1, k2⟩ := LU.at_ hU ha
  exact ⟨by rw [k1], k2⟩
 cases v <;> first | (simp only [rowV] at h; cases h; done) | skip
 case nilsl => exact fin (U := fun M => M) LU.some_ h
 case msl s q γ l cap =>
  have hs : s ∈ T := hv s (by simp [kV])
  cases q with
  | nil =>
   simp only [rowV, ha s hs] at h ⊢
   cases hM : M s with
   | none => simp only [hM] at h; cases h
   | some u =>
    cases u <;> simp only [hM] at h <;> first | (cases h; done) | skip
    simp only [hM]
    exact fin (U := fun M => M.era s) (LU.era hs) h
  | cons p q =>
   have e1 := getP_agr hs ha (p :: q)
   simp only [rowV, e1] at h ⊢
   split at h
   ·rename_i i j e' γ' cap' es' hl hg
    split at h
    ·rename_i hne
     rw [if_pos hne]
     exact fin (U := fun M => (M.setP s (p :: q).dropLast i j .undef).era d) (LU.comp (U2 := fun M => M.era d) (LU.setP hs _ i j _) (LU.era hd)) h
    ·cases h
   ·cases h
theorem loc_src {v : V} (hv : ∀ k ∈ kV v, k ∈ T) (ha : Agr T M M') {c : Prop} {es : List V} (h : srcV M v = some (c, es, m)) : srcV M' v = some (c, es, gl T m M') ∧ m = gl T m M := by
 have fin : ∀ {U : Mem → Mem} {c' : Prop} {es' : List V}, LU T (fun M => some (U M)) → some (c', es', U M) = some (c, es, m) → some (c', es', U M') = some (c, es, gl T m M') ∧ m = gl T m M := by
  intro U c' es' hU hh
  cases hh
  obtain ⟨k1, k2⟩ := LU.at_ hU ha
  exact ⟨by rw [k1], k2⟩
 cases v <;> first | (simp only [srcV] at h; cases h; done) | skip
 case sl ys => exact fin (U := fun M => M) LU.some_ h
 case nilsl => exact fin (U := fun M => M) LU.some_ h
 case msl s q γ l cap =>
  have hs : s ∈ T := hv s (by simp [kV])
  have e1 := getP_agr hs ha q
  simp only [srcV, e1] at h ⊢
  split at h
  ·rename_i e' γ' cap' es' hg
   split at h
   ·rename_i hf
    rw [if_pos hf]
    exact fin (U := fun M => M) LU.some_ h
   ·rename_i hf
    rw [if_neg hf]
    split at h
    ·rename_i hq
     rw [if_pos hq]
     exact fin (U := fun M => M.era s) (LU.era hs) h
    ·cases h
  ·cases h
theorem loc_append {d : Option Nat} {ty tx : TypeId} {v x : V} (hd : ∀ k ∈ d.toList, k ∈ T) (hv : ∀ k ∈ kV v, k ∈ T) (hx : ∀ k ∈ kV x, k ∈ T) : LocF T fun M => appendV P d ty tx v x M := by
 intro M M' pre Q ha h
 cases d with
 | none => simp only [appendV] at h; cases h
 | some d =>
  have hd' : d ∈ T := hd d (by simp)
  cases he : elT P ty with
  | none => simp only [appendV, he] at h; cases h
  | some e =>
   simp only [appendV, he] at h ⊢
   split at h
   ·rename_i hc
    rw [if_pos hc]
    cases hr : rowV d e M v with
    | none => simp only [hr] at h; cases h
    | some y =>
     obtain ⟨c1, es, M1⟩ := y
     obtain ⟨r1, r2⟩ := loc_row hd' hv ha hr
     simp only [hr] at h
     simp only [r1]
     cases hs : srcV M1 x with
     | none => simp only [hs] at h; cases h
     | some z =>
      obtain ⟨c2, ys, M2⟩ := z
      simp only [hs] at h
      cases h
      obtain ⟨s1, s2⟩ := loc_src (M' := gl T M1 M') hx (fun k hk => by simp [gl, hk]) hs
      have e2 : gl T M2 (gl T M1 M') = gl T M2 M' := by funext k; simp only [gl]; split <;> rfl
      rw [e2] at s1
      simp only [s1]
      refine ⟨_, rfl, ?_⟩
      rintro r m' ⟨γ', cap', hn, rfl, rfl⟩
      refine ⟨fun k hk => ?_, _, ⟨γ', cap', hn, rfl, rfl⟩, ?_⟩
      ·have : k ≠ d := fun e => hk (e ▸ hd')
       simp [Mem.set, this, gl, hk]
      ·funext k
       simp only [gl, Mem.set]
       by_cases hk : k ∈ T
       ·simp [hk]
       ·have : k ≠ d := fun e => hk (e ▸ hd')
        simp only [this, hk, if_false]
        rw [of_gl s2 hk, of_gl r2 hk]
   ·cases h
theorem key_kV {v : V} {k : Nat} (h : v.key = some k) : k ∈ kV v := by
 cases v <;> simp [V.key] at h <;> simp [kV, h]
theorem loc_callV {f : FuncId} {args : List V} {d : Option Nat} (hd : ∀ k ∈ d.toList, k ∈ T) (hv : ∀ k ∈ args.flatMap kV, k ∈ T) : LocF T fun M => callV Φ f args d M := by
 intro M M' pre Q ha h
 have hkey : ∀ (i k : Nat), (args.map V.key)[i]? = some (some k) → k ∈ T := by
  intro i k hi
  rw [List.getElem?_map, Option.map_eq_some_iff] at hi
  obtain ⟨v, h1, h2⟩ := hi
  exact hv k (List.mem_flatMap.2 ⟨v, List.mem_of_getElem? h1, key_kV h2⟩)
 have hfoot : footM M' (args.map V.key) = footM M (args.map V.key) := by
  funext i
  simp only [footM]
  cases hi : (args.map V.key)[i]? with
  | none => rfl
  | some x => cases x with
   | none => rfl
   | some k => exact ha k (hkey i k hi)
 simp only [callV, hfoot] at h ⊢
 split at h
 ·rename_i hc
  rw [if_pos hc]
  rw [Option.map_eq_some_iff] at h
  obtain ⟨R, h1, h2⟩ := h
  cases h2
  rw [h1]
  refine ⟨_, rfl, ?_⟩
  rintro r m' ⟨r0, Mf, k1, k2, rfl⟩
  have off : ∀ (M : Mem) k, k ∉ T → mergeM M (args.map V.key) d Mf k = M k := by
   intro M k hk
   unfold mergeM
   rw [if_neg (fun hh => hk (hd k (by rw [hh.1]; simp)))]
   split
   ·rename_i i hi
    rw [List.idxOf?_eq_some_iff] at hi
    obtain ⟨hlt, he, _⟩ := hi
    have he' : (args.map V.key)[i] = some k := by simpa using he
    exact absurd (hkey i k (by rw [List.getElem?_eq_getElem hlt, he'])) hk
   ·rfl
  refine ⟨fun k hk => off M' k hk, _, ⟨r0, Mf, k1, k2, rfl⟩, ?_⟩
  funext k
  by_cases hk : k ∈ T
  ·simp only [gl, hk, if_true, mergeM]
   split
   ·rfl
   ·split
    ·rfl
    ·exact (ha k hk).symm
  ·simp only [gl, hk, if_false]
   exact off M k hk
 ·cases h
theorem loc_op {o : Oper} {t : Nat → V} : LocF (touch P o t) fun M => opV Φ P o t M := by
 by_cases hp : pureOp o.op = true
 ·obtain ⟨x, hx⟩ := loc_pure (Φ := Φ) (P := P) (t := t) hp
  have : (fun M => opV Φ P o t M) = fun M => x.map fun y => (y.1, det y.2 M) := funext hx
  rw [this]
  exact LocF.pure
 ·unfold touch
  rw [if_neg hp]
  unfold opV
  cases ho : o.op <;> rw [ho] at hp <;> first | (exfalso; exact hp rfl) | exact LocF.none | skip
  case assign x => exact loc_assign (fun k hk => by simp at hk ⊢; simp [hk]) (fun k hk => by simp [hk])
  case alloc e => exact loc_alloc (fun k hk => by simp at hk ⊢; simp [hk]) (fun k hk => by simp [hk])
  case box e x => exact loc_box (fun k hk => by simp at hk ⊢; simp [hk]) (fun k hk => by simp [hk])
  case buildSlice ty n ps =>
   refine loc_buildSlice (fun k hk => by simp at hk ⊢; simp [hk]) (fun k hk => by simp [hk]) (fun k hk => ?_)
   rw [List.flatMap_map] at hk
   simp only [List.mem_append]
   exact .inr hk
  case load ty a => exact loc_load (fun k hk => hk)
  case store ty a x => exact loc_store (fun k hk => by simp [hk]) (fun k hk => by simp [hk])
  case makeSlice ty n c => exact loc_makeSlice (fun k hk => hk)
  case call c =>
   obtain ⟨callee, args, tys⟩ := c
   simp only [callBV]
   cases callee with
   | invoke _ _ => exact LocF.none
   | value f =>
    simp only [callOpV]
    cases hf : evV t f <;> first | exact LocF.none | skip
    rename_i fn first cap
    cases fn <;> first | exact LocF.none | skip
    exact loc_callV (fun k hk => by simp at hk ⊢; simp [hk]) (fun k hk => by simp only [List.mem_append]; exact .inr hk)
   | builtin b =>
    cases b <;> first | exact LocF.none | (exfalso; exact hp rfl) | skip
    simp only
    cases hx : args.toList with
    | nil => exact LocF.none
    | cons s l =>
     cases l with
     | nil => exact LocF.none
     | cons x l =>
      cases l with
      | cons _ _ => exact LocF.none
      | nil =>
       cases tys.toList with
       | nil => exact LocF.none
       | cons ty l =>
        cases l with
        | nil => exact LocF.none
        | cons tx l =>
         cases l with
         | cons _ _ => exact LocF.none
         | nil => exact loc_append (fun k hk => by simp at hk ⊢; simp [hk]) (fun k hk => by simp [hk]) (fun k hk => by simp [hk])
end
end Go.Proofs.YtkdolbffabmemaaGreatDoor
