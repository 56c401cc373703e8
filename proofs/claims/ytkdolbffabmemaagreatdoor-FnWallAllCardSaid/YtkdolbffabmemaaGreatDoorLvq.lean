/-
 The machine of values: what an operation looks at.
-/
import Derived.Test.YtkdolbffabmemaaGreatDoorLvm
namespace Go.Proofs.YtkdolbffabmemaaGreatDoor
open Go.RowKit
set_option linter.unusedSimpArgs false
set_option linter.unusedVariables false
def kV : V → List Nat
 | .msl o .. => [o]
 | .ptr o .. => [o]
 | _ => []
def kC (v : V) : List Nat := v.cells.flatMap kV
def pureOp : Op → Bool
 | .move _ | .pick .. | .build .. | .binOp .. | .unOp .. | .convert .. | .extract .. | .fieldAddr .. | .field .. | .indexAddr .. | .index .. | .nilCheck _ | .slice .. | .makeFunc .. => true
 | .call c => match c.callee with | .builtin .len | .builtin .max | .builtin .min => true | _ => false
 | _ => false
def zK (P : Program) (e : TypeId) : List Nat := match zeroT P e with | some z => kC z | none => []
def touch (P : Program) (o : Oper) (t : Nat → V) : List Nat :=
 if pureOp o.op then [] else match o.op with
 | .load _ a => kV (evV t a)
 | .assign x => o.dst.toList ++ kV (evV t x)
 | .alloc e => o.dst.toList ++ zK P e
 | .box _ x => o.dst.toList ++ kC (evV t x)
 | .buildSlice ty _ ps => o.dst.toList ++ ((elT P ty).map (zK P)).getD [] ++ ps.toList.flatMap fun p => kC (evV t p.2)
 | .store _ a x => kV (evV t a) ++ kC (evV t x)
 | .makeSlice .. => o.dst.toList
 | .call c => match c.callee with
  | .value f => match evV t f with
   | .fn _ first cap => o.dst.toList ++ (first ++ c.args.toList.map (evV t) ++ cap).flatMap kV
   | _ => []
  | _ => o.dst.toList ++ c.args.toList.flatMap fun x => kV (evV t x)
 | _ => []
def gl (T : List Nat) (A B : Mem) : Mem := fun k => if k ∈ T then A k else B k
def Agr (T : List Nat) (M M' : Mem) : Prop := ∀ k, k ∈ T → M' k = M k
def LocF (T : List Nat) (f : Mem → Option (Prop × Post)) : Prop :=
 ∀ M M' pre Q, Agr T M M' → f M = some (pre, Q) → ∃ Q', f M' = some (pre, Q') ∧ ∀ r m', Q' r m' → (∀ k, k ∉ T → m' k = M' k) ∧ ∃ m, Q r m ∧ m = gl T m' M
def LU (T : List Nat) (U : Mem → Option Mem) : Prop := ∀ M M' m, Agr T M M' → U M = some m → U M' = some (gl T m M') ∧ m = gl T m M
section
variable {P : Program} {T T' : List Nat} {M M' m : Mem}
theorem Agr.symm (h : Agr T M M') : Agr T M' M := fun k hk => (h k hk).symm
theorem Agr.sub (h : Agr T M M') (hs : ∀ k ∈ T', k ∈ T) : Agr T' M M' := fun k hk => h k (hs k hk)
theorem gl_self : gl T M M = M := by funext k; simp [gl]
theorem gl_of (h : ∀ k, k ∉ T → m k = M k) : m = gl T m M := by
 funext k; simp only [gl]; split
 ·rfl
 ·rename_i hk; exact h k hk
theorem of_gl (h : m = gl T m M) {k : Nat} (hk : k ∉ T) : m k = M k := by
 have := congrFun h k; simpa [gl, hk] using this
theorem LU.mono {U : Mem → Option Mem} (h : LU T U) (hs : ∀ k ∈ T, k ∈ T') : LU T' U := by
 intro M M' m ha hu
 obtain ⟨h1, h2⟩ := h M M' m (ha.sub hs) hu
 refine ⟨?_, gl_of fun k hk => of_gl h2 (fun hk' => hk (hs k hk'))⟩
 rw [h1]; congr 1; funext k
 simp only [gl]
 by_cases hk : k ∈ T
 ·simp [hk, hs k hk]
 ·by_cases hk' : k ∈ T'
  ·simp [hk, hk', of_gl h2 hk, ha k hk']
  ·simp [hk, hk']
theorem LU.bind {U U2 : Mem → Option Mem} (h : LU T U) (h2 : LU T U2) : LU T fun M => (U M).bind U2 := by
 intro M M' m ha hu
 simp only [Option.bind_eq_some_iff] at hu
 obtain ⟨m1, k1, k2⟩ := hu
 obtain ⟨a1, a2⟩ := h M M' m1 ha k1
 obtain ⟨b1, b2⟩ := h2 m1 (gl T m1 M') m (fun k hk => by simp [gl, hk]) k2
 refine ⟨?_, gl_of fun k hk => (of_gl b2 hk).trans (of_gl a2 hk)⟩
 simp only [a1, Option.bind_some, b1]
 congr 1; funext k; simp only [gl]; split <;> rfl
theorem LU.some_ : LU T fun M => some M := by
 intro M M' m ha hu
 cases hu
 refine ⟨?_, gl_self.symm⟩
 congr 1; funext k; simp only [gl]; split
 ·rename_i hk; exact (ha k hk)
 ·rfl
theorem LU.set {d : Nat} (hd : d ∈ T) (v : V) : LU T fun M => some (M.set d v) := by
 intro M M' m ha hu
 cases hu
 refine ⟨?_, gl_of fun k hk => ?_⟩
 ·refine congrArg some ?_; funext k; simp only [gl, Mem.set]
  by_cases hk : k = d
  ·simp [hk, hd]
  ·by_cases h : k ∈ T
   ·simp [hk, h, ha k h]
   ·simp [hk, h]
 ·have : k ≠ d := fun e => hk (e ▸ hd)
  simp [Mem.set, this]
theorem LU.era {d : Nat} (hd : d ∈ T) : LU T fun M => some (M.era d) := by
 intro M M' m ha hu
 cases hu
 refine ⟨?_, gl_of fun k hk => ?_⟩
 ·refine congrArg some ?_; funext k; simp only [gl, Mem.era]
  by_cases hk : k = d
  ·simp [hk, hd]
  ·by_cases h : k ∈ T
   ·simp [hk, h, ha k h]
   ·simp [hk, h]
 ·have : k ≠ d := fun e => hk (e ▸ hd)
  simp [Mem.era, this]
theorem LU.setP {o : Nat} (ho : o ∈ T) (q : Path) (i j : Nat) (c : V) : LU T fun M => some (M.setP o q i j c) := by
 intro M M' m ha hu
 cases hu
 have hM := ha o ho
 cases hv : M o with
 | none =>
  rw [hv] at hM
  simp only [Mem.setP, hv, hM]
  exact LU.some_ M M' M ha rfl
 | some v =>
  rw [hv] at hM
  simp only [Mem.setP, hv, hM]
  exact LU.set ho _ M M' _ ha rfl
theorem LU.put {o : Nat} (ho : o ∈ T) (q : Path) (i j : Nat) (c : V) (hc : ∀ k ∈ kV c, k ∈ T) : LU T fun M => M.put o q i j c := by
 intro M M' m ha hu
 unfold Mem.put at hu ⊢
 simp only at hu ⊢
 split at hu
 ·rename_i d γ l cap
  have hd : d ∈ T := hc d (by simp [kV])
  have hM := ha d hd
  split at hu
  ·rename_i e γ' cap' es hv
   rw [hv] at hM
   split at hu
   ·rename_i hcnd
    simp only [hM]
    rw [if_pos hcnd]
    exact (LU.bind (LU.era hd) (LU.setP ho q i j _)) M M' m ha hu
   ·cases hu
  ·cases hu
 ·cases hu
 ·exact LU.setP ho q i j _ M M' m ha hu
 ·cases hu
 ·cases hu
 ·cases hu
 ·cases hu
 ·rename_i h1 h2 h3 h4 h5 h6 h7
  cases c <;> first | exact LU.setP ho q i j _ M M' m ha hu | skip
theorem LU.putAll {o : Nat} (ho : o ∈ T) (q : Path) : ∀ (l : List (Nat × Nat × V)), (∀ x ∈ l, ∀ k ∈ kV x.2.2, k ∈ T) → LU T fun M => putAll o q M l
 | [], _ => LU.some_
 | (i, j, c) :: l, h => by
  have := LU.bind (LU.put ho q i j c (h (i, j, c) (by simp))) (LU.putAll ho q l fun x hx => h x (by simp [hx]))
  exact this
theorem mem_mv {i : Nat} : ∀ {cs : List V} {j : Nat} {x : Nat × Nat × V}, x ∈ moves i j cs → x.2.2 ∈ cs
 | [], j, x, h => by simp [moves] at h
 | c :: cs, j, x, h => by
  unfold moves at h
  split at h
  ·rcases List.mem_cons.1 h with rfl | h
   ·simp
   ·exact List.mem_cons_of_mem _ (mem_mv h)
  ·exact List.mem_cons_of_mem _ (mem_mv h)
theorem mem_mvE : ∀ {xs : List V} {i : Nat} {x : Nat × Nat × V}, x ∈ movesE i xs → ∃ v ∈ xs, x.2.2 ∈ v.cells
 | [], i, x, h => by simp [movesE] at h
 | v :: xs, i, x, h => by
  rw [movesE, List.mem_append] at h
  rcases h with h | h
  ·exact ⟨v, by simp, mem_mv h⟩
  ·obtain ⟨u, h1, h2⟩ := mem_mvE h
   exact ⟨u, by simp [h1], h2⟩
theorem LU.newO {d : Nat} (hd : d ∈ T) (e : TypeId) (g cap : Nat) {xs : List V} (hx : ∀ v ∈ xs, ∀ k ∈ kC v, k ∈ T) : LU T fun M => newO P M d e g cap xs := by
 have := LU.bind (LU.set hd (.own e (some g) cap (xs.map V.thinE))) (LU.putAll hd [] (movesE 0 xs) fun x h k hk => by
  obtain ⟨v, h1, h2⟩ := mem_mvE h
  exact hx v h1 k (by simp only [kC, List.mem_flatMap]; exact ⟨_, h2, hk⟩))
 exact this
theorem LocF.pure {x : Option (Prop × V)} : LocF T fun M => x.map fun y => (y.1, det y.2 M) := by
 intro M M' pre Q ha h
 rw [Option.map_eq_some_iff] at h
 obtain ⟨⟨p, v⟩, rfl, h2⟩ := h
 cases h2
 refine ⟨det v M', rfl, ?_⟩
 rintro r m' ⟨rfl, rfl⟩
 refine ⟨fun _ _ => rfl, M, ⟨rfl, rfl⟩, ?_⟩
 funext k; simp only [gl]; split
 ·rename_i hk; exact (ha k hk).symm
 ·rfl
theorem LocF.upd {pre : Prop} {v : V} {U : Mem → Option Mem} (hU : LU T U) {f : Mem → Option (Prop × Post)} (hf : ∀ M m, U M = some m → f M = some (pre, det v m)) {M M' m : Mem} (ha : Agr T M M') (hm : U M = some m) :
  ∃ Q', f M' = some (pre, Q') ∧ ∀ r m', Q' r m' → (∀ k, k ∉ T → m' k = M' k) ∧ ∃ m1, det v m r m1 ∧ m1 = gl T m' M := by
 obtain ⟨h1, h2⟩ := hU M M' m ha hm
 refine ⟨_, hf _ _ h1, ?_⟩
 rintro r m' ⟨rfl, rfl⟩
 refine ⟨fun k hk => by simp [gl, hk], m, ⟨rfl, rfl⟩, ?_⟩
 funext k
 by_cases hk : k ∈ T
 ·simp [gl, hk]
 ·simp [gl, hk, of_gl h2 hk]
theorem LocF.new {f : Nat → V} {U : Nat → Mem → Option Mem} (hU : ∀ g, LU T (U g)) {M M' : Mem} (ha : Agr T M M') :
  ∀ r m', (∃ g, r = f g ∧ U g M' = some m') → (∀ k, k ∉ T → m' k = M' k) ∧ ∃ m, (∃ g, r = f g ∧ U g M = some m) ∧ m = gl T m' M := by
 rintro r m' ⟨g, rfl, h⟩
 obtain ⟨h1, h2⟩ := hU g M' M m' ha.symm h
 exact ⟨fun k hk => of_gl h2 hk, _, ⟨g, rfl, h1⟩, rfl⟩
theorem LU.isSome {U : Mem → Option Mem} (hU : LU T U) (ha : Agr T M M') (h : (U M).isSome = true) : (U M').isSome = true := by
 obtain ⟨m, hm⟩ := Option.isSome_iff_exists.1 h
 rw [(hU M M' m ha hm).1]; rfl
theorem loc_pure {Φ : Table} {o : Oper} {t : Nat → V} (hp : pureOp o.op = true) : ∃ x : Option (Prop × V), ∀ M, opV Φ P o t M = x.map fun y => (y.1, det y.2 M) := by
 have one : ∀ (p : Prop) (v : V) (f : Mem → Option (Prop × Post)), (∀ M, f M = some (p, det v M)) → ∃ x : Option (Prop × V), ∀ M, f M = x.map fun y => (y.1, det y.2 M) := fun p v f h => ⟨some (p, v), h⟩
 have no : ∀ (f : Mem → Option (Prop × Post)), (∀ M, f M = none) → ∃ x : Option (Prop × V), ∀ M, f M = x.map fun y => (y.1, det y.2 M) := fun f h => ⟨none, h⟩
 have dO : ∀ y : Option V, ∃ x : Option (Prop × V), ∀ M, detO M y = x.map fun y => (y.1, det y.2 M) := by
  intro y; cases y with
  | none => exact ⟨none, fun _ => rfl⟩
  | some v => exact ⟨some (True, v), fun _ => rfl⟩
 unfold opV
 cases ho : o.op <;> rw [ho] at hp <;> first | (simp [pureOp] at hp; done) | skip
 case move x => exact one _ _ _ fun _ => rfl
 case pick c a b =>
  simp only [pickV]
  cases evV t c <;> first | exact one _ _ _ fun _ => rfl | exact no _ fun _ => rfl
 case build ty ps =>
  simp only [buildV]
  cases zeroT P ty with
  | none => exact no _ fun _ => rfl
  | some z =>
   cases placesT P ty with
   | none => exact no _ fun _ => by cases z <;> rfl
   | some pl =>
    cases z <;> first | exact no _ fun _ => rfl | skip
    rename_i cs
    simp only
    cases fillV pl cs _ with
    | none => exact no _ fun _ => rfl
    | some cs => exact one _ _ _ fun _ => rfl
 case nilCheck x =>
  simp only [nilCheckV]
  cases evV t x <;> first | exact one _ _ _ fun _ => rfl | exact no _ fun _ => rfl
 case binOp => exact dO _
 case unOp => exact dO _
 case convert s d x =>
  simp only [convertV]
  cases evV t x <;> cases intT P d <;> cases intT P s <;> first | exact one _ _ _ fun _ => rfl | exact no _ fun _ => rfl
 case makeFunc => exact one _ _ _ fun _ => rfl
 case slice ty x lo hi mx =>
  cases mx with
  | some _ => exact no _ fun _ => rfl
  | none =>
   simp only [sliceV]
   cases evV t x <;> first | exact no _ fun _ => rfl | skip
   rename_i es
   simp only
   cases (lo.map (evV t)).getD (.int .i64 0) <;> cases (hi.map (evV t)).getD (.int .i64 es.length) <;> cases elT P ty <;> first | exact one _ _ _ fun _ => rfl | exact no _ fun _ => rfl
 case fieldAddr s x f =>
  simp only [fieldAddrV]
  cases evV t x <;> cases offT P s f <;> first | exact one _ _ _ fun _ => rfl | exact no _ fun _ => rfl
 case field ty x f =>
  simp only [fieldV]
  cases evV t x <;> cases hf : offT P ty f <;> first | exact no _ fun _ => rfl | skip
  rename_i cs y
  obtain ⟨off, ft⟩ := y
  simp only
  cases aggT P ft with
  | none => exact no _ fun _ => rfl
  | some ag =>
   cases ag
   ·simp only
    cases cs[off]? with
    | none => exact no _ fun _ => rfl
    | some c => exact one _ _ _ fun _ => rfl
   ·exact one _ _ _ fun _ => rfl
 case indexAddr ty x ix =>
  simp only [indexAddrV]
  cases evV t ix <;> first | exact no _ fun _ => rfl | skip
  simp only
  cases evV t x <;> cases elT P ty <;> cases arrT P ty <;> first | exact no _ fun _ => rfl | exact one _ _ _ fun _ => rfl | (rename_i γ _ _ _; cases γ <;> first | exact no _ fun _ => rfl | exact one _ _ _ fun _ => rfl) | (rename_i γ _ _; cases γ <;> first | exact no _ fun _ => rfl | exact one _ _ _ fun _ => rfl) | (rename_i γ _ _ _ _; cases γ <;> first | exact no _ fun _ => rfl | exact one _ _ _ fun _ => rfl)
 case index ty x ix =>
  simp only [indexV]
  cases evV t x <;> cases evV t ix <;> cases strT P ty <;> cases arrT P ty <;> first | exact one _ _ _ fun _ => rfl | exact no _ fun _ => rfl | (rename_i y; obtain ⟨len, e⟩ := y; simp only; cases hb : aggT P e with
   | none => simp only [ixB]; exact no _ fun _ => rfl
   | some b => cases b <;> simp only [ixB] <;> exact one _ _ _ fun _ => rfl)
 case extract x i =>
  simp only [extractV]
  cases evV t x <;> first | exact no _ fun _ => rfl | skip
  rename_i vs
  simp only
  cases vs[i]? with
  | none => exact no _ fun _ => rfl
  | some c => exact one _ _ _ fun _ => rfl
 case call c =>
  obtain ⟨callee, args, tys⟩ := c
  cases callee <;> first | (simp [pureOp] at hp; done) | skip
  rename_i b
  cases b <;> first | (simp [pureOp] at hp; done) | skip
  case len =>
   simp only [callBV]
   cases args.toList with
   | nil => exact no _ fun _ => rfl
   | cons x xs =>
    cases xs with
    | cons _ _ => exact no _ fun _ => rfl
    | nil =>
     cases tys.toList with
     | nil => exact no _ fun _ => rfl
     | cons ty ts =>
      cases ts with
      | cons _ _ => exact no _ fun _ => rfl
      | nil =>
       simp only [lenOpV]
       cases evV t x <;> cases elT P ty <;> cases strT P ty <;> first | exact no _ fun _ => rfl | exact one _ _ _ fun _ => rfl
  all_goals
   simp only [callBV]
   rcases args.toList with _ | ⟨x, _ | ⟨y, _ | ⟨z, xs⟩⟩⟩ <;> first | exact no _ fun _ => rfl | exact dO _
end
end Go.Proofs.YtkdolbffabmemaaGreatDoor
