/-
 Words for cutting a walk in parts.
-/
import Derived.Test.YtkdolbffabmemaaGreatDoorLvv
namespace Go.Proofs.YtkdolbffabmemaaGreatDoor
open Go.RowKit
set_option linter.unusedSimpArgs false
set_option linter.unusedVariables false
attribute [go_sem ↓] wpC_skip wpC_label wpC_ret wpC_exit wpC_seq wpC_cond wpC_block wpC_region wpC_loop wpC_drawn goOn_normal goOn_ret goOn_exit then_normal then_ret then_exit inBlock_normal inBlock_ret inBlock_exit Fin_ret Fin_normal wpL_nil wpL_cons wpL_guard run_move run_assign run_pick run_alloc run_box run_build run_buildSlice run_load run_store run_nilCheck run_fieldAddr run_field run_indexAddr run_index run_slice run_makeSlice run_makeFunc run_extract run_binOp run_unOp run_convert run_len run_append run_call resL_nil resL_cons gd_zero gd_succ putT_some putT_none upd_at wpE_nil wpE_cons wpE_guard chk_nil chk_cons chkE_nil chkE_cons chkT_nil chkT_cons
attribute [go_sem] List.length_append or_true true_or Int.natCast_nonneg List.contains_nil List.contains_cons List.replicate_succ List.replicate_zero Bool.or_true Bool.true_or Bool.or_false Bool.false_or Int.add_sub_cancel wrap_ok V.int.injEq V.bool.injEq Nat.lt_irrefl List.take_length List.length_map List.getElem?_map Int.toNat_natCast Int.ofNat_lt resV fillV setCells Bool.not_true Bool.not_false Bool.and_true Bool.true_and Bool.and_false Bool.false_and Bool.and_self Option.map_some Option.map_none Option.bind_some Option.bind_none Option.getD_some Option.getD_none Option.isSome_some Option.isSome_none List.map_cons List.map_nil List.all_cons List.all_nil List.length_cons List.length_nil List.nil_append List.cons_append List.append_nil List.append_assoc List.getElem?_cons_zero List.getElem?_cons_succ List.getElem?_nil List.set_cons_zero List.set_cons_succ List.drop_zero List.drop_succ_cons List.drop_nil List.take_zero List.take_succ_cons List.take_nil List.foldl_cons List.foldl_nil List.mapIdx_cons List.mapIdx_nil Nat.zero_add Nat.add_zero true_and and_true forall_const true_implies implies_true forall_eq BEq.rfl beq_self_eq_true decide_eq_true_eq decide_eq_false_iff_not decide_true decide_false Bool.false_eq_true Bool.true_eq_false false_implies not_true_eq_false not_false_eq_true ne_eq if_true if_false ite_true ite_false Array.toList_empty List.modify_cons List.modifyHead List.modify_zero_cons List.modify_succ_cons Nat.blt_eq List.isEmpty_nil Option.toList_some Option.toList_none List.flatMap_cons List.flatMap_nil iff_self
section
variable {P : Program} {N : Nat} {M Mm : Mem} {t T : Nat → V} {C : Kont} {x y : Code} {S : List Nat}
theorem Sat.cutS (T : Nat → V) (Mm : Mem) (h : Sat P N x t M (goOn C fun t' M' => Less T t' Mm M')) (h2 : Sat P N y T Mm C) : Sat P N (.seq x y) t M C :=
 Sat.seq fun K' hK => h.mono fun e t M he => by
  cases e with
  | normal => exact hK _ _ (h2.less he)
  | _ => exact he
theorem Sat.cutP (T : Nat → V) (Mm : Mem) (p : Prop) (h : Sat P N x t M (goOn C fun t' M' => p ∧ Less T t' Mm M')) (h2 : p → Sat P N y T Mm C) : Sat P N (.seq x y) t M C :=
 Sat.seq fun K' hK => h.mono fun e t M he => by
  cases e with
  | normal => exact hK _ _ ((h2 he.1).less he.2)
  | _ => exact he
theorem Sat.cutT (S : List Nat) (T : Nat → V) (Mm : Mem) (ho : codeOk N x = true) (h : wpC P N S x t M (goOn C fun t' M' => Less T t' Mm M')) (h2 : Sat P N y T Mm C) : Sat P N (.seq x y) t M C :=
 Sat.cutS T Mm (Sat.of ho h) h2
theorem Sat.cut1 (S : List Nat) (d : Nat) (v : V) (ho : codeOk N x = true) (h : wpC P N S x t M (goOn C fun t' M' => Less (upd t d v) t' M M')) (h2 : Sat P N y (upd t d v) M C) : Sat P N (.seq x y) t M C :=
 Sat.cutT S _ _ ho h h2
def LessO (O : List Nat) (t' t : Nat → V) (M' M : Mem) : Prop := (∀ i, i ∈ O ∨ t' i = .undef ∨ t' i = t i) ∧ ∀ k v, M' k = some v → M k = some v
theorem Less.start (h : LessO [] T t Mm M) : Less T t Mm M := ⟨fun i => (h.1 i).resolve_left (by simp), h.2⟩
theorem LessO.nil {O : List Nat} : LessO O noT t noM M := ⟨fun _ => .inr (.inl rfl), fun _ _ h => by cases h⟩
theorem LessO.all {O : List Nat} : LessO O t t M M := ⟨fun _ => .inr (.inr rfl), fun _ _ h => h⟩
theorem LessO.skip {O : List Nat} {d : Nat} {v : V} (hd : O.contains d = true) (h : LessO O T t Mm M) : LessO O (upd T d v) t Mm M := by
 refine ⟨fun i => ?_, h.2⟩
 by_cases hi : i = d
 ·subst hi; exact .inl (by simpa using hd)
 ·simpa [upd, hi] using h.1 i
theorem LessO.upd {O : List Nat} {d : Nat} {v : V} (h : LessO (d :: O) T t Mm M) (hv : t d = v) : LessO O (upd T d v) t Mm M := by
 refine ⟨fun i => ?_, h.2⟩
 by_cases hi : i = d
 ·subst hi; exact .inr (.inr (by simp [Go.Proofs.YtkdolbffabmemaaGreatDoor.upd, hv]))
 ·rcases h.1 i with h1 | h1
  ·simp only [List.mem_cons] at h1
   exact .inl (h1.resolve_left hi)
  ·exact .inr (by simpa [Go.Proofs.YtkdolbffabmemaaGreatDoor.upd, hi] using h1)
theorem LessO.set {O : List Nat} {d : Nat} {v : V} (h : LessO O T t Mm M) (hv : M d = some v) : LessO O T t (Mm.set d v) M := by
 refine ⟨h.1, fun k v' hk => ?_⟩
 simp only [Mem.set] at hk
 split at hk
 ·rename_i h1; subst h1; rw [hv]; exact hk
 ·exact h.2 _ _ hk
theorem Fc.rekey {f : FuncId} {args : List V} {F : Mem} {R R' : Post} (h : Fc P f args F R') (hR : ∀ r m, R' r m → R r m ∨ ∃ s γ l cap ob, r = .msl s [] γ l cap ∧ m s = some ob ∧ R (.msl 100 [] γ l cap) ((m.era s).set 100 ob)) : Fc P f args F R := by
 refine ⟨fun imm w vals hG hI hi hs hv => (h.fn imm w vals hG hI hi hs hv).mono ?_, h.go⟩
 rintro e w' ⟨v, r, m, imm', h1, h2, h3, h4⟩
 rcases hR r m h2 with k | ⟨s, γ, l, cap, ob, rfl, k2, k3⟩
 ·exact ⟨v, r, m, imm', h1, k, h3, h4⟩
 ·exact ⟨v, _, _, imm', h1, k3, h3.msl_any, h4.rekey k2⟩
theorem Fc.nilrow {f : FuncId} {args : List V} {F : Mem} {R R' : Post} (h : Fc P f args F R') (hR : ∀ r m, R' r m → ∃ s q, r = .msl s q none 0 0 ∧ R (.sl []) noM) : Fc P f args F R := by
 refine ⟨fun imm w vals hG hI hi hs hv => (h.fn imm w vals hG hI hi hs hv).mono ?_, h.go⟩
 rintro e w' ⟨v, r, m, imm', h1, h2, h3, h4⟩
 obtain ⟨s, q, rfl, k3⟩ := hR r m h2
 have hv : v = .slice none 0 0 := by cases h3; rfl
 subst hv
 have hsub : Sub noM m := fun _ _ h => by cases h
 exact ⟨_, _, _, imm', h1, k3, .sl0 none 0, h4.mem (h4.inv.sub hsub) (fun g hg => h4.owns g (owns_sub hsub hg))⟩
theorem Fc.rekeyP {f : FuncId} {args : List V} {F : Mem} {R R' : Post} (h : Fc P f args F R') (hR : ∀ r m, R' r m → ∃ s g k ob, r = .ptr s [] 0 0 g k ∧ m s = some ob ∧ R (.ptr 100 [] 0 0 g k) ((m.era s).set 100 ob)) : Fc P f args F R := by
 refine ⟨fun imm w vals hG hI hi hs hv => (h.fn imm w vals hG hI hi hs hv).mono ?_, h.go⟩
 rintro e w' ⟨v, r, m, imm', h1, h2, h3, h4⟩
 obtain ⟨s, g, k, ob, rfl, k2, k3⟩ := hR r m h2
 exact ⟨v, _, _, imm', h1, k3, h3.ptr_any, h4.rekey k2⟩
theorem era_set {s d : Nat} {m : Mem} {a b : V} (hs : m s = none) : ((m.set s a).era s).set d b = m.set d b := by
 funext k
 simp only [Mem.set, Mem.era]
 by_cases h : k = s
 ·subst h; simp [hs]
 ·simp [h]
def frV (o : Nat) (γ : Option Nat) (cap : Nat) (es : List V) (v : V) : V := match v with
 | .msl o' [] γ' l c => if o' = o ∧ γ' = γ ∧ l = es.length ∧ c = cap then .sl (es.map V.fz) else .msl o' [] γ' l c
 | v => v
variable {o : Nat} {γ : Option Nat} {cap : Nat} {es cs : List V} {i j k g : Nat} {q : Path}
@[push_cast] theorem frT_at : frT o γ cap es t i = frV o γ cap es (t i) := Eq.trans rfl rfl
@[push_cast] theorem frV_msl {o' : Nat} {γ' : Option Nat} {l c : Nat} : frV o γ cap es (.msl o' [] γ' l c) = if o' = o ∧ γ' = γ ∧ l = es.length ∧ c = cap then .sl (es.map V.fz) else .msl o' [] γ' l c := Eq.trans rfl rfl
@[push_cast] theorem frV_mslp {o' : Nat} {a : Nat × Nat} {γ' : Option Nat} {l c : Nat} : frV o γ cap es (.msl o' (a :: q) γ' l c) = .msl o' (a :: q) γ' l c := Eq.trans rfl rfl
@[push_cast] theorem frV_ptr {o' : Nat} : frV o γ cap es (.ptr o' q i j g k) = .ptr o' q i j g k := Eq.trans rfl rfl
@[push_cast] theorem frV_int {a : IntKind} {n : Int} : frV o γ cap es (.int a n) = .int a n := Eq.trans rfl rfl
@[push_cast] theorem frV_bool {b : Bool} : frV o γ cap es (.bool b) = .bool b := Eq.trans rfl rfl
@[push_cast] theorem frV_str {b : ByteArray} : frV o γ cap es (.str b) = .str b := Eq.trans rfl rfl
@[push_cast] theorem frV_sl : frV o γ cap es (.sl cs) = .sl cs := Eq.trans rfl rfl
@[push_cast] theorem frV_agg : frV o γ cap es (.agg cs) = .agg cs := Eq.trans rfl rfl
@[push_cast] theorem frV_eptr : frV o γ cap es (.eptr cs) = .eptr cs := Eq.trans rfl rfl
@[push_cast] theorem frV_fn {f : Go.Fn} {a b : List V} : frV o γ cap es (.fn f a b) = .fn f a b := Eq.trans rfl rfl
@[push_cast] theorem frV_tuple : frV o γ cap es (.tuple cs) = .tuple cs := Eq.trans rfl rfl
@[push_cast] theorem frV_undef : frV o γ cap es .undef = .undef := Eq.trans rfl rfl
@[push_cast] theorem frV_nilsl : frV o γ cap es .nilsl = .nilsl := Eq.trans rfl rfl
@[push_cast] theorem frV_nilp : frV o γ cap es .nilp = .nilp := Eq.trans rfl rfl
theorem Sat.freezeT (T : Nat → V) (Mm : Mem) {c : Code} {e : TypeId} (o : Nat) (ho : M o = some (.own e γ cap es)) (hl : Less T (frT o γ cap es t) Mm (M.era o)) (h : Sat P N c T Mm C) : Sat P N c t M C :=
 Sat.freeze o ho (h.less hl)
end
theorem zA : (∀ (t : Nat → V) (d : Nat) (A B : (Nat → V) → Prop), wpS (.bool true) t d true A B .mk = A (upd t d (.bool true))) ∧ (∀ (t : Nat → V) (d : Nat) (A B : (Nat → V) → Prop), wpS (.bool true) t d false A B .mk = B (upd t d (.bool true))) ∧
  (∀ (t : Nat → V) (d : Nat) (A B : (Nat → V) → Prop), wpS (.bool false) t d true A B .mk = B (upd t d (.bool false))) ∧ (∀ (t : Nat → V) (d : Nat) (A B : (Nat → V) → Prop), wpS (.bool false) t d false A B .mk = A (upd t d (.bool false))) ∧
  (∀ A B : Prop, wpCond (.bool true) A B .mk ↔ A) ∧ (∀ A B : Prop, wpCond (.bool false) A B .mk ↔ B) :=
 ⟨fun _ _ _ _ => wpS_tt, fun _ _ _ _ => wpS_tf, fun _ _ _ _ => wpS_ft, fun _ _ _ _ => wpS_ff, fun _ _ => wpCond_tt, fun _ _ => wpCond_ff⟩
abbrev zB := @Less.start
abbrev zC := @LessO.nil
abbrev zD := @LessO.all
abbrev zE := @LessO.skip
abbrev zF := @LessO.upd
abbrev zG := @LessO.set
end Go.Proofs.YtkdolbffabmemaaGreatDoor
