/-
 The machine of values: words for reckoning with signs.
-/
import Derived.Test.YtkdolbffabmemaaGreatDoorLvl
namespace Go.Proofs.YtkdolbffabmemaaGreatDoor
open Go.RowKit
set_option linter.unusedSimpArgs false
set_option linter.unusedVariables false
section
variable {P : Program} {N : Nat} {imm imm' imm0 : Nat → Prop} {w w' w0 : World} {M M0 M' : Mem} {t : Nat → V} {K : (Nat → V) → Mem → Prop} {k : V → Mem → Prop}
structure Fc (P : Program) (f : FuncId) (args : List V) (F : Mem) (R : Post) : Prop where
 fn : Fn P f args F R
 go : goFn P f = true
def Sub (F M : Mem) : Prop := ∀ k v, F k = some v → M k = some v
theorem Step.less {sz : TypeId → Nat} {F F' m : Mem} (h : Step sz imm w F imm' w' m) (hs : Sub F F') : Step sz imm w F' imm' w' m :=
 ⟨h.inv, h.lt, h.size, h.os, h.tape, h.output, fun g hg hn => h.block g hg (fun ho => hn (owns_sub hs ho)), fun g hg => (h.owns g hg).imp_left (owns_sub hs)⟩
theorem Fn.less {f : FuncId} {args : List V} {F F' : Mem} {R : Post} (h : Fn P f args F R) (hs : Sub F F') : Fn P f args F' R := by
 intro imm w vals hG hI hi hsz hv
 refine (h imm w vals hG (hI.sub hs) hi hsz hv).mono ?_
 rintro e w' ⟨v, r, m, imm', h1, h2, h3, h4⟩
 exact ⟨v, r, m, imm', h1, h2, h3, h4.less hs⟩
theorem Fc.of {f : FuncId} {fn : Func} {c : Code} {args : List V} {F : Mem} {R : Post} {n : Nat} {rs : Array ResultVar} (hf : P.funcs[f]? = some fn) (hn : fn.ntmps = n) (hrs : fn.results = rs) (hb : fn.body = some c) (hname : (fn.name != "runtime.NumGoroutine") = true)
  (h : Sat P (args.length + (n - args.length)) c (argT args) F (Fin P rs.toList R)) : Fc P f args F R :=
 ⟨Fn.of hf hb (by rw [hn, hrs]; exact h), by simp only [goFn, hf, hname, hb, Option.isSome_some, Bool.and_self]⟩
def resN (d : Option Nat) (r0 : V) : V := match d with | some d => r0.ren100 d | none => r0
def postR (d : Option Nat) (R : Post) (as : List V) (M : Mem) : Post := fun r m => ∃ r0 Mf, R r0 Mf ∧ (match d with | some d => r = r0.ren100 d | none => True) ∧ m = mergeM M (as.map V.key) d Mf
def callR (P : Program) (f : FuncId) (args : List V) (d : Option Nat) (M : Mem) (k : V → Mem → Prop) (u : Lk (M, k)) : Prop :=
 ∃ F R, Fc P f (renArgs 0 args) F R ∧ ((args.map V.key).filterMap id).Nodup ∧ args.length ≤ 90 ∧ Sub F (footM M (args.map V.key)) ∧ ∀ r0 Mf, R r0 Mf → k (resN d r0) (mergeM M (args.map V.key) d Mf)
theorem runOp_call {d : Option Nat} {c : Call} {ty : TypeId} {pos : String} {aft : Array Edge} {g : Option (Nat × Bool)} {fo : Operand} {f : FuncId} {first cap : List V} (hc : c.callee = .value fo) (hf : evV t fo = .fn (.func f) first cap)
  (h : callR P f (first ++ c.args.toList.map (evV t) ++ cap) d M (fun r m => K (putT t d r) m) .mk) : runOp P ⟨d, .call c, ty, pos, aft, g⟩ t M K := by
 classical
 obtain ⟨F, R, h1, h2, h3, h4, h5⟩ := h
 refine ⟨fun f' as F' => if f' = f ∧ as = renArgs 0 (first ++ c.args.toList.map (evV t) ++ cap) ∧ F' = footM M ((first ++ c.args.toList.map (evV t) ++ cap).map V.key) then some R else none, ?_, True, postR d R (first ++ c.args.toList.map (evV t) ++ cap) M, ?_, trivial, ?_⟩
 ·intro f' as F' R' hh
  simp only at hh
  split at hh
  ·rename_i he
   obtain ⟨rfl, rfl, rfl⟩ := he
   cases hh
   exact ⟨h1.fn.less h4, h1.go⟩
  ·cases hh
 ·simp only [opV, callBV, hc, callOpV, hf, callV]
  rw [if_pos ⟨h2, h3⟩]
  simp only [and_self, if_true, Option.map_some]
  rfl
 ·rintro r m ⟨r0, Mf, k1, k2, rfl⟩
  have := h5 r0 Mf k1
  cases d with
  | none => exact this
  | some d => subst k2; exact this
theorem sound_none : Sound P (fun _ _ _ => none) := fun _ _ _ _ h => by cases h
theorem runOp_iff {o : Oper} {x : Option (Prop × Post)} (h : ∀ Φ, opV Φ P o t M = x) : runOp P o t M K ↔ runV x (fun r m => K (putT t o.dst r) m) .mk :=
 ⟨fun ⟨Φ, _, hr⟩ => h Φ ▸ hr, fun hr => ⟨_, sound_none, (h _).symm ▸ hr⟩⟩
section
variable {ds : List (Option Nat)} {o : Oper} {l : List Oper} {dst : Option Nat} {ty : TypeId} {pos : String} {aft : Array Edge} {g : Option (Nat × Bool)}
@[push_cast] theorem wpL_nil : wpL P ds [] t M K = K t M := Eq.trans rfl rfl
@[push_cast] theorem wpL_cons {op : Op} : wpL P ds (⟨dst, op, ty, pos, aft, none⟩ :: l) t M K = runOp P ⟨dst, op, ty, pos, aft, none⟩ t M fun t M => wpL P ds l t M K := Eq.trans rfl rfl
@[push_cast] theorem wpL_guard {op : Op} {j : Nat} {b : Bool} : wpL P ds (⟨dst, op, ty, pos, aft, some (j, b)⟩ :: l) t M K =
  wpS (t (gd ds j)) t (gd ds j) b (fun t => runOp P ⟨dst, op, ty, pos, aft, some (j, b)⟩ t M fun t M => wpL P ds l t M K) (fun t => wpL P ds l (putT t dst (.tuple [])) M K) .mk := Eq.trans rfl rfl
@[push_cast] theorem gd_zero {d : Nat} {ds : List (Option Nat)} : gd (some d :: ds) 0 = d := Eq.trans rfl rfl
@[push_cast] theorem gd_succ {d : Option Nat} {ds : List (Option Nat)} {n : Nat} : gd (d :: ds) (n + 1) = gd ds n := by cases d <;> rfl
theorem wpS_bool {b want : Bool} {d : Nat} {A B : (Nat → V) → Prop} : wpS (.bool b) t d want A B .mk ↔ (b = want → A (upd t d (.bool want))) ∧ (b = !want → B (upd t d (.bool (!want)))) := by
 cases b <;> cases want <;> simp [wpS]
@[push_cast] theorem wpS_true {b : Bool} {d : Nat} {A B : (Nat → V) → Prop} : wpS (.bool b) t d true A B .mk ↔ (b = true → A (upd t d (.bool true))) ∧ (b = false → B (upd t d (.bool false))) := wpS_bool
@[push_cast] theorem wpS_false {b : Bool} {d : Nat} {A B : (Nat → V) → Prop} : wpS (.bool b) t d false A B .mk ↔ (b = false → A (upd t d (.bool false))) ∧ (b = true → B (upd t d (.bool true))) := wpS_bool
theorem wpS_tt {d : Nat} {A B : (Nat → V) → Prop} : wpS (.bool true) t d true A B .mk = A (upd t d (.bool true)) := Eq.trans rfl rfl
theorem wpS_tf {d : Nat} {A B : (Nat → V) → Prop} : wpS (.bool true) t d false A B .mk = B (upd t d (.bool true)) := Eq.trans rfl rfl
theorem wpS_ft {d : Nat} {A B : (Nat → V) → Prop} : wpS (.bool false) t d true A B .mk = B (upd t d (.bool false)) := Eq.trans rfl rfl
theorem wpS_ff {d : Nat} {A B : (Nat → V) → Prop} : wpS (.bool false) t d false A B .mk = A (upd t d (.bool false)) := Eq.trans rfl rfl
@[push_cast] theorem wpS_undef {d : Nat} {b : Bool} {A B : (Nat → V) → Prop} : wpS (.tuple []) t d b A B .mk = B t := Eq.trans rfl rfl
@[push_cast] theorem upd_at {d i : Nat} {v : V} : upd t d v i = if i = d then v else t i := Eq.trans rfl rfl
@[push_cast] theorem putT_some {d : Nat} {v : V} : putT t (some d) v = upd t d v := Eq.trans rfl rfl
@[push_cast] theorem putT_none {v : V} : putT t none v = t := Eq.trans rfl rfl
@[push_cast] theorem noM_at {i : Nat} : noM i = none := Eq.trans rfl rfl
@[push_cast] theorem set_at {o i : Nat} {v : V} : (M.set o v) i = if i = o then some v else M i := Eq.trans rfl rfl
@[push_cast] theorem era_at {o i : Nat} : (M.era o) i = if i = o then none else M i := Eq.trans rfl rfl
@[push_cast] theorem noT_at {i : Nat} : noT i = .undef := Eq.trans rfl rfl
@[push_cast] theorem argT_zero {v : V} {l : List V} : argT (v :: l) 0 = v := Eq.trans rfl rfl
@[push_cast] theorem argT_succ {v : V} {l : List V} {n : Nat} : argT (v :: l) (n + 1) = argT l n := by simp [argT]
@[push_cast] theorem argT_nil {n : Nat} : argT [] n = .tuple [] := Eq.trans rfl rfl
@[push_cast] theorem evV_tmp {i : Nat} : evV t (.tmp i) = t i := Eq.trans rfl rfl
@[push_cast] theorem evV_const {v : Value} : evV t (.const v) = ofVal v := Eq.trans rfl rfl
@[push_cast] theorem evV_func {f : FuncId} : evV t (.func f) = .fn (.func f) [] [] := Eq.trans rfl rfl
@[push_cast] theorem ofVal_int {k : IntKind} {n : Int} : ofVal (.int k n) = .int k n := Eq.trans rfl rfl
@[push_cast] theorem ofVal_bool {b : Bool} : ofVal (.bool b) = .bool b := Eq.trans rfl rfl
@[push_cast] theorem ofVal_nilp : ofVal (.pointer none) = .nilp := Eq.trans rfl rfl
@[push_cast] theorem ofVal_nilsl : ofVal (.slice none 0 0) = .nilsl := Eq.trans rfl rfl
@[push_cast] theorem ofVal_nilfn : ofVal .nilFunc = .nilfn := Eq.trans rfl rfl
@[push_cast] theorem runV_det {p : Prop} {v : V} : runV (some (p, det v M)) k .mk ↔ p ∧ k v M := by
 constructor
 ·rintro ⟨_, _, h, hp, hr⟩; cases h; exact ⟨hp, hr _ _ ⟨rfl, rfl⟩⟩
 ·rintro ⟨hp, hk⟩; exact ⟨_, _, rfl, hp, by rintro _ _ ⟨rfl, rfl⟩; exact hk⟩
@[push_cast] theorem runV_new {p : Prop} {f : Nat → V} {F : Nat → Mem} : runV (some (p, fun r m => ∃ g, r = f g ∧ some (F g) = some m)) k .mk ↔ p ∧ ∀ g, k (f g) (F g) := by
 constructor
 ·rintro ⟨_, _, h, hp, hr⟩; cases h; exact ⟨hp, fun g => hr _ _ ⟨g, rfl, rfl⟩⟩
 ·rintro ⟨hp, hk⟩; exact ⟨_, _, rfl, hp, by rintro _ _ ⟨g, rfl, h⟩; cases h; exact hk g⟩
@[push_cast] theorem runV_make {p : Prop} {f : Nat → V} {F : Nat → Mem} : runV (some (p, fun r m => ∃ g, r = f g ∧ m = F g)) k .mk ↔ p ∧ ∀ g, k (f g) (F g) := by
 constructor
 ·rintro ⟨_, _, h, hp, hr⟩; cases h; exact ⟨hp, fun g => hr _ _ ⟨g, rfl, rfl⟩⟩
 ·rintro ⟨hp, hk⟩; exact ⟨_, _, rfl, hp, by rintro _ _ ⟨g, rfl, rfl⟩; exact hk g⟩
@[push_cast] theorem runV_app {p : Prop} {d : Nat} {e : TypeId} {es ys : List V} : runV (some (p, AppR d e es ys M)) k .mk ↔
  p ∧ ∀ γ cap, (γ = none → es ++ ys = []) → k (.msl d [] γ (es.length + ys.length) cap) (M.set d (.own e γ cap (es ++ ys))) := by
 constructor
 ·rintro ⟨_, _, h, hp, hr⟩; cases h; exact ⟨hp, fun γ cap hn => hr _ _ ⟨γ, cap, hn, rfl, rfl⟩⟩
 ·rintro ⟨hp, hk⟩; exact ⟨_, _, rfl, hp, by rintro _ _ ⟨γ, cap, hn, rfl, rfl⟩; exact hk γ cap hn⟩
variable {x y z : Operand} {e f : Nat}
@[push_cast] theorem run_move : runOp P ⟨dst, .move x, ty, pos, aft, g⟩ t M K ↔ runV (some (True, det (evV t x) M)) (fun r m => K (putT t dst r) m) .mk := runOp_iff (fun _ => rfl)
@[push_cast] theorem run_assign : runOp P ⟨dst, .assign x, ty, pos, aft, g⟩ t M K ↔ runV (assignV dst (evV t x) M) (fun r m => K (putT t dst r) m) .mk := runOp_iff (fun _ => rfl)
@[push_cast] theorem run_pick : runOp P ⟨dst, .pick x y z, ty, pos, aft, g⟩ t M K ↔ runV (pickV (evV t x) (evV t y) (evV t z) M) (fun r m => K (putT t dst r) m) .mk := runOp_iff (fun _ => rfl)
@[push_cast] theorem run_alloc : runOp P ⟨dst, .alloc e, ty, pos, aft, g⟩ t M K ↔ runV (allocV P dst e M) (fun r m => K (putT t dst r) m) .mk := runOp_iff (fun _ => rfl)
@[push_cast] theorem run_box : runOp P ⟨dst, .box e x, ty, pos, aft, g⟩ t M K ↔ runV (boxV P dst e (evV t x) M) (fun r m => K (putT t dst r) m) .mk := runOp_iff (fun _ => rfl)
@[push_cast] theorem run_build {ps : Array (Nat × Operand)} : runOp P ⟨dst, .build e ps, ty, pos, aft, g⟩ t M K ↔ runV (buildV P e (ps.toList.map fun p => (p.1, evV t p.2)) M) (fun r m => K (putT t dst r) m) .mk := runOp_iff (fun _ => rfl)
@[push_cast] theorem run_buildSlice {n : Nat} {ps : Array (Nat × Operand)} : runOp P ⟨dst, .buildSlice e n ps, ty, pos, aft, g⟩ t M K ↔ runV (buildSliceV P dst e n (ps.toList.map fun p => (p.1, evV t p.2)) M) (fun r m => K (putT t dst r) m) .mk := runOp_iff (fun _ => rfl)
@[push_cast] theorem run_load : runOp P ⟨dst, .load e x, ty, pos, aft, g⟩ t M K ↔ runV (loadV P e (evV t x) M) (fun r m => K (putT t dst r) m) .mk := runOp_iff (fun _ => rfl)
@[push_cast] theorem run_store : runOp P ⟨dst, .store e x y, ty, pos, aft, g⟩ t M K ↔ runV (storeV P e (evV t x) (evV t y) M) (fun r m => K (putT t dst r) m) .mk := runOp_iff (fun _ => rfl)
@[push_cast] theorem run_nilCheck : runOp P ⟨dst, .nilCheck x, ty, pos, aft, g⟩ t M K ↔ runV (nilCheckV (evV t x) M) (fun r m => K (putT t dst r) m) .mk := runOp_iff (fun _ => rfl)
@[push_cast] theorem run_fieldAddr : runOp P ⟨dst, .fieldAddr e x f, ty, pos, aft, g⟩ t M K ↔ runV (fieldAddrV P e (evV t x) f M) (fun r m => K (putT t dst r) m) .mk := runOp_iff (fun _ => rfl)
@[push_cast] theorem run_field : runOp P ⟨dst, .field e x f, ty, pos, aft, g⟩ t M K ↔ runV (fieldV P e (evV t x) f M) (fun r m => K (putT t dst r) m) .mk := runOp_iff (fun _ => rfl)
@[push_cast] theorem run_indexAddr : runOp P ⟨dst, .indexAddr e x y, ty, pos, aft, g⟩ t M K ↔ runV (indexAddrV P e (evV t x) (evV t y) M) (fun r m => K (putT t dst r) m) .mk := runOp_iff (fun _ => rfl)
@[push_cast] theorem run_index : runOp P ⟨dst, .index e x y, ty, pos, aft, g⟩ t M K ↔ runV (indexV P e (evV t x) (evV t y) M) (fun r m => K (putT t dst r) m) .mk := runOp_iff (fun _ => rfl)
@[push_cast] theorem run_slice {lo hi : Option Operand} : runOp P ⟨dst, .slice e x lo hi none, ty, pos, aft, g⟩ t M K ↔ runV (sliceV P e (evV t x) (lo.map (evV t)) (hi.map (evV t)) M) (fun r m => K (putT t dst r) m) .mk := runOp_iff (fun _ => rfl)
@[push_cast] theorem run_makeSlice : runOp P ⟨dst, .makeSlice e x y, ty, pos, aft, g⟩ t M K ↔ runV (makeSliceV P dst e (evV t x) (evV t y) M) (fun r m => K (putT t dst r) m) .mk := runOp_iff (fun _ => rfl)
@[push_cast] theorem run_makeFunc {fn : Go.Fn} {first cap : Array Operand} : runOp P ⟨dst, .makeFunc fn first cap, ty, pos, aft, g⟩ t M K ↔ runV (some (True, det (.fn fn (first.toList.map (evV t)) (cap.toList.map (evV t))) M)) (fun r m => K (putT t dst r) m) .mk := runOp_iff (fun _ => rfl)
@[push_cast] theorem run_extract : runOp P ⟨dst, .extract x f, ty, pos, aft, g⟩ t M K ↔ runV (extractV (evV t x) f M) (fun r m => K (putT t dst r) m) .mk := runOp_iff (fun _ => rfl)
@[push_cast] theorem run_binOp {op : BinOp} : runOp P ⟨dst, .binOp op e x y f, ty, pos, aft, g⟩ t M K ↔ runV (detO M (binE P op e (evV t x) (evV t y))) (fun r m => K (putT t dst r) m) .mk := runOp_iff (fun _ => rfl)
@[push_cast] theorem run_unOp {op : UnOp} : runOp P ⟨dst, .unOp op e x, ty, pos, aft, g⟩ t M K ↔ runV (detO M (unV op (evV t x))) (fun r m => K (putT t dst r) m) .mk := runOp_iff (fun _ => rfl)
@[push_cast] theorem run_convert : runOp P ⟨dst, .convert e f x, ty, pos, aft, g⟩ t M K ↔ runV (convertV P e f (evV t x) M) (fun r m => K (putT t dst r) m) .mk := runOp_iff (fun _ => rfl)
@[push_cast] theorem run_len : runOp P ⟨dst, .call ⟨.builtin .len, #[x], #[e]⟩, ty, pos, aft, g⟩ t M K ↔ runV (lenOpV P e (evV t x) M) (fun r m => K (putT t dst r) m) .mk := runOp_iff (fun _ => rfl)
@[push_cast] theorem run_append : runOp P ⟨dst, .call ⟨.builtin .append, #[x, y], #[e, f]⟩, ty, pos, aft, g⟩ t M K ↔ runV (appendV P dst e f (evV t x) (evV t y) M) (fun r m => K (putT t dst r) m) .mk := runOp_iff (fun _ => rfl)
@[push_cast] theorem run_max {tys : Array TypeId} : runOp P ⟨dst, .call ⟨.builtin .max, #[x, y], tys⟩, ty, pos, aft, g⟩ t M K ↔ runV (detO M (maxV true (evV t x) (evV t y))) (fun r m => K (putT t dst r) m) .mk := runOp_iff (fun _ => rfl)
@[push_cast] theorem run_min {tys : Array TypeId} : runOp P ⟨dst, .call ⟨.builtin .min, #[x, y], tys⟩, ty, pos, aft, g⟩ t M K ↔ runV (detO M (maxV false (evV t x) (evV t y))) (fun r m => K (putT t dst r) m) .mk := runOp_iff (fun _ => rfl)
@[push_cast] theorem max_eq {k k' : IntKind} {n m : Int} : maxV true (.int k n) (.int k' m) = some (.int k (if m > n then m else n)) := rfl
@[push_cast] theorem min_eq {k k' : IntKind} {n m : Int} : maxV false (.int k n) (.int k' m) = some (.int k (if m < n then m else n)) := rfl
end
def wpCond (v : V) (A B : Prop) (u : Lk (A, B)) : Prop := ∃ b, v = .bool b ∧ (b = true → A) ∧ (b = false → B)
def goOn (K : Kont) (next : (Nat → V) → Mem → Prop) (e : Exit) (t : Nat → V) (M : Mem) : Prop := match e with | .normal => next t M | e => K e t M
def stops (S : List Nat) : Code → Bool
 | .region id _ _ => S.contains id
 | .block id _ => S.contains (1000 + id)
 | .seq (.region id _ _) _ => S.contains (2000 + id)
 | _ => false
def wpC (P : Program) (N : Nat) (S : List Nat) : Code → (Nat → V) → Mem → Kont → Prop
 | .skip, t, M, K => K .normal t M
 | .label _, t, M, K => K .normal t M
 | .ret, t, M, K => K .ret t M
 | .exit id, t, M, K => K (.exit id) t M
 | .seq x y, t, M, K => if stops S x then Sat P N (.seq x y) t M K else wpC P N S x t M (goOn K fun t M => wpC P N S y t M K)
 | .cond c x y, t, M, K => wpCond (evV t c) (wpC P N S x t M K) (wpC P N S y t M K) .mk
 | .block id x, t, M, K => wpC P N S x t M (Kont.inBlock id K)
 | .region _ ops false, t, M, K => wpL P (ops.toList.map (·.dst)) ops.toList t M (K .normal)
 | c, t, M, K => Sat P N c t M K
def codeOk (N : Nat) : Code → Bool
 | .seq x y => codeOk N x && codeOk N y
 | .cond _ x y => codeOk N x && codeOk N y
 | .block _ x => codeOk N x
 | .region _ ops false => dstOk N ops
 | _ => true
theorem Sat.of' {S : List Nat} : ∀ {c : Code} {t : Nat → V} {M : Mem} {K : Kont}, codeOk N c = true → wpC P N S c t M K → Sat P N c t M K
 | .skip, _, _, _, _, h => Sat.skip h
 | .label _, _, _, _, _, h => Sat.label h
 | .ret, _, _, _, _, h => Sat.ret h
 | .exit _, _, _, _, _, h => Sat.exit h
 | .seq x y, t, M, K, ho, h => by
  rw [codeOk, Bool.and_eq_true] at ho
  rw [wpC] at h
  split at h
  ·exact h
  exact Sat.seq fun K' hK => (Sat.of' (c := x) ho.1 h).mono fun e t M he => by
   cases e with
   | normal => exact hK _ _ (Sat.of' ho.2 he)
   | _ => exact he
 | .cond c x y, t, M, K, ho, h => by
  rw [codeOk, Bool.and_eq_true] at ho
  obtain ⟨b, h1, h2, h3⟩ := h
  exact Sat.cond b h1 (fun hb => Sat.of' ho.1 (h2 hb)) (fun hb => Sat.of' ho.2 (h3 hb))
 | .block id x, _, _, _, ho, h => Sat.block (Sat.of' (by rw [codeOk] at ho; exact ho) h)
 | .region _ ops false, _, _, _, ho, h => Sat.region (by rw [codeOk] at ho; exact ho) h
 | .region _ _ true, _, _, _, _, h => h
 | .loop _, _, _, _, _, h => h
 | .rangeFunc .., _, _, _, _, h => h
 | .scope .., _, _, _, _, h => h
 | .goto _, _, _, _, _, h => h
 | .refuse _, _, _, _, _, h => h
theorem Sat.of {S : List Nat} {c : Code} {K : Kont} (ho : codeOk N c = true) (h : wpC P N S c t M K) : Sat P N c t M K := Sat.of' ho h
def SatL (P : Program) (N : Nat) (c : Code) (t : Nat → V) (M : Mem) (K : Kont) (u : Lk (c, t, M, K)) : Prop := Sat P N c t M K
section
variable {C : Kont} {c c' : Code} {S : List Nat} {next : (Nat → V) → Mem → Prop} {id : Nat}
@[push_cast] theorem wpC_skip : wpC P N S .skip t M C = C .normal t M := Eq.trans rfl rfl
@[push_cast] theorem wpC_label : wpC P N S (.label id) t M C = C .normal t M := Eq.trans rfl rfl
@[push_cast] theorem wpC_ret : wpC P N S .ret t M C = C .ret t M := Eq.trans rfl rfl
@[push_cast] theorem wpC_exit : wpC P N S (.exit id) t M C = C (.exit id) t M := Eq.trans rfl rfl
theorem wpC_seq : wpC P N S (.seq c c') t M C = if stops S c then SatL P N (.seq c c') t M C .mk else wpC P N S c t M (goOn C fun t M => wpC P N S c' t M C) := Eq.trans rfl rfl
@[push_cast] theorem stops_region {ops : Array Oper} {b : Bool} : stops S (.region id ops b) = S.contains id := rfl
@[push_cast] theorem stops_skip : stops S .skip = false := rfl
@[push_cast] theorem stops_cond {x : Operand} {d d' : Code} : stops S (.cond x d d') = false := rfl
@[push_cast] theorem stops_seq {ops : Array Oper} {b : Bool} {d' : Code} : stops S (.seq (.region id ops b) d') = S.contains (2000 + id) := rfl
@[push_cast] theorem stops_seq_seq {d d' d2 : Code} : stops S (.seq (.seq d d') d2) = false := rfl
@[push_cast] theorem stops_seq_cond {x : Operand} {d d' d2 : Code} : stops S (.seq (.cond x d d') d2) = false := rfl
@[push_cast] theorem stops_seq_block {d d2 : Code} : stops S (.seq (.block id d) d2) = false := rfl
@[push_cast] theorem stops_seq_loop {d d2 : Code} : stops S (.seq (.loop d) d2) = false := rfl
@[push_cast] theorem stops_seq_skip {d2 : Code} : stops S (.seq .skip d2) = false := rfl
@[push_cast] theorem stops_block {d : Code} : stops S (.block id d) = S.contains (1000 + id) := rfl
@[push_cast] theorem stops_loop {d : Code} : stops S (.loop d) = false := rfl
@[push_cast] theorem stops_label : stops S (.label id) = false := rfl
@[push_cast] theorem stops_exit : stops S (.exit id) = false := rfl
@[push_cast] theorem stops_ret : stops S .ret = false := rfl
theorem Sat.cut {σ : Type} {x y : Code} (S : List Nat) (T : σ → Nat → V) (Mm : σ → Mem) (I : σ → Prop) (ho : codeOk N x = true) (h : wpC P N S x t M (goOn C fun t' M' => ∃ s, I s ∧ Less (T s) t' (Mm s) M')) (h2 : ∀ s, I s → Sat P N y (T s) (Mm s) C) : Sat P N (.seq x y) t M C :=
 Sat.seq fun K' hK => (Sat.of ho h).mono fun e t M he => by
  cases e with
  | normal => obtain ⟨s, hs, hl⟩ := he; exact hK _ _ ((h2 s hs).less hl)
  | _ => exact he
@[push_cast] theorem wpC_cond {x : Operand} : wpC P N S (.cond x c c') t M C = wpCond (evV t x) (wpC P N S c t M C) (wpC P N S c' t M C) .mk := Eq.trans rfl rfl
@[push_cast] theorem wpC_block : wpC P N S (.block id c) t M C = wpC P N S c t M (Kont.inBlock id C) := Eq.trans rfl rfl
@[push_cast] theorem wpC_region {ops : List Oper} : wpC P N S (.region id ⟨ops⟩ false) t M C = wpL P (ops.map (·.dst)) ops t M (C .normal) := Eq.trans rfl rfl
@[push_cast] theorem wpC_loop : wpC P N S (.loop c) t M C = SatL P N (.loop c) t M C .mk := Eq.trans rfl rfl
@[push_cast] theorem wpC_drawn {ops : List Oper} : wpC P N S (.region id ⟨ops⟩ true) t M C = SatL P N (.region id ⟨ops⟩ true) t M C .mk := Eq.trans rfl rfl
@[push_cast] theorem goOn_normal : goOn C next .normal t M = next t M := Eq.trans rfl rfl
@[push_cast] theorem goOn_ret : goOn C next .ret t M = C .ret t M := Eq.trans rfl rfl
@[push_cast] theorem goOn_exit : goOn C next (.exit id) t M = C (.exit id) t M := Eq.trans rfl rfl
@[push_cast] theorem then_normal : Kont.then next C .normal t M = next t M := Eq.trans rfl rfl
@[push_cast] theorem then_ret : Kont.then next C .ret t M = C .ret t M := Eq.trans rfl rfl
@[push_cast] theorem then_exit : Kont.then next C (.exit id) t M = C (.exit id) t M := Eq.trans rfl rfl
@[push_cast] theorem inBlock_normal : Kont.inBlock id C .normal t M = C .normal t M := Eq.trans rfl rfl
@[push_cast] theorem inBlock_ret : Kont.inBlock id C .ret t M = C .ret t M := Eq.trans rfl rfl
@[push_cast] theorem inBlock_exit {id' : Nat} : Kont.inBlock id C (.exit id') t M = if id' = id then C .normal t M else C (.exit id') t M := Eq.trans rfl rfl
@[push_cast] theorem wpCond_bool {b : Bool} {A B : Prop} : wpCond (.bool b) A B .mk ↔ (b = true → A) ∧ (b = false → B) :=
 ⟨fun ⟨_, h, h1, h2⟩ => by cases h; exact ⟨h1, h2⟩, fun h => ⟨b, rfl, h.1, h.2⟩⟩
theorem wpCond_tt {A B : Prop} : wpCond (.bool true) A B .mk ↔ A :=
 ⟨fun ⟨_, h, h1, _⟩ => h1 (V.bool.inj h).symm, fun h => ⟨true, rfl, fun _ => h, fun h' => Bool.noConfusion h'⟩⟩
theorem wpCond_ff {A B : Prop} : wpCond (.bool false) A B .mk ↔ B :=
 ⟨fun ⟨_, h, _, h2⟩ => h2 (V.bool.inj h).symm, fun h => ⟨false, rfl, fun h' => Bool.noConfusion h', fun _ => h⟩⟩
def retV (x : Option (Prop × List V)) (R : Post) (M : Mem) (u : Lk (R, M)) : Prop := ∃ pre vs m, x = some (pre, vs) ∧ pre ∧ Sub m M ∧ R (match vs with | [v] => v | vs => .tuple vs) m
@[push_cast] theorem Fin_ret {rs : List ResultVar} {R : Post} : Fin P rs R .ret t M = retV (resL P t M rs) R M .mk := Eq.trans rfl rfl
@[push_cast] theorem Fin_normal {rs : List ResultVar} {R : Post} : Fin P rs R .normal t M = retV (resL P t M rs) R M .mk := Eq.trans rfl rfl
@[push_cast] theorem retV_one {p : Prop} {v : V} {R : Post} : retV (some (p, [v])) R M .mk ↔ p ∧ ∃ m, Sub m M ∧ R v m :=
 ⟨fun ⟨_, _, m, h, h1, h2, h3⟩ => by cases h; exact ⟨h1, m, h2, h3⟩, fun ⟨h1, m, h2, h3⟩ => ⟨_, _, m, rfl, h1, h2, h3⟩⟩
@[push_cast] theorem retV_nil {p : Prop} {R : Post} : retV (some (p, [])) R M .mk ↔ p ∧ ∃ m, Sub m M ∧ R (.tuple []) m :=
 ⟨fun ⟨_, _, m, h, h1, h2, h3⟩ => by cases h; exact ⟨h1, m, h2, h3⟩, fun ⟨h1, m, h2, h3⟩ => ⟨_, _, m, rfl, h1, h2, h3⟩⟩
@[push_cast] theorem retV_more {p : Prop} {v v' : V} {vs : List V} {R : Post} : retV (some (p, v :: v' :: vs)) R M .mk ↔ p ∧ ∃ m, Sub m M ∧ R (.tuple (v :: v' :: vs)) m :=
 ⟨fun ⟨_, _, m, h, h1, h2, h3⟩ => by cases h; exact ⟨h1, m, h2, h3⟩, fun ⟨h1, m, h2, h3⟩ => ⟨_, _, m, rfl, h1, h2, h3⟩⟩
@[push_cast] theorem ret_no {p : Prop} : (∃ m, Sub m M ∧ p ∧ m = noM) ↔ p := ⟨fun ⟨_, _, h, _⟩ => h, fun h => ⟨noM, (fun _ _ h => by cases h), h, rfl⟩⟩
@[push_cast] theorem ret_no' : (∃ m, Sub m M ∧ m = noM) ↔ True := ⟨fun _ => trivial, fun _ => ⟨noM, (fun _ _ h => by cases h), rfl⟩⟩
theorem Sub.rfl : Sub M M := fun _ _ h => h
theorem Sub.no : Sub noM M := fun _ _ h => by cases h
end
theorem Fc.start {f : FuncId} {fn : Func} {c : Code} {args : List V} {F : Mem} {R : Post} {n : Nat} {rs : Array ResultVar} {S : List Nat} (hf : P.funcs[f]? = some fn) (hn : fn.ntmps = n) (hrs : fn.results = rs) (hb : fn.body = some c) (hname : (fn.name != "runtime.NumGoroutine") = true)
  (hk : Nat.ble args.length n = true) (hok : codeOk n c = true) (h : wpC P n S c (argT args) F (Fin P rs.toList R)) : Fc P f args F R := by
 have e : args.length + (n - args.length) = n := by have := Nat.le_of_ble_eq_true hk; omega
 exact Fc.of hf hn hrs hb hname (by rw [e]; exact Sat.of hok h)
def runCall (P : Program) (v : V) (args : List V) (d : Option Nat) (M : Mem) (k : V → Mem → Prop) (u : Lk (M, k)) : Prop :=
 match v with | .fn (.func f) first cap => callR P f (first ++ args ++ cap) d M k .mk | _ => False
@[push_cast] theorem runCall_fn {f : FuncId} {first cap args : List V} {d : Option Nat} : runCall P (.fn (.func f) first cap) args d M k .mk = callR P f (first ++ args ++ cap) d M k .mk := Eq.trans rfl rfl
@[push_cast] theorem run_call {d : Option Nat} {ty : TypeId} {pos : String} {aft : Array Edge} {g : Option (Nat × Bool)} {fo : Operand} {args : Array Operand} {tys : Array TypeId} :
  runOp P ⟨d, .call ⟨.value fo, args, tys⟩, ty, pos, aft, g⟩ t M K ↔ runCall P (evV t fo) (args.toList.map (evV t)) d M (fun r m => K (putT t d r) m) .mk := by
 constructor
 ·rintro ⟨Φ, hΦ, pre, R, h, hp, hr⟩
  simp only [opV, callBV, callOpV] at h
  split at h
  ·rename_i v f first cap heq
   rw [heq]
   rw [runCall_fn]
   unfold callV at h
   simp only at h
   split at h
   ·rename_i hc
    rw [Option.map_eq_some_iff] at h
    obtain ⟨R0, h0, he⟩ := h
    cases he
    obtain ⟨hF, hG⟩ := hΦ _ _ _ _ h0
    refine ⟨_, R0, ⟨hF, hG⟩, hc.1, hc.2, fun _ _ h => h, fun r0 Mf hR => ?_⟩
    cases d with
    | none => exact hr r0 _ ⟨r0, Mf, hR, trivial, rfl⟩
    | some d => exact hr (r0.ren100 d) _ ⟨r0, Mf, hR, rfl, rfl⟩
   ·cases h
  ·cases h
 ·intro h
  unfold runCall at h
  split at h
  ·rename_i f first cap heq
   exact runOp_call rfl heq h
  ·exact h.elim
theorem callR.intro {f : FuncId} {args : List V} {d : Option Nat} {F : Mem} {R : Post} (h : Fc P f (renArgs 0 args) F R) (hn : ((args.map V.key).filterMap id).Nodup) (h9 : args.length ≤ 90) (hs : Sub F (footM M (args.map V.key)))
  (hk : ∀ r0 Mf, R r0 Mf → k (resN d r0) (mergeM M (args.map V.key) d Mf)) : callR P f args d M k .mk := ⟨F, R, h, hn, h9, hs, hk⟩
end
end Go.Proofs.YtkdolbffabmemaaGreatDoor
