/-
 Contracts and plain laws.
-/
import Derived.Test.YtkdolbffabmemaaGreatDoorLa
import Derived.Test.YtkdolbffabmemaaGreatDoorLf
import Derived.StillTailTactics
import Derived.Sort.Grow
import Derived.Shelf.SlSortCmp.NoneTotal
import Derived.Lib.SlicesCompact
import Derived.Lib.SliceRun
set_option linter.unusedSimpArgs false
set_option linter.unusedVariables false
set_option linter.unusedSectionVars false
namespace Go.Proofs.YtkdolbffabmemaaGreatDoor
section
open Go.RowKit Go.Maps Go.Sort Go.Shelf
attribute [local go_sem] Oper.semAt_some
structure El where
 a : Option Addr × Nat × Nat
 b : Option Addr × Nat × Nat
deriving Inhabited
def enc2 (x : El) : List Value := [.slice x.a.1 x.a.2.1 x.a.2.2, .slice x.b.1 x.b.2.1 x.b.2.2]
def agg2 (x : El) : Value := .agg #[.slice x.a.1 x.a.2.1 x.a.2.2, .slice x.b.1 x.b.2.1 x.b.2.2]
def GivesA (F : Fence) (n : Nat) (P : Program) (g : Nat) (lb : Array Value) (S : List El → Prop) (N : Nat) (w : World) : Prop :=
 ∀ (l : Nat) (J : List El → World → Prop) (W : World), Below w.heap.size w W → (∀ pre W1, J pre W1 → Below w.heap.size w W1) → (∀ pre W1 a b, J pre W1 → J pre (W1.alloc (.cells #[a, b] 34))) →
  (∀ pre x W1, J pre W1 → pre.length < N → YieldAt F (n - 1) P l #[agg2 x] W1 fun e W' => e = .returned (.bool true) ∧ J (pre ++ [x]) W') →
  J [] W →
  CallsIn F n P g (#[.func (.yield l) #[] #[]] ++ lb) W fun e W' => (∃ v, e = .returned v) ∧ ∃ xs, S xs ∧ J xs W'
def Ra.apAssign : Code := (Code.region 2 #[{ dst := some 5, op := Op.alloc 34, type := 0, pos := "iter.go:51", after := #[], guard := none }, { dst := none, op := Op.store 34 (Operand.tmp 5) (Operand.tmp 7), type := 0, pos := "iter.go:51", after := #[{ on := 0, ground := Ground.data }, { on := 0, ground := Ground.phase }], guard := none }] false)
def Ra.apBody : Code := (Code.block 1 (Code.region 3 #[{ dst := some 8, op := Op.load 28 (Operand.tmp 2), type := 28, pos := "iter.go:52", after := #[], guard := none }, { dst := some 9, op := Op.load 34 (Operand.tmp 5), type := 34, pos := "iter.go:52", after := #[], guard := none }, { dst := some 10, op := Op.buildSlice 28 1 #[(0, Operand.tmp 9)], type := 28, pos := "iter.go:52", after := #[{ on := 1, ground := Ground.data }], guard := none }, { dst := some 11, op := Op.call { callee := Callee.builtin Builtin.append, args := #[Operand.tmp 8, Operand.tmp 10], argTypes := #[28, 28] }, type := 28, pos := "iter.go:52", after := #[{ on := 0, ground := Ground.data }, { on := 2, ground := Ground.data }], guard := none }, { dst := none, op := Op.store 28 (Operand.tmp 2) (Operand.tmp 11), type := 0, pos := "iter.go:52", after := #[{ on := 3, ground := Ground.data }, { on := 3, ground := Ground.chain }, { on := 0, ground := Ground.phase }, { on := 1, ground := Ground.phase }, { on := 2, ground := Ground.phase }, { on := 3, ground := Ground.phase }], guard := none }] false))
def Ra.apRec (fn : FuncId) (sv : Value) (Bs D : Nat) (st : LoopState) (pend : Option Code) : Loop :=
 { state := st, pending := pend, fn, tmps := #[.slice none 0 0, sv, .pointer (some ⟨Bs, 0, none⟩), undef, .slice none 0 0, undef, sv, undef, undef, undef, undef, undef, undef], params := #[7], assign := Ra.apAssign, body := Ra.apBody, defers := D }
structure Ra.ApAt (w0 : World) (fn : FuncId) (sv : Value) (Bs l D : Nat) (ss : List El) (W : World) : Prop where
 box : ∃ v, W.heap[Bs]? = some (.cells #[v] 28 (0, 0)) ∧ W.ownsRow w0.heap.size 34 2 v ss.length (ss.flatMap enc2) ∧ (v = .slice none 0 0 ↔ ss = [])
 L : W.heap[l]? = some (.loop (Ra.apRec fn sv Bs D .ready none))
 K : W.heap[D]? = some (.deferred (some []))
 below : Below w0.heap.size w0 W
theorem Ra.ApAt.alloc {w0 : World} {fn : FuncId} {sv : Value} {Bs l D : Nat} {ss : List El} {W : World} (h : Ra.ApAt w0 fn sv Bs l D ss W) (o : Obj) : Ra.ApAt w0 fn sv Bs l D ss (W.alloc o) := by
 obtain ⟨v, h1, h2, h3⟩ := h.box
 have old : ∀ {k : Nat} {x : Obj}, W.heap[k]? = some x → (W.alloc o).heap[k]? = some x := fun hk => (Below.heap_alloc _ _ _ (Array.getElem?_eq_some_iff.1 hk).1).trans hk
 exact ⟨⟨v, old h1, h2.alloc _, h3⟩, old h.L, old h.K, h.below.alloc h.below.size _⟩
theorem cell_two_new (w : World) (x y : Value) (t : TypeId) : ∀ j u, [x, y][j]? = some u → (w.alloc (.cells #[x, y] t)).cell? ((⟨w.heap.size, 0, none⟩ : Addr).add j) = some u := by
 intro j u hj
 match j, hj with
 | 0, hj => simp at hj; subst hj; simp [Addr.add]
 | 1, hj => simp at hj; subst hj; simp [Addr.add]
theorem Ra.info : (Tryz.prog.info? 34).map (fun i => (i.zero, i.size, i.bytes)) = some (some (.agg #[.slice none 0 0, .slice none 0 0]), 2, 48) := by kernel_rfl
set_option maxRecDepth 100000 in
set_option maxHeartbeats 2000000 in
theorem Ra.apYield (F : Fence) (m : Nat) (w0 : World) (fn : FuncId) (hfn : F.fn fn) (sv : Value) (Bs l D : Nat) (hBl : Bs ≠ l) (hDl : D ≠ l) (hDB : D ≠ Bs) (h0B : w0.heap.size ≤ Bs) (h0l : w0.heap.size ≤ l)
    (N : Nat) (hN : N ≤ maxLen) (hNb : N * 48 ≤ 140737488355328) (ss : List El) (x : El) (W : World) (h : Ra.ApAt w0 fn sv Bs l D ss W) (hlen : ss.length < N) :
    YieldAt F m Tryz.prog l #[agg2 x] W fun e W' => e = .returned (.bool true) ∧ Ra.ApAt w0 fn sv Bs l D (ss ++ [x]) W' ∧ KeepsWalks W W' := by
  obtain ⟨⟨A1, n1, c1⟩, ⟨A2, n2, c2⟩⟩ := x
  simp only [agg2]
  obtain ⟨i0, hi, hz0, hz1, hz2⟩ := info_parts Ra.info
  obtain ⟨v, hv, hrow, _⟩ := h.box
  refine ⟨fn, #[.slice none 0 0, sv, .pointer (some ⟨Bs, 0, none⟩), undef, .slice none 0 0, undef, sv, .agg #[.slice A1 n1 c1, .slice A2 n2 c2], undef, undef, undef, undef, undef], Ra.apAssign, Ra.apBody, by simpa [Ra.apRec] using run_yield (P := Tryz.prog) (args := #[.agg #[.slice A1 n1 c1, .slice A2 n2 c2]]) h.L rfl, roundIn_of_wpIn hfn ?_⟩
  have hl0 : l < W.heap.size := (Array.getElem?_eq_some_iff.1 h.L).1
  have hB0 : Bs < W.heap.size := (Array.getElem?_eq_some_iff.1 hv).1
  have hD0 : D < W.heap.size := (Array.getElem?_eq_some_iff.1 h.K).1
  obtain ⟨Wa, hWa⟩ : ∃ Wa, W.alloc (.cells #[.slice A1 n1 c1, .slice A2 n2 c2] 34) = Wa := ⟨_, rfl⟩
  have hLa : Wa.heap[l]? = some (.loop (Ra.apRec fn sv Bs D .ready none)) := by rw [← hWa]; exact (Below.heap_alloc _ _ l hl0).trans h.L
  have hva : Wa.heap[Bs]? = some (.cells #[v] 28 (0, 0)) := by rw [← hWa]; exact (Below.heap_alloc _ _ Bs hB0).trans hv
  have hKa : Wa.heap[D]? = some (.deferred (some [])) := by rw [← hWa]; exact (Below.heap_alloc _ _ D hD0).trans h.K
  have hxa : Wa.heap[W.heap.size]? = some (.cells #[.slice A1 n1 c1, .slice A2 n2 c2] 34 (0, 0)) := by rw [← hWa]; exact World.alloc_heap_new W _
  have hrowa : Wa.ownsRow w0.heap.size 34 2 v ss.length (ss.flatMap enc2) := by rw [← hWa]; exact hrow.alloc _
  have hba : Below w0.heap.size w0 Wa := by rw [← hWa]; exact h.below.alloc h.below.size _
  have hka : KeepsWalks W Wa := by rw [← hWa]; exact KeepsWalks.alloc _ _
  have hl : l < Wa.heap.size := (Array.getElem?_eq_some_iff.1 hLa).1
  have hbr := run_beginRound (P := Tryz.prog) hLa rfl
  obtain ⟨W2, hW2⟩ : ∃ W2, Wa.putObj l (.loop { Ra.apRec fn sv Bs D .ready none with state := .busy }) = W2 := ⟨_, rfl⟩
  rw [hW2] at hbr
  have hg2 : Wa.grownBy W2 (some l) := by rw [← hW2]; exact Rq.grownBy_putObj _ _ _
  have hk2 : KeepsWalks W W2 := by rw [← hW2]; exact hka.trans (KeepsWalks.putObj _ hLa rfl)
  have hv2 : W2.heap[Bs]? = some (.cells #[v] 28 (0, 0)) := by rw [← hW2]; exact (World.putObj_heap_other hBl).trans hva
  have hK2 : W2.heap[D]? = some (.deferred (some [])) := by rw [← hW2]; exact (World.putObj_heap_other hDl).trans hKa
  have hL2 : W2.heap[l]? = some (.loop { Ra.apRec fn sv Bs D .ready none with state := .busy }) := by rw [← hW2]; exact World.putObj_heap_same hl
  have hx2 : W2.heap[W.heap.size]? = some (.cells #[.slice A1 n1 c1, .slice A2 n2 c2] 34 (0, 0)) := by rw [← hW2]; exact (World.putObj_heap_other (by omega)).trans hxa
  have hrow2 : W2.ownsRow w0.heap.size 34 2 v ss.length (ss.flatMap enc2) := hrowa.kept hg2 (Rq.ownsRow_ne hrowa hLa (fun cur e => by cases e))
  have hb2 : Below w0.heap.size w0 W2 := hba.grown hg2 hba.size (fun k e => by cases e; exact h0l)
  obtain ⟨hc2, hf2⟩ := Rq.cell_of_box hv2
  have hx20 : W2.cell? ⟨W.heap.size, 0, none⟩ = some (.slice A1 n1 c1) := by simp [World.cell?, hx2]
  have hx21 : W2.cell? ⟨W.heap.size, 1, none⟩ = some (.slice A2 n2 c2) := by simp [World.cell?, hx2]
  have hBlt : Bs < W2.heap.size := (Array.getElem?_eq_some_iff.1 hv2).1
  have hl2 : l < W2.heap.size := (Array.getElem?_eq_some_iff.1 hL2).1
  have hDlt : D < W2.heap.size := (Array.getElem?_eq_some_iff.1 hK2).1
  have ne_of : ∀ {j : Nat} {o : Obj}, W2.heap[j]? = some o → (∀ cur, o ≠ .cells cur 34 (0, 0)) → some j ≠ v.ownBlock := fun hj hno => by
    rcases Rq.ownsRow_ne hrow2 hj hno with e | e
    · rw [e]; simp
    · exact fun e' => e e'.symm
  clear hW2
  unfold Ra.apAssign
  gi_wp2_with (rw [Oper.semAt_eq _ _ _ (fun c h => by cases h)]; go_simp; try go_bits)
  unfold Ra.apBody
  gi_wp2_with (first
    | (gi_at_builtin; refine wpListIn_append_own _ rfl _ _ 28 rfl w0.heap.size 34 i0 (.agg #[.slice none 0 0, .slice none 0 0]) 2 48 Tryz.underlying28 hi hz0 hz1 hz2 rfl (by decide) _ _ _ rfl (hrow2.alloc _) ⟨W2.heap.size, 0, none⟩ 1 1 [.slice A1 n1 c1, .slice A2 n2 c2] rfl rfl (cell_two_new _ _ _ _) (by simp [Value.oneCell']) (by omega) (by omega) (by have := hb2.size; simp; omega) ?_; intro v' w3 hown' hg3 hnil3
       have hv3 : w3.heap[Bs]? = some (.cells #[v] 28 (0, 0)) := (hg3.block Bs (by simp; omega) (ne_of hv2 (fun cur e => by cases e))).trans ((Below.heap_alloc _ _ Bs hBlt).trans hv2)
       obtain ⟨hc3, hf3⟩ := Rq.cell_of_box hv3
       obtain ⟨g', cap', cur', rfl, hbase', hgb', hr1, hr2, hr3, hr4⟩ : ∃ g' cap' cur', v' = .slice (some ⟨g', 0, none⟩) (ss.length + 1) cap' ∧ w0.heap.size ≤ g' ∧ w3.heap[g']? = some (.cells cur' 34 (0, 0)) ∧ ss.length + 1 ≤ cap' ∧ cap' ≤ maxLen ∧ cur'.size = cap' * 2 ∧ cur'.toList.take ((ss.length + 1) * 2) = ss.flatMap enc2 ++ [.slice A1 n1 c1, .slice A2 n2 c2] := by
         rcases hown'.2 with ⟨_, h0⟩ | h'
         · exact absurd h0 (by omega)
         · exact h'
       go_frame)
    | (rw [Oper.semAt_eq _ _ _ (fun c h => by cases h)]; go_simp; try go_bits))
  have hg3' : (W2.alloc (.cells #[.slice A1 n1 c1, .slice A2 n2 c2] 34)).grownBy w3 v.ownBlock := hg3
  have hL3 : w3.heap[l]? = some (.loop { Ra.apRec fn sv Bs D .ready none with state := .busy }) := (hg3'.block l (by simp; omega) (ne_of hL2 (fun cur e => by cases e))).trans ((Below.heap_alloc _ _ l hl2).trans hL2)
  have hK3 : w3.heap[D]? = some (.deferred (some [])) := (hg3'.block D (by simp; omega) (ne_of hK2 (fun cur e => by cases e))).trans ((Below.heap_alloc _ _ D hDlt).trans hK2)
  obtain ⟨w4, hw4⟩ : ∃ w4, w3.setCell ⟨Bs, 0, none⟩ (.slice (some ⟨g', 0, none⟩) (ss.length + 1) cap') = w4 := ⟨_, rfl⟩
  rw [hw4]
  have hg4 : w3.grownBy w4 (some Bs) := by rw [← hw4]; exact Rq.grownBy_setCell0 _ _ _
  have hv4 : w4.heap[Bs]? = some (.cells #[.slice (some ⟨g', 0, none⟩) (ss.length + 1) cap'] 28 (0, 0)) := by rw [← hw4]; exact Rq.heap_setCell_box _ hv3
  have hL4 : w4.heap[l]? = some (.loop { Ra.apRec fn sv Bs D .ready none with state := .busy }) := (hg4.block l (Array.getElem?_eq_some_iff.1 hL3).1 (fun e => hBl (by cases e; rfl))).trans hL3
  have hK4 : w4.heap[D]? = some (.deferred (some [])) := (hg4.block D (Array.getElem?_eq_some_iff.1 hK3).1 (fun e => hDB (by cases e; rfl))).trans hK3
  have hrow4 := hown'.kept hg4 (Rq.ownsRow_ne hown' hv3 (fun cur e => by cases e))
  have hl4 : l < w4.heap.size := (Array.getElem?_eq_some_iff.1 hL4).1
  have hb3 : Below w0.heap.size w0 w3 := (hb2.alloc hb2.size _).grown hg3' (by have := hb2.size; simp; omega) (fun k e => (hrow2.lt k e).1)
  have hb4 : Below w0.heap.size w0 w4 := hb3.grown hg4 hb3.size (fun k e => by cases e; exact h0B)
  have hk4 : KeepsWalks W w4 := ((hk2.trans (KeepsWalks.alloc _ _)).trans (KeepsWalks.of_grownBy hg3' (Rq.ownsRow_not_walk (hrow2.alloc _)))).trans (by rw [← hw4]; exact KeepsWalks.setCell _ _ _)
  clear hw4
  refine ⟨_, _, run_endRound none hL4, rfl, ⟨⟨_, (World.putObj_heap_other hBl).trans hv4, ?_, by simp⟩, World.putObj_heap_same hl4, (World.putObj_heap_other hDl).trans hK4, hb4.grown (Rq.grownBy_putObj _ _ _) hb4.size (fun k e => by cases e; exact h0l)⟩, hk4.trans (KeepsWalks.putObj _ hL4 rfl)⟩
  have := hrow4.kept (Rq.grownBy_putObj w4 l (.loop { { Ra.apRec fn sv Bs D .ready none with state := .busy } with state := if (none : Option Code).isNone then .ready else .done, pending := none })) (Rq.ownsRow_ne hrow4 hL4 (fun cur e => by cases e))
  simpa [enc2] using this
set_option maxRecDepth 100000 in
set_option maxHeartbeats 2000000 in
theorem Ra.appendSeq_in (F : Fence) (n : Nat) (h11 : F.fn 135) (hro : F.round = none) (hn : 2 ≤ n) (g : Nat) (lb : Array Value) (hFg : F.fn g) (eg : ∀ args w, (callFunc g args).run Tryz.prog w = .ok (.enter g args) w)
    (S : List El → Prop) (N : Nat) (hN : N ≤ maxLen) (hNb : N * 48 ≤ 140737488355328) (w : World) (hseq : GivesA F (n - 1) Tryz.prog g lb S N w) :
    CallsIn F n Tryz.prog 135 #[.slice none 0 0, .func (.func g) #[] lb] w fun e w' => ∃ (v : Value) (ss : List El), e = .returned v ∧ S ss ∧ w'.ownsRow w.heap.size 34 2 v ss.length (ss.flatMap enc2) ∧ (v = .slice none 0 0 ↔ ss = []) ∧ Below w.heap.size w w' := by
  have h1 : 1 ≤ n := by omega
  refine callsIn_of_wp_marks Tryz.func135 rfl h11 ?_ hro
  simp only [Tryz.ntmps135, List.size_toArray, List.length_cons, List.length_nil, Nat.reduceAdd, Nat.reduceSub, Array.replicate_succ, Array.replicate_zero, List.push_toArray, List.append_toArray, List.nil_append, List.cons_append]
  gi_wp2
  refine wpIn_rangeFunc ?_
  intro fn hfn
  rw [hro]
  obtain ⟨W0, hW0⟩ : ∃ W0, w.alloc (.cells #[.slice none 0 0] 28) = W0 := ⟨_, rfl⟩
  have hs0 : W0.heap.size = w.heap.size + 1 := by rw [← hW0]; simp
  have hv0 : W0.heap[w.heap.size]? = some (.cells #[.slice none 0 0] 28 (0, 0)) := by rw [← hW0]; exact World.alloc_heap_new w _
  have hb0 : Below w.heap.size w W0 := by rw [← hW0]; exact (Below.refl _ w).alloc (Nat.le_refl _) _
  rw [hW0]
  obtain ⟨W1, hW1⟩ : ∃ W1, (W0.alloc (.deferred (some []))).alloc (.loop (Ra.apRec fn (.func (.func g) #[] lb) w.heap.size W0.heap.size .ready none)) = W1 := ⟨_, rfl⟩
  have hold : ∀ k, k < W0.heap.size → W1.heap[k]? = W0.heap[k]? := fun k hk => by
    rw [← hW1]; exact (Below.heap_alloc _ _ k (by simp; omega)).trans (Below.heap_alloc _ _ k hk)
  have hb1 : Below w.heap.size w W1 := by rw [← hW1]; exact (hb0.alloc hb0.size _).alloc (by have := hb0.size; simp; omega) _
  have hs1 : W1.heap.size = W0.heap.size + 2 := by rw [← hW1]; simp
  have hM : Ra.ApAt w fn (.func (.func g) #[] lb) w.heap.size (W0.heap.size + 1) W0.heap.size [] W1 :=
    ⟨⟨_, (hold w.heap.size (by omega)).trans hv0, ⟨rfl, .inl ⟨rfl, rfl⟩⟩, by simp⟩,
     by rw [← hW1]; have := World.alloc_heap_new (W0.alloc (.deferred (some []))) (.loop (Ra.apRec fn (.func (.func g) #[] lb) w.heap.size W0.heap.size .ready none)); rwa [World.size_alloc] at this,
     by rw [← hW1]; exact (Below.heap_alloc _ _ _ (by simp)).trans (World.alloc_heap_new W0 _), hb1⟩
  refine ⟨W0.heap.size + 1, [{ target := .collected W0.heap.size, args := #[] }], W1, { target := .fn (.func g) lb, args := #[.func (.yield (W0.heap.size + 1)) #[] #[]] }, W1, g,
    #[.func (.yield (W0.heap.size + 1)) #[] #[]] ++ lb, W1, ?_, ?_, ?_, ?_, fun _ => h1, ?_⟩
  · rw [← hW1]; exact run_enterLoop_outer _ _ _ _ _
  · simp [resolve, go_sem]
  · intro f' hf'; simp [Target.leads] at hf'; subst hf'; exact hFg
  · simp [invoke, go_sem, eg]
  · refine (hseq (W0.heap.size + 1) (Ra.ApAt w fn (.func (.func g) #[] lb) w.heap.size (W0.heap.size + 1) W0.heap.size) W1 hb1 (fun _ _ h => h.below) (fun _ _ _ _ h => h.alloc _)
      (fun pre x W hJ hl => (Ra.apYield F (n - 1 - 1) w fn hfn _ w.heap.size (W0.heap.size + 1) W0.heap.size (by omega) (by omega) (by omega) (Nat.le_refl _) (by omega) N hN hNb pre x W hJ hl).mono fun _ _ h => ⟨h.1, h.2.1⟩) hM).mono ?_
    rintro e W2 ⟨⟨v0, rfl⟩, ss, hS, h2⟩
    obtain ⟨v, hv, hrow, hnil⟩ := h2.box
    have hend := run_endLoop (P := Tryz.prog) h2.L (by simp [Ra.apRec])
    obtain ⟨W3, hW3⟩ : ∃ W3, W2.putObj (W0.heap.size + 1) (.loop { Ra.apRec fn (.func (.func g) #[] lb) w.heap.size W0.heap.size .ready none with state := .exhausted }) = W3 := ⟨_, rfl⟩
    rw [hW3] at hend
    have hg3 : W2.grownBy W3 (some (W0.heap.size + 1)) := by rw [← hW3]; exact Rq.grownBy_putObj _ _ _
    have hv3 : W3.heap[w.heap.size]? = some (.cells #[v] 28 (0, 0)) := by rw [← hW3]; exact (World.putObj_heap_other (by omega)).trans hv
    have hK3 : W3.heap[W0.heap.size]? = some (.deferred (some [])) := by rw [← hW3]; exact (World.putObj_heap_other (by omega)).trans h2.K
    have hrow3 := hrow.kept hg3 (Rq.ownsRow_ne hrow h2.L (fun cur e => by cases e))
    have hb3 : Below w.heap.size w W3 := h2.below.grown hg3 h2.below.size (fun k e => by cases e; omega)
    obtain ⟨hc3, hf3⟩ := Rq.cell_of_box hv3
    clear hW3
    refine ⟨none, W3, hend, ?_⟩
    gi_wp2
    rw [← hs0]
    refine ⟨by simp, .inl ⟨_, _, rfl, run_takeDeferred hK3, ?_⟩⟩
    exact ⟨_, results_tmp rfl _ _ _, v, ss, rfl, hS, hrow3.kept (Rq.grownBy_putObj _ _ _) (Rq.ownsRow_ne hrow3 hK3 (fun cur e => by cases e)), hnil, hb3.grown (Rq.grownBy_putObj _ _ _) hb3.size (fun k e => by cases e; omega)⟩
set_option maxHeartbeats 1000000 in
theorem Ra.collect_in (F : Fence) (n : Nat) (h8 : F.fn 96) (h11 : F.fn 135) (hro : F.round = none) (hn : 3 ≤ n) (g : Nat) (lb : Array Value) (hFg : F.fn g) (eg : ∀ args w, (callFunc g args).run Tryz.prog w = .ok (.enter g args) w)
  (S : List El → Prop) (N : Nat) (hN : N ≤ maxLen) (hNb : N * 48 ≤ 140737488355328) (w : World) (hseq : GivesA F (n - 1 - 1) Tryz.prog g lb S N w) :
  CallsIn F n Tryz.prog 96 #[.func (.func g) #[] lb] w fun e w' => ∃ (v : Value) (ss : List El), e = .returned v ∧ S ss ∧ w'.ownsRow w.heap.size 34 2 v ss.length (ss.flatMap enc2) ∧ (v = .slice none 0 0 ↔ ss = []) ∧ Below w.heap.size w w' := by
 have h1 : 1 ≤ n := by omega
 refine callsIn_of_wp Tryz.func96 rfl h8 ?_ hro
 simp only [Tryz.ntmps96, List.size_toArray, List.length_cons, List.length_nil, Nat.reduceAdd, Nat.reduceSub, Array.replicate_succ, Array.replicate_zero, List.push_toArray, List.append_toArray, List.nil_append, List.cons_append]
 gi_wp2_with (gi_at_call 135; refine (Ra.appendSeq_in F (n - 1) h11 hro (by omega) g lb hFg eg S N hN hNb _ hseq).mono ?_; rintro e w' ⟨v, ss, rfl, hS, hrow, hnil, hb⟩)
 go_ret
 exact ⟨v, ss, rfl, hS, hrow, hnil, hb⟩
end
section
open Go.RowKit Go.Maps Go.Sort Go.Shelf
attribute [local go_sem] Oper.semAt_some
set_option maxHeartbeats 1000000 in
theorem mNaN (a : Int) (w : World) : CallsIn Fence.wide 3 Tryz.prog 160 #[.int .i64 a] w fun e w' => e = .returned (.bool false) ∧ w' = w := by
 refine callsIn_of_wp Tryz.func160 rfl trivial ?_ rfl
 simp only [Tryz.ntmps160, List.size_toArray, List.length_cons, List.length_nil, Nat.reduceAdd, Nat.reduceSub, Array.replicate_succ, Array.replicate_zero, List.push_toArray, List.append_toArray, List.nil_append, List.cons_append]
 gi_wp2
 go_ret
 exact ⟨by simp, rfl⟩
set_option maxHeartbeats 1000000 in
theorem mCmp (a b : Int) (w : World) : CallsIn Fence.wide 4 Tryz.prog 138 #[.int .i64 a, .int .i64 b] w fun e w' => e = .returned (.int .i64 (cmpI a b)) ∧ w' = w := by
 have hf : Fence.wide.fn 160 := trivial
 refine callsIn_of_wp Tryz.func138 rfl trivial ?_ rfl
 simp only [Tryz.ntmps138, List.size_toArray, List.length_cons, List.length_nil, Nat.reduceAdd, Nat.reduceSub, Array.replicate_succ, Array.replicate_zero, List.push_toArray, List.append_toArray, List.nil_append, List.cons_append]
 by_cases h1 : a < b
 ·gi_wp2_with (first | (gi_at_call 160; refine (mNaN _ _).mono ?_; rintro e w' ⟨rfl, rfl⟩) | (rw [Oper.semAt_eq _ _ _ (fun c h => by cases h)]; go_simp; try go_bits))
  go_ret
  exact ⟨by rw [cmpI, if_pos (by omega)]; rfl, rfl⟩
 ·by_cases h2 : b < a
  ·gi_wp2_with (first | (gi_at_call 160; refine (mNaN _ _).mono ?_; rintro e w' ⟨rfl, rfl⟩) | (rw [Oper.semAt_eq _ _ _ (fun c h => by cases h)]; go_simp; try go_bits))
   go_ret
   exact ⟨by first | (rw [cmpI, if_neg (by omega), if_neg (by omega)]; rfl) | (rw [cmpI, if_neg (by omega), if_pos (by omega)]; rfl), rfl⟩
  ·gi_wp2_with (first | (gi_at_call 160; refine (mNaN _ _).mono ?_; rintro e w' ⟨rfl, rfl⟩) | (rw [Oper.semAt_eq _ _ _ (fun c h => by cases h)]; go_simp; try go_bits))
   go_ret
   exact ⟨by first | (rw [cmpI, if_neg (by omega), if_neg (by omega)]; rfl) | (rw [cmpI, if_neg (by omega), if_pos (by omega)]; rfl), rfl⟩
def IntsAt (w : World) (x : Option Addr × Nat × Nat) (l : List Int) : Prop := x.2.1 = l.length ∧ (l ≠ [] → ∃ g off, x.1 = some ⟨g, off, none⟩ ∧ g < w.heap.size ∧ ∀ j, j < l.length → w.cell? ⟨g, off + j, none⟩ = some (.int .i64 (l.getD j 0)))
set_option maxRecDepth 100000 in
set_option maxHeartbeats 2000000 in
theorem mCompare (x y : Option Addr × Nat × Nat) (l m : List Int) (w : World) (hx : IntsAt w x l) (hy : IntsAt w y m) (hl : l.length < 2 ^ 40) (hm : m.length < 2 ^ 40) :
  CallsIn Fence.wide 5 Tryz.prog 100 #[.slice x.1 x.2.1 x.2.2, .slice y.1 y.2.1 y.2.2] w fun e w' => e = .returned (.int .i64 (cmpL l m)) ∧ w' = w := by
 obtain ⟨A1, n1, c1⟩ := x
 obtain ⟨A2, n2, c2⟩ := y
 obtain ⟨rfl, hx⟩ := hx
 obtain ⟨rfl, hy⟩ := hy
 simp only at hx hy
 have hf : Fence.wide.fn 138 := trivial
 refine callsIn_of_wp Tryz.func100 rfl trivial ?_ rfl
 simp only [Tryz.ntmps100, List.size_toArray, List.length_cons, List.length_nil, Nat.reduceAdd, Nat.reduceSub, Array.replicate_succ, Array.replicate_zero, List.push_toArray, List.append_toArray, List.nil_append, List.cons_append]
 gi_wp2
 gi_loopw [11] (fun i wr => ∃ k : Nat, k ≤ l.length ∧ k ≤ m.length ∧ i = .int .i64 k ∧ wr = w ∧ cmpL (l.drop k) (m.drop k) = cmpL l m) (fun i _ => l.length - (intOf i).toNat)
 case atStart => exact ⟨0, Nat.zero_le _, Nat.zero_le _, rfl, rfl, rfl⟩
 case round =>
  obtain ⟨k, hk, hk2, rfl, rfl, he⟩ := hrel
  have HE : Aside (cmpL (l.drop k) (m.drop k) = cmpL l m) := he
  clear he
  by_cases hlt : k < l.length
  ·obtain ⟨g1, o1, rfl, _, hc1⟩ := hx (fun h => by rw [h] at hlt; simp at hlt)
   have c1k := hc1 k hlt
   obtain ⟨a, ha⟩ : ∃ a, l[k]? = some a := ⟨_, List.getElem?_eq_getElem hlt⟩
   rw [List.getD, ha, Option.getD_some] at c1k
   clear hc1 hx
   by_cases hlt2 : k < m.length
   ·obtain ⟨g2, o2, rfl, _, hc2⟩ := hy (fun h => by rw [h] at hlt2; simp at hlt2)
    have c2k := hc2 k hlt2
    obtain ⟨b, hb⟩ : ∃ b, m[k]? = some b := ⟨_, List.getElem?_eq_getElem hlt2⟩
    rw [List.getD, hb, Option.getD_some] at c2k
    clear hc2 hy
    have hstep := cmpL_step ha hb
    rw [HE.out] at hstep
    have hcc := mCmp a b
    generalize cmpI a b = c at hstep hcc
    have HS : Aside (cmpL l m = if c = 0 then cmpL (l.drop (k + 1)) (m.drop (k + 1)) else c) := hstep
    clear hstep HE
    by_cases h0 : c = 0
    ·subst h0
     gi_wp2_with (first | (gi_at_call 138; refine (hcc _).mono ?_; rintro e w' ⟨rfl, rfl⟩) | (rw [Oper.semAt_eq _ _ _ (fun c h => by cases h)]; go_simp; try go_bits))
     go_roundw
     case rel => exact ⟨k + 1, by omega, by omega, by simp, trivial, by have := HS.out; simp at this; exact this.symm⟩
     case measure => simp [intOf]; omega
    ·gi_wp2_with (first | (gi_at_call 138; refine (hcc _).mono ?_; rintro e w' ⟨rfl, rfl⟩) | (rw [Oper.semAt_eq _ _ _ (fun c h => by cases h)]; go_simp; try go_bits))
     go_ret
     exact ⟨by have := HS.out; rw [if_neg h0] at this; rw [this]; rfl, rfl⟩
   ·clear hy
    gi_wp2
    go_ret
    refine ⟨?_, rfl⟩
    have e : m.drop k = [] := List.drop_of_length_le (by omega)
    rw [← HE.out, drop_get ha, e]; rfl
  ·have hkl : k = l.length := by omega
   clear hx hy
   by_cases hlt2 : l.length < m.length
   ·gi_wp2
    go_ret
    refine ⟨?_, rfl⟩
    obtain ⟨b, hb⟩ : ∃ b, m[k]? = some b := ⟨_, List.getElem?_eq_getElem (by omega)⟩
    have e : l.drop k = [] := List.drop_of_length_le (by omega)
    rw [← HE.out, drop_get hb, e]; rfl
   ·gi_wp2
    go_ret
    refine ⟨?_, rfl⟩
    have e : l.drop k = [] := List.drop_of_length_le (by omega)
    have e2 : m.drop k = [] := List.drop_of_length_le (by omega)
    rw [← HE.out, e, e2]; rfl
end
section
open Go.RowKit Go.Maps Go.Sort Go.Shelf
attribute [local go_sem] Oper.semAt_some
set_option maxRecDepth 100000 in
set_option maxHeartbeats 2000000 in
theorem mOr (g off cap : Nat) (a b : Int) (w : World) (ha : w.cell? ⟨g, off, none⟩ = some (.int .i64 a)) (hb : w.cell? ⟨g, off + 1, none⟩ = some (.int .i64 b)) :
  CallsIn Fence.wide 5 Tryz.prog 99 #[.slice (some ⟨g, off, none⟩) 2 cap] w fun e w' => e = .returned (.int .i64 (orI a b)) ∧ w' = w := by
 refine callsIn_of_wp Tryz.func99 rfl trivial ?_ rfl
 simp only [Tryz.ntmps99, List.size_toArray, List.length_cons, List.length_nil, Nat.reduceAdd, Nat.reduceSub, Array.replicate_succ, Array.replicate_zero, List.push_toArray, List.append_toArray, List.nil_append, List.cons_append]
 gi_wp2
 gi_loopw [8] (fun i wr => wr = w ∧ (i = .int .i64 0 ∨ (i = .int .i64 1 ∧ a = 0) ∨ (i = .int .i64 2 ∧ a = 0 ∧ b = 0))) (fun i _ => 2 - (intOf i).toNat)
 case atStart => exact ⟨rfl, .inl rfl⟩
 case round =>
  obtain ⟨rfl, rfl | ⟨rfl, rfl⟩ | ⟨rfl, rfl, rfl⟩⟩ := hrel
  ·by_cases h0 : a = 0
   ·subst h0
    gi_wp2
    go_roundw
    case rel => exact ⟨trivial, .inr (.inl ⟨by first | rfl | simp, trivial⟩)⟩
    case measure => simp [intOf]
   ·gi_wp2
    go_ret
    exact ⟨by simp [orI, h0], rfl⟩
  ·by_cases h0 : b = 0
   ·subst h0
    gi_wp2
    go_roundw
    case rel => exact ⟨trivial, .inr (.inr ⟨by first | rfl | simp, trivial, trivial⟩)⟩
    case measure => simp [intOf]
   ·gi_wp2
    go_ret
    exact ⟨by simp [orI], rfl⟩
  ·gi_wp2
   go_ret
   exact ⟨by simp [orI], rfl⟩
theorem IntsAt.kept {w w' : World} {x : Option Addr × Nat × Nat} {l : List Int} (h : IntsAt w x l) (hs : w.heap.size ≤ w'.heap.size) (hc : ∀ a : Addr, a.block < w.heap.size → w'.cell? a = w.cell? a) : IntsAt w' x l := by
 refine ⟨h.1, fun hne => ?_⟩
 obtain ⟨g, off, e, hg, h2⟩ := h.2 hne
 exact ⟨g, off, e, by omega, fun j hj => (hc _ hg).trans (h2 j hj)⟩
theorem cell_heap {w : World} {g j : Nat} {cs : Array Value} {t : TypeId} {fr : Nat × Nat} {v : Value} (h : w.heap[g]? = some (.cells cs t fr)) (hj : cs[j]? = some v) : w.cell? ⟨g, j, none⟩ = some v := by
 unfold World.cell?; simp only [h]; simpa using hj
theorem mixed_prog : Tryz.prog.follows .mixedOrders = true := by kernel_rfl
set_option maxRecDepth 100000 in
set_option maxHeartbeats 4000000 in
theorem mSeen (x y : El) (s t : Sn) (w : World) (hxa : IntsAt w x.a s.rd) (hxb : IntsAt w x.b s.ls) (hya : IntsAt w y.a t.rd) (hyb : IntsAt w y.b t.ls)
  (h1 : s.rd.length < 2 ^ 40) (h2 : s.ls.length < 2 ^ 40) (h3 : t.rd.length < 2 ^ 40) (h4 : t.ls.length < 2 ^ 40) :
  Calls Tryz.prog 49 #[agg2 x, agg2 y] w fun e w' => e = .returned (.int .i64 (cmpS s t)) ∧ ∃ q os, w' = grow (w.drewN q) os := by
 obtain ⟨⟨A1, n1, c1⟩, ⟨A2, n2, c2⟩⟩ := x
 obtain ⟨⟨B1, m1, d1⟩, ⟨B2, m2, d2⟩⟩ := y
 simp only [agg2]
 obtain ⟨o1, ho1⟩ : ∃ o, Obj.cells #[.slice A1 n1 c1, .slice A2 n2 c2] 34 (0, 0) = o := ⟨_, rfl⟩
 obtain ⟨o2, ho2⟩ : ∃ o, Obj.cells #[.slice B1 m1 d1, .slice B2 m2 d2] 34 (0, 0) = o := ⟨_, rfl⟩
 obtain ⟨W2, hW2⟩ : ∃ W, (w.alloc o1).alloc o2 = W := ⟨_, rfl⟩
 have hsz : W2.heap.size = w.heap.size + 2 := by rw [← hW2]; simp
 have hg2 : W2 = grow w #[o1, o2] := by rw [← hW2, alloc_eq_grow, alloc_eq_grow, grow_grow]; rfl
 have h0 : W2.heap[w.heap.size]? = some o1 := by rw [← hW2]; exact (Below.heap_alloc _ _ _ (by simp)).trans (World.alloc_heap_new w _)
 have h1' : W2.heap[w.heap.size + 1]? = some o2 := by rw [← hW2]; have := World.alloc_heap_new (w.alloc o1) o2; rwa [World.size_alloc] at this
 have hk : ∀ a : Addr, a.block < w.heap.size → W2.drew.cell? a = w.cell? a := fun a ha => by
  rw [hg2]; exact cell?_grow w _ a ha
 have hs : w.heap.size ≤ W2.drew.heap.size := by show _ ≤ W2.heap.size; omega
 have cA := callsIn_wide.1 (mCompare (A1, n1, c1) (B1, m1, d1) s.rd t.rd W2.drew (hxa.kept hs hk) (hya.kept hs hk) h1 h3)
 have cB := callsIn_wide.1 (mCompare (A2, n2, c2) (B2, m2, d2) s.ls t.ls W2.drew (hxb.kept hs hk) (hyb.kept hs hk) h2 h4)
 simp only at cA cB
 clear hxa hxb hya hyb hk hs h1 h2 h3 h4
 have x0 : W2.drew.cell? ⟨w.heap.size, 0, none⟩ = some (.slice A1 n1 c1) := by show W2.cell? _ = _; simp [World.cell?, h0, ← ho1]
 have x1 : W2.drew.cell? ⟨w.heap.size, 1, none⟩ = some (.slice A2 n2 c2) := by show W2.cell? _ = _; simp [World.cell?, h0, ← ho1]
 have y0 : W2.drew.cell? ⟨w.heap.size + 1, 0, none⟩ = some (.slice B1 m1 d1) := by show W2.cell? _ = _; simp [World.cell?, h1', ← ho2]
 have y1 : W2.drew.cell? ⟨w.heap.size + 1, 1, none⟩ = some (.slice B2 m2 d2) := by show W2.cell? _ = _; simp [World.cell?, h1', ← ho2]
 rw [show cmpS s t = orI (cmpL s.rd t.rd) (cmpL s.ls t.ls) from rfl]
 generalize cmpL s.rd t.rd = a at *
 generalize cmpL s.ls t.ls = b at *
 go_enter Tryz.func49, Tryz.ntmps49
 go_wp2_with fail
 rw [← hg2]
 refine wp_region_still_tail 10 mixed_prog (by kernel_rfl) ?_
 change wpStill _ _ W2.drew _ _ _
 simp only [List.take_succ_cons, List.take_zero, List.drop_succ_cons, List.drop_zero]
 have hg3 : Hid (W2.drew = grow (w.drewN 1) #[o1, o2]) := by show _ = _; rw [hg2]; rfl
 change wpStill _ _ _ (fun a' => wpList _ _ _ _ a' W2.drew) _ _
 clear hg2 hsz h0 h1' hW2 ho1 ho2
 generalize W2.drew = W3 at *
 repeat still_step
 still_call cA
 repeat still_step
 still_call cB
 refine wpStill_nil ?_
 have hO := fun (x : Obj) (hx : x = .cells #[.int .i64 a, .int .i64 b] 3 (0, 0)) => callsIn_wide.1 (mOr W3.heap.size 0 2 a b (W3.alloc x) (by subst hx; unfold World.cell?; rw [World.alloc_heap_new]; rfl) (by subst hx; unfold World.cell?; rw [World.alloc_heap_new]; rfl))
 have hO := hO _ rfl
 go_wp2_with (go_at_call 99; refine hO.mono ?_; rintro e w' ⟨rfl, rfl⟩)
 go_ret
 refine ⟨rfl, 1, #[o1, o2] ++ #[.cells #[.int .i64 a, .int .i64 b] 3 (0, 0)], ?_⟩
 rw [← grow_grow, ← hg3.out, ← alloc_eq_grow]
set_option maxRecDepth 100000 in
set_option maxHeartbeats 4000000 in
theorem mSame (x y : El) (s t : Sn) (w : World) (hxa : IntsAt w x.a s.rd) (hxb : IntsAt w x.b s.ls) (hya : IntsAt w y.a t.rd) (hyb : IntsAt w y.b t.ls)
  (h1 : s.rd.length < 2 ^ 40) (h2 : s.ls.length < 2 ^ 40) (h3 : t.rd.length < 2 ^ 40) (h4 : t.ls.length < 2 ^ 40) :
  Calls Tryz.prog 50 #[agg2 x, agg2 y] w fun e w' => e = .returned (.bool (decide (cmpS s t = 0))) ∧ ∃ q os, w' = grow (w.drewN q) os := by
 obtain ⟨o1, ho1⟩ : ∃ o, Obj.cells #[.slice x.a.1 x.a.2.1 x.a.2.2, .slice x.b.1 x.b.2.1 x.b.2.2] 34 (0, 0) = o := ⟨_, rfl⟩
 obtain ⟨o2, ho2⟩ : ∃ o, Obj.cells #[.slice y.a.1 y.a.2.1 y.a.2.2, .slice y.b.1 y.b.2.1 y.b.2.2] 34 (0, 0) = o := ⟨_, rfl⟩
 have hk : ∀ a : Addr, a.block < w.heap.size → (grow w #[o1, o2]).cell? a = w.cell? a := fun a ha => cell?_grow w _ a ha
 have hs : w.heap.size ≤ (grow w #[o1, o2]).heap.size := by simp
 have hC := mSeen x y s t (grow w #[o1, o2]) (hxa.kept hs hk) (hxb.kept hs hk) (hya.kept hs hk) (hyb.kept hs hk) h1 h2 h3 h4
 clear hxa hxb hya hyb hk hs h1 h2 h3 h4
 simp only [agg2] at hC ⊢
 have hg2 : (w.alloc o1).alloc o2 = grow w #[o1, o2] := by rw [alloc_eq_grow, alloc_eq_grow, grow_grow]; rfl
 have h0 : (grow w #[o1, o2]).heap[w.heap.size]? = some o1 := by rw [← hg2]; exact (Below.heap_alloc _ _ _ (by simp)).trans (World.alloc_heap_new w _)
 have h1' : (grow w #[o1, o2]).heap[w.heap.size + 1]? = some o2 := by rw [← hg2]; have := World.alloc_heap_new (w.alloc o1) o2; rwa [World.size_alloc] at this
 have x0 : (grow w #[o1, o2]).cell? ⟨w.heap.size, 0, none⟩ = some (.slice x.a.1 x.a.2.1 x.a.2.2) := cell_heap (h0.trans (congrArg some ho1.symm)) rfl
 have x1 : (grow w #[o1, o2]).cell? ⟨w.heap.size, 1, none⟩ = some (.slice x.b.1 x.b.2.1 x.b.2.2) := cell_heap (h0.trans (congrArg some ho1.symm)) rfl
 have y0 : (grow w #[o1, o2]).cell? ⟨w.heap.size + 1, 0, none⟩ = some (.slice y.a.1 y.a.2.1 y.a.2.2) := cell_heap (h1'.trans (congrArg some ho2.symm)) rfl
 have y1 : (grow w #[o1, o2]).cell? ⟨w.heap.size + 1, 1, none⟩ = some (.slice y.b.1 y.b.2.1 y.b.2.2) := cell_heap (h1'.trans (congrArg some ho2.symm)) rfl
 clear h0 h1'
 generalize cmpS s t = c at *
 go_enter Tryz.func50, Tryz.ntmps50
 go_wp2_with fail
 clear hg2 ho1 ho2
 have HG : Hid (grow w #[o1, o2] = grow w #[o1, o2]) := rfl
 generalize hW : grow w #[o1, o2] = W at x0 x1 y0 y1 hC ⊢
 have HW : Hid (grow w #[o1, o2] = W) := hW
 clear hW HG
 go_wp2_with (go_at_call 49; refine hC.mono ?_; rintro e w' ⟨rfl, q, os, rfl⟩)
 go_ret
 refine ⟨rfl, q, #[o1, o2] ++ os, ?_⟩
 rw [← HW.out]
 show grow ((grow w _).drewN q) os = _
 rw [← grow_grow]; rfl
end
section
open Go.RowKit Go.Maps Go.Sort Go.Shelf Go.Lib
instance : Inhabited Sn := ⟨⟨[], []⟩⟩
theorem run_clear2 {P : Program} (w : World) (t e ty : TypeId) (z z0 : Value) (ht : P.underlying t = some (.slice e)) (hv : ∀ w, (zeroValue e).run P w = .ok z w) (hz : z.cells = #[z0, z0]) (h1 : z0.oneCell' = true) (b o n c : Nat) (hn : 0 < n)
  (hc : ∀ j, j < n * 2 → (w.cell? ⟨b, o + j, none⟩).isSome = true) (hf : ∀ j, j < n * 2 → w.frozen? ⟨b, o + j, none⟩ = false) :
  (Builtin.clear_ #[t] ty #[.slice (some ⟨b, o, none⟩) n c]).run P w = .ok (.tuple #[]) (w.setCells b o (List.replicate (n * 2) z0)) := by
 have hzc : (Builtin.zeroCells z.cells n).toList = List.replicate (n * 2) z0 := by
  rw [hz]
  simp only [Builtin.zeroCells]
  apply List.ext_getElem
  ·simp
  ·intro i h1 h2
   have : i % 2 = 0 ∨ i % 2 = 1 := by omega
   simp
   rcases this with h | h <;> rw [h] <;> rfl
 have hst := run_storeCells_cells (P := P) b o (List.replicate (n * 2) z0) 0 w (by simpa using hc) (by simpa using hf) (by intro v hv'; rw [List.eq_of_mem_replicate hv']; exact h1)
 simp only [Nat.add_zero] at hst
 obtain ⟨m, rfl⟩ : ∃ m, n = m + 1 := ⟨n - 1, by omega⟩
 simp [Builtin.clear_, run_underlying ht, hv, hzc, hst]
section
variable {α : Type} [Inhabited α]
theorem setMany_set (enc : α → List Value) (k : Nat) (hk : ∀ x, (enc x).length = k) (d : Array α) (i : Nat) (hi : i < d.size) (x : α) :
    setMany (flatK enc k d) (i * k) (enc x) = flatK enc k (d.setIfInBounds i x) := by
  refine ext_get! (by simp) fun t ht => ?_
  have ht' : t < d.size * k := by simpa using ht
  have k0 : 0 < k := by rcases Nat.eq_zero_or_pos k with h | h; · subst h; simp at ht'
                        · exact h
  rw [get_setMany _ _ _ t (by simpa using ht'), get_flatK _ _ _ t ht', get_flatK _ _ _ t (by simpa using ht'), hk]
  have m : ∀ q, t / k = q → t - q * k = t % k := fun q h => by subst h; rw [Nat.mod_eq_sub_div_mul]
  by_cases b : t / k = i
  · rw [if_pos ((blk_iff k i t k0).2 b), m i b, b, getElem!_set_same d i x hi]
  · rw [if_neg (fun h => b ((blk_iff k i t k0).1 h)), getElem!_set_other d i _ x b]
theorem SWK.set1 {enc : α → List Value} {k : Nat} {w0 W : World} {blk off : Nat} {dk : Array α} (h : SWK enc k w0 blk off dk W) (hk : ∀ x, (enc x).length = k) (hblk : blk < w0.heap.size) (i : Nat) (hi : i < dk.size) (x : α) :
  SWK enc k w0 blk off (dk.setIfInBounds i x) (W.setCells blk (off + i * k) (enc x)) := by
 obtain ⟨n, os, rfl⟩ := h
 refine ⟨n, os, ?_⟩
 have b : i * k + k ≤ dk.size * k := by have := Nat.mul_le_mul_right k (show i + 1 ≤ dk.size from hi); rwa [Nat.add_mul, Nat.one_mul] at this
 unfold sortWorldK
 rw [setCells_grow _ _ _ _ _ (by rw [size_putRowK]; exact hblk)]
 unfold putRowK
 rw [setCells_putRow _ _ _ _ _ _ (by rw [hk, size_flatK]; exact b), setMany_set enc k hk _ _ hi]
theorem SWK.setEnd {enc : α → List Value} {k : Nat} {w0 W : World} {blk off : Nat} {dk : Array α} (h : SWK enc k w0 blk off dk W) (hblk : blk < w0.heap.size) (i : Nat) (vs : List Value) (hi : i * k + vs.length ≤ dk.size * k) :
  ∃ n os, W.setCells blk (off + i * k) vs = grow (putRow id (Sort.ahead w0 n) blk off (setMany (flatK enc k dk) (i * k) vs)) os := by
 obtain ⟨n, os, rfl⟩ := h
 refine ⟨n, os, ?_⟩
 unfold sortWorldK
 rw [setCells_grow _ _ _ _ _ (by rw [size_putRowK]; exact hblk)]
 unfold putRowK
 rw [setCells_putRow _ _ _ _ _ _ (by rw [size_flatK]; exact hi)]
theorem SWK.two {el : α → El} {w0 W : World} {blk off : Nat} {dk d0 : Array α} (h : SWK (fun x => enc2 (el x)) 2 w0 blk off dk W) (R : RowK (fun x => enc2 (el x)) 2 w0 blk off d0) (hs : dk.size = d0.size) {i : Nat} (hi : i < dk.size) :
  W.cell? ⟨blk, off + i * 2, none⟩ = some (.slice (el dk[i]!).a.1 (el dk[i]!).a.2.1 (el dk[i]!).a.2.2) ∧ W.cell? ⟨blk, off + i * 2 + 1, none⟩ = some (.slice (el dk[i]!).b.1 (el dk[i]!).b.2.1 (el dk[i]!).b.2.2) :=
 ⟨((h.holds R.hblk R.hH hs).cell hi (show 0 < 2 by omega)).1, ((h.holds R.hblk R.hH hs).cell hi (show 1 < 2 by omega)).1⟩
theorem SWK.kks {el : α → El} {w0 W : World} {blk off : Nat} {dk d0 : Array α} (h : SWK (fun x => enc2 (el x)) 2 w0 blk off dk W) (R : RowK (fun x => enc2 (el x)) 2 w0 blk off d0) (hs : dk.size = d0.size) {i : Nat} (hi : i < dk.size) :
  (∃ o, W.cell? ⟨blk, off + i * 2, none⟩ = some o) ∧ W.frozen? ⟨blk, off + i * 2, none⟩ = false ∧ (∃ o, W.cell? ⟨blk, off + i * 2 + 1, none⟩ = some o) ∧ W.frozen? ⟨blk, off + i * 2 + 1, none⟩ = false :=
 have h0 := (h.holds R.hblk R.hH hs).cell hi (show 0 < 2 by omega)
 have h1 := (h.holds R.hblk R.hH hs).cell hi (show 1 < 2 by omega)
 ⟨⟨_, h0.1⟩, h0.2, ⟨_, h1.1⟩, h1.2⟩
theorem map_get! (ct : α → Sn) (d : Array α) (i : Nat) (hi : i < d.size) : (d.map ct)[i]! = ct d[i]! := by simp [hi]
theorem map_setIn (ct : α → Sn) (d : Array α) (i : Nat) (x : α) : (d.setIfInBounds i x).map ct = (d.map ct).setIfInBounds i (ct x) := by simp
set_option maxRecDepth 100000 in
set_option maxHeartbeats 4000000 in
theorem mCompact (el : α → El) (ct : α → Sn) (g : Nat) (eg : ∀ args w, (callFunc g args).run Tryz.prog w = .ok (.enter g args) w) (blk off cap : Nat) (d : Array α) (w : World)
    (hC : ∀ dk : Array α, dk.size = d.size → ∀ W, SWK (fun x => enc2 (el x)) 2 w blk off dk W → ∀ (x y : α) (n : Nat) (os : Array Obj), Calls Tryz.prog g #[agg2 (el x), agg2 (el y)] (grow (W.drewN n) os) fun e w' => e = .returned (.bool (decide (ct x = ct y))) ∧ ∃ q os', w' = grow ((grow (W.drewN n) os).drewN q) os')
    (hH : HoldsK (fun x => enc2 (el x)) 2 w blk off d) (hblk : blk < w.heap.size) (hsz : d.size < 2 ^ 40) (hcap : d.size ≤ cap) :
    Calls Tryz.prog 46 #[.slice (some ⟨blk, off, none⟩) d.size cap, .func (.func g) #[] #[]] w fun e w' =>
      e = .returned (.slice (some ⟨blk, off, none⟩) (compactUpTo (d.map ct) d.size).length cap) ∧ ∃ (dk : Array α) (vs : List Value) (n : Nat) (os : Array Obj), dk.size = d.size ∧ (∀ j, j < (compactUpTo (d.map ct) d.size).length → (compactUpTo (d.map ct) d.size)[j]? = some (ct dk[j]!)) ∧
        (compactUpTo (d.map ct) d.size).length * 2 + vs.length ≤ d.size * 2 ∧ w' = grow (putRow id (Sort.ahead w n) blk off (setMany (flatK (fun x => enc2 (el x)) 2 dk) ((compactUpTo (d.map ct) d.size).length * 2) vs)) os := by
  have mixed := mixed_prog
  have HC : Aside _ := hC
  clear hC
  have hl2 : ∀ x, (enc2 (el x)).length = 2 := fun _ => rfl
  have HS : Hid (SWK (fun x => enc2 (el x)) 2 w blk off d w) := SWK.start hH
  have same : ∀ W, SWK (fun x => enc2 (el x)) 2 w blk off d W → (∀ j, j < d.size → keeps (d.map ct) j = true) → (compactUpTo (d.map ct) d.size).length = d.size ∧ ∃ (dk : Array α) (vs : List Value) (n : Nat) (os : Array Obj), dk.size = d.size ∧ (∀ j, j < (compactUpTo (d.map ct) d.size).length → (compactUpTo (d.map ct) d.size)[j]? = some (ct dk[j]!)) ∧
        (compactUpTo (d.map ct) d.size).length * 2 + vs.length ≤ d.size * 2 ∧ W = grow (putRow id (Sort.ahead w n) blk off (setMany (flatK (fun x => enc2 (el x)) 2 dk) ((compactUpTo (d.map ct) d.size).length * 2) vs)) os := by
    rintro W ⟨n, os, rfl⟩ hall
    rw [compactUpTo_all _ _ hall]
    refine ⟨by simp, d, [], n, os, rfl, fun j hj => ?_, by simp, rfl⟩
    have hj' : j < d.size := by simpa using hj
    simp [hj']
  have HE : Aside _ := same
  clear same
  have v28 : ∀ w, (zeroValue 34).run Tryz.prog w = .ok (.agg #[.slice none 0 0, .slice none 0 0]) w := Tryz.zeroValue34
  have h1c : ∀ x, ∀ v ∈ enc2 (el x), v.oneCell' = true := fun x v hv => by simp [enc2] at hv; rcases hv with rfl | rfl <;> rfl
  have hHH : Aside (HoldsK (fun x => enc2 (el x)) 2 w blk off d) := hH
  by_cases h2 : d.size < 2
  · clear hH
    go_enter Tryz.func46, Tryz.ntmps46
    go_wp2
    go_ret
    obtain ⟨e1, e2⟩ := HE.out w HS.out (fun j hj => keeps_lt_one _ j (by omega))
    exact ⟨by rw [e1]; rfl, e2⟩
  · clear hH
    go_enter Tryz.func46, Tryz.ntmps46
    go_wp2
    go_loopg [5] d.size (fun gg s5 wr => ∃ k : Nat, 1 ≤ k ∧ k ≤ d.size ∧ d.size - k ≤ gg ∧ s5 = .int .i64 k ∧ Aside (SWK (fun x => enc2 (el x)) 2 w blk off d wr) ∧ Aside (∀ j, j < k → keeps (d.map ct) j = true))
    case atStart => exact ⟨1, Nat.le_refl _, by omega, by omega, rfl, HS.out, keeps_lt_one _⟩
    case round =>
      obtain ⟨k, hk1, hk, hg, rfl, S1, hall⟩ := hrel
      by_cases hlt : k < d.size
      · obtain ⟨kp, rfl⟩ : ∃ kp, k = kp + 1 := ⟨k - 1, by omega⟩
        have hwp : IntKind.i64.wrap (kp : Int) = (kp : Int) := by rw [IntKind.wrap_i64]; omega
        have jz : (kp : Int) + 1 < (d.size : Int) := by omega
        have jz1 : (kp : Int) < (d.size : Int) := by omega
        have p0 : (0 : Int) ≤ (kp : Int) + 1 := by omega
        have e0 : ((kp : Int) + 1).toNat = kp + 1 := by omega
        obtain ⟨x, hx⟩ : ∃ x, d[kp + 1]! = x := ⟨_, rfl⟩
        obtain ⟨y, hy⟩ : ∃ x, d[kp]! = x := ⟨_, rfl⟩
        have hcal := fun n os => HC.out d rfl wr S1.out x y n os
        have R : RowK (fun x => enc2 (el x)) 2 w blk off d := ⟨hl2, h1c, hHH.out, hblk⟩
        have lj := fun n os => SWK.two (S1.out.grown n os) R rfl hlt
        have lp := fun n os => SWK.two (S1.out.grown n os) R rfl (show kp < d.size by omega)
        rw [hx] at lj
        rw [hy] at lp
        have lj0 := fun n os => (lj n os).1
        have lj1 := fun n os => (lj n os).2
        have lp0 := fun n os => (lp n os).1
        have lp1 := fun n os => (lp n os).2
        clear lj lp
        have B : Aside (d[kp + 1]! = x ∧ d[kp]! = y) := ⟨hx, hy⟩
        clear hx hy
        simp only [agg2] at hcal
        by_cases hdup : ct x = ct y
        · have hcd : decide (ct x = ct y) = true := decide_eq_true hdup
          simp only [hcd] at hcal
          go_wp2_with fail
          go_quiet_grown (first | (go_at_fn g; refine Calls.grown_of (hcal _ _)))
          have S2 : Aside _ := S1.out.grown nq osq
          clear lj0 lj1 lp0 lp1 hcal S1 HS HE
          generalize grow (wr.drewN nq) osq = w2 at S2 ⊢
          go_wp2
          clear hcd hwp jz jz1 p0 e0
          go_loopg [5, 7] d.size (fun gg s5 s7 wr => ∃ (kk kq : Nat) (dk : Array α), s5 = .int .i64 kk ∧ s7 = .int .i64 ((kq : Int) + 1) ∧ kp + 1 + (kq + 1) ≤ d.size ∧ d.size - (kp + 1 + (kq + 1)) ≤ gg ∧ dk.size = d.size ∧ Aside (SWK (fun x => enc2 (el x)) 2 w blk off dk wr) ∧ Aside (CompInv (d.map ct) (kp + 1 + (kq + 1)) kk (dk.map ct)))
          case atStart => exact ⟨kp + 1, 0, d, by go_num, by go_num, by omega, by omega, rfl, S2, CompInv.start hall.out (keeps_neg (by omega) (by rw [map_get! _ _ _ (by omega), map_get! _ _ _ (by omega), Nat.add_sub_cancel, B.out.1, B.out.2]; exact hdup))⟩
          case round =>
            clear S2 B hdup hall
            obtain ⟨kk, kq, dk, rfl, rfl, hle, hg2, hds, S3, I2⟩ := hrel
            have hkk := I2.out.lt
            by_cases hlt2 : kp + 1 + (kq + 1) < d.size
            · have hwp : IntKind.i64.wrap (kq : Int) = (kq : Int) := by rw [IntKind.wrap_i64]; omega
              have jz : (kq : Int) + 1 < ((d.size - (kp + 1) : Nat) : Int) := by omega
              have jz1 : (kq : Int) < ((d.size - (kp + 1) : Nat) : Int) := by omega
              have p0 : (0 : Int) ≤ (kq : Int) + 1 := by omega
              have e0 : ((kq : Int) + 1).toNat = kq + 1 := by omega
              have hx0 := I2.out.high (kp + 1 + (kq + 1)) (by omega)
              have hy0 := I2.out.high (kp + 1 + kq) (by omega)
              rw [map_get! _ _ _ (by omega), map_get! _ _ _ (by omega)] at hx0 hy0
              obtain ⟨x, hx⟩ : ∃ x, dk[kp + 1 + (kq + 1)]! = x := ⟨_, rfl⟩
              obtain ⟨y, hy⟩ : ∃ x, dk[kp + 1 + kq]! = x := ⟨_, rfl⟩
              have hcal := fun n os => HC.out dk hds wr S3.out x y n os
              have lj := fun n os => SWK.two (S3.out.grown n os) R hds (show kp + 1 + (kq + 1) < dk.size by omega)
              have lp := fun n os => SWK.two (S3.out.grown n os) R hds (show kp + 1 + kq < dk.size by omega)
              rw [hx, show off + (kp + 1 + (kq + 1)) * 2 = off + (kp + 1) * 2 + (kq + 1) * 2 by omega] at lj
              rw [hy, show off + (kp + 1 + kq) * 2 = off + (kp + 1) * 2 + kq * 2 by omega] at lp
              rw [hx] at hx0
              rw [hy] at hy0
              have lj0 := fun n os => (lj n os).1
              have lj1 := fun n os => (lj n os).2
              have lp0 := fun n os => (lp n os).1
              have lp1 := fun n os => (lp n os).2
              have B : Aside (ct x = ct d[kp + 1 + (kq + 1)]! ∧ ct y = ct d[kp + 1 + kq]!) := ⟨hx0, hy0⟩
              clear hx hy lj lp hx0 hy0
              simp only [agg2] at hcal
              by_cases hdup : ct x = ct y
              · have hcd : decide (ct x = ct y) = true := decide_eq_true hdup
                simp only [hcd] at hcal
                go_wp2_with fail
                go_quiet_grown (first | (go_at_fn g; refine Calls.grown_of (hcal _ _)))
                have S4 : Aside _ := S3.out.grown nq osq
                clear lj0 lj1 lp0 lp1 hcal S3
                generalize grow (wr.drewN nq) osq = w3 at S4 ⊢
                go_wp2
                go_roundg (d.size - (kp + 1 + (kq + 1 + 1)))
                case measure => omega
                case rel => exact ⟨kk, kq + 1, dk, rfl, by go_num, by omega, Nat.le_refl _, hds, S4, I2.out.skip (keeps_neg (by omega) (by rw [map_get! _ _ _ (by omega), map_get! _ _ _ (by omega), show kp + 1 + (kq + 1) - 1 = kp + 1 + kq by omega, ← B.out.1, ← B.out.2]; exact hdup))⟩
              · have hcd : decide (ct x = ct y) = false := decide_eq_false hdup
                simp only [hcd] at hcal
                go_wp2_with fail
                go_quiet_grown (first | (go_at_fn g; refine Calls.grown_of (hcal _ _)))
                have S4 : Aside _ := S3.out.grown nq osq
                have k0 := lj0 nq osq
                have k1 := lj1 nq osq
                clear lj0 lj1 lp0 lp1 hcal S3
                generalize grow (wr.drewN nq) osq = w3 at S4 k0 k1 ⊢
                have hw := SWK.kks S4.out R hds (show kk < dk.size by omega)
                obtain ⟨⟨o0, ck0⟩, fk0, ⟨o1, ck1⟩, fk1⟩ := hw
                have S5 : Aside _ := SWK.set1 S4.out hl2 hblk kk (show kk < dk.size by omega) x
                have hcc : (w3.setCell ⟨blk, off + kk * 2, none⟩ (.slice (el x).a.1 (el x).a.2.1 (el x).a.2.2)).cell? ⟨blk, off + kk * 2 + 1, none⟩ = some o1 := by
                  exact (World.cell?_setCell_other w3 _ _ _ (fun h => by injection h with h1 h2; omega)).trans ck1
                have hff : (w3.setCell ⟨blk, off + kk * 2, none⟩ (.slice (el x).a.1 (el x).a.2.1 (el x).a.2.2)).frozen? ⟨blk, off + kk * 2 + 1, none⟩ = false := by
                  rw [World.frozen?_setCell]; exact fk1
                clear S4
                have q0 : (kk : Int) < (d.size : Int) := by omega
                go_wp2
                go_roundg (d.size - (kp + 1 + (kq + 1 + 1)))
                case measure => omega
                case rel => exact ⟨kk + 1, kq + 1, dk.setIfInBounds kk x, by go_num, by go_num, by omega, Nat.le_refl _, by simpa using hds, S5, by have := I2.out.keep (by simpa using hlt2) (keeps_pos (by rw [map_get! _ _ _ (by omega), map_get! _ _ _ (by omega), show kp + 1 + (kq + 1) - 1 = kp + 1 + kq by omega, ← B.out.1, ← B.out.2]; exact hdup)); rw [map_get! _ _ _ (by omega), ← B.out.1] at this; rw [map_setIn]; exact this⟩
            · have hend : kp + 1 + (kq + 1) = d.size := by omega
              have hb2 : kk * 2 + 2 ≤ d.size * 2 := by omega
              have hcl : ∀ ty, (Builtin.clear_ #[28] ty #[.slice (some ⟨blk, off + kk * 2, none⟩) (d.size - kk) (cap - kk)]).run Tryz.prog wr = .ok (.tuple #[]) (wr.setCells blk (off + kk * 2) (List.replicate ((d.size - kk) * 2) (.slice none 0 0))) :=
                fun ty => run_clear2 wr _ _ ty _ _ Tryz.underlying28 v28 rfl rfl blk (off + kk * 2) _ _ (by omega)
                  (fun j hj => by rw [Nat.add_assoc, (S3.out.holds hblk hHH.out hds (kk * 2 + j) (by rw [size_flatK]; omega)).1]; rfl)
                  (fun j hj => by rw [Nat.add_assoc]; exact (S3.out.holds hblk hHH.out hds (kk * 2 + j) (by rw [size_flatK]; omega)).2)
              have hfin := SWK.setEnd S3.out hblk kk (List.replicate ((d.size - kk) * 2) (.slice none 0 0)) (by simp; omega)
              obtain ⟨n', os', hfin⟩ := hfin
              have HF : Aside _ := hfin
              clear hfin S3
              have q0 : (kk : Int) ≤ (d.size : Int) := by omega
              have q1 : (kk : Int) ≤ (cap : Int) := by omega
              go_wp2
              go_ret
              have hI := I2.out
              rw [hend] at hI
              refine ⟨by rw [hI.len]; rfl, dk, _, n', os', hds, fun j hj => ?_, ?_, by rw [hI.len]; exact HF.out⟩
              · rw [hI.len] at hj
                rw [hI.low j hj, map_get! _ _ _ (by omega)]
              · rw [hI.len]; simp; omega
        · have hcd : decide (ct x = ct y) = false := decide_eq_false hdup
          simp only [hcd] at hcal
          go_wp2_with fail
          go_quiet_grown (first | (go_at_fn g; refine Calls.grown_of (hcal _ _)))
          have S2 : Aside _ := S1.out.grown nq osq
          clear lj0 lj1 lp0 lp1 hcal S1 R
          generalize grow (wr.drewN nq) osq = w2 at S2 ⊢
          go_wp2
          go_roundg (d.size - (kp + 1 + 1))
          case measure => omega
          case rel =>
            refine ⟨kp + 1 + 1, by omega, by omega, Nat.le_refl _, by go_num, S2, fun j hj => ?_⟩
            by_cases e : j = kp + 1
            · subst e
              exact keeps_pos (by rw [map_get! _ _ _ (by omega), map_get! _ _ _ (by omega), Nat.add_sub_cancel, B.out.1, B.out.2]; exact hdup)
            · exact hall.out j (by omega)
      · have : k = d.size := by omega
        subst this
        go_wp2
        go_ret
        obtain ⟨e1, e2⟩ := HE.out _ S1.out hall.out
        exact ⟨by rw [e1]; rfl, e2⟩
end
end
section
open Go.RowKit Go.Maps Go.Sort Go.Shelf Go.Lib
instance : Inhabited V := ⟨.undef⟩
def pl2 (x : V) : Prop := ∃ a b, x = .agg [.sl a, .sl b]
theorem pl2_sn (l : List Sn) : ∀ x ∈ l.map Sn.V, pl2 x := by
 intro x hx; obtain ⟨s, _, rfl⟩ := List.mem_map.1 hx; exact ⟨_, _, rfl⟩
section
variable {P : Program} {imm : Nat → Prop} {w w' : World} {sz : TypeId → Nat}
theorem pl2_cell {x : V} (h : pl2 x) {j : Nat} {c : V} (hc : x.cells[j]? = some c) : j < 2 ∧ ∃ l, c = .sl l := by
 obtain ⟨a, b, rfl⟩ := h
 match j, hc with
 | 0, hc => simp [V.cells] at hc; exact ⟨by omega, _, hc.symm⟩
 | 1, hc => simp [V.cells] at hc; exact ⟨by omega, _, hc.symm⟩
 | j + 2, hc => simp [V.cells] at hc
theorem getP_pl2 {d : Nat} {e : TypeId} {γ : Option Nat} {cap : Nat} {es : List V} (hp : ∀ x ∈ es, pl2 x) {o : Nat} {q : Path} {v : V} (h : (noM.set d (.own e γ cap es)).getP o q = some v) :
  (o = d ∧ q = [] ∧ v = .own e γ cap es) ∨ v.isOwn = false := by
 rw [Mem.getP_set] at h
 split at h
 ·cases q with
  | nil => simp [V.getP] at h; exact .inl ⟨‹_›, rfl, h.symm⟩
  | cons a q =>
   obtain ⟨i, j⟩ := a
   simp only [V.getP, V.cellAt, Option.bind_eq_some_iff] at h
   obtain ⟨c, ⟨x, hx, hc⟩, h2⟩ := h
   obtain ⟨_, l, rfl⟩ := pl2_cell (hp x (List.mem_of_getElem? hx)) hc
   obtain ⟨_, rfl⟩ := getP_nonown (v := .sl l) rfl h2
   exact .inr rfl
 ·simp [Mem.getP, noM] at h
theorem inv_pl2 {d g : Nat} {e : TypeId} {cap : Nat} {es : List V} (hp : ∀ x ∈ es, pl2 x) {cur : Array Value} (hsz : sz e = 2) (hni : ¬ imm g) (hl : es.length ≤ cap) (hm : cap ≤ maxLen) (hg : w.heap[g]? = some (.cells cur e (0, 0))) (hs : cur.size = cap * 2)
  (hc : ∀ (i : Nat) (x : V), es[i]? = some x → ∀ (j : Nat) (c : V), x.cells[j]? = some c → ∃ u, cur[i * 2 + j]? = some u ∧ Rp imm w c u) : Inv sz imm w (noM.set d (.own e (some g) cap es)) := by
 refine ⟨fun o q v h => ?_, fun o v h => ?_, ?_⟩
 ·rcases getP_pl2 hp h with ⟨_, _, rfl⟩ | h
  ·refine ⟨hni, hl, hm, cur, hg, by rw [hsz]; exact hs, fun i x hx => ?_⟩
   have hx' := hp x (List.mem_of_getElem? hx)
   refine ⟨by rw [hsz]; obtain ⟨a, b, rfl⟩ := hx'; rfl, fun j c hj => ?_⟩
   obtain ⟨_, l, rfl⟩ := pl2_cell hx' hj
   obtain ⟨u, h1, h2⟩ := hc i x hx j _ hj
   exact ⟨u, by rw [hsz]; exact h1, h2.one rfl, h2⟩
  ·cases v <;> first | trivial | simp [V.isOwn] at h
 ·simp only [Mem.set] at h
  split at h
  ·cases h; rfl
  ·cases h
 ·intro o q o' q' g' e1 c1 es1 e2 c2 es2 h1 h2
  rcases getP_pl2 hp h1 with ⟨rfl, rfl, _⟩ | h
  ·rcases getP_pl2 hp h2 with ⟨rfl, rfl, _⟩ | h
   ·exact ⟨rfl, rfl⟩
   ·cases h
  ·cases h
theorem owns_pl2 {d g g' : Nat} {e : TypeId} {cap : Nat} {es : List V} (hp : ∀ x ∈ es, pl2 x) (h : (noM.set d (.own e (some g) cap es)).owns g') : g' = g := by
 obtain ⟨o, q, e', c, es, h⟩ := h
 rcases getP_pl2 hp h with ⟨_, _, h⟩ | h
 ·cases h; rfl
 ·cases h
theorem Step.row2 {e : TypeId} {v : Value} {es : List V} {us : List Value} (hp : ∀ x ∈ es, pl2 x) (hsz : sz e = 2) (hi : ∀ g, imm g → g < w.heap.size) (h : Below w.heap.size w w') (hr : w'.ownsRow w.heap.size e 2 v es.length us)
  (hu : ∀ (i : Nat) (x : V), es[i]? = some x → ∀ (j : Nat) (c : V), x.cells[j]? = some c → ∃ u, us[i * 2 + j]? = some u ∧ Rp imm w c u) :
  ∃ γ cap, v = .slice (γ.map fun g => ⟨g, 0, none⟩) es.length cap ∧ Step sz imm w noM imm w' (noM.set 100 (.own e γ cap es)) := by
 have hev : Ev imm w imm w' := fun g hg => ⟨hg, h.block g (hi g hg)⟩
 obtain ⟨_, ⟨rfl, h0⟩ | ⟨g, cap, cur, rfl, hb, hg, hl, hm, hs, ht⟩⟩ := hr
 ·have : es = [] := List.eq_nil_of_length_eq_zero h0
  subst this
  exact ⟨none, 0, rfl, Inv.nil 100 e, fun g hg => Nat.lt_of_lt_of_le (hi g hg) h.size, h.size, h.os, h.tape, h.output, fun g hg _ => ⟨h.block g hg, Iff.rfl⟩, fun g hg => absurd (owns_nilrow hg) not_owns_no⟩
 ·refine ⟨some g, cap, rfl, inv_pl2 hp hsz (fun hg' => by have := hi g hg'; omega) hl hm hg (by omega) (fun i x hx j c hj => ?_), fun g hg => Nat.lt_of_lt_of_le (hi g hg) h.size, h.size, h.os, h.tape, h.output, fun g hg _ => ⟨h.block g hg, Iff.rfl⟩, fun g' hg' => ?_⟩
  ·obtain ⟨u, h1, h2⟩ := hu i x hx j c hj
   have hlt : i < es.length := (List.getElem?_eq_some_iff.1 hx).1
   have hj2 := (pl2_cell (hp x (List.mem_of_getElem? hx)) hj).1
   have e1 : (cur.toList.take (es.length * 2))[i * 2 + j]? = us[i * 2 + j]? := by rw [ht]
   rw [List.getElem?_take_of_lt (by omega), h1] at e1
   exact ⟨u, by simpa using e1, h2.ev hev⟩
  ·rw [owns_pl2 hp hg']; exact .inr hb
theorem Step.put2 {d d' g : Nat} {e : TypeId} {cap : Nat} {es es' : List V} (hp' : ∀ x ∈ es', pl2 x) {cur' : Array Value} (hsz : sz e = 2) (hI : Inv sz imm w (noM.set d (.own e (some g) cap es))) (hi : ∀ g, imm g → g < w.heap.size)
  (hos : w'.os = w.os) (htp : w'.tape = w.tape) (hou : w'.output = w.output) (hsize : w.heap.size ≤ w'.heap.size) (hbl : ∀ k, k < w.heap.size → k ≠ g → w'.heap[k]? = w.heap[k]?)
  (hl : es'.length ≤ cap) (hg : w'.heap[g]? = some (.cells cur' e (0, 0))) (hs : cur'.size = cap * 2) (hc : ∀ (i : Nat) (x : V), es'[i]? = some x → ∀ (j : Nat) (c : V), x.cells[j]? = some c → ∃ u, cur'[i * 2 + j]? = some u ∧ Rp imm w c u) :
  Step sz imm w (noM.set d (.own e (some g) cap es)) imm w' (noM.set d' (.own e (some g) cap es')) := by
 have hnd := hI.nd d [] (.own e (some g) cap es) (by simp [Mem.getP_set, V.getP])
 have hev : Ev imm w imm w' := fun g' hg' => ⟨hg', hbl g' (hi g' hg') (fun e => hnd.1 (e ▸ hg'))⟩
 refine ⟨inv_pl2 hp' hsz hnd.1 hl hnd.2.2.1 hg hs (fun i x hx j c hj => ?_), fun g hg => Nat.lt_of_lt_of_le (hi g hg) hsize, hsize, hos, htp, hou, fun k hk hn => ⟨hbl k hk (fun e => hn (e ▸ owns_self)), Iff.rfl⟩, fun g' hg' => ?_⟩
 ·obtain ⟨u, h1, h2⟩ := hc i x hx j c hj
  exact ⟨u, h1, h2.ev hev⟩
 ·rw [owns_pl2 hp' hg']; exact .inl owns_self
theorem Rp.intsAt {l : List Int} {v : Value} (hi : ∀ g, imm g → g < w.heap.size) (h : Rp imm w (.sl (l.map (V.int .i64))) v) : ∃ x : Option Addr × Nat × Nat, v = .slice x.1 x.2.1 x.2.2 ∧ IntsAt w x l := by
 obtain ⟨A, c, rfl, h'⟩ := h.ints_inv
 refine ⟨(A, l.length, c), rfl, rfl, fun hne => ?_⟩
 obtain ⟨g, off, rfl, hg, _, hj⟩ := h' hne
 exact ⟨g, off, rfl, hi g hg, hj⟩
theorem Rp.ofInts {l : List Int} {v : Value} (h : Rp imm w (.sl (l.map (V.int .i64))) v) : ∃ x : Option Addr × Nat × Nat, v = .slice x.1 x.2.1 x.2.2 := by
 obtain ⟨A, c, rfl, _⟩ := h.ints_inv
 exact ⟨(A, _, c), rfl⟩
end
def okP (w : World) (p : El × Sn) : Prop := IntsAt w p.1.a p.2.rd ∧ IntsAt w p.1.b p.2.ls ∧ p.2.small
def Pe (w : World) : Type := { p : El × Sn // okP w p }
instance (w : World) : Inhabited (Pe w) := ⟨⟨(⟨(none, 0, 0), (none, 0, 0)⟩, ⟨[], []⟩), ⟨rfl, fun h => absurd rfl h⟩, ⟨rfl, fun h => absurd rfl h⟩, ⟨by simp, by simp⟩⟩⟩
def Pe.el {w : World} (p : Pe w) : El := p.1.1
def Pe.sn {w : World} (p : Pe w) : Sn := p.1.2
theorem Pe.mk' {w : World} {x : El} {s : Sn} (h1 : IntsAt w x.a s.rd) (h2 : IntsAt w x.b s.ls) (h : s.small) : ∃ p : Pe w, p.el = x ∧ p.sn = s := ⟨⟨(x, s), h1, h2, h⟩, rfl, rfl⟩
theorem pes {w : World} (f : Nat → Pe w → Prop) : ∀ (n : Nat), (∀ i, i < n → ∃ p, f i p) → ∃ ps : List (Pe w), ps.length = n ∧ ∀ i p, ps[i]? = some p → f i p
 | 0, _ => ⟨[], rfl, fun i p h => by simp at h⟩
 | n + 1, h => by
  obtain ⟨ps, h1, h2⟩ := pes f n (fun i hi => h i (by omega))
  obtain ⟨p, hp⟩ := h n (by omega)
  refine ⟨ps ++ [p], by simp [h1], fun i q hq => ?_⟩
  by_cases hi : i < ps.length
  ·rw [List.getElem?_append_left hi] at hq; exact h2 i q hq
  ·have : i = n := by have := (List.getElem?_eq_some_iff.1 hq).1; simp at this; omega
   subst this
   rw [List.getElem?_append_right (by omega), h1, Nat.sub_self] at hq
   simp at hq; subst hq; exact hp
theorem Rp.sns_inv {imm : Nat → Prop} {w : World} {sns : List Sn} (hs : ∀ s ∈ sns, s.small) (hi : ∀ g, imm g → g < w.heap.size) {v : Value} (h : Rp imm w (.sl (sns.map Sn.V)) v) : ∃ (A : Option Addr) (c : Nat) (ps : List (Pe w)), v = .slice A sns.length c ∧ ps.map Pe.sn = sns ∧
  (∀ (j : Nat) (p : Pe w) (r : V) (t : Nat), ps[j]? = some p → ∀ u, (enc2 p.el)[t]? = some u → p.sn.V.cells[t]? = some r → Rp imm w r u) ∧
  (sns ≠ [] → ∃ g off, A = some ⟨g, off, none⟩ ∧ imm g ∧ sns.length ≤ c ∧ ∀ (j : Nat) (p : Pe w), ps[j]? = some p → w.cell? ⟨g, off + j * 2, none⟩ = some (.slice p.el.a.1 p.el.a.2.1 p.el.a.2.2) ∧ w.cell? ⟨g, off + j * 2 + 1, none⟩ = some (.slice p.el.b.1 p.el.b.2.1 p.el.b.2.2)) := by
 generalize he : sns.map Sn.V = es at h
 cases h with
 | sl0 A c =>
  have : sns = [] := by simpa using he
  subst this
  exact ⟨A, c, [], rfl, rfl, fun j p r t hp => by simp at hp, fun h => absurd rfl h⟩
 | sl _ g off cap n cur t fr f hig hg hk hl hc hv =>
  have hlen : es.length = sns.length := by rw [← he, List.length_map]
  have hx : ∀ j (hj : j < sns.length), es[j]? = some (sns[j]).V := fun j hj => by rw [← he, List.getElem?_map, List.getElem?_eq_getElem hj]; rfl
  have key : ∀ j, j < sns.length → ∃ p : Pe w, sns[j]? = some p.sn ∧ (∀ (r : V) (t : Nat) u, (enc2 p.el)[t]? = some u → p.sn.V.cells[t]? = some r → Rp imm w r u) ∧ n = 2 ∧ cur[off + j * 2]? = some (.slice p.el.a.1 p.el.a.2.1 p.el.a.2.2) ∧ cur[off + j * 2 + 1]? = some (.slice p.el.b.1 p.el.b.2.1 p.el.b.2.2) := by
   intro j hj
   have hxj := hx j hj
   have hn : n = 2 := (hl j _ hxj).symm
   subst hn
   have a1 := hc j _ 0 _ hxj rfl
   have a2 := hv j _ 0 _ hxj rfl
   have b1 := hc j _ 1 _ hxj rfl
   have b2 := hv j _ 1 _ hxj rfl
   obtain ⟨xa, ea, ha⟩ := a2.intsAt hi
   obtain ⟨xb, eb, hb⟩ := b2.intsAt hi
   obtain ⟨p, p1, p2⟩ := Pe.mk' (x := ⟨xa, xb⟩) (s := sns[j]) ha hb (hs _ (List.getElem_mem hj))
   refine ⟨p, by rw [p2, List.getElem?_eq_getElem hj], fun r t u hu hr => ?_, rfl, by rw [p1]; simpa [ea] using a1, by rw [p1]; rw [← eb]; exact b1⟩
   rw [p1] at hu
   rw [p2] at hr
   match t, hu, hr with
   | 0, hu, hr => simp [enc2] at hu; simp [Sn.V, V.cells] at hr; subst hu; subst hr; rw [← ea]; exact a2
   | 1, hu, hr => simp [enc2] at hu; simp [Sn.V, V.cells] at hr; subst hu; subst hr; rw [← eb]; exact b2
   | t + 2, hu, hr => simp [enc2] at hu
  obtain ⟨ps, h1, h2⟩ := pes (fun j p => sns[j]? = some p.sn ∧ (∀ (r : V) (t : Nat) u, (enc2 p.el)[t]? = some u → p.sn.V.cells[t]? = some r → Rp imm w r u) ∧ n = 2 ∧ cur[off + j * 2]? = some (.slice p.el.a.1 p.el.a.2.1 p.el.a.2.2) ∧ cur[off + j * 2 + 1]? = some (.slice p.el.b.1 p.el.b.2.1 p.el.b.2.2)) _ key
  refine ⟨_, cap, ps, by rw [hlen], ?_, fun j p r t hp u hu hr => (h2 j p hp).2.1 r t u hu hr, fun _ => ⟨g, off, rfl, hig, by omega, fun j p hp => ⟨?_, ?_⟩⟩⟩
  ·apply List.ext_getElem?
   intro j
   rw [List.getElem?_map]
   cases hp : ps[j]? with
   | none =>
    have := List.getElem?_eq_none_iff.1 hp
    rw [List.getElem?_eq_none (by omega)]; rfl
   | some p => rw [(h2 j p hp).1]; rfl
  ·exact cell_heap hg (h2 j p hp).2.2.2.1
  ·exact cell_heap hg (h2 j p hp).2.2.2.2
end
end Go.Proofs.YtkdolbffabmemaaGreatDoor
namespace Go.Proofs
open Go.Shelf
def Tryz.sfLays_ren : Go.Shelf.Ren := ⟨fun | 6 => 97 | 15 => 137 | 14 => 136 | 28 => 158 | 29 => 159 | 20 => 150 | 21 => 151 | 22 => 152 | 23 => 153 | 24 => 154 | 25 => 155 | 26 => 156 | 27 => 157 | 46 => 166 | 47 => 167 | 48 => 168 | 49 => 169 | 50 => 170 | 57 => 173 | n => n, fun | 22 => 28 | 24 => 34 | 25 => 79 | 3 => 3 | 39 => 161 | 0 => 0 | 53 => 178 | 55 => 138 | 4 => 4 | 46 => 172 | 45 => 171 | 50 => 107 | 5 => 5 | 9 => 9 | 66 => 180 | 70 => 184 | 76 => 188 | 77 => 189 | n => n, fun | n => n⟩
theorem Tryz.sfLays : Go.Proofs.SlLaysF0.n6 Tryz.prog Tryz.sfLays_ren := {
 mixed := by kernel_rfl
 f6 := ⟨Tryz.f97.name, by decide, Tryz.func97.trans (congrArg some (by kernel_rfl))⟩
 f14 := ⟨Tryz.f136.name, by decide, Tryz.func136.trans (congrArg some (by kernel_rfl))⟩
 f15 := Tryz.func137.trans (congrArg some (by kernel_rfl))
 f20 := ⟨Tryz.f150.name, by decide, Tryz.func150.trans (congrArg some (by kernel_rfl))⟩
 f21 := ⟨Tryz.f151.name, by decide, Tryz.func151.trans (congrArg some (by kernel_rfl))⟩
 f22 := ⟨Tryz.f152.name, by decide, Tryz.func152.trans (congrArg some (by kernel_rfl))⟩
 f23 := ⟨Tryz.f153.name, by decide, Tryz.func153.trans (congrArg some (by kernel_rfl))⟩
 f24 := ⟨Tryz.f154.name, by decide, Tryz.func154.trans (congrArg some (by kernel_rfl))⟩
 f25 := ⟨Tryz.f155.name, by decide, Tryz.func155.trans (congrArg some (by kernel_rfl))⟩
 f26 := ⟨Tryz.f156.name, by decide, Tryz.func156.trans (congrArg some (by kernel_rfl))⟩
 f27 := ⟨Tryz.f157.name, by decide, Tryz.func157.trans (congrArg some (by kernel_rfl))⟩
 f28 := Tryz.func158.trans (congrArg some (by kernel_rfl))
 f29 := Tryz.func159.trans (congrArg some (by kernel_rfl))
 f46 := ⟨Tryz.f166.name, by decide, Tryz.func166.trans (congrArg some (by kernel_rfl))⟩
 f47 := Tryz.func167.trans (congrArg some (by kernel_rfl))
 f48 := Tryz.func168.trans (congrArg some (by kernel_rfl))
 f49 := ⟨Tryz.f169.name, by decide, Tryz.func169.trans (congrArg some (by kernel_rfl))⟩
 f50 := ⟨Tryz.f170.name, by decide, Tryz.func170.trans (congrArg some (by kernel_rfl))⟩
 f57 := ⟨Tryz.f173.name, by decide, Tryz.func173.trans (congrArg some (by kernel_rfl))⟩
 t0 := Tryz.underlying0
 a0 := Tryz.isAgg0
 z0 := Tryz.sizeOf0
 v0 := Tryz.zeroValue0
 t3 := Tryz.underlying3
 a3 := Tryz.isAgg3
 z3 := Tryz.sizeOf3
 v3 := Tryz.zeroValue3
 t4 := Tryz.underlying4
 a4 := Tryz.isAgg4
 z4 := Tryz.sizeOf4
 v4 := Tryz.zeroValue4
 t5 := Tryz.underlying5
 a5 := Tryz.isAgg5
 z5 := Tryz.sizeOf5
 v5 := Tryz.zeroValue5
 t9 := Tryz.underlying9
 a9 := Tryz.isAgg9
 z9 := Tryz.sizeOf9
 v9 := Tryz.zeroValue9
 t22 := Tryz.underlying28
 a22 := Tryz.isAgg28
 z22 := Tryz.sizeOf28
 v22 := Tryz.zeroValue28
 t25 := Tryz.underlying79
 a25 := Tryz.isAgg79
 z25 := Tryz.sizeOf79
 v25 := Tryz.zeroValue79
 t39 := Tryz.underlying161
 a39 := Tryz.isAgg161
 z39 := Tryz.sizeOf161
 v39 := Tryz.zeroValue161
 t45 := Tryz.underlying171
 a45 := Tryz.isAgg171
 z45 := Tryz.sizeOf171
 v45 := Tryz.zeroValue171
 t46 := Tryz.underlying172
 a46 := Tryz.isAgg172
 z46 := Tryz.sizeOf172
 v46 := Tryz.zeroValue172
 t50 := Tryz.underlying107
 a50 := Tryz.isAgg107
 z50 := Tryz.sizeOf107
 v50 := Tryz.zeroValue107
 t53 := Tryz.underlying178
 a53 := Tryz.isAgg178
 z53 := Tryz.sizeOf178
 v53 := Tryz.zeroValue178
 t55 := Tryz.underlying138
 a55 := Tryz.isAgg138
 z55 := Tryz.sizeOf138
 v55 := Tryz.zeroValue138
 t66 := Tryz.underlying180
 a66 := Tryz.isAgg180
 z66 := Tryz.sizeOf180
 v66 := Tryz.zeroValue180
 t70 := Tryz.underlying184
 a70 := Tryz.isAgg184
 z70 := Tryz.sizeOf184
 v70 := Tryz.zeroValue184
 t76 := Tryz.underlying188
 a76 := Tryz.isAgg188
 z76 := Tryz.sizeOf188
 v76 := Tryz.zeroValue188
 t77 := Tryz.underlying189
 a77 := Tryz.isAgg189
 z77 := Tryz.sizeOf189
 v77 := Tryz.zeroValue189 }
end Go.Proofs
namespace Go.Proofs.YtkdolbffabmemaaGreatDoor
section
open Go.RowKit Go.Maps Go.Sort Go.Shelf Go.Lib
attribute [local go_sem] Oper.semAt_some
set_option maxRecDepth 100000 in
set_option maxHeartbeats 2000000 in
theorem values1A (F : Fence) (n : Nat) (h7 : F.fn 98) (hro : F.round = none) (hn : 1 ≤ n) (l Bs ob b off len cap : Nat) (zs : List El) (hreach : len < 2 ^ 40) (J : List El → World → Prop)
  (hJ : ∀ pre W, J pre W → ∀ j z, zs[j]? = some z → W.cell? ⟨b, off + j * 2, none⟩ = some (.slice z.a.1 z.a.2.1 z.a.2.2) ∧ W.cell? ⟨b, off + j * 2 + 1, none⟩ = some (.slice z.b.1 z.b.2.1 z.b.2.2))
  (hJA : ∀ pre W1 a b, J pre W1 → J pre (W1.alloc (.cells #[a, b] 34)))
  (hY : ∀ pre x W, J pre W → pre.length < len → YieldAt F (n - 1) Tryz.prog l #[agg2 x] W fun e W' => e = .returned (.bool true) ∧ J (pre ++ [x]) W')
  (W : World) (hBs : W.cell? ⟨Bs, ob, none⟩ = some (.slice (some ⟨b, off, none⟩) len cap)) (h0 : J [] W) (hlz : len = zs.length) :
  CallsIn F n Tryz.prog 98 #[.func (.yield l) #[] #[], .pointer (some ⟨Bs, ob, none⟩)] W fun e W' => (∃ v, e = .returned v) ∧ J zs W' := by
 refine callsIn_of_wp Tryz.func98 rfl h7 ?_ hro
 simp only [Tryz.ntmps98, List.size_toArray, List.length_cons, List.length_nil, Nat.reduceAdd, Nat.reduceSub, Array.replicate_succ, Array.replicate_zero, List.push_toArray, List.append_toArray, List.nil_append, List.cons_append]
 gi_wp2
 gi_loopw [7] (fun i wr => ∃ k : Nat, k ≤ len ∧ i = .int .i64 k ∧ J (zs.take k) wr) (fun i _ => len - (intOf i).toNat)
 case atStart => exact ⟨0, Nat.zero_le _, rfl, h0⟩
 case round =>
  obtain ⟨k, hk, rfl, hJs⟩ := hrel
  by_cases hlt : k < len
  ·obtain ⟨x, hx⟩ : ∃ x, zs[k]? = some x := ⟨_, List.getElem?_eq_getElem (by omega)⟩
   obtain ⟨hc0, hc1⟩ := hJ _ _ hJs k x hx
   have hJ2 := hJA _ wr (.slice x.a.1 x.a.2.1 x.a.2.2) (.slice x.b.1 x.b.2.1 x.b.2.2) hJs
   obtain ⟨fn, tmps, assign, body, hy, hR⟩ := hY _ x _ hJ2 (by rw [List.length_take]; omega)
   simp only [agg2] at hy hR
   have HX : Aside (zs[k]? = some x) := hx
   clear hx hJ2
   gi_wp2
   refine hR.mono ?_
   rintro e W3 ⟨rfl, hJ3⟩
   gi_wp2
   go_roundw
   case rel =>
    refine ⟨k + 1, by omega, by simp, ?_⟩
    have : zs.take (k + 1) = zs.take k ++ [x] := by
     rw [List.take_add_one, HX.out]; rfl
    rw [this]; exact hJ3
   case measure => simp [intOf]; omega
  ·obtain rfl : k = len := by omega
   gi_wp2
   go_end0
   subst hlz
   rw [List.take_length] at hJs
   exact ⟨⟨_, rfl⟩, hJs⟩
set_option maxRecDepth 100000 in
set_option maxHeartbeats 1000000 in
theorem values1A_nil (F : Fence) (n : Nat) (h7 : F.fn 98) (hro : F.round = none) (l Bs ob c : Nat) (A : Option Addr) (J : List El → World → Prop) (W : World) (hBs : W.cell? ⟨Bs, ob, none⟩ = some (.slice A 0 c)) (h0 : J [] W) :
  CallsIn F n Tryz.prog 98 #[.func (.yield l) #[] #[], .pointer (some ⟨Bs, ob, none⟩)] W fun e W' => (∃ v, e = .returned v) ∧ J [] W' := by
 refine callsIn_of_wp Tryz.func98 rfl h7 ?_ hro
 simp only [Tryz.ntmps98, List.size_toArray, List.length_cons, List.length_nil, Nat.reduceAdd, Nat.reduceSub, Array.replicate_succ, Array.replicate_zero, List.push_toArray, List.append_toArray, List.nil_append, List.cons_append]
 gi_wp2
 gi_loopw [7] (fun i wr => i = .int .i64 0 ∧ J [] wr) (fun _ _ => 0)
 case atStart => exact ⟨rfl, h0⟩
 case round =>
  obtain ⟨rfl, hJs⟩ := hrel
  gi_wp2
  go_end0
  exact ⟨⟨_, rfl⟩, hJs⟩
set_option maxHeartbeats 1000000 in
theorem valuesD (A : Option Addr) (len cap : Nat) (w : World) :
  Calls Tryz.prog 48 #[.slice A len cap] w fun e w' => e = .returned (.func (.func 98) #[] #[.pointer (some ⟨w.heap.size, 0, none⟩)]) ∧ w' = w.alloc (.cells #[.slice A len cap] 28) := by
 refine (callsIn_wide (n := 6)).1 ?_
 refine callsIn_of_wp Tryz.func48 rfl trivial ?_ rfl
 simp only [Tryz.ntmps48, List.size_toArray, List.length_cons, List.length_nil, Nat.reduceAdd, Nat.reduceSub, Array.replicate_succ, Array.replicate_zero, List.push_toArray, List.append_toArray, List.nil_append, List.cons_append]
 gi_wp2
 go_ret
 exact ⟨rfl, rfl⟩
theorem cmpL_neg : ∀ l m : List Int, cmpL m l = - cmpL l m
 | [], [] => rfl
 | [], _ :: _ => rfl
 | _ :: _, [] => rfl
 | a :: l, b :: m => by
  simp only [cmpL]
  by_cases h1 : a < b
  ·rw [if_neg (by omega), if_pos h1, if_pos h1]; rfl
  ·by_cases h2 : b < a
   ·rw [if_pos h2, if_neg h1, if_pos h2]
   ·rw [if_neg h2, if_neg h1, if_neg h1, if_neg h2, cmpL_neg l m]
theorem cmpL_trans : ∀ l m n : List Int, cmpL l m < 0 → cmpL m n < 0 → cmpL l n < 0
 | [], _, [], h1, h2 => by
  rename_i m
  cases m with
  | nil => simp [cmpL] at h1
  | cons b m => simp [cmpL] at h2
 | [], _, _ :: _, _, _ => by simp [cmpL]
 | _ :: _, [], _, h1, _ => by simp [cmpL] at h1
 | _ :: _, _ :: _, [], _, h2 => by simp [cmpL] at h2
 | a :: l, b :: m, c :: n, h1, h2 => by
  simp only [cmpL] at h1 h2 ⊢
  by_cases k1 : a < b
  ·by_cases k2 : b < c
   ·rw [if_pos (by omega)]; omega
   ·by_cases k3 : c < b
    ·rw [if_neg k2, if_pos k3] at h2; omega
    ·rw [if_pos (by omega)]; omega
  ·rw [if_neg k1] at h1
   by_cases k1' : b < a
   ·rw [if_pos k1'] at h1; omega
   ·rw [if_neg k1'] at h1
    have : a = b := by omega
    subst this
    by_cases k2 : a < c
    ·rw [if_pos k2]; omega
    ·rw [if_neg k2] at h2 ⊢
     by_cases k3 : c < a
     ·rw [if_pos k3] at h2; omega
     ·rw [if_neg k3] at h2 ⊢
      exact cmpL_trans l m n h1 h2
theorem cmpS_neg (s t : Sn) : cmpS t s = - cmpS s t := by
 unfold cmpS orI
 rw [cmpL_neg s.rd t.rd, cmpL_neg s.ls t.ls]
 by_cases h : cmpL s.rd t.rd = 0
 ·rw [if_pos h, if_pos (by omega)]
 ·rw [if_neg h, if_neg (by omega)]
theorem cmpS_trans (s t u : Sn) (h1 : cmpS s t < 0) (h2 : cmpS t u < 0) : cmpS s u < 0 := by
 unfold cmpS orI at *
 by_cases k1 : cmpL s.rd t.rd = 0
 ·rw [cmpL_zero.1 k1]
  rw [if_pos k1] at h1
  by_cases k2 : cmpL t.rd u.rd = 0
  ·rw [if_pos k2] at h2 ⊢
   exact cmpL_trans _ _ _ h1 h2
  ·rw [if_neg k2] at h2 ⊢; exact h2
 ·rw [if_neg k1] at h1
  by_cases k2 : cmpL t.rd u.rd = 0
  ·rw [← cmpL_zero.1 k2, if_neg k1]; exact h1
  ·rw [if_neg k2] at h2
   have := cmpL_trans _ _ _ h1 h2
   rw [if_neg (by omega)]; exact this
theorem swo_sn {w : World} : SWO (ltOf fun p q : Pe w => cmpS p.sn q.sn) where
 irrefl x := by simp [ltOf, cmpS_zero.2 (rfl : x.sn = x.sn)]
 trans x y z h1 h2 := by
  simp only [ltOf, decide_eq_true_eq] at *
  exact cmpS_trans _ _ _ h1 h2
 ntrans x y z h1 h2 := by
  simp only [ltOf, decide_eq_false_iff_not] at *
  intro h3
  have e1 := cmpS_neg x.sn y.sn
  have e2 := cmpS_neg y.sn z.sn
  have e3 := cmpS_neg x.sn z.sn
  by_cases k1 : cmpS x.sn y.sn = 0
  ·rw [cmpS_zero.1 k1] at h3; exact h2 h3
  ·by_cases k2 : cmpS y.sn z.sn = 0
   ·rw [← cmpS_zero.1 k2] at h3; exact h1 h3
   ·have := cmpS_trans z.sn y.sn x.sn (by omega) (by omega)
    omega
section
theorem flat_at {β : Type} (e : β → List Value) (he : ∀ x, (e x).length = 2) : ∀ (l : List β) (i j : Nat) (x : β), j < 2 → l[i]? = some x → (l.flatMap e)[i * 2 + j]? = (e x)[j]?
 | [], i, j, x, _, h => by simp at h
 | y :: l, 0, j, x, hj, h => by
  simp at h; subst h
  rw [List.flatMap_cons, Nat.zero_mul, Nat.zero_add, List.getElem?_append_left (by rw [he]; exact hj)]
 | y :: l, i + 1, j, x, hj, h => by
  rw [List.flatMap_cons, List.getElem?_append_right (by rw [he]; omega), he, show (i + 1) * 2 + j - 2 = i * 2 + j by omega]
  exact flat_at e he l i j x hj (by simpa using h)
theorem flat_len {β : Type} (e : β → List Value) (he : ∀ x, (e x).length = 2) : ∀ l : List β, (l.flatMap e).length = l.length * 2
 | [] => rfl
 | y :: l => by rw [List.flatMap_cons, List.length_append, he, flat_len e he l]; simp; omega
theorem flatK_list {β : Type} [Inhabited β] (e : β → List Value) (he : ∀ x, (e x).length = 2) (l : List β) : (flatK e 2 l.toArray).toList = l.flatMap e := by
 apply List.ext_getElem?
 intro t
 by_cases ht : t < l.length * 2
 ·have e1 : t = t / 2 * 2 + t % 2 := by omega
  have hl : t / 2 < l.length := by omega
  have h1 := get_flatK e 2 l.toArray t (by simpa using ht)
  have h2 : (flatK e 2 l.toArray)[t]? = some (flatK e 2 l.toArray)[t]! := by rw [Array.getElem?_eq_getElem (by simpa using ht), getElem!_pos _ t (by simpa using ht)]
  have h3 : (e l[t / 2])[t % 2]? = some (e l[t / 2])[t % 2]! := by rw [List.getElem?_eq_getElem (by rw [he]; omega), getElem!_pos _ (t % 2) (by rw [he]; omega)]
  rw [Array.getElem?_toList, h2, h1]
  conv => rhs; rw [e1]
  rw [flat_at e he l (t / 2) (t % 2) l[t / 2] (by omega) (List.getElem?_eq_getElem hl), h3]
  simp [hl]
 ·rw [List.getElem?_eq_none (by simpa using ht), List.getElem?_eq_none (by rw [flat_len e he]; omega)]
theorem flat_heap {w : World} {g : Nat} {cur : Array Value} {e : TypeId} (hg : w.heap[g]? = some (.cells cur e (0, 0))) (n : Nat) (F : Array Value) (os : Array Obj) (hF : F.size ≤ cur.size) :
  (∃ cur', (grow (putRow id (Sort.ahead w n) g 0 F) os).heap[g]? = some (.cells cur' e (0, 0)) ∧ cur'.size = cur.size ∧ (∀ t, t < F.size → cur'[t]? = F[t]?)) ∧
   (∀ k, k < w.heap.size → k ≠ g → (grow (putRow id (Sort.ahead w n) g 0 F) os).heap[k]? = w.heap[k]?) ∧ w.heap.size ≤ (grow (putRow id (Sort.ahead w n) g 0 F) os).heap.size := by
 have hlt := (Array.getElem?_eq_some_iff.1 hg).1
 have hh : (grow (putRow id (Sort.ahead w n) g 0 F) os).heap = w.heap.modify g (onCells (putCells id 0 F)) ++ os := rfl
 refine ⟨⟨putCells id 0 F cur, ?_, by simp [putCells], fun t ht => ?_⟩, fun k hk hne => ?_, ?_⟩
 ·rw [hh, Array.getElem?_append_left (by simpa using hlt), Array.getElem?_modify, if_pos rfl, hg]; rfl
 ·have hlt : t < cur.size := by omega
  simp [putCells, Array.getElem?_mapIdx, hlt, ht]
 ·rw [hh, Array.getElem?_append_left (by simpa using hk), Array.getElem?_modify, if_neg (fun e => hne e.symm)]
 ·rw [hh]; simp
end
end
section
open Go.RowKit Go.Maps Go.Sort Go.Shelf Go.Lib
attribute [local go_sem] Oper.semAt_some
theorem sort_kept {α : Type} [Inhabited α] {enc : α → List Value} {w W1 : World} {blk m : Nat} (hb : Below w.heap.size w W1) (hblk : w.heap.size ≤ blk) (dk : Array α) (os : Array Obj) :
  w.heap.size ≤ (sortWorldK enc 2 W1 blk 0 m dk os).heap.size ∧ ∀ a : Addr, a.block < w.heap.size → (sortWorldK enc 2 W1 blk 0 m dk os).cell? a = w.cell? a := by
 refine ⟨Nat.le_trans hb.size (size_sortWorldK_c enc 2 W1 blk 0 m dk os), fun a ha => ?_⟩
 unfold sortWorldK
 rw [cell?_grow _ _ _ (by rw [size_putRowK]; show _ < W1.heap.size; have := hb.size; omega), cell?_putRowK_other enc 2 _ blk 0 dk a (by omega)]
 exact hb.cell (p := a) ha
theorem lays_cmp {w W1 : World} {blk : Nat} (hb : Below w.heap.size w W1) (hblk : w.heap.size ≤ blk) (size : Nat) :
  CmpLays Tryz.prog 49 #[] (fun p : Pe w => enc2 p.el) 2 (fun p q => cmpS p.sn q.sn) blk 0 size W1 := by
 intro m os dk _ x y
 obtain ⟨hs, hk⟩ := sort_kept (enc := fun p : Pe w => enc2 p.el) (m := m) hb hblk dk os
 have := mSeen x.el y.el x.sn y.sn _ (x.2.1.kept hs hk) (x.2.2.1.kept hs hk) (y.2.1.kept hs hk) (y.2.2.1.kept hs hk) x.2.2.2.rd x.2.2.2.ls y.2.2.2.rd y.2.2.2.ls
 simpa [agg2, enc2] using this
theorem pe_len {w : World} : ∀ p : Pe w, (enc2 p.el).length = 2 := fun _ => rfl
theorem pe_one {w : World} : ∀ p : Pe w, ∀ v ∈ enc2 p.el, v.oneCell' = true := fun p v hv => by simp [enc2] at hv; rcases hv with rfl | rfl <;> rfl
theorem holds2 {w W : World} {g : Nat} {cur : Array Value} {e : TypeId} {ps : List (Pe w)} (hb : W.heap[g]? = some (.cells cur e (0, 0))) (ht : ∀ (i : Nat) (p : Pe w) (j : Nat), ps[i]? = some p → j < 2 → cur[i * 2 + j]? = (enc2 p.el)[j]?) : HoldsK (fun p : Pe w => enc2 p.el) 2 W g 0 ps.toArray := by
 intro j hj
 have hj' : j < ps.length * 2 := by simpa using hj
 have hl : j / 2 < ps.length := by omega
 have h1 := ht (j / 2) ps[j / 2] (j % 2) (List.getElem?_eq_getElem hl) (by omega)
 have e1 : j / 2 * 2 + j % 2 = j := by omega
 rw [e1] at h1
 have h2 : (flatK (fun p : Pe w => enc2 p.el) 2 ps.toArray)[j]! = (enc2 (ps[j / 2]).el)[j % 2]! := by rw [get_flatK _ _ _ _ (by simpa using hj')]; simp [hl]
 refine ⟨cell_heap hb ?_, by simp [World.frozen?, hb]⟩
 rw [Nat.zero_add, h1, h2, List.getElem?_eq_getElem (by show _ < 2; omega), getElem!_pos _ (j % 2) (by show _ < 2; omega)]; rfl
set_option maxRecDepth 100000 in
set_option maxHeartbeats 2000000 in
theorem mSorted (w : World) (ps : List (Pe w)) (g : Nat) (lb : Array Value) (eg : ∀ args w, (callFunc g args).run Tryz.prog w = .ok (.enter g args) w) (hl : ps.length < 2 ^ 40)
  (hseq : GivesA Fence.wide 3 Tryz.prog g lb (fun ss => ss = ps.map Pe.el) ps.length w) :
  Calls Tryz.prog 47 #[.func (.func g) #[] lb, .func (.func 49) #[] #[]] w fun e w' =>
   ∃ (v : Value) (qs : List (Pe w)), e = .returned v ∧ qs.Perm ps ∧ qs.Pairwise (fun p q => ¬ cmpS q.sn p.sn < 0) ∧ w'.ownsRow w.heap.size 34 2 v qs.length (qs.flatMap fun p => enc2 p.el) ∧ Below w.heap.size w w' := by
 have hcol := (callsIn_wide (n := 5)).1 (Ra.collect_in Fence.wide 5 trivial trivial rfl (by omega) g lb trivial eg _ ps.length (by unfold maxLen; omega) (by omega) w hseq)
 clear hseq
 go_enter Tryz.func47, Tryz.ntmps47
 go_wp2_with (go_at_call 96; refine hcol.mono ?_; rintro e W ⟨v, ss, rfl, hss, hrow, hnil, hb⟩)
 subst hss
 have hle : (ps.map Pe.el).length = ps.length := by simp
 have hfm : (ps.map Pe.el).flatMap enc2 = ps.flatMap fun p => enc2 p.el := by simp [List.flatMap_map]
 rw [hle, hfm] at hrow
 rcases hrow.2 with ⟨rfl, hz⟩ | ⟨gb, cap, cur, rfl, hbase, hgb, r1, r2, r3, r4⟩
 ·have hss : ps = [] := List.eq_nil_of_length_eq_zero hz
  subst hss
  have hS := AnyF.slices_SortFunc_none Tryz.sfLays none 0 (.func (.func 49) #[] #[]) W
  change Calls _ 97 _ _ _ at hS
  go_wp2_with (go_at_call 97; refine hS.mono ?_; rintro e w' ⟨rfl, rfl⟩)
  go_ret
  exact ⟨_, [], rfl, .nil, .nil, hrow, hb⟩
 ·have hH : HoldsK (fun p : Pe w => enc2 p.el) 2 W gb 0 ps.toArray := holds2 hgb (fun i p j hp hj => by
   have h1 := flat_at (fun p : Pe w => enc2 p.el) pe_len ps i j p hj hp
   have hi := (List.getElem?_eq_some_iff.1 hp).1
   rw [← h1, ← r4, List.getElem?_take_of_lt (by omega), Array.getElem?_toList])
  have hgl : gb < W.heap.size := (Array.getElem?_eq_some_iff.1 hgb).1
  have hS := AnyQ.slices_SortFunc Tryz.sfLays 2 Tryz.isAgg34 Tryz.sizeOf34 (fun p : Pe w => enc2 p.el) pe_len pe_one (fun p q => cmpS p.sn q.sn) swo_sn 49 #[] gb 0 cap ps.toArray W
   (enters_of Tryz.func49 (by kernel_rfl) rfl) (lays_cmp hb hbase _) hH hgl (by simp; omega)
  change Calls _ 97 _ _ _ at hS
  simp only [List.size_toArray] at hS
  have R4 : Aside _ := r4
  have HR : Aside _ := hrow
  clear hH hrow r4 hcol hnil
  go_wp2_with (go_at_call 97; refine hS.mono ?_; rintro e w' ⟨rfl, d', n, os, hp, hso, rfl⟩)
  go_ret
  obtain ⟨p1, p2, p3⟩ := hp
  have hsz : d'.size = ps.length := by simpa using p1
  have e1 : d'.extract 0 ps.length = d' := by rw [← hsz]; exact Array.extract_size
  rw [e1] at p3
  have e2 : ps.toArray.extract 0 ps.length = ps.toArray := by simp
  rw [e2] at p3
  have hfs : (flatK (fun p : Pe w => enc2 p.el) 2 d').size ≤ cur.size := by rw [size_flatK, hsz, r3]; exact Nat.mul_le_mul_right 2 r1
  obtain ⟨⟨cur', k1, k2, k3⟩, k4, k5⟩ := flat_heap hgb n (flatK (fun p : Pe w => enc2 p.el) 2 d') os hfs
  have hdl : d'.toList.length = ps.length := by simpa using hsz
  refine ⟨_, rfl, d'.toList, by simpa using p3, ?_, ⟨by rw [flat_len _ pe_len], .inr ⟨gb, cap, cur', by rw [hdl]; rfl, hbase, k1, by omega, r2, by omega, ?_⟩⟩, ?_⟩
  ·rw [List.pairwise_iff_getElem]
   intro i j hi hj hij
   have hi' : i < d'.size := by simpa using hi
   have hj' : j < d'.size := by simpa using hj
   have := hso i j (Nat.zero_le _) hij (by omega)
   simp only [ltOf, decide_eq_false_iff_not] at this
   rw [getElem!_pos d' i hi', getElem!_pos d' j hj'] at this
   simpa using this
  ·have hf := flatK_list (fun p : Pe w => enc2 p.el) pe_len d'.toList
   simp only [Array.toArray_toList] at hf
   rw [← hf]
   apply List.ext_getElem?
   intro t
   by_cases ht : t < d'.size * 2
   ·rw [List.getElem?_take_of_lt (by simpa using ht), Array.getElem?_toList, Array.getElem?_toList, k3 t (by simpa using ht)]
   ·rw [List.getElem?_eq_none (by simp; omega), List.getElem?_eq_none (by simp; omega)]
  ·exact hb.grown ⟨rfl, rfl, rfl, k5, fun k hk hne => k4 k hk (fun e => hne (by rw [e]))⟩ hb.size (fun k e => by cases e; exact hbase)
end
section
open Go.RowKit Go.Maps Go.Sort Go.Shelf Go.Lib
theorem szT_seen : szT Tryz.prog 34 = 2 := by kernel_rfl
def sortSn (l : List Sn) : List Sn := l.mergeSort fun s t => !decide (cmpS t s < 0)
theorem sortSn_eq {l m : List Sn} (h : m.Perm l) (hp : m.Pairwise fun s t => ¬ cmpS t s < 0) : m = sortSn l := by
 refine List.Perm.eq_of_pairwise (le := fun s t => ¬ cmpS t s < 0) ?_ hp ?_ (h.trans (List.mergeSort_perm _ _).symm)
 ·intro a b _ _ h1 h2
  have := cmpS_neg a b
  exact cmpS_zero.1 (by omega)
 ·have := List.pairwise_mergeSort (le := fun s t => !decide (cmpS t s < 0)) (fun a b c h1 h2 => by
   simp only [Bool.not_eq_true', decide_eq_false_iff_not] at *
   intro h3
   have e1 := cmpS_neg a b
   have e2 := cmpS_neg b c
   by_cases k1 : cmpS a b = 0
   ·rw [cmpS_zero.1 k1] at h3; exact h2 h3
   ·by_cases k2 : cmpS b c = 0
    ·rw [← cmpS_zero.1 k2] at h3; exact h1 h3
    ·have := cmpS_trans a b c (by omega) (by omega)
     have := cmpS_neg a c
     omega) (fun a b => by
   have := cmpS_neg a b
   simp only [Bool.or_eq_true, Bool.not_eq_true', decide_eq_false_iff_not]; omega) l
  exact this.imp fun h => by simpa using h
theorem sortSn_perm (l : List Sn) : (sortSn l).Perm l := List.mergeSort_perm _ _
theorem sortSn_len (l : List Sn) : (sortSn l).length = l.length := (sortSn_perm l).length_eq
def valuesW (l : List Sn) : V := .fn (.func 98) [] [.eptr [.sl (l.map Sn.V)]]
theorem valuesS_fn (zs : List Sn) (hsm : ∀ s ∈ zs, s.small) : Fp Tryz.prog 48 [.sl (zs.map Sn.V)] (valuesW zs) := by
 refine ⟨fun imm w vals hG _ hi hs hv => ?_, by kernel_rfl⟩
 obtain ⟨a, rfl, ha⟩ := vals1 (P := Tryz.prog) hs hv
 obtain ⟨A, cp, _, rfl, _⟩ := ha.sns_inv hsm hi
 refine (valuesD A zs.length cp w).mono ?_
 rintro e w' ⟨rfl, rfl⟩
 have hb : Below w.heap.size w (w.alloc (.cells #[.slice A zs.length cp] 28)) := (Below.refl _ w).alloc (Nat.le_refl _) _
 have hev : Ev imm w (fun g => imm g ∨ g = w.heap.size) (w.alloc (.cells #[.slice A zs.length cp] 28)) := fun g hg => ⟨.inl hg, hb.block g (hi g hg)⟩
 refine ⟨_, valuesW zs, noM, (fun g => imm g ∨ g = w.heap.size), rfl, ⟨rfl, rfl⟩, ?_, ⟨inv_no, fun g hg => ?_, hb.size, hb.os, hb.tape, hb.output, fun g hg _ => ⟨hb.block g hg, fun h => h.elim id (fun e => absurd e (by omega)), .inl⟩, fun g hg => absurd hg not_owns_no⟩⟩
 ·refine .fn _ [] [.eptr [.sl (zs.map Sn.V)]] #[] #[.pointer (some ⟨w.heap.size, 0, none⟩)] rfl rfl (fun j c u h _ => by simp at h) fun j c u hc hu => ?_
  have hj : j = 0 := by cases j <;> simp at hc; rfl
  subst hj
  simp at hc hu
  subst hc; subst hu
  refine .eptr [.sl (zs.map Sn.V)] w.heap.size 0 #[.slice A zs.length cp] 28 (0, 0) (fun _ => .slice A zs.length cp) (.inr rfl) (heap_alloc_new w _) (fun j c' hj => ?_) (fun j c' hj => ?_)
  ·have hj0 : j = 0 := by cases j <;> simp at hj; rfl
   subst hj0; rfl
  ·have hj0 : j = 0 := by cases j <;> simp at hj; rfl
   subst hj0
   simp at hj; subst hj
   exact ha.ev hev
 ·rcases hg with hg | rfl
  ·exact Nat.lt_of_lt_of_le (hi g hg) hb.size
  ·simp
theorem sortedS_fn (zs : List Sn) (hsm : ∀ s ∈ zs, s.small) (hl : zs.length < 2 ^ 40) : Fc Tryz.prog 47 [valuesW zs, .fn (.func 49) [] []] noM fun r m => ∃ γ cap, r = .msl 100 [] γ zs.length cap ∧ m = noM.set 100 (.own 34 γ cap ((sortSn zs).map Sn.V)) := by
 refine ⟨fun imm w vals hG _ hi hs hv => ?_, by kernel_rfl⟩
 obtain ⟨a, b, rfl, ha, hb⟩ := vals2 (P := Tryz.prog) hs hv
 have eb : b = .func (.func 49) #[] #[] := by
  cases hb with
  | fn f xs bs ar br k1 k2 _ _ => rw [show ar = #[] by simpa using k1, show br = #[] by simpa using k2]
 subst eb
 unfold valuesW at ha
 cases ha with
 | fn f xs bs ar br k1 k2 h h' =>
  have e1 : ar = #[] := by simpa using k1
  subst e1
  obtain ⟨l⟩ := br
  match l, k2 with
  | [b], _ =>
   have hb := h' 0 _ b rfl rfl
   cases hb with
   | eptr cs g off cur t fr f hg hc hcur hcs =>
    have h1 := hcur 0 _ rfl
    have h2 := hcs 0 _ rfl
    obtain ⟨A, c, ps, e2, hps, hrp, hcell⟩ := h2.sns_inv hsm hi
    rw [e2] at h1
    have hbox : w.cell? ⟨g, off, none⟩ = some (.slice A zs.length c) := cell_heap hc h1
    have hpl : ps.length = zs.length := by rw [← hps, List.length_map]
    have hseq : GivesA Fence.wide 3 Tryz.prog 98 #[.pointer (some ⟨g, off, none⟩)] (fun ss => ss = ps.map Pe.el) ps.length w := by
     intro l J W hW hJB hJA hY h0
     have hb' : W.cell? ⟨g, off, none⟩ = some (.slice A zs.length c) := (hW.cell (p := ⟨g, off, none⟩) (hi g hg)).trans hbox
     by_cases hz : zs = []
     ·subst hz
      have : ps = [] := List.eq_nil_of_length_eq_zero hpl
      subst this
      refine (values1A_nil Fence.wide 3 trivial rfl l g off c A J W hb' h0).mono ?_
      rintro e W' ⟨he, hJ⟩
      exact ⟨he, [], rfl, hJ⟩
     ·obtain ⟨g', off', rfl, hg', _, hc'⟩ := hcell hz
      refine (values1A Fence.wide 3 trivial rfl (by omega) l g off g' off' zs.length c (ps.map Pe.el) hl J (fun pre W1 hJ j z hz' => ?_) hJA (fun pre x W hJ hlt => hY pre x W hJ (by rw [hpl]; exact hlt)) W hb' h0 (by simp [hpl])).mono ?_
      ·rw [List.getElem?_map, Option.map_eq_some_iff] at hz'
       obtain ⟨p, hp, rfl⟩ := hz'
       obtain ⟨d1, d2⟩ := hc' j p hp
       exact ⟨((hJB _ _ hJ).cell (p := ⟨g', off' + j * 2, none⟩) (hi g' hg')).trans d1, ((hJB _ _ hJ).cell (p := ⟨g', off' + j * 2 + 1, none⟩) (hi g' hg')).trans d2⟩
      ·rintro e W' ⟨he, hJ⟩
       exact ⟨he, _, rfl, hJ⟩
    refine (mSorted w ps 98 _ (enters_of Tryz.func98 (by kernel_rfl) rfl) (by omega) hseq).mono ?_
    rintro e w' ⟨v, qs, rfl, hperm, hpw, hrow, hB⟩
    have hq : qs.map Pe.sn = sortSn zs := sortSn_eq (by rw [← hps]; exact hperm.map _) (by rw [List.pairwise_map]; exact hpw)
    have hql : qs.length = zs.length := by rw [hperm.length_eq, hpl]
    have hu : ∀ (i : Nat) (x : V), ((sortSn zs).map Sn.V)[i]? = some x → ∀ (j : Nat) (c : V), x.cells[j]? = some c → ∃ u, (qs.flatMap fun p => enc2 p.el)[i * 2 + j]? = some u ∧ Rp imm w c u := by
     intro i x hx j c hj
     rw [← hq, List.map_map, List.getElem?_map, Option.map_eq_some_iff] at hx
     obtain ⟨q, hqi, rfl⟩ := hx
     have hj2 := (pl2_cell (x := q.sn.V) ⟨_, _, rfl⟩ hj).1
     obtain ⟨u, hu⟩ : ∃ u, (enc2 q.el)[j]? = some u := ⟨_, List.getElem?_eq_getElem (by show j < 2; exact hj2)⟩
     refine ⟨u, by rw [flat_at _ pe_len _ _ _ _ hj2 hqi]; exact hu, ?_⟩
     obtain ⟨j', hj'⟩ := List.getElem?_of_mem (hperm.mem_iff.1 (List.mem_of_getElem? hqi))
     exact hrp j' q c j hj' u hu hj
    obtain ⟨γ, cap, rfl, hS⟩ := Step.row2 (sz := szT Tryz.prog) (es := (sortSn zs).map Sn.V) (us := qs.flatMap fun p => enc2 p.el) (pl2_sn _) szT_seen hi hB (by rw [List.length_map, sortSn_len, ← hql]; exact hrow) hu
    refine ⟨_, _, _, imm, rfl, ⟨γ, cap, rfl, rfl⟩, ?_, hS⟩
    rw [List.length_map, sortSn_len]
    exact .msl _ _ _ _ _
end
end Go.Proofs.YtkdolbffabmemaaGreatDoor
