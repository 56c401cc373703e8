/-
  Who waits and each reader: the two of which one can be added, by the program. One of each two is added, the first where it holds so with all behind, by the program. Who waits stands twice among the events: in pairs. The choices of both sides are the same. OrderHolds, by the program. All ways of the program and of the reference are the same, in the same order. What is seen of a way that may be; the first way that is seen so: by the program. The reference puts what was seen in order. What is seen of a way, by the reference: the same. The reference's nets: copied, with one more, held. The reference: whether a net holds.
-/
import Derived.Test.YtfbgabkcjjahiaaGreatDoorNe
set_option linter.unusedSimpArgs false
set_option linter.unusedVariables false
namespace Go.Proofs.YtfbgabkcjjahiaaGreatDoor
open Go.RowKit
set_option pp.maxSteps 3000

def chIn (ds : List Do) (e : Nat) : Nat → List (Nat × Nat)
  | 0 => []
  | j + 1 => chIn ds e j ++ (if kd ds j == 7 then [(e, j)] else [])
def ltA (es : List Evt) (k : Nat) : Bool := (es[k]?.getD default).l
def chOut (s : Sc) : Nat → List (Nat × Nat)
  | 0 => []
  | k + 1 => chOut s k ++ (if kd s.ds k == 9 && ltA s.es k then chIn s.ds k s.ds.length else [])
def chE (out : Nat → Nat) (q : Nat × Nat) : V := .agg [.int .i64 (out q.2 : Int), .int .i64 (q.1 : Int), .int .i64 ((q.1 : Int) - 1), .int .i64 (q.2 : Int)]
theorem chIn_le (ds : List Do) (e : Nat) : ∀ j, (chIn ds e j).length ≤ j
  | 0 => by simp [chIn]
  | j + 1 => by
    have := chIn_le ds e j
    simp only [chIn, List.length_append]
    split <;> simp <;> omega
theorem chOut_le (s : Sc) (hn : s.ds.length ≤ 62) : ∀ k, (chOut s k).length ≤ k * 62
  | 0 => by simp [chOut]
  | k + 1 => by
    have := chOut_le s hn k
    have := chIn_le s.ds k s.ds.length
    simp only [chOut, List.length_append]
    split <;> simp <;> omega
theorem fz_ch (out : Nat → Nat) (l : List (Nat × Nat)) : (l.map (chE out)).map V.fz = l.map (chE out) := by rw [List.map_map]; exact List.map_congr_left fun d _ => rfl
@[push_cast] theorem fzs_ch (out : Nat → Nat) (l : List (Nat × Nat)) : (l.map (chE out)).map V.fz = l.map (chE out) := fz_ch out l
@[push_cast] theorem flatL_ch (out : Nat → Nat) (l : List (Nat × Nat)) : flatL (l.map (chE out)) = true := by simp [flatL, V.cells, V.flatC, chE]
theorem choices_fn (s : Sc) (hn : s.ds.length ≤ 62) (hes : s.es.length = s.ds.length) (out : Nat → Nat)
    (hin : ∀ i, i < s.ds.length → kd s.ds i = 7 → Fp Tryz.prog 135 [s.V, .int .i64 i] (.tuple [.int .i64 i, .int .i64 (out i), .bool true])) :
    Fp Tryz.prog 98 [s.V] (.sl ((chOut s s.ds.length).map (chE out))) := by
  rw [Sc.V_eq] at hin
  obtain ⟨n, hnn⟩ : ∃ n, s.ds.length = n := ⟨_, rfl⟩
  rw [hnn] at hn hes hin ⊢
  refine Fc.start (S := [14]) Tryz.func98 Tryz.ntmps98 Tryz.results98 rfl (by decide) rfl (by kernel_rfl) ?_
  simp (maxSteps := 1000000) (disch := omega) only [push_cast, go_sem, zA, zB, zC, zD, zE, zF, simprocAttr, Sc.V_eq]
  intro g1
  refine Sat.loop (σ := EvS) (fun x => upd (upd (upd (upd (upd noT 1 (.ptr 1 [] 0 0 g1 3)) 12 (.sl (s.ds.map Do.V))) 13 (.int .i64 n)) 14 (.int .i64 x.k)) 3 (.msl 3 [] x.γ (chOut s x.k).length x.c))
    (fun x => (noM.set 1 (.own 74 (some g1) 1 [.agg [.sl (s.p.map thrV), .sl (s.es.map Evt.V), .sl (s.ds.map Do.V)]])).set 3 (.own x.e x.γ x.c ((chOut s x.k).map (chE out))))
    (fun x => x.k ≤ n ∧ (x.γ = none ∨ x.e = 161)) (fun x => n - x.k) ⟨0, 0, none, 0⟩ (by simp) ?_ ?_
  · (refine Less.start ?_; repeat (first | exact LessO.nil | exact LessO.all | refine LessO.skip (by decide) ?_ | refine LessO.upd ?_ ?_ | refine LessO.set ?_ ?_)) <;> (try simp (maxSteps := 1000000) (disch := omega) only [push_cast, go_sem, zA, zB, zC, zD, zE, zF, simprocAttr])
    all_goals first | rfl | rw [hnn]
  rintro ⟨k, e, γ, c⟩ ⟨hk, hγ⟩ J hJ
  refine Sat.of (S := [14]) (by kernel_rfl) ?_
  simp only at hk hγ hJ
  have hb := chOut_le s (by omega) k
  rcases Nat.lt_or_ge k n with hlt | hge
  · obtain ⟨d, hd⟩ : ∃ d, s.ds[k]? = some d := ⟨_, List.getElem?_eq_getElem (by omega)⟩
    obtain ⟨ev, hev⟩ : ∃ d, s.es[k]? = some d := ⟨_, List.getElem?_eq_getElem (by omega)⟩
    have hkd : kd s.ds k = d.k := by rw [kd, hd]; rfl
    have hla : ltA s.es k = ev.l := by rw [ltA, hev]; rfl
    have hlts : k < s.ds.length := by omega
    have hlte : k < s.es.length := by omega
    have hγ' : (γ = none ∨ e = 161) = True := by simp only [hγ]
    have hm : n - (k + 1) < n - k := by omega
    have same : (d.k == 9 && ev.l) = false → chOut s (k + 1) = chOut s k := fun h => by simp only [chOut, hkd, hla, h]; simp
    simp (maxSteps := 1000000) (disch := omega) only [push_cast, go_sem, zA, zB, zC, zD, zE, zF, simprocAttr, hd, hlt, hlts, Do.V_eq, hγ']
    intro g2
    cases h9 : (d.k == 9)
    · have h9' : (d.k != 9) = true := by simp [bne, h9]
      simp (maxSteps := 1000000) (disch := omega) only [push_cast, go_sem, zA, zB, zC, zD, zE, zF, simprocAttr, h9']
      refine hJ ⟨k + 1, e, γ, c⟩ _ _ ⟨by dsimp only; omega, hγ⟩ hm ?_
      (refine Less.start ?_; repeat (first | exact LessO.nil | exact LessO.all | refine LessO.skip (by decide) ?_ | refine LessO.upd ?_ ?_ | refine LessO.set ?_ ?_)) <;> (try simp (maxSteps := 1000000) (disch := omega) only [push_cast, go_sem, zA, zB, zC, zD, zE, zF, simprocAttr])
      all_goals rw [same (by rw [h9]; rfl)]
    have h9' : (d.k != 9) = false := by simp [bne, h9]
    cases hl : ev.l
    · simp (maxSteps := 1000000) (disch := omega) only [push_cast, go_sem, zA, zB, zC, zD, zE, zF, simprocAttr, h9', hev, hlte, Evt.V_eq, hl]
      refine hJ ⟨k + 1, e, γ, c⟩ _ _ ⟨by dsimp only; omega, hγ⟩ hm ?_
      (refine Less.start ?_; repeat (first | exact LessO.nil | exact LessO.all | refine LessO.skip (by decide) ?_ | refine LessO.upd ?_ ?_ | refine LessO.set ?_ ?_)) <;> (try simp (maxSteps := 1000000) (disch := omega) only [push_cast, go_sem, zA, zB, zC, zD, zE, zF, simprocAttr])
      all_goals rw [same (by rw [hl]; simp)]
    simp (maxSteps := 1000000) (disch := omega) only [push_cast, go_sem, zA, zB, zC, zD, zE, zF, simprocAttr, h9', hev, hlte, Evt.V_eq, hl]
    refine Sat.loop (σ := EvS) (fun x => upd (upd (upd (upd (upd (upd (upd (upd (upd noT 1 (.ptr 1 [] 0 0 g1 3)) 12 (.sl (s.ds.map Do.V))) 13 (.int .i64 n)) 14 (.int .i64 k)) 3 (.msl 3 [] x.γ (chOut s k ++ chIn s.ds k x.k).length x.c)) 4 (.int .i64 k)) 32 (.sl (s.ds.map Do.V))) 33 (.int .i64 n)) 34 (.int .i64 x.k))
      (fun x => (noM.set 1 (.own 74 (some g1) 1 [.agg [.sl (s.p.map thrV), .sl (s.es.map Evt.V), .sl (s.ds.map Do.V)]])).set 3 (.own x.e x.γ x.c ((chOut s k ++ chIn s.ds k x.k).map (chE out))))
      (fun x => x.k ≤ n ∧ (x.γ = none ∨ x.e = 161)) (fun x => n - x.k) ⟨0, e, γ, c⟩ ⟨by simp, hγ⟩ ?_ ?_
    · (refine Less.start ?_; repeat (first | exact LessO.nil | exact LessO.all | refine LessO.skip (by decide) ?_ | refine LessO.upd ?_ ?_ | refine LessO.set ?_ ?_)) <;> (try simp (maxSteps := 1000000) (disch := omega) only [push_cast, go_sem, zA, zB, zC, zD, zE, zF, simprocAttr])
      all_goals simp [chIn, hnn]
    rintro ⟨j, e2, γ2, c2⟩ ⟨hj, hγ2⟩ J2 hJ2
    refine Sat.of (S := []) (by kernel_rfl) ?_
    simp only at hj hγ2 hJ2
    have hb2 := chIn_le s.ds k j
    have hb3 : (chOut s k ++ chIn s.ds k j).length ≤ 62 * 62 + 62 := by rw [List.length_append]; omega
    rcases Nat.lt_or_ge j n with hlt2 | hge2
    · obtain ⟨d2, hd2⟩ : ∃ d, s.ds[j]? = some d := ⟨_, List.getElem?_eq_getElem (by omega)⟩
      have hkd2 : kd s.ds j = d2.k := by rw [kd, hd2]; rfl
      have hlts2 : j < s.ds.length := by omega
      have hγ2' : (γ2 = none ∨ e2 = 161) = True := by simp only [hγ2]
      have hm2 : n - (j + 1) < n - j := by omega
      simp (maxSteps := 1000000) (disch := omega) only [push_cast, go_sem, zA, zB, zC, zD, zE, zF, simprocAttr, hd2, hlt2, hlts2, Do.V_eq, hγ2']
      intro g3
      cases h7 : (d2.k == 7)
      · have h7' : (d2.k != 7) = true := by simp [bne, h7]
        simp (maxSteps := 1000000) (disch := omega) only [push_cast, go_sem, zA, zB, zC, zD, zE, zF, simprocAttr, h7']
        refine hJ2 ⟨j + 1, e2, γ2, c2⟩ _ _ ⟨by dsimp only; omega, hγ2⟩ hm2 ?_
        have : chIn s.ds k (j + 1) = chIn s.ds k j := by simp only [chIn, hkd2, h7]; simp
        rw [this]
        (refine Less.start ?_; repeat (first | exact LessO.nil | exact LessO.all | refine LessO.skip (by decide) ?_ | refine LessO.upd ?_ ?_ | refine LessO.set ?_ ?_)) <;> (try simp (maxSteps := 1000000) (disch := omega) only [push_cast, go_sem, zA, zB, zC, zD, zE, zF, simprocAttr])
      have h7' : (d2.k != 7) = false := by simp [bne, h7]
      simp (maxSteps := 1000000) (disch := omega) only [push_cast, go_sem, zA, zB, zC, zD, zE, zF, simprocAttr, h7']
      refine callR.pure (hin j hlt2 (by rw [hkd2]; simpa using h7)) rfl rfl ?_
      simp (maxSteps := 1000000) (disch := omega) only [push_cast, go_sem, zA, zB, zC, zD, zE, zF, simprocAttr, hγ2']
      intro g4
      refine ⟨by omega, fun γ4 c4 _ => ?_⟩
      refine hJ2 ⟨j + 1, 161, γ4, c4⟩ _ _ ⟨by dsimp only; omega, .inr rfl⟩ hm2 ?_
      have : chIn s.ds k (j + 1) = chIn s.ds k j ++ [(k, j)] := by simp only [chIn, hkd2, h7]; rfl
      rw [this]
      (refine Less.start ?_; repeat (first | exact LessO.nil | exact LessO.all | refine LessO.skip (by decide) ?_ | refine LessO.upd ?_ ?_ | refine LessO.set ?_ ?_)) <;> (try simp (maxSteps := 1000000) (disch := omega) only [push_cast, go_sem, zA, zB, zC, zD, zE, zF, simprocAttr])
      all_goals simp [chE]
      all_goals omega
    · have : j = n := by omega
      subst this
      simp (maxSteps := 1000000) (disch := omega) only [push_cast, go_sem, zA, zB, zC, zD, zE, zF, simprocAttr]
      refine hJ ⟨k + 1, e2, γ2, c2⟩ _ _ ⟨by dsimp only; omega, hγ2⟩ hm ?_
      have : chOut s (k + 1) = chOut s k ++ chIn s.ds k j := by simp only [chOut, hkd, hla, h9, hl, hnn]; rfl
      rw [this]
      (refine Less.start ?_; repeat (first | exact LessO.nil | exact LessO.all | refine LessO.skip (by decide) ?_ | refine LessO.upd ?_ ?_ | refine LessO.set ?_ ?_)) <;> (try simp (maxSteps := 1000000) (disch := omega) only [push_cast, go_sem, zA, zB, zC, zD, zE, zF, simprocAttr])
  · have : k = n := by omega
    subst this
    simp (maxSteps := 1000000) (disch := omega) only [push_cast, go_sem, zA, zB, zC, zD, zE, zF, simprocAttr]
    refine Sat.freezeT (upd noT 3 (.sl ((chOut s k).map (chE out)))) noM 3 (e := e) (γ := γ) (cap := c) (es := (chOut s k).map (chE out)) rfl ?_ ?_
    · (refine Less.start ?_; repeat (first | exact LessO.nil | exact LessO.all | refine LessO.skip (by decide) ?_ | refine LessO.upd ?_ ?_ | refine LessO.set ?_ ?_)) <;> (try simp (maxSteps := 1000000) (disch := omega) only [push_cast, go_sem, zA, zB, zC, zD, zE, zF, simprocAttr])
    refine Sat.of (S := []) (by kernel_rfl) ?_
    simp (maxSteps := 1000000) (disch := omega) only [push_cast, go_sem, zA, zB, zC, zD, zE, zF, simprocAttr]
end Go.Proofs.YtfbgabkcjjahiaaGreatDoor
namespace Go.Proofs.YtfbgabkcjjahiaaGreatDoor
open Go.RowKit
set_option pp.maxSteps 3000

def wiR (R : Nat → Nat → Bool) (a b : Nat) : Nat → Nat → Bool := fun x y => R x y || (x == a && y == b)
def settleR (n : Nat) (out : Nat → Nat) : List (Nat × Nat) → (Nat → Nat → Bool) → Option (Nat → Nat → Bool)
  | [], R => if (lineE R n).isSome then some R else none
  | (e, i) :: l, R => if (lineE R n).isSome then (settleR n out l (wiR R (out i) e)).or (settleR n out l (wiR R (e - 1) i)) else none
def settleV (n : Nat) : Option (Nat → Nat → Bool) → V
  | some R => .tuple [bitsV (graphL R n), .bool true]
  | none => .tuple [.nilsl, .bool false]
theorem settle_no {n : Nat} {out : Nat → Nat} {l : List (Nat × Nat)} {R : Nat → Nat → Bool} (h : lineE R n = none) : settleR n out l R = none := by
  cases l with
  | nil => rw [settleR, h]; rfl
  | cons q l => obtain ⟨e, i⟩ := q; rw [settleR, h]; rfl
theorem graphL_wi {R : Nat → Nat → Bool} {n a b : Nat} (ha : a < n) (hb : b < n) : (graphL R n).set a (msk (R a) n ||| p2 b) = graphL (wiR R a b) n := by
  apply List.ext_getElem?
  intro i
  rw [List.getElem?_set, graphL_len, graphL, graphL, List.getElem?_map, List.getElem?_map]
  by_cases hi : i < n
  · rw [List.getElem?_range hi]
    by_cases h : a = i
    · subst h
      simp only [if_true, hi, Option.map_some, Option.some.injEq]
      apply bits_eq
      intro j
      rw [Nat.testBit_or, msk_bit, p2_bit, msk_bit, wiR]
      by_cases hj : j < n
      · simp [hj]
      · have hjb : (j == b) = false := by simp; omega
        simp [hj, hjb]
    · have h' : (i == a) = false := by simp; omega
      simp only [h, if_false, Option.map_some, Option.some.injEq]
      apply bits_eq
      intro j
      rw [msk_bit, msk_bit, wiR, h']
      simp
  · have : (List.range n)[i]? = none := by simp; omega
    rw [this]
    by_cases h : a = i
    · subst h; simp [hi]
    · simp [h]
theorem graphL_get {R : Nat → Nat → Bool} {n a : Nat} (ha : a < n) : (graphL R n)[a]? = some (msk (R a) n) := by
  rw [graphL, List.getElem?_map, List.getElem?_range ha]; rfl
theorem lineR_fn (R : Nat → Nat → Bool) (n : Nat) (hn : n ≤ 62) : Fp Tryz.prog 55 [bitsV (graphL R n)] (lineV (lineE R n)) := by
  have h := line_fn (graphL R n) (by rw [graphL_len]; exact hn) (graphL_lt hn)
  rw [graphL_len, line_congr fun a b ha hb => graphL_rel ha hb] at h
  exact h
theorem chE_eq (out : Nat → Nat) {e e' i : Nat} (h : (e : Int) - 1 = (e' : Int)) : chE out (e, i) = .agg [.int .i64 (out i : Int), .int .i64 (e : Int), .int .i64 (e' : Int), .int .i64 (i : Int)] := by rw [← h]; rfl
theorem some_settle (n : Nat) (R : Nat → Nat → Bool) : settleV n (some R) = .tuple [.sl ((graphL R n).map bitE), .bool true] := rfl
theorem no_settle (n : Nat) : settleV n none = .tuple [.nilsl, .bool false] := rfl
theorem ok_line (l : List Nat) : lineV (some l) = .tuple [.sl (l.map natE), .bool true] := rfl
theorem no_line : lineV none = .tuple [.nilsl, .bool false] := rfl
theorem settle_fn (n : Nat) (hn : n ≤ 62) (out : Nat → Nat) : ∀ (l : List (Nat × Nat)) (R : Nat → Nat → Bool), l.length < 2 ^ 40 → (∀ q ∈ l, 1 ≤ q.1 ∧ q.1 < n ∧ q.2 < n ∧ out q.2 < n) →
    Fp Tryz.prog 97 [bitsV (graphL R n), .sl (l.map (chE out))] (settleV n (settleR n out l R)) := by
  intro l
  induction l with
  | nil =>
    intro R _ _
    refine Fp.nilT ?_
    refine Fc.start (S := []) Tryz.func97 Tryz.ntmps97 Tryz.results97 rfl (by decide) rfl (by kernel_rfl) ?_
    simp (maxSteps := 1000000) (disch := omega) only [push_cast, go_sem, zA, zB, zC, zD, zE, zF, simprocAttr, bitsV_eq]
    have hline := lineR_fn R n hn
    rw [bitsV_eq] at hline
    refine callR.pure hline rfl rfl ?_
    cases hl : lineE R n with
    | none =>
      simp (maxSteps := 1000000) (disch := omega) only [push_cast, go_sem, zA, zB, zC, zD, zE, zF, simprocAttr, no_line]
      right
      exact ⟨4, [], .bool false, rfl, by rw [settle_no hl]; rfl⟩
    | some ls =>
      simp (maxSteps := 1000000) (disch := omega) only [push_cast, go_sem, zA, zB, zC, zD, zE, zF, simprocAttr, ok_line]
      left
      rw [settleR, hl]; rfl
  | cons q l ih =>
    obtain ⟨e, i⟩ := q
    intro R hlen hq
    obtain ⟨he1, hen, hin, hon⟩ := hq (e, i) (List.mem_cons_self ..)
    simp only at he1 hen hin hon
    obtain ⟨e', hee⟩ : ∃ e', e = e' + 1 := ⟨e - 1, by omega⟩
    have he' : (e : Int) - 1 = (e' : Int) := by omega
    have he1' : e - 1 = e' := by omega
    have hen' : e' < n := by omega
    have hlen' : l.length < 2 ^ 40 := by simp only [List.length_cons] at hlen; omega
    have ihl := fun R' => ih R' hlen' fun q h => hq q (List.mem_cons_of_mem _ h)
    have hline := lineR_fn R n hn
    rw [bitsV_eq] at hline
    have hch := chE_eq (i := i) out he'
    rw [List.map_cons, hch]
    refine Fp.nilT ?_
    refine Fc.start (S := [11]) Tryz.func97 Tryz.ntmps97 Tryz.results97 rfl (by decide) rfl (by kernel_rfl) ?_
    simp (maxSteps := 1000000) (disch := omega) only [push_cast, go_sem, zA, zB, zC, zD, zE, zF, simprocAttr, bitsV_eq]
    refine callR.pure hline rfl rfl ?_
    cases hl : lineE R n with
    | none =>
      simp (maxSteps := 1000000) (disch := omega) only [push_cast, go_sem, zA, zB, zC, zD, zE, zF, simprocAttr, no_line]
      right
      exact ⟨4, [], .bool false, rfl, by rw [settle_no hl]; rfl⟩
    | some ls =>
      obtain ⟨r1, hr1⟩ : ∃ r, settleR n out l (wiR R (out i) e) = r := ⟨_, rfl⟩
      obtain ⟨r2, hr2⟩ : ∃ r, settleR n out l (wiR R e' i) = r := ⟨_, rfl⟩
      have hset : settleR n out ((e, i) :: l) R = r1.or r2 := by rw [settleR, hl, he1', hr1, hr2]; rfl
      rw [hset]
      have h1 := ihl (wiR R (out i) e)
      have h2 := ihl (wiR R e' i)
      rw [hr1, bitsV_eq] at h1
      rw [hr2, bitsV_eq] at h2
      have he0 : ((l.length : Int) + 1 == 0) = false := by simp; omega
      have hl0 : (0 : Int) < (l.length : Int) + 1 := by omega
      have hl1 : (1 : Int) ≤ (l.length : Int) + 1 := by omega
      have hall : ∀ x ∈ (V.agg [.int .i64 (out i : Int), .int .i64 (e : Int), .int .i64 (e' : Int), .int .i64 (i : Int)] :: l.map (chE out)), x.cells.length = 4 := by
        intro x hx
        rcases List.mem_cons.1 hx with rfl | hx
        · rfl
        · obtain ⟨q, _, rfl⟩ := List.mem_map.1 hx; rfl
      simp (maxSteps := 1000000) (disch := omega) only [push_cast, go_sem, zA, zB, zC, zD, zE, zF, simprocAttr, ok_line, he0, hl0]
      refine Sat.loop (σ := Nat) (fun k => upd (upd (upd (upd noT 0 (.sl ((graphL R n).map bitE))) 1 (.sl (.agg [.int .i64 (out i : Int), .int .i64 (e : Int), .int .i64 (e' : Int), .int .i64 (i : Int)] :: l.map (chE out)))) 26 (.agg [.int .i64 (out i : Int), .int .i64 (e : Int), .int .i64 (e' : Int), .int .i64 (i : Int)])) 27 (.int .i64 k)) (fun _ => noM)
        (fun k => k ≤ 2 ∧ (1 ≤ k → r1 = none) ∧ (2 ≤ k → r2 = none)) (fun k => 2 - k) 0 (by omega) ?_ ?_
      · (refine Less.start ?_; repeat (first | exact LessO.nil | exact LessO.all | refine LessO.skip (by decide) ?_ | refine LessO.upd ?_ ?_ | refine LessO.set ?_ ?_)) <;> (try simp (maxSteps := 1000000) (disch := omega) only [push_cast, go_sem, zA, zB, zC, zD, zE, zF, simprocAttr])
      rintro k ⟨hk, hk1, hk2⟩ J hJ
      refine Sat.of (S := [11]) (by kernel_rfl) ?_
      have hne : graphL R n ≠ [] := by
        intro h0
        have := graphL_len R n
        rw [h0] at this
        simp at this; omega
      have hgl := graphL_len R n
      have hcl := cloneB_fn (graphL R n) (by rw [hgl]; omega) hne
      rw [bitsV_eq, hgl] at hcl
      have hm64 : ∀ a, msk (R a) n < 2 ^ 64 := fun a => Nat.lt_of_lt_of_le (msk_lt _ n) (Nat.pow_le_pow_right (by decide) (by omega))
      have hpe : p2 e < 2 ^ 64 := p2_lt (by omega)
      have hpi : p2 i < 2 ^ 64 := p2_lt (by omega)
      have hdr : List.drop 1 (List.take ((l.length : Int) + 1).toNat (V.agg [.int .i64 (out i : Int), .int .i64 (e : Int), .int .i64 (e' : Int), .int .i64 (i : Int)] :: l.map (chE out))) = l.map (chE out) := by
        rw [show ((l.length : Int) + 1).toNat = l.length + 1 by omega, List.take_succ_cons, List.drop_succ_cons, List.drop_zero, List.take_of_length_le (by simp)]
      match k, hk with
      | 0, _ =>
        have hget := graphL_get (R := R) hon
        have hnx := hon
        simp (maxSteps := 1000000) (disch := omega) only [push_cast, go_sem, zA, zB, zC, zD, zE, zF, simprocAttr]
        intro g9
        refine callR.row hcl rfl rfl ?_
        intro γ cap
        simp (maxSteps := 1000000) (disch := omega) only [push_cast, go_sem, zA, zB, zC, zD, zE, zF, simprocAttr]
        refine Sat.someG (o := 10) (e := 128) (γ := γ) (cap := cap) (es := (graphL R n).map bitE) rfl (by simpa using hne) ?_
        rintro g10 rfl
        refine Sat.drawnE [] [] [2, 4, 6] (fun _ _ _ => none) (by kernel_rfl) (by kernel_rfl) ?_
        simp (maxSteps := 1000000) (disch := omega) only [push_cast, go_sem, zA, zB, zC, zD, zE, zF, simprocAttr, hget, hnx, bitE_eq, bin_shl64 (show e < 64 by omega), bin_or64 (hm64 (out i)) hpe]
        rw [modBits, graphL_wi hon hen]
        refine Sat.freezeT (upd (upd (upd (upd (upd noT 0 (.sl ((graphL R n).map bitE))) 1 (.sl (.agg [.int .i64 (out i : Int), .int .i64 (e : Int), .int .i64 (e' : Int), .int .i64 (i : Int)] :: l.map (chE out)))) 26 (.agg [.int .i64 (out i : Int), .int .i64 (e : Int), .int .i64 (e' : Int), .int .i64 (i : Int)])) 27 (.int .i64 0)) 10 (.sl ((graphL (wiR R (out i) e) n).map bitE))) noM 10 (e := 128) (γ := some g10) (cap := cap) (es := (graphL (wiR R (out i) e) n).map bitE) rfl ?_ ?_
        · (refine Less.start ?_; repeat (first | exact LessO.nil | exact LessO.all | refine LessO.skip (by decide) ?_ | refine LessO.upd ?_ ?_ | refine LessO.set ?_ ?_)) <;> (try simp (maxSteps := 1000000) (disch := omega) only [push_cast, go_sem, zA, zB, zC, zD, zE, zF, simprocAttr])
          rw [graphL_len]; simp
        refine Sat.of (S := []) (by kernel_rfl) ?_
        simp (maxSteps := 1000000) (disch := omega) only [push_cast, go_sem, zA, zB, zC, zD, zE, zF, simprocAttr]
        refine ⟨⟨hl1, Int.le_refl _, hall⟩, ?_⟩
        rw [hdr]
        refine callR.pure h1 rfl rfl ?_
        cases hr : r1 with
        | some r =>
          simp (maxSteps := 1000000) (disch := omega) only [push_cast, go_sem, zA, zB, zC, zD, zE, zF, simprocAttr, some_settle]
          left
          rfl
        | none =>
          simp (maxSteps := 1000000) (disch := omega) only [push_cast, go_sem, zA, zB, zC, zD, zE, zF, simprocAttr, no_settle]
          refine hJ 1 _ _ ⟨by omega, fun _ => hr, fun h => absurd h (by omega)⟩ (by omega) ?_
          (refine Less.start ?_; repeat (first | exact LessO.nil | exact LessO.all | refine LessO.skip (by decide) ?_ | refine LessO.upd ?_ ?_ | refine LessO.set ?_ ?_)) <;> (try simp (maxSteps := 1000000) (disch := omega) only [push_cast, go_sem, zA, zB, zC, zD, zE, zF, simprocAttr])
      | 1, _ =>
        have hget := graphL_get (R := R) hen'
        have hnx := hen'
        simp (maxSteps := 1000000) (disch := omega) only [push_cast, go_sem, zA, zB, zC, zD, zE, zF, simprocAttr]
        intro g9
        refine callR.row hcl rfl rfl ?_
        intro γ cap
        simp (maxSteps := 1000000) (disch := omega) only [push_cast, go_sem, zA, zB, zC, zD, zE, zF, simprocAttr]
        refine Sat.someG (o := 10) (e := 128) (γ := γ) (cap := cap) (es := (graphL R n).map bitE) rfl (by simpa using hne) ?_
        rintro g10 rfl
        refine Sat.drawnE [] [] [2, 4, 6] (fun _ _ _ => none) (by kernel_rfl) (by kernel_rfl) ?_
        simp (maxSteps := 1000000) (disch := omega) only [push_cast, go_sem, zA, zB, zC, zD, zE, zF, simprocAttr, hget, hnx, bitE_eq, bin_shl64 (show i < 64 by omega), bin_or64 (hm64 (e')) hpi]
        rw [modBits, graphL_wi hen' hin]
        refine Sat.freezeT (upd (upd (upd (upd (upd noT 0 (.sl ((graphL R n).map bitE))) 1 (.sl (.agg [.int .i64 (out i : Int), .int .i64 (e : Int), .int .i64 (e' : Int), .int .i64 (i : Int)] :: l.map (chE out)))) 26 (.agg [.int .i64 (out i : Int), .int .i64 (e : Int), .int .i64 (e' : Int), .int .i64 (i : Int)])) 27 (.int .i64 1)) 10 (.sl ((graphL (wiR R (e') i) n).map bitE))) noM 10 (e := 128) (γ := some g10) (cap := cap) (es := (graphL (wiR R (e') i) n).map bitE) rfl ?_ ?_
        · (refine Less.start ?_; repeat (first | exact LessO.nil | exact LessO.all | refine LessO.skip (by decide) ?_ | refine LessO.upd ?_ ?_ | refine LessO.set ?_ ?_)) <;> (try simp (maxSteps := 1000000) (disch := omega) only [push_cast, go_sem, zA, zB, zC, zD, zE, zF, simprocAttr])
          rw [graphL_len]; simp
        refine Sat.of (S := []) (by kernel_rfl) ?_
        simp (maxSteps := 1000000) (disch := omega) only [push_cast, go_sem, zA, zB, zC, zD, zE, zF, simprocAttr]
        refine ⟨⟨hl1, Int.le_refl _, hall⟩, ?_⟩
        rw [hdr]
        refine callR.pure h2 rfl rfl ?_
        have hr1' := hk1 (Nat.le_refl _)
        cases hr : r2 with
        | some r =>
          simp (maxSteps := 1000000) (disch := omega) only [push_cast, go_sem, zA, zB, zC, zD, zE, zF, simprocAttr, some_settle]
          left
          rw [hr1']; rfl
        | none =>
          simp (maxSteps := 1000000) (disch := omega) only [push_cast, go_sem, zA, zB, zC, zD, zE, zF, simprocAttr, no_settle]
          refine hJ 2 _ _ ⟨by omega, fun _ => hr1', fun _ => hr⟩ (by omega) ?_
          (refine Less.start ?_; repeat (first | exact LessO.nil | exact LessO.all | refine LessO.skip (by decide) ?_ | refine LessO.upd ?_ ?_ | refine LessO.set ?_ ?_)) <;> (try simp (maxSteps := 1000000) (disch := omega) only [push_cast, go_sem, zA, zB, zC, zD, zE, zF, simprocAttr])
      | 2, _ =>
        simp (maxSteps := 1000000) (disch := omega) only [push_cast, go_sem, zA, zB, zC, zD, zE, zF, simprocAttr]
        right
        exact ⟨4, [], .bool false, rfl, by rw [hk1 (by omega), hk2 (by omega)]; rfl⟩
end Go.Proofs.YtfbgabkcjjahiaaGreatDoor
namespace Go.Proofs.YtfbgabkcjjahiaaGreatDoor
open Go.RowKit
set_option pp.maxSteps 3000

def Evt.lt2 (e f : Evt) : Prop := e.t < f.t ∨ (e.t = f.t ∧ (e.s < f.s ∨ (e.s = f.s ∧ e.l = false ∧ f.l = true)))
theorem evThr_lt2 (t : Nat) (l : List Do) : ∀ k, (evThr t l k).Pairwise Evt.lt2
  | 0 => by simp [evThr]
  | k + 1 => by
    rw [evThr, List.pairwise_append]
    refine ⟨evThr_lt2 t l k, ?_, fun a ha b hb => ?_⟩
    · split
      · unfold evsOf
        split
        · simp [Evt.lt2]
        · simp
      · exact List.Pairwise.nil
    · obtain ⟨j, d, h1, _, h2, h3, _⟩ := mem_evThr ha
      split at hb
      · unfold evsOf at hb
        split at hb
        · simp at hb
          rcases hb with rfl | rfl <;> exact .inr ⟨h2, .inl (by simp only [h3]; omega)⟩
        · simp at hb
          subst hb
          exact .inr ⟨h2, .inl (by simp only [h3]; omega)⟩
      · cases hb
theorem evPro_lt2 (p : Prog) : ∀ i, (evPro p i).Pairwise Evt.lt2
  | 0 => by simp [evPro]
  | i + 1 => by
    rw [evPro, List.pairwise_append]
    refine ⟨evPro_lt2 p i, ?_, fun a ha b hb => ?_⟩
    · split
      · exact evThr_lt2 _ _ _
      · exact List.Pairwise.nil
    · have := evPro_t ha
      split at hb
      · rw [Evt.lt2, evThr_t hb]; exact .inl this
      · cases hb
theorem events_lt2 {p : Prog} {a b : Nat} {ea eb : Evt} (ha : (events p)[a]? = some ea) (hb : (events p)[b]? = some eb) (h : a < b) : ea.lt2 eb := by
  obtain ⟨ha1, ha2⟩ := List.getElem?_eq_some_iff.1 ha
  obtain ⟨hb1, hb2⟩ := List.getElem?_eq_some_iff.1 hb
  have := List.pairwise_iff_getElem.1 (evPro_lt2 p p.length) a b ha1 hb1 h
  rw [← ha2, ← hb2]; exact this
/-- One event stands once. -/
theorem events_inj {p : Prog} {a b : Nat} {e : Evt} (ha : (events p)[a]? = some e) (hb : (events p)[b]? = some e) : a = b := by
  have no : ∀ {a b : Nat}, (events p)[a]? = some e → (events p)[b]? = some e → ¬ a < b := by
    intro a b ha hb h
    have := events_lt2 ha hb h
    simp only [Evt.lt2] at this
    rcases this with h1 | ⟨_, h1 | ⟨_, h1, h2⟩⟩
    · omega
    · omega
    · rw [h1] at h2; cases h2
  have h1 := no ha hb
  have h2 := no hb ha
  omega
theorem evThr_late {t : Nat} {l : List Do} {d : Do} {j : Nat} (hd : l[j]? = some d) (h9 : d.k = 9) : ∀ {k : Nat}, j < k → (evThr t l k)[(evThr t l j).length + 1]? = some ⟨t, j, true⟩
  | 0, h => absurd h (by omega)
  | k + 1, h => by
    rcases Nat.lt_or_ge j k with hj | hj
    · have := evThr_late (t := t) hd h9 hj
      rw [evThr, List.getElem?_append_left (List.getElem?_eq_some_iff.1 this).1]
      exact this
    · have : j = k := by omega
      subst this
      rw [evThr, hd, List.getElem?_append_right (by omega)]
      have : (d.k == 9) = true := by simpa using h9
      simp [evsOf, this]
theorem events_late {p : Prog} {l : List Do} {d : Do} {i j : Nat} (hl : p[i]? = some l) (hd : l[j]? = some d) (h9 : d.k = 9) : (events p)[(evPro p i).length + (evThr i l j).length + 1]? = some ⟨i, j, true⟩ := by
  rw [Nat.add_assoc]
  exact evPro_at (List.getElem?_eq_some_iff.1 hl).1 hl (evThr_late hd h9 (List.getElem?_eq_some_iff.1 hd).1)
theorem wait_next {p : Prog} {w : Nat} (hw : w < (events p).length) (h9 : kd (scene p).ds w = 9) (hl : ltA (events p) w = false) : w + 1 < (events p).length ∧ kd (scene p).ds (w + 1) = 9 ∧ ltA (events p) (w + 1) = true := by
  obtain ⟨i, l, j, d, ha⟩ := At.of (List.getElem?_eq_getElem hw)
  have hd9 : d.k = 9 := by rw [← ha.kd]; exact h9
  have hm := At.mk' ha.pl ha.ld
  have hlt := events_late ha.pl ha.ld hd9
  have he : (events p)[w] = ⟨i, j, false⟩ := by
    have h1 := ha.t
    have h2 := ha.s
    rw [ltA, ha.ev] at hl
    cases hev : (events p)[w] with
    | mk t s l0 =>
      rw [hev] at h1 h2 hl
      simp only [Option.getD_some] at hl h1 h2
      rw [h1, h2, hl]
  have hwm : w = (evPro p i).length + (evThr i l j).length := events_inj (by rw [ha.ev, he]) hm.ev
  rw [← hwm] at hlt
  refine ⟨(List.getElem?_eq_some_iff.1 hlt).1, ?_, by rw [ltA, hlt]; rfl⟩
  have : (scene p).ds[w + 1]? = some d := by rw [scene_get hlt]; simp [stepAt, ha.pl, ha.ld]
  rw [kd, this]; exact hd9
theorem wait_prev {p : Prog} {e : Nat} (he : e < (events p).length) (hl : ltA (events p) e = true) : ∃ w, e = w + 1 ∧ kd (scene p).ds w = 9 ∧ ltA (events p) w = false := by
  obtain ⟨i, l, j, d, ha⟩ := At.of (List.getElem?_eq_getElem he)
  have hl' : (events p)[e].l = true := by rw [ltA, ha.ev] at hl; exact hl
  have hd9 : d.k = 9 := ha.late hl'
  have hm := At.mk' ha.pl ha.ld
  have hlt := events_late ha.pl ha.ld hd9
  have hee : (events p)[e] = ⟨i, j, true⟩ := by
    have h1 := ha.t
    have h2 := ha.s
    cases hev : (events p)[e] with
    | mk t s l0 =>
      rw [hev] at h1 h2 hl'
      simp only at hl' h1 h2
      rw [h1, h2, hl']
  have hwm : e = (evPro p i).length + (evThr i l j).length + 1 := events_inj (by rw [ha.ev, hee]) hlt
  exact ⟨_, hwm, by rw [hm.kd]; exact hd9, by rw [ltA, hm.ev]; rfl⟩
/-- The choices as the reference goes through them. -/
def chRef (p : Prog) : Nat → List (Nat × Nat)
  | 0 => []
  | w + 1 => chRef p w ++ (if kd (scene p).ds w == 9 && !ltA (events p) w then chIn (scene p).ds (w + 1) (scene p).ds.length else [])
theorem ch_step {p : Prog} : ∀ {k : Nat}, k + 1 ≤ (events p).length → chOut (scene p) (k + 1) = chRef p k
  | 0, h => by
    have h0 : ltA (events p) 0 = false := by
      cases hl : ltA (events p) 0
      · rfl
      · obtain ⟨w, h1, _⟩ := wait_prev (p := p) (e := 0) (by omega) hl
        omega
    simp [chOut, chRef, show (scene p).es = events p from rfl, h0]
  | k + 1, h => by
    rw [chOut, chRef, ch_step (by omega)]
    congr 1
    have e : (kd (scene p).ds (k + 1) == 9 && ltA (scene p).es (k + 1)) = (kd (scene p).ds k == 9 && !ltA (events p) k) := by
      rw [show (scene p).es = events p from rfl, Bool.eq_iff_iff, Bool.and_eq_true, Bool.and_eq_true, Bool.not_eq_true', beq_iff_eq, beq_iff_eq]
      constructor
      · rintro ⟨_, h2⟩
        obtain ⟨w, h3, h4, h5⟩ := wait_prev (by omega) h2
        have : w = k := by omega
        subst this
        exact ⟨h4, h5⟩
      · rintro ⟨h1, h2⟩
        exact (wait_next (by omega) h1 h2).2
    rw [e]
theorem ch_all (p : Prog) : chOut (scene p) (events p).length = chRef p (events p).length := by
  cases hn : (events p).length with
  | zero => rfl
  | succ n =>
    rw [ch_step (by omega), chRef]
    have : (kd (scene p).ds n == 9 && !ltA (events p) n) = false := by
      cases h : (kd (scene p).ds n == 9 && !ltA (events p) n)
      · rfl
      · rw [Bool.and_eq_true, Bool.not_eq_true', beq_iff_eq] at h
        have := (wait_next (by omega) h.1 h.2).1
        omega
    rw [this]; simp
theorem chIn_mem {ds : List Do} {e : Nat} {q : Nat × Nat} : ∀ {j : Nat}, q ∈ chIn ds e j → q.1 = e ∧ q.2 < j ∧ kd ds q.2 = 7
  | 0, h => by simp [chIn] at h
  | j + 1, h => by
    rw [chIn, List.mem_append] at h
    rcases h with h | h
    · obtain ⟨h1, h2, h3⟩ := chIn_mem h
      exact ⟨h1, by omega, h3⟩
    · split at h
      · rename_i h7
        obtain rfl := List.mem_singleton.1 h
        exact ⟨rfl, by simp, by simpa using h7⟩
      · cases h
theorem chRef_mem {p : Prog} {q : Nat × Nat} : ∀ {k : Nat}, q ∈ chRef p k → k ≤ (events p).length → 1 ≤ q.1 ∧ q.1 < (events p).length ∧ q.2 < (events p).length ∧ kd (scene p).ds q.2 = 7
  | 0, h, _ => by simp [chRef] at h
  | k + 1, h, hk => by
    rw [chRef, List.mem_append] at h
    rcases h with h | h
    · exact chRef_mem h (by omega)
    · split at h
      · rename_i h9
        rw [Bool.and_eq_true, Bool.not_eq_true', beq_iff_eq] at h9
        obtain ⟨h1, h2, h3⟩ := chIn_mem h
        have := (wait_next (by omega) h9.1 h9.2).1
        have hsl : (scene p).ds.length = (events p).length := by simp [scene]
        exact ⟨by omega, by omega, by omega, h3⟩
      · cases h
/-- Where a reader goes out. -/
def outA (p : Prog) (i : Nat) : Nat := ((List.range (events p).length).find? fun k => decide (i < k) && ownB (events p) i k && kd (scene p).ds k == 8).getD 0
theorem outA_eq {p : Prog} {i t : Nat} (h : Quiet p i t) (h8 : kd (scene p).ds t = 8) : (List.range (events p).length).find? (fun k => decide (i < k) && ownB (events p) i k && kd (scene p).ds k == 8) = some t := by
  refine find_some h.tl ?_ fun j hj => ?_
  · have := h.same
    simp only [th] at this
    simp [h.lt, h8, ownB, this]
  · by_cases hij : i < j
    · have := (h.no j hij hj).2.1
      simp [this]
    · simp [hij]
theorem outA_spec {p : Prog} (h : progOk p = true) {i : Nat} (hi : i < (events p).length) (h7 : kd (scene p).ds i = 7) : Quiet p i (outA p i) ∧ kd (scene p).ds (outA p i) = 8 := by
  obtain ⟨t, h1, h2⟩ := in_out h hi h7
  have : outA p i = t := by rw [outA, outA_eq h1 h2]; rfl
  rw [this]; exact ⟨h1, h2⟩
/-- The net of an order with all that is added; none if it does not hold. -/
def settledS (p : Prog) (x : Exe) (kind : Int) : Option (Nat → Nat → Bool) :=
  if (lineE (netR p x 0) (events p).length).isSome then settleR (events p).length (outA p) (chRef p (events p).length) (netR p x kind) else none
end Go.Proofs.YtfbgabkcjjahiaaGreatDoor
namespace Go.Proofs.YtfbgabkcjjahiaaGreatDoor
open Go.RowKit
set_option pp.maxSteps 3000

theorem insideA_fn {p : Prog} (h : progOk p = true) (i : Nat) (hi : i < (scene p).ds.length) (h7 : kd (scene p).ds i = 7) :
    Fp Tryz.prog 135 [(scene p).V, .int .i64 i] (.tuple [.int .i64 i, .int .i64 (outA p i), .bool true]) := by
  have hsl : (scene p).ds.length = (events p).length := by simp [scene]
  have hel := events_le h
  obtain ⟨h1, h2⟩ := outA_spec h (by omega) h7
  have hbk : bkI (scene p).es (scene p).ds i i = some i := by
    cases i with
    | zero => rw [bkI, h7]; rfl
    | succ i => rw [bkI, h7]; rfl
  have := inside_fn (scene p) i (outA p i) hi (by omega) (scene_len p) (fun f hf => by rw [hbk] at hf; cases hf; exact h1.out h7 h2)
  rw [hbk, insR] at this
  have hle : decide (i ≤ outA p i) = true := by have := h1.lt; simp; omega
  rw [hle] at this
  exact this
theorem settled_fn (p : Prog) (x : Exe) (kind : Int) (hw : Way p x) (hx : x.small) (hk : inB kind 1 3 = true) :
    Fp Tryz.prog 52 [(scene p).V, x.V, .int .i64 kind] (settleV (events p).length (settledS p x kind)) := by
  have hpk := hw.ok
  have hel := events_le hpk
  have hsl : (scene p).ds.length = (events p).length := by simp [scene]
  have hes : (scene p).es = events p := rfl
  obtain ⟨n, hnn⟩ : ∃ n, (events p).length = n := ⟨_, rfl⟩
  have hg1 := graphOf_fn (scene p) (by rw [hes]; omega) 92 [.eptr (scC (scene p)), .eptr (exC x)] (netR p x 0) rfl (Nat.le_of_ble_eq_true rfl) (fun a b ha hb => set1_fn p x a b hw hx ha hb)
  have hg2 := graphOf_fn (scene p) (by rw [hes]; omega) 95 [.eptr (scC (scene p)), .eptr (exC x), .eptr [.int .i64 kind]] (netR p x kind) rfl (Nat.le_of_ble_eq_true rfl) (fun a b ha hb => set2_fn p x kind a b hw hx hk ha hb)
  have hch := choices_fn (scene p) (by omega) (scene_len p) (outA p) (fun i hi h7 => insideA_fn hpk i hi h7)
  have hlen := chOut_le (scene p) (by omega) (scene p).ds.length
  rw [hsl, ch_all] at hch hlen
  have hset := settle_fn (events p).length (by omega) (outA p) (chRef p (events p).length) (netR p x kind) (by omega) (fun q hq => by
    obtain ⟨q1, q2, q3, q4⟩ := chRef_mem hq (Nat.le_refl _)
    exact ⟨q1, q2, q3, (outA_spec hpk q3 q4).1.tl⟩)
  have hl := lineR_fn (netR p x 0) (events p).length (by omega)
  rw [settledS]
  rw [hes, Sc.V_eq, scC_eq, exC_eq] at hg1 hg2
  rw [Sc.V_eq] at hch
  rw [hnn] at hel hg1 hg2 hch hlen hset hl ⊢
  rw [bitsV_eq] at hg1 hg2 hset hl
  refine Fp.nilT ?_
  refine Fc.start (S := [1]) Tryz.func52 Tryz.ntmps52 Tryz.results52 rfl (by decide) rfl (by kernel_rfl) ?_
  simp (maxSteps := 1000000) (disch := omega) only [push_cast, go_sem, zA, zB, zC, zD, zE, zF, simprocAttr, Sc.V_eq, Exe.V_eq]
  intro g3 g4 g5
  refine Sat.fixP (o := 3) (g := g3) (e := 74) (cap := 1) (es := [.agg [.sl ((scene p).p.map thrV), .sl ((scene p).es.map Evt.V), .sl ((scene p).ds.map Do.V)]]) (T := upd (upd (upd noT 3 (.eptr [.sl ((scene p).p.map thrV), .sl ((scene p).es.map Evt.V), .sl ((scene p).ds.map Do.V)])) 4 (.ptr 4 [] 0 0 g4 2)) 5 (.ptr 5 [] 0 0 g5 1)) rfl ?_ ?_
  · exact Fx.upd (Fx.upd (Fx.ptr Fx.nil rfl rfl (by kernel_rfl) rfl) rfl) rfl
  refine Sat.fixP (o := 4) (g := g4) (e := 33) (cap := 1) (es := [.agg [.sl (x.fr.map (V.int .i64)), .sl (x.od.map intsV)]]) (T := upd (upd (upd noT 3 (.eptr [.sl ((scene p).p.map thrV), .sl ((scene p).es.map Evt.V), .sl ((scene p).ds.map Do.V)])) 4 (.eptr [.sl (x.fr.map (V.int .i64)), .sl (x.od.map intsV)])) 5 (.ptr 5 [] 0 0 g5 1)) rfl ?_ ?_
  · exact Fx.upd (Fx.ptr (Fx.upd Fx.nil rfl) rfl rfl (by kernel_rfl) rfl) rfl
  refine Sat.fixP (o := 5) (g := g5) (e := 3) (cap := 1) (es := [.int .i64 kind]) (T := upd (upd (upd noT 3 (.eptr [.sl ((scene p).p.map thrV), .sl ((scene p).es.map Evt.V), .sl ((scene p).ds.map Do.V)])) 4 (.eptr [.sl (x.fr.map (V.int .i64)), .sl (x.od.map intsV)])) 5 (.eptr [.int .i64 kind])) rfl ?_ ?_
  · exact Fx.ptr (Fx.upd (Fx.upd Fx.nil rfl) rfl) rfl rfl (by kernel_rfl) rfl
  refine Sat.of (S := []) (by kernel_rfl) ?_
  simp (maxSteps := 1000000) (disch := omega) only [push_cast, go_sem, zA, zB, zC, zD, zE, zF, simprocAttr]
  refine callR.pure hg1 rfl rfl ?_
  simp (maxSteps := 1000000) (disch := omega) only [push_cast, go_sem, zA, zB, zC, zD, zE, zF, simprocAttr]
  refine callR.pure hl rfl rfl ?_
  cases hl0 : lineE (netR p x 0) n with
  | none =>
    simp (maxSteps := 1000000) (disch := omega) only [push_cast, go_sem, zA, zB, zC, zD, zE, zF, simprocAttr, no_line]
    right
    exact ⟨6, [], .bool false, rfl, rfl⟩
  | some ls =>
    simp (maxSteps := 1000000) (disch := omega) only [push_cast, go_sem, zA, zB, zC, zD, zE, zF, simprocAttr, ok_line]
    cases hr : settleR n (outA p) (chRef p n) (netR p x kind) with
    | none =>
      rw [hr, no_settle] at hset
      refine Sat.drawnE [] [] [0, 2, 3, 4, 5] (pureT [(91, .sl ((graphL (netR p x kind) n).map bitE)), (98, .sl ((chRef p n).map (chE (outA p)))), (97, .tuple [.nilsl, .bool false])]) (by kernel_rfl) (by kernel_rfl) ?_
      simp (maxSteps := 1000000) (disch := omega) only [push_cast, go_sem, zA, zB, zC, zD, zE, zF, simprocAttr]
      refine runD_pure rfl hg2 rfl rfl ?_ ?_
      · rfl
      simp (maxSteps := 1000000) (disch := omega) only [push_cast, go_sem, zA, zB, zC, zD, zE, zF, simprocAttr]
      refine runD_pure rfl hch rfl rfl ?_ ?_
      · rfl
      simp (maxSteps := 1000000) (disch := omega) only [push_cast, go_sem, zA, zB, zC, zD, zE, zF, simprocAttr]
      refine runD_pure rfl hset rfl rfl ?_ ?_
      · rfl
      simp (maxSteps := 1000000) (disch := omega) only [push_cast, go_sem, zA, zB, zC, zD, zE, zF, simprocAttr]
      right
      exact ⟨6, [], .bool false, rfl, rfl⟩
    | some r =>
      rw [hr, some_settle] at hset
      refine Sat.drawnE [] [] [0, 2, 3, 4, 5] (pureT [(91, .sl ((graphL (netR p x kind) n).map bitE)), (98, .sl ((chRef p n).map (chE (outA p)))), (97, .tuple [.sl ((graphL r n).map bitE), .bool true])]) (by kernel_rfl) (by kernel_rfl) ?_
      simp (maxSteps := 1000000) (disch := omega) only [push_cast, go_sem, zA, zB, zC, zD, zE, zF, simprocAttr]
      refine runD_pure rfl hg2 rfl rfl ?_ ?_
      · rfl
      simp (maxSteps := 1000000) (disch := omega) only [push_cast, go_sem, zA, zB, zC, zD, zE, zF, simprocAttr]
      refine runD_pure rfl hch rfl rfl ?_ ?_
      · rfl
      simp (maxSteps := 1000000) (disch := omega) only [push_cast, go_sem, zA, zB, zC, zD, zE, zF, simprocAttr]
      refine runD_pure rfl hset rfl rfl ?_ ?_
      · rfl
      simp (maxSteps := 1000000) (disch := omega) only [push_cast, go_sem, zA, zB, zC, zD, zE, zF, simprocAttr]
      left
      rfl
def holdsS (p : Prog) (x : Exe) (kind : Int) : Bool := specOk p x && inB kind 1 3 && (settledS p x kind).isSome
theorem implOrderHolds_fn (p : Prog) (x : Exe) (kind : Int) (hp : p.length < 2 ^ 40) (hl : ∀ l ∈ p, l.length < 2 ^ 40) (hx : x.small) : Fp Tryz.prog 21 [progV p, x.V, .int .i64 kind] (.bool (holdsS p x kind)) := by
  have h1 := implExecOk_fn p x hp hl hx
  rw [ok_eq] at h1
  unfold holdsS
  refine Fc.start (S := []) Tryz.func21 Tryz.ntmps21 Tryz.results21 rfl (by decide) rfl (by kernel_rfl) ?_
  simp (maxSteps := 1000000) (disch := omega) only [push_cast, go_sem, zA, zB, zC, zD, zE, zF, simprocAttr, progV_eq, Exe.V_eq]
  intro g3 g4
  refine callR.pure h1 rfl rfl ?_
  cases hok : specOk p x
  · simp (maxSteps := 1000000) (disch := omega) only [push_cast, go_sem, zA, zB, zC, zD, zE, zF, simprocAttr]
  have hw : Way p x := Way.of (by rw [ok_eq]; exact hok)
  have hpk := hw.ok
  simp (maxSteps := 1000000) (disch := omega) only [push_cast, go_sem, zA, zB, zC, zD, zE, zF, simprocAttr]
  refine callR.pure (isOrd_fn kind) rfl rfl ?_
  cases hk : inB kind 1 3
  · simp (maxSteps := 1000000) (disch := omega) only [push_cast, go_sem, zA, zB, zC, zD, zE, zF, simprocAttr]
  have hs := settled_fn p x kind hw hx hk
  have hsc := sceneOf_fn p hpk
  rw [Exe.V_eq] at hs
  rw [Sc.V_eq] at hs hsc
  cases hr : settledS p x kind with
  | none =>
    rw [hr, no_settle] at hs
    simp (maxSteps := 1000000) (disch := omega) only [push_cast, go_sem, zA, zB, zC, zD, zE, zF, simprocAttr]
    refine Sat.drawnE [] [] [0, 1, 2, 4] (pureT [(48, (.agg [.sl ((scene p).p.map thrV), .sl ((scene p).es.map Evt.V), .sl ((scene p).ds.map Do.V)])), (52, .tuple [.nilsl, .bool false])]) (by kernel_rfl) (by kernel_rfl) ?_
    simp (maxSteps := 1000000) (disch := omega) only [push_cast, go_sem, zA, zB, zC, zD, zE, zF, simprocAttr]
    refine runD_pure rfl hsc rfl rfl ?_ ?_
    · rfl
    simp (maxSteps := 1000000) (disch := omega) only [push_cast, go_sem, zA, zB, zC, zD, zE, zF, simprocAttr]
    refine runD_pure rfl hs rfl rfl ?_ ?_
    · rfl
    simp (maxSteps := 1000000) (disch := omega) only [push_cast, go_sem, zA, zB, zC, zD, zE, zF, simprocAttr]
  | some r =>
    rw [hr, some_settle] at hs
    simp (maxSteps := 1000000) (disch := omega) only [push_cast, go_sem, zA, zB, zC, zD, zE, zF, simprocAttr]
    refine Sat.drawnE [] [] [0, 1, 2, 4] (pureT [(48, (.agg [.sl ((scene p).p.map thrV), .sl ((scene p).es.map Evt.V), .sl ((scene p).ds.map Do.V)])), (52, .tuple [.sl ((graphL r (events p).length).map bitE), .bool true])]) (by kernel_rfl) (by kernel_rfl) ?_
    simp (maxSteps := 1000000) (disch := omega) only [push_cast, go_sem, zA, zB, zC, zD, zE, zF, simprocAttr]
    refine runD_pure rfl hsc rfl rfl ?_ ?_
    · rfl
    simp (maxSteps := 1000000) (disch := omega) only [push_cast, go_sem, zA, zB, zC, zD, zE, zF, simprocAttr]
    refine runD_pure rfl hs rfl rfl ?_ ?_
    · rfl
    simp (maxSteps := 1000000) (disch := omega) only [push_cast, go_sem, zA, zB, zC, zD, zE, zF, simprocAttr]
end Go.Proofs.YtfbgabkcjjahiaaGreatDoor
namespace Go.Proofs.YtfbgabkcjjahiaaGreatDoor
open Go.RowKit

/-! ### whom events read from -/
theorem fromsK_at {ds : List Do} : ∀ {k : Nat} {r : List Int}, k ≤ ds.length → r ∈ fromsK ds k → r.length = k
  | 0, r, _, h => by simp [fromsK] at h; subst h; rfl
  | k + 1, r, hk, h => by
    rw [fromsK, List.getElem?_eq_getElem (show k < ds.length by omega)] at h
    simp only [List.mem_flatMap, List.mem_map] at h
    obtain ⟨h0, h1, c, _, rfl⟩ := h
    have := fromsK_at (by omega) h1
    simp; omega
theorem fromsK_in {ds : List Do} : ∀ {k : Nat} {r : List Int}, k ≤ ds.length → r ∈ fromsK ds k → ∀ (i : Nat) d (z : Int), ds[i]? = some d → r[i]? = some z → z ∈ choicesOf ds d
  | 0, r, _, h, i, d, z, hd, hz => by simp [fromsK] at h; subst h; simp at hz
  | k + 1, r, hk, h, i, d, z, hd, hz => by
    have hdk : ds[k]? = some ds[k] := List.getElem?_eq_getElem (by omega)
    rw [fromsK, hdk] at h
    simp only [List.mem_flatMap, List.mem_map] at h
    obtain ⟨h0, h1, c, hc, rfl⟩ := h
    have hl := fromsK_at (by omega) h1
    rcases Nat.lt_or_ge i h0.length with hi | hi
    · rw [List.getElem?_append_left hi] at hz
      exact fromsK_in (by omega) h1 i d z hd hz
    · rw [List.getElem?_append_right hi] at hz
      have : i = k := by
        have := (List.getElem?_eq_some_iff.1 hz).1
        simp at this; omega
      subst this
      rw [hl, Nat.sub_self] at hz
      simp at hz; subst hz
      rw [hd] at hdk; cases hdk
      exact hc
theorem froms_step (ds : List Do) : ∀ k, k ≤ ds.length → (fromsK ds k).flatMap (compl ds (ds.length - k)) = compl ds ds.length []
  | 0, _ => by simp [fromsK]
  | k + 1, hk => by
    rw [← froms_step ds k (by omega)]
    have hdk : ds[k]? = some ds[k] := List.getElem?_eq_getElem (by omega)
    rw [fromsK, hdk]
    simp only [List.flatMap_assoc]
    rw [show ds.length - k = (ds.length - (k + 1)) + 1 by omega]
    rw [List.flatMap_def, List.flatMap_def]
    congr 1
    refine List.map_congr_left fun h hh => ?_
    have hl := fromsK_at (by omega) hh
    rw [compl, hl, hdk]
    simp only [List.flatMap_map]
theorem froms_eq (ds : List Do) : fromsOf ds = compl ds ds.length [] := by
  have := froms_step ds ds.length (Nat.le_refl _)
  rw [Nat.sub_self] at this
  rw [← this, fromsOf]
  have e : compl ds 0 = fun fr => [fr] := by funext fr; rfl
  rw [e]
  simp

/-! ### orders of what is written -/
theorem flat_filter {α β : Type} {p : α → Bool} {F : α → List β} : ∀ l : List α, (l.flatMap fun z => if p z then [] else F z) = (l.filter fun z => !p z).flatMap F
  | [] => rfl
  | a :: l => by
    rw [List.flatMap_cons, List.filter_cons, flat_filter l]
    cases h : p a <;> simp
theorem filter_erase : ∀ {l : List Int} {i : Nat} (h : i < l.length), l.Nodup → (l.filter fun z => !(z == l[i])) = l.eraseIdx i
  | a :: l, 0, _, hn => by
    rw [List.nodup_cons] at hn
    rw [List.getElem_cons_zero, List.filter_cons, List.eraseIdx_cons_zero]
    simp only [beq_self_eq_true, Bool.not_true, Bool.false_eq_true, if_false]
    rw [List.filter_eq_self]
    intro z hz
    have : z ≠ a := fun e => hn.1 (e ▸ hz)
    simpa using this
  | a :: l, i + 1, h, hn => by
    rw [List.nodup_cons] at hn
    rw [List.getElem_cons_succ, List.filter_cons, List.eraseIdx_cons_succ]
    have : a ≠ l[i]'(by simpa using h) := fun e => hn.1 (e ▸ List.getElem_mem _)
    have e : (!(a == l[i]'(by simpa using h))) = true := by simpa using this
    rw [e, if_pos rfl, filter_erase (by simpa using h) hn.2]
theorem range_getD (l : List Int) : l = (List.range l.length).map fun i => l.getD i 0 := by
  apply List.ext_getElem?
  intro i
  rw [List.getElem?_map]
  rcases Nat.lt_or_ge i l.length with h | h
  · rw [List.getElem?_range h, List.getElem?_eq_getElem h]; simp [List.getD, h]
  · rw [List.getElem?_eq_none h, List.getElem?_eq_none (by simpa using h)]; rfl
theorem rows_perms {l : List Int} (hn : l.Nodup) : ∀ (j : Nat) (h : List Int), (l.filter fun z => !h.contains z).length = j → rowsR l j h = (perms j (l.filter fun z => !h.contains z)).map (h ++ ·)
  | 0, h, _ => by simp [rowsR, perms]
  | j + 1, h, hl => by
    rw [rowsR, flat_filter]
    obtain ⟨rest, hr⟩ : ∃ rest, (l.filter fun z => !h.contains z) = rest := ⟨_, rfl⟩
    have hnr : rest.Nodup := by rw [← hr]; exact hn.filter _
    rw [hr] at hl ⊢
    rw [perms, List.map_flatMap]
    conv => lhs; rw [range_getD rest]
    rw [List.flatMap_map, List.flatMap_def, List.flatMap_def]
    congr 1
    refine List.map_congr_left fun i hi => ?_
    rw [List.mem_range] at hi
    have hg : rest.getD i 0 = rest[i] := by simp [List.getD, hi]
    have fe := filter_erase hi hnr
    obtain ⟨x, hx⟩ : ∃ x, rest[i] = x := ⟨_, rfl⟩
    rw [hx] at hg fe
    rw [hg]
    have he : (l.filter fun z => !(h ++ [x]).contains z) = rest.eraseIdx i := by
      rw [← fe, ← hr, List.filter_filter]
      refine List.filter_congr fun z hz => ?_
      rw [List.contains_append]
      have e : [x].contains z = (z == x) := by rw [Bool.eq_iff_iff]; simp
      rw [e]
      cases h.contains z <;> cases (z == x) <;> rfl
    have ih := rows_perms hn j (h ++ [x]) (by rw [he, List.length_eraseIdx_of_lt hi]; omega)
    rw [he] at ih
    rw [ih, List.map_map]
    refine List.map_congr_left fun r _ => by simp
theorem perms_rows {l : List Int} (hn : l.Nodup) : permsOf l = rowsR l l.length [] := by
  have e : (l.filter fun z => !([] : List Int).contains z) = l := by rw [List.filter_eq_self]; simp
  have := rows_perms hn l.length [] (by rw [e])
  rw [this, e, permsOf]
  simp
theorem orders_eq (ds : List Do) : ∀ k, ordersK ds k = ordersSK ds k
  | 0 => rfl
  | k + 1 => by rw [ordersK, ordersSK, orders_eq ds k, perms_rows (writers_nodup _ _)]

/-! ### ways -/
theorem perms_has : ∀ {n : Nat} {l row : List Int}, l.length = n → row ∈ perms n l → ∀ z ∈ l, z ∈ row
  | 0, l, row, hl, _, z, hz => by
    have : l = [] := List.eq_nil_of_length_eq_zero hl
    subst this; cases hz
  | n + 1, l, row, hl, h, z, hz => by
    simp only [perms, List.mem_flatMap, List.mem_range, List.mem_map] at h
    obtain ⟨i, hi, r, hr, rfl⟩ := h
    obtain ⟨j, hj⟩ := List.getElem?_of_mem hz
    by_cases hji : j = i
    · subst hji
      have : l.getD j 0 = z := by simp [List.getD, hj]
      rw [this]; exact List.mem_cons_self
    · refine List.mem_cons_of_mem _ (perms_has (by rw [List.length_eraseIdx_of_lt hi]; omega) hr z ?_)
      rw [List.mem_eraseIdx_iff_getElem?]
      exact ⟨j, hji, hj⟩
theorem odOk_of {ds : List Do} {k : Nat} {row : List Int} (h : row ∈ permsOf (writersOf ds k)) : odOk ds (row, k) = true := by
  rw [odOk, sorted_eq (writers_pw _ _) (writers_nodup _ _), Bool.and_eq_true, beq_iff_eq, List.all_eq_true]
  exact ⟨(perms_row rfl h).symm, fun z hz => List.contains_iff_mem.2 (perms_has rfl h z hz)⟩
theorem ordersK_at {ds : List Do} : ∀ {k : Nat} {r : List (List Int)}, r ∈ ordersK ds k → ∀ (i : Nat) row, r[i]? = some row → row ∈ permsOf (writersOf ds i)
  | 0, r, h, i, row, hr => by simp [ordersK] at h; subst h; simp at hr
  | k + 1, r, h, i, row, hr => by
    simp only [ordersK, List.mem_flatMap, List.mem_map] at h
    obtain ⟨h0, h1, c, hc, rfl⟩ := h
    have hl := ordersK_row h1
    rcases Nat.lt_or_ge i h0.length with hi | hi
    · rw [List.getElem?_append_left hi] at hr
      exact ordersK_at h1 i row hr
    · rw [List.getElem?_append_right hi] at hr
      have : i = k := by
        have := (List.getElem?_eq_some_iff.1 hr).1
        simp at this; omega
      subst this
      rw [hl, Nat.sub_self] at hr
      simp at hr; subst hr
      exact hc
theorem fits_of {p : Prog} {f : List Int} {o : List (List Int)} (hf : f ∈ fromsOf (scene p).ds) (ho : o ∈ ordersOf (scene p).ds) : fits (scene p) ⟨f, o⟩ = true := by
  have hsl : (scene p).ds.length = (events p).length := by simp [scene]
  have hes : (scene p).es = events p := rfl
  have hl := fromsK_at (Nat.le_refl _) hf
  have hol := ordersK_row ho
  simp only [fits, Bool.and_eq_true, decide_eq_true_eq, List.all_eq_true]
  refine ⟨⟨⟨by rw [hes]; omega, hol⟩, ?_⟩, ?_⟩
  · rintro ⟨d, z⟩ hq
    obtain ⟨i, hi⟩ := List.getElem?_of_mem hq
    rw [List.getElem?_zip_eq_some] at hi
    have := fromsK_in (Nat.le_refl _) hf i d z hi.1 hi.2
    unfold choicesOf at this
    rw [frOk]
    cases hr : d.reads
    · rw [hr] at this
      simpa using this
    · rw [hr] at this
      simp only [if_true, List.mem_cons] at this
      simp only [if_true, Bool.or_eq_true, beq_iff_eq, List.contains_iff_mem]
      exact this
  · rintro ⟨row, k⟩ hq
    obtain ⟨i, hi⟩ := List.getElem?_of_mem hq
    simp only [List.getElem?_zipIdx, Option.map_eq_some_iff, Prod.mk.injEq, Nat.zero_add] at hi
    obtain ⟨r', hr, rfl, rfl⟩ := hi
    exact odOk_of (ordersK_at ho i r' hr)
theorem one_eq {p : Prog} (hok : progOk p = true) {f : List Int} {o : List (List Int)} (hf : f ∈ fromsOf (scene p).ds) (ho : o ∈ ordersOf (scene p).ds) : oneOf (scene p) f o = oneS p f o := by
  have h1 := fits_of hf ho
  have h2 := ok_eq p ⟨f, o⟩
  rw [execOk, specOk, hok, Bool.true_and, Bool.true_and, ← fits_form hok, h1, Bool.true_and] at h2
  rw [oneOf, oneS, h2]
theorem flat_congr {α β : Type} {f g : α → List β} {l : List α} (h : ∀ a ∈ l, f a = g a) : l.flatMap f = l.flatMap g := by
  rw [List.flatMap_def, List.flatMap_def, List.map_congr_left h]
theorem all_eq (p : Prog) : execAll p = specAll p := by
  unfold execAll specAll
  cases hok : progOk p
  · rfl
  rw [if_pos rfl, if_pos rfl]
  have hsl : (scene p).ds.length = (events p).length := by simp [scene]
  have e1 := froms_eq (scene p).ds
  rw [hsl] at e1
  have e2 := orders_eq (scene p).ds 3
  rw [allOf, allS, ← e1, ← e2]
  exact flat_congr fun f hf => flat_congr fun o ho => one_eq hok hf ho
end Go.Proofs.YtfbgabkcjjahiaaGreatDoor
namespace Go.Proofs.YtfbgabkcjjahiaaGreatDoor
open Go.RowKit
set_option pp.maxSteps 3000

theorem fz_own0 : (V.own 0 none 0 []).fz = .sl [] := by simp only [V.fz, fzs_map, List.map_nil]
def exSeenV (p : Prog) (x : Exe) : V := .tuple [(if execOk p x then seenF p x else ⟨[], []⟩).V, .bool (execOk p x)]
theorem implExecSeen_fn (p : Prog) (x : Exe) (hp : p.length < 2 ^ 40) (hl : ∀ l ∈ p, l.length < 2 ^ 40) (hx : x.small) : Fp Tryz.prog 19 [progV p, x.V] (exSeenV p x) := by
  have h1 := implExecOk_fn p x hp hl hx
  rw [exSeenV]
  refine Fc.start (S := [2]) Tryz.func19 Tryz.ntmps19 Tryz.results19 rfl (by decide) rfl (by kernel_rfl) ?_
  simp (maxSteps := 1000000) (disch := omega) only [push_cast, go_sem, zA, zB, zC, zD, zE, zF, simprocAttr, progV_eq, Exe.V_eq]
  intro g2 g3 g4
  refine callR.pure h1 rfl rfl ?_
  cases h : execOk p x
  · simp (maxSteps := 1000000) (disch := omega) only [push_cast, go_sem, zA, zB, zC, zD, zE, zF, simprocAttr]
    refine Sat.cutS (upd (upd noT 4 (.ptr 4 [] 0 0 g4 2)) 5 (.bool false)) (noM.set 4 (.own 28 (some g4) 1 [.agg [.own 0 none 0 [], .own 0 none 0 []]])) (Sat.of (S := []) (by kernel_rfl) ?_) ?_
    · simp (maxSteps := 1000000) (disch := omega) only [push_cast, go_sem, zA, zB, zC, zD, zE, zF, simprocAttr]
      (refine Less.start ?_; repeat (first | exact LessO.nil | exact LessO.all | refine LessO.skip (by decide) ?_ | refine LessO.upd ?_ ?_ | refine LessO.set ?_ ?_)) <;> (try simp (maxSteps := 1000000) (disch := omega) only [push_cast, go_sem, zA, zB, zC, zD, zE, zF, simprocAttr])
    refine Sat.freezeC 4 [] 0 0 (n0 := .own 28 (some g4) 1 [.agg [.own 0 none 0 [], .own 0 none 0 []]]) (d := .own 0 none 0 []) ?_ rfl rfl ?_
    · rfl
    rw [fz_own0]
    refine Sat.freezeC 4 [] 0 1 (n0 := .own 28 (some g4) 1 [.agg [.sl [], .own 0 none 0 []]]) (d := .own 0 none 0 []) ?_ rfl rfl ?_
    · rfl
    rw [fz_own0]
    refine Sat.of (S := []) (by kernel_rfl) ?_
    simp (maxSteps := 1000000) (disch := omega) only [push_cast, go_sem, zA, zB, zC, zD, zE, zF, simprocAttr]
    rfl
  have hpk := (Way.of h).ok
  have hs := seen_fn p x h hx
  have hsc := sceneOf_fn p hpk
  rw [Exe.V_eq] at hs
  rw [Sc.V_eq, Sn.V_eq] at hs
  rw [Sc.V_eq] at hsc
  rw [progV_eq] at hsc
  simp (maxSteps := 1000000) (disch := omega) only [push_cast, go_sem, zA, zB, zC, zD, zE, zF, simprocAttr]
  refine Sat.drawnE [] [] [0, 1, 2, 3] (pureT [(48, (.agg [.sl ((scene p).p.map thrV), .sl ((scene p).es.map Evt.V), .sl ((scene p).ds.map Do.V)])), (50, .agg [.sl ((seenF p x).rd.map (V.int .i64)), .sl ((seenF p x).ls.map (V.int .i64))])]) (by kernel_rfl) (by kernel_rfl) ?_
  simp (maxSteps := 1000000) (disch := omega) only [push_cast, go_sem, zA, zB, zC, zD, zE, zF, simprocAttr]
  refine runD_pure rfl hsc rfl rfl ?_ ?_
  · rfl
  simp (maxSteps := 1000000) (disch := omega) only [push_cast, go_sem, zA, zB, zC, zD, zE, zF, simprocAttr]
  refine runD_pure rfl hs rfl rfl ?_ ?_
  · rfl
  simp (maxSteps := 1000000) (disch := omega) only [push_cast, go_sem, zA, zB, zC, zD, zE, zF, simprocAttr, Sn.V_eq]

/-- The first way that is seen so, and that an order allows. -/
def whyS (p : Prog) (s : Sn) (kind : Int) : Option Exe := if inB kind 1 3 then (execAll p).find? fun x => decide (seenF p x = s) && holdsS p x kind else none
def whyV (o : Option Exe) : V := .tuple [(o.getD ⟨[], []⟩).V, .bool o.isSome]
theorem find_at {q : Exe → Bool} {x : Exe} : ∀ {l : List Exe} {i : Nat}, l[i]? = some x → q x = true → (∀ y ∈ l.take i, q y = false) → l.find? q = some x
  | [], i, h, _, _ => by simp at h
  | y :: l, 0, h, hq, _ => by simp at h; subst h; simp [hq]
  | y :: l, i + 1, h, hq, hno => by
    rw [List.find?_cons, hno y (by simp)]
    exact find_at (by simpa using h) hq fun z hz => hno z (by simp [hz])
theorem find_no {q : Exe → Bool} {l : List Exe} (h : ∀ y ∈ l, q y = false) : l.find? q = none := by
  rw [List.find?_eq_none]; intro y hy; rw [h y hy]; simp
theorem rdK_small (p : Prog) (x : Exe) (h : execOk p x = true) : (seenF p x).small := by
  have hw := Way.of h
  have hel := events_le hw.ok
  have hsl : (scene p).ds.length = (events p).length := by simp [scene]
  have := rdK_le (valF p x) (scene p).ds (scene p).ds.length
  exact ⟨by rw [seenF]; dsimp only; omega, by rw [seenF]; dsimp only; rw [List.length_map, hw.od]; omega⟩
theorem all_ok {p : Prog} {x : Exe} (h : x ∈ execAll p) : execOk p x = true := (mem_execAll p x).1 h
theorem implWhyExec_fn (p : Prog) (s : Sn) (kind : Int) (hp : p.length < 2 ^ 40) (hl : ∀ l ∈ p, l.length < 2 ^ 40) (hs : s.small) : Fp Tryz.prog 17 [progV p, s.V, .int .i64 kind] (whyV (whyS p s kind)) := by
  have h1 := implProgOk_fn p hp hl
  rw [progV_eq] at h1
  have none : whyV none = .tuple [.agg [.sl [], .sl []], .bool false] := rfl
  refine Fc.start (S := [2, 12]) Tryz.func17 Tryz.ntmps17 Tryz.results17 rfl (by decide) rfl (by kernel_rfl) ?_
  simp (maxSteps := 1000000) (disch := omega) only [push_cast, go_sem, zA, zB, zC, zD, zE, zF, simprocAttr, progV_eq, Sn.V_eq]
  intro g3 g4 g6
  refine callR.pure h1 rfl rfl ?_
  cases hok : progOk p
  · have hn : whyS p s kind = Option.none := by
      rw [whyS, execAll, hok]; split <;> rfl
    rw [hn, none]
    simp (maxSteps := 1000000) (disch := omega) only [push_cast, go_sem, zA, zB, zC, zD, zE, zF, simprocAttr]
    refine Sat.cutS (upd (upd noT 6 (.ptr 6 [] 0 0 g6 2)) 7 (.bool false)) (noM.set 6 (.own 33 (some g6) 1 [.agg [.own 0 Option.none 0 [], .own 0 Option.none 0 []]])) (Sat.of (S := []) (by kernel_rfl) ?_) ?_
    · simp (maxSteps := 1000000) (disch := omega) only [push_cast, go_sem, zA, zB, zC, zD, zE, zF, simprocAttr]
      (refine Less.start ?_; repeat (first | exact LessO.nil | exact LessO.all | refine LessO.skip (by decide) ?_ | refine LessO.upd ?_ ?_ | refine LessO.set ?_ ?_)) <;> (try simp (maxSteps := 1000000) (disch := omega) only [push_cast, go_sem, zA, zB, zC, zD, zE, zF, simprocAttr])
    refine Sat.freezeC 6 [] 0 0 (n0 := .own 33 (some g6) 1 [.agg [.own 0 Option.none 0 [], .own 0 Option.none 0 []]]) (d := .own 0 Option.none 0 []) ?_ rfl rfl ?_
    · rfl
    rw [fz_own0]
    refine Sat.freezeC 6 [] 0 1 (n0 := .own 33 (some g6) 1 [.agg [.sl [], .own 0 Option.none 0 []]]) (d := .own 0 Option.none 0 []) ?_ rfl rfl ?_
    · rfl
    rw [fz_own0]
    refine Sat.of (S := []) (by kernel_rfl) ?_
    simp (maxSteps := 1000000) (disch := omega) only [push_cast, go_sem, zA, zB, zC, zD, zE, zF, simprocAttr]
  simp (maxSteps := 1000000) (disch := omega) only [push_cast, go_sem, zA, zB, zC, zD, zE, zF, simprocAttr]
  refine callR.pure (isOrd_fn kind) rfl rfl ?_
  cases hk : inB kind 1 3
  · have hn : whyS p s kind = Option.none := by rw [whyS, hk]; rfl
    rw [hn, none]
    simp (maxSteps := 1000000) (disch := omega) only [push_cast, go_sem, zA, zB, zC, zD, zE, zF, simprocAttr]
    refine Sat.cutS (upd (upd noT 6 (.ptr 6 [] 0 0 g6 2)) 7 (.bool false)) (noM.set 6 (.own 33 (some g6) 1 [.agg [.own 0 Option.none 0 [], .own 0 Option.none 0 []]])) (Sat.of (S := []) (by kernel_rfl) ?_) ?_
    · simp (maxSteps := 1000000) (disch := omega) only [push_cast, go_sem, zA, zB, zC, zD, zE, zF, simprocAttr]
      (refine Less.start ?_; repeat (first | exact LessO.nil | exact LessO.all | refine LessO.skip (by decide) ?_ | refine LessO.upd ?_ ?_ | refine LessO.set ?_ ?_)) <;> (try simp (maxSteps := 1000000) (disch := omega) only [push_cast, go_sem, zA, zB, zC, zD, zE, zF, simprocAttr])
    refine Sat.freezeC 6 [] 0 0 (n0 := .own 33 (some g6) 1 [.agg [.own 0 Option.none 0 [], .own 0 Option.none 0 []]]) (d := .own 0 Option.none 0 []) ?_ rfl rfl ?_
    · rfl
    rw [fz_own0]
    refine Sat.freezeC 6 [] 0 1 (n0 := .own 33 (some g6) 1 [.agg [.sl [], .own 0 Option.none 0 []]]) (d := .own 0 Option.none 0 []) ?_ rfl rfl ?_
    · rfl
    rw [fz_own0]
    refine Sat.of (S := []) (by kernel_rfl) ?_
    simp (maxSteps := 1000000) (disch := omega) only [push_cast, go_sem, zA, zB, zC, zD, zE, zF, simprocAttr]
  have hel := events_le hok
  have hus := scene_uses hok
  have hfew : Few (scene p).ds := ⟨Nat.le_trans (count_le _) hus⟩
  have hsc := sceneOf_fn p hok
  have hall := all_fn (scene p) (by simp only [scene, List.length_map]; omega) (scene_len p) (scene_copy hok) hfew.wr (fun k hk => by have := froms_le hus k hk; omega) (fun k hk => by have := orders_le hus k hk; omega)
    (Nat.lt_of_le_of_lt (Nat.mul_le_mul (froms_le hus _ (Nat.le_refl _)) (orders_le hus 3 (Nat.le_refl _))) (by decide))
  have hae : allOf (scene p) = execAll p := by rw [execAll, hok]; rfl
  rw [hae] at hall
  have hsee := fun x hx => seen_fn p x (all_ok hx)
  rw [progV_eq] at hsc
  rw [Sc.V_eq] at hsc hall
  simp (maxSteps := 1000000) (disch := omega) only [push_cast, go_sem, zA, zB, zC, zD, zE, zF, simprocAttr]
  refine callR.pure hsc rfl rfl ?_
  simp (maxSteps := 1000000) (disch := omega) only [push_cast, go_sem, zA, zB, zC, zD, zE, zF, simprocAttr]
  intro g8
  refine callR.pure hall rfl rfl ?_
  simp (maxSteps := 1000000) (disch := omega) only [push_cast, go_sem, zA, zB, zC, zD, zE, zF, simprocAttr]
  have hle : (execAll p).length < 2 ^ 30 := by rw [all_eq]; exact specAll_le p
  obtain ⟨q, hq⟩ : ∃ q, (fun x => decide (seenF p x = s) && holdsS p x kind) = q := ⟨_, rfl⟩
  have hqx : ∀ x ∈ execAll p, q x = (decide (seenF p x = s) && (settledS p x kind).isSome) := fun x hx => by
    have := all_ok hx
    rw [ok_eq] at this
    rw [← hq]
    show (decide (seenF p x = s) && holdsS p x kind) = _
    rw [holdsS, this, hk]; rfl
  rw [whyS, hk, if_pos rfl, hq]
  refine Sat.loop (σ := Nat) (fun i => upd (upd (upd (upd (upd (upd (upd noT 2 (.int .i64 kind)) 4 (.ptr 4 [] 0 0 g4 2)) 6 (.ptr 6 [] 0 0 g6 2)) 8 (.ptr 8 [] 0 0 g8 3)) 25 (.sl ((execAll p).map Exe.V))) 26 (.int .i64 (execAll p).length)) 27 (.int .i64 i))
    (fun _ => ((noM.set 4 (.own 28 (some g4) 1 [.agg [.sl (s.rd.map (V.int .i64)), .sl (s.ls.map (V.int .i64))]])).set 6 (.own 33 (some g6) 1 [.agg [.own 0 Option.none 0 [], .own 0 Option.none 0 []]])).set 8 (.own 74 (some g8) 1 [.agg [.sl ((scene p).p.map thrV), .sl ((scene p).es.map Evt.V), .sl ((scene p).ds.map Do.V)]]))
    (fun i => i ≤ (execAll p).length ∧ ∀ y ∈ (execAll p).take i, q y = false) (fun i => (execAll p).length - i) 0 ⟨by omega, by simp⟩ ?_ ?_
  · (refine Less.start ?_; repeat (first | exact LessO.nil | exact LessO.all | refine LessO.skip (by decide) ?_ | refine LessO.upd ?_ ?_ | refine LessO.set ?_ ?_)) <;> (try simp (maxSteps := 1000000) (disch := omega) only [push_cast, go_sem, zA, zB, zC, zD, zE, zF, simprocAttr])
  rintro i ⟨hi, hno⟩ J hJ
  refine Sat.of (S := [12]) (by kernel_rfl) ?_
  rcases Nat.lt_or_ge i (execAll p).length with hlt | hge
  · obtain ⟨x, hx⟩ : ∃ x, (execAll p)[i]? = some x := ⟨_, List.getElem?_eq_getElem hlt⟩
    have hxm := List.mem_of_getElem? hx
    have hxo := all_ok hxm
    have hw := Way.of hxo
    have hsm := specAll_small (p := p) (y := x) (by rw [← all_eq]; exact hxm)
    have hxs : x.small := ⟨by omega, by omega, fun r hr => by have := hsm.2.2 r hr; omega⟩
    have hse := hsee x hxm hxs
    have hsa := same_fn (seenF p x) s (rdK_small p x hxo) hs
    have hst := settled_fn p x kind hw hxs hk
    have htk := take_get hx
    have next : q x = false → ∀ y ∈ (execAll p).take (i + 1), q y = false := fun h y hy => by
      rw [htk] at hy
      rcases List.mem_append.1 hy with hy | hy
      · exact hno y hy
      · simp at hy; rw [hy]; exact h
    rw [Exe.V_eq, Sc.V_eq] at hse hst
    rw [Sn.V_eq] at hse
    rw [Sn.V_eq, Sn.V_eq] at hsa
    simp (maxSteps := 1000000) (disch := omega) only [push_cast, go_sem, zA, zB, zC, zD, zE, zF, simprocAttr, hx, hlt, Exe.V_eq]
    intro g10
    refine Sat.drawnE [] [] (List.range 6) (pureT [(50, .agg [.sl ((seenF p x).rd.map (V.int .i64)), .sl ((seenF p x).ls.map (V.int .i64))]), (51, .bool (decide (seenF p x = s)))]) (by kernel_rfl) (by kernel_rfl) ?_
    simp (maxSteps := 1000000) (disch := omega) only [push_cast, go_sem, zA, zB, zC, zD, zE, zF, simprocAttr]
    refine runD_pure rfl hse rfl rfl ?_ ?_
    · rfl
    simp (maxSteps := 1000000) (disch := omega) only [push_cast, go_sem, zA, zB, zC, zD, zE, zF, simprocAttr]
    refine runD_pure rfl hsa rfl rfl ?_ ?_
    · rfl
    have hqq := hqx x hxm
    cases hd : decide (seenF p x = s)
    · rw [hd] at hqq
      simp (maxSteps := 1000000) (disch := omega) only [push_cast, go_sem, zA, zB, zC, zD, zE, zF, simprocAttr]
      refine hJ (i + 1) _ _ ⟨by omega, next (by rw [hqq]; rfl)⟩ (by omega) ?_
      (refine Less.start ?_; repeat (first | exact LessO.nil | exact LessO.all | refine LessO.skip (by decide) ?_ | refine LessO.upd ?_ ?_ | refine LessO.set ?_ ?_)) <;> (try simp (maxSteps := 1000000) (disch := omega) only [push_cast, go_sem, zA, zB, zC, zD, zE, zF, simprocAttr])
    · rw [hd] at hqq
      cases hr : settledS p x kind with
      | none =>
        rw [hr] at hqq hst
        rw [no_settle] at hst
        simp (maxSteps := 1000000) (disch := omega) only [push_cast, go_sem, zA, zB, zC, zD, zE, zF, simprocAttr]
        refine callR.pure hst rfl rfl ?_
        simp (maxSteps := 1000000) (disch := omega) only [push_cast, go_sem, zA, zB, zC, zD, zE, zF, simprocAttr]
        refine hJ (i + 1) _ _ ⟨by omega, next (by rw [hqq]; rfl)⟩ (by omega) ?_
        (refine Less.start ?_; repeat (first | exact LessO.nil | exact LessO.all | refine LessO.skip (by decide) ?_ | refine LessO.upd ?_ ?_ | refine LessO.set ?_ ?_)) <;> (try simp (maxSteps := 1000000) (disch := omega) only [push_cast, go_sem, zA, zB, zC, zD, zE, zF, simprocAttr])
      | some r =>
        rw [hr] at hqq hst
        rw [some_settle] at hst
        simp (maxSteps := 1000000) (disch := omega) only [push_cast, go_sem, zA, zB, zC, zD, zE, zF, simprocAttr]
        refine callR.pure hst rfl rfl ?_
        simp (maxSteps := 1000000) (disch := omega) only [push_cast, go_sem, zA, zB, zC, zD, zE, zF, simprocAttr]
        rw [find_at hx (by rw [hqq]; rfl) hno]; rfl
  · have : i = (execAll p).length := by omega
    subst this
    rw [List.take_length] at hno
    rw [find_no hno, none]
    simp (maxSteps := 1000000) (disch := omega) only [push_cast, go_sem, zA, zB, zC, zD, zE, zF, simprocAttr]
    refine Sat.cutS (upd (upd noT 6 (.ptr 6 [] 0 0 g6 2)) 7 (.bool false)) (noM.set 6 (.own 33 (some g6) 1 [.agg [.own 0 Option.none 0 [], .own 0 Option.none 0 []]])) (Sat.of (S := []) (by kernel_rfl) ?_) ?_
    · simp (maxSteps := 1000000) (disch := omega) only [push_cast, go_sem, zA, zB, zC, zD, zE, zF, simprocAttr]
      (refine Less.start ?_; repeat (first | exact LessO.nil | exact LessO.all | refine LessO.skip (by decide) ?_ | refine LessO.upd ?_ ?_ | refine LessO.set ?_ ?_)) <;> (try simp (maxSteps := 1000000) (disch := omega) only [push_cast, go_sem, zA, zB, zC, zD, zE, zF, simprocAttr])
    refine Sat.freezeC 6 [] 0 0 (n0 := .own 33 (some g6) 1 [.agg [.own 0 Option.none 0 [], .own 0 Option.none 0 []]]) (d := .own 0 Option.none 0 []) ?_ rfl rfl ?_
    · rfl
    rw [fz_own0]
    refine Sat.freezeC 6 [] 0 1 (n0 := .own 33 (some g6) 1 [.agg [.sl [], .own 0 Option.none 0 []]]) (d := .own 0 Option.none 0 []) ?_ rfl rfl ?_
    · rfl
    rw [fz_own0]
    refine Sat.of (S := []) (by kernel_rfl) ?_
    simp (maxSteps := 1000000) (disch := omega) only [push_cast, go_sem, zA, zB, zC, zD, zE, zF, simprocAttr]
end Go.Proofs.YtfbgabkcjjahiaaGreatDoor
namespace Go.Proofs.YtfbgabkcjjahiaaGreatDoor
open Go.RowKit
set_option pp.maxSteps 3000

def grS2 (A : List Sn) (s : Sn) : Bool := A.any fun t => decide (0 < cmpS t s)
def insP : List Sn → Sn → List Sn
  | [], s => [s]
  | t :: L, s => if 0 < cmpS t s then s :: t :: L else t :: insP L s
def outK (A : List Sn) (s : Sn) : List Sn := if grS2 A s then insP A s else A
/-- With one more, if it is not there. -/
def putS (L : List Sn) (s : Sn) : List Sn := if L.contains s then L else insP L s
theorem ins_app {B : List Sn} {s : Sn} : ∀ {A : List Sn}, grS2 A s = true → insP (A ++ B) s = insP A s ++ B
  | [], h => by simp [grS2] at h
  | t :: A, h => by
    rw [List.cons_append, insP, insP]
    by_cases h1 : 0 < cmpS t s
    · rw [if_pos h1, if_pos h1]; rfl
    · rw [if_neg h1, if_neg h1, ins_app (by simpa [grS2, h1] using h)]; rfl
theorem ins_no {B : List Sn} {s : Sn} : ∀ {A : List Sn}, grS2 A s = false → insP (A ++ B) s = A ++ insP B s
  | [], _ => rfl
  | t :: A, h => by
    have h2 : ¬ 0 < cmpS t s ∧ grS2 A s = false := by simpa [grS2] using h
    rw [List.cons_append, insP, if_neg h2.1, ins_no h2.2]; rfl
theorem gr_app (A B : List Sn) (s : Sn) : grS2 (A ++ B) s = (grS2 A s || grS2 B s) := by simp [grS2]
theorem gr_one (t s : Sn) : grS2 [t] s = decide (0 < cmpS t s) := by simp [grS2]
theorem out_yes {A : List Sn} {t s : Sn} (h : grS2 A s = true) : outK (A ++ [t]) s = outK A s ++ [t] := by
  rw [outK, gr_app, h, Bool.true_or, if_pos rfl, ins_app h, outK, if_pos h]
theorem out_now {A : List Sn} {t s : Sn} (h : grS2 A s = false) (h1 : 0 < cmpS t s) : outK (A ++ [t]) s = outK A s ++ [s] ++ [t] := by
  rw [outK, gr_app, h, gr_one, Bool.false_or, if_pos (by simpa using h1), ins_no h, insP, if_pos h1, outK, h]; simp
theorem out_not {A : List Sn} {t s : Sn} (h : grS2 A s = false) (h1 : ¬ 0 < cmpS t s) : outK (A ++ [t]) s = outK A s ++ [t] := by
  have e : grS2 (A ++ [t]) s = false := by rw [gr_app, h, gr_one]; simpa using h1
  rw [outK, e, outK, h]; simp
theorem out_end {A : List Sn} {s : Sn} (h : grS2 A s = false) : outK A s ++ [s] = insP A s := by
  have := ins_no (B := []) h
  rw [List.append_nil] at this
  rw [this, outK, h]; simp [insP]
theorem ins_len (s : Sn) : ∀ A : List Sn, (insP A s).length = A.length + 1
  | [] => rfl
  | t :: A => by
    rw [insP]
    split
    · rfl
    · rw [List.length_cons, ins_len s A, List.length_cons]
theorem out_len (A : List Sn) (s : Sn) : (outK A s).length ≤ A.length + 1 := by
  rw [outK]
  split
  · rw [ins_len]; omega
  · omega
theorem put_len (L : List Sn) (s : Sn) : (putS L s).length ≤ L.length + 1 := by
  rw [putS]
  split
  · omega
  · rw [ins_len]; omega
@[push_cast] theorem fzs_sn (l : List Sn) : (l.map Sn.V).map V.fz = l.map Sn.V := by
  rw [List.map_map]
  refine List.map_congr_left fun d _ => ?_
  simp only [Function.comp, Sn.V, V.fz, fzs_map, List.map_cons, List.map_nil]
theorem l2Put_fn (L : List Sn) (s : Sn) (hL : L.length < 2 ^ 40) (hls : ∀ t ∈ L, t.small) (hs : s.small) : Fp Tryz.prog 115 [.sl (L.map Sn.V), s.V] (.sl ((putS L s).map Sn.V)) := by
  refine Fc.start (S := [15]) Tryz.func115 Tryz.ntmps115 Tryz.results115 rfl (by decide) rfl (by kernel_rfl) ?_
  simp (maxSteps := 1000000) (disch := omega) only [push_cast, go_sem, zA, zB, zC, zD, zE, zF, simprocAttr, Sn.V_eq]
  intro g3 g9
  refine Sat.loop (σ := EvS) (fun x => upd (upd (upd (upd (upd noT 0 (.sl (L.map Sn.V))) 3 (.ptr 3 [] 0 0 g3 2)) 5 (.msl 5 [] x.γ (outK (L.take x.k) s).length x.c)) 6 (.bool (grS2 (L.take x.k) s))) 7 (.int .i64 x.k))
    (fun x => (noM.set 3 (.own 28 (some g3) 1 [.agg [.sl (s.rd.map (V.int .i64)), .sl (s.ls.map (V.int .i64))]])).set 5 (.own x.e x.γ x.c ((outK (L.take x.k) s).map Sn.V)))
    (fun x => x.k ≤ L.length ∧ (x.γ = none ∨ x.e = 28) ∧ s ∉ L.take x.k) (fun x => L.length - x.k) ⟨0, 28, some g9, 0⟩ (by simp) ?_ ?_
  · (refine Less.start ?_; repeat (first | exact LessO.nil | exact LessO.all | refine LessO.skip (by decide) ?_ | refine LessO.upd ?_ ?_ | refine LessO.set ?_ ?_)) <;> (try simp (maxSteps := 1000000) (disch := omega) only [push_cast, go_sem, zA, zB, zC, zD, zE, zF, simprocAttr])
    all_goals simp [outK, grS2]
  rintro ⟨k, e, γ, c⟩ ⟨hk, hγ, hno⟩ J hJ
  simp only at hk hγ hno hJ
  have hγ' : (γ = none ∨ e = 28) = True := by simp only [hγ]
  have hol := out_len (L.take k) s
  have htl : (L.take k).length = k := by rw [List.length_take]; omega
  obtain ⟨out, hout⟩ : ∃ out, outK (L.take k) s = out := ⟨_, rfl⟩
  rw [htl, hout] at hol
  rw [hout]
  refine Sat.of (S := [15]) (by kernel_rfl) ?_
  rcases Nat.lt_or_ge k L.length with hlt | hge
  · obtain ⟨t, ht⟩ : ∃ t, L[k]? = some t := ⟨_, List.getElem?_eq_getElem hlt⟩
    have htk := take_get ht
    have hts := hls t (List.mem_of_getElem? ht)
    have hc := l2Seen_fn t s hts hs
    obtain ⟨v, hv⟩ : ∃ v, cmpS t s = v := ⟨_, rfl⟩
    rw [hv, Sn.V_eq, Sn.V_eq] at hc
    simp (maxSteps := 1000000) (disch := omega) only [push_cast, go_sem, zA, zB, zC, zD, zE, zF, simprocAttr, hlt]
    refine Sat.drawnE [] [] (List.range 7) (pureT [(45, .int .i64 v)]) (by kernel_rfl) (by kernel_rfl) ?_
    simp (maxSteps := 1000000) (disch := omega) only [push_cast, go_sem, zA, zB, zC, zD, zE, zF, simprocAttr, ht, hlt, Sn.V_eq]
    refine runD_pure rfl hc rfl rfl ?_ ?_
    · rfl
    by_cases h0 : v = 0
    · have h1 : (v == 0) = true := by simpa using h0
      simp (maxSteps := 1000000) (disch := omega) only [push_cast, go_sem, zA, zB, zC, zD, zE, zF, simprocAttr, h1]
      have he : s = t := (cmpS_zero.1 (by rw [hv]; exact h0)).symm
      rw [putS, if_pos (by rw [he]; simpa using List.mem_of_getElem? ht)]
    have h1 : (v == 0) = false := by simpa using h0
    have hne : t ≠ s := fun h => h0 (by rw [← hv]; exact cmpS_zero.2 h)
    have hno' : s ∉ L.take (k + 1) := by
      rw [htk]; simp [hno]; exact fun h => hne h.symm
    cases hg : grS2 (L.take k) s
    · by_cases h2 : 0 < v
      · simp (maxSteps := 1000000) (disch := omega) only [push_cast, go_sem, zA, zB, zC, zD, zE, zF, simprocAttr, h1, h2, hγ', ht, hlt, Sn.V_eq]
        intro g33
        refine ⟨by omega, fun γ1 c1 _ => ?_⟩
        intro g40
        refine ⟨by omega, fun γ2 c2 _ => ?_⟩
        refine hJ ⟨k + 1, 28, γ2, c2⟩ _ _ ⟨by dsimp only; omega, .inr rfl, hno'⟩ (by dsimp only; omega) ?_
        dsimp only
        rw [htk, out_now hg (by rw [hv]; exact h2), hout, gr_app, hg, gr_one, hv]
        (refine Less.start ?_; repeat (first | exact LessO.nil | exact LessO.all | refine LessO.skip (by decide) ?_ | refine LessO.upd ?_ ?_ | refine LessO.set ?_ ?_)) <;> (try simp (maxSteps := 1000000) (disch := omega) only [push_cast, go_sem, zA, zB, zC, zD, zE, zF, simprocAttr])
        all_goals simp [h2, Sn.V]
      · simp (maxSteps := 1000000) (disch := omega) only [push_cast, go_sem, zA, zB, zC, zD, zE, zF, simprocAttr, h1, h2, hγ', ht, hlt, Sn.V_eq]
        intro g40
        refine ⟨by omega, fun γ2 c2 _ => ?_⟩
        refine hJ ⟨k + 1, 28, γ2, c2⟩ _ _ ⟨by dsimp only; omega, .inr rfl, hno'⟩ (by dsimp only; omega) ?_
        dsimp only
        rw [htk, out_not hg (by rw [hv]; exact h2), hout, gr_app, hg, gr_one, hv]
        (refine Less.start ?_; repeat (first | exact LessO.nil | exact LessO.all | refine LessO.skip (by decide) ?_ | refine LessO.upd ?_ ?_ | refine LessO.set ?_ ?_)) <;> (try simp (maxSteps := 1000000) (disch := omega) only [push_cast, go_sem, zA, zB, zC, zD, zE, zF, simprocAttr])
        all_goals simp [h2, Sn.V]
    · simp (maxSteps := 1000000) (disch := omega) only [push_cast, go_sem, zA, zB, zC, zD, zE, zF, simprocAttr, h1, hγ', ht, hlt, Sn.V_eq]
      intro g40
      refine ⟨by omega, fun γ2 c2 _ => ?_⟩
      refine hJ ⟨k + 1, 28, γ2, c2⟩ _ _ ⟨by dsimp only; omega, .inr rfl, hno'⟩ (by dsimp only; omega) ?_
      dsimp only
      rw [htk, out_yes hg, hout, gr_app, hg]
      (refine Less.start ?_; repeat (first | exact LessO.nil | exact LessO.all | refine LessO.skip (by decide) ?_ | refine LessO.upd ?_ ?_ | refine LessO.set ?_ ?_)) <;> (try simp (maxSteps := 1000000) (disch := omega) only [push_cast, go_sem, zA, zB, zC, zD, zE, zF, simprocAttr])
      all_goals simp [Sn.V]
  · have : k = L.length := by omega
    subst this
    rw [List.take_length] at hno hout ⊢
    have hput : putS L s = insP L s := by rw [putS, if_neg (by simpa using hno)]
    rw [hput]
    cases hg : grS2 L s
    · have he := out_end hg
      rw [hout] at he
      simp (maxSteps := 1000000) (disch := omega) only [push_cast, go_sem, zA, zB, zC, zD, zE, zF, simprocAttr, hγ']
      intro g46
      refine ⟨by omega, fun γ2 c2 _ => ?_⟩
      refine Sat.freezeT (upd noT 5 (.sl ((insP L s).map Sn.V))) noM 5 (e := 28) (γ := γ2) (cap := c2) (es := (insP L s).map Sn.V) ?_ ?_ ?_
      · rw [← he]; simp [Sn.V]; rfl
      · have hil : (insP L s).length = out.length + 1 := by rw [← he]; simp
        (refine Less.start ?_; repeat (first | exact LessO.nil | exact LessO.all | refine LessO.skip (by decide) ?_ | refine LessO.upd ?_ ?_ | refine LessO.set ?_ ?_)) <;> (try simp (maxSteps := 1000000) (disch := omega) only [push_cast, go_sem, zA, zB, zC, zD, zE, zF, simprocAttr])
        all_goals simp [hil]
      refine Sat.of (S := []) (by kernel_rfl) ?_
      simp (maxSteps := 1000000) (disch := omega) only [push_cast, go_sem, zA, zB, zC, zD, zE, zF, simprocAttr]
    · have he : out = insP L s := by rw [← hout, outK, hg]; rfl
      simp (maxSteps := 1000000) (disch := omega) only [push_cast, go_sem, zA, zB, zC, zD, zE, zF, simprocAttr]
      refine Sat.freezeT (upd noT 5 (.sl ((insP L s).map Sn.V))) noM 5 (e := e) (γ := γ) (cap := c) (es := (insP L s).map Sn.V) ?_ ?_ ?_
      · rw [← he]; rfl
      · rw [he]; (refine Less.start ?_; repeat (first | exact LessO.nil | exact LessO.all | refine LessO.skip (by decide) ?_ | refine LessO.upd ?_ ?_ | refine LessO.set ?_ ?_)) <;> (try simp (maxSteps := 1000000) (disch := omega) only [push_cast, go_sem, zA, zB, zC, zD, zE, zF, simprocAttr])
      refine Sat.of (S := []) (by kernel_rfl) ?_
      simp (maxSteps := 1000000) (disch := omega) only [push_cast, go_sem, zA, zB, zC, zD, zE, zF, simprocAttr]
end Go.Proofs.YtfbgabkcjjahiaaGreatDoor
namespace Go.Proofs.YtfbgabkcjjahiaaGreatDoor
open Go.RowKit
set_option pp.maxSteps 3000

theorem valS_at {p : Prog} {x : Exe} (h : execOk p x = true) {a : Nat} {d : Do} (hd : (scene p).ds[a]? = some d) (hu : d.uses = true) : valS (events p) (scene p).ds x.fr (2 * (events p).length + 2) a = valF p x a := by
  have hw := Way.of h
  have hsl : (scene p).ds.length = (events p).length := by simp [scene]
  have hf : fromOk (scene p).ds x.fr := fromOk_of (scene_len p) (by simp only [execOk, okX, Bool.and_eq_true] at h; exact h.2.1)
  obtain ⟨h1, h2⟩ := val_eq hw.ok hf (2 * (events p).length + 2) a d hd hu
  have h3 := valI_up (val_some h hd hu) ((events p).length + 2)
  rw [hsl, show (events p).length + ((events p).length + 2) = 2 * (events p).length + 2 by omega] at h3
  rw [h1, h3]; rfl
theorem fr_lt {p : Prog} {x : Exe} (h : execOk p x = true) : ∀ f ∈ x.fr, f < (events p).length := by
  have hw := Way.of h
  have hsl : (scene p).ds.length = (events p).length := by simp [scene]
  intro f hf
  obtain ⟨i, hi⟩ := List.getElem?_of_mem hf
  have hil := (List.getElem?_eq_some_iff.1 hi).1
  rw [hw.fr] at hil
  have hd : (scene p).ds[i]? = some (scene p).ds[i] := List.getElem?_eq_getElem hil
  have := hw.from_ i _ f hd hi
  simp only [frOk] at this
  split at this
  · rw [Bool.or_eq_true] at this
    rcases this with h1 | h1
    · simp at h1; omega
    · obtain ⟨b, d, k1, k2, k3, _⟩ := mem_wrs (List.contains_iff_mem.1 h1)
      have := (List.getElem?_eq_some_iff.1 k3).1
      omega
  · simp at this; omega
theorem l12Seen_fn (p : Prog) (x : Exe) (h : execOk p x = true) (hx : x.small) : Fp Tryz.prog 79 [progV p, .sl ((events p).map Evt.V), x.V] (seenF p x).V := by
  have hw := Way.of h
  have hpk := hw.ok
  have hel := events_le hpk
  have hsl : (scene p).ds.length = (events p).length := by simp [scene]
  have hod := hw.od
  have hfl : x.fr.length = (events p).length := by rw [hw.fr, hsl]
  have hv := fun i hi => l12Val_fn p x hel hfl (fr_lt h) (2 * (events p).length + 2) i (by omega) hi
  have hm1 : valS (events p) (scene p).ds x.fr (2 * (events p).length + 2) (-1) = 0 := by simp [valS]
  have hva := fun a d hd hu => valS_at (a := a) (d := d) h hd hu
  have hodr : ∀ row ∈ x.od, ∀ z ∈ row, ∃ (b : Nat) (d : Do), z = b ∧ (scene p).ds[b]? = some d ∧ d.uses = true := fun row hr z hz => od_at h hr hz
  have hrow := hx.row
  obtain ⟨f, hff⟩ : ∃ f, valF p x = f := ⟨_, rfl⟩
  rw [hff] at hva
  rw [seenF, hff, Sn.V_eq, hsl]
  rw [Exe.V_eq] at hv ⊢
  rw [progV_eq] at hv
  obtain ⟨n, hnn⟩ : ∃ n, (events p).length = n := ⟨_, rfl⟩
  rw [hnn] at hel hsl hv hm1 hva ⊢
  have hev := fun (a : Nat) e (he : (events p)[a]? = some e) => l12Do_fn p e (evIn_of (List.mem_of_getElem? he))
  refine Fc.start (S := [14]) Tryz.func79 Tryz.ntmps79 Tryz.results79 rfl (by decide) rfl (by kernel_rfl) ?_
  simp (maxSteps := 1000000) (disch := omega) only [push_cast, go_sem, zA, zB, zC, zD, zE, zF, simprocAttr, progV_eq]
  intro g3 g5 g6 g11 g7
  refine Sat.loop (σ := EvS) (fun y => upd (upd (upd (upd (upd (upd noT 1 (.sl ((events p).map Evt.V))) 3 (.ptr 3 [] 0 0 g3 1)) 5 (.ptr 5 [] 0 0 g5 2)) 6 (.ptr 6 [] 0 0 g6 2)) 7 (.ptr 7 [] 0 0 g7 2)) 8 (.int .i64 y.k))
    (fun y => (((noM.set 3 (.own 25 (some g3) 1 [.agg [.sl (p.map thrV)]])).set 5 (.own 33 (some g5) 1 [.agg [.sl (x.fr.map (V.int .i64)), .sl (x.od.map intsV)]])).set 6 (.own 28 (some g6) 1 [.agg [.own 0 none 0 [], .own 0 none 0 []]])).set 7 (.own 28 (some g7) 1 [.agg [.own y.e y.γ y.c ((rdK f (scene p).ds y.k).map (V.int .i64)), .own 0 none 0 []]]))
    (fun y => y.k ≤ n ∧ (y.γ = none ∨ y.e = 3)) (fun y => n - y.k) ⟨0, 3, some g11, 0⟩ (by simp) ?_ ?_
  · (refine Less.start ?_; repeat (first | exact LessO.nil | exact LessO.all | refine LessO.skip (by decide) ?_ | refine LessO.upd ?_ ?_ | refine LessO.set ?_ ?_)) <;> (try simp (maxSteps := 1000000) (disch := omega) only [push_cast, go_sem, zA, zB, zC, zD, zE, zF, simprocAttr])
    all_goals rfl
  rintro ⟨k, e, γ, c⟩ ⟨hk, hγ⟩ J hJ
  simp only at hk hγ hJ
  have hγ' : (γ = none ∨ e = 3) = True := by simp only [hγ]
  have hrl := rdK_le f (scene p).ds k
  refine Sat.of (S := [14]) (by kernel_rfl) ?_
  rcases Nat.lt_or_ge k n with hlt | hge
  · obtain ⟨ev, he⟩ : ∃ d, (events p)[k]? = some d := ⟨_, List.getElem?_eq_getElem (by omega)⟩
    obtain ⟨d, hst⟩ : ∃ d, stepAt p ev = d := ⟨_, rfl⟩
    have hd := scene_get he
    have hdo := hev k ev he
    rw [hst] at hd hdo
    have hre := l1Reads_fn d
    rw [progV_eq, Evt.V_eq, Do.V_eq] at hdo
    rw [Do.V_eq] at hre
    have hkl : k < (events p).length := by omega
    simp (maxSteps := 1000000) (disch := omega) only [push_cast, go_sem, zA, zB, zC, zD, zE, zF, simprocAttr, hnn, hlt]
    refine Sat.drawnE [] [] (List.range 7) (pureT [(118, .agg [.int .i64 d.k, .int .i64 d.p, .int .i64 d.v]), (72, .bool d.reads)]) (by kernel_rfl) (by kernel_rfl) ?_
    simp (maxSteps := 1000000) (disch := omega) only [push_cast, go_sem, zA, zB, zC, zD, zE, zF, simprocAttr, hnn, hlt, he, hkl, Evt.V_eq]
    refine runD_pure rfl hdo rfl rfl ?_ ?_
    · rfl
    simp (maxSteps := 1000000) (disch := omega) only [push_cast, go_sem, zA, zB, zC, zD, zE, zF, simprocAttr]
    refine runD_pure rfl hre rfl rfl ?_ ?_
    · rfl
    cases hr : d.reads
    · simp (maxSteps := 1000000) (disch := omega) only [push_cast, go_sem, zA, zB, zC, zD, zE, zF, simprocAttr]
      refine hJ ⟨k + 1, e, γ, c⟩ _ _ ⟨by dsimp only; omega, hγ⟩ (by dsimp only; omega) ?_
      dsimp only
      rw [rdK_no hd hr]
      (refine Less.start ?_; repeat (first | exact LessO.nil | exact LessO.all | refine LessO.skip (by decide) ?_ | refine LessO.upd ?_ ?_ | refine LessO.set ?_ ?_)) <;> (try simp (maxSteps := 1000000) (disch := omega) only [push_cast, go_sem, zA, zB, zC, zD, zE, zF, simprocAttr])
    · have hvk := hv k (by omega)
      rw [hva k d hd (by simp [Do.uses, hr])] at hvk
      simp (maxSteps := 1000000) (disch := omega) only [push_cast, go_sem, zA, zB, zC, zD, zE, zF, simprocAttr]
      refine Sat.drawnE [(1, 11)] [] [0, 1, 2, 3, 4, 5, 6, 7, 8, 9, 10, 13] (pureT [(121, .int .i64 (f k))]) (by kernel_rfl) (by kernel_rfl) ?_
      simp (maxSteps := 1000000) (disch := omega) only [push_cast, go_sem, zA, zB, zC, zD, zE, zF, simprocAttr, hnn]
      refine runD_pure rfl hvk rfl rfl ?_ ?_
      · rfl
      simp (maxSteps := 1000000) (disch := omega) only [push_cast, go_sem, zA, zB, zC, zD, zE, zF, simprocAttr, hγ']
      intro g37
      refine ⟨by omega, fun γ1 c1 _ => ?_⟩
      refine hJ ⟨k + 1, 3, γ1, c1⟩ _ _ ⟨by dsimp only; omega, .inr rfl⟩ (by dsimp only; omega) ?_
      dsimp only
      rw [rdK_yes hd hr]
      (refine Less.start ?_; repeat (first | exact LessO.nil | exact LessO.all | refine LessO.skip (by decide) ?_ | refine LessO.upd ?_ ?_ | refine LessO.set ?_ ?_)) <;> (try simp (maxSteps := 1000000) (disch := omega) only [push_cast, go_sem, zA, zB, zC, zD, zE, zF, simprocAttr])
      all_goals simp
  have : k = n := by omega
  subst this
  simp (maxSteps := 1000000) (disch := omega) only [push_cast, go_sem, zA, zB, zC, zD, zE, zF, simprocAttr, hnn]
  refine Sat.loop (σ := EvS) (fun y => upd (upd (upd (upd (upd (upd noT 1 (.sl ((events p).map Evt.V))) 3 (.ptr 3 [] 0 0 g3 1)) 5 (.ptr 5 [] 0 0 g5 2)) 6 (.ptr 6 [] 0 0 g6 2)) 7 (.ptr 7 [] 0 0 g7 2)) 9 (.int .i64 y.k))
    (fun y => (((noM.set 3 (.own 25 (some g3) 1 [.agg [.sl (p.map thrV)]])).set 5 (.own 33 (some g5) 1 [.agg [.sl (x.fr.map (V.int .i64)), .sl (x.od.map intsV)]])).set 6 (.own 28 (some g6) 1 [.agg [.own 0 none 0 [], .own 0 none 0 []]])).set 7 (.own 28 (some g7) 1 [.agg [.own e γ c ((rdK f (scene p).ds k).map (V.int .i64)), .own y.e y.γ y.c (((x.od.take y.k).map (lsF f)).map (V.int .i64))]]))
    (fun y => y.k ≤ 3 ∧ (y.γ = none ∨ y.e = 3)) (fun y => 3 - y.k) ⟨0, 0, none, 0⟩ (by simp) ?_ ?_
  · (refine Less.start ?_; repeat (first | exact LessO.nil | exact LessO.all | refine LessO.skip (by decide) ?_ | refine LessO.upd ?_ ?_ | refine LessO.set ?_ ?_)) <;> (try simp (maxSteps := 1000000) (disch := omega) only [push_cast, go_sem, zA, zB, zC, zD, zE, zF, simprocAttr])
    all_goals rfl
  rintro ⟨j, e2, γ2, c2⟩ ⟨hk2, hγ2⟩ J2 hJ2
  simp only at hk2 hγ2 hJ2
  have hγ2' : (γ2 = none ∨ e2 = 3) = True := by simp only [hγ2]
  refine Sat.of (S := [14]) (by kernel_rfl) ?_
  by_cases h3 : (j : Int) < 3
  · have hlt : j < x.od.length := by omega
    have hl3 : j < 3 := by omega
    obtain ⟨row, hro⟩ : ∃ row, x.od[j]? = some row := ⟨_, List.getElem?_eq_getElem hlt⟩
    have htk := take_get hro
    have htl : ((x.od.take j).map (lsF f)).length = j := by rw [List.length_map, List.length_take]; omega
    have htl2 : (x.od.take j).length = j := by rw [List.length_take]; omega
    have hrs := hrow row (List.mem_of_getElem? hro)
    by_cases h0 : (0 : Int) < row.length
    · obtain ⟨m, hm⟩ : ∃ m, row.length = m + 1 := ⟨row.length - 1, by omega⟩
      obtain ⟨z, hz⟩ : ∃ z, row[m]? = some z := ⟨_, List.getElem?_eq_getElem (by omega)⟩
      obtain ⟨b, d, rfl, hbd, hbu⟩ := hodr row (List.mem_of_getElem? hro) z (List.mem_of_getElem? hz)
      have hls : lsF f row = f b := by rw [lsF, hm, Nat.add_sub_cancel, hz]; simp
      have hmm : m < m + 1 := by omega
      have hmi : (m : Int) < (m : Int) + 1 := by omega
      have h0' : (0 : Int) < (m : Int) + 1 := by omega
      have hbl : b < k := by rw [← hsl]; exact (List.getElem?_eq_some_iff.1 hbd).1
      have hvb := hv b (by omega)
      rw [hva b d hbd hbu] at hvb
      simp (maxSteps := 1000000) (disch := omega) only [push_cast, go_sem, zA, zB, zC, zD, zE, zF, simprocAttr, h3, hod, hl3, hro, intsV_eq, hm, h0']
      refine Sat.drawnE [] [] (List.range 15) (fun _ _ _ => none) (by kernel_rfl) (by kernel_rfl) ?_
      simp (maxSteps := 1000000) (disch := omega) only [push_cast, go_sem, zA, zB, zC, zD, zE, zF, simprocAttr, hod, h3, hl3, hro, intsV_eq, hm, hz, hmm, hmi]
      refine Sat.drawnE [(1, 11)] [] [0, 1, 2, 3, 4, 5, 6, 7, 8, 9, 10, 13] (pureT [(121, .int .i64 (f b))]) (by kernel_rfl) (by kernel_rfl) ?_
      simp (maxSteps := 1000000) (disch := omega) only [push_cast, go_sem, zA, zB, zC, zD, zE, zF, simprocAttr, hnn]
      refine runD_pure rfl hvb rfl rfl ?_ ?_
      · rfl
      simp (maxSteps := 1000000) (disch := omega) only [push_cast, go_sem, zA, zB, zC, zD, zE, zF, simprocAttr, hγ2', htl]
      intro g76
      refine ⟨by omega, fun γ1 c1 _ => ?_⟩
      refine hJ2 ⟨j + 1, 3, γ1, c1⟩ _ _ ⟨by dsimp only; omega, .inr rfl⟩ (by dsimp only; omega) ?_
      dsimp only
      rw [htk, List.map_append, List.map_append]
      (refine Less.start ?_; repeat (first | exact LessO.nil | exact LessO.all | refine LessO.skip (by decide) ?_ | refine LessO.upd ?_ ?_ | refine LessO.set ?_ ?_)) <;> (try simp (maxSteps := 1000000) (disch := omega) only [push_cast, go_sem, zA, zB, zC, zD, zE, zF, simprocAttr])
      all_goals simp [hls]
    · have hls : lsF f row = 0 := by
        have : row = [] := List.eq_nil_of_length_eq_zero (by omega)
        subst this; rfl
      have hvb := hv (-1) (by omega)
      rw [hm1] at hvb
      simp (maxSteps := 1000000) (disch := omega) only [push_cast, go_sem, zA, zB, zC, zD, zE, zF, simprocAttr, h3, hod, hl3, hro, intsV_eq, h0]
      refine Sat.drawnE [(1, 11)] [] [0, 1, 2, 3, 4, 5, 6, 7, 8, 9, 10, 13] (pureT [(121, .int .i64 0)]) (by kernel_rfl) (by kernel_rfl) ?_
      simp (maxSteps := 1000000) (disch := omega) only [push_cast, go_sem, zA, zB, zC, zD, zE, zF, simprocAttr, hnn]
      refine runD_pure rfl hvb rfl rfl ?_ ?_
      · rfl
      simp (maxSteps := 1000000) (disch := omega) only [push_cast, go_sem, zA, zB, zC, zD, zE, zF, simprocAttr, hγ2', htl]
      intro g76
      refine ⟨by omega, fun γ1 c1 _ => ?_⟩
      refine hJ2 ⟨j + 1, 3, γ1, c1⟩ _ _ ⟨by dsimp only; omega, .inr rfl⟩ (by dsimp only; omega) ?_
      dsimp only
      rw [htk, List.map_append, List.map_append]
      (refine Less.start ?_; repeat (first | exact LessO.nil | exact LessO.all | refine LessO.skip (by decide) ?_ | refine LessO.upd ?_ ?_ | refine LessO.set ?_ ?_)) <;> (try simp (maxSteps := 1000000) (disch := omega) only [push_cast, go_sem, zA, zB, zC, zD, zE, zF, simprocAttr])
      all_goals simp [hls]
  have : j = 3 := by omega
  subst this
  have htt : x.od.take 3 = x.od := List.take_of_length_le (by omega)
  rw [htt]
  simp (maxSteps := 1000000) (disch := omega) only [push_cast, go_sem, zA, zB, zC, zD, zE, zF, simprocAttr]
  refine Sat.freezeC 7 [] 0 0 (n0 := .own 28 (some g7) 1 [.agg [.own e γ c ((rdK f (scene p).ds k).map (V.int .i64)), .own e2 γ2 c2 ((x.od.map (lsF f)).map (V.int .i64))]]) (d := .own e γ c ((rdK f (scene p).ds k).map (V.int .i64))) ?_ rfl rfl ?_
  · rfl
  have e1 : (V.own e γ c ((rdK f (scene p).ds k).map (V.int .i64))).fz = .sl ((rdK f (scene p).ds k).map (V.int .i64)) := by simp only [V.fz, fzs_map, fzs_int]
  rw [e1]
  refine Sat.freezeC 7 [] 0 1 (n0 := .own 28 (some g7) 1 [.agg [.sl ((rdK f (scene p).ds k).map (V.int .i64)), .own e2 γ2 c2 ((x.od.map (lsF f)).map (V.int .i64))]]) (d := .own e2 γ2 c2 ((x.od.map (lsF f)).map (V.int .i64))) ?_ rfl rfl ?_
  · rfl
  have e2 : (V.own e2 γ2 c2 ((x.od.map (lsF f)).map (V.int .i64))).fz = .sl ((x.od.map (lsF f)).map (V.int .i64)) := by simp only [V.fz, fzs_map, fzs_int]
  rw [e2]
  refine Sat.of (S := []) (by kernel_rfl) ?_
  simp (maxSteps := 1000000) (disch := omega) only [push_cast, go_sem, zA, zB, zC, zD, zE, zF, simprocAttr]
end Go.Proofs.YtfbgabkcjjahiaaGreatDoor
namespace Go.Proofs.YtfbgabkcjjahiaaGreatDoor
open Go.RowKit
set_option pp.maxSteps 3000

/-- A net: rows of whether an event must be ahead of another one. -/
def netL (R : Nat → Nat → Bool) (n : Nat) : List (List Bool) := (List.range n).map fun a => (List.range n).map (R a)
def boolsV (l : List Bool) : V := .sl (l.map V.bool)
theorem boolsV_eq (l : List Bool) : boolsV l = .sl (l.map V.bool) := rfl
def netE (L : List (List Bool)) : V := .eptr [.sl (L.map boolsV)]
theorem netE_eq (L : List (List Bool)) : netE L = .eptr [.sl (L.map boolsV)] := rfl
@[push_cast] theorem fzs_bl (l : List Bool) : (l.map V.bool).map V.fz = l.map V.bool := by rw [List.map_map]; exact List.map_congr_left fun d _ => rfl
@[push_cast] theorem flatL_bl (l : List Bool) : flatL (l.map V.bool) = true := by simp [flatL, V.cells, V.flatC]
@[push_cast] theorem fzs_bls (l : List (List Bool)) : (l.map boolsV).map V.fz = l.map boolsV := by rw [List.map_map]; exact List.map_congr_left fun d _ => rfl
theorem netL_len (R : Nat → Nat → Bool) (n : Nat) : (netL R n).length = n := by simp [netL]
theorem netL_get {R : Nat → Nat → Bool} {n a : Nat} (ha : a < n) : (netL R n)[a]? = some ((List.range n).map (R a)) := by
  rw [netL, List.getElem?_map, List.getElem?_range ha]; rfl
theorem netL_congr {R R' : Nat → Nat → Bool} {n : Nat} (h : ∀ a b, a < n → b < n → R a b = R' a b) : netL R n = netL R' n :=
  List.map_congr_left fun a ha => List.map_congr_left fun b hb => h a b (List.mem_range.1 ha) (List.mem_range.1 hb)
@[push_cast] theorem okY_bl (l : List Bool) : okY Tryz.prog 4 (l.map V.bool) = True := by
  simp only [okY, List.mem_map, eq_iff_iff, iff_true]
  rintro y ⟨d, _, rfl⟩
  exact ⟨by rw [szT_4]; rfl, by simp [V.cells, V.one]⟩
/-- A row that is its own. -/
structure RowN where
  e : TypeId
  γ : Option Nat
  c : Nat
  l : List Bool
def RowN.V (x : RowN) : V := .own x.e x.γ x.c (x.l.map V.bool)
theorem RowN.V_eq (x : RowN) : x.V = .own x.e x.γ x.c (x.l.map V.bool) := rfl
theorem fz_rowN (x : RowN) : x.V.fz = boolsV x.l := by simp only [RowN.V, V.fz, fzs_map, fzs_bl, boolsV]
theorem fz_rowsN (xs : List RowN) : (xs.map RowN.V).map V.fz = (xs.map RowN.l).map boolsV := by
  rw [List.map_map, List.map_map]; exact List.map_congr_left fun d _ => fz_rowN d
/-- A net as it lies in an object. -/
def netO (g : Nat) (e : TypeId) (γ : Option Nat) (c : Nat) (xs : List RowN) : V := .own 140 (some g) 1 [.agg [.own e γ c (xs.map RowN.V)]]
theorem netO_eq (g : Nat) (e : TypeId) (γ : Option Nat) (c : Nat) (xs : List RowN) : netO g e γ c xs = .own 140 (some g) 1 [.agg [.own e γ c (xs.map RowN.V)]] := rfl
theorem ncopy_fn (L : List (List Bool)) (hn : L.length ≤ 62) (hr : ∀ l ∈ L, l.length ≤ 62) :
    Fc Tryz.prog 104 [netE L] noM (fun r m => ∃ ob, (∃ g e γ c xs, r = .ptr 100 [] 0 0 g 1 ∧ ob = netO g e γ c xs ∧ (γ = none ∨ e = 132) ∧ (∀ x ∈ xs, x.γ = none ∨ x.e = 4) ∧ xs.map RowN.l = L) ∧ m = noM.set 100 ob) := by
  refine Fc.rekeyP (R' := fun r m => ∃ g e γ c xs, r = .ptr 2 [] 0 0 g 1 ∧ m = noM.set 2 (netO g e γ c xs) ∧ (γ = none ∨ e = 132) ∧ (∀ x ∈ xs, x.γ = none ∨ x.e = 4) ∧ xs.map RowN.l = L) ?_ ?_
  rotate_left
  · rintro r m ⟨g, e, γ, c, xs, rfl, rfl, h1, h2, h3⟩
    exact ⟨2, g, 1, _, rfl, rfl, _, ⟨g, e, γ, c, xs, rfl, rfl, h1, h2, h3⟩, era_set rfl⟩
  refine Fc.start (S := []) Tryz.func104 Tryz.ntmps104 Tryz.results104 rfl (by decide) rfl (by kernel_rfl) ?_
  simp (maxSteps := 1000000) (disch := omega) only [push_cast, go_sem, zA, zB, zC, zD, zE, zF, simprocAttr, netE_eq]
  intro g3
  refine Sat.loop (σ := EvS × List RowN) (fun x => upd (upd (upd noT 0 (.eptr [.sl (L.map boolsV)])) 3 (.ptr 3 [] 0 0 g3 1)) 4 (.int .i64 x.1.k)) (fun x => noM.set 3 (.own 140 (some g3) 1 [.agg [.own x.1.e x.1.γ x.1.c (x.2.map RowN.V)]]))
    (fun x => x.1.k ≤ L.length ∧ (x.1.γ = none ∨ x.1.e = 132) ∧ (∀ y ∈ x.2, y.γ = none ∨ y.e = 4) ∧ x.2.map RowN.l = L.take x.1.k) (fun x => L.length - x.1.k) (⟨0, 0, none, 0⟩, []) (by simp) ?_ ?_
  · (refine Less.start ?_; repeat (first | exact LessO.nil | exact LessO.all | refine LessO.skip (by decide) ?_ | refine LessO.upd ?_ ?_ | refine LessO.set ?_ ?_)) <;> (try simp (maxSteps := 1000000) (disch := omega) only [push_cast, go_sem, zA, zB, zC, zD, zE, zF, simprocAttr])
  rintro ⟨⟨k, e, γ, c⟩, xs⟩ ⟨hk, hγ, hxe, hxs⟩ J hJ
  simp only at hk hγ hxe hxs hJ
  refine Sat.of (S := []) (by kernel_rfl) ?_
  rcases Nat.lt_or_ge k L.length with hlt | hge
  · obtain ⟨row, hrow⟩ : ∃ row, L[k]? = some row := ⟨_, List.getElem?_eq_getElem hlt⟩
    have hrl := hr row (List.mem_of_getElem? hrow)
    have hγ' : (γ = none ∨ e = 132) = True := by simp only [hγ]
    have hxl : xs.length = k := by have := congrArg List.length hxs; rw [List.length_map, List.length_take, Nat.min_eq_left hk] at this; exact this
    simp (maxSteps := 1000000) (disch := omega) only [push_cast, go_sem, zA, zB, zC, zD, zE, zF, simprocAttr, hlt]
    refine Sat.drawnE [(4, 5), (4, 9), (5, 9), (4, 12), (5, 12), (4, 13), (4, 14)] [] [] (fun _ _ _ => none) (by kernel_rfl) (by kernel_rfl) ?_
    simp (maxSteps := 1000000) (disch := omega) only [push_cast, go_sem, zA, zB, zC, zD, zE, zF, simprocAttr, hrow, hlt, boolsV_eq, hγ']
    intro g21
    refine ⟨by omega, fun γ5 c5 _ => ?_⟩
    intro g30
    cases hfl : (V.own 4 γ5 c5 (row.map V.bool)).flatC <;> simp (maxSteps := 1000000) (disch := omega) only [push_cast, go_sem, zA, zB, zC, zD, zE, zF, simprocAttr, hγ', hfl]
    all_goals
      refine ⟨by omega, fun γ6 c6 _ => ?_⟩
      refine hJ (⟨k + 1, 132, γ6, c6⟩, xs ++ [⟨4, γ5, c5, row⟩]) _ _ ⟨by dsimp only; omega, .inr rfl, ?_, ?_⟩ (by dsimp only; omega) ?_
      · intro y hy
        rcases List.mem_append.1 hy with hy | hy
        · exact hxe y hy
        · obtain rfl := List.mem_singleton.1 hy; exact .inr rfl
      · dsimp only
        rw [List.map_append, hxs, take_get hrow]
        rfl
      · (refine Less.start ?_; repeat (first | exact LessO.nil | exact LessO.all | refine LessO.skip (by decide) ?_ | refine LessO.upd ?_ ?_ | refine LessO.set ?_ ?_)) <;> (try simp (maxSteps := 1000000) (disch := omega) only [push_cast, go_sem, zA, zB, zC, zD, zE, zF, simprocAttr])
        all_goals simp [RowN.V]
  · have : k = L.length := by omega
    subst this
    simp (maxSteps := 1000000) (disch := omega) only [push_cast, go_sem, zA, zB, zC, zD, zE, zF, simprocAttr]
    refine ⟨_, ?_, g3, e, γ, c, xs, rfl, rfl, hγ, hxe, by rw [hxs, List.take_length]⟩
    ((repeat (first | exact Sub.no | refine Sub.set ?_ ?_)) <;> (try simp (disch := omega) only [push_cast, go_sem, zA, zB, zC, zD, zE, zF, simprocAttr]))
    rw [netO_eq]
@[push_cast] theorem modBool (l : List Bool) (k : Nat) (z : Bool) : (l.map V.bool).modify k (fun x => x.setC 0 (V.bool z)) = (l.set k z).map V.bool := by
  apply List.ext_getElem?
  intro i
  rw [List.getElem?_modify, List.getElem?_map, List.getElem?_map, List.getElem?_set]
  by_cases h : k = i
  · subst h
    cases hl : l[k]? with
    | none => have := List.getElem?_eq_none_iff.1 hl; simp; omega
    | some a => have := (List.getElem?_eq_some_iff.1 hl).1; simp [this, V.setC]
  · simp [h]
@[push_cast] theorem modRow (xs : List RowN) (a : Nat) (e : TypeId) (γ : Option Nat) (c : Nat) (l : List Bool) :
    (xs.map RowN.V).modify a (fun x => x.setC 0 (V.own e γ c (l.map V.bool))) = (xs.set a ⟨e, γ, c, l⟩).map RowN.V := by
  apply List.ext_getElem?
  intro i
  rw [List.getElem?_modify, List.getElem?_map, List.getElem?_map, List.getElem?_set]
  by_cases h : a = i
  · subst h
    cases hl : xs[a]? with
    | none => have := List.getElem?_eq_none_iff.1 hl; simp; omega
    | some y => have := (List.getElem?_eq_some_iff.1 hl).1; simp [this, V.setC, RowN.V]
  · simp [h]
theorem netL_wi {R : Nat → Nat → Bool} {n a b : Nat} (ha : a < n) (hb : b < n) : (netL R n).modify a (fun l => l.set b true) = netL (wiR R a b) n := by
  apply List.ext_getElem?
  intro i
  rw [List.getElem?_modify]
  by_cases hi : i < n
  · rw [netL_get hi, netL_get hi]
    by_cases h : a = i
    · subst h
      simp only [if_true, Option.map_eq_map, Option.map_some, Option.some.injEq]
      apply List.ext_getElem?
      intro j
      rw [List.getElem?_set, List.getElem?_map, List.getElem?_map, List.length_map, List.length_range]
      by_cases hj : j < n
      · rw [List.getElem?_range hj]
        by_cases h2 : b = j
        · subst h2; simp [hj, wiR]
        · have h3 : (j == b) = false := by simp; omega
          simp [h2, wiR, h3]
      · have : (List.range n)[j]? = none := by simp; omega
        rw [this]
        by_cases h2 : b = j
        · subst h2; simp [hj]
        · simp [h2]
    · have h' : (i == a) = false := by simp; omega
      simp [h, wiR, h']
  · have e1 : (netL R n)[i]? = none := by rw [List.getElem?_eq_none_iff, netL_len]; omega
    have e2 : (netL (wiR R a b) n)[i]? = none := by rw [List.getElem?_eq_none_iff, netL_len]; omega
    rw [e1, e2]; split <;> rfl
theorem nwith_fn (R : Nat → Nat → Bool) (n a b : Nat) (hn : n ≤ 62) (ha : a < n) (hb : b < n) : Fp Tryz.prog 107 [netE (netL R n), .int .i64 a, .int .i64 b] (netE (netL (wiR R a b) n)) := by
  have hNl := netL_len R n
  have hcp := ncopy_fn (netL R n) (by rw [hNl]; exact hn) (fun l hl => by
    simp only [netL, List.mem_map] at hl
    obtain ⟨i, _, rfl⟩ := hl
    simp; exact hn)
  rw [netE_eq] at hcp
  refine Fc.start (S := [2, 3]) Tryz.func107 Tryz.ntmps107 Tryz.results107 rfl (by decide) rfl (by kernel_rfl) ?_
  simp (maxSteps := 1000000) (disch := omega) only [push_cast, go_sem, zA, zB, zC, zD, zE, zF, simprocAttr, netE_eq]
  refine callR.new hcp rfl rfl ?_
  rintro r ob ⟨g, e, γ, c, xs, rfl, rfl, h1, h2, h3⟩
  simp (maxSteps := 1000000) (disch := omega) only [push_cast, go_sem, zA, zB, zC, zD, zE, zF, simprocAttr, netO_eq]
  have hxl : xs.length = n := by have := congrArg List.length h3; rw [List.length_map, hNl] at this; exact this
  refine Sat.someP (o := 7) (q := [(0, 0)]) (e := e) (γ := γ) (cap := c) (es := xs.map RowN.V) rfl ?_ ?_
  · intro h0
    have := congrArg List.length h0
    rw [List.length_map, hxl] at this; simp at this; omega
  rintro g1 rfl
  obtain rfl : e = 132 := h1.resolve_left nofun
  obtain ⟨⟨e1, γ1, c1, l1⟩, hrow⟩ : ∃ row, xs[a]? = some row := ⟨_, List.getElem?_eq_getElem (by omega)⟩
  have hl1 : l1 = (List.range n).map (R a) := by
    have := netL_get (R := R) ha
    rw [← h3, List.getElem?_map, hrow] at this
    simpa using this
  have hll : l1.length = n := by rw [hl1]; simp
  refine Sat.someP (o := 7) (q := [(0, 0), (a, 0)]) (e := e1) (γ := γ1) (cap := c1) (es := l1.map V.bool) ?_ ?_ ?_
  · simp [Mem.getP, Mem.set, V.getP, V.cellAt, hrow, RowN.V, V.cells]
  · intro h0
    have := congrArg List.length h0
    rw [List.length_map, hll] at this; simp at this; omega
  rintro g2 rfl
  obtain rfl : e1 = 4 := (h2 _ (List.mem_of_getElem? hrow)).resolve_left nofun
  obtain ⟨z, hz⟩ : ∃ z, l1[b]? = some z := ⟨_, List.getElem?_eq_getElem (by omega)⟩
  refine Sat.of (S := [3]) (by kernel_rfl) ?_
  simp (maxSteps := 1000000) (disch := omega) only [push_cast, go_sem, zA, zB, zC, zD, zE, zF, simprocAttr, hrow, hxl, ha, RowN.V_eq, hll, hb, hz]
  have hfin : (xs.set a ⟨4, some g2, c1, l1.set b true⟩).map RowN.l = netL (wiR R a b) n := by
    rw [← netL_wi ha hb, ← h3]
    apply List.ext_getElem?
    intro i
    rw [List.getElem?_modify, List.getElem?_map, List.getElem?_map, List.getElem?_set]
    by_cases h : a = i
    · subst h
      obtain ⟨k1, k2⟩ := List.getElem?_eq_some_iff.1 hrow
      simp [k1, k2]
    · simp [h]
  refine Sat.fixP (o := 7) (g := g) (e := 140) (cap := 1) (es := [.agg [.own 132 (some g1) c ((xs.set a ⟨4, some g2, c1, l1.set b true⟩).map RowN.V)]]) (T := upd noT 7 (netE (netL (wiR R a b) n))) rfl ?_ ?_
  · refine Fx.ptr Fx.nil rfl rfl (by kernel_rfl) ?_
    simp only [V.cells, List.drop_zero, List.map_cons, List.map_nil, V.fz, fzs_map, fz_rowsN, hfin]
  refine Sat.of (S := []) (by kernel_rfl) ?_
  simp (maxSteps := 1000000) (disch := omega) only [push_cast, go_sem, zA, zB, zC, zD, zE, zF, simprocAttr, netE_eq]
end Go.Proofs.YtfbgabkcjjahiaaGreatDoor
namespace Go.Proofs.YtfbgabkcjjahiaaGreatDoor
open Go.RowKit
set_option pp.maxSteps 3000

def goneL (L : Nat → Bool) (n : Nat) : List Bool := (List.range n).map fun b => !L b
theorem goneL_len (L : Nat → Bool) (n : Nat) : (goneL L n).length = n := by simp [goneL]
theorem goneL_get {L : Nat → Bool} {n a : Nat} (ha : a < n) : (goneL L n)[a]? = some (!L a) := by
  rw [goneL, List.getElem?_map, List.getElem?_range ha]; rfl
theorem goneL_zero (n : Nat) : goneL (fun x => decide (x < n)) n = List.replicate n false := by
  rw [goneL, List.eq_replicate_iff]
  refine ⟨by simp, fun b hb => ?_⟩
  simp only [List.mem_map, List.mem_range] at hb
  obtain ⟨i, hi, rfl⟩ := hb
  simp [hi]
theorem goneL_set {L : Nat → Bool} {n z : Nat} (hz : z < n) : (goneL L n).set z true = goneL (fun x => L x && !(x == z)) n := by
  apply List.ext_getElem?
  intro i
  rw [List.getElem?_set, goneL_len]
  by_cases hi : i < n
  · rw [goneL_get hi, goneL_get hi]
    by_cases h : z = i
    · subst h; simp [hi]
    · have h2 : (i == z) = false := by simp; omega
      simp [h, h2]
  · have e1 : (goneL L n)[i]? = none := by rw [List.getElem?_eq_none_iff, goneL_len]; omega
    have e2 : (goneL (fun x => L x && !(x == z)) n)[i]? = none := by rw [List.getElem?_eq_none_iff, goneL_len]; omega
    rw [e1, e2]
    by_cases h : z = i
    · subst h; simp [hi]
    · simp [h]
def frB (R : Nat → Nat → Bool) (L : Nat → Bool) (b a : Nat) : Bool := L b && (List.range a).all fun x => !L x || !R x b
theorem frB_succ (R : Nat → Nat → Bool) (L : Nat → Bool) (b a : Nat) : frB R L b (a + 1) = (frB R L b a && (!L a || !R a b)) := by
  simp [frB, List.range_succ, Bool.and_assoc]
theorem frB_no {R : Nat → Nat → Bool} {L : Nat → Bool} {n b : Nat} : ∀ {a : Nat}, frB R L b a = false → a ≤ n → freeE R n L b = false := by
  intro a h hle
  cases hf : freeE R n L b
  · rfl
  · rw [free_iff] at hf
    have : frB R L b a = true := by
      simp only [frB, Bool.and_eq_true, List.all_eq_true, List.mem_range, Bool.or_eq_true, Bool.not_eq_true']
      refine ⟨hf.1, fun x hx => ?_⟩
      cases hl : L x
      · exact .inl rfl
      · exact .inr (hf.2 x (by omega) hl)
    rw [this] at h; cases h
def optZ : Option Nat → Int
  | some z => z
  | none => -1
theorem holds_fn (R : Nat → Nat → Bool) (n : Nat) (hn : n ≤ 62) : Fp Tryz.prog 63 [netE (netL R n)] (.bool (lineE R n).isSome) := by
  have hNl := netL_len R n
  refine Fc.start (S := []) Tryz.func63 Tryz.ntmps63 Tryz.results63 rfl (by decide) rfl (by kernel_rfl) ?_
  simp (maxSteps := 1000000) (disch := omega) only [push_cast, go_sem, zA, zB, zC, zD, zE, zF, simprocAttr, netE_eq, hNl]
  refine ⟨by omega, fun gr => ?_⟩
  refine Sat.loop (σ := Nat × (Nat → Bool)) (fun x => upd (upd (upd noT 0 (.eptr [.sl ((netL R n).map boolsV)])) 3 (.msl 3 [] (some gr) n n)) 4 (.int .i64 x.1)) (fun x => noM.set 3 (.own 4 (some gr) n ((goneL x.2 n).map V.bool)))
    (fun x => cntE n x.2 = x.1 ∧ x.1 ≤ n ∧ (lineE R n).isSome = (elimE R n x.1 x.2).isSome) (fun x => x.1) (n, fun x => decide (x < n)) ⟨cnt_all, Nat.le_refl _, rfl⟩ ?_ ?_
  · (refine Less.start ?_; repeat (first | exact LessO.nil | exact LessO.all | refine LessO.skip (by decide) ?_ | refine LessO.upd ?_ ?_ | refine LessO.set ?_ ?_)) <;> (try simp (maxSteps := 1000000) (disch := omega) only [push_cast, go_sem, zA, zB, zC, zD, zE, zF, simprocAttr])
    all_goals rw [goneL_zero]; simp
  rintro ⟨k, L⟩ ⟨hc, hk, hline⟩ J hJ
  simp only at hc hk hline hJ
  refine Sat.of (S := []) (by kernel_rfl) ?_
  cases k with
  | zero =>
    simp (maxSteps := 1000000) (disch := omega) only [push_cast, go_sem, zA, zB, zC, zD, zE, zF, simprocAttr]
    rw [hline, elimE]; rfl
  | succ k =>
    rw [elimE] at hline
    have hg := goneL_len L n
    have hk0 : (0 : Int) < (k : Int) + 1 := by omega
    simp (maxSteps := 1000000) (disch := omega) only [push_cast, go_sem, zA, zB, zC, zD, zE, zF, simprocAttr, hk0]
    refine Sat.loop (σ := Nat × Option Nat) (fun x => upd (upd (upd (upd (upd noT 0 (.eptr [.sl ((netL R n).map boolsV)])) 3 (.msl 3 [] (some gr) n n)) 4 (.int .i64 (k + 1 : Nat))) 5 (.int .i64 (optZ x.2))) 6 (.int .i64 x.1)) (fun x => noM.set 3 (.own 4 (some gr) n ((goneL L n).map V.bool)))
      (fun x => x.1 ≤ n ∧ (x.2 = none → ∀ j, j < x.1 → freeE R n L j = false) ∧ ∀ z, x.2 = some z → z < n ∧ pickE R n L = some z) (fun x => n - x.1) (0, none) ⟨by omega, fun _ j hj => absurd hj (Nat.not_lt_zero j), fun z hz => by cases hz⟩ ?_ ?_
    · (refine Less.start ?_; repeat (first | exact LessO.nil | exact LessO.all | refine LessO.skip (by decide) ?_ | refine LessO.upd ?_ ?_ | refine LessO.set ?_ ?_)) <;> (try simp (maxSteps := 1000000) (disch := omega) only [push_cast, go_sem, zA, zB, zC, zD, zE, zF, simprocAttr])
      all_goals rfl
    rintro ⟨b, o⟩ ⟨hb, hno, hso⟩ J2 hJ2
    simp only at hb hno hso hJ2
    refine Sat.of (S := []) (by kernel_rfl) ?_
    cases o with
    | some z =>
      obtain ⟨hz, hpk⟩ := hso z rfl
      rw [hpk] at hline
      have hz0 : ¬ ((z : Int) < 0) := by omega
      have hset := goneL_set (L := L) hz
      have hcr := cnt_rem (L := L) (free_iff.1 (pick_some hpk).2).1 hz
      have hgz := goneL_get (L := L) hz
      have e1 : optZ (some z) = (z : Int) := rfl
      by_cases hbn : b < n
      all_goals
        simp (maxSteps := 1000000) (disch := omega) only [push_cast, go_sem, zA, zB, zC, zD, zE, zF, simprocAttr, e1, hz0, hbn, hNl, hg, hz, hgz]
        refine hJ (k, fun x => L x && !(x == z)) _ _ ⟨by dsimp only; omega, by dsimp only; omega, ?_⟩ (by dsimp only; omega) ?_
        · dsimp only
          rw [hline]
          show (Option.map (z :: ·) (elimE R n k fun x => L x && !(x == z))).isSome = _
          rw [Option.isSome_map]
        · dsimp only
          rw [← hset]
          (refine Less.start ?_; repeat (first | exact LessO.nil | exact LessO.all | refine LessO.skip (by decide) ?_ | refine LessO.upd ?_ ?_ | refine LessO.set ?_ ?_)) <;> (try simp (maxSteps := 1000000) (disch := omega) only [push_cast, go_sem, zA, zB, zC, zD, zE, zF, simprocAttr])
    | none =>
      have hno' := hno rfl
      have e1 : optZ none = -1 := rfl
      rcases Nat.lt_or_ge b n with hbn | hbn
      · have hgb := goneL_get (L := L) hbn
        simp (maxSteps := 1000000) (disch := omega) only [push_cast, go_sem, zA, zB, zC, zD, zE, zF, simprocAttr, e1, hbn, hNl, hg, hgb]
        refine Sat.loop (σ := Nat × Bool) (fun x => upd (upd (upd (upd (upd (upd (upd noT 0 (.eptr [.sl ((netL R n).map boolsV)])) 3 (.msl 3 [] (some gr) n n)) 4 (.int .i64 (k + 1 : Nat))) 5 (.int .i64 (-1))) 6 (.int .i64 b)) 7 (.bool x.2)) 8 (.int .i64 x.1)) (fun x => noM.set 3 (.own 4 (some gr) n ((goneL L n).map V.bool)))
          (fun x => x.1 ≤ n ∧ x.2 = frB R L b x.1) (fun x => n - x.1) (0, L b) ⟨by dsimp only; omega, by simp [frB]⟩ ?_ ?_
        · (refine Less.start ?_; repeat (first | exact LessO.nil | exact LessO.all | refine LessO.skip (by decide) ?_ | refine LessO.upd ?_ ?_ | refine LessO.set ?_ ?_)) <;> (try simp (maxSteps := 1000000) (disch := omega) only [push_cast, go_sem, zA, zB, zC, zD, zE, zF, simprocAttr])
          all_goals first | rfl | simp
        rintro ⟨a, fr⟩ ⟨ha, hfr⟩ J3 hJ3
        simp only at ha hfr hJ3
        refine Sat.of (S := []) (by kernel_rfl) ?_
        cases fr with
        | false =>
          have hff := frB_no (n := n) hfr.symm ha
          by_cases han : a < n
          all_goals
            simp (maxSteps := 1000000) (disch := omega) only [push_cast, go_sem, zA, zB, zC, zD, zE, zF, simprocAttr, han, hNl]
            refine hJ2 (b + 1, none) _ _ ⟨by dsimp only; omega, fun _ j hj => ?_, fun z hz => by cases hz⟩ (by dsimp only; omega) ?_
            · rcases Nat.lt_or_ge j b with h | h
              · exact hno' j h
              · have : j = b := by dsimp only at hj; omega
                rw [this]; exact hff
            · (refine Less.start ?_; repeat (first | exact LessO.nil | exact LessO.all | refine LessO.skip (by decide) ?_ | refine LessO.upd ?_ ?_ | refine LessO.set ?_ ?_)) <;> (try simp (maxSteps := 1000000) (disch := omega) only [push_cast, go_sem, zA, zB, zC, zD, zE, zF, simprocAttr])
              all_goals rfl
        | true =>
          rcases Nat.lt_or_ge a n with han | han
          · have hga := goneL_get (L := L) han
            have hna := netL_get (R := R) han
            have hnb : (List.range n)[b]? = some b := List.getElem?_range hbn
            cases hL : L a
            · rw [hL] at hga
              simp (maxSteps := 1000000) (disch := omega) only [push_cast, go_sem, zA, zB, zC, zD, zE, zF, simprocAttr, han, hNl, hg, hga]
              refine hJ3 (a + 1, true) _ _ ⟨by dsimp only; omega, by dsimp only; rw [frB_succ, ← hfr, hL]; rfl⟩ (by dsimp only; omega) ?_
              (refine Less.start ?_; repeat (first | exact LessO.nil | exact LessO.all | refine LessO.skip (by decide) ?_ | refine LessO.upd ?_ ?_ | refine LessO.set ?_ ?_)) <;> (try simp (maxSteps := 1000000) (disch := omega) only [push_cast, go_sem, zA, zB, zC, zD, zE, zF, simprocAttr])
            · rw [hL] at hga
              simp (maxSteps := 1000000) (disch := omega) only [push_cast, go_sem, zA, zB, zC, zD, zE, zF, simprocAttr, han, hNl, hg, hga, hna, boolsV_eq, hnb, hbn, List.length_range]
              refine hJ3 (a + 1, !R a b) _ _ ⟨by dsimp only; omega, by dsimp only; rw [frB_succ, ← hfr, hL]; simp⟩ (by dsimp only; omega) ?_
              (refine Less.start ?_; repeat (first | exact LessO.nil | exact LessO.all | refine LessO.skip (by decide) ?_ | refine LessO.upd ?_ ?_ | refine LessO.set ?_ ?_)) <;> (try simp (maxSteps := 1000000) (disch := omega) only [push_cast, go_sem, zA, zB, zC, zD, zE, zF, simprocAttr])
          · have : a = n := by omega
            subst this
            have hfe : freeE R a L b = true := hfr.symm
            simp (maxSteps := 1000000) (disch := omega) only [push_cast, go_sem, zA, zB, zC, zD, zE, zF, simprocAttr, hNl]
            refine hJ2 (b + 1, some b) _ _ ⟨by dsimp only; omega, nofun, fun z hz => ?_⟩ (by dsimp only; omega) ?_
            · cases hz
              exact ⟨hbn, find_some hbn hfe hno'⟩
            · (refine Less.start ?_; repeat (first | exact LessO.nil | exact LessO.all | refine LessO.skip (by decide) ?_ | refine LessO.upd ?_ ?_ | refine LessO.set ?_ ?_)) <;> (try simp (maxSteps := 1000000) (disch := omega) only [push_cast, go_sem, zA, zB, zC, zD, zE, zF, simprocAttr])
              all_goals rfl
      · have : b = n := by omega
        subst this
        have hpk : pickE R b L = none := find_none hno'
        rw [hpk] at hline
        simp (maxSteps := 1000000) (disch := omega) only [push_cast, go_sem, zA, zB, zC, zD, zE, zF, simprocAttr, e1, hNl]
        rw [hline]; rfl
end Go.Proofs.YtfbgabkcjjahiaaGreatDoor
