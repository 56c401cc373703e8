/-
  Rings, in plain words: the first of the shortest, by going on to the least each time, and by going back from dead ends. The first ring of a length that begins with an event, by the program. The reference's nets: copied, with one more, held. The reference: whether a net holds. What must be ahead of what, by the reference: what stays, what is told. What must be ahead of what, by the reference: what is told; ranks; all together. Draws: a program and one way in which all may have been, mostly. What the reference looks at: made. OrderHas, by the reference. The reference: the net of an order; that with all that was read, and written.
-/
import Derived.Test.YtfdbminedccccaaGreatDoorMe
/-! ## Rings, in plain words: the first of the shortest, by going on to the least each time, and by going back from dead ends -/
namespace Go.Proofs.YtfdbminedccccaaGreatDoor
set_option linter.unusedSimpArgs false
set_option linter.unusedVariables false

/-- Each must be ahead of the next: from one through some to another one. -/
def ch (R : Nat → Nat → Bool) : Nat → List Nat → Nat → Prop
  | x, [], t => R x t = true
  | x, y :: l, t => R x y = true ∧ ch R y l t
theorem ch_join {R : Nat → Nat → Bool} {y t : Nat} {l2 : List Nat} : ∀ {l1 : List Nat} {x : Nat}, ch R x (l1 ++ y :: l2) t ↔ ch R x l1 y ∧ ch R y l2 t
  | [], x => Iff.rfl
  | z :: l1, x => by
    rw [List.cons_append, ch, ch, ch_join (l1 := l1), and_assoc]
theorem bk_zero (R : Nat → Nat → Bool) (n lo x : Nat) : bkS R n lo 0 x = (x == lo) := rfl
theorem bk_succ {R : Nat → Nat → Bool} {n lo k x : Nat} : bkS R n lo (k + 1) x = true ↔ lo ≤ x ∧ ∃ b, b < n ∧ R x b = true ∧ bkS R n lo k b = true := by
  rw [bkS, Bool.and_eq_true, decide_eq_true_eq, List.any_eq_true]
  refine and_congr_right fun _ => exists_congr fun b => ?_
  rw [List.mem_range, Bool.and_eq_true]
theorem bk_le {R : Nat → Nat → Bool} {n lo k x : Nat} (h : bkS R n lo k x = true) : lo ≤ x := by
  cases k with
  | zero => rw [bk_zero, beq_iff_eq] at h; omega
  | succ k => exact (bk_succ.1 h).1
theorem ch_bk {R : Nat → Nat → Bool} {n lo : Nat} (hlo : lo < n) : ∀ {l : List Nat} {x : Nat}, ch R x l lo → lo ≤ x → (∀ y ∈ l, lo ≤ y ∧ y < n) → bkS R n lo (l.length + 1) x = true
  | [], x, h, hx, _ => bk_succ.2 ⟨hx, lo, hlo, h, by simp [bkS]⟩
  | y :: l, x, h, hx, hl => bk_succ.2 ⟨hx, y, (hl y List.mem_cons_self).2, h.1, ch_bk hlo h.2 (hl y List.mem_cons_self).1 fun z hz => hl z (List.mem_cons_of_mem _ hz)⟩
theorem bk_ch {R : Nat → Nat → Bool} {n lo : Nat} : ∀ {k x : Nat}, bkS R n lo (k + 1) x = true → ∃ l, l.length = k ∧ ch R x l lo ∧ ∀ y ∈ l, y < n
  | 0, x, h => by
    obtain ⟨_, b, _, h1, h2⟩ := bk_succ.1 h
    rw [bk_zero, beq_iff_eq] at h2
    subst h2
    exact ⟨[], rfl, h1, nofun⟩
  | k + 1, x, h => by
    obtain ⟨_, b, hb, h1, h2⟩ := bk_succ.1 h
    obtain ⟨l, e, h3, h4⟩ := bk_ch h2
    exact ⟨b :: l, by simp [e], ⟨h1, h3⟩, fun y hy => by
      rcases List.mem_cons.1 hy with rfl | hy
      · exact hb
      · exact h4 y hy⟩
theorem least : ∀ (l : List Nat) (x : Nat), ∃ m ∈ x :: l, ∀ y ∈ x :: l, m ≤ y
  | [], x => ⟨x, List.mem_cons_self, fun y hy => by simp at hy; omega⟩
  | z :: l, x => by
    obtain ⟨m, h1, h2⟩ := least l z
    rcases Nat.le_total x m with h | h
    · exact ⟨x, List.mem_cons_self, fun y hy => by
        rcases List.mem_cons.1 hy with rfl | hy
        · exact Nat.le_refl _
        · exact Nat.le_trans h (h2 y hy)⟩
    · exact ⟨m, List.mem_cons_of_mem _ h1, fun y hy => by
        rcases List.mem_cons.1 hy with rfl | hy
        · exact h
        · exact h2 y hy⟩
/-- A way round can begin with its least. -/
theorem turned {R : Nat → Nat → Bool} {n x : Nat} {l : List Nat} (h : ch R x l x) (hx : x < n) (hl : ∀ y ∈ l, y < n) : ∃ m, m < n ∧ bkS R n m (l.length + 1) m = true := by
  obtain ⟨m, hm, hle⟩ := least l x
  have hn : ∀ y ∈ x :: l, y < n := fun y hy => by
    rcases List.mem_cons.1 hy with rfl | hy
    · exact hx
    · exact hl y hy
  refine ⟨m, hn m hm, ?_⟩
  rcases List.mem_cons.1 hm with rfl | hm'
  · exact ch_bk (hn _ hm) h (Nat.le_refl _) fun y hy => ⟨hle y (List.mem_cons_of_mem _ hy), hl y hy⟩
  · obtain ⟨l1, l2, rfl⟩ := List.append_of_mem hm'
    rw [ch_join] at h
    have h2 : ch R m (l2 ++ x :: l1) m := ch_join.2 ⟨h.2, h.1⟩
    have e : (l2 ++ x :: l1).length = (l1 ++ m :: l2).length := by simp; omega
    rw [← e]
    refine ch_bk (hn _ hm) h2 (Nat.le_refl _) fun y hy => ?_
    have hy2 : y ∈ x :: (l1 ++ m :: l2) := by
      simp only [List.mem_append, List.mem_cons] at hy ⊢
      rcases hy with hy | hy | hy
      · exact .inr (.inr (.inr hy))
      · exact .inl hy
      · exact .inr (.inl hy)
    exact ⟨hle y hy2, hn y hy2⟩

/-- Going on to the least from which it comes back in so many steps. -/
def grS (R : Nat → Nat → Bool) (n lo : Nat) : Nat → Nat → List Nat → Option (List Nat)
  | 0, _, row => some row
  | k + 1, at', row =>
    match (List.range n).find? fun b => decide (lo < b) && (R at' b && bkS R n lo (k + 1) b) with
    | none => none
    | some b => grS R n lo k b (row ++ [b])
/-- Going on, and back from dead ends. -/
def onS (R : Nat → Nat → Bool) (n lo : Nat) : Nat → Nat → List Nat → Option (List Nat)
  | 0, at', row => if R at' lo then some row else none
  | k + 1, at', row => (List.range n).findSome? fun b => if decide (lo < b) && (R at' b && !row.contains b) then onS R n lo k b (row ++ [b]) else none
/-- The ring of a length that begins with an event. -/
def ringS (R : Nat → Nat → Bool) (n lo size : Nat) : Option (List Nat) := if bkS R n lo size lo then grS R n lo (size - 1) lo [lo] else none

/-- No way round is shorter. -/
def NoR (R : Nat → Nat → Bool) (n s : Nat) : Prop := ∀ k m, 1 ≤ k → k < s → m < n → bkS R n m k m = false
/-- From all of a row a way leads to where it ends. -/
def RowQ (R : Nat → Nat → Bool) (n : Nat) (row : List Nat) (at' : Nat) : Prop := ∀ b ∈ row, b < n ∧ ∀ t, R at' t = true → ∃ l, l.length < row.length ∧ ch R b l t ∧ ∀ y ∈ l, y < n
theorem RowQ.one {R : Nat → Nat → Bool} {n lo : Nat} (h : lo < n) : RowQ R n [lo] lo := fun b hb => by
  simp at hb; subst hb
  exact ⟨h, fun t ht => ⟨[], by simp, ht, nofun⟩⟩
theorem RowQ.next {R : Nat → Nat → Bool} {n at' c : Nat} {row : List Nat} (h : RowQ R n row at') (hc : c < n) (hR : R at' c = true) : RowQ R n (row ++ [c]) c := fun b hb => by
  rcases List.mem_append.1 hb with hb | hb
  · obtain ⟨h1, h2⟩ := h b hb
    refine ⟨h1, fun t ht => ?_⟩
    obtain ⟨l, k1, k2, k3⟩ := h2 c hR
    refine ⟨l ++ [c], by simp; omega, ch_join.2 ⟨k2, ht⟩, fun y hy => ?_⟩
    rcases List.mem_append.1 hy with hy | hy
    · exact k3 y hy
    · simp at hy; omega
  · simp at hb; subst hb
    exact ⟨hc, fun t ht => ⟨[], by simp, ht, nofun⟩⟩
theorem RowQ.not_in {R : Nat → Nat → Bool} {n at' s b : Nat} {row : List Nat} (h : RowQ R n row at') (hno : NoR R n s) (hl : row.length < s) (hR : R at' b = true) : row.contains b = false := by
  rw [Bool.eq_false_iff]
  intro hc
  rw [List.contains_iff_mem] at hc
  obtain ⟨h1, h2⟩ := h b hc
  obtain ⟨l, k1, k2, k3⟩ := h2 b hR
  obtain ⟨m, hm, hb⟩ := turned k2 h1 k3
  rw [hno _ m (by omega) (by omega) hm] at hb
  cases hb
theorem gr_some {R : Nat → Nat → Bool} {n lo s : Nat} (hlo : lo < n) (hno : NoR R n s) : ∀ (k : Nat) (at' : Nat) (row : List Nat), k < s → bkS R n lo (k + 1) at' = true → ∃ r, grS R n lo k at' row = some r
  | 0, at', row, _, _ => ⟨row, rfl⟩
  | k + 1, at', row, hk, h => by
    obtain ⟨h0, b, h1, h2, h3⟩ := bk_succ.1 h
    have hb : lo ≠ b := by
      intro e; subst e
      rw [hno (k + 1) lo (by omega) (by omega) hlo] at h3; cases h3
    have hlb := bk_le h3
    have hs : ((List.range n).find? fun b => decide (lo < b) && (R at' b && bkS R n lo (k + 1) b)).isSome = true := by
      rw [List.find?_isSome]
      exact ⟨b, List.mem_range.2 h1, by simp [h2, h3]; omega⟩
    obtain ⟨c, hc⟩ := Option.isSome_iff_exists.1 hs
    have := List.find?_some hc
    simp only [Bool.and_eq_true] at this
    rw [grS, hc]
    exact gr_some hlo hno k c _ (by omega) this.2.2
theorem findSome_eq {f : Nat → Option (List Nat)} {q : Nat → Bool} {g : Nat → Option (List Nat)} : ∀ {l : List Nat}, (∀ b ∈ l, f b = if q b then g b else none) → (∀ b ∈ l, q b = true → ∃ r, g b = some r) → l.findSome? f = (match l.find? q with | none => none | some b => g b)
  | [], _, _ => rfl
  | a :: l, h1, h2 => by
    rw [List.findSome?_cons, List.find?_cons, h1 a List.mem_cons_self]
    cases hq : q a
    · simp only [Bool.false_eq_true, if_false]
      exact findSome_eq (fun b hb => h1 b (List.mem_cons_of_mem _ hb)) fun b hb => h2 b (List.mem_cons_of_mem _ hb)
    · obtain ⟨r, hr⟩ := h2 a List.mem_cons_self hq
      simp [hr]
theorem on_gr {R : Nat → Nat → Bool} {n lo s : Nat} (hlo : lo < n) (hno : NoR R n s) : ∀ (k : Nat) (at' : Nat) (row : List Nat), row.length + k = s → lo ≤ at' → RowQ R n row at' →
    onS R n lo k at' row = if bkS R n lo (k + 1) at' then grS R n lo k at' row else none
  | 0, at', row, _, ha, _ => by
    have e : bkS R n lo (0 + 1) at' = R at' lo := by
      rw [Bool.eq_iff_iff, bk_succ]
      constructor
      · rintro ⟨_, b, _, h1, h2⟩
        rw [bk_zero, beq_iff_eq] at h2; subst h2; exact h1
      · intro h; exact ⟨ha, lo, hlo, h, by simp [bkS]⟩
    rw [onS, e, grS]
  | k + 1, at', row, hs, ha, hI => by
    have e : onS R n lo (k + 1) at' row = grS R n lo (k + 1) at' row := by
      rw [onS, grS]
      refine findSome_eq (g := fun b => grS R n lo k b (row ++ [b])) (fun b hb => ?_) (fun b hb hq => ?_)
      · rw [List.mem_range] at hb
        by_cases h1 : lo < b
        · cases h2 : R at' b
          · simp
          · rw [hI.not_in hno (by omega) h2]
            rw [on_gr hlo hno k b (row ++ [b]) (by simp; omega) (by omega) (hI.next hb h2)]
            simp [h1]
        · simp [h1]
      · simp only [Bool.and_eq_true] at hq
        exact gr_some hlo hno k b _ (by omega) hq.2.2
    rw [e]
    cases hb : bkS R n lo (k + 1 + 1) at'
    · rw [if_neg (by simp), grS]
      have : ((List.range n).find? fun b => decide (lo < b) && (R at' b && bkS R n lo (k + 1) b)) = none := by
        rw [List.find?_eq_none]
        intro b hbn h
        simp only [Bool.and_eq_true] at h
        have := bk_succ.2 ⟨ha, b, List.mem_range.1 hbn, h.2.1, h.2.2⟩
        rw [hb] at this; cases this
      rw [this]
    · rw [if_pos rfl]
theorem ring_eq {R : Nat → Nat → Bool} {n lo size : Nat} (hlo : lo < n) (hno : NoR R n size) (hs : 1 ≤ size) : onS R n lo (size - 1) lo [lo] = ringS R n lo size := by
  rw [on_gr (s := size) hlo hno (size - 1) lo [lo] (by simp; omega) (Nat.le_refl _) (RowQ.one hlo), ringS]
  rw [show size - 1 + 1 = size from by omega]
theorem ring_none {R : Nat → Nat → Bool} {n lo size : Nat} (hlo : lo < n) (hno : NoR R n size) (hs : 1 ≤ size) (h : ringS R n lo size = none) : bkS R n lo size lo = false := by
  rw [Bool.eq_false_iff]
  intro hb
  rw [ringS, if_pos hb] at h
  obtain ⟨r, hr⟩ := gr_some hlo hno (size - 1) lo [lo] (by omega) (by rw [show size - 1 + 1 = size from by omega]; exact hb)
  rw [h] at hr; cases hr

/-- What the least way gives: each must be ahead of the next, the last ahead of the first. -/
theorem gr_ch {R : Nat → Nat → Bool} {n lo : Nat} : ∀ {k at' : Nat} {row r : List Nat}, grS R n lo k at' row = some r → bkS R n lo (k + 1) at' = true → ∃ l, r = row ++ l ∧ l.length = k ∧ ch R at' l lo ∧ ∀ y ∈ l, y < n
  | 0, at', row, r, h, hb => by
    rw [grS] at h
    obtain rfl := Option.some.inj h
    obtain ⟨_, b, _, h1, h2⟩ := bk_succ.1 hb
    rw [bk_zero, beq_iff_eq] at h2
    subst h2
    exact ⟨[], by simp, rfl, h1, nofun⟩
  | k + 1, at', row, r, h, hb => by
    rw [grS] at h
    cases hf : (List.range n).find? fun b => decide (lo < b) && (R at' b && bkS R n lo (k + 1) b) with
    | none => rw [hf] at h; cases h
    | some b =>
      rw [hf] at h
      have hq := List.find?_some hf
      have hm := List.mem_range.1 (List.mem_of_find?_eq_some hf)
      simp only [Bool.and_eq_true] at hq
      obtain ⟨l, e, h1, h2, h3⟩ := gr_ch h hq.2.2
      exact ⟨b :: l, by simp [e], by simp [h1], ⟨hq.2.1, h2⟩, fun y hy => by
        rcases List.mem_cons.1 hy with rfl | hy
        · exact hm
        · exact h3 y hy⟩
theorem ring_ch {R : Nat → Nat → Bool} {n lo size : Nat} {r : List Nat} (hs : 1 ≤ size) (h : ringS R n lo size = some r) : ∃ l, r = lo :: l ∧ l.length + 1 = size ∧ ch R lo l lo ∧ ∀ y ∈ l, y < n := by
  rw [ringS] at h
  cases hb : bkS R n lo size lo
  · rw [hb] at h; cases h
  · rw [hb, if_pos rfl] at h
    obtain ⟨l, e, h1, h2, h3⟩ := gr_ch h (by rw [show size - 1 + 1 = size from by omega]; exact hb)
    exact ⟨l, by simpa using e, by omega, h2, h3⟩
theorem ch_get {R : Nat → Nat → Bool} : ∀ {l : List Nat} {x t : Nat}, ch R x l t → ∀ (i a b : Nat), (x :: l)[i]? = some a → (l ++ [t])[i]? = some b → R a b = true
  | [], x, t, h, i, a, b, h1, h2 => by
    cases i with
    | zero => simp at h1 h2; subst h1; subst h2; exact h
    | succ i => simp at h1
  | y :: l, x, t, h, i, a, b, h1, h2 => by
    cases i with
    | zero => simp at h1 h2; subst h1; subst h2; exact h.1
    | succ i => exact ch_get h.2 i a b (by simpa using h1) (by simpa using h2)

/-- The first of all: lengths from one on, events from nought on. -/
def ringA (R : Nat → Nat → Bool) (n : Nat) : Option (List Nat) := (List.range n).findSome? fun s => (List.range n).findSome? fun a => ringS R n a (s + 1)
theorem ringA_no {R : Nat → Nat → Bool} {n : Nat} (h : ringA R n = none) : NoR R n (n + 1) := by
  rw [ringA, List.findSome?_eq_none_iff] at h
  have key : ∀ s, s ≤ n → NoR R n (s + 1) := by
    intro s
    induction s with
    | zero => intro _ k m h1 h2; omega
    | succ s ih =>
      intro hs k m h1 h2 hm
      rcases Nat.lt_or_ge k (s + 1) with hk | hk
      · exact ih (by omega) k m h1 hk hm
      · have : k = s + 1 := by omega
        subst this
        have := h s (List.mem_range.2 (by omega))
        rw [List.findSome?_eq_none_iff] at this
        exact ring_none hm (ih (by omega)) (by omega) (this m (List.mem_range.2 hm))
  exact key n (Nat.le_refl _)

/-! ### rings, and lines -/
theorem ch_ahead {R : Nat → Nat → Bool} : ∀ {l : List Nat} {x t : Nat}, ch R x l t → ∀ b, b ∈ l ++ [t] → ∃ a, a ∈ x :: l ∧ R a b = true
  | [], x, t, h, b, hb => by
    simp at hb; subst hb
    exact ⟨x, List.mem_cons_self, h⟩
  | y :: l, x, t, h, b, hb => by
    rw [List.cons_append, List.mem_cons] at hb
    rcases hb with rfl | hb
    · exact ⟨x, List.mem_cons_self, h.1⟩
    · obtain ⟨a, h1, h2⟩ := ch_ahead h.2 b hb
      exact ⟨a, List.mem_cons_of_mem _ h1, h2⟩
theorem ch_acy {R : Nat → Nat → Bool} {n x : Nat} {l : List Nat} (h : ch R x l x) (hx : x < n) (hl : ∀ y ∈ l, y < n) (ha : Acy R n) : False := by
  have hn : ∀ y ∈ x :: l, y < n := fun y hy => by
    rcases List.mem_cons.1 hy with rfl | hy
    · exact hx
    · exact hl y hy
  obtain ⟨b, _, h2, h3⟩ := ha (fun y => (x :: l).contains y) ⟨x, hx, by simp⟩
  rw [List.contains_iff_mem] at h2
  obtain ⟨a, k1, k2⟩ := ch_ahead h b (by
    rcases List.mem_cons.1 h2 with rfl | h2
    · simp
    · simp [h2])
  rw [h3 a (hn a k1) (List.contains_iff_mem.2 k1)] at k2
  cases k2
theorem twice : ∀ {l : List Nat}, ¬ l.Nodup → ∃ A z B C, l = A ++ z :: (B ++ z :: C)
  | [], h => absurd List.nodup_nil h
  | a :: l, h => by
    by_cases ha : a ∈ l
    · obtain ⟨B, C, e⟩ := List.append_of_mem ha
      exact ⟨[], a, B, C, by simp [e]⟩
    · obtain ⟨A, z, B, C, e⟩ := twice (l := l) (fun h1 => h (List.nodup_cons.2 ⟨ha, h1⟩))
      exact ⟨a :: A, z, B, C, by simp [e]⟩
theorem acy_of {R : Nat → Nat → Bool} {n : Nat} (hno : NoR R n (n + 1)) : Acy R n := by
  intro S hS
  obtain ⟨b, hb, hSb⟩ := hS
  refine Classical.byContradiction fun hc => ?_
  have pred : ∀ b, b < n → S b = true → ∃ a, a < n ∧ S a = true ∧ R a b = true := fun b hb hSb => by
    refine Classical.byContradiction fun h => hc ⟨b, hb, hSb, fun a ha hSa => ?_⟩
    rw [Bool.eq_false_iff]
    exact fun hR => h ⟨a, ha, hSa, hR⟩
  have walk : ∀ k : Nat, ∃ x l, l.length = k ∧ ch R x l b ∧ S x = true ∧ ∀ y ∈ x :: l, y < n := by
    intro k
    induction k with
    | zero =>
      obtain ⟨a, h1, h2, h3⟩ := pred b hb hSb
      exact ⟨a, [], rfl, h3, h2, fun y hy => by simp at hy; omega⟩
    | succ k ih =>
      obtain ⟨x, l, h1, h2, h3, h4⟩ := ih
      obtain ⟨a, k1, k2, k3⟩ := pred x (h4 x List.mem_cons_self) h3
      exact ⟨a, x :: l, by simp [h1], ⟨k3, h2⟩, k2, fun y hy => by
        rcases List.mem_cons.1 hy with rfl | hy
        · exact k1
        · exact h4 y hy⟩
  obtain ⟨x, l, h1, h2, h3, h4⟩ := walk n
  have hnd : ¬ (x :: l).Nodup := fun h => by
    have := nodup_leN (b := List.range n) h fun y hy => List.mem_range.2 (h4 y hy)
    rw [List.length_range, List.length_cons] at this
    omega
  obtain ⟨A, z, B, C, e⟩ := twice hnd
  have hz : z < n := h4 z (by rw [e]; simp)
  have hB : ∀ y ∈ B, y < n := fun y hy => h4 y (by rw [e]; simp [hy])
  have hl : B.length + 1 ≤ n := by
    have := congrArg List.length e
    simp at this
    omega
  have hzz : ch R z B z := by
    cases A with
    | nil =>
      simp only [List.nil_append, List.cons.injEq] at e
      obtain ⟨rfl, rfl⟩ := e
      exact (ch_join.1 h2).1
    | cons a A =>
      simp only [List.cons_append, List.cons.injEq] at e
      obtain ⟨rfl, rfl⟩ := e
      exact (ch_join.1 (ch_join.1 h2).2).1
  obtain ⟨m, hm, hbk⟩ := turned hzz hz hB
  rw [hno _ m (by omega) (by omega) hm] at hbk
  cases hbk
theorem ringA_ch {R : Nat → Nat → Bool} {n : Nat} {r : List Nat} (h : ringA R n = some r) : ∃ lo l, r = lo :: l ∧ lo < n ∧ l.length < n ∧ ch R lo l lo ∧ ∀ y ∈ l, y < n := by
  rw [ringA, List.findSome?_eq_some_iff] at h
  obtain ⟨_, s, _, e1, h, _⟩ := h
  rw [List.findSome?_eq_some_iff] at h
  obtain ⟨_, a, _, e2, h, _⟩ := h
  have hs : s < n := List.mem_range.1 (e1 ▸ by simp)
  have ha : a < n := List.mem_range.1 (e2 ▸ by simp)
  obtain ⟨l, k1, k2, k3, k4⟩ := ring_ch (by omega) h
  exact ⟨a, l, k1, ha, by omega, k3, k4⟩
theorem ringA_line (R : Nat → Nat → Bool) (n : Nat) : (ringA R n).isSome = !(lineE R n).isSome := by
  cases h : ringA R n with
  | none =>
    rw [line_acy.2 (acy_of (ringA_no h))]; rfl
  | some r =>
    obtain ⟨lo, l, _, h2, _, h3, h4⟩ := ringA_ch h
    have : (lineE R n).isSome = false := by
      rw [Bool.eq_false_iff]
      exact fun hl => ch_acy h3 h2 h4 (line_acy.1 hl)
    rw [this]; rfl
end Go.Proofs.YtfdbminedccccaaGreatDoor
/-! ## The first ring of a length that begins with an event, by the program -/
namespace Go.Proofs.YtfdbminedccccaaGreatDoor
open Go.RowKit
set_option linter.unusedSimpArgs false
set_option linter.unusedVariables false
set_option pp.maxSteps 3000

theorem bin_shl2 {b : Nat} (hb : b < 63) : binV .shl (.int .u64 2) (.int .i64 b) = some (.int .u64 ((p2 (b + 1) : Nat) : Int)) := by
  rw [p2]
  have e : min (b : Int).toNat 64 = b := by simp; omega
  have : binV .shl (.int .u64 2) (.int .i64 b) = some (.int .u64 (IntKind.u64.wrap (2 * 2 ^ (min (b : Int).toNat 64)))) := by simp only [binV]; rw [if_pos (by omega)]; rfl
  rw [this, e]
  have h1 : (2 * 2 ^ b : Int) = ((2 ^ (b + 1) : Nat) : Int) := by rw [Nat.pow_succ]; simp; omega
  rw [h1, wrap_nat (Nat.pow_lt_pow_right (by decide) (by omega))]
def shr (a b : Nat) : Nat := a / 2 ^ b
theorem bin_shr64 {a b : Nat} (ha : a < 2 ^ 64) (hb : b < 64) : binV .shr (.int .u64 a) (.int .i64 b) = some (.int .u64 ((shr a b : Nat) : Int)) := by
  rw [shr]
  have e : min (b : Int).toNat 64 = b := by simp; omega
  have : binV .shr (.int .u64 a) (.int .i64 b) = some (.int .u64 ((a : Int).fdiv (2 ^ (min (b : Int).toNat 64)))) := by simp only [binV]; rw [if_pos (by omega)]; rfl
  rw [this, e, Int.fdiv_eq_ediv_of_nonneg _ (by have := Nat.two_pow_pos b; exact Int.le_of_lt (by exact_mod_cast this))]
  have h1 : ((a : Int) / 2 ^ b) = ((a / 2 ^ b : Nat) : Int) := by simp
  rw [h1]
theorem shr_bit {f : Nat → Bool} {n lo : Nat} (hlo : lo < n) : ((((shr (msk f n) lo) &&& 1 : Nat) : Int) == 0) = !f lo := by
  have h1 : (shr (msk f n) lo).testBit 0 = f lo := by
    rw [shr, Nat.testBit_div_two_pow, Nat.zero_add, msk_bit]
    simp [hlo]
  have h2 : shr (msk f n) lo &&& 1 = if f lo then 1 else 0 := by
    rw [Nat.and_one_is_mod]
    rw [Nat.testBit_zero] at h1
    cases hf : f lo
    · rw [hf] at h1; simp at h1; simp; omega
    · rw [hf] at h1; simpa using h1
  rw [h2]
  cases f lo <;> rfl
theorem ring_fn (R : Nat → Nat → Bool) (n lo long : Nat) (hn : n ≤ 60) (hlo : lo < n) (hl1 : 1 ≤ long) (hl2 : long ≤ n) :
    Fp Tryz.prog 45 [bitsV (graphL R n), .int .i64 lo, .int .i64 long] (lineV (ringS R n lo long)) := by
  have hgl := graphL_len R n
  have hbf := back_fn R n lo long (by omega) hlo (by omega)
  have hbl := backL_len R n lo (long + 1)
  rw [bitsV_eq, bitsV_eq] at hbf
  have hbk := backL_get (R := R) (n := n) (lo := lo) (m := long + 1) (k := long) (by omega)
  have hll : long < long + 1 := by omega
  have hli : (long : Int) < (long : Int) + 1 := by omega
  have hm64 : msk (bkS R n lo long) n < 2 ^ 64 := msk64 (by omega)
  have hs64 : shr (msk (bkS R n lo long) n) lo < 2 ^ 64 := Nat.lt_of_le_of_lt (Nat.div_le_self _ _) hm64
  have hand1 : binV .and (.int .u64 (shr (msk (bkS R n lo long) n) lo : Nat)) (.int .u64 1) = some (.int .u64 ((shr (msk (bkS R n lo long) n) lo &&& 1 : Nat) : Int)) := bin_and64 hs64 (show 1 < 2 ^ 64 by decide)
  have hsb := shr_bit (f := bkS R n lo long) hlo
  refine Fp.nilT ?_
  refine Fc.start (S := [12]) Tryz.func45 Tryz.ntmps45 Tryz.results45 rfl (by decide) rfl (by kernel_rfl) ?_
  simp (maxSteps := 1000000) (disch := omega) only [push_cast, go_sem, wpS_tt, wpS_tf, wpS_ft, wpS_ff, wpCond_tt, wpCond_ff, simprocAttr, bitsV_eq]
  refine callR.pure hbf rfl rfl ?_
  simp (maxSteps := 1000000) (disch := omega) only [push_cast, go_sem, wpS_tt, wpS_tf, wpS_ft, wpS_ff, wpCond_tt, wpCond_ff, simprocAttr, hbl, hbk, hll, bitE_eq, bin_shr64 hm64 (show lo < 64 by omega), hand1, hsb, hli]
  rw [ringS]
  cases hb : bkS R n lo long lo
  · simp (maxSteps := 1000000) (disch := omega) only [push_cast, go_sem, wpS_tt, wpS_tf, wpS_ft, wpS_ff, wpCond_tt, wpCond_ff, simprocAttr]
    right
    exact ⟨6, [], .bool false, rfl, rfl⟩
  simp (maxSteps := 1000000) (disch := omega) only [push_cast, go_sem, wpS_tt, wpS_tf, wpS_ft, wpS_ff, wpCond_tt, wpCond_ff, simprocAttr]
  intro g25
  refine Sat.loop (σ := EvS × Nat × List Nat) (fun x => upd (upd (upd (upd (upd noT 0 (.sl ((graphL R n).map bitE))) 1 (.int .i64 lo)) 8 (.sl ((backL R n lo (long + 1)).map bitE))) 9 (.msl 9 [] x.1.γ x.2.2.length x.1.c)) 10 (.int .i64 x.1.k))
    (fun x => noM.set 9 (.own x.1.e x.1.γ x.1.c (x.2.2.map natE)))
    (fun x => x.1.k < long ∧ x.2.1 < n ∧ (∃ m, x.2.2.length = m + 1 ∧ x.2.2[m]? = some x.2.1) ∧ x.2.2.length + x.1.k = long ∧ (x.1.γ = none ∨ x.1.e = 3) ∧ grS R n lo x.1.k x.2.1 x.2.2 = grS R n lo (long - 1) lo [lo]) (fun x => x.1.k) (⟨long - 1, 3, some g25, 1⟩, lo, [lo]) ?_ ?_ ?_
  · exact ⟨by dsimp only; omega, hlo, ⟨0, rfl, rfl⟩, by dsimp only; simp; omega, .inr rfl, rfl⟩
  · (refine Less.start ?_; repeat (first | exact LessO.nil | exact LessO.all | refine LessO.skip (by decide) ?_ | refine LessO.upd ?_ ?_ | refine LessO.set ?_ ?_)) <;> (try simp (maxSteps := 1000000) (disch := omega) only [push_cast, go_sem, wpS_tt, wpS_tf, wpS_ft, wpS_ff, wpCond_tt, wpCond_ff, simprocAttr])
    all_goals first | rfl | omega | (simp [natE]; try omega)
  rintro ⟨⟨k, e, γ, c⟩, a, row⟩ ⟨hk, ha, ⟨m, hm1, hm2⟩, hrl, hγ, hG⟩ J hJ
  simp only at hk ha hm1 hm2 hrl hγ hG hJ
  have hγ' : (γ = none ∨ e = 3) = True := by simp only [hγ]
  cases k with
  | zero =>
    refine Sat.of (S := [12]) (by kernel_rfl) ?_
    simp (maxSteps := 1000000) (disch := omega) only [push_cast, go_sem, wpS_tt, wpS_tf, wpS_ft, wpS_ff, wpCond_tt, wpCond_ff, simprocAttr]
    refine Sat.freezeT (upd noT 9 (.sl (row.map natE))) noM 9 (e := e) (γ := γ) (cap := c) (es := row.map natE) rfl ?_ ?_
    · (refine Less.start ?_; repeat (first | exact LessO.nil | exact LessO.all | refine LessO.skip (by decide) ?_ | refine LessO.upd ?_ ?_ | refine LessO.set ?_ ?_)) <;> (try simp (maxSteps := 1000000) (disch := omega) only [push_cast, go_sem, wpS_tt, wpS_tf, wpS_ft, wpS_ff, wpCond_tt, wpCond_ff, simprocAttr])
    refine Sat.of (S := []) (by kernel_rfl) ?_
    simp (maxSteps := 1000000) (disch := omega) only [push_cast, go_sem, wpS_tt, wpS_tf, wpS_ft, wpS_ff, wpCond_tt, wpCond_ff, simprocAttr]
    left
    rw [← hG, grS]; rfl
  | succ k =>
    refine Sat.someG (o := 9) (e := e) (γ := γ) (cap := c) (es := row.map natE) rfl (fun h0 => by have := congrArg List.length h0; rw [List.length_map, hm1] at this; simp at this) ?_
    rintro g9 rfl
    obtain rfl : e = 3 := hγ.resolve_left nofun
    refine Sat.of (S := [12]) (by kernel_rfl) ?_
    have hnE : ∀ m : Nat, natE m = .int .i64 (m : Int) := fun _ => rfl
    have hkt : ((k : Int) + 1).toNat = k + 1 := by omega
    have h0k : (0 : Int) ≤ (k : Int) + 1 := by omega
    have hmi : (m : Int) < (m : Int) + 1 := by omega
    have hk0 : ((0 : Int) < (k : Int) + 1) := by omega
    have hga := graphL_get (R := R) ha
    have hbk2 := backL_get (R := R) (n := n) (lo := lo) (m := long + 1) (k := k + 1) (by omega)
    have hkl : k + 1 < long + 1 := by omega
    have hkl2 : (k : Int) + 1 < (long : Int) + 1 := by omega
    have hmm : m < m + 1 := by omega
    have hm1' : ((m : Int) + 1 - 1) = m := by omega
    obtain ⟨X, hX⟩ : ∃ X, andn (msk (R a) n &&& msk (bkS R n lo (k + 1)) n) (allB (lo + 1)) = X := ⟨_, rfl⟩
    have hX64 : X < 2 ^ 64 := by rw [← hX]; exact andn_lt _ _
    have hand : msk (R a) n &&& msk (bkS R n lo (k + 1)) n < 2 ^ 64 := Nat.and_lt_two_pow _ (msk64 (by omega))
    have hXb : ∀ b, X.testBit b = (decide (b < n) && (decide (lo < b) && (R a b && bkS R n lo (k + 1) b))) := fun b => by
      rw [← hX, andn_bit hand, Nat.testBit_and, msk_bit, msk_bit, allB_bit, Bool.eq_iff_iff]
      simp only [Bool.and_eq_true, Bool.not_eq_true', decide_eq_true_eq, decide_eq_false_iff_not]
      constructor
      · rintro ⟨⟨⟨h1, h2⟩, _, h3⟩, h4⟩; exact ⟨h1, by omega, h2, h3⟩
      · rintro ⟨h1, h2, h3, h4⟩; exact ⟨⟨⟨h1, h3⟩, h1, h4⟩, by omega⟩
    simp (maxSteps := 1000000) (disch := omega) only [push_cast, go_sem, wpS_tt, wpS_tf, wpS_ft, wpS_ff, wpCond_tt, wpCond_ff, simprocAttr, hk0]
    refine Sat.drawnE [(6, 12), (8, 12)] [] (List.range 19) (fun _ _ _ => none) (by kernel_rfl) (by kernel_rfl) ?_
    simp (maxSteps := 1000000) (disch := omega) only [push_cast, go_sem, wpS_tt, wpS_tf, wpS_ft, wpS_ff, wpCond_tt, wpCond_ff, simprocAttr, hkt, h0k, hmi, hgl, ha, hga, hbl, hbk2, hkl, hkl2, hmm, hm1, hm1', hm2, hnE, bitE_eq, bin_and64 (msk64 (f := R a) (show n ≤ 62 by omega)) (msk64 (f := bkS R n lo (k + 1)) (show n ≤ 62 by omega)), bin_shl2 (show lo < 63 by omega), wrap_all (show lo + 1 < 64 by omega), bin_andn64, hX]
    by_cases h0 : X = 0
    · have e2 : ((X : Int) == 0) = true := by rw [h0]; rfl
      have hf : ((List.range n).find? fun b => decide (lo < b) && (R a b && bkS R n lo (k + 1) b)) = none := find_none fun j hj => by
        have := hXb j
        rw [h0, Nat.zero_testBit] at this
        simpa [hj] using this.symm
      simp (maxSteps := 1000000) (disch := omega) only [push_cast, go_sem, wpS_tt, wpS_tf, wpS_ft, wpS_ff, wpCond_tt, wpCond_ff, simprocAttr, e2]
      right
      refine ⟨6, [], .bool false, rfl, ?_⟩
      rw [← hG, grS, hf]; rfl
    · have e2 : ((X : Int) == 0) = false := by simp; omega
      obtain ⟨k1, k2, k3, _⟩ := ctz_low h0 hX64
      have htz := tz_fn X hX64
      obtain ⟨z, hz⟩ : ∃ z, Go.Lib.ctz 64 X = z := ⟨_, rfl⟩
      rw [hz] at k1 k2 k3 htz
      have hzb := hXb z
      rw [k2] at hzb
      have hzb' := hzb.symm
      rw [Bool.and_eq_true, decide_eq_true_eq] at hzb'
      have hf : ((List.range n).find? fun b => decide (lo < b) && (R a b && bkS R n lo (k + 1) b)) = some z := find_some hzb'.1 hzb'.2 fun j hj => by
        have h3 := k3 j hj
        rw [hXb j] at h3
        have hjn : j < n := by omega
        simpa [hjn] using h3
      simp (maxSteps := 1000000) (disch := omega) only [push_cast, go_sem, wpS_tt, wpS_tf, wpS_ft, wpS_ff, wpCond_tt, wpCond_ff, simprocAttr, e2]
      refine callR.pure htz rfl rfl ?_
      simp (maxSteps := 1000000) (disch := omega) only [push_cast, go_sem, wpS_tt, wpS_tf, wpS_ft, wpS_ff, wpCond_tt, wpCond_ff, simprocAttr, hγ']
      intro g55
      refine ⟨by omega, fun γ4 c4 _ => ?_⟩
      refine hJ (⟨k, 3, γ4, c4⟩, z, row ++ [z]) _ _ ⟨?_, ?_, ?_, ?_, .inr rfl, ?_⟩ (by dsimp only; omega) ?_
      · dsimp only; omega
      · exact hzb'.1
      · exact ⟨m + 1, by simp [hm1], by dsimp only; rw [List.getElem?_append_right (by omega), hm1]; simp⟩
      · dsimp only; rw [List.length_append]; simp; omega
      · dsimp only
        rw [grS, hf] at hG
        exact hG
      · (refine Less.start ?_; repeat (first | exact LessO.nil | exact LessO.all | refine LessO.skip (by decide) ?_ | refine LessO.upd ?_ ?_ | refine LessO.set ?_ ?_)) <;> (try simp (maxSteps := 1000000) (disch := omega) only [push_cast, go_sem, wpS_tt, wpS_tf, wpS_ft, wpS_ff, wpCond_tt, wpCond_ff, simprocAttr])
        all_goals simp [natE]
end Go.Proofs.YtfdbminedccccaaGreatDoor
/-! ## The reference's nets: copied, with one more, held -/
namespace Go.Proofs.YtfdbminedccccaaGreatDoor
open Go.RowKit
set_option linter.unusedSimpArgs false
set_option linter.unusedVariables false
set_option pp.maxSteps 3000

/-- A net: rows of whether an event must be ahead of another one. -/
def netL (R : Nat → Nat → Bool) (n : Nat) : List (List Bool) := (List.range n).map fun a => (List.range n).map (R a)
def boolsV (l : List Bool) : V := .sl (l.map V.bool)
theorem boolsV_eq (l : List Bool) : boolsV l = .sl (l.map V.bool) := rfl
def netE (L : List (List Bool)) : V := .eptr [.sl (L.map boolsV)]
theorem netE_eq (L : List (List Bool)) : netE L = .eptr [.sl (L.map boolsV)] := rfl
@[push_cast] theorem fzs_bl (l : List Bool) : (l.map V.bool).map V.fz = l.map V.bool := by rw [List.map_map]; exact List.map_congr_left fun d _ => rfl
@[push_cast] theorem flatL_bl (l : List Bool) : flatL (l.map V.bool) = true := by simp [flatL, V.cells, V.flatC]
@[push_cast] theorem fzs_bls (l : List (List Bool)) : (l.map boolsV).map V.fz = l.map boolsV := by rw [List.map_map]; exact List.map_congr_left fun d _ => rfl
theorem netL_len (R : Nat → Nat → Bool) (n : Nat) : (netL R n).length = n := by simp [netL]
theorem netL_get {R : Nat → Nat → Bool} {n a : Nat} (ha : a < n) : (netL R n)[a]? = some ((List.range n).map (R a)) := by
  rw [netL, List.getElem?_map, List.getElem?_range ha]; rfl
theorem netL_congr {R R' : Nat → Nat → Bool} {n : Nat} (h : ∀ a b, a < n → b < n → R a b = R' a b) : netL R n = netL R' n :=
  List.map_congr_left fun a ha => List.map_congr_left fun b hb => h a b (List.mem_range.1 ha) (List.mem_range.1 hb)
@[push_cast] theorem okY_bl (l : List Bool) : okY Tryz.prog 4 (l.map V.bool) = True := by
  simp only [okY, List.mem_map, eq_iff_iff, iff_true]
  rintro y ⟨d, _, rfl⟩
  exact ⟨by rw [szT_4]; rfl, by simp [V.cells, V.one]⟩
/-- A row that is its own. -/
structure RowN where
  e : TypeId
  γ : Option Nat
  c : Nat
  l : List Bool
def RowN.V (x : RowN) : V := .own x.e x.γ x.c (x.l.map V.bool)
theorem RowN.V_eq (x : RowN) : x.V = .own x.e x.γ x.c (x.l.map V.bool) := rfl
theorem fz_rowN (x : RowN) : x.V.fz = boolsV x.l := by simp only [RowN.V, V.fz, fzs_map, fzs_bl, boolsV]
theorem fz_rowsN (xs : List RowN) : (xs.map RowN.V).map V.fz = (xs.map RowN.l).map boolsV := by
  rw [List.map_map, List.map_map]; exact List.map_congr_left fun d _ => fz_rowN d
/-- A net as it lies in an object. -/
def netO (g : Nat) (e : TypeId) (γ : Option Nat) (c : Nat) (xs : List RowN) : V := .own 100 (some g) 1 [.agg [.own e γ c (xs.map RowN.V)]]
theorem netO_eq (g : Nat) (e : TypeId) (γ : Option Nat) (c : Nat) (xs : List RowN) : netO g e γ c xs = .own 100 (some g) 1 [.agg [.own e γ c (xs.map RowN.V)]] := rfl
theorem ncopy_fn (L : List (List Bool)) (hn : L.length ≤ 62) (hr : ∀ l ∈ L, l.length ≤ 62) :
    Fc Tryz.prog 69 [netE L] noM (fun r m => ∃ ob, (∃ g e γ c xs, r = .ptr 100 [] 0 0 g 1 ∧ ob = netO g e γ c xs ∧ (γ = none ∨ e = 72) ∧ (∀ x ∈ xs, x.γ = none ∨ x.e = 4) ∧ xs.map RowN.l = L) ∧ m = noM.set 100 ob) := by
  refine Fc.rekeyP (R' := fun r m => ∃ g e γ c xs, r = .ptr 2 [] 0 0 g 1 ∧ m = noM.set 2 (netO g e γ c xs) ∧ (γ = none ∨ e = 72) ∧ (∀ x ∈ xs, x.γ = none ∨ x.e = 4) ∧ xs.map RowN.l = L) ?_ ?_
  rotate_left
  · rintro r m ⟨g, e, γ, c, xs, rfl, rfl, h1, h2, h3⟩
    exact ⟨2, g, 1, _, rfl, rfl, _, ⟨g, e, γ, c, xs, rfl, rfl, h1, h2, h3⟩, era_set rfl⟩
  refine Fc.start (S := []) Tryz.func69 Tryz.ntmps69 Tryz.results69 rfl (by decide) rfl (by kernel_rfl) ?_
  simp (maxSteps := 1000000) (disch := omega) only [push_cast, go_sem, wpS_tt, wpS_tf, wpS_ft, wpS_ff, wpCond_tt, wpCond_ff, simprocAttr, netE_eq]
  intro g3
  refine Sat.loop (σ := EvS × List RowN) (fun x => upd (upd (upd noT 0 (.eptr [.sl (L.map boolsV)])) 3 (.ptr 3 [] 0 0 g3 1)) 4 (.int .i64 x.1.k)) (fun x => noM.set 3 (.own 100 (some g3) 1 [.agg [.own x.1.e x.1.γ x.1.c (x.2.map RowN.V)]]))
    (fun x => x.1.k ≤ L.length ∧ (x.1.γ = none ∨ x.1.e = 72) ∧ (∀ y ∈ x.2, y.γ = none ∨ y.e = 4) ∧ x.2.map RowN.l = L.take x.1.k) (fun x => L.length - x.1.k) (⟨0, 0, none, 0⟩, []) (by simp) ?_ ?_
  · (refine Less.start ?_; repeat (first | exact LessO.nil | exact LessO.all | refine LessO.skip (by decide) ?_ | refine LessO.upd ?_ ?_ | refine LessO.set ?_ ?_)) <;> (try simp (maxSteps := 1000000) (disch := omega) only [push_cast, go_sem, wpS_tt, wpS_tf, wpS_ft, wpS_ff, wpCond_tt, wpCond_ff, simprocAttr])
  rintro ⟨⟨k, e, γ, c⟩, xs⟩ ⟨hk, hγ, hxe, hxs⟩ J hJ
  simp only at hk hγ hxe hxs hJ
  refine Sat.of (S := []) (by kernel_rfl) ?_
  rcases Nat.lt_or_ge k L.length with hlt | hge
  · obtain ⟨row, hrow⟩ : ∃ row, L[k]? = some row := ⟨_, List.getElem?_eq_getElem hlt⟩
    have hrl := hr row (List.mem_of_getElem? hrow)
    have hγ' : (γ = none ∨ e = 72) = True := by simp only [hγ]
    have hxl : xs.length = k := by have := congrArg List.length hxs; rw [List.length_map, List.length_take, Nat.min_eq_left hk] at this; exact this
    simp (maxSteps := 1000000) (disch := omega) only [push_cast, go_sem, wpS_tt, wpS_tf, wpS_ft, wpS_ff, wpCond_tt, wpCond_ff, simprocAttr, hlt]
    refine Sat.drawnE [(4, 5), (4, 9), (5, 9), (4, 12), (5, 12), (4, 13), (4, 14)] [] [] (fun _ _ _ => none) (by kernel_rfl) (by kernel_rfl) ?_
    simp (maxSteps := 1000000) (disch := omega) only [push_cast, go_sem, wpS_tt, wpS_tf, wpS_ft, wpS_ff, wpCond_tt, wpCond_ff, simprocAttr, hrow, hlt, boolsV_eq, hγ']
    intro g21
    refine ⟨by omega, fun γ5 c5 _ => ?_⟩
    intro g30
    cases hfl : (V.own 4 γ5 c5 (row.map V.bool)).flatC <;> simp (maxSteps := 1000000) (disch := omega) only [push_cast, go_sem, wpS_tt, wpS_tf, wpS_ft, wpS_ff, wpCond_tt, wpCond_ff, simprocAttr, hγ', hfl]
    all_goals
      refine ⟨by omega, fun γ6 c6 _ => ?_⟩
      refine hJ (⟨k + 1, 72, γ6, c6⟩, xs ++ [⟨4, γ5, c5, row⟩]) _ _ ⟨by dsimp only; omega, .inr rfl, ?_, ?_⟩ (by dsimp only; omega) ?_
      · intro y hy
        rcases List.mem_append.1 hy with hy | hy
        · exact hxe y hy
        · obtain rfl := List.mem_singleton.1 hy; exact .inr rfl
      · dsimp only
        rw [List.map_append, hxs, take_get hrow]
        rfl
      · (refine Less.start ?_; repeat (first | exact LessO.nil | exact LessO.all | refine LessO.skip (by decide) ?_ | refine LessO.upd ?_ ?_ | refine LessO.set ?_ ?_)) <;> (try simp (maxSteps := 1000000) (disch := omega) only [push_cast, go_sem, wpS_tt, wpS_tf, wpS_ft, wpS_ff, wpCond_tt, wpCond_ff, simprocAttr])
        all_goals simp [RowN.V]
  · have : k = L.length := by omega
    subst this
    simp (maxSteps := 1000000) (disch := omega) only [push_cast, go_sem, wpS_tt, wpS_tf, wpS_ft, wpS_ff, wpCond_tt, wpCond_ff, simprocAttr]
    refine ⟨_, ?_, g3, e, γ, c, xs, rfl, rfl, hγ, hxe, by rw [hxs, List.take_length]⟩
    ((repeat (first | exact Sub.no | refine Sub.set ?_ ?_)) <;> (try simp (disch := omega) only [push_cast, go_sem, wpS_tt, wpS_tf, wpS_ft, wpS_ff, wpCond_tt, wpCond_ff, simprocAttr]))
    rw [netO_eq]
@[push_cast] theorem modBool (l : List Bool) (k : Nat) (z : Bool) : (l.map V.bool).modify k (fun x => x.setC 0 (V.bool z)) = (l.set k z).map V.bool := by
  apply List.ext_getElem?
  intro i
  rw [List.getElem?_modify, List.getElem?_map, List.getElem?_map, List.getElem?_set]
  by_cases h : k = i
  · subst h
    cases hl : l[k]? with
    | none => have := List.getElem?_eq_none_iff.1 hl; simp; omega
    | some a => have := (List.getElem?_eq_some_iff.1 hl).1; simp [this, V.setC]
  · simp [h]
@[push_cast] theorem modRow (xs : List RowN) (a : Nat) (e : TypeId) (γ : Option Nat) (c : Nat) (l : List Bool) :
    (xs.map RowN.V).modify a (fun x => x.setC 0 (V.own e γ c (l.map V.bool))) = (xs.set a ⟨e, γ, c, l⟩).map RowN.V := by
  apply List.ext_getElem?
  intro i
  rw [List.getElem?_modify, List.getElem?_map, List.getElem?_map, List.getElem?_set]
  by_cases h : a = i
  · subst h
    cases hl : xs[a]? with
    | none => have := List.getElem?_eq_none_iff.1 hl; simp; omega
    | some y => have := (List.getElem?_eq_some_iff.1 hl).1; simp [this, V.setC, RowN.V]
  · simp [h]
theorem netL_wi {R : Nat → Nat → Bool} {n a b : Nat} (ha : a < n) (hb : b < n) : (netL R n).modify a (fun l => l.set b true) = netL (wiR R a b) n := by
  apply List.ext_getElem?
  intro i
  rw [List.getElem?_modify]
  by_cases hi : i < n
  · rw [netL_get hi, netL_get hi]
    by_cases h : a = i
    · subst h
      simp only [if_true, Option.map_eq_map, Option.map_some, Option.some.injEq]
      apply List.ext_getElem?
      intro j
      rw [List.getElem?_set, List.getElem?_map, List.getElem?_map, List.length_map, List.length_range]
      by_cases hj : j < n
      · rw [List.getElem?_range hj]
        by_cases h2 : b = j
        · subst h2; simp [hj, wiR]
        · have h3 : (j == b) = false := by simp; omega
          simp [h2, wiR, h3]
      · have : (List.range n)[j]? = none := by simp; omega
        rw [this]
        by_cases h2 : b = j
        · subst h2; simp [hj]
        · simp [h2]
    · have h' : (i == a) = false := by simp; omega
      simp [h, wiR, h']
  · have e1 : (netL R n)[i]? = none := by rw [List.getElem?_eq_none_iff, netL_len]; omega
    have e2 : (netL (wiR R a b) n)[i]? = none := by rw [List.getElem?_eq_none_iff, netL_len]; omega
    rw [e1, e2]; split <;> rfl
theorem nwith_fn (R : Nat → Nat → Bool) (n a b : Nat) (hn : n ≤ 62) (ha : a < n) (hb : b < n) : Fp Tryz.prog 72 [netE (netL R n), .int .i64 a, .int .i64 b] (netE (netL (wiR R a b) n)) := by
  have hNl := netL_len R n
  have hcp := ncopy_fn (netL R n) (by rw [hNl]; exact hn) (fun l hl => by
    simp only [netL, List.mem_map] at hl
    obtain ⟨i, _, rfl⟩ := hl
    simp; exact hn)
  rw [netE_eq] at hcp
  refine Fc.start (S := [2, 3]) Tryz.func72 Tryz.ntmps72 Tryz.results72 rfl (by decide) rfl (by kernel_rfl) ?_
  simp (maxSteps := 1000000) (disch := omega) only [push_cast, go_sem, wpS_tt, wpS_tf, wpS_ft, wpS_ff, wpCond_tt, wpCond_ff, simprocAttr, netE_eq]
  refine callR.new hcp rfl rfl ?_
  rintro r ob ⟨g, e, γ, c, xs, rfl, rfl, h1, h2, h3⟩
  simp (maxSteps := 1000000) (disch := omega) only [push_cast, go_sem, wpS_tt, wpS_tf, wpS_ft, wpS_ff, wpCond_tt, wpCond_ff, simprocAttr, netO_eq]
  have hxl : xs.length = n := by have := congrArg List.length h3; rw [List.length_map, hNl] at this; exact this
  refine Sat.someP (o := 7) (q := [(0, 0)]) (e := e) (γ := γ) (cap := c) (es := xs.map RowN.V) rfl ?_ ?_
  · intro h0
    have := congrArg List.length h0
    rw [List.length_map, hxl] at this; simp at this; omega
  rintro g1 rfl
  obtain rfl : e = 72 := h1.resolve_left nofun
  obtain ⟨⟨e1, γ1, c1, l1⟩, hrow⟩ : ∃ row, xs[a]? = some row := ⟨_, List.getElem?_eq_getElem (by omega)⟩
  have hl1 : l1 = (List.range n).map (R a) := by
    have := netL_get (R := R) ha
    rw [← h3, List.getElem?_map, hrow] at this
    simpa using this
  have hll : l1.length = n := by rw [hl1]; simp
  refine Sat.someP (o := 7) (q := [(0, 0), (a, 0)]) (e := e1) (γ := γ1) (cap := c1) (es := l1.map V.bool) ?_ ?_ ?_
  · simp [Mem.getP, Mem.set, V.getP, V.cellAt, hrow, RowN.V, V.cells]
  · intro h0
    have := congrArg List.length h0
    rw [List.length_map, hll] at this; simp at this; omega
  rintro g2 rfl
  obtain rfl : e1 = 4 := (h2 _ (List.mem_of_getElem? hrow)).resolve_left nofun
  obtain ⟨z, hz⟩ : ∃ z, l1[b]? = some z := ⟨_, List.getElem?_eq_getElem (by omega)⟩
  refine Sat.of (S := [3]) (by kernel_rfl) ?_
  simp (maxSteps := 1000000) (disch := omega) only [push_cast, go_sem, wpS_tt, wpS_tf, wpS_ft, wpS_ff, wpCond_tt, wpCond_ff, simprocAttr, hrow, hxl, ha, RowN.V_eq, hll, hb, hz]
  have hfin : (xs.set a ⟨4, some g2, c1, l1.set b true⟩).map RowN.l = netL (wiR R a b) n := by
    rw [← netL_wi ha hb, ← h3]
    apply List.ext_getElem?
    intro i
    rw [List.getElem?_modify, List.getElem?_map, List.getElem?_map, List.getElem?_set]
    by_cases h : a = i
    · subst h
      obtain ⟨k1, k2⟩ := List.getElem?_eq_some_iff.1 hrow
      simp [k1, k2]
    · simp [h]
  refine Sat.fixP (o := 7) (g := g) (e := 100) (cap := 1) (es := [.agg [.own 72 (some g1) c ((xs.set a ⟨4, some g2, c1, l1.set b true⟩).map RowN.V)]]) (T := upd noT 7 (netE (netL (wiR R a b) n))) rfl ?_ ?_
  · refine Fx.ptr Fx.nil rfl rfl (by kernel_rfl) ?_
    simp only [V.cells, List.drop_zero, List.map_cons, List.map_nil, V.fz, fzs_map, fz_rowsN, hfin]
  refine Sat.of (S := []) (by kernel_rfl) ?_
  simp (maxSteps := 1000000) (disch := omega) only [push_cast, go_sem, wpS_tt, wpS_tf, wpS_ft, wpS_ff, wpCond_tt, wpCond_ff, simprocAttr, netE_eq]
end Go.Proofs.YtfdbminedccccaaGreatDoor
/-! ## The reference: whether a net holds -/
namespace Go.Proofs.YtfdbminedccccaaGreatDoor
open Go.RowKit
set_option linter.unusedSimpArgs false
set_option linter.unusedVariables false
set_option pp.maxSteps 3000

def goneL (L : Nat → Bool) (n : Nat) : List Bool := (List.range n).map fun b => !L b
theorem goneL_len (L : Nat → Bool) (n : Nat) : (goneL L n).length = n := by simp [goneL]
theorem goneL_get {L : Nat → Bool} {n a : Nat} (ha : a < n) : (goneL L n)[a]? = some (!L a) := by
  rw [goneL, List.getElem?_map, List.getElem?_range ha]; rfl
theorem goneL_zero (n : Nat) : goneL (fun x => decide (x < n)) n = List.replicate n false := by
  rw [goneL, List.eq_replicate_iff]
  refine ⟨by simp, fun b hb => ?_⟩
  simp only [List.mem_map, List.mem_range] at hb
  obtain ⟨i, hi, rfl⟩ := hb
  simp [hi]
theorem goneL_set {L : Nat → Bool} {n z : Nat} (hz : z < n) : (goneL L n).set z true = goneL (fun x => L x && !(x == z)) n := by
  apply List.ext_getElem?
  intro i
  rw [List.getElem?_set, goneL_len]
  by_cases hi : i < n
  · rw [goneL_get hi, goneL_get hi]
    by_cases h : z = i
    · subst h; simp [hi]
    · have h2 : (i == z) = false := by simp; omega
      simp [h, h2]
  · have e1 : (goneL L n)[i]? = none := by rw [List.getElem?_eq_none_iff, goneL_len]; omega
    have e2 : (goneL (fun x => L x && !(x == z)) n)[i]? = none := by rw [List.getElem?_eq_none_iff, goneL_len]; omega
    rw [e1, e2]
    by_cases h : z = i
    · subst h; simp [hi]
    · simp [h]
def frB (R : Nat → Nat → Bool) (L : Nat → Bool) (b a : Nat) : Bool := L b && (List.range a).all fun x => !L x || !R x b
theorem frB_succ (R : Nat → Nat → Bool) (L : Nat → Bool) (b a : Nat) : frB R L b (a + 1) = (frB R L b a && (!L a || !R a b)) := by
  simp [frB, List.range_succ, Bool.and_assoc]
theorem frB_no {R : Nat → Nat → Bool} {L : Nat → Bool} {n b : Nat} : ∀ {a : Nat}, frB R L b a = false → a ≤ n → freeE R n L b = false := by
  intro a h hle
  cases hf : freeE R n L b
  · rfl
  · rw [free_iff] at hf
    have : frB R L b a = true := by
      simp only [frB, Bool.and_eq_true, List.all_eq_true, List.mem_range, Bool.or_eq_true, Bool.not_eq_true']
      refine ⟨hf.1, fun x hx => ?_⟩
      cases hl : L x
      · exact .inl rfl
      · exact .inr (hf.2 x (by omega) hl)
    rw [this] at h; cases h
def optZ : Option Nat → Int
  | some z => z
  | none => -1
theorem holds_fn (R : Nat → Nat → Bool) (n : Nat) (hn : n ≤ 62) : Fp Tryz.prog 37 [netE (netL R n)] (.bool (lineE R n).isSome) := by
  have hNl := netL_len R n
  refine Fc.start (S := []) Tryz.func37 Tryz.ntmps37 Tryz.results37 rfl (by decide) rfl (by kernel_rfl) ?_
  simp (maxSteps := 1000000) (disch := omega) only [push_cast, go_sem, wpS_tt, wpS_tf, wpS_ft, wpS_ff, wpCond_tt, wpCond_ff, simprocAttr, netE_eq, hNl]
  refine ⟨by omega, fun gr => ?_⟩
  refine Sat.loop (σ := Nat × (Nat → Bool)) (fun x => upd (upd (upd noT 0 (.eptr [.sl ((netL R n).map boolsV)])) 3 (.msl 3 [] (some gr) n n)) 4 (.int .i64 x.1)) (fun x => noM.set 3 (.own 4 (some gr) n ((goneL x.2 n).map V.bool)))
    (fun x => cntE n x.2 = x.1 ∧ x.1 ≤ n ∧ (lineE R n).isSome = (elimE R n x.1 x.2).isSome) (fun x => x.1) (n, fun x => decide (x < n)) ⟨cnt_all, Nat.le_refl _, rfl⟩ ?_ ?_
  · (refine Less.start ?_; repeat (first | exact LessO.nil | exact LessO.all | refine LessO.skip (by decide) ?_ | refine LessO.upd ?_ ?_ | refine LessO.set ?_ ?_)) <;> (try simp (maxSteps := 1000000) (disch := omega) only [push_cast, go_sem, wpS_tt, wpS_tf, wpS_ft, wpS_ff, wpCond_tt, wpCond_ff, simprocAttr])
    all_goals rw [goneL_zero]; simp
  rintro ⟨k, L⟩ ⟨hc, hk, hline⟩ J hJ
  simp only at hc hk hline hJ
  refine Sat.of (S := []) (by kernel_rfl) ?_
  cases k with
  | zero =>
    simp (maxSteps := 1000000) (disch := omega) only [push_cast, go_sem, wpS_tt, wpS_tf, wpS_ft, wpS_ff, wpCond_tt, wpCond_ff, simprocAttr]
    rw [hline, elimE]; rfl
  | succ k =>
    rw [elimE] at hline
    have hg := goneL_len L n
    have hk0 : (0 : Int) < (k : Int) + 1 := by omega
    simp (maxSteps := 1000000) (disch := omega) only [push_cast, go_sem, wpS_tt, wpS_tf, wpS_ft, wpS_ff, wpCond_tt, wpCond_ff, simprocAttr, hk0]
    refine Sat.loop (σ := Nat × Option Nat) (fun x => upd (upd (upd (upd (upd noT 0 (.eptr [.sl ((netL R n).map boolsV)])) 3 (.msl 3 [] (some gr) n n)) 4 (.int .i64 (k + 1 : Nat))) 5 (.int .i64 (optZ x.2))) 6 (.int .i64 x.1)) (fun x => noM.set 3 (.own 4 (some gr) n ((goneL L n).map V.bool)))
      (fun x => x.1 ≤ n ∧ (x.2 = none → ∀ j, j < x.1 → freeE R n L j = false) ∧ ∀ z, x.2 = some z → z < n ∧ pickE R n L = some z) (fun x => n - x.1) (0, none) ⟨by omega, fun _ j hj => absurd hj (Nat.not_lt_zero j), fun z hz => by cases hz⟩ ?_ ?_
    · (refine Less.start ?_; repeat (first | exact LessO.nil | exact LessO.all | refine LessO.skip (by decide) ?_ | refine LessO.upd ?_ ?_ | refine LessO.set ?_ ?_)) <;> (try simp (maxSteps := 1000000) (disch := omega) only [push_cast, go_sem, wpS_tt, wpS_tf, wpS_ft, wpS_ff, wpCond_tt, wpCond_ff, simprocAttr])
      all_goals rfl
    rintro ⟨b, o⟩ ⟨hb, hno, hso⟩ J2 hJ2
    simp only at hb hno hso hJ2
    refine Sat.of (S := []) (by kernel_rfl) ?_
    cases o with
    | some z =>
      obtain ⟨hz, hpk⟩ := hso z rfl
      rw [hpk] at hline
      have hz0 : ¬ ((z : Int) < 0) := by omega
      have hset := goneL_set (L := L) hz
      have hcr := cnt_rem (L := L) (free_iff.1 (pick_some hpk).2).1 hz
      have hgz := goneL_get (L := L) hz
      have e1 : optZ (some z) = (z : Int) := rfl
      by_cases hbn : b < n
      all_goals
        simp (maxSteps := 1000000) (disch := omega) only [push_cast, go_sem, wpS_tt, wpS_tf, wpS_ft, wpS_ff, wpCond_tt, wpCond_ff, simprocAttr, e1, hz0, hbn, hNl, hg, hz, hgz]
        refine hJ (k, fun x => L x && !(x == z)) _ _ ⟨by dsimp only; omega, by dsimp only; omega, ?_⟩ (by dsimp only; omega) ?_
        · dsimp only
          rw [hline]
          show (Option.map (z :: ·) (elimE R n k fun x => L x && !(x == z))).isSome = _
          rw [Option.isSome_map]
        · dsimp only
          rw [← hset]
          (refine Less.start ?_; repeat (first | exact LessO.nil | exact LessO.all | refine LessO.skip (by decide) ?_ | refine LessO.upd ?_ ?_ | refine LessO.set ?_ ?_)) <;> (try simp (maxSteps := 1000000) (disch := omega) only [push_cast, go_sem, wpS_tt, wpS_tf, wpS_ft, wpS_ff, wpCond_tt, wpCond_ff, simprocAttr])
    | none =>
      have hno' := hno rfl
      have e1 : optZ none = -1 := rfl
      rcases Nat.lt_or_ge b n with hbn | hbn
      · have hgb := goneL_get (L := L) hbn
        simp (maxSteps := 1000000) (disch := omega) only [push_cast, go_sem, wpS_tt, wpS_tf, wpS_ft, wpS_ff, wpCond_tt, wpCond_ff, simprocAttr, e1, hbn, hNl, hg, hgb]
        refine Sat.loop (σ := Nat × Bool) (fun x => upd (upd (upd (upd (upd (upd (upd noT 0 (.eptr [.sl ((netL R n).map boolsV)])) 3 (.msl 3 [] (some gr) n n)) 4 (.int .i64 (k + 1 : Nat))) 5 (.int .i64 (-1))) 6 (.int .i64 b)) 7 (.bool x.2)) 8 (.int .i64 x.1)) (fun x => noM.set 3 (.own 4 (some gr) n ((goneL L n).map V.bool)))
          (fun x => x.1 ≤ n ∧ x.2 = frB R L b x.1) (fun x => n - x.1) (0, L b) ⟨by dsimp only; omega, by simp [frB]⟩ ?_ ?_
        · (refine Less.start ?_; repeat (first | exact LessO.nil | exact LessO.all | refine LessO.skip (by decide) ?_ | refine LessO.upd ?_ ?_ | refine LessO.set ?_ ?_)) <;> (try simp (maxSteps := 1000000) (disch := omega) only [push_cast, go_sem, wpS_tt, wpS_tf, wpS_ft, wpS_ff, wpCond_tt, wpCond_ff, simprocAttr])
          all_goals first | rfl | simp
        rintro ⟨a, fr⟩ ⟨ha, hfr⟩ J3 hJ3
        simp only at ha hfr hJ3
        refine Sat.of (S := []) (by kernel_rfl) ?_
        cases fr with
        | false =>
          have hff := frB_no (n := n) hfr.symm ha
          by_cases han : a < n
          all_goals
            simp (maxSteps := 1000000) (disch := omega) only [push_cast, go_sem, wpS_tt, wpS_tf, wpS_ft, wpS_ff, wpCond_tt, wpCond_ff, simprocAttr, han, hNl]
            refine hJ2 (b + 1, none) _ _ ⟨by dsimp only; omega, fun _ j hj => ?_, fun z hz => by cases hz⟩ (by dsimp only; omega) ?_
            · rcases Nat.lt_or_ge j b with h | h
              · exact hno' j h
              · have : j = b := by dsimp only at hj; omega
                rw [this]; exact hff
            · (refine Less.start ?_; repeat (first | exact LessO.nil | exact LessO.all | refine LessO.skip (by decide) ?_ | refine LessO.upd ?_ ?_ | refine LessO.set ?_ ?_)) <;> (try simp (maxSteps := 1000000) (disch := omega) only [push_cast, go_sem, wpS_tt, wpS_tf, wpS_ft, wpS_ff, wpCond_tt, wpCond_ff, simprocAttr])
              all_goals rfl
        | true =>
          rcases Nat.lt_or_ge a n with han | han
          · have hga := goneL_get (L := L) han
            have hna := netL_get (R := R) han
            have hnb : (List.range n)[b]? = some b := List.getElem?_range hbn
            cases hL : L a
            · rw [hL] at hga
              simp (maxSteps := 1000000) (disch := omega) only [push_cast, go_sem, wpS_tt, wpS_tf, wpS_ft, wpS_ff, wpCond_tt, wpCond_ff, simprocAttr, han, hNl, hg, hga]
              refine hJ3 (a + 1, true) _ _ ⟨by dsimp only; omega, by dsimp only; rw [frB_succ, ← hfr, hL]; rfl⟩ (by dsimp only; omega) ?_
              (refine Less.start ?_; repeat (first | exact LessO.nil | exact LessO.all | refine LessO.skip (by decide) ?_ | refine LessO.upd ?_ ?_ | refine LessO.set ?_ ?_)) <;> (try simp (maxSteps := 1000000) (disch := omega) only [push_cast, go_sem, wpS_tt, wpS_tf, wpS_ft, wpS_ff, wpCond_tt, wpCond_ff, simprocAttr])
            · rw [hL] at hga
              simp (maxSteps := 1000000) (disch := omega) only [push_cast, go_sem, wpS_tt, wpS_tf, wpS_ft, wpS_ff, wpCond_tt, wpCond_ff, simprocAttr, han, hNl, hg, hga, hna, boolsV_eq, hnb, hbn, List.length_range]
              refine hJ3 (a + 1, !R a b) _ _ ⟨by dsimp only; omega, by dsimp only; rw [frB_succ, ← hfr, hL]; simp⟩ (by dsimp only; omega) ?_
              (refine Less.start ?_; repeat (first | exact LessO.nil | exact LessO.all | refine LessO.skip (by decide) ?_ | refine LessO.upd ?_ ?_ | refine LessO.set ?_ ?_)) <;> (try simp (maxSteps := 1000000) (disch := omega) only [push_cast, go_sem, wpS_tt, wpS_tf, wpS_ft, wpS_ff, wpCond_tt, wpCond_ff, simprocAttr])
          · have : a = n := by omega
            subst this
            have hfe : freeE R a L b = true := hfr.symm
            simp (maxSteps := 1000000) (disch := omega) only [push_cast, go_sem, wpS_tt, wpS_tf, wpS_ft, wpS_ff, wpCond_tt, wpCond_ff, simprocAttr, hNl]
            refine hJ2 (b + 1, some b) _ _ ⟨by dsimp only; omega, nofun, fun z hz => ?_⟩ (by dsimp only; omega) ?_
            · cases hz
              exact ⟨hbn, find_some hbn hfe hno'⟩
            · (refine Less.start ?_; repeat (first | exact LessO.nil | exact LessO.all | refine LessO.skip (by decide) ?_ | refine LessO.upd ?_ ?_ | refine LessO.set ?_ ?_)) <;> (try simp (maxSteps := 1000000) (disch := omega) only [push_cast, go_sem, wpS_tt, wpS_tf, wpS_ft, wpS_ff, wpCond_tt, wpCond_ff, simprocAttr])
              all_goals rfl
      · have : b = n := by omega
        subst this
        have hpk : pickE R b L = none := find_none hno'
        rw [hpk] at hline
        simp (maxSteps := 1000000) (disch := omega) only [push_cast, go_sem, wpS_tt, wpS_tf, wpS_ft, wpS_ff, wpCond_tt, wpCond_ff, simprocAttr, e1, hNl]
        rw [hline]; rfl
end Go.Proofs.YtfdbminedccccaaGreatDoor
/-! ## What must be ahead of what, by the reference: what stays, what is told -/
namespace Go.Proofs.YtfdbminedccccaaGreatDoor
open Go.RowKit
set_option linter.unusedSimpArgs false
set_option linter.unusedVariables false
set_option pp.maxSteps 3000

section
variable (p : Prog) (x : Exe) (g : Nat) (c2 c3 c4 c5 : V) (a b : Nat)
theorem oloose_fn (hn : (events p).length ≤ 42) (ha : a < (events p).length) (hb : b < (events p).length) : Fo Tryz.prog 97 [.int .i64 a, .int .i64 b] g 6 (ordV p g c2 c3 c4 c5) (.bool (looseS p a b)) := by
  have h1 := odo_fn p g c2 c3 c4 c5 a ha
  have h2 := odo_fn p g c2 c3 c4 c5 b hb
  have h3 := oown_fn p g c2 c3 c4 c5 a b ha hb
  have h4 := oinside_fn p g c2 c3 c4 c5 a b hn ha hb
  have h5 := l12Source_fn p b hn hb
  have w1 := owall_fn (dsA p a)
  have w2 := owall_fn (dsA p b)
  rw [ordV_eq] at h1 h2 h3 h4
  rw [progV_eq] at h5
  rw [Do.V_eq] at w1 w2
  refine Fc.start (S := []) Tryz.func97 Tryz.ntmps97 Tryz.results97 rfl (by decide) rfl (by kernel_rfl) ?_
  simp (maxSteps := 1000000) (disch := omega) only [push_cast, go_sem, wpS_tt, wpS_tf, wpS_ft, wpS_ff, wpCond_tt, wpCond_ff, simprocAttr, ordV_eq]
  refine callR.look h3 rfl rfl rfl ?_
  cases ho : ownB (events p) a b
  · simp (maxSteps := 1000000) (disch := omega) only [push_cast, go_sem, wpS_tt, wpS_tf, wpS_ft, wpS_ff, wpCond_tt, wpCond_ff, simprocAttr]
    refine ⟨_, Sub.rfl, ?_, rfl⟩
    simp [looseS, ho]
  simp (maxSteps := 1000000) (disch := omega) only [push_cast, go_sem, wpS_tt, wpS_tf, wpS_ft, wpS_ff, wpCond_tt, wpCond_ff, simprocAttr]
  refine callR.look h1 rfl rfl rfl ?_
  simp (maxSteps := 1000000) (disch := omega) only [push_cast, go_sem, wpS_tt, wpS_tf, wpS_ft, wpS_ff, wpCond_tt, wpCond_ff, simprocAttr, Do.V_eq]
  intro g7
  refine callR.look h2 rfl rfl rfl ?_
  simp (maxSteps := 1000000) (disch := omega) only [push_cast, go_sem, wpS_tt, wpS_tf, wpS_ft, wpS_ff, wpCond_tt, wpCond_ff, simprocAttr, Do.V_eq]
  intro g8
  refine callR.pure w1 rfl rfl ?_
  have hl : looseS p a b = (wallB (dsA p a) || wallB (dsA p b) || (dsA p a).k == 5 || (dsA p b).k == 6 || insS p a b || ((dsA p b).k == 3 && srcOf (events p) (scene p).ds b b == (a : Int))) := by rw [looseS, ho, Bool.true_and]
  rw [hl]
  cases hw1 : wallB (dsA p a)
  rotate_left
  · simp (maxSteps := 1000000) (disch := omega) only [push_cast, go_sem, wpS_tt, wpS_tf, wpS_ft, wpS_ff, wpCond_tt, wpCond_ff, simprocAttr]
    refine ⟨_, ?_, rfl⟩
    ((repeat (first | exact Sub.no | refine Sub.set ?_ ?_)) <;> (try simp (disch := omega) only [push_cast, go_sem, wpS_tt, wpS_tf, wpS_ft, wpS_ff, wpCond_tt, wpCond_ff, simprocAttr]))
  simp (maxSteps := 1000000) (disch := omega) only [push_cast, go_sem, wpS_tt, wpS_tf, wpS_ft, wpS_ff, wpCond_tt, wpCond_ff, simprocAttr]
  refine callR.pure w2 rfl rfl ?_
  cases hw2 : wallB (dsA p b)
  rotate_left
  · simp (maxSteps := 1000000) (disch := omega) only [push_cast, go_sem, wpS_tt, wpS_tf, wpS_ft, wpS_ff, wpCond_tt, wpCond_ff, simprocAttr]
    refine ⟨_, ?_, rfl⟩
    ((repeat (first | exact Sub.no | refine Sub.set ?_ ?_)) <;> (try simp (disch := omega) only [push_cast, go_sem, wpS_tt, wpS_tf, wpS_ft, wpS_ff, wpCond_tt, wpCond_ff, simprocAttr]))
  cases h5a : ((dsA p a).k == 5)
  rotate_left
  · simp (maxSteps := 1000000) (disch := omega) only [push_cast, go_sem, wpS_tt, wpS_tf, wpS_ft, wpS_ff, wpCond_tt, wpCond_ff, simprocAttr, h5a]
    refine ⟨_, ?_, rfl⟩
    ((repeat (first | exact Sub.no | refine Sub.set ?_ ?_)) <;> (try simp (disch := omega) only [push_cast, go_sem, wpS_tt, wpS_tf, wpS_ft, wpS_ff, wpCond_tt, wpCond_ff, simprocAttr]))
  cases h6 : ((dsA p b).k == 6)
  rotate_left
  · simp (maxSteps := 1000000) (disch := omega) only [push_cast, go_sem, wpS_tt, wpS_tf, wpS_ft, wpS_ff, wpCond_tt, wpCond_ff, simprocAttr, h5a, h6]
    refine ⟨_, ?_, rfl⟩
    ((repeat (first | exact Sub.no | refine Sub.set ?_ ?_)) <;> (try simp (disch := omega) only [push_cast, go_sem, wpS_tt, wpS_tf, wpS_ft, wpS_ff, wpCond_tt, wpCond_ff, simprocAttr]))
  simp (maxSteps := 1000000) (disch := omega) only [push_cast, go_sem, wpS_tt, wpS_tf, wpS_ft, wpS_ff, wpCond_tt, wpCond_ff, simprocAttr, h5a, h6]
  refine callR.look h4 rfl rfl rfl ?_
  cases hin : insS p a b
  rotate_left
  · simp (maxSteps := 1000000) (disch := omega) only [push_cast, go_sem, wpS_tt, wpS_tf, wpS_ft, wpS_ff, wpCond_tt, wpCond_ff, simprocAttr]
    refine ⟨_, ?_, rfl⟩
    ((repeat (first | exact Sub.no | refine Sub.set ?_ ?_)) <;> (try simp (disch := omega) only [push_cast, go_sem, wpS_tt, wpS_tf, wpS_ft, wpS_ff, wpCond_tt, wpCond_ff, simprocAttr]))
  simp (maxSteps := 1000000) (disch := omega) only [push_cast, go_sem, wpS_tt, wpS_tf, wpS_ft, wpS_ff, wpCond_tt, wpCond_ff, simprocAttr]
  refine Sat.drawnE [] [] (List.range 18) (pureT [(114, .int .i64 (srcOf (events p) (scene p).ds b b))]) (by kernel_rfl) (by kernel_rfl) ?_
  cases h3 : ((dsA p b).k == 3)
  · simp (maxSteps := 1000000) (disch := omega) only [push_cast, go_sem, wpS_tt, wpS_tf, wpS_ft, wpS_ff, wpCond_tt, wpCond_ff, simprocAttr, h3]
    refine ⟨_, ?_, rfl⟩
    ((repeat (first | exact Sub.no | refine Sub.set ?_ ?_)) <;> (try simp (disch := omega) only [push_cast, go_sem, wpS_tt, wpS_tf, wpS_ft, wpS_ff, wpCond_tt, wpCond_ff, simprocAttr]))
  · simp (maxSteps := 1000000) (disch := omega) only [push_cast, go_sem, wpS_tt, wpS_tf, wpS_ft, wpS_ff, wpCond_tt, wpCond_ff, simprocAttr, h3]
    refine runD_pure rfl h5 rfl rfl ?_ ?_
    · rfl
    simp (maxSteps := 1000000) (disch := omega) only [push_cast, go_sem, wpS_tt, wpS_tf, wpS_ft, wpS_ff, wpCond_tt, wpCond_ff, simprocAttr]
    refine ⟨_, ?_, rfl⟩
    ((repeat (first | exact Sub.no | refine Sub.set ?_ ?_)) <;> (try simp (disch := omega) only [push_cast, go_sem, wpS_tt, wpS_tf, wpS_ft, wpS_ff, wpCond_tt, wpCond_ff, simprocAttr]))
theorem ostays_fn (hn : (events p).length ≤ 42) (kind : Int) (ha : a < (events p).length) (hb : b < (events p).length) : Fo Tryz.prog 71 [.int .i64 kind, .int .i64 a, .int .i64 b] g 6 (ordV p g (rdsV p) (wrtV p) c4 c5) (.bool (staysS p kind a b)) := by
  obtain ⟨ea, hea⟩ : ∃ e, (events p)[a]? = some e := ⟨_, List.getElem?_eq_getElem ha⟩
  obtain ⟨eb, heb⟩ : ∃ e, (events p)[b]? = some e := ⟨_, List.getElem?_eq_getElem hb⟩
  have hsl : (scene p).ds.length = (events p).length := by simp [scene]
  have hda : (scene p).ds[a]? = some (dsA p a) := by rw [dsA, scene_get hea]; rfl
  have hdb : (scene p).ds[b]? = some (dsA p b) := by rw [dsA, scene_get heb]; rfl
  have h1 := oown_fn p g (rdsV p) (wrtV p) c4 c5 a b ha hb
  have h2 := oloose_fn p g (rdsV p) (wrtV p) c4 c5 a b hn ha hb
  have h3 := osame_fn p g c4 c5 a b ha hb
  rw [ordV_eq, rdsV_eq, wrtV_eq] at h1 h2 h3
  unfold staysS
  refine Fc.start (S := []) Tryz.func71 Tryz.ntmps71 Tryz.results71 rfl (by decide) rfl (by kernel_rfl) ?_
  cases k1 : (kind == 1)
  rotate_left
  · simp (maxSteps := 1000000) (disch := omega) only [push_cast, go_sem, wpS_tt, wpS_tf, wpS_ft, wpS_ff, wpCond_tt, wpCond_ff, simprocAttr, ordV_eq, rdsV_eq, wrtV_eq, k1]
    refine callR.look h1 rfl rfl rfl ?_
    simp (maxSteps := 1000000) (disch := omega) only [push_cast, go_sem, wpS_tt, wpS_tf, wpS_ft, wpS_ff, wpCond_tt, wpCond_ff, simprocAttr]
    first | exact ⟨_, Sub.rfl, rfl, rfl⟩ | exact ⟨_, Sub.rfl, rfl⟩
  cases k2 : (kind == 2)
  rotate_left
  · simp (maxSteps := 1000000) (disch := omega) only [push_cast, go_sem, wpS_tt, wpS_tf, wpS_ft, wpS_ff, wpCond_tt, wpCond_ff, simprocAttr, ordV_eq, rdsV_eq, wrtV_eq, k1, k2]
    refine callR.look h1 rfl rfl rfl ?_
    cases ho : ownB (events p) a b
    · simp (maxSteps := 1000000) (disch := omega) only [push_cast, go_sem, wpS_tt, wpS_tf, wpS_ft, wpS_ff, wpCond_tt, wpCond_ff, simprocAttr]
      first | exact ⟨_, Sub.rfl, rfl, rfl⟩ | exact ⟨_, Sub.rfl, rfl⟩
    cases hw : (dsA p a).writes <;> cases hr : (dsA p b).reads
    all_goals
      simp (maxSteps := 1000000) (disch := omega) only [push_cast, go_sem, wpS_tt, wpS_tf, wpS_ft, wpS_ff, wpCond_tt, wpCond_ff, simprocAttr, hda, hdb, hsl, ha, hb, hw, hr]
      first | exact ⟨_, Sub.rfl, rfl, rfl⟩ | exact ⟨_, Sub.rfl, rfl⟩
  cases k3 : (kind == 3)
  rotate_left
  · simp (maxSteps := 1000000) (disch := omega) only [push_cast, go_sem, wpS_tt, wpS_tf, wpS_ft, wpS_ff, wpCond_tt, wpCond_ff, simprocAttr, ordV_eq, rdsV_eq, wrtV_eq, k1, k2, k3]
    refine callR.look h2 rfl rfl rfl ?_
    simp (maxSteps := 1000000) (disch := omega) only [push_cast, go_sem, wpS_tt, wpS_tf, wpS_ft, wpS_ff, wpCond_tt, wpCond_ff, simprocAttr]
    first | exact ⟨_, Sub.rfl, rfl, rfl⟩ | exact ⟨_, Sub.rfl, rfl⟩
  simp (maxSteps := 1000000) (disch := omega) only [push_cast, go_sem, wpS_tt, wpS_tf, wpS_ft, wpS_ff, wpCond_tt, wpCond_ff, simprocAttr, ordV_eq, rdsV_eq, wrtV_eq, k1, k2, k3]
  refine callR.look h1 rfl rfl rfl ?_
  cases ho : ownB (events p) a b
  · simp (maxSteps := 1000000) (disch := omega) only [push_cast, go_sem, wpS_tt, wpS_tf, wpS_ft, wpS_ff, wpCond_tt, wpCond_ff, simprocAttr]
    first | exact ⟨_, Sub.rfl, rfl, rfl⟩ | exact ⟨_, Sub.rfl, rfl⟩
  simp (maxSteps := 1000000) (disch := omega) only [push_cast, go_sem, wpS_tt, wpS_tf, wpS_ft, wpS_ff, wpCond_tt, wpCond_ff, simprocAttr]
  refine callR.look h3 rfl rfl rfl ?_
  simp (maxSteps := 1000000) (disch := omega) only [push_cast, go_sem, wpS_tt, wpS_tf, wpS_ft, wpS_ff, wpCond_tt, wpCond_ff, simprocAttr]
  first | exact ⟨_, Sub.rfl, rfl, rfl⟩ | exact ⟨_, Sub.rfl, rfl⟩
end
end Go.Proofs.YtfdbminedccccaaGreatDoor
/-! ## What must be ahead of what, by the reference: what is told; ranks; all together -/
namespace Go.Proofs.YtfdbminedccccaaGreatDoor
open Go.RowKit
set_option linter.unusedSimpArgs false
set_option linter.unusedVariables false
set_option pp.maxSteps 3000

/-- What is looked at, with a way. -/
def ranksV (p : Prog) (x : Exe) : V := .sl (((List.range (events p).length).map (rankS p x)).map (V.int .i64))
def frV' (x : Exe) : V := .sl (x.fr.map (V.int .i64))
section
variable (p : Prog) (x : Exe) (g : Nat) (a b : Nat)
theorem otold_fn (hx : x.fr.length = (events p).length) (hc : ∀ (i : Nat), i < (events p).length → 0 ≤ (dsA p i).p) (kind : Int) (ha : a < (events p).length) (hb : b < (events p).length) :
    Fo Tryz.prog 70 [.int .i64 kind, .int .i64 a, .int .i64 b] g 6 (ordV p g (rdsV p) (wrtV p) (.sl (x.fr.map (V.int .i64))) (.sl (((List.range (events p).length).map (rankS p x)).map (V.int .i64)))) (.bool (toldS p x kind a b)) := by
  obtain ⟨ea, hea⟩ : ∃ e, (events p)[a]? = some e := ⟨_, List.getElem?_eq_getElem ha⟩
  obtain ⟨eb, heb⟩ : ∃ e, (events p)[b]? = some e := ⟨_, List.getElem?_eq_getElem hb⟩
  have h1 := oread_fn p x g (.sl (((List.range (events p).length).map (rankS p x)).map (V.int .i64))) a b hx ha hb
  have h2 := oover_fn p x g (.sl (x.fr.map (V.int .i64))) a b hc ha hb
  rw [ordV_eq, rdsV_eq, wrtV_eq] at h1 h2
  obtain ⟨ap, hap⟩ : ∃ v, (ea.t != eb.t) = v := ⟨_, rfl⟩
  have e3 : apartS p a b = ap := by rw [apartS, th, th, hea, heb]; exact hap
  unfold toldS
  rw [e3]
  generalize ((List.range (events p).length).map (rankS p x)).map (V.int .i64) = rk at h1 h2 ⊢
  refine Fc.start (S := []) Tryz.func70 Tryz.ntmps70 Tryz.results70 rfl (by decide) rfl (by kernel_rfl) ?_
  simp (maxSteps := 1000000) (disch := omega) only [push_cast, go_sem, wpS_tt, wpS_tf, wpS_ft, wpS_ff, wpCond_tt, wpCond_ff, simprocAttr, ordV_eq, rdsV_eq, wrtV_eq]
  refine Sat.drawnE [] [] (List.range 18) (fun _ _ _ => none) (by kernel_rfl) (by kernel_rfl) ?_
  simp (maxSteps := 1000000) (disch := omega) only [push_cast, go_sem, wpS_tt, wpS_tf, wpS_ft, wpS_ff, wpCond_tt, wpCond_ff, simprocAttr, hea, heb, ha, hb, Evt.V_eq, hap]
  cases hrd : readS p x a b <;> cases hov : overS p x a b <;> rw [hrd] at h1 <;> rw [hov] at h2
  all_goals
    cases k1 : (kind == 2)
    · cases k2 : (kind == 3)
      · simp (maxSteps := 1000000) (disch := omega) only [push_cast, go_sem, wpS_tt, wpS_tf, wpS_ft, wpS_ff, wpCond_tt, wpCond_ff, simprocAttr, k1, k2]
        refine callR.look h1 rfl rfl rfl ?_
        simp (maxSteps := 1000000) (disch := omega) only [push_cast, go_sem, wpS_tt, wpS_tf, wpS_ft, wpS_ff, wpCond_tt, wpCond_ff, simprocAttr]
        try (refine callR.look h2 rfl rfl rfl ?_; simp (maxSteps := 1000000) (disch := omega) only [push_cast, go_sem, wpS_tt, wpS_tf, wpS_ft, wpS_ff, wpCond_tt, wpCond_ff, simprocAttr])
        first | exact ⟨_, Sub.rfl, rfl, rfl⟩ | exact ⟨_, Sub.rfl, rfl⟩
      · cases ap
        · simp (maxSteps := 1000000) (disch := omega) only [push_cast, go_sem, wpS_tt, wpS_tf, wpS_ft, wpS_ff, wpCond_tt, wpCond_ff, simprocAttr, k1, k2]
          first | exact ⟨_, Sub.rfl, rfl, rfl⟩ | exact ⟨_, Sub.rfl, rfl⟩
        · simp (maxSteps := 1000000) (disch := omega) only [push_cast, go_sem, wpS_tt, wpS_tf, wpS_ft, wpS_ff, wpCond_tt, wpCond_ff, simprocAttr, k1, k2]
          refine callR.look h1 rfl rfl rfl ?_
          simp (maxSteps := 1000000) (disch := omega) only [push_cast, go_sem, wpS_tt, wpS_tf, wpS_ft, wpS_ff, wpCond_tt, wpCond_ff, simprocAttr]
          try (refine callR.look h2 rfl rfl rfl ?_; simp (maxSteps := 1000000) (disch := omega) only [push_cast, go_sem, wpS_tt, wpS_tf, wpS_ft, wpS_ff, wpCond_tt, wpCond_ff, simprocAttr])
          first | exact ⟨_, Sub.rfl, rfl, rfl⟩ | exact ⟨_, Sub.rfl, rfl⟩
    · cases ap
      · simp (maxSteps := 1000000) (disch := omega) only [push_cast, go_sem, wpS_tt, wpS_tf, wpS_ft, wpS_ff, wpCond_tt, wpCond_ff, simprocAttr, k1]
        refine callR.look h2 rfl rfl rfl ?_
        simp (maxSteps := 1000000) (disch := omega) only [push_cast, go_sem, wpS_tt, wpS_tf, wpS_ft, wpS_ff, wpCond_tt, wpCond_ff, simprocAttr]
        first | exact ⟨_, Sub.rfl, rfl, rfl⟩ | exact ⟨_, Sub.rfl, rfl⟩
      · simp (maxSteps := 1000000) (disch := omega) only [push_cast, go_sem, wpS_tt, wpS_tf, wpS_ft, wpS_ff, wpCond_tt, wpCond_ff, simprocAttr, k1]
        refine callR.look h1 rfl rfl rfl ?_
        simp (maxSteps := 1000000) (disch := omega) only [push_cast, go_sem, wpS_tt, wpS_tf, wpS_ft, wpS_ff, wpCond_tt, wpCond_ff, simprocAttr]
        try (refine callR.look h2 rfl rfl rfl ?_; simp (maxSteps := 1000000) (disch := omega) only [push_cast, go_sem, wpS_tt, wpS_tf, wpS_ft, wpS_ff, wpCond_tt, wpCond_ff, simprocAttr])
        first | exact ⟨_, Sub.rfl, rfl, rfl⟩ | exact ⟨_, Sub.rfl, rfl⟩
end
theorem rank_fn (zs : List Int) (z : Int) (hl : zs.length < 2 ^ 40) : Fp Tryz.prog 68 [.sl (zs.map (V.int .i64)), .int .i64 z] (.int .i64 (Lib.idxOf zs z)) := by
  refine Fc.start (S := [6]) Tryz.func68 Tryz.ntmps68 Tryz.results68 rfl (by decide) rfl (by kernel_rfl) ?_
  simp (maxSteps := 1000000) (disch := omega) only [push_cast, go_sem, wpS_tt, wpS_tf, wpS_ft, wpS_ff, wpCond_tt, wpCond_ff, simprocAttr]
  refine Sat.loop (σ := Nat) (fun k => upd (upd (upd noT 0 (.sl (zs.map (V.int .i64)))) 1 (.int .i64 z)) 5 (.int .i64 k)) (fun _ => noM)
    (fun k => k ≤ zs.length ∧ Lib.idxOf zs z = Lib.idxFrom (zs.drop k) z k) (fun k => zs.length - k) 0 ⟨by omega, rfl⟩ ?_ ?_
  · (refine Less.start ?_; repeat (first | exact LessO.nil | exact LessO.all | refine LessO.skip (by decide) ?_ | refine LessO.upd ?_ ?_ | refine LessO.set ?_ ?_)) <;> (try simp (maxSteps := 1000000) (disch := omega) only [push_cast, go_sem, wpS_tt, wpS_tf, wpS_ft, wpS_ff, wpCond_tt, wpCond_ff, simprocAttr])
  rintro k ⟨hk, hc⟩ J hJ
  refine Sat.of (S := []) (by kernel_rfl) ?_
  rcases Nat.lt_or_ge k zs.length with hlt | hge
  · obtain ⟨y, hy⟩ : ∃ z, zs[k]? = some z := ⟨_, List.getElem?_eq_getElem hlt⟩
    rw [drop_get hy, Lib.idxFrom] at hc
    cases hyz : (y == z)
    · have hyz' : ¬ y = z := by simpa using hyz
      rw [if_neg hyz'] at hc
      simp (maxSteps := 1000000) (disch := omega) only [push_cast, go_sem, wpS_tt, wpS_tf, wpS_ft, wpS_ff, wpCond_tt, wpCond_ff, simprocAttr, hy, hlt, hyz]
      refine hJ (k + 1) _ _ ⟨by omega, hc⟩ (by omega) ?_
      (refine Less.start ?_; repeat (first | exact LessO.nil | exact LessO.all | refine LessO.skip (by decide) ?_ | refine LessO.upd ?_ ?_ | refine LessO.set ?_ ?_)) <;> (try simp (maxSteps := 1000000) (disch := omega) only [push_cast, go_sem, wpS_tt, wpS_tf, wpS_ft, wpS_ff, wpCond_tt, wpCond_ff, simprocAttr])
    · have hyz' : y = z := by simpa using hyz
      rw [if_pos hyz'] at hc
      simp (maxSteps := 1000000) (disch := omega) only [push_cast, go_sem, wpS_tt, wpS_tf, wpS_ft, wpS_ff, wpCond_tt, wpCond_ff, simprocAttr, hy, hlt, hyz]
      exact hc.symm
  · have : k = zs.length := by omega
    subst this
    rw [List.drop_length, Lib.idxFrom] at hc
    simp (maxSteps := 1000000) (disch := omega) only [push_cast, go_sem, wpS_tt, wpS_tf, wpS_ft, wpS_ff, wpCond_tt, wpCond_ff, simprocAttr]
    refine Sat.of (S := []) (by kernel_rfl) ?_
    simp (maxSteps := 1000000) (disch := omega) only [push_cast, go_sem, wpS_tt, wpS_tf, wpS_ft, wpS_ff, wpCond_tt, wpCond_ff, simprocAttr]
    exact hc.symm
end Go.Proofs.YtfdbminedccccaaGreatDoor
/-! ## Draws: a program and one way in which all may have been, mostly -/
namespace Go.Proofs.YtfdbminedccccaaGreatDoor
open Go.RowKit
set_option linter.unusedSimpArgs false
set_option linter.unusedVariables false
set_option pp.maxSteps 3000

/-- What is drawn: within these bounds. -/
structure Exe.few (x : Exe) : Prop where
  fr : x.fr.length ≤ 43
  od : x.od.length = 3
  row : ∀ r ∈ x.od, r.length ≤ 43
theorem modInts (l : List Int) (k : Nat) (z : Int) : (l.map (V.int .i64)).modify k (fun x => x.setC 0 (V.int .i64 z)) = (l.set k z).map (V.int .i64) := by
  apply List.ext_getElem?
  intro i
  rw [List.getElem?_modify, List.getElem?_map, List.getElem?_map, List.getElem?_set]
  by_cases h : k = i
  · subst h
    cases hl : l[k]? with
    | none => have := List.getElem?_eq_none_iff.1 hl; simp; omega
    | some a => have := (List.getElem?_eq_some_iff.1 hl).1; simp [this, V.setC]
  · simp [h]
theorem l71Exec_rd (bs : List Int) (hb : Bytes bs) (g p : Nat) (hp : p < 2 ^ 27) : Fr Tryz.prog 26 [] g (rdO bs g p)
    (fun r o' => ∃ (x : Prog) (y : Exe), r = .tuple [progV x, y.V] ∧ x.length ≤ 3 ∧ (∀ l ∈ x, l.length < 2 ^ 11) ∧ y.few ∧ ∃ q, p ≤ q ∧ q ≤ p + 2 ^ 22 ∧ o' = rdO bs g q) := by
  refine Fc.start (S := [4, 5, 2006]) Tryz.func26 Tryz.ntmps26 Tryz.results26 rfl (by decide) rfl (by kernel_rfl) ?_
  simp (maxSteps := 1000000) (disch := omega) only [push_cast, go_sem, wpS_tt, wpS_tf, wpS_ft, wpS_ff, wpCond_tt, wpCond_ff, simprocAttr]
  intro g2 g3
  refine callR.rd (l71Any_rd bs hb g p hp) rfl rfl rfl ?_
  rintro r o' ⟨x, rfl, hx1, hx2, q, hq1, hq2, rfl⟩
  simp (maxSteps := 1000000) (disch := omega) only [push_cast, go_sem, wpS_tt, wpS_tf, wpS_ft, wpS_ff, wpCond_tt, wpCond_ff, simprocAttr, progV_eq]
  intro g4
  refine callR.new (Q := fun r ob => ∃ (γ : Option Nat) (cap : Nat) (e : TypeId) (es : List RowE), es.map RowE.x = specAll x ∧ (∀ x ∈ es, x.γ' = none ∨ x.e = 26) ∧ (γ = none ∨ e = 29) ∧ r = .msl 100 [] γ es.length cap ∧ ob = .own e γ cap (es.map RowE.V))
    ((specExecAllO_fn x (by omega)).imp (by rintro r m ⟨γ, cap, e, es, h1, h2, h3, h4, rfl⟩; exact ⟨_, ⟨γ, cap, e, es, h1, h2, h3, h4, rfl⟩, rfl⟩)) rfl rfl ?_
  rintro r ob ⟨γ, cap, e, es, h1, h2, h3, rfl, rfl⟩
  have hel : es.length < 2 ^ 30 := by rw [← List.length_map (f := RowE.x), h1]; exact specAll_le x
  cases hes : ((es.length : Int) == 0)
  · simp (maxSteps := 1000000) (disch := omega) only [push_cast, go_sem, wpS_tt, wpS_tf, wpS_ft, wpS_ff, wpCond_tt, wpCond_ff, simprocAttr, hes]
    have hne : es ≠ [] := fun h => by subst h; simp at hes
    have hne0 : 0 < es.length := List.length_pos_iff.2 hne
    refine Sat.someG (o := 5) (e := e) (γ := γ) (cap := cap) (es := es.map RowE.V) rfl (by simpa using hne) ?_
    rintro g5 rfl
    have he : e = 29 := h3.resolve_left nofun
    subst he
    refine Sat.cutW 5 (σ := Nat × Nat) (fun s => upd (upd (upd (upd (upd (upd noT 0 (.ptr 0 [] 0 0 g 2)) 2 (.ptr 2 [] 0 0 g2 1)) 3 (.ptr 3 [] 0 0 g3 2)) 4 (.ptr 4 [] 0 0 g4 1)) 21 (.msl 5 [] (some g5) es.length cap)) 25 (.int .i64 s.1))
      (fun s => ((((noM.set 0 (rdO bs g s.2)).set 2 (.own 25 (some g2) 1 [.agg [.own 0 none 0 []]])).set 3 (.own 29 (some g3) 1 [.agg [.own 0 none 0 [], .own 0 none 0 []]])).set 4 (.own 25 (some g4) 1 [.agg [.sl (x.map thrV)]])).set 5 (.own 29 (some g5) cap (es.map RowE.V)))
      (fun s => s.1 < es.length ∧ s.2 = q + 1) (by kernel_rfl) ?_ ?_
    · simp (maxSteps := 1000000) (disch := omega) only [push_cast, go_sem, wpS_tt, wpS_tf, wpS_ft, wpS_ff, wpCond_tt, wpCond_ff, simprocAttr]
      refine callR.rd (pick_rd bs hb g q (by omega) es.length (by omega)) rfl rfl rfl ?_
      rintro r o' ⟨v, rfl, hv0, hv1, _, rfl⟩
      obtain ⟨v, rfl⟩ := Int.eq_ofNat_of_zero_le hv0
      simp (maxSteps := 1000000) (disch := omega) only [push_cast, go_sem, wpS_tt, wpS_tf, wpS_ft, wpS_ff, wpCond_tt, wpCond_ff, simprocAttr]
      refine ⟨(v, q + 1), ⟨by have := hv1 (by omega); dsimp only; omega, rfl⟩, ?_⟩
      (refine Less.start ?_; repeat (first | exact LessO.nil | exact LessO.all | refine LessO.skip (by decide) ?_ | refine LessO.upd ?_ ?_ | refine LessO.set ?_ ?_)) <;> (try simp (maxSteps := 1000000) (disch := omega) only [push_cast, go_sem, wpS_tt, wpS_tf, wpS_ft, wpS_ff, wpCond_tt, wpCond_ff, simprocAttr])
    rintro ⟨v, _⟩ ⟨hv, rfl⟩
    simp only at hv
    obtain ⟨y, hy⟩ : ∃ y, es[v]? = some y := ⟨_, List.getElem?_eq_getElem hv⟩
    refine SatW.lift 5 [] v 0 200 (n0 := .own 29 (some g5) cap (es.map RowE.V)) (e := 3) (γ := y.γ) (cap := y.c) (es := y.f.map (V.int .i64)) rfl ?_ rfl ?_
    · simp [V.cellAt, hy, RowE.V, V.cells]
    refine SatW.lift 5 [] v 1 201 (n0 := (V.own 29 (some g5) cap (es.map RowE.V)).setIJ v 0 (.msl 200 [] y.γ (y.f.map (V.int .i64)).length y.c)) (e := y.e) (γ := y.γ') (cap := y.c') (es := y.ws.map RowI.V) rfl ?_ rfl ?_
    · simp [V.setIJ, V.setC, V.cellAt, hy, RowE.V, V.cells]
    obtain ⟨zs, hzl, hz, hzm⟩ : ∃ zs : List V, zs.length = es.length ∧ zs[v]? = some (.agg [.msl 200 [] y.γ y.f.length y.c, .msl 201 [] y.γ' y.ws.length y.c']) ∧
        ((V.own 29 (some g5) cap (es.map RowE.V)).setIJ v 0 (.msl 200 [] y.γ (y.f.map (V.int .i64)).length y.c)).setIJ v 1 (.msl 201 [] y.γ' (y.ws.map RowI.V).length y.c') = .own 29 (some g5) cap zs := by
      refine ⟨_, ?_, ?_, rfl⟩
      · simp
      · simp [hy, RowE.V, V.setC]
    have hmem := specAll_small (p := x) (y := y.x) (by rw [← h1]; exact List.mem_map.2 ⟨y, List.mem_of_getElem? hy, rfl⟩)
    have hye := h2 y (List.mem_of_getElem? hy)
    refine SatW.less (T := upd (upd (upd (upd (upd (upd noT 0 (.ptr 0 [] 0 0 g 2)) 2 (.ptr 2 [] 0 0 g2 1)) 3 (.ptr 3 [] 0 0 g3 2)) 4 (.ptr 4 [] 0 0 g4 1)) 21 (.msl 5 [] (some g5) es.length cap)) 25 (.int .i64 v))
      (Mm := ((((((noM.set 0 (rdO bs g (q + 1))).set 2 (.own 25 (some g2) 1 [.agg [.own 0 none 0 []]])).set 3 (.own 29 (some g3) 1 [.agg [.own 0 none 0 [], .own 0 none 0 []]])).set 4 (.own 25 (some g4) 1 [.agg [.sl (x.map thrV)]])).set 5 (.own 29 (some g5) cap zs)).set 200 (.own 3 y.γ y.c (y.f.map (V.int .i64)))).set 201 (.own y.e y.γ' y.c' (y.ws.map RowI.V))) ?_ ?_
    rotate_left
    · rw [← hzm]
      (refine Less.start ?_; repeat (first | exact LessO.nil | exact LessO.all | refine LessO.skip (by decide) ?_ | refine LessO.upd ?_ ?_ | refine LessO.set ?_ ?_)) <;> (try simp (maxSteps := 1000000) (disch := omega) only [push_cast, go_sem, wpS_tt, wpS_tf, wpS_ft, wpS_ff, wpCond_tt, wpCond_ff, simprocAttr])
      rfl
    refine SatW.of (by kernel_rfl) (fun o h => List.mem_of_mem_drop h) ?_
    simp (maxSteps := 1000000) (disch := omega) only [push_cast, go_sem, wpS_tt, wpS_tf, wpS_ft, wpS_ff, wpCond_tt, wpCond_ff, simprocAttr, hz, hv, hzl]
    intro g6
    refine Sat.of (S := [2006]) (by kernel_rfl) ?_
    simp (maxSteps := 1000000) (disch := omega) only [push_cast, go_sem, wpS_tt, wpS_tf, wpS_ft, wpS_ff, wpCond_tt, wpCond_ff, simprocAttr]
    obtain ⟨hm1, hm2, hm3⟩ := hmem
    refine Sat.cut (σ := RowE × Nat) [] (fun s => upd (upd (upd (upd (upd noT 0 (.ptr 0 [] 0 0 g 2)) 2 (.ptr 2 [] 0 0 g2 1)) 3 (.ptr 3 [] 0 0 g3 2)) 4 (.ptr 4 [] 0 0 g4 1)) 6 (.ptr 6 [] 0 0 g6 2))
      (fun s => ((((noM.set 0 (rdO bs g s.2)).set 2 (.own 25 (some g2) 1 [.agg [.own 0 none 0 []]])).set 3 (.own 29 (some g3) 1 [.agg [.own 0 none 0 [], .own 0 none 0 []]])).set 4 (.own 25 (some g4) 1 [.agg [.sl (x.map thrV)]])).set 6 (.own 29 (some g6) 1 [.agg [.own 3 s.1.γ s.1.c (s.1.f.map (V.int .i64)), .own s.1.e s.1.γ' s.1.c' (s.1.ws.map RowI.V)]]))
      (fun s => s.1.x.few ∧ q ≤ s.2 ∧ s.2 ≤ q + 10) (by kernel_rfl) ?_ ?_
    · simp (maxSteps := 1000000) (disch := omega) only [push_cast, go_sem, wpS_tt, wpS_tf, wpS_ft, wpS_ff, wpCond_tt, wpCond_ff, simprocAttr]
      refine callR.rd (pick_rd bs hb g (q + 1) (by omega) 12 (by omega)) rfl rfl rfl ?_
      rintro r o' ⟨k, rfl, hk0, hk1, _, rfl⟩
      simp (maxSteps := 1000000) (disch := omega) only [push_cast, go_sem, wpS_tt, wpS_tf, wpS_ft, wpS_ff, wpCond_tt, wpCond_ff, simprocAttr]
      have hyl : y.ws.length = 3 := by have := hm2; simpa [RowE.x] using this
      have few0 : ∀ {t' : Nat → V} {M' : Mem}, _ → _ := fun {t'} {M'} h => (⟨(y, q + 1 + 1), ⟨⟨Nat.le_succ_of_le hm1, hm2, fun r hr => Nat.le_succ_of_le (hm3 r hr)⟩, by dsimp only; omega, by dsimp only; omega⟩, h⟩ : ∃ s : RowE × Nat, (s.1.x.few ∧ q ≤ s.2 ∧ s.2 ≤ q + 10) ∧ Less (upd (upd (upd (upd (upd noT 0 (.ptr 0 [] 0 0 g 2)) 2 (.ptr 2 [] 0 0 g2 1)) 3 (.ptr 3 [] 0 0 g3 2)) 4 (.ptr 4 [] 0 0 g4 1)) 6 (.ptr 6 [] 0 0 g6 2)) t'
        (((((noM.set 0 (rdO bs g s.2)).set 2 (.own 25 (some g2) 1 [.agg [.own 0 none 0 []]])).set 3 (.own 29 (some g3) 1 [.agg [.own 0 none 0 [], .own 0 none 0 []]])).set 4 (.own 25 (some g4) 1 [.agg [.sl (x.map thrV)]])).set 6 (.own 29 (some g6) 1 [.agg [.own 3 s.1.γ s.1.c (s.1.f.map (V.int .i64)), .own s.1.e s.1.γ' s.1.c' (s.1.ws.map RowI.V)]])) M')
      refine ⟨fun hk => ⟨fun hn => ?_, fun hn => ?_⟩, fun hk => ⟨fun hk1 => ?_, fun hk1 => ⟨fun hk2 => ?_, fun hk2 => ?_⟩⟩⟩
      · have hf0 : 0 < y.f.length := by omega
        have hf1 : y.f.length ≤ 42 := hm1
        refine Sat.someP (o := 6) (q := [(0, 0)]) (e := 3) (γ := y.γ) (cap := y.c) (es := y.f.map (V.int .i64)) rfl (fun h => by have := congrArg List.length h; simp at this; rw [this] at hf0; simp at hf0) ?_
        intro g7 hg7
        refine Sat.drawnE [(1, 6), (1, 8)] [] [1, 4] (rdTab bs g [(40, 1, pickQ)] []) (by kernel_rfl) (by kernel_rfl) ?_
        simp (maxSteps := 1000000) (disch := omega) only [push_cast, go_sem, wpS_tt, wpS_tf, wpS_ft, wpS_ff, wpCond_tt, wpCond_ff, simprocAttr, hg7]
        refine runD_pl (pick_pl bs hb g (q + 1 + 1) (by omega) y.f.length (by omega)) rfl rfl rfl rfl pickQ_ne ?_ ?_
        · rfl
        rintro r q3 hq5 hq6 ⟨n', v2, hn', rfl, hv2⟩
        cases hn'
        have hv21 := hv2.2.1 (by omega)
        obtain ⟨v2, rfl⟩ := Int.eq_ofNat_of_zero_le hv2.1
        simp (maxSteps := 1000000) (disch := omega) only [push_cast, go_sem, wpS_tt, wpS_tf, wpS_ft, wpS_ff, wpCond_tt, wpCond_ff, simprocAttr, hg7]
        refine runD_pl (pick_pl bs hb g q3 (by omega) 7 (by omega)) rfl rfl rfl rfl pickQ_ne ?_ ?_
        · rfl
        rintro r q4 hq7 hq8 ⟨n', v3, hn', rfl, hv3⟩
        cases hn'
        have hv31 := hv3.2.1 (by omega)
        have hv30 := hv3.1
        obtain ⟨a, ha⟩ : ∃ a, y.f[v2]? = some a := ⟨_, List.getElem?_eq_getElem (by omega)⟩
        simp (maxSteps := 1000000) (disch := omega) only [push_cast, go_sem, wpS_tt, wpS_tf, wpS_ft, wpS_ff, wpCond_tt, wpCond_ff, simprocAttr, hg7, ha]
        refine ⟨by omega, ({ y with f := y.f.set v2 (v3 - 3) }, q4), ⟨⟨by simp [RowE.x]; omega, hm2, fun r hr => by have := hm3 r hr; omega⟩, by dsimp only; omega, by dsimp only; omega⟩, ?_⟩
        (refine Less.start ?_; repeat (first | exact LessO.nil | exact LessO.all | refine LessO.skip (by decide) ?_ | refine LessO.upd ?_ ?_ | refine LessO.set ?_ ?_)) <;> (try simp (maxSteps := 1000000) (disch := omega) only [push_cast, go_sem, wpS_tt, wpS_tf, wpS_ft, wpS_ff, wpCond_tt, wpCond_ff, simprocAttr])
        rw [modInts, hg7]
      · exact few0 (by (refine Less.start ?_; repeat (first | exact LessO.nil | exact LessO.all | refine LessO.skip (by decide) ?_ | refine LessO.upd ?_ ?_ | refine LessO.set ?_ ?_)) <;> (try simp (maxSteps := 1000000) (disch := omega) only [push_cast, go_sem, wpS_tt, wpS_tf, wpS_ft, wpS_ff, wpCond_tt, wpCond_ff, simprocAttr]))
      · obtain ⟨r0, ws, hws⟩ : ∃ r0 ws, y.ws = r0 :: ws := by
          cases h : y.ws with
          | nil => rw [h] at hyl; cases hyl
          | cons a l => exact ⟨a, l, rfl⟩
        refine Sat.someP (o := 6) (q := [(0, 1)]) (e := y.e) (γ := y.γ') (cap := y.c') (es := y.ws.map RowI.V) rfl (by rw [hws]; nofun) ?_
        intro g7 hg7
        have hye' : y.e = 26 := hye.resolve_left (by rw [hg7]; nofun)
        refine Sat.drawnE [(1, 6), (3, 6), (5, 6)] [(1, 7)] [1, 3, 5] (fun _ _ _ => none) (by kernel_rfl) (by kernel_rfl) ?_
        simp (maxSteps := 1000000) (disch := omega) only [push_cast, go_sem, wpS_tt, wpS_tf, wpS_ft, wpS_ff, wpCond_tt, wpCond_ff, simprocAttr, hg7, hye', hws, RowI.V_eq]
        refine ⟨by omega, ?_⟩
        intro g8
        have hr0 : r0.l.length ≤ 42 := hm3 r0.l (by simp [RowE.x, hws])
        refine ⟨by omega, fun γ8 c8 _ => ⟨by omega, ({ y with ws := ⟨γ8, c8, r0.l ++ [0]⟩ :: ws }, q + 1 + 1), ⟨⟨Nat.le_succ_of_le hm1, ?_, ?_⟩, by dsimp only; omega, by dsimp only; omega⟩, ?_⟩⟩
        · rw [hws] at hyl; simpa [RowE.x] using hyl
        · intro r hr
          simp only [RowE.x, List.map_cons, List.mem_cons] at hr
          rcases hr with rfl | hr
          · simp; omega
          · have := hm3 r (by simp only [RowE.x, hws, List.map_cons, List.mem_cons]; exact .inr hr); omega
        · (refine Less.start ?_; repeat (first | exact LessO.nil | exact LessO.all | refine LessO.skip (by decide) ?_ | refine LessO.upd ?_ ?_ | refine LessO.set ?_ ?_)) <;> (try simp (maxSteps := 1000000) (disch := omega) only [push_cast, go_sem, wpS_tt, wpS_tf, wpS_ft, wpS_ff, wpCond_tt, wpCond_ff, simprocAttr])
          all_goals simp [RowI.V, hg7, hye']
      · intro g8
        have hm1' : y.f.length ≤ 42 := hm1
        refine ⟨by omega, fun γ8 c8 _ => ?_⟩
        refine ⟨({ y with γ := γ8, c := c8, f := y.f ++ [-2] }, q + 1 + 1), ⟨⟨by simp [RowE.x]; omega, hm2, fun r hr => by have := hm3 r hr; omega⟩, by dsimp only; omega, by dsimp only; omega⟩, ?_⟩
        (refine Less.start ?_; repeat (first | exact LessO.nil | exact LessO.all | refine LessO.skip (by decide) ?_ | refine LessO.upd ?_ ?_ | refine LessO.set ?_ ?_)) <;> (try simp (maxSteps := 1000000) (disch := omega) only [push_cast, go_sem, wpS_tt, wpS_tf, wpS_ft, wpS_ff, wpCond_tt, wpCond_ff, simprocAttr])
        all_goals simp
      · exact few0 (by (refine Less.start ?_; repeat (first | exact LessO.nil | exact LessO.all | refine LessO.skip (by decide) ?_ | refine LessO.upd ?_ ?_ | refine LessO.set ?_ ?_)) <;> (try simp (maxSteps := 1000000) (disch := omega) only [push_cast, go_sem, wpS_tt, wpS_tf, wpS_ft, wpS_ff, wpCond_tt, wpCond_ff, simprocAttr]))
    · rintro ⟨z, q2⟩ ⟨hz2, hq3, hq4⟩
      dsimp only at hz2 hq3 hq4 ⊢
      refine Sat.freezeC 6 [] 0 0 (n0 := .own 29 (some g6) 1 [.agg [.own 3 z.γ z.c (z.f.map (V.int .i64)), .own z.e z.γ' z.c' (z.ws.map RowI.V)]]) (d := .own 3 z.γ z.c (z.f.map (V.int .i64))) rfl rfl rfl ?_
      refine Sat.freezeC 6 [] 0 1 (n0 := .own 29 (some g6) 1 [.agg [(V.own 3 z.γ z.c (z.f.map (V.int .i64))).fz, .own z.e z.γ' z.c' (z.ws.map RowI.V)]]) (d := .own z.e z.γ' z.c' (z.ws.map RowI.V)) rfl rfl rfl ?_
      have e1 : (V.own 3 z.γ z.c (z.f.map (V.int .i64))).fz = .sl (z.f.map (V.int .i64)) := by simp only [V.fz, fzs_map, fzs_int]
      have e2 : (V.own z.e z.γ' z.c' (z.ws.map RowI.V)).fz = .sl (z.x.od.map intsV) := by simp only [V.fz, fzs_map, fz_rowsI, RowE.x]
      rw [e1, e2]
      refine Sat.of (S := []) (by kernel_rfl) ?_
      simp (maxSteps := 1000000) (disch := omega) only [push_cast, go_sem, wpS_tt, wpS_tf, wpS_ft, wpS_ff, wpCond_tt, wpCond_ff, simprocAttr]
      refine Sat.drawnE [(1, 2)] [] [0, 1] (fun _ _ _ => none) (by kernel_rfl) (by kernel_rfl) ?_
      simp (maxSteps := 1000000) (disch := omega) only [push_cast, go_sem, wpS_tt, wpS_tf, wpS_ft, wpS_ff, wpCond_tt, wpCond_ff, simprocAttr]
      refine ⟨_, ?_, _, ⟨x, z.x, by rw [Exe.V_eq]; rfl, hx1, hx2, hz2, q2, by omega, by omega, rfl⟩, rfl⟩
      ((repeat (first | exact Sub.no | refine Sub.set ?_ ?_)) <;> (try simp (disch := omega) only [push_cast, go_sem, wpS_tt, wpS_tf, wpS_ft, wpS_ff, wpCond_tt, wpCond_ff, simprocAttr]))
  · simp (maxSteps := 1000000) (disch := omega) only [push_cast, go_sem, wpS_tt, wpS_tf, wpS_ft, wpS_ff, wpCond_tt, wpCond_ff, simprocAttr, hes]
    have he0 : es = [] := by simpa using hes
    refine Sat.cut (σ := Nat × Nat × Nat × Nat × Nat) [] (fun s => upd (upd noT 2 (.ptr 2 [] 0 0 g2 1)) 3 (.ptr 3 [] 0 0 g3 2))
      (fun s => ((noM.set 0 (rdO bs g q)).set 2 (.own 25 (some g2) 1 [.agg [.sl (x.map thrV)]])).set 3 (.own 29 (some g3) 1 [.agg [.own 3 (some s.1) 1 [.int .i64 (-2)], .own 26 (some s.2.1) 3 [.own 3 (some s.2.2.1) 0 [], .own 3 (some s.2.2.2.1) 0 [], .own 3 (some s.2.2.2.2) 0 []]]]))
      (fun _ => True) (by kernel_rfl) ?_ ?_
    · simp (maxSteps := 1000000) (disch := omega) only [push_cast, go_sem, wpS_tt, wpS_tf, wpS_ft, wpS_ff, wpCond_tt, wpCond_ff, simprocAttr]
      intro a1 a2 a3 a4 a5
      refine ⟨(a1, a5, a2, a3, a4), ?_⟩
      (refine Less.start ?_; repeat (first | exact LessO.nil | exact LessO.all | refine LessO.skip (by decide) ?_ | refine LessO.upd ?_ ?_ | refine LessO.set ?_ ?_)) <;> (try simp (maxSteps := 1000000) (disch := omega) only [push_cast, go_sem, wpS_tt, wpS_tf, wpS_ft, wpS_ff, wpCond_tt, wpCond_ff, simprocAttr])
    · rintro ⟨a1, a2, a3, a4, a5⟩ _
      dsimp only
      refine Sat.freezeC 3 [] 0 0 (n0 := .own 29 (some g3) 1 [.agg [.own 3 (some a1) 1 [.int .i64 (-2)], .own 26 (some a2) 3 [.own 3 (some a3) 0 [], .own 3 (some a4) 0 [], .own 3 (some a5) 0 []]]]) (d := .own 3 (some a1) 1 [.int .i64 (-2)]) rfl rfl rfl ?_
      refine Sat.freezeC 3 [] 0 1 (n0 := .own 29 (some g3) 1 [.agg [.sl [.int .i64 (-2)], .own 26 (some a2) 3 [.own 3 (some a3) 0 [], .own 3 (some a4) 0 [], .own 3 (some a5) 0 []]]]) (d := .own 26 (some a2) 3 [.own 3 (some a3) 0 [], .own 3 (some a4) 0 [], .own 3 (some a5) 0 []]) rfl rfl rfl ?_
      refine Sat.of (S := []) (by kernel_rfl) ?_
      simp (maxSteps := 1000000) (disch := omega) only [push_cast, go_sem, wpS_tt, wpS_tf, wpS_ft, wpS_ff, wpCond_tt, wpCond_ff, simprocAttr, V.fz, V.fz.fzs]
      refine ⟨_, ?_, _, ⟨x, ⟨[-2], [[], [], []]⟩, rfl, hx1, hx2, ⟨by simp, rfl, by simp⟩, q, hq1, by omega, rfl⟩, rfl⟩
      ((repeat (first | exact Sub.no | refine Sub.set ?_ ?_)) <;> (try simp (disch := omega) only [push_cast, go_sem, wpS_tt, wpS_tf, wpS_ft, wpS_ff, wpCond_tt, wpCond_ff, simprocAttr]))
end Go.Proofs.YtfdbminedccccaaGreatDoor
/-! ## What the reference looks at: made -/
namespace Go.Proofs.YtfdbminedccccaaGreatDoor
open Go.RowKit
set_option linter.unusedSimpArgs false
set_option linter.unusedVariables false
set_option pp.maxSteps 3000

@[push_cast] theorem fzs_bool {α : Type} (f : α → Bool) (l : List α) : (l.map fun d => V.bool (f d)).map V.fz = l.map fun d => V.bool (f d) := by rw [List.map_map]; exact List.map_congr_left fun d _ => rfl
@[push_cast] theorem flatL_bool {α : Type} (f : α → Bool) (l : List α) : flatL (l.map fun d => V.bool (f d)) = true := by simp [flatL, V.cells, V.flatC]
theorem rds_take (p : Prog) (f : Do → Bool) {k : Nat} {d : Do} (h : (scene p).ds[k]? = some d) : ((scene p).ds.take (k + 1)).map (fun d => V.bool (f d)) = ((scene p).ds.take k).map (fun d => V.bool (f d)) ++ [.bool (f d)] := by
  rw [take_get h, List.map_append]; rfl
theorem olook_fn (p : Prog) (hp : p.length < 2 ^ 40) (hok : progOk p = true) : Fc Tryz.prog 33 [progV p] noM (fun r m => ∃ ob, (∃ g, r = .ptr 100 [] 0 0 g 6 ∧ ob = ordV p g (rdsV p) (wrtV p) (.own 0 none 0 []) (.own 0 none 0 [])) ∧ m = noM.set 100 ob) := by
  have hel := events_le hok
  have hsl : (scene p).ds.length = (events p).length := by simp [scene]
  have hev := specExecEvents_fn p hp
  rw [hok, if_pos rfl] at hev
  refine Fc.rekeyP (R' := fun r m => ∃ g, r = .ptr 2 [] 0 0 g 6 ∧ m = noM.set 2 (ordV p g (rdsV p) (wrtV p) (.own 0 none 0 []) (.own 0 none 0 []))) ?_ ?_
  rotate_left
  · rintro r m ⟨g, rfl, rfl⟩
    exact ⟨2, g, 6, _, rfl, rfl, _, ⟨g, rfl, rfl⟩, era_set rfl⟩
  rw [progV_eq] at hev
  refine Fc.start (S := [7]) Tryz.func33 Tryz.ntmps33 Tryz.results33 rfl (by decide) rfl (by kernel_rfl) ?_
  simp (maxSteps := 1000000) (disch := omega) only [push_cast, go_sem, wpS_tt, wpS_tf, wpS_ft, wpS_ff, wpCond_tt, wpCond_ff, simprocAttr, progV_eq]
  intro g1
  refine Sat.drawnE [] [] [0, 1, 2] (pureT [(62, .sl ((events p).map Evt.V))]) (by kernel_rfl) (by kernel_rfl) ?_
  simp (maxSteps := 1000000) (disch := omega) only [push_cast, go_sem, wpS_tt, wpS_tf, wpS_ft, wpS_ff, wpCond_tt, wpCond_ff, simprocAttr]
  refine runD_pure rfl hev rfl rfl ?_ ?_
  · rfl
  simp (maxSteps := 1000000) (disch := omega) only [push_cast, go_sem, wpS_tt, wpS_tf, wpS_ft, wpS_ff, wpCond_tt, wpCond_ff, simprocAttr]
  intro g3
  refine Sat.loop (σ := Nat × Rw × Rw) (fun x => upd (upd noT 3 (.ptr 3 [] 0 0 g3 6)) 4 (.int .i64 x.1)) (fun x => noM.set 3 (.own 74 (some g3) 1 [.agg [.sl (p.map thrV), .sl ((events p).map Evt.V), .own x.2.1.e x.2.1.γ x.2.1.c (((scene p).ds.take x.1).map fun d => .bool d.reads), .own x.2.2.e x.2.2.γ x.2.2.c (((scene p).ds.take x.1).map fun d => .bool d.writes), .own 0 none 0 [], .own 0 none 0 []]]))
    (fun x => x.1 ≤ (events p).length ∧ (x.2.1.γ = none ∨ x.2.1.e = 4) ∧ (x.2.2.γ = none ∨ x.2.2.e = 4)) (fun x => (events p).length - x.1) (0, ⟨0, none, 0⟩, ⟨0, none, 0⟩) ⟨by omega, .inl rfl, .inl rfl⟩ ?_ ?_
  · (refine Less.start ?_; repeat (first | exact LessO.nil | exact LessO.all | refine LessO.skip (by decide) ?_ | refine LessO.upd ?_ ?_ | refine LessO.set ?_ ?_)) <;> (try simp (maxSteps := 1000000) (disch := omega) only [push_cast, go_sem, wpS_tt, wpS_tf, wpS_ft, wpS_ff, wpCond_tt, wpCond_ff, simprocAttr])
    all_goals simp
  rintro ⟨k, ⟨e1, γ1, c1⟩, ⟨e2, γ2, c2⟩⟩ ⟨hk, hγ1, hγ2⟩ J hJ
  simp only at hk hγ1 hγ2 hJ
  have hγ1' : (γ1 = none ∨ e1 = 4) = True := by simp only [hγ1]
  have hγ2' : (γ2 = none ∨ e2 = 4) = True := by simp only [hγ2]
  refine Sat.of (S := []) (by kernel_rfl) ?_
  rcases Nat.lt_or_ge k (events p).length with hlt | hge
  · obtain ⟨ek, hek⟩ : ∃ e, (events p)[k]? = some e := ⟨_, List.getElem?_eq_getElem hlt⟩
    have hdk : (scene p).ds[k]? = some (dsA p k) := by rw [dsA, scene_get hek]; rfl
    have htl : ((scene p).ds.take k).length = k := by rw [List.length_take]; omega
    have h1 := odo_fn p g3 (.own e1 γ1 c1 (((scene p).ds.take k).map fun d => .bool d.reads)) (.own e2 γ2 c2 (((scene p).ds.take k).map fun d => .bool d.writes)) (.own 0 none 0 []) (.own 0 none 0 []) k hlt
    rw [ordV_eq, Do.V_eq] at h1
    have hr := l1Reads_fn (dsA p k)
    have hw := l1Writes_fn (dsA p k)
    rw [Do.V_eq] at hr hw
    simp (maxSteps := 1000000) (disch := omega) only [push_cast, go_sem, wpS_tt, wpS_tf, wpS_ft, wpS_ff, wpCond_tt, wpCond_ff, simprocAttr, hlt]
    refine Sat.drawnE [(4, 9)] [] [4, 7, 8] (lookT (.own 74 (some g3) 1 [.agg [.sl (p.map thrV), .sl ((events p).map Evt.V), .own e1 γ1 c1 (((scene p).ds.take k).map fun d => .bool d.reads), .own e2 γ2 c2 (((scene p).ds.take k).map fun d => .bool d.writes), .own 0 none 0 [], .own 0 none 0 []]]) [(65, .bool (dsA p k).reads)] [(66, (dsA p k).V)]) (by kernel_rfl) (by kernel_rfl) ?_
    simp (maxSteps := 1000000) (disch := omega) only [push_cast, go_sem, wpS_tt, wpS_tf, wpS_ft, wpS_ff, wpCond_tt, wpCond_ff, simprocAttr]
    refine runD_look h1 rfl rfl rfl rfl rfl ?_ ?_
    · rfl
    simp (maxSteps := 1000000) (disch := omega) only [push_cast, go_sem, wpS_tt, wpS_tf, wpS_ft, wpS_ff, wpCond_tt, wpCond_ff, simprocAttr, Do.V_eq]
    refine runD_pure rfl hr rfl rfl ?_ ?_
    · rfl
    simp (maxSteps := 1000000) (disch := omega) only [push_cast, go_sem, wpS_tt, wpS_tf, wpS_ft, wpS_ff, wpCond_tt, wpCond_ff, simprocAttr, hγ1', htl]
    intro g28
    refine ⟨by omega, fun γ3 c3 _ => ?_⟩
    have h2 := odo_fn p g3 (.own 4 γ3 c3 (((scene p).ds.take (k + 1)).map fun d => .bool d.reads)) (.own e2 γ2 c2 (((scene p).ds.take k).map fun d => .bool d.writes)) (.own 0 none 0 []) (.own 0 none 0 []) k hlt
    rw [rds_take p Do.reads hdk, ordV_eq, Do.V_eq] at h2
    refine Sat.drawnE [(4, 9)] [] [4, 7, 8] (lookT (.own 74 (some g3) 1 [.agg [.sl (p.map thrV), .sl ((events p).map Evt.V), .own 4 γ3 c3 ((((scene p).ds.take k).map fun d => .bool d.reads) ++ [.bool (dsA p k).reads]), .own e2 γ2 c2 (((scene p).ds.take k).map fun d => .bool d.writes), .own 0 none 0 [], .own 0 none 0 []]]) [(67, .bool (dsA p k).writes)] [(66, (dsA p k).V)]) (by kernel_rfl) (by kernel_rfl) ?_
    simp (maxSteps := 1000000) (disch := omega) only [push_cast, go_sem, wpS_tt, wpS_tf, wpS_ft, wpS_ff, wpCond_tt, wpCond_ff, simprocAttr]
    refine runD_look h2 rfl rfl rfl rfl rfl ?_ ?_
    · rfl
    simp (maxSteps := 1000000) (disch := omega) only [push_cast, go_sem, wpS_tt, wpS_tf, wpS_ft, wpS_ff, wpCond_tt, wpCond_ff, simprocAttr, Do.V_eq]
    refine runD_pure rfl hw rfl rfl ?_ ?_
    · rfl
    simp (maxSteps := 1000000) (disch := omega) only [push_cast, go_sem, wpS_tt, wpS_tf, wpS_ft, wpS_ff, wpCond_tt, wpCond_ff, simprocAttr, hγ2', htl]
    intro g41
    refine ⟨by omega, fun γ4 c4 _ => ?_⟩
    refine hJ (k + 1, ⟨4, γ3, c3⟩, ⟨4, γ4, c4⟩) _ _ ⟨by dsimp only; omega, .inr rfl, .inr rfl⟩ (by dsimp only; omega) ?_
    dsimp only
    rw [rds_take p Do.reads hdk, rds_take p Do.writes hdk]
    (refine Less.start ?_; repeat (first | exact LessO.nil | exact LessO.all | refine LessO.skip (by decide) ?_ | refine LessO.upd ?_ ?_ | refine LessO.set ?_ ?_)) <;> (try simp (maxSteps := 1000000) (disch := omega) only [push_cast, go_sem, wpS_tt, wpS_tf, wpS_ft, wpS_ff, wpCond_tt, wpCond_ff, simprocAttr])
  · have : k = (events p).length := by omega
    subst this
    simp (maxSteps := 1000000) (disch := omega) only [push_cast, go_sem, wpS_tt, wpS_tf, wpS_ft, wpS_ff, wpCond_tt, wpCond_ff, simprocAttr]
    refine Sat.freezeC 3 [] 0 2 (n0 := .own 74 (some g3) 1 [.agg [.sl (p.map thrV), .sl ((events p).map Evt.V), .own e1 γ1 c1 (((scene p).ds.take (events p).length).map fun d => .bool d.reads), .own e2 γ2 c2 (((scene p).ds.take (events p).length).map fun d => .bool d.writes), .own 0 none 0 [], .own 0 none 0 []]]) (d := .own e1 γ1 c1 (((scene p).ds.take (events p).length).map fun d => .bool d.reads)) rfl rfl rfl ?_
    have f1 : (V.own e1 γ1 c1 (((scene p).ds.take (events p).length).map fun d => .bool d.reads)).fz = rdsV p := by rw [← hsl, List.take_length]; simp only [V.fz, fzs_map, fzs_bool, rdsV]
    have f2 : (V.own e2 γ2 c2 (((scene p).ds.take (events p).length).map fun d => .bool d.writes)).fz = wrtV p := by rw [← hsl, List.take_length]; simp only [V.fz, fzs_map, fzs_bool, wrtV]
    rw [f1]
    refine Sat.freezeC 3 [] 0 3 (n0 := .own 74 (some g3) 1 [.agg [.sl (p.map thrV), .sl ((events p).map Evt.V), rdsV p, .own e2 γ2 c2 (((scene p).ds.take (events p).length).map fun d => .bool d.writes), .own 0 none 0 [], .own 0 none 0 []]]) (d := .own e2 γ2 c2 (((scene p).ds.take (events p).length).map fun d => .bool d.writes)) rfl rfl rfl ?_
    rw [f2]
    refine Sat.of (S := []) (by kernel_rfl) ?_
    simp (maxSteps := 1000000) (disch := omega) only [push_cast, go_sem, wpS_tt, wpS_tf, wpS_ft, wpS_ff, wpCond_tt, wpCond_ff, simprocAttr, rdsV_eq, wrtV_eq]
    refine ⟨_, ?_, g3, rfl, rfl⟩
    rw [ordV_eq]
    ((repeat (first | exact Sub.no | refine Sub.set ?_ ?_)) <;> (try simp (disch := omega) only [push_cast, go_sem, wpS_tt, wpS_tf, wpS_ft, wpS_ff, wpCond_tt, wpCond_ff, simprocAttr]))
/-- The ranks of the first k events, noughts behind. -/
def rnk (p : Prog) (x : Exe) (k : Nat) : List Int := (List.range (events p).length).map fun i => if i < k then rankS p x i else 0
theorem rnk_zero (p : Prog) (x : Exe) : rnk p x 0 = List.replicate (events p).length 0 := by
  rw [rnk, List.eq_replicate_iff]
  exact ⟨by simp, fun b hb => by simp at hb; exact hb.2.symm⟩
theorem rnk_all (p : Prog) (x : Exe) : rnk p x (events p).length = (List.range (events p).length).map (rankS p x) := by
  rw [rnk]
  exact List.map_congr_left fun i hi => if_pos (List.mem_range.1 hi)
theorem rnk_succ (p : Prog) (x : Exe) (k : Nat) : rnk p x (k + 1) = (rnk p x k).set k (rankS p x k) := by
  apply List.ext_getElem?
  intro i
  rw [rnk, rnk, List.getElem?_set, List.getElem?_map, List.getElem?_map, List.length_map, List.length_range]
  by_cases hi : i < (events p).length
  · rw [List.getElem?_range hi]
    by_cases hk : k = i
    · subst hk; simp [hi]
    · have e : i < k + 1 ↔ i < k := by omega
      simp [hk, e]
  · have : (List.range (events p).length)[i]? = none := by simp; omega
    rw [this]
    by_cases hk : k = i
    · subst hk; simp [hi]
    · simp [hk]
theorem rnk_same (p : Prog) (x : Exe) {k : Nat} (h : rankS p x k = 0) : rnk p x (k + 1) = rnk p x k := by
  rw [rnk, rnk]
  refine List.map_congr_left fun i hi => ?_
  by_cases hk : i = k
  · subst hk; simp [h]
  · have e : i < k + 1 ↔ i < k := by omega
    simp [e]
theorem oway_fn (p : Prog) (x : Exe) (g : Nat) (hok : progOk p = true) (hf : x.fr.length = (events p).length) (ho : x.od.length = 3) (hrow : ∀ r ∈ x.od, r.length < 2 ^ 40) :
    Fc Tryz.prog 34 [.ptr 0 [] 0 0 g 6, x.V] (noM.set 0 (ordV p g (rdsV p) (wrtV p) (.own 0 none 0 []) (.own 0 none 0 [])))
      (fun r m => ∃ ob, (∃ gr, r = .tuple [] ∧ ob = ordV p g (rdsV p) (wrtV p) (.sl (x.fr.map (V.int .i64))) (.own 3 (some gr) (events p).length (((List.range (events p).length).map (rankS p x)).map (V.int .i64)))) ∧ m = noM.set 0 ob) := by
  have hel := events_le hok
  have hsl : (scene p).ds.length = (events p).length := by simp [scene]
  refine Fc.start (S := []) Tryz.func34 Tryz.ntmps34 Tryz.results34 rfl (by decide) rfl (by kernel_rfl) ?_
  simp (maxSteps := 1000000) (disch := omega) only [push_cast, go_sem, wpS_tt, wpS_tf, wpS_ft, wpS_ff, wpCond_tt, wpCond_ff, simprocAttr, Exe.V_eq, ordV_eq, rdsV_eq, wrtV_eq, List.length_replicate]
  intro g3
  refine ⟨by omega, fun gr => ?_⟩
  refine Sat.loop (σ := Nat) (fun k => upd (upd (upd noT 0 (.ptr 0 [] 0 0 g 6)) 3 (.ptr 3 [] 0 0 g3 2)) 4 (.int .i64 k))
    (fun k => (noM.set 0 (.own 74 (some g) 1 [.agg [.sl (p.map thrV), .sl ((events p).map Evt.V), .sl ((scene p).ds.map fun d => .bool d.reads), .sl ((scene p).ds.map fun d => .bool d.writes), .sl (x.fr.map (V.int .i64)), .own 3 (some gr) (events p).length ((rnk p x k).map (V.int .i64))]])).set 3 (.own 29 (some g3) 1 [.agg [.sl (x.fr.map (V.int .i64)), .sl (x.od.map intsV)]]))
    (fun k => k ≤ (events p).length) (fun k => (events p).length - k) 0 (by omega) ?_ ?_
  · (refine Less.start ?_; repeat (first | exact LessO.nil | exact LessO.all | refine LessO.skip (by decide) ?_ | refine LessO.upd ?_ ?_ | refine LessO.set ?_ ?_)) <;> (try simp (maxSteps := 1000000) (disch := omega) only [push_cast, go_sem, wpS_tt, wpS_tf, wpS_ft, wpS_ff, wpCond_tt, wpCond_ff, simprocAttr])
    all_goals simp [rnk_zero]
  rintro k hk J hJ
  refine Sat.of (S := []) (by kernel_rfl) ?_
  have hrl : (rnk p x k).length = (events p).length := by simp [rnk]
  rcases Nat.lt_or_ge k (events p).length with hlt | hge
  · obtain ⟨ek, hek⟩ : ∃ e, (events p)[k]? = some e := ⟨_, List.getElem?_eq_getElem hlt⟩
    have hdk : (scene p).ds[k]? = some (dsA p k) := by rw [dsA, scene_get hek]; rfl
    have hp3 := scene_p hok (dsA p k) (List.mem_of_getElem? hdk)
    have h1 := odo_fn p g (rdsV p) (wrtV p) (.sl (x.fr.map (V.int .i64))) (.own 3 (some gr) (events p).length ((rnk p x k).map (V.int .i64))) k hlt
    rw [ordV_eq, rdsV_eq, wrtV_eq] at h1
    obtain ⟨z, hz⟩ : ∃ z, (rnk p x k)[k]? = some z := ⟨_, List.getElem?_eq_getElem (by omega)⟩
    obtain ⟨f, hfk⟩ : ∃ z, x.fr[k]? = some z := ⟨_, List.getElem?_eq_getElem (by omega)⟩
    have hfl : k < x.fr.length := by omega
    cases hw : (dsA p k).writes
    · cases hr : (dsA p k).reads
      · simp (maxSteps := 1000000) (disch := omega) only [push_cast, go_sem, wpS_tt, wpS_tf, wpS_ft, wpS_ff, wpCond_tt, wpCond_ff, simprocAttr, hlt, hdk, hsl, hw, hr]
        refine hJ (k + 1) _ _ (by omega) (by omega) ?_
        rw [rnk_same p x (by simp [rankS, hw, hr])]
        (refine Less.start ?_; repeat (first | exact LessO.nil | exact LessO.all | refine LessO.skip (by decide) ?_ | refine LessO.upd ?_ ?_ | refine LessO.set ?_ ?_)) <;> (try simp (maxSteps := 1000000) (disch := omega) only [push_cast, go_sem, wpS_tt, wpS_tf, wpS_ft, wpS_ff, wpCond_tt, wpCond_ff, simprocAttr])
      · obtain ⟨p0, p1⟩ := hp3 (by simp [Do.uses, hr])
        obtain ⟨pl, hpl⟩ := Int.eq_ofNat_of_zero_le p0
        obtain ⟨row, hrw⟩ : ∃ row, x.od[pl]? = some row := ⟨_, List.getElem?_eq_getElem (by omega)⟩
        have hrk := rank_fn row f (hrow row (List.mem_of_getElem? hrw))
        have hpl3 : (pl : Int) < 3 := by omega
        simp (maxSteps := 1000000) (disch := omega) only [push_cast, go_sem, wpS_tt, wpS_tf, wpS_ft, wpS_ff, wpCond_tt, wpCond_ff, simprocAttr, hlt, hdk, hsl, hw, hr]
        refine Sat.drawnE [] [] [3, 6, 9, 12, 14, 17, 18] (lookT (.own 74 (some g) 1 [.agg [.sl (p.map thrV), .sl ((events p).map Evt.V), .sl ((scene p).ds.map fun d => .bool d.reads), .sl ((scene p).ds.map fun d => .bool d.writes), .sl (x.fr.map (V.int .i64)), .own 3 (some gr) (events p).length ((rnk p x k).map (V.int .i64))]]) [(68, .int .i64 (Lib.idxOf row f))] [(66, (dsA p k).V)]) (by kernel_rfl) (by kernel_rfl) ?_
        simp (maxSteps := 1000000) (disch := omega) only [push_cast, go_sem, wpS_tt, wpS_tf, wpS_ft, wpS_ff, wpCond_tt, wpCond_ff, simprocAttr]
        refine runD_look h1 rfl rfl rfl rfl rfl ?_ ?_
        · rfl
        simp (maxSteps := 1000000) (disch := omega) only [push_cast, go_sem, wpS_tt, wpS_tf, wpS_ft, wpS_ff, wpCond_tt, wpCond_ff, simprocAttr, Do.V_eq, hpl, hpl3, ho, hrw, intsV_eq, hfk, hfl]
        refine runD_pure rfl hrk rfl rfl ?_ ?_
        · rfl
        simp (maxSteps := 1000000) (disch := omega) only [push_cast, go_sem, wpS_tt, wpS_tf, wpS_ft, wpS_ff, wpCond_tt, wpCond_ff, simprocAttr, hz, hrl, hlt]
        have hrS : rankS p x k = Lib.idxOf row f := by simp [rankS, hw, hr, hpl, hrw, hfk]
        refine hJ (k + 1) _ _ (by omega) (by omega) ?_
        rw [rnk_succ, hrS]
        (refine Less.start ?_; repeat (first | exact LessO.nil | exact LessO.all | refine LessO.skip (by decide) ?_ | refine LessO.upd ?_ ?_ | refine LessO.set ?_ ?_)) <;> (try simp (maxSteps := 1000000) (disch := omega) only [push_cast, go_sem, wpS_tt, wpS_tf, wpS_ft, wpS_ff, wpCond_tt, wpCond_ff, simprocAttr])
        rw [modInts]
    · obtain ⟨p0, p1⟩ := hp3 (by simp [Do.uses, hw])
      obtain ⟨pl, hpl⟩ := Int.eq_ofNat_of_zero_le p0
      obtain ⟨row, hrw⟩ : ∃ row, x.od[pl]? = some row := ⟨_, List.getElem?_eq_getElem (by omega)⟩
      have hrk := rank_fn row k (hrow row (List.mem_of_getElem? hrw))
      have hpl3 : (pl : Int) < 3 := by omega
      simp (maxSteps := 1000000) (disch := omega) only [push_cast, go_sem, wpS_tt, wpS_tf, wpS_ft, wpS_ff, wpCond_tt, wpCond_ff, simprocAttr, hlt, hdk, hsl, hw]
      refine Sat.drawnE [] [] [3, 6, 9, 12, 14] (lookT (.own 74 (some g) 1 [.agg [.sl (p.map thrV), .sl ((events p).map Evt.V), .sl ((scene p).ds.map fun d => .bool d.reads), .sl ((scene p).ds.map fun d => .bool d.writes), .sl (x.fr.map (V.int .i64)), .own 3 (some gr) (events p).length ((rnk p x k).map (V.int .i64))]]) [(68, .int .i64 (Lib.idxOf row k))] [(66, (dsA p k).V)]) (by kernel_rfl) (by kernel_rfl) ?_
      simp (maxSteps := 1000000) (disch := omega) only [push_cast, go_sem, wpS_tt, wpS_tf, wpS_ft, wpS_ff, wpCond_tt, wpCond_ff, simprocAttr]
      refine runD_look h1 rfl rfl rfl rfl rfl ?_ ?_
      · rfl
      simp (maxSteps := 1000000) (disch := omega) only [push_cast, go_sem, wpS_tt, wpS_tf, wpS_ft, wpS_ff, wpCond_tt, wpCond_ff, simprocAttr, Do.V_eq, hpl, hpl3, ho, hrw, intsV_eq]
      refine runD_pure rfl hrk rfl rfl ?_ ?_
      · rfl
      simp (maxSteps := 1000000) (disch := omega) only [push_cast, go_sem, wpS_tt, wpS_tf, wpS_ft, wpS_ff, wpCond_tt, wpCond_ff, simprocAttr, hz, hrl, hlt]
      have hrS : rankS p x k = Lib.idxOf row k := by simp [rankS, hw, hpl, hrw]
      refine hJ (k + 1) _ _ (by omega) (by omega) ?_
      rw [rnk_succ, hrS]
      (refine Less.start ?_; repeat (first | exact LessO.nil | exact LessO.all | refine LessO.skip (by decide) ?_ | refine LessO.upd ?_ ?_ | refine LessO.set ?_ ?_)) <;> (try simp (maxSteps := 1000000) (disch := omega) only [push_cast, go_sem, wpS_tt, wpS_tf, wpS_ft, wpS_ff, wpCond_tt, wpCond_ff, simprocAttr])
      rw [modInts]
  · have : k = (events p).length := by omega
    subst this
    simp (maxSteps := 1000000) (disch := omega) only [push_cast, go_sem, wpS_tt, wpS_tf, wpS_ft, wpS_ff, wpCond_tt, wpCond_ff, simprocAttr]
    rw [rnk_all]
    refine ⟨_, ?_, _, ⟨gr, rfl⟩, rfl⟩
    ((repeat (first | exact Sub.no | refine Sub.set ?_ ?_)) <;> (try simp (disch := omega) only [push_cast, go_sem, wpS_tt, wpS_tf, wpS_ft, wpS_ff, wpCond_tt, wpCond_ff, simprocAttr]))
end Go.Proofs.YtfdbminedccccaaGreatDoor
/-! ## OrderHas, by the reference -/
namespace Go.Proofs.YtfdbminedccccaaGreatDoor
open Go.RowKit
set_option linter.unusedSimpArgs false
set_option linter.unusedVariables false
set_option pp.maxSteps 3000

section
variable {P : Program} {M : Mem} {k : V → Mem → Prop}
/-- A call that changes the object of its first argument. -/
theorem callR.mod {f : FuncId} {bs : List V} {g a n : Nat} {o : V} {Q : V → V → Prop} {d : Option Nat} (h : Fc P f (.ptr 0 [] 0 0 g n :: bs) (noM.set 0 o) fun r m => ∃ o', Q r o' ∧ m = noM.set 0 o') (hM : M a = some o) (hk : (bs.all fun v => v.key.isNone) = true) (h9 : Nat.ble (bs.length + 1) 90 = true)
    (hK : ∀ r o', Q r o' → runV (some (True, det (resN d r) (M.set a o'))) k .mk) : callR P f (.ptr a [] 0 0 g n :: bs) d M k .mk := by
  have hk' : ((bs.map V.key).all fun x => x.isNone) = true := by rw [List.all_map]; exact hk
  refine callR.intro (F := noM.set 0 o) (R := fun r m => ∃ o', Q r o' ∧ m = noM.set 0 o') (by rw [look_args hk]; exact h) (look_nodup hk) (Nat.le_of_ble_eq_true h9) (Sub.set Sub.no (look_foot hM)) ?_
  rintro r0 Mf ⟨o', hq, rfl⟩
  have : mergeM M ((V.ptr a [] 0 0 g n :: bs).map V.key) d (noM.set 0 o') = M.set a o' := by
    rw [merge_eq, List.map_cons]
    have e1 : (noM.set 0 o') 100 = none := rfl
    have e2 : (noM.set 0 o') 0 = some o' := rfl
    rw [e1, mgD_none', key_ptr, mg_some, e2, mg_all_none hk', MemU_some]
  rw [this]
  exact ((runV_det.1 (hK r0 o' hq)).2)
end
end Go.Proofs.YtfdbminedccccaaGreatDoor
/-! ## The reference: the net of an order; that with all that was read, and written -/
namespace Go.Proofs.YtfdbminedccccaaGreatDoor
open Go.RowKit
set_option linter.unusedSimpArgs false
set_option linter.unusedVariables false
set_option pp.maxSteps 3000

def rowP (f : Nat → Bool) (n b : Nat) : List Bool := (List.range n).map fun j => decide (j < b) && f j
theorem rowP_len (f : Nat → Bool) (n b : Nat) : (rowP f n b).length = n := by simp [rowP]
theorem rowP_zero (f : Nat → Bool) (n : Nat) : rowP f n 0 = List.replicate n false := by
  rw [rowP, List.eq_replicate_iff]
  refine ⟨by simp, fun b hb => ?_⟩
  simp only [List.mem_map] at hb
  obtain ⟨i, _, rfl⟩ := hb
  simp
theorem rowP_all (f : Nat → Bool) (n : Nat) : rowP f n n = (List.range n).map f :=
  List.map_congr_left fun i hi => by simp [List.mem_range.1 hi]
theorem rowP_set (f : Nat → Bool) (n b : Nat) : (rowP f n b).set b (f b) = rowP f n (b + 1) := by
  apply List.ext_getElem?
  intro i
  rw [List.getElem?_set, rowP_len, rowP, rowP, List.getElem?_map, List.getElem?_map]
  by_cases hi : i < n
  · rw [List.getElem?_range hi]
    by_cases h : b = i
    · subst h; simp [hi]
    · have e1 : (i < b + 1) = (i < b) := by simp; omega
      simp [h, e1]
  · have : (List.range n)[i]? = none := by simp; omega
    rw [this]
    by_cases h : b = i
    · subst h; simp [hi]
    · simp [h]
theorem netL_take (R : Nat → Nat → Bool) {n a : Nat} (ha : a < n) : (netL R n).take (a + 1) = (netL R n).take a ++ [(List.range n).map (R a)] := take_get (netL_get ha)
theorem onet_fn (p : Prog) (g : Nat) (c4 c5 : V) (hn : (events p).length ≤ 42) (kind : Int) :
    Fo Tryz.prog 36 [.int .i64 kind] g 6 (ordV p g (rdsV p) (wrtV p) c4 c5) (netE (netL (staysS p kind) (events p).length)) := by
  have hst := fun a b ha hb => ostays_fn p g c4 c5 a b hn kind ha hb
  rw [ordV_eq, rdsV_eq, wrtV_eq] at hst ⊢
  obtain ⟨n, hnn⟩ : ∃ n, (events p).length = n := ⟨_, rfl⟩
  rw [hnn] at hn hst ⊢
  have hNl := netL_len (staysS p kind) n
  refine Fc.start (S := [11]) Tryz.func36 Tryz.ntmps36 Tryz.results36 rfl (by decide) rfl (by kernel_rfl) ?_
  simp (maxSteps := 1000000) (disch := omega) only [push_cast, go_sem, wpS_tt, wpS_tf, wpS_ft, wpS_ff, wpCond_tt, wpCond_ff, simprocAttr]
  intro g5
  refine Sat.loop (σ := EvS) (fun x => upd (upd (upd (upd noT 0 (.ptr 0 [] 0 0 g 6)) 1 (.int .i64 kind)) 5 (.ptr 5 [] 0 0 g5 1)) 6 (.int .i64 x.k))
    (fun x => (noM.set 0 (.own 74 (some g) 1 [.agg [.sl (p.map thrV), .sl ((events p).map Evt.V), .sl ((scene p).ds.map fun d => .bool d.reads), .sl ((scene p).ds.map fun d => .bool d.writes), c4, c5]])).set 5 (.own 100 (some g5) 1 [.agg [.own x.e x.γ x.c (((netL (staysS p kind) n).take x.k).map boolsV)]]))
    (fun x => x.k ≤ n ∧ (x.γ = none ∨ x.e = 72)) (fun x => n - x.k) ⟨0, 0, none, 0⟩ (by simp) ?_ ?_
  · (refine Less.start ?_; repeat (first | exact LessO.nil | exact LessO.all | refine LessO.skip (by decide) ?_ | refine LessO.upd ?_ ?_ | refine LessO.set ?_ ?_)) <;> (try simp (maxSteps := 1000000) (disch := omega) only [push_cast, go_sem, wpS_tt, wpS_tf, wpS_ft, wpS_ff, wpCond_tt, wpCond_ff, simprocAttr])
  rintro ⟨a, e, γ, c⟩ ⟨ha, hγ⟩ J hJ
  simp only at ha hγ hJ
  refine Sat.of (S := [11]) (by kernel_rfl) ?_
  rcases Nat.lt_or_ge a n with hlt | hge
  · simp (maxSteps := 1000000) (disch := omega) only [push_cast, go_sem, wpS_tt, wpS_tf, wpS_ft, wpS_ff, wpCond_tt, wpCond_ff, simprocAttr, hlt, hnn]
    refine ⟨by omega, fun gr => ?_⟩
    refine Sat.loop (σ := Nat) (fun b => upd (upd (upd (upd (upd (upd noT 0 (.ptr 0 [] 0 0 g 6)) 1 (.int .i64 kind)) 5 (.ptr 5 [] 0 0 g5 1)) 6 (.int .i64 a)) 7 (.msl 7 [] (some gr) n n)) 8 (.int .i64 b))
      (fun b => ((noM.set 0 (.own 74 (some g) 1 [.agg [.sl (p.map thrV), .sl ((events p).map Evt.V), .sl ((scene p).ds.map fun d => .bool d.reads), .sl ((scene p).ds.map fun d => .bool d.writes), c4, c5]])).set 5 (.own 100 (some g5) 1 [.agg [.own e γ c (((netL (staysS p kind) n).take a).map boolsV)]])).set 7 (.own 4 (some gr) n ((rowP (staysS p kind a) n b).map V.bool)))
      (fun b => b ≤ n) (fun b => n - b) 0 (by omega) ?_ ?_
    · (refine Less.start ?_; repeat (first | exact LessO.nil | exact LessO.all | refine LessO.skip (by decide) ?_ | refine LessO.upd ?_ ?_ | refine LessO.set ?_ ?_)) <;> (try simp (maxSteps := 1000000) (disch := omega) only [push_cast, go_sem, wpS_tt, wpS_tf, wpS_ft, wpS_ff, wpCond_tt, wpCond_ff, simprocAttr])
      all_goals rw [rowP_zero]; simp
    rintro b hb J2 hJ2
    have hpl := rowP_len (staysS p kind a) n b
    rcases Nat.lt_or_ge b n with hlt2 | hge2
    · refine Sat.of (S := [11]) (by kernel_rfl) ?_
      simp (maxSteps := 1000000) (disch := omega) only [push_cast, go_sem, wpS_tt, wpS_tf, wpS_ft, wpS_ff, wpCond_tt, wpCond_ff, simprocAttr, hlt2, hnn]
      refine callR.look (hst a b hlt hlt2) rfl rfl rfl ?_
      obtain ⟨z, hz⟩ : ∃ z, (rowP (staysS p kind a) n b)[b]? = some z := ⟨_, List.getElem?_eq_getElem (by omega)⟩
      simp (maxSteps := 1000000) (disch := omega) only [push_cast, go_sem, wpS_tt, wpS_tf, wpS_ft, wpS_ff, wpCond_tt, wpCond_ff, simprocAttr, hlt2, hpl, hz]
      refine hJ2 (b + 1) _ _ (by omega) (by omega) ?_
      rw [← rowP_set]
      (refine Less.start ?_; repeat (first | exact LessO.nil | exact LessO.all | refine LessO.skip (by decide) ?_ | refine LessO.upd ?_ ?_ | refine LessO.set ?_ ?_)) <;> (try simp (maxSteps := 1000000) (disch := omega) only [push_cast, go_sem, wpS_tt, wpS_tf, wpS_ft, wpS_ff, wpCond_tt, wpCond_ff, simprocAttr])
    · have : b = n := by omega
      subst this
      have hγ' : (γ = none ∨ e = 72) = True := by simp only [hγ]
      have htl : ((netL (staysS p kind) b).take a).length = a := by rw [List.length_take, hNl]; omega
      rw [rowP_all]
      refine Sat.freezeT (upd (upd (upd (upd (upd (upd noT 0 (.ptr 0 [] 0 0 g 6)) 1 (.int .i64 kind)) 5 (.ptr 5 [] 0 0 g5 1)) 6 (.int .i64 a)) 8 (.int .i64 b)) 7 (boolsV ((List.range b).map (staysS p kind a))))
        ((noM.set 0 (.own 74 (some g) 1 [.agg [.sl (p.map thrV), .sl ((events p).map Evt.V), .sl ((scene p).ds.map fun d => .bool d.reads), .sl ((scene p).ds.map fun d => .bool d.writes), c4, c5]])).set 5 (.own 100 (some g5) 1 [.agg [.own e γ c (((netL (staysS p kind) b).take a).map boolsV)]]))
        7 (e := 4) (γ := some gr) (cap := b) (es := ((List.range b).map (staysS p kind a)).map V.bool) rfl ?_ ?_
      · (refine Less.start ?_; repeat (first | exact LessO.nil | exact LessO.all | refine LessO.skip (by decide) ?_ | refine LessO.upd ?_ ?_ | refine LessO.set ?_ ?_)) <;> (try simp (maxSteps := 1000000) (disch := omega) only [push_cast, go_sem, wpS_tt, wpS_tf, wpS_ft, wpS_ff, wpCond_tt, wpCond_ff, simprocAttr])
        simp [boolsV]
      refine Sat.of (S := [11]) (by kernel_rfl) ?_
      simp (maxSteps := 1000000) (disch := omega) only [push_cast, go_sem, wpS_tt, wpS_tf, wpS_ft, wpS_ff, wpCond_tt, wpCond_ff, simprocAttr, hnn, hγ', htl, boolsV_eq]
      intro g49
      refine ⟨by omega, fun γ6 c6 _ => ?_⟩
      refine hJ ⟨a + 1, 72, γ6, c6⟩ _ _ ⟨by dsimp only; omega, .inr rfl⟩ (by dsimp only; omega) ?_
      dsimp only
      rw [netL_take _ hlt]
      (refine Less.start ?_; repeat (first | exact LessO.nil | exact LessO.all | refine LessO.skip (by decide) ?_ | refine LessO.upd ?_ ?_ | refine LessO.set ?_ ?_)) <;> (try simp (maxSteps := 1000000) (disch := omega) only [push_cast, go_sem, wpS_tt, wpS_tf, wpS_ft, wpS_ff, wpCond_tt, wpCond_ff, simprocAttr])
      all_goals simp [boolsV]
  · have : a = n := by omega
    subst this
    simp (maxSteps := 1000000) (disch := omega) only [push_cast, go_sem, wpS_tt, wpS_tf, wpS_ft, wpS_ff, wpCond_tt, wpCond_ff, simprocAttr, hnn]
    refine Sat.fixP (o := 5) (g := g5) (e := 100) (cap := 1) (es := [.agg [.own e γ c (((netL (staysS p kind) a).take a).map boolsV)]]) (T := upd noT 5 (netE (netL (staysS p kind) a))) rfl ?_ ?_
    · refine Fx.ptr Fx.nil rfl rfl (by kernel_rfl) ?_
      have htk : (netL (staysS p kind) a).take a = netL (staysS p kind) a := List.take_of_length_le (by omega)
      simp only [V.cells, List.drop_zero, List.map_cons, List.map_nil, V.fz, fzs_map, fzs_bls, htk]
    refine Sat.of (S := []) (by kernel_rfl) ?_
    simp (maxSteps := 1000000) (disch := omega) only [push_cast, go_sem, wpS_tt, wpS_tf, wpS_ft, wpS_ff, wpCond_tt, wpCond_ff, simprocAttr, netE_eq]
    refine ⟨_, ?_, rfl⟩
    ((repeat (first | exact Sub.no | refine Sub.set ?_ ?_)) <;> (try simp (disch := omega) only [push_cast, go_sem, wpS_tt, wpS_tf, wpS_ft, wpS_ff, wpCond_tt, wpCond_ff, simprocAttr]))

def upR (R T : Nat → Nat → Bool) (a b : Nat) : Nat → Nat → Bool := fun x y => R x y || (T x y && (decide (x < a) || (x == a && decide (y < b))))
def bothR (R T : Nat → Nat → Bool) : Nat → Nat → Bool := fun x y => R x y || T x y
theorem upR_zero (R T : Nat → Nat → Bool) (n : Nat) : netL (upR R T 0 0) n = netL R n := netL_congr fun a b _ _ => by simp [upR]
theorem upR_next (R T : Nat → Nat → Bool) (n a : Nat) : netL (upR R T a n) n = netL (upR R T (a + 1) 0) n := netL_congr fun x y _ hy => by
  simp only [upR]
  by_cases h : x < a
  · have : x < a + 1 := by omega
    simp [h, this]
  · by_cases h2 : x = a
    · subst h2; simp [hy]
    · have h3 : ¬ x < a + 1 := by omega
      simp [h, h2, h3]
theorem upR_all (R T : Nat → Nat → Bool) (n : Nat) : netL (upR R T n 0) n = netL (bothR R T) n := netL_congr fun x y hx _ => by simp [upR, bothR, hx]
theorem upR_no {R T : Nat → Nat → Bool} {n a b : Nat} (h : T a b = false) : netL (upR R T a (b + 1)) n = netL (upR R T a b) n := netL_congr fun x y _ _ => by
  simp only [upR]
  by_cases h2 : x = a
  · subst h2
    by_cases h3 : y = b
    · subst h3; simp [h]
    · have : (y < b + 1) = (y < b) := by simp; omega
      simp [this]
  · have h9 : (x == a) = false := by simpa using h2
    simp [h9]
theorem upR_yes {R T : Nat → Nat → Bool} {n a b : Nat} (h : T a b = true) : netL (upR R T a (b + 1)) n = netL (wiR (upR R T a b) a b) n := netL_congr fun x y _ _ => by
  simp only [upR, wiR]
  by_cases h2 : x = a
  · subst h2
    by_cases h3 : y = b
    · subst h3; simp [h]
    · have h4 : (y < b + 1) = (y < b) := by simp; omega
      simp [h4, h3]
  · have h9 : (x == a) = false := by simpa using h2
    simp [h9]
theorem owhole_fn (p : Prog) (x : Exe) (g : Nat) (R : Nat → Nat → Bool) (hn : (events p).length ≤ 42) (hfr : x.fr.length = (events p).length) (hc : ∀ (i : Nat), i < (events p).length → 0 ≤ (dsA p i).p) (kind : Int) :
    Fo Tryz.prog 35 [netE (netL R (events p).length), .int .i64 kind] g 6 (ordV p g (rdsV p) (wrtV p) (.sl (x.fr.map (V.int .i64))) (.sl (((List.range (events p).length).map (rankS p x)).map (V.int .i64)))) (netE (netL (bothR R (toldS p x kind)) (events p).length)) := by
  have hto := fun a b ha hb => otold_fn p x g a b hfr hc kind ha hb
  rw [ordV_eq, rdsV_eq, wrtV_eq] at hto ⊢
  obtain ⟨n, hnn⟩ : ∃ n, (events p).length = n := ⟨_, rfl⟩
  generalize hrk : V.sl (((List.range (events p).length).map (rankS p x)).map (V.int .i64)) = rk at hto ⊢
  rw [hnn] at hn hto ⊢
  have hNl := netL_len R n
  have hcp := ncopy_fn (netL R n) (by rw [hNl]; omega) (fun l hl => by
    simp only [netL, List.mem_map] at hl
    obtain ⟨i, _, rfl⟩ := hl
    simp; omega)
  rw [netE_eq] at hcp
  refine Fc.start (S := [10]) Tryz.func35 Tryz.ntmps35 Tryz.results35 rfl (by decide) rfl (by kernel_rfl) ?_
  simp (maxSteps := 1000000) (disch := omega) only [push_cast, go_sem, wpS_tt, wpS_tf, wpS_ft, wpS_ff, wpCond_tt, wpCond_ff, simprocAttr, netE_eq]
  refine callR.new hcp rfl rfl ?_
  rintro r ob ⟨g7, e, γ, c, xs, rfl, rfl, h1, h2, h3⟩
  simp (maxSteps := 1000000) (disch := omega) only [push_cast, go_sem, wpS_tt, wpS_tf, wpS_ft, wpS_ff, wpCond_tt, wpCond_ff, simprocAttr, netO_eq]
  refine Sat.loop (σ := Nat × List RowN) (fun y => upd (upd (upd (upd noT 0 (.ptr 0 [] 0 0 g 6)) 2 (.int .i64 kind)) 7 (.ptr 7 [] 0 0 g7 1)) 8 (.int .i64 y.1))
    (fun y => (noM.set 0 (.own 74 (some g) 1 [.agg [.sl (p.map thrV), .sl ((events p).map Evt.V), .sl ((scene p).ds.map fun d => .bool d.reads), .sl ((scene p).ds.map fun d => .bool d.writes), .sl (x.fr.map (V.int .i64)), rk]])).set 7 (.own 100 (some g7) 1 [.agg [.own e γ c (y.2.map RowN.V)]]))
    (fun y => y.1 ≤ n ∧ (∀ z ∈ y.2, z.γ = none ∨ z.e = 4) ∧ y.2.map RowN.l = netL (upR R (toldS p x kind) y.1 0) n) (fun y => n - y.1) (0, xs) ⟨by dsimp only; omega, h2, by dsimp only; rw [h3, upR_zero]⟩ ?_ ?_
  · (refine Less.start ?_; repeat (first | exact LessO.nil | exact LessO.all | refine LessO.skip (by decide) ?_ | refine LessO.upd ?_ ?_ | refine LessO.set ?_ ?_)) <;> (try simp (maxSteps := 1000000) (disch := omega) only [push_cast, go_sem, wpS_tt, wpS_tf, wpS_ft, wpS_ff, wpCond_tt, wpCond_ff, simprocAttr])
  rintro ⟨a, ys⟩ ⟨ha, hye, hys⟩ J hJ
  simp only at ha hye hys hJ
  refine Sat.of (S := [10]) (by kernel_rfl) ?_
  rcases Nat.lt_or_ge a n with hlt | hge
  · simp (maxSteps := 1000000) (disch := omega) only [push_cast, go_sem, wpS_tt, wpS_tf, wpS_ft, wpS_ff, wpCond_tt, wpCond_ff, simprocAttr, hlt, hnn]
    refine Sat.loop (σ := Nat × List RowN) (fun y => upd (upd (upd (upd (upd noT 0 (.ptr 0 [] 0 0 g 6)) 2 (.int .i64 kind)) 7 (.ptr 7 [] 0 0 g7 1)) 8 (.int .i64 a)) 9 (.int .i64 y.1))
      (fun y => (noM.set 0 (.own 74 (some g) 1 [.agg [.sl (p.map thrV), .sl ((events p).map Evt.V), .sl ((scene p).ds.map fun d => .bool d.reads), .sl ((scene p).ds.map fun d => .bool d.writes), .sl (x.fr.map (V.int .i64)), rk]])).set 7 (.own 100 (some g7) 1 [.agg [.own e γ c (y.2.map RowN.V)]]))
      (fun y => y.1 ≤ n ∧ (∀ z ∈ y.2, z.γ = none ∨ z.e = 4) ∧ y.2.map RowN.l = netL (upR R (toldS p x kind) a y.1) n) (fun y => n - y.1) (0, ys) ⟨by dsimp only; omega, hye, hys⟩ ?_ ?_
    · (refine Less.start ?_; repeat (first | exact LessO.nil | exact LessO.all | refine LessO.skip (by decide) ?_ | refine LessO.upd ?_ ?_ | refine LessO.set ?_ ?_)) <;> (try simp (maxSteps := 1000000) (disch := omega) only [push_cast, go_sem, wpS_tt, wpS_tf, wpS_ft, wpS_ff, wpCond_tt, wpCond_ff, simprocAttr])
    rintro ⟨b, zs⟩ ⟨hb, hze, hzs⟩ J2 hJ2
    simp only at hb hze hzs hJ2
    rcases Nat.lt_or_ge b n with hlt2 | hge2
    · have hzl : zs.length = n := by have := congrArg List.length hzs; rw [List.length_map, netL_len] at this; exact this
      refine Sat.someP (o := 7) (q := [(0, 0)]) (e := e) (γ := γ) (cap := c) (es := zs.map RowN.V) rfl ?_ ?_
      · intro h0
        have := congrArg List.length h0
        rw [List.length_map, hzl] at this; simp at this; omega
      intro g1 hg1
      subst hg1
      obtain rfl : e = 72 := h1.resolve_left nofun
      obtain ⟨⟨e1, γ1, c1, l1⟩, hrow⟩ : ∃ row, zs[a]? = some row := ⟨_, List.getElem?_eq_getElem (by omega)⟩
      have hl1 : l1 = (List.range n).map (upR R (toldS p x kind) a b a) := by
        have := netL_get (R := upR R (toldS p x kind) a b) hlt
        rw [← hzs, List.getElem?_map, hrow] at this
        simpa using this
      have hll : l1.length = n := by rw [hl1]; simp
      refine Sat.someP (o := 7) (q := [(0, 0), (a, 0)]) (e := e1) (γ := γ1) (cap := c1) (es := l1.map V.bool) ?_ ?_ ?_
      · simp [Mem.getP, Mem.set, V.getP, V.cellAt, hrow, RowN.V, V.cells]
      · intro h0
        have := congrArg List.length h0
        rw [List.length_map, hll] at this; simp at this; omega
      rintro g2 rfl
      obtain rfl : e1 = 4 := (hze _ (List.mem_of_getElem? hrow)).resolve_left nofun
      obtain ⟨z, hz⟩ : ∃ z, l1[b]? = some z := ⟨_, List.getElem?_eq_getElem (by omega)⟩
      refine Sat.of (S := [10]) (by kernel_rfl) ?_
      simp (maxSteps := 1000000) (disch := omega) only [push_cast, go_sem, wpS_tt, wpS_tf, wpS_ft, wpS_ff, wpCond_tt, wpCond_ff, simprocAttr, hlt2, hnn]
      refine callR.look (hto a b hlt hlt2) rfl rfl rfl ?_
      cases hT : toldS p x kind a b
      · simp (maxSteps := 1000000) (disch := omega) only [push_cast, go_sem, wpS_tt, wpS_tf, wpS_ft, wpS_ff, wpCond_tt, wpCond_ff, simprocAttr]
        refine hJ2 (b + 1, zs) _ _ ⟨by dsimp only; omega, hze, by dsimp only; rw [hzs, upR_no hT]⟩ (by dsimp only; omega) ?_
        (refine Less.start ?_; repeat (first | exact LessO.nil | exact LessO.all | refine LessO.skip (by decide) ?_ | refine LessO.upd ?_ ?_ | refine LessO.set ?_ ?_)) <;> (try simp (maxSteps := 1000000) (disch := omega) only [push_cast, go_sem, wpS_tt, wpS_tf, wpS_ft, wpS_ff, wpCond_tt, wpCond_ff, simprocAttr])
      · simp (maxSteps := 1000000) (disch := omega) only [push_cast, go_sem, wpS_tt, wpS_tf, wpS_ft, wpS_ff, wpCond_tt, wpCond_ff, simprocAttr, hrow, hzl, hlt, RowN.V_eq, hll, hlt2, hz]
        refine hJ2 (b + 1, zs.set a ⟨4, some g2, c1, l1.set b true⟩) _ _ ⟨by dsimp only; omega, ?_, ?_⟩ (by dsimp only; omega) ?_
        · intro y hy
          rcases List.mem_or_eq_of_mem_set hy with hy | hy
          · exact hze y hy
          · rw [hy]; exact .inr rfl
        · dsimp only
          rw [upR_yes hT, ← netL_wi hlt hlt2, ← hzs]
          apply List.ext_getElem?
          intro i
          rw [List.getElem?_modify, List.getElem?_map, List.getElem?_map, List.getElem?_set]
          by_cases h : a = i
          · subst h
            obtain ⟨k1, k2⟩ := List.getElem?_eq_some_iff.1 hrow
            simp [k1, k2]
          · simp [h]
        · (refine Less.start ?_; repeat (first | exact LessO.nil | exact LessO.all | refine LessO.skip (by decide) ?_ | refine LessO.upd ?_ ?_ | refine LessO.set ?_ ?_)) <;> (try simp (maxSteps := 1000000) (disch := omega) only [push_cast, go_sem, wpS_tt, wpS_tf, wpS_ft, wpS_ff, wpCond_tt, wpCond_ff, simprocAttr])
    · have : b = n := by omega
      subst this
      refine Sat.of (S := [10]) (by kernel_rfl) ?_
      simp (maxSteps := 1000000) (disch := omega) only [push_cast, go_sem, wpS_tt, wpS_tf, wpS_ft, wpS_ff, wpCond_tt, wpCond_ff, simprocAttr, hnn]
      refine hJ (a + 1, zs) _ _ ⟨by dsimp only; omega, hze, by dsimp only; rw [hzs, upR_next]⟩ (by dsimp only; omega) ?_
      (refine Less.start ?_; repeat (first | exact LessO.nil | exact LessO.all | refine LessO.skip (by decide) ?_ | refine LessO.upd ?_ ?_ | refine LessO.set ?_ ?_)) <;> (try simp (maxSteps := 1000000) (disch := omega) only [push_cast, go_sem, wpS_tt, wpS_tf, wpS_ft, wpS_ff, wpCond_tt, wpCond_ff, simprocAttr])
  · have : a = n := by omega
    subst this
    simp (maxSteps := 1000000) (disch := omega) only [push_cast, go_sem, wpS_tt, wpS_tf, wpS_ft, wpS_ff, wpCond_tt, wpCond_ff, simprocAttr, hnn]
    refine Sat.fixP (o := 7) (g := g7) (e := 100) (cap := 1) (es := [.agg [.own e γ c (ys.map RowN.V)]]) (T := upd noT 7 (netE (netL (bothR R (toldS p x kind)) a))) rfl ?_ ?_
    · refine Fx.ptr Fx.nil rfl rfl (by kernel_rfl) ?_
      simp only [V.cells, List.drop_zero, List.map_cons, List.map_nil, V.fz, fzs_map, fz_rowsN, hys, upR_all]
    refine Sat.of (S := []) (by kernel_rfl) ?_
    simp (maxSteps := 1000000) (disch := omega) only [push_cast, go_sem, wpS_tt, wpS_tf, wpS_ft, wpS_ff, wpCond_tt, wpCond_ff, simprocAttr, netE_eq]
    refine ⟨_, ?_, rfl⟩
    ((repeat (first | exact Sub.no | refine Sub.set ?_ ?_)) <;> (try simp (disch := omega) only [push_cast, go_sem, wpS_tt, wpS_tf, wpS_ft, wpS_ff, wpCond_tt, wpCond_ff, simprocAttr]))
end Go.Proofs.YtfdbminedccccaaGreatDoor
