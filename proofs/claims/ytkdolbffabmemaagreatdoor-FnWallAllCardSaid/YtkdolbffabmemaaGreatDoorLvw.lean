/-
 The reader of codes.
-/
import Derived.Test.YtkdolbffabmemaaGreatDoorLvy
import Derived.Test.YtkdolbffabmemaaGreatDoorLvp
namespace Go.Proofs.YtkdolbffabmemaaGreatDoor
open Go.RowKit
set_option linter.unusedSimpArgs false
set_option linter.unusedVariables false
def rdO (bs : List Int) (g p : Nat) : V := .own 86 (some g) 1 [.agg [.sl (bs.map (V.int .u8)), .int .i64 p]]
theorem rdO_eq (bs : List Int) (g p : Nat) : rdO bs g p = .own 86 (some g) 1 [.agg [.sl (bs.map (V.int .u8)), .int .i64 p]] := rfl
def Bytes (bs : List Int) : Prop := bs.length ≤ 2000 ∧ ∀ b ∈ bs, 0 ≤ b ∧ b < 256
theorem xorI_ok (x : Int) (h0 : 0 ≤ x) (h1 : x < 9223372036854775808) : 0 ≤ xorI x (x / 64) ∧ xorI x (x / 64) < 9223372036854775808 := by
 obtain ⟨a, rfl⟩ := Int.eq_ofNat_of_zero_le h0
 have ha : a < 9223372036854775808 := by omega
 have hb : a / 64 < 9223372036854775808 := by omega
 have e1 : ∀ a : Nat, a < 9223372036854775808 → (BitVec.ofInt 64 (a : Int)).toNat = a := fun a ha => by
  rw [BitVec.ofInt_natCast, BitVec.toNat_ofNat]; exact Nat.mod_eq_of_lt (by omega)
 have hx : a ^^^ (a / 64) < 2 ^ 63 := Nat.xor_lt_two_pow (by omega) (by omega)
 have e2 : ((a : Int) / 64) = ((a / 64 : Nat) : Int) := by omega
 unfold xorI
 rw [e2, BitVec.toNat_xor, e1 a ha, e1 _ hb, wrap_ok (by omega) (by omega)]
 omega
set_option maxRecDepth 8000 in
theorem pick_fn (bs : List Int) (hb : Bytes bs) (g p : Nat) (hp : p < 2 ^ 30) (n : Int) (hn : n < 2 ^ 30) : Fc Tryz.prog 58 [.ptr 0 [] 0 0 g 2, .int .i64 n] (noM.set 0 (rdO bs g p))
  (fun r m => ∃ v : Int, r = .int .i64 v ∧ 0 ≤ v ∧ (0 < n → v < n) ∧ (n ≤ 0 → v = 0) ∧ m = noM.set 0 (rdO bs g (p + 1))) := by
 have fin : ∀ {M : Mem} (v : Int), 0 ≤ v → (0 < n → v < n) → (n ≤ 0 → v = 0) → M 0 = some (rdO bs g (p + 1)) →
   ∃ m, Sub m M ∧ ∃ v', v = v' ∧ 0 ≤ v' ∧ (0 < n → v' < n) ∧ (n ≤ 0 → v' = 0) ∧ m = noM.set 0 (rdO bs g (p + 1)) :=
  fun v h1 h2 h3 h4 => ⟨_, Sub.set Sub.no h4, v, rfl, h1, h2, h3, rfl⟩
 refine Fc.start (S := []) Tryz.func58 Tryz.ntmps58 Tryz.results58 rfl (by decide) rfl (by kernel_rfl) ?_
 rw [rdO_eq bs g p]
 by_cases h1 : n < 1
 ·simp (disch := omega) only [push_cast, go_sem, zA, simprocAttr, h1]
  refine fin 0 (by omega) (by omega) (by omega) ?_
  simp (disch := omega) only [push_cast, go_sem, zA, simprocAttr, rdO_eq]
 have hn0 : ¬ n = 0 := by omega
 by_cases h2 : bs = []
 ·subst h2
  simp (disch := omega) only [push_cast, go_sem, zA, simprocAttr, h1]
  refine fin 0 (by omega) (by omega) (by omega) ?_
  simp (disch := omega) only [push_cast, go_sem, zA, simprocAttr, rdO_eq]
 have hl : 0 < bs.length := List.length_pos_iff.2 h2
 have hl0 : ((bs.length : Int) == 0) = false := by simpa using h2
 have hl1 : ¬ ((bs.length : Int) = 0) := by simpa using h2
 have hl2 := hb.1
 by_cases h3 : p < bs.length
 ·obtain ⟨b, hbe⟩ : ∃ b, bs[p]? = some b := ⟨_, List.getElem?_eq_getElem h3⟩
  have hbr := hb.2 b (List.mem_of_getElem? hbe)
  simp (disch := omega) only [push_cast, go_sem, zA, simprocAttr, h1, hl0, h3, hbe, hn0]
  have hm : b.tmod n = b % n := Int.tmod_eq_emod_of_nonneg hbr.1
  have hm1 := Int.emod_nonneg b (show n ≠ 0 by omega)
  have hm2 := Int.emod_lt_of_pos b (show 0 < n by omega)
  refine fin _ (by omega) (by omega) (by omega) ?_
  simp (disch := omega) only [push_cast, go_sem, zA, simprocAttr, rdO_eq]
 ·simp (disch := omega) only [push_cast, go_sem, zA, simprocAttr, h1, hl0, h3, hn0]
  have hj1 : p % bs.length < bs.length := Nat.mod_lt _ hl
  have hj2 : (p * 7 + 3) % bs.length < bs.length := Nat.mod_lt _ hl
  obtain ⟨j1, hj1e⟩ : ∃ j, j = p % bs.length := ⟨_, rfl⟩
  obtain ⟨j2, hj2e⟩ : ∃ j, j = (p * 7 + 3) % bs.length := ⟨_, rfl⟩
  rw [← hj1e] at hj1
  rw [← hj2e] at hj2
  obtain ⟨x, hxe⟩ : ∃ b, bs[j1]? = some b := ⟨_, List.getElem?_eq_getElem hj1⟩
  have hxr := hb.2 x (List.mem_of_getElem? hxe)
  obtain ⟨y, hye⟩ : ∃ b, bs[j2]? = some b := ⟨_, List.getElem?_eq_getElem hj2⟩
  have hyr := hb.2 y (List.mem_of_getElem? hye)
  obtain ⟨q, hq⟩ : ∃ j, j = p / bs.length := ⟨_, rfl⟩
  have hqp : q ≤ p := by rw [hq]; exact Nat.div_le_self _ _
  have t1 : (p : Int).tmod (bs.length : Int) = (j1 : Int) := by rw [Int.tmod_eq_emod_of_nonneg (by omega), hj1e]; omega
  have t2 : (p : Int).tdiv (bs.length : Int) = (q : Int) := by rw [Int.tdiv_eq_ediv_of_nonneg (by omega), hq]; simp
  have t3 : ((p : Int) * 7 + 3).tmod (bs.length : Int) = (j2 : Int) := by rw [Int.tmod_eq_emod_of_nonneg (by omega), hj2e]; simp
  refine Sat.drawnE [] [] (List.range 46) (fun _ _ _ => none) (by kernel_rfl) (by kernel_rfl) ?_
  simp (disch := omega) only [push_cast, go_sem, zA, simprocAttr, hl1, t1, t2, t3, hxe, hye, hj1, hj2, hn0, Int.tdiv_eq_ediv_of_nonneg]
  obtain ⟨z, hz⟩ : ∃ z, z = x * 131 + y * 1117 + (p : Int) * 29 + (q : Int) * 53 := ⟨_, rfl⟩
  have hx := xorI_ok z (by omega) (by omega)
  rw [← hz]
  obtain ⟨c, hc⟩ : ∃ c, c = xorI z (z / 64) := ⟨_, rfl⟩
  rw [← hc] at hx ⊢
  have hm : c.tmod n = c % n := Int.tmod_eq_emod_of_nonneg hx.1
  have hm1 := Int.emod_nonneg c (show n ≠ 0 by omega)
  have hm2 := Int.emod_lt_of_pos c (show 0 < n by omega)
  refine fin _ (by omega) (by omega) (by omega) ?_
  simp (disch := omega) only [push_cast, go_sem, zA, simprocAttr, rdO_eq]
end Go.Proofs.YtkdolbffabmemaaGreatDoor
