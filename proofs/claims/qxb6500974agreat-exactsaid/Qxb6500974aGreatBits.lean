import Derived.Test.Qxb6500974aGreatPure
import Derived.Test.Qxb6500974aGreatLib
set_option linter.all false
set_option linter.unusedSimpArgs false
set_option linter.unusedVariables false
namespace Go.Proofs.Qxb6500974aGreat
open Go.Eng

def tb (x : Int) (i : Nat) : Bool := x.toNat.testBit i
def U64 (x : Int) : Prop := 0 ≤ x ∧ x < 18446744073709551616
def U16 (x : Int) : Prop := 0 ≤ x ∧ x < 65536
theorem ofInt64 {x : Int} (h : U64 x) : (BitVec.ofInt 64 x).toNat = x.toNat := by
  rw [BitVec.toNat_ofInt, Int.emod_eq_of_lt h.1 (by have := h.2; simpa using this)]
theorem ofInt16 {x : Int} (h : U16 x) : (BitVec.ofInt 16 x).toNat = x.toNat := by
  rw [BitVec.toNat_ofInt, Int.emod_eq_of_lt h.1 (by have := h.2; simpa using this)]
theorem bv64 (v : BitVec 64) : U64 (IntKind.wrap .u64 (v.toNat : Int)) ∧ (IntKind.wrap .u64 (v.toNat : Int)).toNat = v.toNat := by
  have := v.isLt
  rw [wrap_u64 (by omega) (by omega)]
  exact ⟨⟨by omega, by omega⟩, by omega⟩
theorem bv16 (v : BitVec 16) : U16 (IntKind.wrap .u16 (v.toNat : Int)) ∧ (IntKind.wrap .u16 (v.toNat : Int)).toNat = v.toNat := by
  have := v.isLt
  rw [wrap_u16 (by omega) (by omega)]
  exact ⟨⟨by omega, by omega⟩, by omega⟩
theorem tb_of64 {x : Int} (h : U64 x) (i : Nat) : (BitVec.ofInt 64 x).getLsbD i = tb x i := by
  rw [← BitVec.testBit_toNat, ofInt64 h]; rfl
theorem tb_of16 {x : Int} (h : U16 x) (i : Nat) : (BitVec.ofInt 16 x).getLsbD i = tb x i := by
  rw [← BitVec.testBit_toNat, ofInt16 h]; rfl
theorem u64_or {x y : Int} (hx : U64 x) (hy : U64 y) : U64 (bOr .u64 x y) ∧ ∀ i, tb (bOr .u64 x y) i = (tb x i || tb y i) := by
  refine ⟨(bv64 _).1, fun i => ?_⟩
  have e : bOr .u64 x y = IntKind.wrap .u64 (((BitVec.ofInt 64 x ||| BitVec.ofInt 64 y).toNat : Nat) : Int) := rfl
  rw [e]
  unfold tb
  rw [(bv64 _).2, BitVec.testBit_toNat, BitVec.getLsbD_or]
  exact congr (congrArg _ (tb_of64 hx i)) (tb_of64 hy i)
theorem u64_and {x y : Int} (hx : U64 x) (hy : U64 y) : U64 (bAnd .u64 x y) ∧ ∀ i, tb (bAnd .u64 x y) i = (tb x i && tb y i) := by
  refine ⟨(bv64 _).1, fun i => ?_⟩
  have e : bAnd .u64 x y = IntKind.wrap .u64 (((BitVec.ofInt 64 x &&& BitVec.ofInt 64 y).toNat : Nat) : Int) := rfl
  rw [e]
  unfold tb
  rw [(bv64 _).2, BitVec.testBit_toNat, BitVec.getLsbD_and]
  exact congr (congrArg _ (tb_of64 hx i)) (tb_of64 hy i)
theorem u64_andNot {x y : Int} (hx : U64 x) (hy : U64 y) : U64 (bAndNot .u64 x y) ∧ ∀ i, i < 64 → tb (bAndNot .u64 x y) i = (tb x i && !tb y i) := by
  refine ⟨(bv64 _).1, fun i hi => ?_⟩
  have e : bAndNot .u64 x y = IntKind.wrap .u64 (((BitVec.ofInt 64 x &&& ~~~ BitVec.ofInt 64 y).toNat : Nat) : Int) := rfl
  rw [e]
  unfold tb
  rw [(bv64 _).2, BitVec.testBit_toNat, BitVec.getLsbD_and, BitVec.getLsbD_not]
  rw [tb_of64 hx i, tb_of64 hy i]
  simp [hi, tb]
theorem u16_or {x y : Int} (hx : U16 x) (hy : U16 y) : U16 (bOr .u16 x y) ∧ ∀ i, tb (bOr .u16 x y) i = (tb x i || tb y i) := by
  refine ⟨(bv16 _).1, fun i => ?_⟩
  have e : bOr .u16 x y = IntKind.wrap .u16 (((BitVec.ofInt 16 x ||| BitVec.ofInt 16 y).toNat : Nat) : Int) := rfl
  rw [e]
  unfold tb
  rw [(bv16 _).2, BitVec.testBit_toNat, BitVec.getLsbD_or]
  exact congr (congrArg _ (tb_of16 hx i)) (tb_of16 hy i)
theorem u16_and {x y : Int} (hx : U16 x) (hy : U16 y) : U16 (bAnd .u16 x y) ∧ ∀ i, tb (bAnd .u16 x y) i = (tb x i && tb y i) := by
  refine ⟨(bv16 _).1, fun i => ?_⟩
  have e : bAnd .u16 x y = IntKind.wrap .u16 (((BitVec.ofInt 16 x &&& BitVec.ofInt 16 y).toNat : Nat) : Int) := rfl
  rw [e]
  unfold tb
  rw [(bv16 _).2, BitVec.testBit_toNat, BitVec.getLsbD_and]
  exact congr (congrArg _ (tb_of16 hx i)) (tb_of16 hy i)
theorem u16_andNot {x y : Int} (hx : U16 x) (hy : U16 y) : U16 (bAndNot .u16 x y) ∧ ∀ i, i < 16 → tb (bAndNot .u16 x y) i = (tb x i && !tb y i) := by
  refine ⟨(bv16 _).1, fun i hi => ?_⟩
  have e : bAndNot .u16 x y = IntKind.wrap .u16 (((BitVec.ofInt 16 x &&& ~~~ BitVec.ofInt 16 y).toNat : Nat) : Int) := rfl
  rw [e]
  unfold tb
  rw [(bv16 _).2, BitVec.testBit_toNat, BitVec.getLsbD_and, BitVec.getLsbD_not]
  rw [tb_of16 hx i, tb_of16 hy i]
  simp [hi, tb]
theorem tb_big64 {x : Int} (h : U64 x) {i : Nat} (hi : 64 ≤ i) : tb x i = false := by
  unfold tb
  apply Nat.testBit_lt_two_pow
  have h1 : (2 : Nat) ^ 64 ≤ 2 ^ i := Nat.pow_le_pow_right (by omega) hi
  have := h.2
  have := h.1
  omega
theorem tb_big16 {x : Int} (h : U16 x) {i : Nat} (hi : 16 ≤ i) : tb x i = false := by
  unfold tb
  apply Nat.testBit_lt_two_pow
  have h1 : (2 : Nat) ^ 16 ≤ 2 ^ i := Nat.pow_le_pow_right (by omega) hi
  have := h.2
  have := h.1
  omega
theorem u64_ext {x y : Int} (hx : U64 x) (hy : U64 y) (h : ∀ i, i < 64 → tb x i = tb y i) : x = y := by
  have : x.toNat = y.toNat := Nat.eq_of_testBit_eq fun i => by
    rcases Nat.lt_or_ge i 64 with hi | hi
    · exact h i hi
    · have h1 := tb_big64 hx hi
      have h2 := tb_big64 hy hi
      unfold tb at h1 h2
      rw [h1, h2]
  have := hx.1; have := hy.1
  omega
theorem u16_ext {x y : Int} (hx : U16 x) (hy : U16 y) (h : ∀ i, i < 16 → tb x i = tb y i) : x = y := by
  have : x.toNat = y.toNat := Nat.eq_of_testBit_eq fun i => by
    rcases Nat.lt_or_ge i 16 with hi | hi
    · exact h i hi
    · have h1 := tb_big16 hx hi
      have h2 := tb_big16 hy hi
      unfold tb at h1 h2
      rw [h1, h2]
  have := hx.1; have := hy.1
  omega
theorem tb_pow (j i : Nat) : tb ((2 ^ j : Nat) : Int) i = decide (i = j) := by
  unfold tb
  rw [Int.toNat_natCast, Nat.testBit_two_pow]
  exact decide_eq_decide.2 ⟨Eq.symm, Eq.symm⟩
theorem tb_zero (i : Nat) : tb 0 i = false := by simp [tb]
theorem u64_pow {j : Nat} (hj : j < 64) : U64 ((2 ^ j : Nat) : Int) := by
  have : 2 ^ j ≤ 2 ^ 63 := Nat.pow_le_pow_right (by omega) (by omega)
  generalize 2 ^ j = p at this ⊢
  exact ⟨by omega, by omega⟩
theorem u16_pow {j : Nat} (hj : j < 16) : U16 ((2 ^ j : Nat) : Int) := by
  have : 2 ^ j ≤ 2 ^ 15 := Nat.pow_le_pow_right (by omega) (by omega)
  generalize 2 ^ j = p at this ⊢
  exact ⟨by omega, by omega⟩
theorem shl64 {j : Nat} (hj : j < 64) : shlV .u64 1 (IntKind.wrap .u64 (j : Int)) = ((2 ^ j : Nat) : Int) := by
  unfold shlV
  rw [wrap_u64 (n := (j : Int)) (by omega) (by omega)]
  have h1 : min ((j : Int).toNat) (IntKind.bits .u64) = j := by simp [IntKind.bits]; omega
  rw [h1, Int.one_mul]
  have := (u64_pow hj)
  have h2 : (2 : Int) ^ j = ((2 ^ j : Nat) : Int) := by simp
  rw [h2]
  exact wrap_u64 this.1 this.2
theorem shl16 {j : Nat} (hj : j < 16) : shlV .u16 1 (IntKind.wrap .u64 (j : Int)) = ((2 ^ j : Nat) : Int) := by
  unfold shlV
  rw [wrap_u64 (n := (j : Int)) (by omega) (by omega)]
  have h1 : min ((j : Int).toNat) (IntKind.bits .u16) = j := by simp [IntKind.bits]; omega
  rw [h1, Int.one_mul]
  have := (u16_pow hj)
  have h2 : (2 : Int) ^ j = ((2 ^ j : Nat) : Int) := by simp
  rw [h2]
  exact wrap_u16 this.1 this.2
theorem goBit_eq {j : Nat} (hj : j < 64) : goBit (j : Int) = ((2 ^ j : Nat) : Int) := shl64 hj
theorem and_one64 {n : Nat} (hn : n < 18446744073709551616) : (bAnd .u64 (n : Int) 1 == 1) = decide (n % 2 = 1) := by
  have h := (u64_and (x := (n : Int)) (y := 1) ⟨by omega, by omega⟩ ⟨by decide, by decide⟩)
  have h0 : ∀ i, tb (1 : Int) i = decide (i = 0) := fun i => by have := tb_pow 0 i; simpa using this
  have hb0 : tb (n : Int) 0 = decide (n % 2 = 1) := by
    unfold tb
    rw [Int.toNat_natCast, Nat.testBit_zero]
  by_cases hp : n % 2 = 1
  · have : bAnd .u64 (n : Int) 1 = 1 := u64_ext h.1 ⟨by decide, by decide⟩ fun i hi => by
      rw [h.2, h0]
      by_cases hi0 : i = 0
      · subst hi0; rw [hb0]; simp [hp]
      · simp [hi0]
    rw [this]; simp [hp]
  · have : bAnd .u64 (n : Int) 1 = 0 := u64_ext h.1 ⟨by decide, by decide⟩ fun i hi => by
      rw [h.2, h0, tb_zero]
      by_cases hi0 : i = 0
      · subst hi0; rw [hb0]; simp [hp]
      · simp [hi0]
    rw [this]; simp [hp]
theorem shr64 {x : Int} (h : U64 x) {j : Nat} (hj : j < 64) : shrV .u64 x (IntKind.wrap .u64 (j : Int)) = ((x.toNat / 2 ^ j : Nat) : Int) := by
  unfold shrV
  rw [wrap_u64 (n := (j : Int)) (by omega) (by omega)]
  have h1 : min ((j : Int).toNat) (IntKind.bits .u64) = j := by simp [IntKind.bits]; omega
  rw [h1]
  have h2 : (2 : Int) ^ j = ((2 ^ j : Nat) : Int) := by simp
  rw [h2, Int.fdiv_eq_ediv_of_nonneg _ (Int.natCast_nonneg _)]
  have := h.1
  have h3 : x = ((x.toNat : Nat) : Int) := by omega
  rw [h3]
  simp
theorem goHas_eq {x : Int} (h : U64 x) {j : Nat} (hj : j < 64) : goHas x (j : Int) = tb x j := by
  unfold goHas
  rw [shr64 h hj]
  have h1 : x.toNat / 2 ^ j < 18446744073709551616 := by
    have := Nat.div_le_self x.toNat (2 ^ j)
    have := h.2; have := h.1
    omega
  rw [and_one64 h1]
  unfold tb
  rw [Nat.testBit_eq_decide_div_mod_eq]

theorem and_mask {n : Nat} (k : Nat) (hn : n < 2 ^ k) (hk : k ≤ 6) : bAnd .i64 (n : Int) ((2 ^ k - 1 : Nat) : Int) = (n : Int) := by
  have hp : 2 ^ k ≤ 2 ^ 6 := Nat.pow_le_pow_right (by omega) hk
  unfold bAnd
  have h1 : (BitVec.ofInt (IntKind.bits .i64) (n : Int)).toNat = n := by
    rw [BitVec.toNat_ofInt]
    simp only [IntKind.bits]
    omega
  have h2 : (BitVec.ofInt (IntKind.bits .i64) ((2 ^ k - 1 : Nat) : Int)).toNat = 2 ^ k - 1 := by
    rw [BitVec.toNat_ofInt]
    simp only [IntKind.bits]
    omega
  rw [BitVec.toNat_and, h1, h2, Nat.and_two_pow_sub_one_eq_mod, Nat.mod_eq_of_lt hn]
  exact wrap_i64 (by omega) (by omega)
theorem goSlotBit_eq {j : Nat} (hj : j < 64) : goSlotBit (j : Int) = ((2 ^ j : Nat) : Int) := by
  unfold goSlotBit
  have := and_mask 6 (n := j) (by omega) (by omega)
  have e : ((2 ^ 6 - 1 : Nat) : Int) = 63 := rfl
  rw [e] at this
  rw [this]
  exact shl64 hj
theorem goBit16_eq {j : Nat} (hj : j < 16) : goBit16 (j : Int) = ((2 ^ j : Nat) : Int) := by
  unfold goBit16
  have := and_mask 4 (n := j) (by omega) (by omega)
  have e : ((2 ^ 4 - 1 : Nat) : Int) = 15 := rfl
  rw [e] at this
  rw [this]
  exact shl16 hj
theorem goBitOf_eq {v : Nat} (hv : 1 ≤ v ∧ v ≤ 16) : goBitOf (v : Int) = ((2 ^ (v - 1) : Nat) : Int) := by
  unfold goBitOf
  have h0 : IntKind.wrap .i64 ((v : Int) - 1) = ((v - 1 : Nat) : Int) := by rw [wrap_i64 (by omega) (by omega)]; omega
  rw [h0]
  have := and_mask 4 (n := v - 1) (by omega) (by omega)
  have e : ((2 ^ 4 - 1 : Nat) : Int) = 15 := rfl
  rw [e] at this
  rw [this]
  exact shl16 (by omega)
end Go.Proofs.Qxb6500974aGreat
