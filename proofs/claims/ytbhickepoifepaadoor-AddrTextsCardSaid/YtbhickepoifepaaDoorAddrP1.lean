/- Addresses as numbers: plain laws. -/
import Derived.Test.YtbhickepoifepaaDoorAddrT1
set_option linter.unusedSimpArgs false
set_option linter.unusedVariables false
namespace Go.Fw.Sy.Ad

theorem wrap_u32 {x : Int} (h0 : 0 ≤ x) (h1 : x < 4294967296) : IntKind.u32.wrap x = x := by
  simp only [IntKind.wrap, IntKind.bits, IntKind.signed]; simp; omega
theorem wrap_u8 (n : Nat) : IntKind.u8.wrap (n : Int) = ((n % 256 : Nat) : Int) := by
  simp only [IntKind.wrap, IntKind.bits, IntKind.signed]; simp
theorem wrap_u8' {x : Int} (h0 : 0 ≤ x) (h1 : x < 256) : IntKind.u8.wrap x = x := by
  simp only [IntKind.wrap, IntKind.bits, IntKind.signed]; simp; omega

theorem bv_nat {n : Nat} (h : n < 4294967296) : (BitVec.ofInt 32 (n : Int)).toNat = n := by
  simp [BitVec.toNat_ofInt]; omega

theorem or_nat {m n : Nat} (hm : m < 4294967296) (hn : n < 4294967296) : orZ .u32 (m : Int) (n : Int) = ((m ||| n : Nat) : Int) := by
  have hlt : m ||| n < 2 ^ 32 := Nat.or_lt_two_pow (by omega) (by omega)
  show IntKind.u32.wrap ((BitVec.ofInt 32 (m : Int) ||| BitVec.ofInt 32 (n : Int)).toNat : Int) = _
  rw [BitVec.toNat_or, bv_nat hm, bv_nat hn]
  exact wrap_u32 (by omega) (by omega)
theorem and_nat {m n : Nat} (hm : m < 4294967296) (hn : n < 4294967296) : andZ .u32 (m : Int) (n : Int) = ((m &&& n : Nat) : Int) := by
  have hlt : m &&& n < 2 ^ 32 := Nat.and_lt_two_pow _ (by omega)
  show IntKind.u32.wrap ((BitVec.ofInt 32 (m : Int) &&& BitVec.ofInt 32 (n : Int)).toNat : Int) = _
  rw [BitVec.toNat_and, bv_nat hm, bv_nat hn]
  exact wrap_u32 (by omega) (by omega)

theorem num1_nat {n c : Nat} (hn : n < 16777216) (hc : c < 256) : num1 (n : Int) (c : Int) = ((n * 256 + c : Nat) : Int) := by
  unfold num1
  have e1 : IntKind.u32.wrap ((n : Int) * 2 ^ 8) = ((n * 256 : Nat) : Int) := by
    rw [wrap_u32 (by omega) (by omega)]; simp
  have e2 : IntKind.u32.wrap (c : Int) = ((c : Nat) : Int) := wrap_u32 (by omega) (by omega)
  rw [e1, e2, or_nat (by omega) (by omega)]
  congr 1
  have := Nat.shiftLeft_add_eq_or_of_lt (show c < 2 ^ 8 by omega) n
  rw [Nat.shiftLeft_eq] at this
  exact this.symm

/-- Four bytes as a number. -/
def val (a b c d : Nat) : Nat := ((a * 256 + b) * 256 + c) * 256 + d
theorem val_lt {a b c d : Nat} (ha : a < 256) (hb : b < 256) (hc : c < 256) (hd : d < 256) : val a b c d < 4294967296 := by unfold val; omega
theorem num_nat {a b c d : Nat} (ha : a < 256) (hb : b < 256) (hc : c < 256) (hd : d < 256) : numZ (a : Int) b c d = ((val a b c d : Nat) : Int) := by
  unfold numZ val
  have e1 := num1_nat (n := 0) (c := a) (by omega) ha
  simp only [Nat.zero_mul, Nat.zero_add, Int.natCast_zero] at e1
  have e0 : num1 0 (a : Int) = ((a : Nat) : Int) := e1
  rw [e0, num1_nat (by omega) hb, num1_nat (by omega) hc, num1_nat (by omega) hd]

theorem fdiv_nat (n k : Nat) : ((n : Int)).fdiv (k : Int) = ((n / k : Nat) : Int) := by
  rw [Int.fdiv_eq_ediv_of_nonneg _ (by omega)]; simp

def p0 (n : Nat) : Nat := n / 16777216 % 256
def p1 (n : Nat) : Nat := n / 65536 % 256
def p2 (n : Nat) : Nat := n / 256 % 256
def p3 (n : Nat) : Nat := n % 256
theorem q0 (n : Nat) : IntKind.u8.wrap (((n : Int)).fdiv 16777216) = (p0 n : Int) := by
  rw [show ((16777216 : Int)) = ((16777216 : Nat) : Int) from rfl, fdiv_nat, wrap_u8]; rfl
theorem q1 (n : Nat) : IntKind.u8.wrap (((n : Int)).fdiv 65536) = (p1 n : Int) := by
  rw [show ((65536 : Int)) = ((65536 : Nat) : Int) from rfl, fdiv_nat, wrap_u8]; rfl
theorem q2 (n : Nat) : IntKind.u8.wrap (((n : Int)).fdiv 256) = (p2 n : Int) := by
  rw [show ((256 : Int)) = ((256 : Nat) : Int) from rfl, fdiv_nat, wrap_u8]; rfl
theorem q3 (n : Nat) : IntKind.u8.wrap (n : Int) = (p3 n : Int) := wrap_u8 n
theorem p_lt (n : Nat) : p0 n < 256 ∧ p1 n < 256 ∧ p2 n < 256 ∧ p3 n < 256 := by unfold p0 p1 p2 p3; omega
theorem val_p {n : Nat} (h : n < 4294967296) : val (p0 n) (p1 n) (p2 n) (p3 n) = n := by unfold val p0 p1 p2 p3; omega
theorem p_val {a b c d : Nat} (ha : a < 256) (hb : b < 256) (hc : c < 256) (hd : d < 256) : p0 (val a b c d) = a ∧ p1 (val a b c d) = b ∧ p2 (val a b c d) = c ∧ p3 (val a b c d) = d := by
  unfold val p0 p1 p2 p3; omega

theorem clamp_id {x : Nat} (h : x ≤ 32) : clampZ (x : Int) = x := by unfold clampZ maxZ minZ; split <;> split <;> omega
theorem mask_nat {x : Nat} (h : x ≤ 32) : maskZ (x : Int) = ((4294967296 - 2 ^ (32 - x) : Nat) : Int) := by
  unfold maskZ
  rw [clamp_id h]
  have e : min ((32 : Int) - (x : Int)).toNat 32 = 32 - x := by omega
  rw [e]
  have key : ∀ j, j < 33 → IntKind.u32.wrap (4294967295 * 2 ^ j) = ((4294967296 - 2 ^ j : Nat) : Int) := by decide
  exact key (32 - x) (by omega)

/-- A number cut. -/
def cutP (n x : Nat) : Nat := n / 2 ^ (32 - x) * 2 ^ (32 - x)
theorem cutP_le (n x : Nat) : cutP n x ≤ n := Nat.div_mul_le_self _ _
theorem and_mask {n j : Nat} (hn : n < 4294967296) (hj : j ≤ 32) : n &&& (4294967296 - 2 ^ j) = n / 2 ^ j * 2 ^ j := by
  apply Nat.eq_of_testBit_eq
  intro i
  have e1 : 4294967296 - 2 ^ j = 2 ^ 32 - ((2 ^ j - 1) + 1) := by
    have := Nat.two_pow_pos j; omega
  have e2 : 2 ^ j - 1 < 2 ^ 32 := by
    have := Nat.pow_le_pow_right (show 0 < 2 by decide) hj
    have := Nat.two_pow_pos j; omega
  rw [Nat.testBit_and, e1, Nat.testBit_two_pow_sub_succ e2, Nat.testBit_two_pow_sub_one, ← Nat.shiftRight_eq_div_pow, ← Nat.shiftLeft_eq, Nat.testBit_shiftLeft, Nat.testBit_shiftRight]
  by_cases h1 : i < j
  · have : ¬ (i ≥ j) := by omega
    simp [h1, this]
  · have h2 : i ≥ j := by omega
    by_cases h3 : i < 32
    · simp [h1, h2, h3, show j + (i - j) = i by omega]
    · have : n.testBit i = false := Nat.testBit_lt_two_pow (Nat.lt_of_lt_of_le hn (Nat.pow_le_pow_right (show 0 < 2 by decide) (show 32 ≤ i by omega)))
      simp [h1, h2, h3, show j + (i - j) = i by omega, this]

theorem cutN_nat {a b c d x : Nat} (ha : a < 256) (hb : b < 256) (hc : c < 256) (hd : d < 256) (hx : x ≤ 32) : cutN (a : Int) b c d (x : Int) = (cutP (val a b c d) x : Int) := by
  unfold cutN
  rw [num_nat ha hb hc hd, mask_nat hx, and_nat (val_lt ha hb hc hd) (by have := Nat.two_pow_pos (32 - x); omega), and_mask (val_lt ha hb hc hd) (by omega)]
  rfl

theorem cutP_idem {n x y : Nat} (hxy : x ≤ y) (hy : y ≤ 32) : cutP (cutP n y) x = cutP n x := by
  unfold cutP
  obtain ⟨k, hk⟩ : ∃ k, 32 - x = (32 - y) + k := ⟨y - x, by omega⟩
  rw [hk, Nat.pow_add]
  congr 1
  rw [← Nat.div_div_eq_div_mul, ← Nat.div_div_eq_div_mul, Nat.mul_div_cancel _ (Nat.two_pow_pos (32 - y))]

theorem cutP_turn {n x : Nat} (hx : 0 < x) (hx2 : x ≤ 32) : cutP (n ^^^ 2 ^ (32 - x)) x ≠ cutP n x := by
  intro h
  unfold cutP at h
  have h1 := Nat.eq_of_mul_eq_mul_right (Nat.two_pow_pos _) h
  have h2 := congrArg (fun m => Nat.testBit m 0) h1
  simp only [← Nat.shiftRight_eq_div_pow, Nat.testBit_shiftRight, Nat.add_zero, Nat.testBit_xor, Nat.testBit_two_pow_self] at h2
  cases hb : n.testBit (32 - x) <;> simp [hb] at h2
end Go.Fw.Sy.Ad
