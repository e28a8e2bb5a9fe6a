/- AddrCuts: the plain law. -/
import Derived.Test.YtbhickepoifepaaDoorAddrP1
import Derived.Test.YtbhickepoifepaaDoorAddrT5
set_option linter.unusedSimpArgs false
set_option linter.unusedVariables false
namespace Go.Fw.Sy.Ad

section
variable {a b c d x y : Nat} (ha : a < 256) (hb : b < 256) (hc : c < 256) (hd : d < 256)
include ha hb hc hd

theorem e0_nat (hx : x ≤ 32) : e0 (a : Int) b c d (x : Int) = (p0 (cutP (val a b c d) x) : Int) := by unfold e0; rw [cutN_nat ha hb hc hd hx, q0]
theorem e1_nat (hx : x ≤ 32) : e1 (a : Int) b c d (x : Int) = (p1 (cutP (val a b c d) x) : Int) := by unfold e1; rw [cutN_nat ha hb hc hd hx, q1]
theorem e2_nat (hx : x ≤ 32) : e2 (a : Int) b c d (x : Int) = (p2 (cutP (val a b c d) x) : Int) := by unfold e2; rw [cutN_nat ha hb hc hd hx, q2]
theorem e3_nat (hx : x ≤ 32) : e3 (a : Int) b c d (x : Int) = (p3 (cutP (val a b c d) x) : Int) := by unfold e3; rw [cutN_nat ha hb hc hd hx, q3]
theorem cutIs_nat (hx : x ≤ 32) (a' b' c' d' n' : Int) : cutIs (a : Int) b c d (x : Int) a' b' c' d' n' =
    ((p0 (cutP (val a b c d) x) : Int) == a' && ((p1 (cutP (val a b c d) x) : Int) == b' && ((p2 (cutP (val a b c d) x) : Int) == c' && ((p3 (cutP (val a b c d) x) : Int) == d' && (x : Int) == n')))) := by
  unfold cutIs
  rw [cutN_nat ha hb hc hd hx, q0, q1, q2, q3, clamp_id hx]
end

theorem cutP_lt {n x : Nat} (h : n < 4294967296) : cutP n x < 4294967296 := Nat.lt_of_le_of_lt (cutP_le n x) h

/-- The parts of a cut, cut. -/
theorem cutIs_part {n x y : Nat} (hn : n < 4294967296) (hx : x ≤ 32) (m : Nat) :
    cutIs (p0 n) (p1 n) (p2 n) (p3 n) (x : Int) (p0 m) (p1 m) (p2 m) (p3 m) (y : Int) = true ↔ (p0 (cutP n x) = p0 m ∧ p1 (cutP n x) = p1 m ∧ p2 (cutP n x) = p2 m ∧ p3 (cutP n x) = p3 m ∧ x = y) := by
  obtain ⟨l0, l1, l2, l3⟩ := p_lt n
  rw [cutIs_nat l0 l1 l2 l3 hx, val_p hn]
  simp only [Bool.and_eq_true, beq_iff_eq, Int.natCast_inj]

theorem right_part {n x : Nat} (hn : n < 4294967296) (hx : x ≤ 32) (h : cutP n x = n) : rightZ (p0 n) (p1 n) (p2 n) (p3 n) (x : Int) = true := by
  unfold rightZ
  have := (cutIs_part (y := x) hn hx n).2 ⟨by rw [h], by rw [h], by rw [h], by rw [h], rfl⟩
  rw [this]
  simp; omega

theorem in_part {n x m : Nat} (hn : n < 4294967296) (hm : m < 4294967296) (hx : x ≤ 32) (h1 : cutP m x = m) (h2 : cutP n x = m) : inZ (p0 n) (p1 n) (p2 n) (p3 n) (p0 m) (p1 m) (p2 m) (p3 m) (x : Int) = true := by
  unfold inZ
  rw [right_part hm hx h1, (cutIs_part (y := x) hn hx m).2 ⟨by rw [h2], by rw [h2], by rw [h2], by rw [h2], rfl⟩]; rfl

theorem xor_nat {m n : Nat} (hm : m < 4294967296) (hn : n < 4294967296) : xorZ .u32 (m : Int) (n : Int) = ((m ^^^ n : Nat) : Int) := by
  have hlt : m ^^^ n < 2 ^ 32 := Nat.xor_lt_two_pow (by omega) (by omega)
  show IntKind.u32.wrap ((BitVec.ofInt 32 (m : Int) ^^^ BitVec.ofInt 32 (n : Int)).toNat : Int) = _
  rw [BitVec.toNat_xor, bv_nat hm, bv_nat hn]
  exact wrap_u32 (by omega) (by omega)

theorem pow_bit {x : Nat} (h0 : 0 < x) (h1 : x ≤ 32) : IntKind.u32.wrap (2 ^ (min ((32 : Int) - (x : Int)).toNat 32)) = ((2 ^ (32 - x) : Nat) : Int) ∧ 2 ^ (32 - x) < 4294967296 := by
  have e : min ((32 : Int) - (x : Int)).toNat 32 = 32 - x := by omega
  rw [e]
  have hlt : 2 ^ (32 - x) < 2 ^ 32 := Nat.pow_lt_pow_right (by decide) (by omega)
  refine ⟨?_, by omega⟩
  have e2 : (2 : Int) ^ (32 - x) = ((2 ^ (32 - x) : Nat) : Int) := by simp
  rw [e2]
  generalize 2 ^ (32 - x) = k at hlt ⊢
  exact wrap_u32 (by omega) (by omega)

theorem addrCuts_true (a b c d : Nat) (ha : a < 256) (hb : b < 256) (hc : c < 256) (hd : d < 256) (x y : Int) :
    ∃ h' n', runFn K12 1000 fi3 [.agg [.int .u8 a, .int .u8 b, .int .u8 c, .int .u8 d], .agg [.int .i64 x, .int .i64 y]] noA 0 = some (.bool true, h', n') := by
  have hN := val_lt ha hb hc hd
  refine cuts_run a b c d x y ?_ ?_ ?_ ?_ ?_ ?_
  · intro h0 h1 h2
    obtain ⟨x, rfl⟩ := Int.eq_ofNat_of_zero_le h0
    obtain ⟨y, rfl⟩ := Int.eq_ofNat_of_zero_le (show 0 ≤ y by omega)
    have hx : x ≤ 32 := by omega
    have hy : y ≤ 32 := by omega
    have l := p_lt (cutP (val a b c d) y)
    have key : cutP (val (p0 (cutP (val a b c d) y)) (p1 (cutP (val a b c d) y)) (p2 (cutP (val a b c d) y)) (p3 (cutP (val a b c d) y))) x = cutP (val a b c d) x := by
      rw [val_p (cutP_lt hN), cutP_idem (by omega) hy]
    simp only [e0_nat ha hb hc hd hy, e1_nat ha hb hc hd hy, e2_nat ha hb hc hd hy, e3_nat ha hb hc hd hy, e0_nat ha hb hc hd hx, e1_nat ha hb hc hd hx, e2_nat ha hb hc hd hx, e3_nat ha hb hc hd hx,
      e0_nat l.1 l.2.1 l.2.2.1 l.2.2.2 hx, e1_nat l.1 l.2.1 l.2.2.1 l.2.2.2 hx, e2_nat l.1 l.2.1 l.2.2.1 l.2.2.2 hx, e3_nat l.1 l.2.1 l.2.2.1 l.2.2.2 hx, key, and_self]
  · intro h0 h1 h2
    obtain ⟨x, rfl⟩ := Int.eq_ofNat_of_zero_le h0
    obtain ⟨y, rfl⟩ := Int.eq_ofNat_of_zero_le (show 0 ≤ y by omega)
    have hx : x ≤ 32 := by omega
    have hy : y ≤ 32 := by omega
    simp only [e0_nat ha hb hc hd hy, e1_nat ha hb hc hd hy, e2_nat ha hb hc hd hy, e3_nat ha hb hc hd hy, e0_nat ha hb hc hd hx, e1_nat ha hb hc hd hx, e2_nat ha hb hc hd hx, e3_nat ha hb hc hd hx, clamp_id hx, clamp_id hy]
    unfold withinZ
    rw [right_part (cutP_lt hN) hy (cutP_idem (Nat.le_refl _) hy), in_part (cutP_lt hN) (cutP_lt hN) hx (cutP_idem (Nat.le_refl _) hx) (cutP_idem (by omega) hy)]
    simp; omega
  · intro h0 h1 h2
    obtain ⟨x, rfl⟩ := Int.eq_ofNat_of_zero_le h0
    have hx : x ≤ 32 := by omega
    have hi := in_part (n := val a b c d) (m := cutP (val a b c d) x) hN (cutP_lt hN) hx (cutP_idem (Nat.le_refl _) hx) rfl
    obtain ⟨r0, r1, r2, r3⟩ := p_val ha hb hc hd
    rw [r0, r1, r2, r3] at hi
    simp only [e0_nat ha hb hc hd hx, e1_nat ha hb hc hd hx, e2_nat ha hb hc hd hx, e3_nat ha hb hc hd hx, clamp_id hx]
    exact hi
  · intro h0 h1 h2
    obtain ⟨y, rfl⟩ := Int.eq_ofNat_of_zero_le (show 0 ≤ y by omega)
    have hx : y ≤ 32 := by omega
    have hi := in_part (n := val a b c d) (m := cutP (val a b c d) y) hN (cutP_lt hN) hx (cutP_idem (Nat.le_refl _) hx) rfl
    obtain ⟨r0, r1, r2, r3⟩ := p_val ha hb hc hd
    rw [r0, r1, r2, r3] at hi
    simp only [e0_nat ha hb hc hd hx, e1_nat ha hb hc hd hx, e2_nat ha hb hc hd hx, e3_nat ha hb hc hd hx, clamp_id hx]
    exact hi
  · have hz : cutP (val a b c d) 0 = 0 := by
      unfold cutP
      have : val a b c d / 2 ^ (32 - 0) = 0 := Nat.div_eq_of_lt (by simpa using hN)
      rw [this, Nat.zero_mul]
    have k0 := e0_nat (x := 0) ha hb hc hd (by omega)
    have k1 := e1_nat (x := 0) ha hb hc hd (by omega)
    have k2 := e2_nat (x := 0) ha hb hc hd (by omega)
    have k3 := e3_nat (x := 0) ha hb hc hd (by omega)
    rw [hz] at k0 k1 k2 k3
    exact ⟨k0, k1, k2, k3⟩
  · intro h0 h1
    obtain ⟨x, rfl⟩ := Int.eq_ofNat_of_zero_le (show 0 ≤ x by omega)
    have hx : x ≤ 32 := by omega
    have hx0 : 0 < x := by omega
    obtain ⟨w1, w2⟩ := pow_bit hx0 hx
    have ht : turnN (a : Int) b c d (x : Int) = ((val a b c d ^^^ 2 ^ (32 - x) : Nat) : Int) := by
      unfold turnN
      rw [w1, num_nat ha hb hc hd, xor_nat hN w2]
    have hlt : val a b c d ^^^ 2 ^ (32 - x) < 4294967296 := Nat.xor_lt_two_pow (n := 32) (by omega) (by omega)
    rw [ht]
    unfold t0 t1 t2 t3
    rw [q0, q1, q2, q3]
    simp only [e0_nat ha hb hc hd hx, e1_nat ha hb hc hd hx, e2_nat ha hb hc hd hx, e3_nat ha hb hc hd hx, clamp_id hx]
    cases hi : inZ (p0 (val a b c d ^^^ 2 ^ (32 - x))) (p1 (val a b c d ^^^ 2 ^ (32 - x))) (p2 (val a b c d ^^^ 2 ^ (32 - x))) (p3 (val a b c d ^^^ 2 ^ (32 - x))) (p0 (cutP (val a b c d) x)) (p1 (cutP (val a b c d) x)) (p2 (cutP (val a b c d) x)) (p3 (cutP (val a b c d) x)) (x : Int) with
    | false => rfl
    | true =>
      unfold inZ at hi
      rw [Bool.and_eq_true] at hi
      obtain ⟨j0, j1, j2, j3, _⟩ := (cutIs_part (y := x) hlt hx _).1 hi.2
      have : cutP (val a b c d ^^^ 2 ^ (32 - x)) x = cutP (val a b c d) x := by
        rw [← val_p (cutP_lt (x := x) hlt), ← val_p (cutP_lt (x := x) hN), j0, j1, j2, j3]
      exact absurd this (cutP_turn hx0 hx)
end Go.Fw.Sy.Ad
