/- Texts of addresses: plain laws. -/
import Derived.Test.YtbhickepoifepaaDoorAddrT3
import Derived.Test.YtbhickepoifepaaDoorAddrP1
set_option linter.unusedSimpArgs false
set_option linter.unusedVariables false
namespace Go.Fw.Sy.Ad

theorem idx_hit {c : UInt8} : ∀ {u : List UInt8} (v : List UInt8), c ∉ u → Lib.index (u ++ c :: v) [c] = u.length
  | [], v, _ => by simp [Lib.index, List.isPrefixOf]
  | b :: u, v, h => by
    have hb : ¬ c = b := fun e => h (by simp [e])
    have ih := idx_hit (u := u) v (fun h' => h (List.mem_cons_of_mem _ h'))
    have e1 : (c == b) = false := by simpa using hb
    simp only [List.cons_append, Lib.index, List.isPrefixOf, e1, Bool.false_and, Bool.false_eq_true, if_false, ih, List.length_cons]
    rw [if_neg (by first | (simp; done) | (simp; omega))]
    omega
theorem idx_none {c : UInt8} : ∀ {u : List UInt8}, c ∉ u → Lib.index u [c] = -1
  | [], _ => by simp [Lib.index]
  | b :: u, h => by
    have hb : ¬ c = b := fun e => h (by simp [e])
    have ih := idx_none (u := u) (fun h' => h (List.mem_cons_of_mem _ h'))
    have e1 : (c == b) = false := by simpa using hb
    simp [Lib.index, List.isPrefixOf, e1, ih]
theorem cut_hit {c : UInt8} {u : List UInt8} (v : List UInt8) (h : c ∉ u) : Lib.cut (u ++ c :: v) [c] = (u, v, true) := by
  unfold Lib.cut
  rw [idx_hit v h, if_pos (by omega)]
  simp
theorem cut_miss {c : UInt8} {u : List UInt8} (h : c ∉ u) : Lib.cut u [c] = (u, [], false) := by
  unfold Lib.cut
  rw [idx_none h, if_neg (by omega)]

/-- What holds of each byte's decimals. -/
def byteFact (n : Nat) : Bool := (match Lib.atoiAll (Lib.itoa (n : Int)) with
  | .ok v => v == (n : Int)
  | _ => false) && !(Lib.itoa (n : Int)).contains 46 && !(Lib.itoa (n : Int)).contains 47
theorem byteFacts : (List.range 256).all byteFact = true := by decide +kernel
theorem byte_fact {n : Nat} (h : n < 256) : Lib.atoiAll (Lib.itoa (n : Int)) = .ok (n : Int) ∧ 46 ∉ Lib.itoa (n : Int) ∧ 47 ∉ Lib.itoa (n : Int) := by
  have := List.all_eq_true.1 byteFacts n (List.mem_range.2 h)
  unfold byteFact at this
  simp only [Bool.and_eq_true, Bool.not_eq_true', List.contains_eq_mem, decide_eq_false_iff_not] at this
  obtain ⟨⟨h1, h2⟩, h3⟩ := this
  refine ⟨?_, h2, h3⟩
  split at h1
  · rename_i v hv
    rw [hv]
    have : v = n := by simpa using h1
    rw [this]
  · cases h1

theorem numOk_itoa {n : Nat} {k : Int} (h : n < 256) (hk : (n : Int) ≤ k) : numOk (Lib.itoa (n : Int)) k = true ∧ numV (Lib.itoa (n : Int)) = n := by
  unfold numOk numV
  rw [(byte_fact h).1]
  simp [hk]

theorem textL_eq (a b c d : Int) : textL a b c d = Lib.itoa a ++ 46 :: (Lib.itoa b ++ 46 :: (Lib.itoa c ++ 46 :: Lib.itoa d)) := by
  simp [textL, Lib.join, List.intercalate, List.intersperse]

theorem parse_text {a b c d : Nat} (ha : a < 256) (hb : b < 256) (hc : c < 256) (hd : d < 256) : parseL (textL (a : Int) b c d) = some ((a : Int), (b : Int), (c : Int), (d : Int)) := by
  have fa := byte_fact ha; have fb := byte_fact hb; have fc := byte_fact hc; have fd := byte_fact hd
  have na := numOk_itoa (k := 255) ha (by omega); have nb := numOk_itoa (k := 255) hb (by omega); have nc := numOk_itoa (k := 255) hc (by omega); have nd := numOk_itoa (k := 255) hd (by omega)
  have s0 : stepP 0 (textL (a : Int) b c d) = some ((a : Int), Lib.itoa (b : Int) ++ 46 :: (Lib.itoa (c : Int) ++ 46 :: Lib.itoa (d : Int))) := by
    rw [textL_eq]; unfold stepP; rw [cut_hit _ fa.2.1]; simp [na]
  have s1 : stepP 1 (Lib.itoa (b : Int) ++ 46 :: (Lib.itoa (c : Int) ++ 46 :: Lib.itoa (d : Int))) = some ((b : Int), Lib.itoa (c : Int) ++ 46 :: Lib.itoa (d : Int)) := by
    unfold stepP; rw [cut_hit _ fb.2.1]; simp [nb]
  have s2 : stepP 2 (Lib.itoa (c : Int) ++ 46 :: Lib.itoa (d : Int)) = some ((c : Int), Lib.itoa (d : Int)) := by
    unfold stepP; rw [cut_hit _ fc.2.1]; simp [nc]
  have s3 : stepP 3 (Lib.itoa (d : Int)) = some ((d : Int), []) := by
    unfold stepP; rw [cut_miss fd.2.1]; simp [nd]
  simp [parseL, s0, s1, s2, s3]

theorem no_slash {a b c d : Nat} (ha : a < 256) (hb : b < 256) (hc : c < 256) (hd : d < 256) : 47 ∉ textL (a : Int) b c d := by
  rw [textL_eq]
  simp [(byte_fact ha).2.2, (byte_fact hb).2.2, (byte_fact hc).2.2, (byte_fact hd).2.2]

theorem net_text {a b c d : Nat} {n : Int} (ha : a < 256) (hb : b < 256) (hc : c < 256) (hd : d < 256) : netL (netTextL (a : Int) b c d n) = if rightZ (a : Int) b c d n = true then some ((a : Int), (b : Int), (c : Int), (d : Int), n) else none := by
  unfold netTextL
  cases hr : rightZ (a : Int) b c d n
  · show netL [] = none
    rfl
  · have hn : 0 ≤ n ∧ n ≤ 32 := by
      simp only [rightZ, Bool.and_eq_true, decide_eq_true_eq] at hr
      exact hr.1
    obtain ⟨n, rfl⟩ := Int.eq_ofNat_of_zero_le hn.1
    have e : textL (a : Int) b c d ++ ([47] ++ Lib.itoa (n : Int)) = textL (a : Int) b c d ++ 47 :: Lib.itoa (n : Int) := by simp
    simp only [if_true]
    rw [e]
    unfold netL
    rw [cut_hit _ (no_slash ha hb hc hd)]
    have nn := numOk_itoa (n := n) (k := 32) (by omega) hn.2
    simp [parse_text ha hb hc hd, nn, hr]

theorem of_num {a b c d : Nat} (ha : a < 256) (hb : b < 256) (hc : c < 256) (hd : d < 256) : ofZ (numZ (a : Int) b c d) = [.int .u8 a, .int .u8 b, .int .u8 c, .int .u8 d] := by
  unfold ofZ
  rw [num_nat ha hb hc hd, q0, q1, q2, q3]
  obtain ⟨r0, r1, r2, r3⟩ := p_val ha hb hc hd
  rw [r0, r1, r2, r3]
end Go.Fw.Sy.Ad
