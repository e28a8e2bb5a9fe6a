/- Texts laid as one. -/
import Derived.Test.YtbhickepoifepaaDoorAddrT11
/- What the reference reads in a text is what the program reads: plain laws. -/
set_option linter.unusedSimpArgs false
set_option linter.unusedVariables false
namespace Go.Fw.Sy.Ad

theorem numOk_eq {l : List UInt8} {k : Int} (h : numOk l k = true) : 0 ≤ numV l ∧ numV l ≤ k ∧ l = Lib.itoa (numV l) := by
  unfold numOk at h
  unfold numV
  split at h
  · rename_i v hv
    simp only [Bool.and_eq_true, decide_eq_true_eq, beq_iff_eq] at h
    rw [hv]
    exact ⟨h.1, h.2.1, h.2.2.symm⟩
  · cases h
theorem numOk_nil (k : Int) : numOk [] k = false := by
  unfold numOk
  rw [show Lib.atoiAll [] = Lib.atoiAll [] from rfl]
  cases h : Lib.atoiAll [] with
  | ok v =>
    exfalso
    have : (match Lib.atoiAll [] with
      | .ok _ => true
      | _ => false) = false := by decide +kernel
    rw [h] at this; cases this
  | _ => rfl

theorem stepP_eq {i : Nat} {l r : List UInt8} {v : Int} (h : stepP i l = some (v, r)) : (0 ≤ v ∧ v ≤ 255) ∧ ((i < 3 ∧ l = Lib.itoa v ++ 46 :: r) ∨ (¬ i < 3 ∧ l = Lib.itoa v)) := by
  unfold stepP at h
  split at h
  · rename_i hc
    simp only [Bool.and_eq_true, beq_iff_eq] at hc
    simp only [Option.some.injEq, Prod.mk.injEq] at h
    obtain ⟨rfl, rfl⟩ := h
    obtain ⟨h1, h2⟩ := hc
    obtain ⟨k0, k1, k2⟩ := numOk_eq h1
    refine ⟨⟨k0, k1⟩, ?_⟩
    by_cases hm : (46 : UInt8) ∈ l
    · obtain ⟨u, w, rfl, hu⟩ := List.eq_append_cons_of_mem hm
      rw [cut_hit w hu] at h2 k2 ⊢
      simp only at h2 k2 ⊢
      have hi : i < 3 := by simpa using h2.symm
      exact .inl ⟨hi, by rw [← k2]⟩
    · rw [cut_miss hm] at h2 k2 ⊢
      simp only at h2 k2 ⊢
      have hi : ¬ i < 3 := by simpa using h2.symm
      exact .inr ⟨hi, k2⟩
  · cases h

def byte4 (x : Int × Int × Int × Int) : Prop := (0 ≤ x.1 ∧ x.1 ≤ 255) ∧ (0 ≤ x.2.1 ∧ x.2.1 ≤ 255) ∧ (0 ≤ x.2.2.1 ∧ x.2.2.1 ≤ 255) ∧ (0 ≤ x.2.2.2 ∧ x.2.2.2 ≤ 255)
theorem parseL_eq {l : List UInt8} {a b c d : Int} (h : parseL l = some (a, b, c, d)) : byte4 (a, b, c, d) ∧ textL a b c d = l := by
  unfold parseL at h
  split at h
  · rename_i a' l1 e1
    split at h
    · rename_i b' l2 e2
      split at h
      · rename_i c' l3 e3
        split at h
        · rename_i d' l4 e4
          simp only [Option.some.injEq, Prod.mk.injEq] at h
          obtain ⟨rfl, rfl, rfl, rfl⟩ := h
          obtain ⟨r1, k1⟩ := stepP_eq e1
          obtain ⟨r2, k2⟩ := stepP_eq e2
          obtain ⟨r3, k3⟩ := stepP_eq e3
          obtain ⟨r4, k4⟩ := stepP_eq e4
          refine ⟨⟨r1, r2, r3, r4⟩, ?_⟩
          rcases k1 with ⟨_, k1⟩ | ⟨h, _⟩
          rcases k2 with ⟨_, k2⟩ | ⟨h, _⟩
          rcases k3 with ⟨_, k3⟩ | ⟨h, _⟩
          rcases k4 with ⟨h, _⟩ | ⟨_, k4⟩
          · exact absurd h (by decide)
          · rw [textL_eq, k1, k2, k3, k4]
          · exact absurd (by decide) h
          · exact absurd (by decide) h
          · exact absurd (by decide) h
        · cases h
      · cases h
    · cases h
  · cases h

theorem nat4 {a b c d : Int} (h : byte4 (a, b, c, d)) : ∃ p q r s : Nat, a = p ∧ b = q ∧ c = r ∧ d = s ∧ p < 256 ∧ q < 256 ∧ r < 256 ∧ s < 256 := by
  obtain ⟨h1, h2, h3, h4⟩ := h
  simp only at h1 h2 h3 h4
  exact ⟨a.toNat, b.toNat, c.toNat, d.toNat, by omega, by omega, by omega, by omega, by omega, by omega, by omega, by omega⟩

/-! The numbers of a text of numbers. -/
def digStep (x : Int) (c : UInt8) : Int := if x < 1000 then 10 * x + c.toNat - 48 else x
theorem fold_digs : ∀ (u : List UInt8) (p : List Int) (x : Int), u.all isDig = true → u.foldl numStep (p, x) = (p, u.foldl digStep x)
  | [], _, _, _ => rfl
  | c :: u, p, x, h => by
    simp only [List.all_cons, Bool.and_eq_true] at h
    have e : numStep (p, x) c = (p, digStep x c) := by
      unfold numStep digStep
      simp only [h.1, if_true]
      split <;> rfl
    simp only [List.foldl_cons, e]
    exact fold_digs u p _ h.2
theorem itoa_digs {n : Nat} (h : n < 256) : (Lib.itoa (n : Int)).all isDig = true ∧ (Lib.itoa (n : Int)).foldl digStep 0 = n := by
  have key : (List.range 256).all (fun n => (Lib.itoa (n : Int)).all isDig && (Lib.itoa (n : Int)).foldl digStep 0 == (n : Int)) = true := by decide +kernel
  have := List.all_eq_true.1 key n (List.mem_range.2 h)
  simp only [Bool.and_eq_true, beq_iff_eq] at this
  exact this
theorem fold_itoa {n : Nat} (h : n < 256) (p : List Int) (r : List UInt8) : (Lib.itoa (n : Int) ++ r).foldl numStep (p, 0) = r.foldl numStep (p, (n : Int)) := by
  rw [List.foldl_append, fold_digs _ _ _ (itoa_digs h).1, (itoa_digs h).2]
theorem fold_sep {c : UInt8} (hc : isDig c = false) (p : List Int) (x : Int) (r : List UInt8) : (c :: r).foldl numStep (p, x) = r.foldl numStep (p ++ [x], 0) := by
  have e : numStep (p, x) c = (p ++ [x], 0) := by simp [numStep, hc]
  rw [List.foldl_cons, e]
theorem fold_text {a b c d : Nat} (ha : a < 256) (hb : b < 256) (hc : c < 256) (hd : d < 256) (r : List UInt8) : (textL (a : Int) b c d ++ r).foldl numStep ([], 0) = r.foldl numStep ([(a : Int), (b : Int), (c : Int)], (d : Int)) := by
  have e46 : isDig 46 = false := by decide
  rw [textL_eq]
  simp only [List.append_assoc, List.cons_append]
  rw [fold_itoa ha, fold_sep e46, fold_itoa hb, fold_sep e46, fold_itoa hc, fold_sep e46, fold_itoa hd]
  rfl
theorem nums_text {a b c d : Nat} (ha : a < 256) (hb : b < 256) (hc : c < 256) (hd : d < 256) : numsP (textL (a : Int) b c d) = ([(a : Int), (b : Int), (c : Int)], (d : Int)) := by
  have := fold_text ha hb hc hd []
  rw [List.append_nil] at this
  exact this
theorem nums_net {a b c d n : Nat} (ha : a < 256) (hb : b < 256) (hc : c < 256) (hd : d < 256) (hn : n < 256) : numsP (textL (a : Int) b c d ++ 47 :: Lib.itoa (n : Int)) = ([(a : Int), (b : Int), (c : Int), (d : Int)], (n : Int)) := by
  unfold numsP
  rw [fold_text ha hb hc hd, fold_sep (by decide)]
  have := fold_itoa hn ([(a : Int), (b : Int), (c : Int)] ++ [(d : Int)]) []
  rw [List.append_nil] at this
  rw [this]; rfl

theorem refP_some {l : List UInt8} {a b c d : Int} (h : refP l = some (a, b, c, d)) : byte4 (a, b, c, d) ∧ textL a b c d = l := by
  obtain ⟨hall, hd0, hd1⟩ := nums_all l
  unfold refP at h
  split at h
  · rename_i a' b' c' d' e
    rw [e] at hall hd0
    split at h
    · rename_i hg
      simp only [Option.some.injEq, Prod.mk.injEq] at h
      obtain ⟨rfl, rfl, rfl, rfl⟩ := h
      exact ⟨⟨⟨(hall _ (by simp)).1, hg.1⟩, ⟨(hall _ (by simp)).1, hg.2.1⟩, ⟨(hall _ (by simp)).1, hg.2.2.1⟩, ⟨hd0, hg.2.2.2.1⟩⟩, hg.2.2.2.2⟩
    · cases h
  · cases h
theorem refP_eq (l : List UInt8) : refP l = parseL l := by
  cases hP : parseL l with
  | some x =>
    obtain ⟨a, b, c, d⟩ := x
    obtain ⟨hb, ht⟩ := parseL_eq hP
    obtain ⟨p, q, r, s, rfl, rfl, rfl, rfl, hp, hq, hr, hs⟩ := nat4 hb
    rw [← ht]
    unfold refP
    rw [nums_text hp hq hr hs]
    simp only
    rw [if_pos ⟨by omega, by omega, by omega, by omega, trivial⟩]
  | none =>
    cases hR : refP l with
    | none => rfl
    | some x =>
      obtain ⟨a, b, c, d⟩ := x
      obtain ⟨hb, ht⟩ := refP_some hR
      obtain ⟨p, q, r, s, rfl, rfl, rfl, rfl, hp, hq, hr, hs⟩ := nat4 hb
      rw [← ht, parse_text hp hq hr hs] at hP
      cases hP

theorem rightZ_bits {a b c d n : Int} (h : rightZ a b c d n = true) : 0 ≤ n ∧ n ≤ 32 := by
  simp only [rightZ, Bool.and_eq_true, decide_eq_true_eq] at h
  exact h.1
theorem netL_eq {l : List UInt8} {a b c d n : Int} (h : netL l = some (a, b, c, d, n)) : byte4 (a, b, c, d) ∧ rightZ a b c d n = true ∧ l = textL a b c d ++ 47 :: Lib.itoa n := by
  unfold netL at h
  split at h
  · rename_i a' b' c' d' e
    split at h
    · rename_i hg
      simp only [Option.some.injEq, Prod.mk.injEq] at h
      obtain ⟨rfl, rfl, rfl, rfl, rfl⟩ := h
      simp only [Bool.and_eq_true] at hg
      obtain ⟨g1, g2⟩ := hg
      obtain ⟨hb, ht⟩ := parseL_eq e
      obtain ⟨k0, k1, k2⟩ := numOk_eq g1
      refine ⟨hb, g2, ?_⟩
      by_cases hm : (47 : UInt8) ∈ l
      · obtain ⟨u, w, rfl, hu⟩ := List.eq_append_cons_of_mem hm
        rw [cut_hit w hu] at ht k2 ⊢
        simp only at ht k2 ⊢
        rw [ht, ← k2]
      · rw [cut_miss hm] at g1
        rw [show (l, ([] : List UInt8), false).2.1 = [] from rfl, numOk_nil] at g1
        cases g1
    · cases h
  · cases h
theorem netTextL_eq {a b c d n : Int} (h : rightZ a b c d n = true) : netTextL a b c d n = textL a b c d ++ 47 :: Lib.itoa n := by
  unfold netTextL
  rw [h]; simp
theorem refN_eq (l : List UInt8) : refN l = netL l := by
  cases hP : netL l with
  | some x =>
    obtain ⟨a, b, c, d, n⟩ := x
    obtain ⟨hb, hR, ht⟩ := netL_eq hP
    obtain ⟨n0, n1⟩ := rightZ_bits hR
    have hT := (netTextL_eq hR).trans ht.symm
    obtain ⟨p, q, r, s, rfl, rfl, rfl, rfl, hp, hq, hr, hs⟩ := nat4 hb
    obtain ⟨n, rfl⟩ := Int.eq_ofNat_of_zero_le n0
    have hn := nums_net hp hq hr hs (show n < 256 by omega)
    rw [← ht] at hn
    unfold refN
    rw [hn]
    simp only
    rw [if_pos ⟨by omega, by omega, by omega, by omega, hT⟩]
  | none =>
    cases hR : refN l with
    | none => rfl
    | some x =>
      exfalso
      obtain ⟨a, b, c, d, n⟩ := x
      obtain ⟨hall, hd0, hd1⟩ := nums_all l
      unfold refN at hR
      split at hR
      · rename_i a' b' c' d' n' e
        rw [e] at hall hd0
        split at hR
        · rename_i hg
          simp only [Option.some.injEq, Prod.mk.injEq] at hR
          obtain ⟨rfl, rfl, rfl, rfl, rfl⟩ := hR
          obtain ⟨g1, g2, g3, g4, hT⟩ := hg
          obtain ⟨p, q, r, s, rfl, rfl, rfl, rfl, hp, hq, hr, hs⟩ := nat4 (show byte4 (a', b', c', d') from ⟨⟨(hall _ (by simp)).1, g1⟩, ⟨(hall _ (by simp)).1, g2⟩, ⟨(hall _ (by simp)).1, g3⟩, ⟨(hall _ (by simp)).1, g4⟩⟩)
          have h1 := net_text (n := n') hp hq hr hs
          rw [hT, hP] at h1
          cases hz : rightZ (p : Int) q r s n' with
          | true => rw [hz] at h1; cases h1
          | false =>
            unfold netTextL at hT
            rw [hz] at hT
            have hl : l = [] := hT.symm
            rw [hl] at e
            cases e
        · cases hR
      · cases hR
end Go.Fw.Sy.Ad

/- The law AddrTexts, run. -/
set_option maxRecDepth 20000
set_option linter.unusedSimpArgs false
set_option linter.unusedVariables false
namespace Go.Fw.Sy.Ad

def spRefP : Sp
  | [.str s] => if s.size ≤ 200 then some (resP (parseL s.data.toList), []) else none
  | _ => none
def spRefN : Sp
  | [.str s] => if s.size ≤ 200 then some (resN (netL s.data.toList), []) else none
  | _ => none
theorem refP_run (l : List UInt8) (hl : l.length ≤ 200) : ∃ h' n', runFn K20 1000 fi14 [.str ⟨l.toArray⟩] noA 0 = some (resP (parseL l), h', n') := by
  rw [← refP_eq]; exact refParse_run l hl
theorem refN_run (l : List UInt8) (hl : l.length ≤ 200) : ∃ h' n', runFn K20 1000 fi16 [.str ⟨l.toArray⟩] noA 0 = some (resN (netL l), h', n') := by
  rw [← refN_eq]; exact refNet_run l hl
def K21 : CallK := addK (addK K20 14 (pureK spRefP)) 16 (pureK spRefN)
theorem k21_7 (vs : List AV) (h : AHeap) (n : Nat) : K21 7 vs h n = pureK spAlive vs h n := rfl
theorem k21_13 (vs : List AV) (h : AHeap) (n : Nat) : K21 13 vs h n = pureK spParse vs h n := rfl
theorem k21_14 (vs : List AV) (h : AHeap) (n : Nat) : K21 14 vs h n = pureK spRefP vs h n := rfl
theorem k21_15 (vs : List AV) (h : AHeap) (n : Nat) : K21 15 vs h n = pureK spNet vs h n := rfl
theorem k21_16 (vs : List AV) (h : AHeap) (n : Nat) : K21 16 vs h n = pureK spRefN vs h n := rfl
theorem k21_17 (vs : List AV) (h : AHeap) (n : Nat) : K21 17 vs h n = pureK spText vs h n := rfl
theorem k21_18 (vs : List AV) (h : AHeap) (n : Nat) : K21 18 vs h n = pureK spTextR vs h n := rfl
theorem k21_19 (vs : List AV) (h : AHeap) (n : Nat) : K21 19 vs h n = pureK spNetText vs h n := rfl
theorem k21_20 (vs : List AV) (h : AHeap) (n : Nat) : K21 20 vs h n = pureK spNetTextR vs h n := rfl

set_option maxHeartbeats 4000000 in
theorem texts_run (a b c d x y z u : Nat) (n : Int) (t : ByteArray) (ha : a < 256) (hb : b < 256) (hc : c < 256) (hd : d < 256) (hx : x < 256) (hy : y < 256) (hz : z < 256) (hu : u < 256) :
    ∃ h' n', runFn K21 1000 fi4 [.agg [.int .u8 a, .int .u8 b, .int .u8 c, .int .u8 d], .agg [.int .u8 x, .int .u8 y, .int .u8 z, .int .u8 u, .int .i64 n], .str t] noA 0 = some (.bool true, h', n') := by
  have l7 : ∀ h m, K21 7 [] h m = some (.bool true, h, m) := fun h m => by rw [k21_7]; exact pure_call h m rfl rfl rfl
  by_cases hs : t.size ≤ 200
  · have g : ¬ (200 < (t.size : Int)) := by omega
    have b1 := nat_bytes4 ha hb hc hd
    have b2 := nat_bytes4 hx hy hz hu
    have l13 : ∀ h m, K21 13 [.str t] h m = some (resP (parseL t.data.toList), h, m) := fun h m => by
      rw [k21_13]
      refine pure_call h m ?_ rfl (by cases parseL t.data.toList <;> rfl)
      have : t.size < 4294967281 := by omega
      unfold spParse; simp only [this, if_true]
    have l14 : ∀ h m, K21 14 [.str t] h m = some (resP (parseL t.data.toList), h, m) := fun h m => by
      rw [k21_14]
      refine pure_call h m ?_ rfl (by cases parseL t.data.toList <;> rfl)
      unfold spRefP; simp only [hs, if_true]
    have l15 : ∀ h m, K21 15 [.str t] h m = some (resN (netL t.data.toList), h, m) := fun h m => by
      rw [k21_15]
      refine pure_call h m ?_ rfl (by cases netL t.data.toList <;> rfl)
      have : t.size < 4294967281 := by omega
      unfold spNet; simp only [this, if_true]
    have l16 : ∀ h m, K21 16 [.str t] h m = some (resN (netL t.data.toList), h, m) := fun h m => by
      rw [k21_16]
      refine pure_call h m ?_ rfl (by cases netL t.data.toList <;> rfl)
      unfold spRefN; simp only [hs, if_true]
    have l17 : ∀ h m, K21 17 [.agg [.int .u8 a, .int .u8 b, .int .u8 c, .int .u8 d]] h m = some (.str ⟨(textL a b c d).toArray⟩, h, m) := fun h m => by
      rw [k21_17]
      refine pure_call h m ?_ rfl rfl
      unfold bytes4 at b1
      unfold spText; simp only [b1, if_true]
    have l18 : ∀ h m, K21 18 [.agg [.int .u8 a, .int .u8 b, .int .u8 c, .int .u8 d]] h m = some (.str ⟨(textL a b c d).toArray⟩, h, m) := fun h m => by
      rw [k21_18]
      refine pure_call h m ?_ rfl rfl
      unfold spTextR; simp only [b1, if_true]
    have l19 : ∀ h m, K21 19 [.agg [.int .u8 x, .int .u8 y, .int .u8 z, .int .u8 u, .int .i64 n]] h m = some (.str ⟨(netTextL x y z u n).toArray⟩, h, m) := fun h m => by
      rw [k21_19]
      refine pure_call h m ?_ rfl rfl
      unfold bytes4 at b2
      unfold spNetText; simp only [b2, if_true]
    have l20 : ∀ h m, K21 20 [.agg [.int .u8 x, .int .u8 y, .int .u8 z, .int .u8 u, .int .i64 n]] h m = some (.str ⟨(netTextL x y z u n).toArray⟩, h, m) := fun h m => by
      rw [k21_20]
      refine pure_call h m ?_ rfl rfl
      unfold spNetTextR; simp only [b2, if_true]
    obtain ⟨p0, p1, p2, p3, pe, hP⟩ : ∃ p0 p1 p2 p3 pe : Int, resP (parseL t.data.toList) = .tup [.agg [.int .u8 p0, .int .u8 p1, .int .u8 p2, .int .u8 p3], .int .i64 pe] := by
      cases parseL t.data.toList with
      | none => exact ⟨_, _, _, _, _, rfl⟩
      | some x => exact ⟨_, _, _, _, _, rfl⟩
    obtain ⟨q0, q1, q2, q3, q4, qe, hN⟩ : ∃ q0 q1 q2 q3 q4 qe : Int, resN (netL t.data.toList) = .tup [.agg [.int .u8 q0, .int .u8 q1, .int .u8 q2, .int .u8 q3, .int .i64 q4], .int .i64 qe] := by
      cases netL t.data.toList with
      | none => exact ⟨_, _, _, _, _, _, rfl⟩
      | some x => exact ⟨_, _, _, _, _, _, rfl⟩
    rw [hP] at l13 l14
    rw [hN] at l15 l16
    simp [y_fn, y_seq, bindN_n, bindN_ret, bindN_exit, y_ops, mapN_some, y_skip, y_ret, y_exit, y_block, blockR_n, blockR_ret, blockR_exit, y_cond, condR_t, condR_f, condR_b, y_opsCons, bindO_some, y_opsNil, y_op0, evOp0, putR_some, callR_some, y_opG, guardR_b, guardR_u, y_drawn, mapD_some, y_drawnNil, y_drawnCons, drR_some, chkL_nil, chkL_cons, y_dop0, evDOp0, recR_some, dcallR_nil, dres_same, y_dopG, guardD_b, guardD_u, resR_ret, resR_n, y_pure, viewR_some, spR_nil, spR0_true, spR1_nil, put_eq, put_ne, put_none, upd_at, upd_off, app_nil, app_cons, shownIds, ids_undef, ids_bool, ids_int, ids_str, ids_agg, ids_tup, ids_nilptr, ids_ptr, ids_vptr, ids_sl, ids_vsl, ids_nilfunc, ids_func, ids_nilmap, ids_map, ids_niliface, ids_iface, idsL_nil, idsL_cons, view_64, runOp, AOpd.ev, argF, noA, AV.cellsOf, AV.isCell, cellsAt, fieldAddrOf, fieldOf, partOf, binOf, ib_add, ib_sub, ib_mul, ib_quo, ib_rem, ib_and, ib_or, ib_xor, ib_andNot, ib_eql, ib_neq, ib_lss, ib_leq, ib_gtr, ib_geq, un_neg, un_xor, un_not, intShift, strBin, aeq, eqCells, eqLeaf, eqRes, clash, AOp.silent, AOp.opds, optL, idsTop, addK, noK, viewL, viewAV, resRV, tupOf, fillParts, splice, foldMinMax, indexOf, indexAddrOf, lenIs, Fw.lenOf, convOf, bound, sliceOf, srcOf, bytesSrc, elemsOf, appendOf, capFits, growCap, nro, blkIds, flat, flatL, flatB, strOf, chunks, w1, w2, w3, w4, i64max, appB, sizeB, ByteArray.toList_eq, fi4, l7, l13, l14, l15, l16, l17, l18, l19, l20, g]
  · have g : 200 < (t.size : Int) := by omega
    simp [y_fn, y_seq, bindN_n, bindN_ret, bindN_exit, y_ops, mapN_some, y_skip, y_ret, y_exit, y_block, blockR_n, blockR_ret, blockR_exit, y_cond, condR_t, condR_f, condR_b, y_opsCons, bindO_some, y_opsNil, y_op0, evOp0, putR_some, callR_some, y_opG, guardR_b, guardR_u, y_drawn, mapD_some, y_drawnNil, y_drawnCons, drR_some, chkL_nil, chkL_cons, y_dop0, evDOp0, recR_some, dcallR_nil, dres_same, y_dopG, guardD_b, guardD_u, resR_ret, resR_n, y_pure, viewR_some, spR_nil, spR0_true, spR1_nil, put_eq, put_ne, put_none, upd_at, upd_off, app_nil, app_cons, shownIds, ids_undef, ids_bool, ids_int, ids_str, ids_agg, ids_tup, ids_nilptr, ids_ptr, ids_vptr, ids_sl, ids_vsl, ids_nilfunc, ids_func, ids_nilmap, ids_map, ids_niliface, ids_iface, idsL_nil, idsL_cons, view_64, runOp, AOpd.ev, argF, noA, AV.cellsOf, AV.isCell, cellsAt, fieldAddrOf, fieldOf, partOf, binOf, ib_add, ib_sub, ib_mul, ib_quo, ib_rem, ib_and, ib_or, ib_xor, ib_andNot, ib_eql, ib_neq, ib_lss, ib_leq, ib_gtr, ib_geq, un_neg, un_xor, un_not, intShift, strBin, aeq, eqCells, eqLeaf, eqRes, clash, AOp.silent, AOp.opds, optL, idsTop, addK, noK, viewL, viewAV, resRV, tupOf, fillParts, splice, foldMinMax, indexOf, indexAddrOf, lenIs, Fw.lenOf, convOf, bound, sliceOf, srcOf, bytesSrc, elemsOf, appendOf, capFits, growCap, nro, blkIds, flat, flatL, flatB, strOf, chunks, w1, w2, w3, w4, i64max, appB, sizeB, ByteArray.toList_eq, fi4, l7, g]
end Go.Fw.Sy.Ad
