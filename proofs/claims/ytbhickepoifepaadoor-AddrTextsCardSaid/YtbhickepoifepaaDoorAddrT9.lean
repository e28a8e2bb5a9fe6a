/- Texts laid as one. -/
import Derived.Test.YtbhickepoifepaaDoorAddrT7
import Derived.Test.YtbhickepoifepaaDoorAddrS1
import Derived.KernelRfl
/- The reference's texts, run. -/
set_option maxRecDepth 20000
set_option linter.unusedSimpArgs false
set_option linter.unusedVariables false
namespace Go.Fw.Sy.Ad

def spRightR : Sp
  | [.agg [.int .u8 a, .int .u8 b, .int .u8 c, .int .u8 d, .int .i64 n]] => if bytes4 a b c d = true then some (.bool (rightZ a b c d n), []) else none
  | _ => none
def K14 : CallK := addK K13 38 (pureK spCutR)
theorem k14_37 (vs : List AV) (h : AHeap) (n : Nat) : K14 37 vs h n = pureK spBnd vs h n := rfl
theorem k14_38 (vs : List AV) (h : AHeap) (n : Nat) : K14 38 vs h n = pureK spCutR vs h n := rfl
theorem call37 (n : Int) (h : AHeap) (k : Nat) : K14 37 [.int .i64 n] h k = some (.int .i64 (clampZ n), h, k) := by
  rw [k14_37]
  exact pure_call h k rfl rfl rfl
theorem call38 (a b c d n : Int) (hB : bytes4 a b c d = true) (h : AHeap) (k : Nat) : K14 38 [.agg [.int .u8 a, .int .u8 b, .int .u8 c, .int .u8 d], .int .i64 n] h k = some (.agg (cutZ a b c d n), h, k) := by
  rw [k14_38]
  refine pure_call h k ?_ rfl rfl
  unfold spCutR
  simp only [hB, if_true]
theorem clamp_beq (n : Int) : (clampZ n == n) = (decide (0 ≤ n) && decide (n ≤ 32)) := by
  unfold clampZ maxZ minZ
  rw [Bool.eq_iff_iff]
  simp only [beq_iff_eq, Bool.and_eq_true, decide_eq_true_eq]
  split <;> split <;> omega
set_option maxHeartbeats 1000000 in
theorem rightR_run (a b c d n : Int) (hB : bytes4 a b c d = true) : ∃ h' n', runFn K14 1000 fi30 [.agg [.int .u8 a, .int .u8 b, .int .u8 c, .int .u8 d, .int .i64 n]] noA 0 = some (.bool (rightZ a b c d n), h', n') := by
  unfold rightZ
  rw [← clamp_beq]
  have l1 := call37 n
  have l2 := call38 a b c d n hB
  cases hA : (clampZ n == n)
  · simp [y_fn, y_seq, bindN_n, bindN_ret, bindN_exit, y_ops, mapN_some, y_skip, y_ret, y_exit, y_block, blockR_n, blockR_ret, blockR_exit, y_cond, condR_t, condR_f, condR_b, y_opsCons, bindO_some, y_opsNil, y_op0, evOp0, putR_some, callR_some, y_opG, guardR_b, guardR_u, y_drawn, mapD_some, y_drawnNil, y_drawnCons, drR_some, chkL_nil, chkL_cons, y_dop0, evDOp0, recR_some, dcallR_nil, dres_same, y_dopG, guardD_b, guardD_u, resR_ret, resR_n, y_pure, viewR_some, spR_nil, spR0_true, spR1_nil, put_eq, put_ne, put_none, upd_at, upd_off, app_nil, app_cons, shownIds, ids_undef, ids_bool, ids_int, ids_str, ids_agg, ids_tup, ids_nilptr, ids_ptr, ids_vptr, ids_sl, ids_vsl, ids_nilfunc, ids_func, ids_nilmap, ids_map, ids_niliface, ids_iface, idsL_nil, idsL_cons, view_64, runOp, AOpd.ev, argF, noA, AV.cellsOf, AV.isCell, cellsAt, fieldAddrOf, fieldOf, partOf, binOf, ib_add, ib_sub, ib_mul, ib_quo, ib_rem, ib_and, ib_or, ib_xor, ib_andNot, ib_eql, ib_neq, ib_lss, ib_leq, ib_gtr, ib_geq, un_neg, un_xor, un_not, intShift, strBin, aeq, eqCells, eqLeaf, eqRes, clash, AOp.silent, AOp.opds, optL, idsTop, addK, noK, viewL, viewAV, resRV, tupOf, fillParts, splice, foldMinMax, indexOf, indexAddrOf, lenIs, Fw.lenOf, convOf, bound, sliceOf, srcOf, bytesSrc, elemsOf, appendOf, capFits, growCap, nro, blkIds, flat, flatL, flatB, strOf, chunks, w1, w2, w3, w4, i64max, appB, sizeB, ByteArray.toList_eq, fi30, l1, l2, hA]
  · have hA' : clampZ n = n := by simpa using hA
    simp [y_fn, y_seq, bindN_n, bindN_ret, bindN_exit, y_ops, mapN_some, y_skip, y_ret, y_exit, y_block, blockR_n, blockR_ret, blockR_exit, y_cond, condR_t, condR_f, condR_b, y_opsCons, bindO_some, y_opsNil, y_op0, evOp0, putR_some, callR_some, y_opG, guardR_b, guardR_u, y_drawn, mapD_some, y_drawnNil, y_drawnCons, drR_some, chkL_nil, chkL_cons, y_dop0, evDOp0, recR_some, dcallR_nil, dres_same, y_dopG, guardD_b, guardD_u, resR_ret, resR_n, y_pure, viewR_some, spR_nil, spR0_true, spR1_nil, put_eq, put_ne, put_none, upd_at, upd_off, app_nil, app_cons, shownIds, ids_undef, ids_bool, ids_int, ids_str, ids_agg, ids_tup, ids_nilptr, ids_ptr, ids_vptr, ids_sl, ids_vsl, ids_nilfunc, ids_func, ids_nilmap, ids_map, ids_niliface, ids_iface, idsL_nil, idsL_cons, view_64, runOp, AOpd.ev, argF, noA, AV.cellsOf, AV.isCell, cellsAt, fieldAddrOf, fieldOf, partOf, binOf, ib_add, ib_sub, ib_mul, ib_quo, ib_rem, ib_and, ib_or, ib_xor, ib_andNot, ib_eql, ib_neq, ib_lss, ib_leq, ib_gtr, ib_geq, un_neg, un_xor, un_not, intShift, strBin, aeq, eqCells, eqLeaf, eqRes, clash, AOp.silent, AOp.opds, optL, idsTop, addK, noK, viewL, viewAV, resRV, tupOf, fillParts, splice, foldMinMax, indexOf, indexAddrOf, lenIs, Fw.lenOf, convOf, bound, sliceOf, srcOf, bytesSrc, elemsOf, appendOf, capFits, growCap, nro, blkIds, flat, flatL, flatB, strOf, chunks, w1, w2, w3, w4, i64max, appB, sizeB, ByteArray.toList_eq, fi30, l1, l2, hA, hA', cutZ, cutIs]

/-! digits -/
def spDig (k : Int) : Sp
  | [.int .i64 n] => if 0 ≤ n ∧ n < k then some (.str ⟨(Lib.itoa n).toArray⟩, []) else none
  | _ => none
theorem dig_call {k n : Int} (h0 : 0 ≤ n) (h1 : n < k) (h : AHeap) (m : Nat) : pureK (spDig k) [.int .i64 n] h m = some (.str ⟨(Lib.itoa n).toArray⟩, h, m) := by
  refine pure_call h m ?_ rfl rfl
  unfold spDig
  simp only [h0, h1, and_self, if_true]
theorem itoa_split {n : Nat} (h0 : 10 ≤ n) (h : n < 1000) : Lib.itoa ((n / 10 : Nat) : Int) ++ Lib.itoa ((n % 10 : Nat) : Int) = Lib.itoa (n : Int) := by
  have key : (List.range 1000).all (fun n => decide (n < 10) || (Lib.itoa ((n / 10 : Nat) : Int) ++ Lib.itoa ((n % 10 : Nat) : Int) == Lib.itoa (n : Int))) = true := by decide +kernel
  have := List.all_eq_true.1 key n (List.mem_range.2 h)
  have hn : ¬ n < 10 := by omega
  simpa [hn] using this
theorem itoa_len3 {n : Nat} (h : n < 1000) : (Lib.itoa (n : Int)).length ≤ 3 := by
  have key : (List.range 1000).all (fun n => decide ((Lib.itoa (n : Int)).length ≤ 3)) = true := by decide +kernel
  simpa using List.all_eq_true.1 key n (List.mem_range.2 h)
theorem run_of_map' {x : Option (AV × AHeap × Nat)} {r : AV} (h : x.map (·.1) = some r) : ∃ h' n', x = some (r, h', n') := by
  rw [Option.map_eq_some_iff] at h
  obtain ⟨⟨r', h', n'⟩, h1, h2⟩ := h
  simp only at h2; subst h2
  exact ⟨h', n', h1⟩
theorem dig_run1 (n : Int) (h0 : 0 ≤ n) (h1 : n < 10) : ∃ h' n', runFn K14 1000 fi29 [.int .i64 n] noA 0 = some (.str ⟨(Lib.itoa n).toArray⟩, h', n') := by
  have : n = 0 ∨ n = 1 ∨ n = 2 ∨ n = 3 ∨ n = 4 ∨ n = 5 ∨ n = 6 ∨ n = 7 ∨ n = 8 ∨ n = 9 := by omega
  rcases this with rfl | rfl | rfl | rfl | rfl | rfl | rfl | rfl | rfl | rfl <;> exact run_of_map' (by kernel_rfl)
theorem dig_runS (K : CallK) (k : Int) (n : Int) (hK : ∀ vs h m, K 29 vs h m = pureK (spDig k) vs h m) (h0 : 10 ≤ n) (h1 : n < 1000) (h2 : n < 10 * k) (hk : 10 ≤ k) : ∃ h' n', runFn K 1000 fi29 [.int .i64 n] noA 0 = some (.str ⟨(Lib.itoa n).toArray⟩, h', n') := by
  obtain ⟨n, rfl⟩ := Int.eq_ofNat_of_zero_le (show 0 ≤ n by omega)
  have l1 := fun h m => (hK [.int .i64 ((n / 10 : Nat) : Int)] h m).trans (dig_call (k := k) (n := ((n / 10 : Nat) : Int)) (by omega) (by omega) h m)
  have l2 := fun h m => (hK [.int .i64 ((n % 10 : Nat) : Int)] h m).trans (dig_call (k := k) (n := ((n % 10 : Nat) : Int)) (by omega) (by omega) h m)
  have g : ¬ ((n : Int) < 10) := by omega
  have e1 : IntKind.i64.wrap ((n : Int).tdiv 10) = ((n / 10 : Nat) : Int) := by
    rw [show (10 : Int) = ((10 : Nat) : Int) from rfl, tdiv_nat]; exact i64_wrap (by omega) (by omega)
  have e2 : (n : Int).tmod 10 = ((n % 10 : Nat) : Int) := by
    rw [show (10 : Int) = ((10 : Nat) : Int) from rfl, tmod_nat]
  have e3 := itoa_split (n := n) (by omega) (by omega)
  have q1 := itoa_len3 (n := n / 10) (by omega)
  have q2 := itoa_len3 (n := n % 10) (by omega)
  generalize hA : ((n / 10 : Nat) : Int) = A at *
  generalize hB : ((n % 10 : Nat) : Int) = B at *
  have q : ¬ (9223372036854775807 < ((Lib.itoa A).length : Int) + ((Lib.itoa B).length : Int)) := by omega
  rw [← e3]
  clear e3
  generalize Lib.itoa A = LA at *
  generalize Lib.itoa B = LB at *
  have q' : ¬ (9223372036854775807 < LA.length + LB.length) := by omega
  generalize hN : (n : Int) = N at *
  have e1' : IntKind.i64.wrap (N.tdiv 10) = A := e1
  simp [y_fn, y_seq, bindN_n, bindN_ret, bindN_exit, y_ops, mapN_some, y_skip, y_ret, y_exit, y_block, blockR_n, blockR_ret, blockR_exit, y_cond, condR_t, condR_f, condR_b, y_opsCons, bindO_some, y_opsNil, y_op0, evOp0, putR_some, callR_some, y_opG, guardR_b, guardR_u, y_drawn, mapD_some, y_drawnNil, y_drawnCons, drR_some, chkL_nil, chkL_cons, y_dop0, evDOp0, recR_some, dcallR_nil, dres_same, y_dopG, guardD_b, guardD_u, resR_ret, resR_n, y_pure, viewR_some, spR_nil, spR0_true, spR1_nil, put_eq, put_ne, put_none, upd_at, upd_off, app_nil, app_cons, shownIds, ids_undef, ids_bool, ids_int, ids_str, ids_agg, ids_tup, ids_nilptr, ids_ptr, ids_vptr, ids_sl, ids_vsl, ids_nilfunc, ids_func, ids_nilmap, ids_map, ids_niliface, ids_iface, idsL_nil, idsL_cons, view_64, runOp, AOpd.ev, argF, noA, AV.cellsOf, AV.isCell, cellsAt, fieldAddrOf, fieldOf, partOf, binOf, ib_add, ib_sub, ib_mul, ib_quo, ib_rem, ib_and, ib_or, ib_xor, ib_andNot, ib_eql, ib_neq, ib_lss, ib_leq, ib_gtr, ib_geq, un_neg, un_xor, un_not, intShift, strBin, aeq, eqCells, eqLeaf, eqRes, clash, AOp.silent, AOp.opds, optL, idsTop, addK, noK, viewL, viewAV, resRV, tupOf, fillParts, splice, foldMinMax, indexOf, indexAddrOf, lenIs, Fw.lenOf, convOf, bound, sliceOf, srcOf, bytesSrc, elemsOf, appendOf, capFits, growCap, nro, blkIds, flat, flatL, flatB, strOf, chunks, w1, w2, w3, w4, i64max, appB, sizeB, ByteArray.toList_eq, fi29, g, e1', e2, l1, l2, q, q']
end Go.Fw.Sy.Ad

/- The reference's texts of addresses and networks, run. -/
set_option maxRecDepth 20000
set_option linter.unusedSimpArgs false
set_option linter.unusedVariables false
namespace Go.Fw.Sy.Ad

def K15 : CallK := addK K14 29 (pureK (spDig 10))
def K16 : CallK := addK K15 29 (pureK (spDig 100))
def K17 : CallK := addK K16 29 (pureK (spDig 1000))
theorem k17_29 (vs : List AV) (h : AHeap) (n : Nat) : K17 29 vs h n = pureK (spDig 1000) vs h n := rfl
theorem dig2_run (n : Int) (h0 : 0 ≤ n) (h1 : n < 100) : ∃ h' n', runFn K15 1000 fi29 [.int .i64 n] noA 0 = some (.str ⟨(Lib.itoa n).toArray⟩, h', n') := by
  by_cases h : n < 10
  · have : n = 0 ∨ n = 1 ∨ n = 2 ∨ n = 3 ∨ n = 4 ∨ n = 5 ∨ n = 6 ∨ n = 7 ∨ n = 8 ∨ n = 9 := by omega
    rcases this with rfl | rfl | rfl | rfl | rfl | rfl | rfl | rfl | rfl | rfl <;> exact run_of_map' (by kernel_rfl)
  · exact dig_runS K15 10 n (fun _ _ _ => rfl) (by omega) (by omega) (by omega) (by omega)
theorem dig3_run (n : Int) (h0 : 0 ≤ n) (h1 : n < 1000) : ∃ h' n', runFn K16 1000 fi29 [.int .i64 n] noA 0 = some (.str ⟨(Lib.itoa n).toArray⟩, h', n') := by
  by_cases h : n < 10
  · have : n = 0 ∨ n = 1 ∨ n = 2 ∨ n = 3 ∨ n = 4 ∨ n = 5 ∨ n = 6 ∨ n = 7 ∨ n = 8 ∨ n = 9 := by omega
    rcases this with rfl | rfl | rfl | rfl | rfl | rfl | rfl | rfl | rfl | rfl <;> exact run_of_map' (by kernel_rfl)
  · exact dig_runS K16 100 n (fun _ _ _ => rfl) (by omega) (by omega) (by omega) (by omega)

theorem call29 {n : Int} (h0 : 0 ≤ n) (h1 : n < 1000) (h : AHeap) (m : Nat) : K17 29 [.int .i64 n] h m = some (.str ⟨(Lib.itoa n).toArray⟩, h, m) := by
  rw [k17_29]; exact dig_call h0 h1 h m
theorem itoa_len3' {n : Int} (h0 : 0 ≤ n) (h : n < 1000) : (Lib.itoa n).length ≤ 3 := by
  obtain ⟨n, rfl⟩ := Int.eq_ofNat_of_zero_le h0
  exact itoa_len3 (by omega)

set_option maxHeartbeats 2000000 in
theorem textR_run (a b c d : Int) (ha : 0 ≤ a ∧ a < 256) (hb : 0 ≤ b ∧ b < 256) (hc : 0 ≤ c ∧ c < 256) (hd : 0 ≤ d ∧ d < 256) :
    ∃ h' n', runFn K17 1000 fi18 [.agg [.int .u8 a, .int .u8 b, .int .u8 c, .int .u8 d]] noA 0 = some (.str ⟨(textL a b c d).toArray⟩, h', n') := by
  have wa : IntKind.i64.wrap a = a := i64_wrap (by omega) (by omega)
  have wb : IntKind.i64.wrap b = b := i64_wrap (by omega) (by omega)
  have wc : IntKind.i64.wrap c = c := i64_wrap (by omega) (by omega)
  have wd : IntKind.i64.wrap d = d := i64_wrap (by omega) (by omega)
  have la := call29 (n := a) ha.1 (by omega)
  have lb := call29 (n := b) hb.1 (by omega)
  have lc := call29 (n := c) hc.1 (by omega)
  have ld := call29 (n := d) hd.1 (by omega)
  have ea := itoa_len3' ha.1 (show a < 1000 by omega)
  have eb := itoa_len3' hb.1 (show b < 1000 by omega)
  have ec := itoa_len3' hc.1 (show c < 1000 by omega)
  have ed := itoa_len3' hd.1 (show d < 1000 by omega)
  rw [textL_eq]
  generalize Lib.itoa a = LA at *
  generalize Lib.itoa b = LB at *
  generalize Lib.itoa c = LC at *
  generalize Lib.itoa d = LD at *
  have q1 : ¬ (9223372036854775807 < (LA.length : Int) + 1) := by omega
  have q2 : ¬ (9223372036854775807 < (LA.length : Int) + 1 + (LB.length : Int)) := by omega
  have q3 : ¬ (9223372036854775807 < (LA.length : Int) + ((LB.length : Int) + 1) + 1) := by omega
  have q4 : ¬ (9223372036854775807 < (LA.length : Int) + ((LB.length : Int) + 1 + 1) + (LC.length : Int)) := by omega
  have q5 : ¬ (9223372036854775807 < (LA.length : Int) + ((LB.length : Int) + ((LC.length : Int) + 1) + 1) + 1) := by omega
  have q6 : ¬ (9223372036854775807 < (LA.length : Int) + ((LB.length : Int) + ((LC.length : Int) + 1 + 1) + 1) + (LD.length : Int)) := by omega
  simp [y_fn, y_seq, bindN_n, bindN_ret, bindN_exit, y_ops, mapN_some, y_skip, y_ret, y_exit, y_block, blockR_n, blockR_ret, blockR_exit, y_cond, condR_t, condR_f, condR_b, y_opsCons, bindO_some, y_opsNil, y_op0, evOp0, putR_some, callR_some, y_opG, guardR_b, guardR_u, y_drawn, mapD_some, y_drawnNil, y_drawnCons, drR_some, chkL_nil, chkL_cons, y_dop0, evDOp0, recR_some, dcallR_nil, dres_same, y_dopG, guardD_b, guardD_u, resR_ret, resR_n, y_pure, viewR_some, spR_nil, spR0_true, spR1_nil, put_eq, put_ne, put_none, upd_at, upd_off, app_nil, app_cons, shownIds, ids_undef, ids_bool, ids_int, ids_str, ids_agg, ids_tup, ids_nilptr, ids_ptr, ids_vptr, ids_sl, ids_vsl, ids_nilfunc, ids_func, ids_nilmap, ids_map, ids_niliface, ids_iface, idsL_nil, idsL_cons, view_64, runOp, AOpd.ev, argF, noA, AV.cellsOf, AV.isCell, cellsAt, fieldAddrOf, fieldOf, partOf, binOf, ib_add, ib_sub, ib_mul, ib_quo, ib_rem, ib_and, ib_or, ib_xor, ib_andNot, ib_eql, ib_neq, ib_lss, ib_leq, ib_gtr, ib_geq, un_neg, un_xor, un_not, intShift, strBin, aeq, eqCells, eqLeaf, eqRes, clash, AOp.silent, AOp.opds, optL, idsTop, addK, noK, viewL, viewAV, resRV, tupOf, fillParts, splice, foldMinMax, indexOf, indexAddrOf, lenIs, Fw.lenOf, convOf, bound, sliceOf, srcOf, bytesSrc, elemsOf, appendOf, capFits, growCap, nro, blkIds, flat, flatL, flatB, strOf, chunks, w1, w2, w3, w4, i64max, appB, sizeB, ByteArray.toList_eq, fi18, wa, wb, wc, wd, la, lb, lc, ld, q1, q2, q3, q4, q5, q6]

def spTextR : Sp
  | [.agg [.int .u8 a, .int .u8 b, .int .u8 c, .int .u8 d]] => if bytes4 a b c d = true then some (.str ⟨(textL a b c d).toArray⟩, []) else none
  | _ => none
def K18 : CallK := addK (addK K17 18 (pureK spTextR)) 30 (pureK spRightR)
theorem k18_18 (vs : List AV) (h : AHeap) (n : Nat) : K18 18 vs h n = pureK spTextR vs h n := rfl
theorem k18_30 (vs : List AV) (h : AHeap) (n : Nat) : K18 30 vs h n = pureK spRightR vs h n := rfl
theorem k18_29 (vs : List AV) (h : AHeap) (n : Nat) : K18 29 vs h n = pureK (spDig 1000) vs h n := rfl

set_option maxHeartbeats 2000000 in
theorem netTextR_run (a b c d n : Int) (hB : bytes4 a b c d = true) :
    ∃ h' n', runFn K18 1000 fi20 [.agg [.int .u8 a, .int .u8 b, .int .u8 c, .int .u8 d, .int .i64 n]] noA 0 = some (.str ⟨(netTextL a b c d n).toArray⟩, h', n') := by
  have l1 : ∀ h m, K18 30 [.agg [.int .u8 a, .int .u8 b, .int .u8 c, .int .u8 d, .int .i64 n]] h m = some (.bool (rightZ a b c d n), h, m) := fun h m => by
    rw [k18_30]
    refine pure_call h m ?_ rfl rfl
    unfold spRightR
    simp only [hB, if_true]
  have l2 : ∀ h m, K18 18 [.agg [.int .u8 a, .int .u8 b, .int .u8 c, .int .u8 d]] h m = some (.str ⟨(textL a b c d).toArray⟩, h, m) := fun h m => by
    rw [k18_18]
    refine pure_call h m ?_ rfl rfl
    unfold spTextR
    simp only [hB, if_true]
  unfold netTextL
  cases hA : rightZ a b c d n
  · rw [hA] at l1
    simp [y_fn, y_seq, bindN_n, bindN_ret, bindN_exit, y_ops, mapN_some, y_skip, y_ret, y_exit, y_block, blockR_n, blockR_ret, blockR_exit, y_cond, condR_t, condR_f, condR_b, y_opsCons, bindO_some, y_opsNil, y_op0, evOp0, putR_some, callR_some, y_opG, guardR_b, guardR_u, y_drawn, mapD_some, y_drawnNil, y_drawnCons, drR_some, chkL_nil, chkL_cons, y_dop0, evDOp0, recR_some, dcallR_nil, dres_same, y_dopG, guardD_b, guardD_u, resR_ret, resR_n, y_pure, viewR_some, spR_nil, spR0_true, spR1_nil, put_eq, put_ne, put_none, upd_at, upd_off, app_nil, app_cons, shownIds, ids_undef, ids_bool, ids_int, ids_str, ids_agg, ids_tup, ids_nilptr, ids_ptr, ids_vptr, ids_sl, ids_vsl, ids_nilfunc, ids_func, ids_nilmap, ids_map, ids_niliface, ids_iface, idsL_nil, idsL_cons, view_64, runOp, AOpd.ev, argF, noA, AV.cellsOf, AV.isCell, cellsAt, fieldAddrOf, fieldOf, partOf, binOf, ib_add, ib_sub, ib_mul, ib_quo, ib_rem, ib_and, ib_or, ib_xor, ib_andNot, ib_eql, ib_neq, ib_lss, ib_leq, ib_gtr, ib_geq, un_neg, un_xor, un_not, intShift, strBin, aeq, eqCells, eqLeaf, eqRes, clash, AOp.silent, AOp.opds, optL, idsTop, addK, noK, viewL, viewAV, resRV, tupOf, fillParts, splice, foldMinMax, indexOf, indexAddrOf, lenIs, Fw.lenOf, convOf, bound, sliceOf, srcOf, bytesSrc, elemsOf, appendOf, capFits, growCap, nro, blkIds, flat, flatL, flatB, strOf, chunks, w1, w2, w3, w4, i64max, appB, sizeB, ByteArray.toList_eq, fi20, l1]
  · have hn : 0 ≤ n ∧ n ≤ 32 := by
      simp only [rightZ, Bool.and_eq_true, decide_eq_true_eq] at hA
      exact hA.1
    rw [hA] at l1
    have l3 : ∀ h m, K18 29 [.int .i64 n] h m = some (.str ⟨(Lib.itoa n).toArray⟩, h, m) := fun h m => by
      rw [k18_29]; exact dig_call hn.1 (by omega) h m
    obtain ⟨p, q, r, s, rfl, rfl, rfl, rfl, hp, hq, hr, hs⟩ := bytes4_nat hB
    have e1 := text_len (a := p) (b := q) (c := r) (d := s) (by omega) (by omega) (by omega) (by omega)
    have e2 := itoa_len3' hn.1 (show n < 1000 by omega)
    simp only [if_true]
    generalize textL (p : Int) q r s = LA at *
    generalize Lib.itoa n = LB at *
    have q1 : ¬ (9223372036854775807 < (LA.length : Int) + 1) := by omega
    have q2 : ¬ (9223372036854775807 < (LA.length : Int) + 1 + (LB.length : Int)) := by omega
    simp [y_fn, y_seq, bindN_n, bindN_ret, bindN_exit, y_ops, mapN_some, y_skip, y_ret, y_exit, y_block, blockR_n, blockR_ret, blockR_exit, y_cond, condR_t, condR_f, condR_b, y_opsCons, bindO_some, y_opsNil, y_op0, evOp0, putR_some, callR_some, y_opG, guardR_b, guardR_u, y_drawn, mapD_some, y_drawnNil, y_drawnCons, drR_some, chkL_nil, chkL_cons, y_dop0, evDOp0, recR_some, dcallR_nil, dres_same, y_dopG, guardD_b, guardD_u, resR_ret, resR_n, y_pure, viewR_some, spR_nil, spR0_true, spR1_nil, put_eq, put_ne, put_none, upd_at, upd_off, app_nil, app_cons, shownIds, ids_undef, ids_bool, ids_int, ids_str, ids_agg, ids_tup, ids_nilptr, ids_ptr, ids_vptr, ids_sl, ids_vsl, ids_nilfunc, ids_func, ids_nilmap, ids_map, ids_niliface, ids_iface, idsL_nil, idsL_cons, view_64, runOp, AOpd.ev, argF, noA, AV.cellsOf, AV.isCell, cellsAt, fieldAddrOf, fieldOf, partOf, binOf, ib_add, ib_sub, ib_mul, ib_quo, ib_rem, ib_and, ib_or, ib_xor, ib_andNot, ib_eql, ib_neq, ib_lss, ib_leq, ib_gtr, ib_geq, un_neg, un_xor, un_not, intShift, strBin, aeq, eqCells, eqLeaf, eqRes, clash, AOp.silent, AOp.opds, optL, idsTop, addK, noK, viewL, viewAV, resRV, tupOf, fillParts, splice, foldMinMax, indexOf, indexAddrOf, lenIs, Fw.lenOf, convOf, bound, sliceOf, srcOf, bytesSrc, elemsOf, appendOf, capFits, growCap, nro, blkIds, flat, flatL, flatB, strOf, chunks, w1, w2, w3, w4, i64max, appB, sizeB, ByteArray.toList_eq, fi20, l1, l2, l3, q1, q2]
def spNetTextR : Sp
  | [.agg [.int .u8 a, .int .u8 b, .int .u8 c, .int .u8 d, .int .i64 n]] => if bytes4 a b c d = true then some (.str ⟨(netTextL a b c d n).toArray⟩, []) else none
  | _ => none
def K19 : CallK := addK K18 20 (pureK spNetTextR)
end Go.Fw.Sy.Ad
