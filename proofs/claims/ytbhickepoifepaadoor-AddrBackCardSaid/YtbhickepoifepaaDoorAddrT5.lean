/- The law AddrCuts, run. -/
import Derived.Test.YtbhickepoifepaaDoorAddrT4
set_option maxRecDepth 20000
set_option linter.unusedSimpArgs false
set_option linter.unusedVariables false
namespace Go.Fw.Sy.Ad
theorem k12_7 (vs : List AV) (h : AHeap) (n : Nat) : K12 7 vs h n = pureK spAlive vs h n := rfl
theorem k12_8 (vs : List AV) (h : AHeap) (n : Nat) : K12 8 vs h n = pureK spCut vs h n := rfl
theorem k12_9 (vs : List AV) (h : AHeap) (n : Nat) : K12 9 vs h n = pureK spWithin vs h n := rfl
theorem k12_10 (vs : List AV) (h : AHeap) (n : Nat) : K12 10 vs h n = pureK spIn vs h n := rfl
theorem k12_11 (vs : List AV) (h : AHeap) (n : Nat) : K12 11 vs h n = pureK spOf vs h n := rfl
theorem k12_12 (vs : List AV) (h : AHeap) (n : Nat) : K12 12 vs h n = pureK spNum vs h n := rfl
def e0 (a b c d n : Int) : Int := IntKind.u8.wrap ((cutN a b c d n).fdiv 16777216)
def e1 (a b c d n : Int) : Int := IntKind.u8.wrap ((cutN a b c d n).fdiv 65536)
def e2 (a b c d n : Int) : Int := IntKind.u8.wrap ((cutN a b c d n).fdiv 256)
def e3 (a b c d n : Int) : Int := IntKind.u8.wrap (cutN a b c d n)
theorem cutZ_eq (a b c d n : Int) : cutZ a b c d n = [.int .u8 (e0 a b c d n), .int .u8 (e1 a b c d n), .int .u8 (e2 a b c d n), .int .u8 (e3 a b c d n), .int .i64 (clampZ n)] := rfl
def t0 (n : Int) : Int := IntKind.u8.wrap (n.fdiv 16777216)
def t1 (n : Int) : Int := IntKind.u8.wrap (n.fdiv 65536)
def t2 (n : Int) : Int := IntKind.u8.wrap (n.fdiv 256)
def t3 (n : Int) : Int := IntKind.u8.wrap n
theorem ofZ_eq (n : Int) : ofZ n = [.int .u8 (t0 n), .int .u8 (t1 n), .int .u8 (t2 n), .int .u8 (t3 n)] := rfl
def turnN (a b c d x : Int) : Int := xorZ .u32 (numZ a b c d) (IntKind.u32.wrap (2 ^ (min (32 - x).toNat 32)))

set_option maxHeartbeats 4000000 in
theorem cuts_run (a b c d x y : Int)
    (h1 : 0 ≤ x → x ≤ y → y ≤ 32 → (e0 (e0 a b c d y) (e1 a b c d y) (e2 a b c d y) (e3 a b c d y) x = e0 a b c d x ∧ e1 (e0 a b c d y) (e1 a b c d y) (e2 a b c d y) (e3 a b c d y) x = e1 a b c d x ∧ e2 (e0 a b c d y) (e1 a b c d y) (e2 a b c d y) (e3 a b c d y) x = e2 a b c d x ∧ e3 (e0 a b c d y) (e1 a b c d y) (e2 a b c d y) (e3 a b c d y) x = e3 a b c d x))
    (h2 : 0 ≤ x → x ≤ y → y ≤ 32 → withinZ (e0 a b c d y) (e1 a b c d y) (e2 a b c d y) (e3 a b c d y) (clampZ y) (e0 a b c d x) (e1 a b c d x) (e2 a b c d x) (e3 a b c d x) (clampZ x) = true)
    (h3 : 0 ≤ x → x ≤ y → y ≤ 32 → inZ a b c d (e0 a b c d x) (e1 a b c d x) (e2 a b c d x) (e3 a b c d x) (clampZ x) = true)
    (h4 : 0 ≤ x → x ≤ y → y ≤ 32 → inZ a b c d (e0 a b c d y) (e1 a b c d y) (e2 a b c d y) (e3 a b c d y) (clampZ y) = true)
    (h5 : e0 a b c d 0 = 0 ∧ e1 a b c d 0 = 0 ∧ e2 a b c d 0 = 0 ∧ e3 a b c d 0 = 0)
    (h6 : 0 < x → x ≤ 32 → inZ (t0 (turnN a b c d x)) (t1 (turnN a b c d x)) (t2 (turnN a b c d x)) (t3 (turnN a b c d x)) (e0 a b c d x) (e1 a b c d x) (e2 a b c d x) (e3 a b c d x) (clampZ x) = false) :
    ∃ h' n', runFn K12 1000 fi3 [.agg [.int .u8 a, .int .u8 b, .int .u8 c, .int .u8 d], .agg [.int .i64 x, .int .i64 y]] noA 0 = some (.bool true, h', n') := by
  have c0 : clampZ 0 = 0 := rfl
  by_cases hx : x < 0
  · simp [y_fn, y_seq, bindN_n, bindN_ret, bindN_exit, y_ops, mapN_some, y_skip, y_ret, y_exit, y_block, blockR_n, blockR_ret, blockR_exit, y_cond, condR_t, condR_f, condR_b, y_opsCons, bindO_some, y_opsNil, y_op0, evOp0, putR_some, callR_some, y_opG, guardR_b, guardR_u, y_drawn, mapD_some, y_drawnNil, y_drawnCons, drR_some, chkL_nil, chkL_cons, y_dop0, evDOp0, recR_some, dcallR_nil, dres_same, y_dopG, guardD_b, guardD_u, resR_ret, resR_n, y_pure, viewR_some, spR_nil, spR0_true, spR1_nil, put_eq, put_ne, put_none, upd_at, upd_off, app_nil, app_cons, shownIds, ids_undef, ids_bool, ids_int, ids_str, ids_agg, ids_tup, ids_nilptr, ids_ptr, ids_vptr, ids_sl, ids_vsl, ids_nilfunc, ids_func, ids_nilmap, ids_map, ids_niliface, ids_iface, idsL_nil, idsL_cons, view_64, runOp, AOpd.ev, argF, noA, AV.cellsOf, AV.isCell, cellsAt, fieldAddrOf, fieldOf, partOf, binOf, ib_add, ib_sub, ib_mul, ib_quo, ib_rem, ib_and, ib_or, ib_xor, ib_andNot, ib_eql, ib_neq, ib_lss, ib_leq, ib_gtr, ib_geq, un_neg, un_xor, un_not, intShift, strBin, aeq, eqCells, eqLeaf, eqRes, clash, AOp.silent, AOp.opds, optL, idsTop, addK, noK, viewL, viewAV, resRV, tupOf, fillParts, splice, foldMinMax, indexOf, indexAddrOf, lenIs, Fw.lenOf, convOf, bound, sliceOf, srcOf, bytesSrc, elemsOf, appendOf, capFits, growCap, nro, blkIds, flat, flatL, flatB, strOf, chunks, w1, w2, w3, w4, i64max, appB, sizeB, ByteArray.toList_eq, fi3, k12_7, spAlive, hx]
  · by_cases hy : y < x
    · simp [y_fn, y_seq, bindN_n, bindN_ret, bindN_exit, y_ops, mapN_some, y_skip, y_ret, y_exit, y_block, blockR_n, blockR_ret, blockR_exit, y_cond, condR_t, condR_f, condR_b, y_opsCons, bindO_some, y_opsNil, y_op0, evOp0, putR_some, callR_some, y_opG, guardR_b, guardR_u, y_drawn, mapD_some, y_drawnNil, y_drawnCons, drR_some, chkL_nil, chkL_cons, y_dop0, evDOp0, recR_some, dcallR_nil, dres_same, y_dopG, guardD_b, guardD_u, resR_ret, resR_n, y_pure, viewR_some, spR_nil, spR0_true, spR1_nil, put_eq, put_ne, put_none, upd_at, upd_off, app_nil, app_cons, shownIds, ids_undef, ids_bool, ids_int, ids_str, ids_agg, ids_tup, ids_nilptr, ids_ptr, ids_vptr, ids_sl, ids_vsl, ids_nilfunc, ids_func, ids_nilmap, ids_map, ids_niliface, ids_iface, idsL_nil, idsL_cons, view_64, runOp, AOpd.ev, argF, noA, AV.cellsOf, AV.isCell, cellsAt, fieldAddrOf, fieldOf, partOf, binOf, ib_add, ib_sub, ib_mul, ib_quo, ib_rem, ib_and, ib_or, ib_xor, ib_andNot, ib_eql, ib_neq, ib_lss, ib_leq, ib_gtr, ib_geq, un_neg, un_xor, un_not, intShift, strBin, aeq, eqCells, eqLeaf, eqRes, clash, AOp.silent, AOp.opds, optL, idsTop, addK, noK, viewL, viewAV, resRV, tupOf, fillParts, splice, foldMinMax, indexOf, indexAddrOf, lenIs, Fw.lenOf, convOf, bound, sliceOf, srcOf, bytesSrc, elemsOf, appendOf, capFits, growCap, nro, blkIds, flat, flatL, flatB, strOf, chunks, w1, w2, w3, w4, i64max, appB, sizeB, ByteArray.toList_eq, fi3, k12_7, spAlive, hx, hy]
    · by_cases hz : 32 < y
      · simp [y_fn, y_seq, bindN_n, bindN_ret, bindN_exit, y_ops, mapN_some, y_skip, y_ret, y_exit, y_block, blockR_n, blockR_ret, blockR_exit, y_cond, condR_t, condR_f, condR_b, y_opsCons, bindO_some, y_opsNil, y_op0, evOp0, putR_some, callR_some, y_opG, guardR_b, guardR_u, y_drawn, mapD_some, y_drawnNil, y_drawnCons, drR_some, chkL_nil, chkL_cons, y_dop0, evDOp0, recR_some, dcallR_nil, dres_same, y_dopG, guardD_b, guardD_u, resR_ret, resR_n, y_pure, viewR_some, spR_nil, spR0_true, spR1_nil, put_eq, put_ne, put_none, upd_at, upd_off, app_nil, app_cons, shownIds, ids_undef, ids_bool, ids_int, ids_str, ids_agg, ids_tup, ids_nilptr, ids_ptr, ids_vptr, ids_sl, ids_vsl, ids_nilfunc, ids_func, ids_nilmap, ids_map, ids_niliface, ids_iface, idsL_nil, idsL_cons, view_64, runOp, AOpd.ev, argF, noA, AV.cellsOf, AV.isCell, cellsAt, fieldAddrOf, fieldOf, partOf, binOf, ib_add, ib_sub, ib_mul, ib_quo, ib_rem, ib_and, ib_or, ib_xor, ib_andNot, ib_eql, ib_neq, ib_lss, ib_leq, ib_gtr, ib_geq, un_neg, un_xor, un_not, intShift, strBin, aeq, eqCells, eqLeaf, eqRes, clash, AOp.silent, AOp.opds, optL, idsTop, addK, noK, viewL, viewAV, resRV, tupOf, fillParts, splice, foldMinMax, indexOf, indexAddrOf, lenIs, Fw.lenOf, convOf, bound, sliceOf, srcOf, bytesSrc, elemsOf, appendOf, capFits, growCap, nro, blkIds, flat, flatL, flatB, strOf, chunks, w1, w2, w3, w4, i64max, appB, sizeB, ByteArray.toList_eq, fi3, k12_7, spAlive, hx, hy, hz]
      · have q0 : 0 ≤ x := by omega
        have q1 : x ≤ y := by omega
        have q2 : y ≤ 32 := by omega
        obtain ⟨k0, k1, k2, k3⟩ := h1 q0 q1 q2
        have kw := h2 q0 q1 q2
        have ki := h3 q0 q1 q2
        have kj := h4 q0 q1 q2
        by_cases hx0 : x = 0
        · subst hx0
          obtain ⟨z0, z1, z2, z3⟩ := h5
          rw [z0] at k0 kw ki
          rw [z1] at k1 kw ki
          rw [z2] at k2 kw ki
          rw [z3] at k3 kw ki
          rw [c0] at kw ki
          simp [y_fn, y_seq, bindN_n, bindN_ret, bindN_exit, y_ops, mapN_some, y_skip, y_ret, y_exit, y_block, blockR_n, blockR_ret, blockR_exit, y_cond, condR_t, condR_f, condR_b, y_opsCons, bindO_some, y_opsNil, y_op0, evOp0, putR_some, callR_some, y_opG, guardR_b, guardR_u, y_drawn, mapD_some, y_drawnNil, y_drawnCons, drR_some, chkL_nil, chkL_cons, y_dop0, evDOp0, recR_some, dcallR_nil, dres_same, y_dopG, guardD_b, guardD_u, resR_ret, resR_n, y_pure, viewR_some, spR_nil, spR0_true, spR1_nil, put_eq, put_ne, put_none, upd_at, upd_off, app_nil, app_cons, shownIds, ids_undef, ids_bool, ids_int, ids_str, ids_agg, ids_tup, ids_nilptr, ids_ptr, ids_vptr, ids_sl, ids_vsl, ids_nilfunc, ids_func, ids_nilmap, ids_map, ids_niliface, ids_iface, idsL_nil, idsL_cons, view_64, runOp, AOpd.ev, argF, noA, AV.cellsOf, AV.isCell, cellsAt, fieldAddrOf, fieldOf, partOf, binOf, ib_add, ib_sub, ib_mul, ib_quo, ib_rem, ib_and, ib_or, ib_xor, ib_andNot, ib_eql, ib_neq, ib_lss, ib_leq, ib_gtr, ib_geq, un_neg, un_xor, un_not, intShift, strBin, aeq, eqCells, eqLeaf, eqRes, clash, AOp.silent, AOp.opds, optL, idsTop, addK, noK, viewL, viewAV, resRV, tupOf, fillParts, splice, foldMinMax, indexOf, indexAddrOf, lenIs, Fw.lenOf, convOf, bound, sliceOf, srcOf, bytesSrc, elemsOf, appendOf, capFits, growCap, nro, blkIds, flat, flatL, flatB, strOf, chunks, w1, w2, w3, w4, i64max, appB, sizeB, ByteArray.toList_eq, fi3, k12_7, k12_8, k12_9, k12_10, spAlive, spCut, spWithin, spIn, cutZ_eq, hy, hz, k0, k1, k2, k3, kw, ki, kj, z0, z1, z2, z3, c0]
        · have q3 : 0 < x := by omega
          have k6 := h6 q3 (by omega)
          unfold turnN at k6
          have s1 : IntKind.i64.wrap (32 - x) = 32 - x := i64_wrap (by omega) (by omega)
          have s2 : ¬ (32 - x < 0) := by omega
          simp [y_fn, y_seq, bindN_n, bindN_ret, bindN_exit, y_ops, mapN_some, y_skip, y_ret, y_exit, y_block, blockR_n, blockR_ret, blockR_exit, y_cond, condR_t, condR_f, condR_b, y_opsCons, bindO_some, y_opsNil, y_op0, evOp0, putR_some, callR_some, y_opG, guardR_b, guardR_u, y_drawn, mapD_some, y_drawnNil, y_drawnCons, drR_some, chkL_nil, chkL_cons, y_dop0, evDOp0, recR_some, dcallR_nil, dres_same, y_dopG, guardD_b, guardD_u, resR_ret, resR_n, y_pure, viewR_some, spR_nil, spR0_true, spR1_nil, put_eq, put_ne, put_none, upd_at, upd_off, app_nil, app_cons, shownIds, ids_undef, ids_bool, ids_int, ids_str, ids_agg, ids_tup, ids_nilptr, ids_ptr, ids_vptr, ids_sl, ids_vsl, ids_nilfunc, ids_func, ids_nilmap, ids_map, ids_niliface, ids_iface, idsL_nil, idsL_cons, view_64, runOp, AOpd.ev, argF, noA, AV.cellsOf, AV.isCell, cellsAt, fieldAddrOf, fieldOf, partOf, binOf, ib_add, ib_sub, ib_mul, ib_quo, ib_rem, ib_and, ib_or, ib_xor, ib_andNot, ib_eql, ib_neq, ib_lss, ib_leq, ib_gtr, ib_geq, un_neg, un_xor, un_not, intShift, strBin, aeq, eqCells, eqLeaf, eqRes, clash, AOp.silent, AOp.opds, optL, idsTop, addK, noK, viewL, viewAV, resRV, tupOf, fillParts, splice, foldMinMax, indexOf, indexAddrOf, lenIs, Fw.lenOf, convOf, bound, sliceOf, srcOf, bytesSrc, elemsOf, appendOf, capFits, growCap, nro, blkIds, flat, flatL, flatB, strOf, chunks, w1, w2, w3, w4, i64max, appB, sizeB, ByteArray.toList_eq, fi3, k12_7, k12_8, k12_9, k12_10, k12_11, k12_12, spAlive, spCut, spWithin, spIn, spOf, spNum, cutZ_eq, ofZ_eq, hx, hy, hz, hx0, k0, k1, k2, k3, kw, ki, kj, k6, s1, s2, IntKind.bits]
end Go.Fw.Sy.Ad
