/- The Go functions of addr on texts, run. -/
import Derived.Test.YtbhickepoifepaaDoorAddrT1
import Derived.Lib.ItoaLen
set_option maxRecDepth 20000
set_option linter.unusedSimpArgs false
set_option linter.unusedVariables false
namespace Go.Fw.Sy.Ad

def textL (a b c d : Int) : List UInt8 := Lib.join [Lib.itoa a, Lib.itoa b, Lib.itoa c, Lib.itoa d] [46]
theorem itoa_len {a : Int} (h : 0 ≤ a ∧ a < 256) : (Lib.itoa a).length ≤ 21 := Lib.itoa_length_le a (by omega) (by omega)
theorem text_len {a b c d : Int} (ha : 0 ≤ a ∧ a < 256) (hb : 0 ≤ b ∧ b < 256) (hc : 0 ≤ c ∧ c < 256) (hd : 0 ≤ d ∧ d < 256) : (textL a b c d).length ≤ 100 := by
  have := itoa_len ha; have := itoa_len hb; have := itoa_len hc; have := itoa_len hd
  simp [textL, Lib.join, List.intercalate]; omega

set_option maxHeartbeats 2000000 in
theorem text_run (a b c d : Int) (ha : 0 ≤ a ∧ a < 256) (hb : 0 ≤ b ∧ b < 256) (hc : 0 ≤ c ∧ c < 256) (hd : 0 ≤ d ∧ d < 256) :
    ∃ h' n', runFn KL 1000 fi17 [.agg [.int .u8 a, .int .u8 b, .int .u8 c, .int .u8 d]] noA 0 = some (.str ⟨(textL a b c d).toArray⟩, h', n') := by
  have wa : IntKind.i64.wrap a = a := i64_wrap (by omega) (by omega)
  have wb : IntKind.i64.wrap b = b := i64_wrap (by omega) (by omega)
  have wc : IntKind.i64.wrap c = c := i64_wrap (by omega) (by omega)
  have wd : IntKind.i64.wrap d = d := i64_wrap (by omega) (by omega)
  have ra : -9223372036854775808 ≤ a ∧ a ≤ 9223372036854775807 := by omega
  have rb : -9223372036854775808 ≤ b ∧ b ≤ 9223372036854775807 := by omega
  have rc : -9223372036854775808 ≤ c ∧ c ≤ 9223372036854775807 := by omega
  have rd : -9223372036854775808 ≤ d ∧ d ≤ 9223372036854775807 := by omega
  have hl : (Lib.join [Lib.itoa a, Lib.itoa b, Lib.itoa c, Lib.itoa d] [46]).length ≤ 140737488355328 := Nat.le_trans (text_len ha hb hc hd) (by decide)
  simp [y_fn, y_seq, bindN_n, bindN_ret, bindN_exit, y_ops, mapN_some, y_skip, y_ret, y_exit, y_block, blockR_n, blockR_ret, blockR_exit, y_cond, condR_t, condR_f, condR_b, y_opsCons, bindO_some, y_opsNil, y_op0, evOp0, putR_some, callR_some, y_opG, guardR_b, guardR_u, y_drawn, mapD_some, y_drawnNil, y_drawnCons, drR_some, chkL_nil, chkL_cons, y_dop0, evDOp0, recR_some, dcallR_nil, dres_same, y_dopG, guardD_b, guardD_u, resR_ret, resR_n, y_pure, viewR_some, spR_nil, spR0_true, spR1_nil, put_eq, put_ne, put_none, upd_at, upd_off, app_nil, app_cons, shownIds, ids_undef, ids_bool, ids_int, ids_str, ids_agg, ids_tup, ids_nilptr, ids_ptr, ids_vptr, ids_sl, ids_vsl, ids_nilfunc, ids_func, ids_nilmap, ids_map, ids_niliface, ids_iface, idsL_nil, idsL_cons, view_64, runOp, AOpd.ev, argF, noA, AV.cellsOf, AV.isCell, cellsAt, fieldAddrOf, fieldOf, partOf, binOf, ib_add, ib_sub, ib_mul, ib_quo, ib_rem, ib_and, ib_or, ib_xor, ib_andNot, ib_eql, ib_neq, ib_lss, ib_leq, ib_gtr, ib_geq, un_neg, un_xor, un_not, intShift, strBin, aeq, eqCells, eqLeaf, eqRes, clash, AOp.silent, AOp.opds, optL, idsTop, addK, noK, viewL, viewAV, resRV, tupOf, fillParts, splice, foldMinMax, indexOf, indexAddrOf, lenIs, Fw.lenOf, convOf, bound, sliceOf, srcOf, bytesSrc, elemsOf, appendOf, capFits, growCap, nro, blkIds, flat, flatL, flatB, strOf, chunks, w1, w2, w3, w4, i64max, appB, sizeB, ByteArray.toList_eq, y_loop, y_loopE, fi17, KL, spItoa, spJoin, wa, wb, wc, wd, ra, rb, rc, rd, hl, textL]

theorem mask2_run (n : Int) : ∃ h' n', runFn K1 1000 fi22 [.int .i64 n] noA 0 = some (.agg (ofZ (maskZ n)), h', n') := ⟨_, _, rfl⟩

def numV (l : List UInt8) : Int := match Lib.atoiAll l with
  | .ok v => v
  | .range => Lib.atoiSat l
  | _ => 0
def numOk (l : List UInt8) (high : Int) : Bool := match Lib.atoiAll l with
  | .ok v => decide (0 ≤ v) && (decide (v ≤ high) && (Lib.itoa v == l))
  | _ => false
def spNumber : Sp
  | [.str s, .int .i64 high] => if s.size ≤ 281474976710656 ∧ 0 ≤ high ∧ high ≤ 1000 then some (.tup [.int .i64 (numV s.data.toList), .bool (numOk s.data.toList high)], []) else none
  | _ => none

theorem number_run (l : List UInt8) (high : Int) (hs : l.length ≤ 281474976710656) (h0 : 0 ≤ high) (h1 : high ≤ 1000) :
    ∃ h' n', runFn KL 1000 fi25 [.str ⟨l.toArray⟩, .int .i64 high] noA 0 = some (.tup [.int .i64 (numV l), .bool (numOk l high)], h', n') := by
  unfold numV numOk
  cases hv : Lib.atoiAll l with
  | range => simp [y_fn, y_seq, bindN_n, bindN_ret, bindN_exit, y_ops, mapN_some, y_skip, y_ret, y_exit, y_block, blockR_n, blockR_ret, blockR_exit, y_cond, condR_t, condR_f, condR_b, y_opsCons, bindO_some, y_opsNil, y_op0, evOp0, putR_some, callR_some, y_opG, guardR_b, guardR_u, y_drawn, mapD_some, y_drawnNil, y_drawnCons, drR_some, chkL_nil, chkL_cons, y_dop0, evDOp0, recR_some, dcallR_nil, dres_same, y_dopG, guardD_b, guardD_u, resR_ret, resR_n, y_pure, viewR_some, spR_nil, spR0_true, spR1_nil, put_eq, put_ne, put_none, upd_at, upd_off, app_nil, app_cons, shownIds, ids_undef, ids_bool, ids_int, ids_str, ids_agg, ids_tup, ids_nilptr, ids_ptr, ids_vptr, ids_sl, ids_vsl, ids_nilfunc, ids_func, ids_nilmap, ids_map, ids_niliface, ids_iface, idsL_nil, idsL_cons, view_64, runOp, AOpd.ev, argF, noA, AV.cellsOf, AV.isCell, cellsAt, fieldAddrOf, fieldOf, partOf, binOf, ib_add, ib_sub, ib_mul, ib_quo, ib_rem, ib_and, ib_or, ib_xor, ib_andNot, ib_eql, ib_neq, ib_lss, ib_leq, ib_gtr, ib_geq, un_neg, un_xor, un_not, intShift, strBin, aeq, eqCells, eqLeaf, eqRes, clash, AOp.silent, AOp.opds, optL, idsTop, addK, noK, viewL, viewAV, resRV, tupOf, fillParts, splice, foldMinMax, indexOf, indexAddrOf, lenIs, Fw.lenOf, convOf, bound, sliceOf, srcOf, bytesSrc, elemsOf, appendOf, capFits, growCap, nro, blkIds, flat, flatL, flatB, strOf, chunks, w1, w2, w3, w4, i64max, appB, sizeB, ByteArray.toList_eq, fi25, KL, spAtoi, spItoa, hv, hs]
  | ok v =>
    cases hA : decide (0 ≤ v)
    · simp [y_fn, y_seq, bindN_n, bindN_ret, bindN_exit, y_ops, mapN_some, y_skip, y_ret, y_exit, y_block, blockR_n, blockR_ret, blockR_exit, y_cond, condR_t, condR_f, condR_b, y_opsCons, bindO_some, y_opsNil, y_op0, evOp0, putR_some, callR_some, y_opG, guardR_b, guardR_u, y_drawn, mapD_some, y_drawnNil, y_drawnCons, drR_some, chkL_nil, chkL_cons, y_dop0, evDOp0, recR_some, dcallR_nil, dres_same, y_dopG, guardD_b, guardD_u, resR_ret, resR_n, y_pure, viewR_some, spR_nil, spR0_true, spR1_nil, put_eq, put_ne, put_none, upd_at, upd_off, app_nil, app_cons, shownIds, ids_undef, ids_bool, ids_int, ids_str, ids_agg, ids_tup, ids_nilptr, ids_ptr, ids_vptr, ids_sl, ids_vsl, ids_nilfunc, ids_func, ids_nilmap, ids_map, ids_niliface, ids_iface, idsL_nil, idsL_cons, view_64, runOp, AOpd.ev, argF, noA, AV.cellsOf, AV.isCell, cellsAt, fieldAddrOf, fieldOf, partOf, binOf, ib_add, ib_sub, ib_mul, ib_quo, ib_rem, ib_and, ib_or, ib_xor, ib_andNot, ib_eql, ib_neq, ib_lss, ib_leq, ib_gtr, ib_geq, un_neg, un_xor, un_not, intShift, strBin, aeq, eqCells, eqLeaf, eqRes, clash, AOp.silent, AOp.opds, optL, idsTop, addK, noK, viewL, viewAV, resRV, tupOf, fillParts, splice, foldMinMax, indexOf, indexAddrOf, lenIs, Fw.lenOf, convOf, bound, sliceOf, srcOf, bytesSrc, elemsOf, appendOf, capFits, growCap, nro, blkIds, flat, flatL, flatB, strOf, chunks, w1, w2, w3, w4, i64max, appB, sizeB, ByteArray.toList_eq, fi25, KL, spAtoi, spItoa, hv, hs, hA]
    · cases hB : decide (v ≤ high)
      · simp [y_fn, y_seq, bindN_n, bindN_ret, bindN_exit, y_ops, mapN_some, y_skip, y_ret, y_exit, y_block, blockR_n, blockR_ret, blockR_exit, y_cond, condR_t, condR_f, condR_b, y_opsCons, bindO_some, y_opsNil, y_op0, evOp0, putR_some, callR_some, y_opG, guardR_b, guardR_u, y_drawn, mapD_some, y_drawnNil, y_drawnCons, drR_some, chkL_nil, chkL_cons, y_dop0, evDOp0, recR_some, dcallR_nil, dres_same, y_dopG, guardD_b, guardD_u, resR_ret, resR_n, y_pure, viewR_some, spR_nil, spR0_true, spR1_nil, put_eq, put_ne, put_none, upd_at, upd_off, app_nil, app_cons, shownIds, ids_undef, ids_bool, ids_int, ids_str, ids_agg, ids_tup, ids_nilptr, ids_ptr, ids_vptr, ids_sl, ids_vsl, ids_nilfunc, ids_func, ids_nilmap, ids_map, ids_niliface, ids_iface, idsL_nil, idsL_cons, view_64, runOp, AOpd.ev, argF, noA, AV.cellsOf, AV.isCell, cellsAt, fieldAddrOf, fieldOf, partOf, binOf, ib_add, ib_sub, ib_mul, ib_quo, ib_rem, ib_and, ib_or, ib_xor, ib_andNot, ib_eql, ib_neq, ib_lss, ib_leq, ib_gtr, ib_geq, un_neg, un_xor, un_not, intShift, strBin, aeq, eqCells, eqLeaf, eqRes, clash, AOp.silent, AOp.opds, optL, idsTop, addK, noK, viewL, viewAV, resRV, tupOf, fillParts, splice, foldMinMax, indexOf, indexAddrOf, lenIs, Fw.lenOf, convOf, bound, sliceOf, srcOf, bytesSrc, elemsOf, appendOf, capFits, growCap, nro, blkIds, flat, flatL, flatB, strOf, chunks, w1, w2, w3, w4, i64max, appB, sizeB, ByteArray.toList_eq, fi25, KL, spAtoi, spItoa, hv, hs, hA, hB]
      · have r1 : 0 ≤ v := by simpa using hA
        have r2 : v ≤ high := by simpa using hB
        have rv : -9223372036854775808 ≤ v ∧ v ≤ 9223372036854775807 := by omega
        simp [y_fn, y_seq, bindN_n, bindN_ret, bindN_exit, y_ops, mapN_some, y_skip, y_ret, y_exit, y_block, blockR_n, blockR_ret, blockR_exit, y_cond, condR_t, condR_f, condR_b, y_opsCons, bindO_some, y_opsNil, y_op0, evOp0, putR_some, callR_some, y_opG, guardR_b, guardR_u, y_drawn, mapD_some, y_drawnNil, y_drawnCons, drR_some, chkL_nil, chkL_cons, y_dop0, evDOp0, recR_some, dcallR_nil, dres_same, y_dopG, guardD_b, guardD_u, resR_ret, resR_n, y_pure, viewR_some, spR_nil, spR0_true, spR1_nil, put_eq, put_ne, put_none, upd_at, upd_off, app_nil, app_cons, shownIds, ids_undef, ids_bool, ids_int, ids_str, ids_agg, ids_tup, ids_nilptr, ids_ptr, ids_vptr, ids_sl, ids_vsl, ids_nilfunc, ids_func, ids_nilmap, ids_map, ids_niliface, ids_iface, idsL_nil, idsL_cons, view_64, runOp, AOpd.ev, argF, noA, AV.cellsOf, AV.isCell, cellsAt, fieldAddrOf, fieldOf, partOf, binOf, ib_add, ib_sub, ib_mul, ib_quo, ib_rem, ib_and, ib_or, ib_xor, ib_andNot, ib_eql, ib_neq, ib_lss, ib_leq, ib_gtr, ib_geq, un_neg, un_xor, un_not, intShift, strBin, aeq, eqCells, eqLeaf, eqRes, clash, AOp.silent, AOp.opds, optL, idsTop, addK, noK, viewL, viewAV, resRV, tupOf, fillParts, splice, foldMinMax, indexOf, indexAddrOf, lenIs, Fw.lenOf, convOf, bound, sliceOf, srcOf, bytesSrc, elemsOf, appendOf, capFits, growCap, nro, blkIds, flat, flatL, flatB, strOf, chunks, w1, w2, w3, w4, i64max, appB, sizeB, ByteArray.toList_eq, fi25, KL, spAtoi, spItoa, hv, hs, hA, hB, rv]
  | _ => simp [y_fn, y_seq, bindN_n, bindN_ret, bindN_exit, y_ops, mapN_some, y_skip, y_ret, y_exit, y_block, blockR_n, blockR_ret, blockR_exit, y_cond, condR_t, condR_f, condR_b, y_opsCons, bindO_some, y_opsNil, y_op0, evOp0, putR_some, callR_some, y_opG, guardR_b, guardR_u, y_drawn, mapD_some, y_drawnNil, y_drawnCons, drR_some, chkL_nil, chkL_cons, y_dop0, evDOp0, recR_some, dcallR_nil, dres_same, y_dopG, guardD_b, guardD_u, resR_ret, resR_n, y_pure, viewR_some, spR_nil, spR0_true, spR1_nil, put_eq, put_ne, put_none, upd_at, upd_off, app_nil, app_cons, shownIds, ids_undef, ids_bool, ids_int, ids_str, ids_agg, ids_tup, ids_nilptr, ids_ptr, ids_vptr, ids_sl, ids_vsl, ids_nilfunc, ids_func, ids_nilmap, ids_map, ids_niliface, ids_iface, idsL_nil, idsL_cons, view_64, runOp, AOpd.ev, argF, noA, AV.cellsOf, AV.isCell, cellsAt, fieldAddrOf, fieldOf, partOf, binOf, ib_add, ib_sub, ib_mul, ib_quo, ib_rem, ib_and, ib_or, ib_xor, ib_andNot, ib_eql, ib_neq, ib_lss, ib_leq, ib_gtr, ib_geq, un_neg, un_xor, un_not, intShift, strBin, aeq, eqCells, eqLeaf, eqRes, clash, AOp.silent, AOp.opds, optL, idsTop, addK, noK, viewL, viewAV, resRV, tupOf, fillParts, splice, foldMinMax, indexOf, indexAddrOf, lenIs, Fw.lenOf, convOf, bound, sliceOf, srcOf, bytesSrc, elemsOf, appendOf, capFits, growCap, nro, blkIds, flat, flatL, flatB, strOf, chunks, w1, w2, w3, w4, i64max, appB, sizeB, ByteArray.toList_eq, fi25, KL, spAtoi, spItoa, hv, hs]

def spMaskA : Sp
  | [.int .i64 n] => some (.agg (ofZ (maskZ n)), [])
  | _ => none
def isB (a : Int) : Bool := decide (0 ≤ a) && decide (a < 256)
theorem isB_iff {a : Int} : isB a = true ↔ 0 ≤ a ∧ a < 256 := by simp [isB]
def spText : Sp
  | [.agg [.int .u8 a, .int .u8 b, .int .u8 c, .int .u8 d]] => if isB a && (isB b && (isB c && isB d)) then some (.str ⟨(textL a b c d).toArray⟩, []) else none
  | _ => none
def K6 : CallK := addK K5 22 (pureK spMaskA)
def K7 : CallK := addK K6 17 (pureK spText)
def K8 : CallK := addK K7 25 (pureK spNumber)

def netTextL (a b c d n : Int) : List UInt8 := if rightZ a b c d n then textL a b c d ++ ([47] ++ Lib.itoa n) else []
def spNetText : Sp
  | [.agg [.int .u8 a, .int .u8 b, .int .u8 c, .int .u8 d, .int .i64 n]] => if isB a && (isB b && (isB c && isB d)) then some (.str ⟨(netTextL a b c d n).toArray⟩, []) else none
  | _ => none
def K9 : CallK := addK K8 19 (pureK spNetText)

set_option maxHeartbeats 2000000 in
theorem netText_run (a b c d n : Int) (ha : isB a = true) (hb : isB b = true) (hc : isB c = true) (hd : isB d = true) :
    ∃ h' n', runFn K8 1000 fi19 [.agg [.int .u8 a, .int .u8 b, .int .u8 c, .int .u8 d, .int .i64 n]] noA 0 = some (.str ⟨(netTextL a b c d n).toArray⟩, h', n') := by
  unfold netTextL
  cases hA : rightZ a b c d n
  · simp [y_fn, y_seq, bindN_n, bindN_ret, bindN_exit, y_ops, mapN_some, y_skip, y_ret, y_exit, y_block, blockR_n, blockR_ret, blockR_exit, y_cond, condR_t, condR_f, condR_b, y_opsCons, bindO_some, y_opsNil, y_op0, evOp0, putR_some, callR_some, y_opG, guardR_b, guardR_u, y_drawn, mapD_some, y_drawnNil, y_drawnCons, drR_some, chkL_nil, chkL_cons, y_dop0, evDOp0, recR_some, dcallR_nil, dres_same, y_dopG, guardD_b, guardD_u, resR_ret, resR_n, y_pure, viewR_some, spR_nil, spR0_true, spR1_nil, put_eq, put_ne, put_none, upd_at, upd_off, app_nil, app_cons, shownIds, ids_undef, ids_bool, ids_int, ids_str, ids_agg, ids_tup, ids_nilptr, ids_ptr, ids_vptr, ids_sl, ids_vsl, ids_nilfunc, ids_func, ids_nilmap, ids_map, ids_niliface, ids_iface, idsL_nil, idsL_cons, view_64, runOp, AOpd.ev, argF, noA, AV.cellsOf, AV.isCell, cellsAt, fieldAddrOf, fieldOf, partOf, binOf, ib_add, ib_sub, ib_mul, ib_quo, ib_rem, ib_and, ib_or, ib_xor, ib_andNot, ib_eql, ib_neq, ib_lss, ib_leq, ib_gtr, ib_geq, un_neg, un_xor, un_not, intShift, strBin, aeq, eqCells, eqLeaf, eqRes, clash, AOp.silent, AOp.opds, optL, idsTop, addK, noK, viewL, viewAV, resRV, tupOf, fillParts, splice, foldMinMax, indexOf, indexAddrOf, lenIs, Fw.lenOf, convOf, bound, sliceOf, srcOf, bytesSrc, elemsOf, appendOf, capFits, growCap, nro, blkIds, flat, flatL, flatB, strOf, chunks, w1, w2, w3, w4, i64max, appB, sizeB, ByteArray.toList_eq, fi19, K8, K7, K6, K5, K4, K3, K2, K1, KL, spRight, hA]
  · have hn : 0 ≤ n ∧ n ≤ 32 := by
      simp only [rightZ, Bool.and_eq_true, decide_eq_true_eq] at hA
      exact hA.1
    have rn : -9223372036854775808 ≤ n ∧ n ≤ 9223372036854775807 := by omega
    have l1 := text_len (isB_iff.1 ha) (isB_iff.1 hb) (isB_iff.1 hc) (isB_iff.1 hd)
    have l2 : (Lib.itoa n).length ≤ 21 := Lib.itoa_length_le n rn.1 rn.2
    have q1 : ¬ (9223372036854775807 < ((textL a b c d).length : Int) + 1) := by omega
    have q2 : ¬ (9223372036854775807 < ((textL a b c d).length : Int) + 1 + ((Lib.itoa n).length : Int)) := by omega
    simp [y_fn, y_seq, bindN_n, bindN_ret, bindN_exit, y_ops, mapN_some, y_skip, y_ret, y_exit, y_block, blockR_n, blockR_ret, blockR_exit, y_cond, condR_t, condR_f, condR_b, y_opsCons, bindO_some, y_opsNil, y_op0, evOp0, putR_some, callR_some, y_opG, guardR_b, guardR_u, y_drawn, mapD_some, y_drawnNil, y_drawnCons, drR_some, chkL_nil, chkL_cons, y_dop0, evDOp0, recR_some, dcallR_nil, dres_same, y_dopG, guardD_b, guardD_u, resR_ret, resR_n, y_pure, viewR_some, spR_nil, spR0_true, spR1_nil, put_eq, put_ne, put_none, upd_at, upd_off, app_nil, app_cons, shownIds, ids_undef, ids_bool, ids_int, ids_str, ids_agg, ids_tup, ids_nilptr, ids_ptr, ids_vptr, ids_sl, ids_vsl, ids_nilfunc, ids_func, ids_nilmap, ids_map, ids_niliface, ids_iface, idsL_nil, idsL_cons, view_64, runOp, AOpd.ev, argF, noA, AV.cellsOf, AV.isCell, cellsAt, fieldAddrOf, fieldOf, partOf, binOf, ib_add, ib_sub, ib_mul, ib_quo, ib_rem, ib_and, ib_or, ib_xor, ib_andNot, ib_eql, ib_neq, ib_lss, ib_leq, ib_gtr, ib_geq, un_neg, un_xor, un_not, intShift, strBin, aeq, eqCells, eqLeaf, eqRes, clash, AOp.silent, AOp.opds, optL, idsTop, addK, noK, viewL, viewAV, resRV, tupOf, fillParts, splice, foldMinMax, indexOf, indexAddrOf, lenIs, Fw.lenOf, convOf, bound, sliceOf, srcOf, bytesSrc, elemsOf, appendOf, capFits, growCap, nro, blkIds, flat, flatL, flatB, strOf, chunks, w1, w2, w3, w4, i64max, appB, sizeB, ByteArray.toList_eq, fi19, K8, K7, K6, K5, K4, K3, K2, K1, KL, spRight, spText, spItoa, hA, ha, hb, hc, hd, rn, q1, q2]

/-! Parse -/
def stepP (i : Nat) (l : List UInt8) : Option (Int × List UInt8) :=
  if numOk (Lib.cut l [46]).1 255 && ((Lib.cut l [46]).2.2 == decide (i < 3)) then some (numV (Lib.cut l [46]).1, (Lib.cut l [46]).2.1) else none
def parseL (l : List UInt8) : Option (Int × Int × Int × Int) := match stepP 0 l with
  | some (a, l1) => match stepP 1 l1 with
    | some (b, l2) => match stepP 2 l2 with
      | some (c, l3) => match stepP 3 l3 with
        | some (d, _) => some (a, b, c, d)
        | none => none
      | none => none
    | none => none
  | none => none
end Go.Fw.Sy.Ad
