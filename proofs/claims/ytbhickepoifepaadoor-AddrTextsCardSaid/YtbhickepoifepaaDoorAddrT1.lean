/- The Go functions of addr, run. -/
import Derived.Test.YtbhickepoifepaaDoorAddrTab
import Derived.Test.YtbhickepoifepaaDoorAddrLib
import Derived.Test.YtbhickepoifepaaDoorFwE2
set_option maxRecDepth 20000
set_option linter.unusedSimpArgs false
set_option linter.unusedVariables false
namespace Go.Fw.Sy.Ad

theorem w1 : IntKind.i64.wrap 1 = 1 := by decide
theorem w2 : IntKind.i64.wrap 2 = 2 := by decide
theorem w3 : IntKind.i64.wrap 3 = 3 := by decide
theorem w4 : IntKind.i64.wrap 4 = 4 := by decide
theorem i64max : IntKind.i64.max = 9223372036854775807 := by decide
theorem appB (l m : List UInt8) : (ByteArray.mk l.toArray) ++ (ByteArray.mk m.toArray) = ⟨(l ++ m).toArray⟩ := by
  apply ByteArray.ext; simp
theorem sizeB (l : List UInt8) : (ByteArray.mk l.toArray).size = l.length := by simp [ByteArray.size]
def ofZ (n : Int) : List AV := [.int .u8 (IntKind.u8.wrap (n.fdiv 16777216)), .int .u8 (IntKind.u8.wrap (n.fdiv 65536)), .int .u8 (IntKind.u8.wrap (n.fdiv 256)), .int .u8 (IntKind.u8.wrap n)]
def num1 (n c : Int) : Int := orZ .u32 (IntKind.u32.wrap (n * 2 ^ 8)) (IntKind.u32.wrap c)
def numZ (a b c d : Int) : Int := num1 (num1 (num1 (num1 0 a) b) c) d
def minZ (a b : Int) : Int := if b < a then b else a
def maxZ (a b : Int) : Int := if b > a then b else a
def clampZ (n : Int) : Int := maxZ 0 (minZ n 32)
theorem clamp_range (n : Int) : 0 ≤ clampZ n ∧ clampZ n ≤ 32 := by unfold clampZ maxZ minZ; split <;> split <;> omega
def maskZ (n : Int) : Int := IntKind.u32.wrap (4294967295 * 2 ^ (min (32 - clampZ n).toNat 32))
def cutN (a b c d n : Int) : Int := andZ .u32 (numZ a b c d) (maskZ n)
def cutZ (a b c d n : Int) : List AV := [.int .u8 (IntKind.u8.wrap ((cutN a b c d n).fdiv 16777216)), .int .u8 (IntKind.u8.wrap ((cutN a b c d n).fdiv 65536)), .int .u8 (IntKind.u8.wrap ((cutN a b c d n).fdiv 256)), .int .u8 (IntKind.u8.wrap (cutN a b c d n)), .int .i64 (clampZ n)]

def spOf : Sp
  | [.int .u32 n] => some (.agg (ofZ n), [])
  | _ => none
def spNum : Sp
  | [.agg [.int .u8 a, .int .u8 b, .int .u8 c, .int .u8 d]] => some (.int .u32 (numZ a b c d), [])
  | _ => none
def spMask : Sp
  | [.int .i64 n] => some (.int .u32 (maskZ n), [])
  | _ => none
def spCut : Sp
  | [.agg [.int .u8 a, .int .u8 b, .int .u8 c, .int .u8 d], .int .i64 n] => some (.agg (cutZ a b c d n), [])
  | _ => none

theorem of_run (K : CallK) (n : Int) : ∃ h' n', runFn K 1000 fi11 [.int .u32 n] noA 0 = some (.agg (ofZ n), h', n') := ⟨_, _, rfl⟩
theorem num_run (K : CallK) (a b c d : Int) : ∃ h' n', runFn K 1000 fi12 [.agg [.int .u8 a, .int .u8 b, .int .u8 c, .int .u8 d]] noA 0 = some (.int .u32 (numZ a b c d), h', n') := ⟨_, _, rfl⟩
theorem mask_run (K : CallK) (n : Int) : ∃ h' n', runFn K 1000 fi23 [.int .i64 n] noA 0 = some (.int .u32 (maskZ n), h', n') := by
  have hc := clamp_range n
  have hw : IntKind.i64.wrap (32 - clampZ n) = 32 - clampZ n := i64_wrap (by omega) (by omega)
  have h0 : ¬ (32 - clampZ n < 0) := by omega
  have e : (if 0 < (if 32 < n then 32 else n) then (if 32 < n then 32 else n) else 0) = clampZ n := rfl
  simp [y_fn, y_seq, bindN_n, bindN_ret, bindN_exit, y_ops, mapN_some, y_skip, y_ret, y_exit, y_block, blockR_n, blockR_ret, blockR_exit, y_cond, condR_t, condR_f, condR_b, y_opsCons, bindO_some, y_opsNil, y_op0, evOp0, putR_some, callR_some, y_opG, guardR_b, guardR_u, y_drawn, mapD_some, y_drawnNil, y_drawnCons, drR_some, chkL_nil, chkL_cons, y_dop0, evDOp0, recR_some, dcallR_nil, dres_same, y_dopG, guardD_b, guardD_u, resR_ret, resR_n, y_pure, viewR_some, spR_nil, spR0_true, spR1_nil, put_eq, put_ne, put_none, upd_at, upd_off, app_nil, app_cons, shownIds, ids_undef, ids_bool, ids_int, ids_str, ids_agg, ids_tup, ids_nilptr, ids_ptr, ids_vptr, ids_sl, ids_vsl, ids_nilfunc, ids_func, ids_nilmap, ids_map, ids_niliface, ids_iface, idsL_nil, idsL_cons, view_64, runOp, AOpd.ev, argF, noA, AV.cellsOf, AV.isCell, cellsAt, fieldAddrOf, fieldOf, partOf, binOf, ib_add, ib_sub, ib_mul, ib_quo, ib_rem, ib_and, ib_or, ib_xor, ib_andNot, ib_eql, ib_neq, ib_lss, ib_leq, ib_gtr, ib_geq, un_neg, un_xor, un_not, intShift, strBin, aeq, eqCells, eqLeaf, eqRes, clash, AOp.silent, AOp.opds, optL, idsTop, addK, noK, viewL, viewAV, resRV, tupOf, fillParts, splice, foldMinMax, indexOf, indexAddrOf, lenIs, Fw.lenOf, convOf, bound, sliceOf, srcOf, bytesSrc, elemsOf, appendOf, capFits, growCap, nro, blkIds, flat, flatL, flatB, strOf, chunks, w1, w2, w3, w4, i64max, appB, sizeB, ByteArray.toList_eq, fi23, e, hw, h0, maskZ, IntKind.bits]

def KL : CallK := addK (addK (addK (addK noK 24 (pureK spCutS)) 27 (pureK spItoa)) 28 (pureK spJoin)) 32 (pureK spAtoi)
def K1 : CallK := addK (addK (addK KL 23 (pureK spMask)) 12 (pureK spNum)) 11 (pureK spOf)

theorem cut_run (a b c d n : Int) : ∃ h' n', runFn K1 1000 fi8 [.agg [.int .u8 a, .int .u8 b, .int .u8 c, .int .u8 d], .int .i64 n] noA 0 = some (.agg (cutZ a b c d n), h', n') := ⟨_, _, rfl⟩
def Mask_run (n : Int) := maskZ n

/-- Is the network's cut that network? -/
def cutIs (a b c d n a' b' c' d' n' : Int) : Bool := IntKind.u8.wrap ((cutN a b c d n).fdiv 16777216) == a' && (IntKind.u8.wrap ((cutN a b c d n).fdiv 65536) == b' && (IntKind.u8.wrap ((cutN a b c d n).fdiv 256) == c' && (IntKind.u8.wrap (cutN a b c d n) == d' && clampZ n == n')))
def rightZ (a b c d n : Int) : Bool := (decide (0 ≤ n) && decide (n ≤ 32)) && cutIs a b c d n a b c d n
def inZ (a b c d x y z u n : Int) : Bool := rightZ x y z u n && cutIs a b c d n x y z u n
def withinZ (a b c d n x y z u m : Int) : Bool := (rightZ a b c d n && decide (m ≤ n)) && inZ a b c d x y z u m

def spRight : Sp
  | [.agg [.int .u8 a, .int .u8 b, .int .u8 c, .int .u8 d, .int .i64 n]] => some (.bool (rightZ a b c d n), [])
  | _ => none
def spIn : Sp
  | [.agg [.int .u8 a, .int .u8 b, .int .u8 c, .int .u8 d], .agg [.int .u8 x, .int .u8 y, .int .u8 z, .int .u8 u, .int .i64 n]] => some (.bool (inZ a b c d x y z u n), [])
  | _ => none
def spWithin : Sp
  | [.agg [.int .u8 a, .int .u8 b, .int .u8 c, .int .u8 d, .int .i64 n], .agg [.int .u8 x, .int .u8 y, .int .u8 z, .int .u8 u, .int .i64 m]] => some (.bool (withinZ a b c d n x y z u m), [])
  | _ => none
def K2 : CallK := addK K1 8 (pureK spCut)
def K3 : CallK := addK K2 21 (pureK spRight)
def K4 : CallK := addK K3 10 (pureK spIn)
def K5 : CallK := addK K4 9 (pureK spWithin)

theorem right_run (a b c d n : Int) : ∃ h' n', runFn K2 1000 fi21 [.agg [.int .u8 a, .int .u8 b, .int .u8 c, .int .u8 d, .int .i64 n]] noA 0 = some (.bool (rightZ a b c d n), h', n') := by
  unfold rightZ
  cases hA : decide (0 ≤ n) <;> cases hB : decide (n ≤ 32)
  all_goals simp [y_fn, y_seq, bindN_n, bindN_ret, bindN_exit, y_ops, mapN_some, y_skip, y_ret, y_exit, y_block, blockR_n, blockR_ret, blockR_exit, y_cond, condR_t, condR_f, condR_b, y_opsCons, bindO_some, y_opsNil, y_op0, evOp0, putR_some, callR_some, y_opG, guardR_b, guardR_u, y_drawn, mapD_some, y_drawnNil, y_drawnCons, drR_some, chkL_nil, chkL_cons, y_dop0, evDOp0, recR_some, dcallR_nil, dres_same, y_dopG, guardD_b, guardD_u, resR_ret, resR_n, y_pure, viewR_some, spR_nil, spR0_true, spR1_nil, put_eq, put_ne, put_none, upd_at, upd_off, app_nil, app_cons, shownIds, ids_undef, ids_bool, ids_int, ids_str, ids_agg, ids_tup, ids_nilptr, ids_ptr, ids_vptr, ids_sl, ids_vsl, ids_nilfunc, ids_func, ids_nilmap, ids_map, ids_niliface, ids_iface, idsL_nil, idsL_cons, view_64, runOp, AOpd.ev, argF, noA, AV.cellsOf, AV.isCell, cellsAt, fieldAddrOf, fieldOf, partOf, binOf, ib_add, ib_sub, ib_mul, ib_quo, ib_rem, ib_and, ib_or, ib_xor, ib_andNot, ib_eql, ib_neq, ib_lss, ib_leq, ib_gtr, ib_geq, un_neg, un_xor, un_not, intShift, strBin, aeq, eqCells, eqLeaf, eqRes, clash, AOp.silent, AOp.opds, optL, idsTop, addK, noK, viewL, viewAV, resRV, tupOf, fillParts, splice, foldMinMax, indexOf, indexAddrOf, lenIs, Fw.lenOf, convOf, bound, sliceOf, srcOf, bytesSrc, elemsOf, appendOf, capFits, growCap, nro, blkIds, flat, flatL, flatB, strOf, chunks, w1, w2, w3, w4, i64max, appB, sizeB, ByteArray.toList_eq, fi21, hA, hB, K2, K1, spCut, cutZ, cutIs]

theorem in_run (a b c d x y z u n : Int) : ∃ h' n', runFn K3 1000 fi10 [.agg [.int .u8 a, .int .u8 b, .int .u8 c, .int .u8 d], .agg [.int .u8 x, .int .u8 y, .int .u8 z, .int .u8 u, .int .i64 n]] noA 0 = some (.bool (inZ a b c d x y z u n), h', n') := by
  unfold inZ
  cases hA : rightZ x y z u n
  all_goals simp [y_fn, y_seq, bindN_n, bindN_ret, bindN_exit, y_ops, mapN_some, y_skip, y_ret, y_exit, y_block, blockR_n, blockR_ret, blockR_exit, y_cond, condR_t, condR_f, condR_b, y_opsCons, bindO_some, y_opsNil, y_op0, evOp0, putR_some, callR_some, y_opG, guardR_b, guardR_u, y_drawn, mapD_some, y_drawnNil, y_drawnCons, drR_some, chkL_nil, chkL_cons, y_dop0, evDOp0, recR_some, dcallR_nil, dres_same, y_dopG, guardD_b, guardD_u, resR_ret, resR_n, y_pure, viewR_some, spR_nil, spR0_true, spR1_nil, put_eq, put_ne, put_none, upd_at, upd_off, app_nil, app_cons, shownIds, ids_undef, ids_bool, ids_int, ids_str, ids_agg, ids_tup, ids_nilptr, ids_ptr, ids_vptr, ids_sl, ids_vsl, ids_nilfunc, ids_func, ids_nilmap, ids_map, ids_niliface, ids_iface, idsL_nil, idsL_cons, view_64, runOp, AOpd.ev, argF, noA, AV.cellsOf, AV.isCell, cellsAt, fieldAddrOf, fieldOf, partOf, binOf, ib_add, ib_sub, ib_mul, ib_quo, ib_rem, ib_and, ib_or, ib_xor, ib_andNot, ib_eql, ib_neq, ib_lss, ib_leq, ib_gtr, ib_geq, un_neg, un_xor, un_not, intShift, strBin, aeq, eqCells, eqLeaf, eqRes, clash, AOp.silent, AOp.opds, optL, idsTop, addK, noK, viewL, viewAV, resRV, tupOf, fillParts, splice, foldMinMax, indexOf, indexAddrOf, lenIs, Fw.lenOf, convOf, bound, sliceOf, srcOf, bytesSrc, elemsOf, appendOf, capFits, growCap, nro, blkIds, flat, flatL, flatB, strOf, chunks, w1, w2, w3, w4, i64max, appB, sizeB, ByteArray.toList_eq, fi10, hA, K3, K2, K1, spCut, spRight, cutZ, cutIs]

theorem within_run (a b c d n x y z u m : Int) : ∃ h' n', runFn K4 1000 fi9 [.agg [.int .u8 a, .int .u8 b, .int .u8 c, .int .u8 d, .int .i64 n], .agg [.int .u8 x, .int .u8 y, .int .u8 z, .int .u8 u, .int .i64 m]] noA 0 = some (.bool (withinZ a b c d n x y z u m), h', n') := by
  unfold withinZ
  cases hA : rightZ a b c d n <;> cases hB : decide (m ≤ n)
  all_goals simp [y_fn, y_seq, bindN_n, bindN_ret, bindN_exit, y_ops, mapN_some, y_skip, y_ret, y_exit, y_block, blockR_n, blockR_ret, blockR_exit, y_cond, condR_t, condR_f, condR_b, y_opsCons, bindO_some, y_opsNil, y_op0, evOp0, putR_some, callR_some, y_opG, guardR_b, guardR_u, y_drawn, mapD_some, y_drawnNil, y_drawnCons, drR_some, chkL_nil, chkL_cons, y_dop0, evDOp0, recR_some, dcallR_nil, dres_same, y_dopG, guardD_b, guardD_u, resR_ret, resR_n, y_pure, viewR_some, spR_nil, spR0_true, spR1_nil, put_eq, put_ne, put_none, upd_at, upd_off, app_nil, app_cons, shownIds, ids_undef, ids_bool, ids_int, ids_str, ids_agg, ids_tup, ids_nilptr, ids_ptr, ids_vptr, ids_sl, ids_vsl, ids_nilfunc, ids_func, ids_nilmap, ids_map, ids_niliface, ids_iface, idsL_nil, idsL_cons, view_64, runOp, AOpd.ev, argF, noA, AV.cellsOf, AV.isCell, cellsAt, fieldAddrOf, fieldOf, partOf, binOf, ib_add, ib_sub, ib_mul, ib_quo, ib_rem, ib_and, ib_or, ib_xor, ib_andNot, ib_eql, ib_neq, ib_lss, ib_leq, ib_gtr, ib_geq, un_neg, un_xor, un_not, intShift, strBin, aeq, eqCells, eqLeaf, eqRes, clash, AOp.silent, AOp.opds, optL, idsTop, addK, noK, viewL, viewAV, resRV, tupOf, fillParts, splice, foldMinMax, indexOf, indexAddrOf, lenIs, Fw.lenOf, convOf, bound, sliceOf, srcOf, bytesSrc, elemsOf, appendOf, capFits, growCap, nro, blkIds, flat, flatL, flatB, strOf, chunks, w1, w2, w3, w4, i64max, appB, sizeB, ByteArray.toList_eq, fi9, hA, hB, K4, K3, K2, K1, spRight, spIn]
end Go.Fw.Sy.Ad
