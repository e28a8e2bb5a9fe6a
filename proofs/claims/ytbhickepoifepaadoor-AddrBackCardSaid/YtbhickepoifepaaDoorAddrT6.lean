/- The law AddrBack, run. -/
import Derived.Test.YtbhickepoifepaaDoorAddrT5
import Derived.Test.YtbhickepoifepaaDoorAddrS1
set_option maxRecDepth 20000
set_option linter.unusedSimpArgs false
set_option linter.unusedVariables false
namespace Go.Fw.Sy.Ad
theorem k12_13 (vs : List AV) (h : AHeap) (n : Nat) : K12 13 vs h n = pureK spParse vs h n := rfl
theorem k12_15 (vs : List AV) (h : AHeap) (n : Nat) : K12 15 vs h n = pureK spNet vs h n := rfl
theorem k12_17 (vs : List AV) (h : AHeap) (n : Nat) : K12 17 vs h n = pureK spText vs h n := rfl
theorem k12_19 (vs : List AV) (h : AHeap) (n : Nat) : K12 19 vs h n = pureK spNetText vs h n := rfl
theorem k12_21 (vs : List AV) (h : AHeap) (n : Nat) : K12 21 vs h n = pureK spRight vs h n := rfl

set_option maxHeartbeats 4000000 in
theorem back_run (a b c d x y z u : Nat) (n : Int) (ha : a < 256) (hb : b < 256) (hc : c < 256) (hd : d < 256) (hx : x < 256) (hy : y < 256) (hz : z < 256) (hu : u < 256) :
    ∃ h' n', runFn K12 1000 fi5 [.agg [.int .u8 a, .int .u8 b, .int .u8 c, .int .u8 d], .agg [.int .u8 x, .int .u8 y, .int .u8 z, .int .u8 u, .int .i64 n]] noA 0 = some (.bool true, h', n') := by
  have q : ∀ {n : Nat}, n < 256 → isB (n : Int) = true := fun h => isB_iff.2 ⟨by omega, by omega⟩
  have p1 := parse_text ha hb hc hd
  have p2 := of_num ha hb hc hd
  have p3 := net_text (n := n) hx hy hz hu
  have l1 : (textL (a : Int) b c d).length < 4294967281 := Nat.lt_of_le_of_lt (text_len (isB_iff.1 (q ha)) (isB_iff.1 (q hb)) (isB_iff.1 (q hc)) (isB_iff.1 (q hd))) (by decide)
  have l2 : (netTextL (x : Int) y z u n).length < 4294967281 := by
    unfold netTextL
    split
    · rename_i hr
      have hn : 0 ≤ n ∧ n ≤ 32 := by
        simp only [rightZ, Bool.and_eq_true, decide_eq_true_eq] at hr
        exact hr.1
      have k1 := text_len (isB_iff.1 (q hx)) (isB_iff.1 (q hy)) (isB_iff.1 (q hz)) (isB_iff.1 (q hu))
      have k2 : (Lib.itoa n).length ≤ 21 := Lib.itoa_length_le n (by omega) (by omega)
      simp; omega
    · simp
  cases hr : rightZ (x : Int) y z u n
  · rw [hr] at p3
    simp [y_fn, y_seq, bindN_n, bindN_ret, bindN_exit, y_ops, mapN_some, y_skip, y_ret, y_exit, y_block, blockR_n, blockR_ret, blockR_exit, y_cond, condR_t, condR_f, condR_b, y_opsCons, bindO_some, y_opsNil, y_op0, evOp0, putR_some, callR_some, y_opG, guardR_b, guardR_u, y_drawn, mapD_some, y_drawnNil, y_drawnCons, drR_some, chkL_nil, chkL_cons, y_dop0, evDOp0, recR_some, dcallR_nil, dres_same, y_dopG, guardD_b, guardD_u, resR_ret, resR_n, y_pure, viewR_some, spR_nil, spR0_true, spR1_nil, put_eq, put_ne, put_none, upd_at, upd_off, app_nil, app_cons, shownIds, ids_undef, ids_bool, ids_int, ids_str, ids_agg, ids_tup, ids_nilptr, ids_ptr, ids_vptr, ids_sl, ids_vsl, ids_nilfunc, ids_func, ids_nilmap, ids_map, ids_niliface, ids_iface, idsL_nil, idsL_cons, view_64, runOp, AOpd.ev, argF, noA, AV.cellsOf, AV.isCell, cellsAt, fieldAddrOf, fieldOf, partOf, binOf, ib_add, ib_sub, ib_mul, ib_quo, ib_rem, ib_and, ib_or, ib_xor, ib_andNot, ib_eql, ib_neq, ib_lss, ib_leq, ib_gtr, ib_geq, un_neg, un_xor, un_not, intShift, strBin, aeq, eqCells, eqLeaf, eqRes, clash, AOp.silent, AOp.opds, optL, idsTop, addK, noK, viewL, viewAV, resRV, tupOf, fillParts, splice, foldMinMax, indexOf, indexAddrOf, lenIs, Fw.lenOf, convOf, bound, sliceOf, srcOf, bytesSrc, elemsOf, appendOf, capFits, growCap, nro, blkIds, flat, flatL, flatB, strOf, chunks, w1, w2, w3, w4, i64max, appB, sizeB, ByteArray.toList_eq, fi5, k12_7, k12_11, k12_12, k12_13, k12_15, k12_17, k12_19, k12_21, spAlive, spOf, spNum, spParse, spNet, spText, spNetText, spRight, q ha, q hb, q hc, q hd, q hx, q hy, q hz, q hu, p1, p2, p3, l1, l2, hr, resP, resN]
  · rw [hr] at p3
    simp [y_fn, y_seq, bindN_n, bindN_ret, bindN_exit, y_ops, mapN_some, y_skip, y_ret, y_exit, y_block, blockR_n, blockR_ret, blockR_exit, y_cond, condR_t, condR_f, condR_b, y_opsCons, bindO_some, y_opsNil, y_op0, evOp0, putR_some, callR_some, y_opG, guardR_b, guardR_u, y_drawn, mapD_some, y_drawnNil, y_drawnCons, drR_some, chkL_nil, chkL_cons, y_dop0, evDOp0, recR_some, dcallR_nil, dres_same, y_dopG, guardD_b, guardD_u, resR_ret, resR_n, y_pure, viewR_some, spR_nil, spR0_true, spR1_nil, put_eq, put_ne, put_none, upd_at, upd_off, app_nil, app_cons, shownIds, ids_undef, ids_bool, ids_int, ids_str, ids_agg, ids_tup, ids_nilptr, ids_ptr, ids_vptr, ids_sl, ids_vsl, ids_nilfunc, ids_func, ids_nilmap, ids_map, ids_niliface, ids_iface, idsL_nil, idsL_cons, view_64, runOp, AOpd.ev, argF, noA, AV.cellsOf, AV.isCell, cellsAt, fieldAddrOf, fieldOf, partOf, binOf, ib_add, ib_sub, ib_mul, ib_quo, ib_rem, ib_and, ib_or, ib_xor, ib_andNot, ib_eql, ib_neq, ib_lss, ib_leq, ib_gtr, ib_geq, un_neg, un_xor, un_not, intShift, strBin, aeq, eqCells, eqLeaf, eqRes, clash, AOp.silent, AOp.opds, optL, idsTop, addK, noK, viewL, viewAV, resRV, tupOf, fillParts, splice, foldMinMax, indexOf, indexAddrOf, lenIs, Fw.lenOf, convOf, bound, sliceOf, srcOf, bytesSrc, elemsOf, appendOf, capFits, growCap, nro, blkIds, flat, flatL, flatB, strOf, chunks, w1, w2, w3, w4, i64max, appB, sizeB, ByteArray.toList_eq, fi5, k12_7, k12_11, k12_12, k12_13, k12_15, k12_17, k12_19, k12_21, spAlive, spOf, spNum, spParse, spNet, spText, spNetText, spRight, q ha, q hb, q hc, q hd, q hx, q hy, q hz, q hu, p1, p2, p3, l1, l2, hr, resP, resN]
end Go.Fw.Sy.Ad
