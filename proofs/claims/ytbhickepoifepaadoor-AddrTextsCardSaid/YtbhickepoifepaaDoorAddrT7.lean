/- The reference's numbers, run. -/
import Derived.Test.YtbhickepoifepaaDoorAddrT4
import Derived.Test.YtbhickepoifepaaDoorAddrP1
set_option maxRecDepth 20000
set_option linter.unusedSimpArgs false
set_option linter.unusedVariables false
namespace Go.Fw.Sy.Ad

theorem cutP_lt7 {n x : Nat} (h : n < 4294967296) : cutP n x < 4294967296 := Nat.lt_of_le_of_lt (cutP_le n x) h
def u32w (n : Int) : Int := IntKind.u32.wrap n
def numR (a b c d : Int) : Int := u32w (u32w (u32w (u32w (u32w a * 16777216) + u32w (u32w b * 65536)) + u32w (u32w c * 256)) + u32w d)
theorem u32w_nat {n : Nat} (h : n < 4294967296) : u32w (n : Int) = n := wrap_u32 (by omega) (by omega)
theorem numR_nat {a b c d : Nat} (ha : a < 256) (hb : b < 256) (hc : c < 256) (hd : d < 256) : numR (a : Int) b c d = numZ (a : Int) b c d := by
  rw [num_nat ha hb hc hd]
  unfold numR val
  rw [u32w_nat (show a < 4294967296 by omega), u32w_nat (show b < 4294967296 by omega), u32w_nat (show c < 4294967296 by omega), u32w_nat (show d < 4294967296 by omega)]
  rw [show (a : Int) * 16777216 = ((a * 16777216 : Nat) : Int) by simp, show (b : Int) * 65536 = ((b * 65536 : Nat) : Int) by simp, show (c : Int) * 256 = ((c * 256 : Nat) : Int) by simp]
  rw [u32w_nat (by omega), u32w_nat (by omega), u32w_nat (by omega), ← Int.natCast_add, u32w_nat (by omega), ← Int.natCast_add, u32w_nat (by omega), ← Int.natCast_add, u32w_nat (by omega)]
  congr 1; omega

theorem refNum_run (K : CallK) (a b c d : Int) : ∃ h' n', runFn K 1000 fi45 [.agg [.int .u8 a, .int .u8 b, .int .u8 c, .int .u8 d]] noA 0 = some (.int .u32 (numR a b c d), h', n') := ⟨_, _, rfl⟩
def bytes4 (a b c d : Int) : Bool := isB a && (isB b && (isB c && isB d))
theorem bytes4_nat {a b c d : Int} (h : bytes4 a b c d = true) : ∃ p q r s : Nat, a = p ∧ b = q ∧ c = r ∧ d = s ∧ p < 256 ∧ q < 256 ∧ r < 256 ∧ s < 256 := by
  unfold bytes4 at h
  simp only [Bool.and_eq_true, isB_iff] at h
  obtain ⟨⟨a0, a1⟩, ⟨b0, b1⟩, ⟨c0, c1⟩, ⟨d0, d1⟩⟩ := h
  exact ⟨a.toNat, b.toNat, c.toNat, d.toNat, by omega, by omega, by omega, by omega, by omega, by omega, by omega, by omega⟩
theorem nat_bytes4 {a b c d : Nat} (ha : a < 256) (hb : b < 256) (hc : c < 256) (hd : d < 256) : bytes4 (a : Int) b c d = true := by
  unfold bytes4
  simp only [Bool.and_eq_true, isB_iff]
  omega
def spNumR : Sp
  | [.agg [.int .u8 a, .int .u8 b, .int .u8 c, .int .u8 d]] => if bytes4 a b c d = true then some (.int .u32 (numZ a b c d), []) else none
  | _ => none
theorem numR_run (K : CallK) (a b c d : Int) (h : bytes4 a b c d = true) : ∃ h' n', runFn K 1000 fi45 [.agg [.int .u8 a, .int .u8 b, .int .u8 c, .int .u8 d]] noA 0 = some (.int .u32 (numZ a b c d), h', n') := by
  obtain ⟨p, q, r, s, rfl, rfl, rfl, rfl, hp, hq, hr, hs⟩ := bytes4_nat h
  rw [← numR_nat hp hq hr hs]
  exact refNum_run K _ _ _ _

def ofR (n : Int) : List AV := [.int .u8 (IntKind.u8.wrap (u32w (n.tdiv 16777216))), .int .u8 (IntKind.u8.wrap ((u32w (n.tdiv 65536)).tmod 256)), .int .u8 (IntKind.u8.wrap ((u32w (n.tdiv 256)).tmod 256)), .int .u8 (IntKind.u8.wrap (n.tmod 256))]
theorem refOf_run (K : CallK) (n : Int) : ∃ h' n', runFn K 1000 fi46 [.int .u32 n] noA 0 = some (.agg (ofR n), h', n') := ⟨_, _, rfl⟩
theorem tdiv_nat (n k : Nat) : ((n : Int)).tdiv (k : Int) = ((n / k : Nat) : Int) := by
  rw [Int.tdiv_eq_ediv_of_nonneg (by omega)]; simp
theorem tmod_nat (n k : Nat) : ((n : Int)).tmod (k : Int) = ((n % k : Nat) : Int) := by
  rw [Int.tmod_eq_emod_of_nonneg (by omega)]; simp
theorem ofR_nat {n : Nat} (h : n < 4294967296) : ofR (n : Int) = ofZ (n : Int) := by
  unfold ofR ofZ
  rw [q0, q1, q2, q3]
  rw [show ((16777216 : Int)) = ((16777216 : Nat) : Int) from rfl, show ((65536 : Int)) = ((65536 : Nat) : Int) from rfl, show ((256 : Int)) = ((256 : Nat) : Int) from rfl]
  rw [tdiv_nat, tdiv_nat, tdiv_nat, tmod_nat, u32w_nat (by omega), u32w_nat (by omega), u32w_nat (by omega), tmod_nat, tmod_nat, wrap_u8, wrap_u8, wrap_u8, wrap_u8]
  unfold p0 p1 p2 p3
  simp
def spOfR : Sp
  | [.int .u32 n] => if 0 ≤ n ∧ n < 4294967296 then some (.agg (ofZ n), []) else none
  | _ => none
theorem ofR_run (K : CallK) (n : Int) (h0 : 0 ≤ n) (h1 : n < 4294967296) : ∃ h' n', runFn K 1000 fi46 [.int .u32 n] noA 0 = some (.agg (ofZ n), h', n') := by
  obtain ⟨n, rfl⟩ := Int.eq_ofNat_of_zero_le h0
  rw [← ofR_nat (by omega)]
  exact refOf_run K _

def spBnd : Sp
  | [.int .i64 n] => some (.int .i64 (clampZ n), [])
  | _ => none
theorem bnd_run (K : CallK) (n : Int) : ∃ h' n', runFn K 1000 fi37 [.int .i64 n] noA 0 = some (.int .i64 (clampZ n), h', n') := by
  unfold clampZ maxZ minZ
  by_cases h1 : n < 0
  · have e1 : ¬ (32 < n) := by omega
    have e2 : ¬ (0 < n) := by omega
    simp [y_fn, y_seq, bindN_n, bindN_ret, bindN_exit, y_ops, mapN_some, y_skip, y_ret, y_exit, y_block, blockR_n, blockR_ret, blockR_exit, y_cond, condR_t, condR_f, condR_b, y_opsCons, bindO_some, y_opsNil, y_op0, evOp0, putR_some, callR_some, y_opG, guardR_b, guardR_u, y_drawn, mapD_some, y_drawnNil, y_drawnCons, drR_some, chkL_nil, chkL_cons, y_dop0, evDOp0, recR_some, dcallR_nil, dres_same, y_dopG, guardD_b, guardD_u, resR_ret, resR_n, y_pure, viewR_some, spR_nil, spR0_true, spR1_nil, put_eq, put_ne, put_none, upd_at, upd_off, app_nil, app_cons, shownIds, ids_undef, ids_bool, ids_int, ids_str, ids_agg, ids_tup, ids_nilptr, ids_ptr, ids_vptr, ids_sl, ids_vsl, ids_nilfunc, ids_func, ids_nilmap, ids_map, ids_niliface, ids_iface, idsL_nil, idsL_cons, view_64, runOp, AOpd.ev, argF, noA, AV.cellsOf, AV.isCell, cellsAt, fieldAddrOf, fieldOf, partOf, binOf, ib_add, ib_sub, ib_mul, ib_quo, ib_rem, ib_and, ib_or, ib_xor, ib_andNot, ib_eql, ib_neq, ib_lss, ib_leq, ib_gtr, ib_geq, un_neg, un_xor, un_not, intShift, strBin, aeq, eqCells, eqLeaf, eqRes, clash, AOp.silent, AOp.opds, optL, idsTop, addK, noK, viewL, viewAV, resRV, tupOf, fillParts, splice, foldMinMax, indexOf, indexAddrOf, lenIs, Fw.lenOf, convOf, bound, sliceOf, srcOf, bytesSrc, elemsOf, appendOf, capFits, growCap, nro, blkIds, flat, flatL, flatB, strOf, chunks, w1, w2, w3, w4, i64max, appB, sizeB, ByteArray.toList_eq, fi37, h1, e1, e2]
  · by_cases h2 : 32 < n
    · simp [y_fn, y_seq, bindN_n, bindN_ret, bindN_exit, y_ops, mapN_some, y_skip, y_ret, y_exit, y_block, blockR_n, blockR_ret, blockR_exit, y_cond, condR_t, condR_f, condR_b, y_opsCons, bindO_some, y_opsNil, y_op0, evOp0, putR_some, callR_some, y_opG, guardR_b, guardR_u, y_drawn, mapD_some, y_drawnNil, y_drawnCons, drR_some, chkL_nil, chkL_cons, y_dop0, evDOp0, recR_some, dcallR_nil, dres_same, y_dopG, guardD_b, guardD_u, resR_ret, resR_n, y_pure, viewR_some, spR_nil, spR0_true, spR1_nil, put_eq, put_ne, put_none, upd_at, upd_off, app_nil, app_cons, shownIds, ids_undef, ids_bool, ids_int, ids_str, ids_agg, ids_tup, ids_nilptr, ids_ptr, ids_vptr, ids_sl, ids_vsl, ids_nilfunc, ids_func, ids_nilmap, ids_map, ids_niliface, ids_iface, idsL_nil, idsL_cons, view_64, runOp, AOpd.ev, argF, noA, AV.cellsOf, AV.isCell, cellsAt, fieldAddrOf, fieldOf, partOf, binOf, ib_add, ib_sub, ib_mul, ib_quo, ib_rem, ib_and, ib_or, ib_xor, ib_andNot, ib_eql, ib_neq, ib_lss, ib_leq, ib_gtr, ib_geq, un_neg, un_xor, un_not, intShift, strBin, aeq, eqCells, eqLeaf, eqRes, clash, AOp.silent, AOp.opds, optL, idsTop, addK, noK, viewL, viewAV, resRV, tupOf, fillParts, splice, foldMinMax, indexOf, indexAddrOf, lenIs, Fw.lenOf, convOf, bound, sliceOf, srcOf, bytesSrc, elemsOf, appendOf, capFits, growCap, nro, blkIds, flat, flatL, flatB, strOf, chunks, w1, w2, w3, w4, i64max, appB, sizeB, ByteArray.toList_eq, fi37, h1, h2]
    · by_cases h3 : 0 < n
      · simp [y_fn, y_seq, bindN_n, bindN_ret, bindN_exit, y_ops, mapN_some, y_skip, y_ret, y_exit, y_block, blockR_n, blockR_ret, blockR_exit, y_cond, condR_t, condR_f, condR_b, y_opsCons, bindO_some, y_opsNil, y_op0, evOp0, putR_some, callR_some, y_opG, guardR_b, guardR_u, y_drawn, mapD_some, y_drawnNil, y_drawnCons, drR_some, chkL_nil, chkL_cons, y_dop0, evDOp0, recR_some, dcallR_nil, dres_same, y_dopG, guardD_b, guardD_u, resR_ret, resR_n, y_pure, viewR_some, spR_nil, spR0_true, spR1_nil, put_eq, put_ne, put_none, upd_at, upd_off, app_nil, app_cons, shownIds, ids_undef, ids_bool, ids_int, ids_str, ids_agg, ids_tup, ids_nilptr, ids_ptr, ids_vptr, ids_sl, ids_vsl, ids_nilfunc, ids_func, ids_nilmap, ids_map, ids_niliface, ids_iface, idsL_nil, idsL_cons, view_64, runOp, AOpd.ev, argF, noA, AV.cellsOf, AV.isCell, cellsAt, fieldAddrOf, fieldOf, partOf, binOf, ib_add, ib_sub, ib_mul, ib_quo, ib_rem, ib_and, ib_or, ib_xor, ib_andNot, ib_eql, ib_neq, ib_lss, ib_leq, ib_gtr, ib_geq, un_neg, un_xor, un_not, intShift, strBin, aeq, eqCells, eqLeaf, eqRes, clash, AOp.silent, AOp.opds, optL, idsTop, addK, noK, viewL, viewAV, resRV, tupOf, fillParts, splice, foldMinMax, indexOf, indexAddrOf, lenIs, Fw.lenOf, convOf, bound, sliceOf, srcOf, bytesSrc, elemsOf, appendOf, capFits, growCap, nro, blkIds, flat, flatL, flatB, strOf, chunks, w1, w2, w3, w4, i64max, appB, sizeB, ByteArray.toList_eq, fi37, h1, h2, h3]
      · have : n = 0 := by omega
        subst this
        simp [y_fn, y_seq, bindN_n, bindN_ret, bindN_exit, y_ops, mapN_some, y_skip, y_ret, y_exit, y_block, blockR_n, blockR_ret, blockR_exit, y_cond, condR_t, condR_f, condR_b, y_opsCons, bindO_some, y_opsNil, y_op0, evOp0, putR_some, callR_some, y_opG, guardR_b, guardR_u, y_drawn, mapD_some, y_drawnNil, y_drawnCons, drR_some, chkL_nil, chkL_cons, y_dop0, evDOp0, recR_some, dcallR_nil, dres_same, y_dopG, guardD_b, guardD_u, resR_ret, resR_n, y_pure, viewR_some, spR_nil, spR0_true, spR1_nil, put_eq, put_ne, put_none, upd_at, upd_off, app_nil, app_cons, shownIds, ids_undef, ids_bool, ids_int, ids_str, ids_agg, ids_tup, ids_nilptr, ids_ptr, ids_vptr, ids_sl, ids_vsl, ids_nilfunc, ids_func, ids_nilmap, ids_map, ids_niliface, ids_iface, idsL_nil, idsL_cons, view_64, runOp, AOpd.ev, argF, noA, AV.cellsOf, AV.isCell, cellsAt, fieldAddrOf, fieldOf, partOf, binOf, ib_add, ib_sub, ib_mul, ib_quo, ib_rem, ib_and, ib_or, ib_xor, ib_andNot, ib_eql, ib_neq, ib_lss, ib_leq, ib_gtr, ib_geq, un_neg, un_xor, un_not, intShift, strBin, aeq, eqCells, eqLeaf, eqRes, clash, AOp.silent, AOp.opds, optL, idsTop, addK, noK, viewL, viewAV, resRV, tupOf, fillParts, splice, foldMinMax, indexOf, indexAddrOf, lenIs, Fw.lenOf, convOf, bound, sliceOf, srcOf, bytesSrc, elemsOf, appendOf, capFits, growCap, nro, blkIds, flat, flatL, flatB, strOf, chunks, w1, w2, w3, w4, i64max, appB, sizeB, ByteArray.toList_eq, fi37]

def K13 : CallK := addK (addK (addK K12 45 (pureK spNumR)) 46 (pureK spOfR)) 37 (pureK spBnd)
theorem k13_45 (vs : List AV) (h : AHeap) (n : Nat) : K13 45 vs h n = pureK spNumR vs h n := rfl
theorem k13_46 (vs : List AV) (h : AHeap) (n : Nat) : K13 46 vs h n = pureK spOfR vs h n := rfl
theorem k13_37 (vs : List AV) (h : AHeap) (n : Nat) : K13 37 vs h n = pureK spBnd vs h n := rfl

theorem pure_call {sp : Sp} {vs : List AV} {r : AV} (h : AHeap) (n : Nat) (e : sp vs = some (r, [])) (hv : idsList vs = []) (hr : r.ids = []) : pureK sp vs h n = some (r, h, n) := by
  rw [y_pure, view_64 _ _ hv, viewR_some, e, spR_nil]
  unfold spR0
  rw [hv, hr]
  simp
theorem call46 (M : Nat) (hM : M < 4294967296) (h : AHeap) (n : Nat) : K13 46 [.int .u32 (M : Int)] h n = some (.agg (ofZ (M : Int)), h, n) := by
  rw [k13_46]
  refine pure_call h n ?_ rfl rfl
  unfold spOfR
  have h : 0 ≤ (M : Int) ∧ (M : Int) < 4294967296 := by omega
  simp only [h, and_self, if_true]
/-! Cut -/
def hBody : ACd := match fi38.ac with
  | .seq _ (.seq _ (.seq _ (.seq (.seq _ (.block _ (.loop b))) _))) => b
  | _ => .bad
def dBody : ACd := match fi38.ac with
  | .seq _ (.seq _ (.seq _ (.seq _ (.seq (.seq _ (.block _ (.loop b))) _)))) => b
  | _ => .bad
structure HI (s : FS) (ix : Nat) (k i n : Nat) : Prop where
  s4 : s.sl 4 = .ptr 1 0
  s5 : s.sl 5 = .int .u32 n
  s6 : s.sl 6 = .int .i64 k
  si : s.sl ix = .int .i64 i
  h1 : s.h 1 = some (.cells [.int .u8 0, .int .u8 0, .int .u8 0, .int .u8 0, .int .i64 0] false)

theorem hRound (s : FS) (k i n : Nat) (hi : i < 32) (hn : n < 4294967296) (I : HI s 7 k i n) : Wp K13 1000 hBody (fun e s' => e = .normal ∧ HI s' 7 k (i + 1) (n / 2)) s := by
  obtain ⟨s4, s5, s6, si, h1⟩ := I
  have e1 : (i : Int) < 32 := by omega
  have e2 : IntKind.i64.wrap ((i : Int) + 1) = (i : Int) + 1 := i64_wrap (by omega) (by omega)
  have e3 : IntKind.u32.wrap ((n : Int).tdiv 2) = ((n / 2 : Nat) : Int) := by
    rw [show (2 : Int) = ((2 : Nat) : Int) from rfl, tdiv_nat]; exact wrap_u32 (by omega) (by omega)
  have e4 : IntKind.u32.wrap ((n : Int) / 2) = (n : Int) / 2 := wrap_u32 (by omega) (by omega)
  simp [y_fn, y_seq, bindN_n, bindN_ret, bindN_exit, y_ops, mapN_some, y_skip, y_ret, y_exit, y_block, blockR_n, blockR_ret, blockR_exit, y_cond, condR_t, condR_f, condR_b, y_opsCons, bindO_some, y_opsNil, y_op0, evOp0, putR_some, callR_some, y_opG, guardR_b, guardR_u, y_drawn, mapD_some, y_drawnNil, y_drawnCons, drR_some, chkL_nil, chkL_cons, y_dop0, evDOp0, recR_some, dcallR_nil, dres_same, y_dopG, guardD_b, guardD_u, resR_ret, resR_n, y_pure, viewR_some, spR_nil, spR0_true, spR1_nil, put_eq, put_ne, put_none, upd_at, upd_off, app_nil, app_cons, shownIds, ids_undef, ids_bool, ids_int, ids_str, ids_agg, ids_tup, ids_nilptr, ids_ptr, ids_vptr, ids_sl, ids_vsl, ids_nilfunc, ids_func, ids_nilmap, ids_map, ids_niliface, ids_iface, idsL_nil, idsL_cons, view_64, runOp, AOpd.ev, argF, noA, AV.cellsOf, AV.isCell, cellsAt, fieldAddrOf, fieldOf, partOf, binOf, ib_add, ib_sub, ib_mul, ib_quo, ib_rem, ib_and, ib_or, ib_xor, ib_andNot, ib_eql, ib_neq, ib_lss, ib_leq, ib_gtr, ib_geq, un_neg, un_xor, un_not, intShift, strBin, aeq, eqCells, eqLeaf, eqRes, clash, AOp.silent, AOp.opds, optL, idsTop, addK, noK, viewL, viewAV, resRV, tupOf, fillParts, splice, foldMinMax, indexOf, indexAddrOf, lenIs, Fw.lenOf, convOf, bound, sliceOf, srcOf, bytesSrc, elemsOf, appendOf, capFits, growCap, nro, blkIds, flat, flatL, flatB, strOf, chunks, w1, w2, w3, w4, i64max, appB, sizeB, ByteArray.toList_eq, Wp, hBody, fi38, s4, s5, s6, si, h1, e1, e2, e3, e4]
  refine ⟨_, _, ⟨rfl, rfl⟩, rfl, ?_⟩
  constructor <;> simp [y_fn, y_seq, bindN_n, bindN_ret, bindN_exit, y_ops, mapN_some, y_skip, y_ret, y_exit, y_block, blockR_n, blockR_ret, blockR_exit, y_cond, condR_t, condR_f, condR_b, y_opsCons, bindO_some, y_opsNil, y_op0, evOp0, putR_some, callR_some, y_opG, guardR_b, guardR_u, y_drawn, mapD_some, y_drawnNil, y_drawnCons, drR_some, chkL_nil, chkL_cons, y_dop0, evDOp0, recR_some, dcallR_nil, dres_same, y_dopG, guardD_b, guardD_u, resR_ret, resR_n, y_pure, viewR_some, spR_nil, spR0_true, spR1_nil, put_eq, put_ne, put_none, upd_at, upd_off, app_nil, app_cons, shownIds, ids_undef, ids_bool, ids_int, ids_str, ids_agg, ids_tup, ids_nilptr, ids_ptr, ids_vptr, ids_sl, ids_vsl, ids_nilfunc, ids_func, ids_nilmap, ids_map, ids_niliface, ids_iface, idsL_nil, idsL_cons, view_64, runOp, AOpd.ev, argF, noA, AV.cellsOf, AV.isCell, cellsAt, fieldAddrOf, fieldOf, partOf, binOf, ib_add, ib_sub, ib_mul, ib_quo, ib_rem, ib_and, ib_or, ib_xor, ib_andNot, ib_eql, ib_neq, ib_lss, ib_leq, ib_gtr, ib_geq, un_neg, un_xor, un_not, intShift, strBin, aeq, eqCells, eqLeaf, eqRes, clash, AOp.silent, AOp.opds, optL, idsTop, addK, noK, viewL, viewAV, resRV, tupOf, fillParts, splice, foldMinMax, indexOf, indexAddrOf, lenIs, Fw.lenOf, convOf, bound, sliceOf, srcOf, bytesSrc, elemsOf, appendOf, capFits, growCap, nro, blkIds, flat, flatL, flatB, strOf, chunks, w1, w2, w3, w4, i64max, appB, sizeB, ByteArray.toList_eq, s4, s5, s6, si, h1, e1, e2, e3, e4]
theorem hEnd (s : FS) (k n : Nat) (I : HI s 7 k 32 n) : Wp K13 1000 hBody (fun e s' => e = .exit 0 ∧ HI s' 7 k 32 n) s := by
  obtain ⟨s4, s5, s6, si, h1⟩ := I
  simp [y_fn, y_seq, bindN_n, bindN_ret, bindN_exit, y_ops, mapN_some, y_skip, y_ret, y_exit, y_block, blockR_n, blockR_ret, blockR_exit, y_cond, condR_t, condR_f, condR_b, y_opsCons, bindO_some, y_opsNil, y_op0, evOp0, putR_some, callR_some, y_opG, guardR_b, guardR_u, y_drawn, mapD_some, y_drawnNil, y_drawnCons, drR_some, chkL_nil, chkL_cons, y_dop0, evDOp0, recR_some, dcallR_nil, dres_same, y_dopG, guardD_b, guardD_u, resR_ret, resR_n, y_pure, viewR_some, spR_nil, spR0_true, spR1_nil, put_eq, put_ne, put_none, upd_at, upd_off, app_nil, app_cons, shownIds, ids_undef, ids_bool, ids_int, ids_str, ids_agg, ids_tup, ids_nilptr, ids_ptr, ids_vptr, ids_sl, ids_vsl, ids_nilfunc, ids_func, ids_nilmap, ids_map, ids_niliface, ids_iface, idsL_nil, idsL_cons, view_64, runOp, AOpd.ev, argF, noA, AV.cellsOf, AV.isCell, cellsAt, fieldAddrOf, fieldOf, partOf, binOf, ib_add, ib_sub, ib_mul, ib_quo, ib_rem, ib_and, ib_or, ib_xor, ib_andNot, ib_eql, ib_neq, ib_lss, ib_leq, ib_gtr, ib_geq, un_neg, un_xor, un_not, intShift, strBin, aeq, eqCells, eqLeaf, eqRes, clash, AOp.silent, AOp.opds, optL, idsTop, addK, noK, viewL, viewAV, resRV, tupOf, fillParts, splice, foldMinMax, indexOf, indexAddrOf, lenIs, Fw.lenOf, convOf, bound, sliceOf, srcOf, bytesSrc, elemsOf, appendOf, capFits, growCap, nro, blkIds, flat, flatL, flatB, strOf, chunks, w1, w2, w3, w4, i64max, appB, sizeB, ByteArray.toList_eq, Wp, hBody, fi38, s4, s5, s6, si, h1]
  refine ⟨_, _, ⟨rfl, rfl⟩, rfl, ?_⟩
  constructor <;> simp [y_fn, y_seq, bindN_n, bindN_ret, bindN_exit, y_ops, mapN_some, y_skip, y_ret, y_exit, y_block, blockR_n, blockR_ret, blockR_exit, y_cond, condR_t, condR_f, condR_b, y_opsCons, bindO_some, y_opsNil, y_op0, evOp0, putR_some, callR_some, y_opG, guardR_b, guardR_u, y_drawn, mapD_some, y_drawnNil, y_drawnCons, drR_some, chkL_nil, chkL_cons, y_dop0, evDOp0, recR_some, dcallR_nil, dres_same, y_dopG, guardD_b, guardD_u, resR_ret, resR_n, y_pure, viewR_some, spR_nil, spR0_true, spR1_nil, put_eq, put_ne, put_none, upd_at, upd_off, app_nil, app_cons, shownIds, ids_undef, ids_bool, ids_int, ids_str, ids_agg, ids_tup, ids_nilptr, ids_ptr, ids_vptr, ids_sl, ids_vsl, ids_nilfunc, ids_func, ids_nilmap, ids_map, ids_niliface, ids_iface, idsL_nil, idsL_cons, view_64, runOp, AOpd.ev, argF, noA, AV.cellsOf, AV.isCell, cellsAt, fieldAddrOf, fieldOf, partOf, binOf, ib_add, ib_sub, ib_mul, ib_quo, ib_rem, ib_and, ib_or, ib_xor, ib_andNot, ib_eql, ib_neq, ib_lss, ib_leq, ib_gtr, ib_geq, un_neg, un_xor, un_not, intShift, strBin, aeq, eqCells, eqLeaf, eqRes, clash, AOp.silent, AOp.opds, optL, idsTop, addK, noK, viewL, viewAV, resRV, tupOf, fillParts, splice, foldMinMax, indexOf, indexAddrOf, lenIs, Fw.lenOf, convOf, bound, sliceOf, srcOf, bytesSrc, elemsOf, appendOf, capFits, growCap, nro, blkIds, flat, flatL, flatB, strOf, chunks, w1, w2, w3, w4, i64max, appB, sizeB, ByteArray.toList_eq, s4, s5, s6, si, h1]
theorem dRound (s : FS) (k i n : Nat) (hi : i < 32) (hn : n * 2 < 4294967296) (I : HI s 8 k i n) : Wp K13 1000 dBody (fun e s' => e = .normal ∧ HI s' 8 k (i + 1) (n * 2)) s := by
  obtain ⟨s4, s5, s6, si, h1⟩ := I
  have e1 : (i : Int) < 32 := by omega
  have e2 : IntKind.i64.wrap ((i : Int) + 1) = (i : Int) + 1 := i64_wrap (by omega) (by omega)
  have e3 : IntKind.u32.wrap ((n : Int) * 2) = (n : Int) * 2 := wrap_u32 (by omega) (by omega)
  simp [y_fn, y_seq, bindN_n, bindN_ret, bindN_exit, y_ops, mapN_some, y_skip, y_ret, y_exit, y_block, blockR_n, blockR_ret, blockR_exit, y_cond, condR_t, condR_f, condR_b, y_opsCons, bindO_some, y_opsNil, y_op0, evOp0, putR_some, callR_some, y_opG, guardR_b, guardR_u, y_drawn, mapD_some, y_drawnNil, y_drawnCons, drR_some, chkL_nil, chkL_cons, y_dop0, evDOp0, recR_some, dcallR_nil, dres_same, y_dopG, guardD_b, guardD_u, resR_ret, resR_n, y_pure, viewR_some, spR_nil, spR0_true, spR1_nil, put_eq, put_ne, put_none, upd_at, upd_off, app_nil, app_cons, shownIds, ids_undef, ids_bool, ids_int, ids_str, ids_agg, ids_tup, ids_nilptr, ids_ptr, ids_vptr, ids_sl, ids_vsl, ids_nilfunc, ids_func, ids_nilmap, ids_map, ids_niliface, ids_iface, idsL_nil, idsL_cons, view_64, runOp, AOpd.ev, argF, noA, AV.cellsOf, AV.isCell, cellsAt, fieldAddrOf, fieldOf, partOf, binOf, ib_add, ib_sub, ib_mul, ib_quo, ib_rem, ib_and, ib_or, ib_xor, ib_andNot, ib_eql, ib_neq, ib_lss, ib_leq, ib_gtr, ib_geq, un_neg, un_xor, un_not, intShift, strBin, aeq, eqCells, eqLeaf, eqRes, clash, AOp.silent, AOp.opds, optL, idsTop, addK, noK, viewL, viewAV, resRV, tupOf, fillParts, splice, foldMinMax, indexOf, indexAddrOf, lenIs, Fw.lenOf, convOf, bound, sliceOf, srcOf, bytesSrc, elemsOf, appendOf, capFits, growCap, nro, blkIds, flat, flatL, flatB, strOf, chunks, w1, w2, w3, w4, i64max, appB, sizeB, ByteArray.toList_eq, Wp, dBody, fi38, s4, s5, s6, si, h1, e1, e2, e3]
  refine ⟨_, _, ⟨rfl, rfl⟩, rfl, ?_⟩
  constructor <;> simp [y_fn, y_seq, bindN_n, bindN_ret, bindN_exit, y_ops, mapN_some, y_skip, y_ret, y_exit, y_block, blockR_n, blockR_ret, blockR_exit, y_cond, condR_t, condR_f, condR_b, y_opsCons, bindO_some, y_opsNil, y_op0, evOp0, putR_some, callR_some, y_opG, guardR_b, guardR_u, y_drawn, mapD_some, y_drawnNil, y_drawnCons, drR_some, chkL_nil, chkL_cons, y_dop0, evDOp0, recR_some, dcallR_nil, dres_same, y_dopG, guardD_b, guardD_u, resR_ret, resR_n, y_pure, viewR_some, spR_nil, spR0_true, spR1_nil, put_eq, put_ne, put_none, upd_at, upd_off, app_nil, app_cons, shownIds, ids_undef, ids_bool, ids_int, ids_str, ids_agg, ids_tup, ids_nilptr, ids_ptr, ids_vptr, ids_sl, ids_vsl, ids_nilfunc, ids_func, ids_nilmap, ids_map, ids_niliface, ids_iface, idsL_nil, idsL_cons, view_64, runOp, AOpd.ev, argF, noA, AV.cellsOf, AV.isCell, cellsAt, fieldAddrOf, fieldOf, partOf, binOf, ib_add, ib_sub, ib_mul, ib_quo, ib_rem, ib_and, ib_or, ib_xor, ib_andNot, ib_eql, ib_neq, ib_lss, ib_leq, ib_gtr, ib_geq, un_neg, un_xor, un_not, intShift, strBin, aeq, eqCells, eqLeaf, eqRes, clash, AOp.silent, AOp.opds, optL, idsTop, addK, noK, viewL, viewAV, resRV, tupOf, fillParts, splice, foldMinMax, indexOf, indexAddrOf, lenIs, Fw.lenOf, convOf, bound, sliceOf, srcOf, bytesSrc, elemsOf, appendOf, capFits, growCap, nro, blkIds, flat, flatL, flatB, strOf, chunks, w1, w2, w3, w4, i64max, appB, sizeB, ByteArray.toList_eq, s4, s5, s6, si, h1, e1, e2, e3]
theorem dEnd (s : FS) (k n : Nat) (I : HI s 8 k 32 n) : Wp K13 1000 dBody (fun e s' => e = .exit 2 ∧ HI s' 8 k 32 n) s := by
  obtain ⟨s4, s5, s6, si, h1⟩ := I
  simp [y_fn, y_seq, bindN_n, bindN_ret, bindN_exit, y_ops, mapN_some, y_skip, y_ret, y_exit, y_block, blockR_n, blockR_ret, blockR_exit, y_cond, condR_t, condR_f, condR_b, y_opsCons, bindO_some, y_opsNil, y_op0, evOp0, putR_some, callR_some, y_opG, guardR_b, guardR_u, y_drawn, mapD_some, y_drawnNil, y_drawnCons, drR_some, chkL_nil, chkL_cons, y_dop0, evDOp0, recR_some, dcallR_nil, dres_same, y_dopG, guardD_b, guardD_u, resR_ret, resR_n, y_pure, viewR_some, spR_nil, spR0_true, spR1_nil, put_eq, put_ne, put_none, upd_at, upd_off, app_nil, app_cons, shownIds, ids_undef, ids_bool, ids_int, ids_str, ids_agg, ids_tup, ids_nilptr, ids_ptr, ids_vptr, ids_sl, ids_vsl, ids_nilfunc, ids_func, ids_nilmap, ids_map, ids_niliface, ids_iface, idsL_nil, idsL_cons, view_64, runOp, AOpd.ev, argF, noA, AV.cellsOf, AV.isCell, cellsAt, fieldAddrOf, fieldOf, partOf, binOf, ib_add, ib_sub, ib_mul, ib_quo, ib_rem, ib_and, ib_or, ib_xor, ib_andNot, ib_eql, ib_neq, ib_lss, ib_leq, ib_gtr, ib_geq, un_neg, un_xor, un_not, intShift, strBin, aeq, eqCells, eqLeaf, eqRes, clash, AOp.silent, AOp.opds, optL, idsTop, addK, noK, viewL, viewAV, resRV, tupOf, fillParts, splice, foldMinMax, indexOf, indexAddrOf, lenIs, Fw.lenOf, convOf, bound, sliceOf, srcOf, bytesSrc, elemsOf, appendOf, capFits, growCap, nro, blkIds, flat, flatL, flatB, strOf, chunks, w1, w2, w3, w4, i64max, appB, sizeB, ByteArray.toList_eq, Wp, dBody, fi38, s4, s5, s6, si, h1]
  refine ⟨_, _, ⟨rfl, rfl⟩, rfl, ?_⟩
  constructor <;> simp [y_fn, y_seq, bindN_n, bindN_ret, bindN_exit, y_ops, mapN_some, y_skip, y_ret, y_exit, y_block, blockR_n, blockR_ret, blockR_exit, y_cond, condR_t, condR_f, condR_b, y_opsCons, bindO_some, y_opsNil, y_op0, evOp0, putR_some, callR_some, y_opG, guardR_b, guardR_u, y_drawn, mapD_some, y_drawnNil, y_drawnCons, drR_some, chkL_nil, chkL_cons, y_dop0, evDOp0, recR_some, dcallR_nil, dres_same, y_dopG, guardD_b, guardD_u, resR_ret, resR_n, y_pure, viewR_some, spR_nil, spR0_true, spR1_nil, put_eq, put_ne, put_none, upd_at, upd_off, app_nil, app_cons, shownIds, ids_undef, ids_bool, ids_int, ids_str, ids_agg, ids_tup, ids_nilptr, ids_ptr, ids_vptr, ids_sl, ids_vsl, ids_nilfunc, ids_func, ids_nilmap, ids_map, ids_niliface, ids_iface, idsL_nil, idsL_cons, view_64, runOp, AOpd.ev, argF, noA, AV.cellsOf, AV.isCell, cellsAt, fieldAddrOf, fieldOf, partOf, binOf, ib_add, ib_sub, ib_mul, ib_quo, ib_rem, ib_and, ib_or, ib_xor, ib_andNot, ib_eql, ib_neq, ib_lss, ib_leq, ib_gtr, ib_geq, un_neg, un_xor, un_not, intShift, strBin, aeq, eqCells, eqLeaf, eqRes, clash, AOp.silent, AOp.opds, optL, idsTop, addK, noK, viewL, viewAV, resRV, tupOf, fillParts, splice, foldMinMax, indexOf, indexAddrOf, lenIs, Fw.lenOf, convOf, bound, sliceOf, srcOf, bytesSrc, elemsOf, appendOf, capFits, growCap, nro, blkIds, flat, flatL, flatB, strOf, chunks, w1, w2, w3, w4, i64max, appB, sizeB, ByteArray.toList_eq, s4, s5, s6, si, h1]

theorem hLoop (k N : Nat) (hk : k ≤ 32) (hN : N < 4294967296) (s : FS) (I : HI s 7 k k N) : Wp K13 1000 (.loop hBody) (fun e s' => e = .exit 0 ∧ HI s' 7 k 32 (N / 2 ^ (32 - k))) s := by
  refine wp_loop' (fun j s => ∃ i, i + j = 32 ∧ k ≤ i ∧ HI s 7 k i (N / 2 ^ (i - k))) (32 - k) (by omega) ⟨k, by omega, Nat.le_refl _, by simpa using I⟩ ?_
  rintro j s ⟨i, hij, hki, hI⟩
  by_cases hi : i < 32
  · refine (hRound s k i _ hi (Nat.lt_of_le_of_lt (Nat.div_le_self _ _) hN) hI).mono ?_
    rintro e s' ⟨rfl, h⟩
    refine ⟨j - 1, by omega, i + 1, by omega, by omega, ?_⟩
    rw [show i + 1 - k = i - k + 1 by omega, Nat.pow_succ, ← Nat.div_div_eq_div_mul]
    exact h
  · obtain rfl : i = 32 := by omega
    refine (hEnd s k _ hI).mono ?_
    rintro e s' ⟨rfl, h⟩
    exact ⟨rfl, h⟩
theorem dLoop (k M : Nat) (hk : k ≤ 32) (hM : M * 2 ^ (32 - k) < 4294967296) (s : FS) (I : HI s 8 k k M) : Wp K13 1000 (.loop dBody) (fun e s' => e = .exit 2 ∧ HI s' 8 k 32 (M * 2 ^ (32 - k))) s := by
  refine wp_loop' (fun j s => ∃ i, i + j = 32 ∧ k ≤ i ∧ HI s 8 k i (M * 2 ^ (i - k))) (32 - k) (by omega) ⟨k, by omega, Nat.le_refl _, by simpa using I⟩ ?_
  rintro j s ⟨i, hij, hki, hI⟩
  by_cases hi : i < 32
  · have hle : M * 2 ^ (i - k) * 2 ≤ M * 2 ^ (32 - k) := by
      rw [Nat.mul_assoc, ← Nat.pow_succ]
      exact Nat.mul_le_mul_left _ (Nat.pow_le_pow_right (by decide) (by omega))
    refine (dRound s k i _ hi (by omega) hI).mono ?_
    rintro e s' ⟨rfl, h⟩
    refine ⟨j - 1, by omega, i + 1, by omega, by omega, ?_⟩
    rw [show i + 1 - k = i - k + 1 by omega, Nat.pow_succ, ← Nat.mul_assoc]
    exact h
  · obtain rfl : i = 32 := by omega
    refine (dEnd s k _ hI).mono ?_
    rintro e s' ⟨rfl, h⟩
    exact ⟨rfl, h⟩

theorem cutZ_nat {a b c d k : Nat} {n : Int} (ha : a < 256) (hb : b < 256) (hc : c < 256) (hd : d < 256) (hk : clampZ n = k) (hk32 : k ≤ 32) : cutZ (a : Int) b c d n = ofZ (cutP (val a b c d) k : Int) ++ [.int .i64 k] := by
  have e : cutN (a : Int) b c d n = cutP (val a b c d) k := by
    have h := cutN_nat ha hb hc hd hk32
    have e2 : maskZ n = maskZ (k : Int) := by unfold maskZ; rw [hk, clamp_id hk32]
    unfold cutN at h ⊢
    rw [e2]; exact h
  unfold cutZ ofZ
  rw [e, hk]; rfl
def cTail : ACd := match fi38.ac with
  | .seq _ (.seq _ (.seq _ (.seq _ (.seq _ b)))) => b
  | _ => .bad
theorem cutTail0 (s : FS) (M k : Int) (x0 x1 x2 x3 : Int) (l1 : ∀ h n, K13 46 [.int .u32 M] h n = some (.agg [.int .u8 x0, .int .u8 x1, .int .u8 x2, .int .u8 x3], h, n))
  (s4 : s.sl 4 = .ptr 1 0) (s5 : s.sl 5 = .int .u32 M) (s6 : s.sl 6 = .int .i64 k) (h1 : s.h 1 = some (.cells [.int .u8 0, .int .u8 0, .int .u8 0, .int .u8 0, .int .i64 0] false)) :
   Wp K13 1000 cTail (fun e s' => e = .ret ∧ s'.sl 4 = .ptr 1 0 ∧ s'.h 1 = some (.cells [.int .u8 x0, .int .u8 x1, .int .u8 x2, .int .u8 x3, .int .i64 k] false)) s := by
  simp [y_fn, y_seq, bindN_n, bindN_ret, bindN_exit, y_ops, mapN_some, y_skip, y_ret, y_exit, y_block, blockR_n, blockR_ret, blockR_exit, y_cond, condR_t, condR_f, condR_b, y_opsCons, bindO_some, y_opsNil, y_op0, evOp0, putR_some, callR_some, y_opG, guardR_b, guardR_u, y_drawn, mapD_some, y_drawnNil, y_drawnCons, drR_some, chkL_nil, chkL_cons, y_dop0, evDOp0, recR_some, dcallR_nil, dres_same, y_dopG, guardD_b, guardD_u, resR_ret, resR_n, y_pure, viewR_some, spR_nil, spR0_true, spR1_nil, put_eq, put_ne, put_none, upd_at, upd_off, app_nil, app_cons, shownIds, ids_undef, ids_bool, ids_int, ids_str, ids_agg, ids_tup, ids_nilptr, ids_ptr, ids_vptr, ids_sl, ids_vsl, ids_nilfunc, ids_func, ids_nilmap, ids_map, ids_niliface, ids_iface, idsL_nil, idsL_cons, view_64, runOp, AOpd.ev, argF, noA, AV.cellsOf, AV.isCell, cellsAt, fieldAddrOf, fieldOf, partOf, binOf, ib_add, ib_sub, ib_mul, ib_quo, ib_rem, ib_and, ib_or, ib_xor, ib_andNot, ib_eql, ib_neq, ib_lss, ib_leq, ib_gtr, ib_geq, un_neg, un_xor, un_not, intShift, strBin, aeq, eqCells, eqLeaf, eqRes, clash, AOp.silent, AOp.opds, optL, idsTop, addK, noK, viewL, viewAV, resRV, tupOf, fillParts, splice, foldMinMax, indexOf, indexAddrOf, lenIs, Fw.lenOf, convOf, bound, sliceOf, srcOf, bytesSrc, elemsOf, appendOf, capFits, growCap, nro, blkIds, flat, flatL, flatB, strOf, chunks, w1, w2, w3, w4, i64max, appB, sizeB, ByteArray.toList_eq, Wp, cTail, fi38, s4, s5, s6, h1, l1]
  refine ⟨_, _, ⟨rfl, rfl⟩, rfl, ?_⟩
  simp [y_fn, y_seq, bindN_n, bindN_ret, bindN_exit, y_ops, mapN_some, y_skip, y_ret, y_exit, y_block, blockR_n, blockR_ret, blockR_exit, y_cond, condR_t, condR_f, condR_b, y_opsCons, bindO_some, y_opsNil, y_op0, evOp0, putR_some, callR_some, y_opG, guardR_b, guardR_u, y_drawn, mapD_some, y_drawnNil, y_drawnCons, drR_some, chkL_nil, chkL_cons, y_dop0, evDOp0, recR_some, dcallR_nil, dres_same, y_dopG, guardD_b, guardD_u, resR_ret, resR_n, y_pure, viewR_some, spR_nil, spR0_true, spR1_nil, put_eq, put_ne, put_none, upd_at, upd_off, app_nil, app_cons, shownIds, ids_undef, ids_bool, ids_int, ids_str, ids_agg, ids_tup, ids_nilptr, ids_ptr, ids_vptr, ids_sl, ids_vsl, ids_nilfunc, ids_func, ids_nilmap, ids_map, ids_niliface, ids_iface, idsL_nil, idsL_cons, view_64, runOp, AOpd.ev, argF, noA, AV.cellsOf, AV.isCell, cellsAt, fieldAddrOf, fieldOf, partOf, binOf, ib_add, ib_sub, ib_mul, ib_quo, ib_rem, ib_and, ib_or, ib_xor, ib_andNot, ib_eql, ib_neq, ib_lss, ib_leq, ib_gtr, ib_geq, un_neg, un_xor, un_not, intShift, strBin, aeq, eqCells, eqLeaf, eqRes, clash, AOp.silent, AOp.opds, optL, idsTop, addK, noK, viewL, viewAV, resRV, tupOf, fillParts, splice, foldMinMax, indexOf, indexAddrOf, lenIs, Fw.lenOf, convOf, bound, sliceOf, srcOf, bytesSrc, elemsOf, appendOf, capFits, growCap, nro, blkIds, flat, flatL, flatB, strOf, chunks, w1, w2, w3, w4, i64max, appB, sizeB, ByteArray.toList_eq, s4, h1]
theorem cutTail (s : FS) (M k : Nat) (hM : M < 4294967296) (I : HI s 8 k 32 M) : Wp K13 1000 cTail (fun e s' => (e = .normal ∨ e = .ret) ∧ ∃ rs, fi38.res.mapM (resRV s') = some rs ∧ tupOf rs = .agg (ofZ (M : Int) ++ [.int .i64 k])) s := by
  obtain ⟨s4, s5, s6, si, h1⟩ := I
  obtain ⟨x0, x1, x2, x3, hx⟩ : ∃ x0 x1 x2 x3, ofZ (M : Int) = [.int .u8 x0, .int .u8 x1, .int .u8 x2, .int .u8 x3] := ⟨_, _, _, _, rfl⟩
  have l1 := call46 M hM
  rw [hx] at l1 ⊢
  refine (cutTail0 s M k x0 x1 x2 x3 l1 s4 s5 s6 h1).mono ?_
  rintro e s' ⟨rfl, e4, e1⟩
  refine ⟨.inr rfl, [.agg [.int .u8 x0, .int .u8 x1, .int .u8 x2, .int .u8 x3, .int .i64 k]], ?_, rfl⟩
  simp [y_fn, y_seq, bindN_n, bindN_ret, bindN_exit, y_ops, mapN_some, y_skip, y_ret, y_exit, y_block, blockR_n, blockR_ret, blockR_exit, y_cond, condR_t, condR_f, condR_b, y_opsCons, bindO_some, y_opsNil, y_op0, evOp0, putR_some, callR_some, y_opG, guardR_b, guardR_u, y_drawn, mapD_some, y_drawnNil, y_drawnCons, drR_some, chkL_nil, chkL_cons, y_dop0, evDOp0, recR_some, dcallR_nil, dres_same, y_dopG, guardD_b, guardD_u, resR_ret, resR_n, y_pure, viewR_some, spR_nil, spR0_true, spR1_nil, put_eq, put_ne, put_none, upd_at, upd_off, app_nil, app_cons, shownIds, ids_undef, ids_bool, ids_int, ids_str, ids_agg, ids_tup, ids_nilptr, ids_ptr, ids_vptr, ids_sl, ids_vsl, ids_nilfunc, ids_func, ids_nilmap, ids_map, ids_niliface, ids_iface, idsL_nil, idsL_cons, view_64, runOp, AOpd.ev, argF, noA, AV.cellsOf, AV.isCell, cellsAt, fieldAddrOf, fieldOf, partOf, binOf, ib_add, ib_sub, ib_mul, ib_quo, ib_rem, ib_and, ib_or, ib_xor, ib_andNot, ib_eql, ib_neq, ib_lss, ib_leq, ib_gtr, ib_geq, un_neg, un_xor, un_not, intShift, strBin, aeq, eqCells, eqLeaf, eqRes, clash, AOp.silent, AOp.opds, optL, idsTop, addK, noK, viewL, viewAV, resRV, tupOf, fillParts, splice, foldMinMax, indexOf, indexAddrOf, lenIs, Fw.lenOf, convOf, bound, sliceOf, srcOf, bytesSrc, elemsOf, appendOf, capFits, growCap, nro, blkIds, flat, flatL, flatB, strOf, chunks, w1, w2, w3, w4, i64max, appB, sizeB, ByteArray.toList_eq, fi38, e4, e1]
def spCutR : Sp
  | [.agg [.int .u8 a, .int .u8 b, .int .u8 c, .int .u8 d], .int .i64 n] => if bytes4 a b c d = true then some (.agg (cutZ a b c d n), []) else none
  | _ => none
set_option maxHeartbeats 2000000 in
theorem cutR_run (a b c d n : Int) (hB : bytes4 a b c d = true) : ∃ h' n', runFn K13 1000 fi38 [.agg [.int .u8 a, .int .u8 b, .int .u8 c, .int .u8 d], .int .i64 n] noA 0 = some (.agg (cutZ a b c d n), h', n') := by
  suffices h : ∃ r h' n', runFn K13 1000 fi38 [.agg [.int .u8 a, .int .u8 b, .int .u8 c, .int .u8 d], .int .i64 n] noA 0 = some (r, h', n') ∧ r = .agg (cutZ a b c d n) by
    obtain ⟨r, h', n', h1, rfl⟩ := h; exact ⟨h', n', h1⟩
  obtain ⟨p, q, r, s, rfl, rfl, rfl, rfl, hp, hq, hr, hs⟩ := bytes4_nat hB
  obtain ⟨k, hk⟩ : ∃ k : Nat, clampZ n = k := ⟨(clampZ n).toNat, by have := clamp_range n; omega⟩
  have hk32 : k ≤ 32 := by have := clamp_range n; omega
  have hN := val_lt hp hq hr hs
  have hnum : numZ (p : Int) q r s = (val p q r s : Int) := num_nat hp hq hr hs
  refine run_of_wp (R := fun r' _ _ => r' = .agg (cutZ (p : Int) q r s n)) (Nat.le_of_ble_eq_true rfl) ?_
  refine wp_seq' ⟨_, _, rfl, (show Wp _ _ _ _ _ from ?_)⟩
  refine wp_seq' ?_
  refine (show ∃ e s', evC _ _ _ _ = some (e, s') ∧ _ from ?_)
  simp [y_fn, y_seq, bindN_n, bindN_ret, bindN_exit, y_ops, mapN_some, y_skip, y_ret, y_exit, y_block, blockR_n, blockR_ret, blockR_exit, y_cond, condR_t, condR_f, condR_b, y_opsCons, bindO_some, y_opsNil, y_op0, evOp0, putR_some, callR_some, y_opG, guardR_b, guardR_u, y_drawn, mapD_some, y_drawnNil, y_drawnCons, drR_some, chkL_nil, chkL_cons, y_dop0, evDOp0, recR_some, dcallR_nil, dres_same, y_dopG, guardD_b, guardD_u, resR_ret, resR_n, y_pure, viewR_some, spR_nil, spR0_true, spR1_nil, put_eq, put_ne, put_none, upd_at, upd_off, app_nil, app_cons, shownIds, ids_undef, ids_bool, ids_int, ids_str, ids_agg, ids_tup, ids_nilptr, ids_ptr, ids_vptr, ids_sl, ids_vsl, ids_nilfunc, ids_func, ids_nilmap, ids_map, ids_niliface, ids_iface, idsL_nil, idsL_cons, view_64, runOp, AOpd.ev, argF, noA, AV.cellsOf, AV.isCell, cellsAt, fieldAddrOf, fieldOf, partOf, binOf, ib_add, ib_sub, ib_mul, ib_quo, ib_rem, ib_and, ib_or, ib_xor, ib_andNot, ib_eql, ib_neq, ib_lss, ib_leq, ib_gtr, ib_geq, un_neg, un_xor, un_not, intShift, strBin, aeq, eqCells, eqLeaf, eqRes, clash, AOp.silent, AOp.opds, optL, idsTop, addK, noK, viewL, viewAV, resRV, tupOf, fillParts, splice, foldMinMax, indexOf, indexAddrOf, lenIs, Fw.lenOf, convOf, bound, sliceOf, srcOf, bytesSrc, elemsOf, appendOf, capFits, growCap, nro, blkIds, flat, flatL, flatB, strOf, chunks, w1, w2, w3, w4, i64max, appB, sizeB, ByteArray.toList_eq, k13_45, spNumR, hB, hnum]
  refine ⟨_, _, ⟨rfl, rfl⟩, ?_⟩
  refine (show Wp _ _ _ _ _ from ?_)
  refine wp_seq' ?_
  refine (show ∃ e s', evC _ _ _ _ = some (e, s') ∧ _ from ?_)
  simp [y_fn, y_seq, bindN_n, bindN_ret, bindN_exit, y_ops, mapN_some, y_skip, y_ret, y_exit, y_block, blockR_n, blockR_ret, blockR_exit, y_cond, condR_t, condR_f, condR_b, y_opsCons, bindO_some, y_opsNil, y_op0, evOp0, putR_some, callR_some, y_opG, guardR_b, guardR_u, y_drawn, mapD_some, y_drawnNil, y_drawnCons, drR_some, chkL_nil, chkL_cons, y_dop0, evDOp0, recR_some, dcallR_nil, dres_same, y_dopG, guardD_b, guardD_u, resR_ret, resR_n, y_pure, viewR_some, spR_nil, spR0_true, spR1_nil, put_eq, put_ne, put_none, upd_at, upd_off, app_nil, app_cons, shownIds, ids_undef, ids_bool, ids_int, ids_str, ids_agg, ids_tup, ids_nilptr, ids_ptr, ids_vptr, ids_sl, ids_vsl, ids_nilfunc, ids_func, ids_nilmap, ids_map, ids_niliface, ids_iface, idsL_nil, idsL_cons, view_64, runOp, AOpd.ev, argF, noA, AV.cellsOf, AV.isCell, cellsAt, fieldAddrOf, fieldOf, partOf, binOf, ib_add, ib_sub, ib_mul, ib_quo, ib_rem, ib_and, ib_or, ib_xor, ib_andNot, ib_eql, ib_neq, ib_lss, ib_leq, ib_gtr, ib_geq, un_neg, un_xor, un_not, intShift, strBin, aeq, eqCells, eqLeaf, eqRes, clash, AOp.silent, AOp.opds, optL, idsTop, addK, noK, viewL, viewAV, resRV, tupOf, fillParts, splice, foldMinMax, indexOf, indexAddrOf, lenIs, Fw.lenOf, convOf, bound, sliceOf, srcOf, bytesSrc, elemsOf, appendOf, capFits, growCap, nro, blkIds, flat, flatL, flatB, strOf, chunks, w1, w2, w3, w4, i64max, appB, sizeB, ByteArray.toList_eq, k13_37, spBnd, hk]
  refine ⟨_, _, ⟨rfl, rfl⟩, ?_⟩
  refine (show Wp _ _ _ _ _ from ?_)
  refine wp_seq' (wp_seq' ⟨_, _, rfl, (show Wp _ _ _ _ _ from ?_)⟩)
  refine wp_block' ((hLoop k (val p q r s) hk32 hN _ (by constructor <;> rfl)).mono ?_)
  rintro e s' ⟨rfl, s4, s5, s6, si, h1⟩
  refine (show Wp _ _ _ _ _ from ?_)
  refine wp_seq' (wp_seq' ⟨_, _, rfl, (show Wp _ _ _ _ _ from ?_)⟩)
  refine wp_block' ((dLoop k (val p q r s / 2 ^ (32 - k)) hk32 (Nat.lt_of_le_of_lt (Nat.div_mul_le_self _ _) hN) _ (by constructor <;> simp [y_fn, y_seq, bindN_n, bindN_ret, bindN_exit, y_ops, mapN_some, y_skip, y_ret, y_exit, y_block, blockR_n, blockR_ret, blockR_exit, y_cond, condR_t, condR_f, condR_b, y_opsCons, bindO_some, y_opsNil, y_op0, evOp0, putR_some, callR_some, y_opG, guardR_b, guardR_u, y_drawn, mapD_some, y_drawnNil, y_drawnCons, drR_some, chkL_nil, chkL_cons, y_dop0, evDOp0, recR_some, dcallR_nil, dres_same, y_dopG, guardD_b, guardD_u, resR_ret, resR_n, y_pure, viewR_some, spR_nil, spR0_true, spR1_nil, put_eq, put_ne, put_none, upd_at, upd_off, app_nil, app_cons, shownIds, ids_undef, ids_bool, ids_int, ids_str, ids_agg, ids_tup, ids_nilptr, ids_ptr, ids_vptr, ids_sl, ids_vsl, ids_nilfunc, ids_func, ids_nilmap, ids_map, ids_niliface, ids_iface, idsL_nil, idsL_cons, view_64, runOp, AOpd.ev, argF, noA, AV.cellsOf, AV.isCell, cellsAt, fieldAddrOf, fieldOf, partOf, binOf, ib_add, ib_sub, ib_mul, ib_quo, ib_rem, ib_and, ib_or, ib_xor, ib_andNot, ib_eql, ib_neq, ib_lss, ib_leq, ib_gtr, ib_geq, un_neg, un_xor, un_not, intShift, strBin, aeq, eqCells, eqLeaf, eqRes, clash, AOp.silent, AOp.opds, optL, idsTop, addK, noK, viewL, viewAV, resRV, tupOf, fillParts, splice, foldMinMax, indexOf, indexAddrOf, lenIs, Fw.lenOf, convOf, bound, sliceOf, srcOf, bytesSrc, elemsOf, appendOf, capFits, growCap, nro, blkIds, flat, flatL, flatB, strOf, chunks, w1, w2, w3, w4, i64max, appB, sizeB, ByteArray.toList_eq, s4, s5, s6, h1])).mono ?_)
  rintro e s'' ⟨rfl, s4, s5, s6, si, h1⟩
  have hlt : cutP (val p q r s) k < 4294967296 := cutP_lt7 hN
  have hZ := cutZ_nat hp hq hr hs hk hk32
  have s5 : s''.sl 5 = .int .u32 (cutP (val p q r s) k : Nat) := s5
  rw [hZ]
  exact cutTail s'' _ k hlt ⟨s4, s5, s6, si, h1⟩
end Go.Fw.Sy.Ad
