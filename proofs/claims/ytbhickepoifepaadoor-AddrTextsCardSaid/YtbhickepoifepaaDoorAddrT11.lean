/- The reference's Parse and ParseNet, run. -/
import Derived.Test.YtbhickepoifepaaDoorAddrT10
set_option maxRecDepth 20000
set_option linter.unusedSimpArgs false
set_option linter.unusedVariables false
namespace Go.Fw.Sy.Ad

theorem cellsN_ids (p : List Int) (x : Int) : idsList (cellsN p x) = [] := by
  unfold cellsN
  induction p with
  | nil => rfl
  | cons a p ih => simp only [List.map_cons, List.cons_append, idsL_cons, ids_int, List.nil_append]; exact ih
theorem hAdd_ints (h : AHeap) (n : Nat) (p : List Int) (x : Int) : hAdd h n [.cells (cellsN p x) false] = upd h n (some (.cells (cellsN p x) false)) := by
  funext id
  unfold hAdd upd
  by_cases e : id = n
  · subst e
    have : inR id [Blk.cells (cellsN p x) false].length id = true := inR_iff.2 ⟨Nat.le_refl _, by simp⟩
    rw [this]
    simp only [cond_true, if_true, Nat.sub_self, List.getElem?_cons_zero, Option.map_some, renB, idsL_nil_ren _ _ (cellsN_ids p x)]
  · have : inR n [Blk.cells (cellsN p x) false].length id = false := by
      rw [Bool.eq_false_iff]
      intro h
      have := inR_iff.1 h
      simp at this; omega
    rw [this, if_neg e]; rfl
theorem k20_26 (vs : List AV) (h : AHeap) (n : Nat) : K20 26 vs h n = pureK spNums vs h n := rfl
theorem call26 (l : List UInt8) (hl : l.length ≤ 200) (h : AHeap) (n : Nat) : K20 26 [.str ⟨l.toArray⟩] h n = some (.sl n 0 ((numsP l).1.length + 1) (capN (numsP l).1) 1, upd h n (some (.cells (cellsN (numsP l).1 (numsP l).2) false)), n + 1) := by
  rw [k20_26, ← hAdd_ints, y_pure, view_64 _ _ rfl, viewR_some]
  have e : spNums [.str ⟨l.toArray⟩] = some (.sl 0 0 ((numsP l).1.length + 1) (capN (numsP l).1) 1, [.cells (cellsN (numsP l).1 (numsP l).2) false]) := by
    have hs : (ByteArray.mk l.toArray).size ≤ 200 := by rw [sizeB]; exact hl
    unfold spNums
    simp only [hs, if_true]
  rw [e, spR_cons]
  rfl
theorem nums_all (l : List UInt8) : (∀ y ∈ (numsP l).1, 0 ≤ y ∧ y < 20000) ∧ 0 ≤ (numsP l).2 ∧ (numsP l).2 < 20000 := by
  have key : ∀ (l : List UInt8) (p : List Int) (x : Int), (∀ y ∈ p, 0 ≤ y ∧ y < 20000) → 0 ≤ x → x < 20000 → (∀ y ∈ (l.foldl numStep (p, x)).1, 0 ≤ y ∧ y < 20000) ∧ 0 ≤ (l.foldl numStep (p, x)).2 ∧ (l.foldl numStep (p, x)).2 < 20000 := by
    intro l
    induction l with
    | nil => intro p x h h0 h1; exact ⟨h, h0, h1⟩
    | cons c l ih =>
      intro p x h h0 h1
      obtain ⟨k1, k2, _⟩ := numStep_ok p x c h0 h1
      refine ih (numStep (p, x) c).1 (numStep (p, x) c).2 ?_ k1 k2
      unfold numStep
      split
      · split
        · exact h
        · exact h
      · intro y hy
        rcases List.mem_append.1 hy with hy | hy
        · exact h y hy
        · rw [List.mem_singleton.1 hy]; exact ⟨h0, h1⟩
  exact key l [] 0 (fun y hy => by cases hy) (by omega) (by omega)

def refP (l : List UInt8) : Option (Int × Int × Int × Int) := match numsP l with
  | ([a, b, c], d) => if a ≤ 255 ∧ b ≤ 255 ∧ c ≤ 255 ∧ d ≤ 255 ∧ textL a b c d = l then some (a, b, c, d) else none
  | _ => none
def refN (l : List UInt8) : Option (Int × Int × Int × Int × Int) := match numsP l with
  | ([a, b, c, d], n) => if a ≤ 255 ∧ b ≤ 255 ∧ c ≤ 255 ∧ d ≤ 255 ∧ netTextL a b c d n = l then some (a, b, c, d, n) else none
  | _ => none
theorem k20_18 (vs : List AV) (h : AHeap) (n : Nat) : K20 18 vs h n = pureK spTextR vs h n := rfl
theorem k20_20 (vs : List AV) (h : AHeap) (n : Nat) : K20 20 vs h n = pureK spNetTextR vs h n := rfl
theorem call18 (a b c d : Int) (hB : bytes4 a b c d = true) (h : AHeap) (m : Nat) : K20 18 [.agg [.int .u8 a, .int .u8 b, .int .u8 c, .int .u8 d]] h m = some (.str ⟨(textL a b c d).toArray⟩, h, m) := by
  rw [k20_18]
  refine pure_call h m ?_ rfl rfl
  unfold spTextR
  simp only [hB, if_true]
theorem call20 (a b c d n : Int) (hB : bytes4 a b c d = true) (h : AHeap) (m : Nat) : K20 20 [.agg [.int .u8 a, .int .u8 b, .int .u8 c, .int .u8 d, .int .i64 n]] h m = some (.str ⟨(netTextL a b c d n).toArray⟩, h, m) := by
  rw [k20_20]
  refine pure_call h m ?_ rfl rfl
  unfold spNetTextR
  simp only [hB, if_true]

set_option maxHeartbeats 4000000 in
theorem refParse_run (l : List UInt8) (hl : l.length ≤ 200) : ∃ h' n', runFn K20 1000 fi14 [.str ⟨l.toArray⟩] noA 0 = some (resP (refP l), h', n') := by
  have l1 := call26 l hl
  obtain ⟨hall, hd0, hd1⟩ := nums_all l
  by_cases h4 : (numsP l).1.length = 3
  · obtain ⟨a, b, c, hp⟩ : ∃ a b c, (numsP l).1 = [a, b, c] := by
      match hq : (numsP l).1, h4 with
      | [a, b, c], _ => exact ⟨a, b, c, rfl⟩
    obtain ⟨d, hd⟩ : ∃ d, (numsP l).2 = d := ⟨_, rfl⟩
    have hn : numsP l = ([a, b, c], d) := by rw [← hp, ← hd]
    rw [hp] at hall l1
    rw [hd] at hd0 hd1 l1
    have ha := hall a (by simp)
    have hb := hall b (by simp)
    have hc := hall c (by simp)
    have er : refP l = if a ≤ 255 ∧ b ≤ 255 ∧ c ≤ 255 ∧ d ≤ 255 ∧ textL a b c d = l then some (a, b, c, d) else none := by simp only [refP, hn]
    rw [er]
    simp only [cellsN, capN, List.map, List.length, List.cons_append, List.nil_append] at l1
    by_cases ga : 255 < a
    · have ga' : ¬ a ≤ 255 := by omega
      simp [y_fn, y_seq, bindN_n, bindN_ret, bindN_exit, y_ops, mapN_some, y_skip, y_ret, y_exit, y_block, blockR_n, blockR_ret, blockR_exit, y_cond, condR_t, condR_f, condR_b, y_opsCons, bindO_some, y_opsNil, y_op0, evOp0, putR_some, callR_some, y_opG, guardR_b, guardR_u, y_drawn, mapD_some, y_drawnNil, y_drawnCons, drR_some, chkL_nil, chkL_cons, y_dop0, evDOp0, recR_some, dcallR_nil, dres_same, y_dopG, guardD_b, guardD_u, resR_ret, resR_n, y_pure, viewR_some, spR_nil, spR0_true, spR1_nil, put_eq, put_ne, put_none, upd_at, upd_off, app_nil, app_cons, shownIds, ids_undef, ids_bool, ids_int, ids_str, ids_agg, ids_tup, ids_nilptr, ids_ptr, ids_vptr, ids_sl, ids_vsl, ids_nilfunc, ids_func, ids_nilmap, ids_map, ids_niliface, ids_iface, idsL_nil, idsL_cons, view_64, runOp, AOpd.ev, argF, noA, AV.cellsOf, AV.isCell, cellsAt, fieldAddrOf, fieldOf, partOf, binOf, ib_add, ib_sub, ib_mul, ib_quo, ib_rem, ib_and, ib_or, ib_xor, ib_andNot, ib_eql, ib_neq, ib_lss, ib_leq, ib_gtr, ib_geq, un_neg, un_xor, un_not, intShift, strBin, aeq, eqCells, eqLeaf, eqRes, clash, AOp.silent, AOp.opds, optL, idsTop, addK, noK, viewL, viewAV, resRV, tupOf, fillParts, splice, foldMinMax, indexOf, indexAddrOf, lenIs, Fw.lenOf, convOf, bound, sliceOf, srcOf, bytesSrc, elemsOf, appendOf, capFits, growCap, nro, blkIds, flat, flatL, flatB, strOf, chunks, w1, w2, w3, w4, i64max, appB, sizeB, ByteArray.toList_eq, y_loop, y_loopE, fi14, l1, ga, ga', resP]
    · have wa : IntKind.u8.wrap a = a := wrap_u8' (by omega) (by omega)
      have ga' : a ≤ 255 := by omega
      by_cases gb : 255 < b
      · have gb' : ¬ b ≤ 255 := by omega
        simp [y_fn, y_seq, bindN_n, bindN_ret, bindN_exit, y_ops, mapN_some, y_skip, y_ret, y_exit, y_block, blockR_n, blockR_ret, blockR_exit, y_cond, condR_t, condR_f, condR_b, y_opsCons, bindO_some, y_opsNil, y_op0, evOp0, putR_some, callR_some, y_opG, guardR_b, guardR_u, y_drawn, mapD_some, y_drawnNil, y_drawnCons, drR_some, chkL_nil, chkL_cons, y_dop0, evDOp0, recR_some, dcallR_nil, dres_same, y_dopG, guardD_b, guardD_u, resR_ret, resR_n, y_pure, viewR_some, spR_nil, spR0_true, spR1_nil, put_eq, put_ne, put_none, upd_at, upd_off, app_nil, app_cons, shownIds, ids_undef, ids_bool, ids_int, ids_str, ids_agg, ids_tup, ids_nilptr, ids_ptr, ids_vptr, ids_sl, ids_vsl, ids_nilfunc, ids_func, ids_nilmap, ids_map, ids_niliface, ids_iface, idsL_nil, idsL_cons, view_64, runOp, AOpd.ev, argF, noA, AV.cellsOf, AV.isCell, cellsAt, fieldAddrOf, fieldOf, partOf, binOf, ib_add, ib_sub, ib_mul, ib_quo, ib_rem, ib_and, ib_or, ib_xor, ib_andNot, ib_eql, ib_neq, ib_lss, ib_leq, ib_gtr, ib_geq, un_neg, un_xor, un_not, intShift, strBin, aeq, eqCells, eqLeaf, eqRes, clash, AOp.silent, AOp.opds, optL, idsTop, addK, noK, viewL, viewAV, resRV, tupOf, fillParts, splice, foldMinMax, indexOf, indexAddrOf, lenIs, Fw.lenOf, convOf, bound, sliceOf, srcOf, bytesSrc, elemsOf, appendOf, capFits, growCap, nro, blkIds, flat, flatL, flatB, strOf, chunks, w1, w2, w3, w4, i64max, appB, sizeB, ByteArray.toList_eq, y_loop, y_loopE, fi14, l1, ga, gb, gb', wa, resP]
      · have wb : IntKind.u8.wrap b = b := wrap_u8' (by omega) (by omega)
        have gb' : b ≤ 255 := by omega
        by_cases gc : 255 < c
        · have gc' : ¬ c ≤ 255 := by omega
          simp [y_fn, y_seq, bindN_n, bindN_ret, bindN_exit, y_ops, mapN_some, y_skip, y_ret, y_exit, y_block, blockR_n, blockR_ret, blockR_exit, y_cond, condR_t, condR_f, condR_b, y_opsCons, bindO_some, y_opsNil, y_op0, evOp0, putR_some, callR_some, y_opG, guardR_b, guardR_u, y_drawn, mapD_some, y_drawnNil, y_drawnCons, drR_some, chkL_nil, chkL_cons, y_dop0, evDOp0, recR_some, dcallR_nil, dres_same, y_dopG, guardD_b, guardD_u, resR_ret, resR_n, y_pure, viewR_some, spR_nil, spR0_true, spR1_nil, put_eq, put_ne, put_none, upd_at, upd_off, app_nil, app_cons, shownIds, ids_undef, ids_bool, ids_int, ids_str, ids_agg, ids_tup, ids_nilptr, ids_ptr, ids_vptr, ids_sl, ids_vsl, ids_nilfunc, ids_func, ids_nilmap, ids_map, ids_niliface, ids_iface, idsL_nil, idsL_cons, view_64, runOp, AOpd.ev, argF, noA, AV.cellsOf, AV.isCell, cellsAt, fieldAddrOf, fieldOf, partOf, binOf, ib_add, ib_sub, ib_mul, ib_quo, ib_rem, ib_and, ib_or, ib_xor, ib_andNot, ib_eql, ib_neq, ib_lss, ib_leq, ib_gtr, ib_geq, un_neg, un_xor, un_not, intShift, strBin, aeq, eqCells, eqLeaf, eqRes, clash, AOp.silent, AOp.opds, optL, idsTop, addK, noK, viewL, viewAV, resRV, tupOf, fillParts, splice, foldMinMax, indexOf, indexAddrOf, lenIs, Fw.lenOf, convOf, bound, sliceOf, srcOf, bytesSrc, elemsOf, appendOf, capFits, growCap, nro, blkIds, flat, flatL, flatB, strOf, chunks, w1, w2, w3, w4, i64max, appB, sizeB, ByteArray.toList_eq, y_loop, y_loopE, fi14, l1, ga, gb, gc, gc', wa, wb, resP]
        · have wc : IntKind.u8.wrap c = c := wrap_u8' (by omega) (by omega)
          have gc' : c ≤ 255 := by omega
          by_cases gd : 255 < d
          · have gd' : ¬ d ≤ 255 := by omega
            simp [y_fn, y_seq, bindN_n, bindN_ret, bindN_exit, y_ops, mapN_some, y_skip, y_ret, y_exit, y_block, blockR_n, blockR_ret, blockR_exit, y_cond, condR_t, condR_f, condR_b, y_opsCons, bindO_some, y_opsNil, y_op0, evOp0, putR_some, callR_some, y_opG, guardR_b, guardR_u, y_drawn, mapD_some, y_drawnNil, y_drawnCons, drR_some, chkL_nil, chkL_cons, y_dop0, evDOp0, recR_some, dcallR_nil, dres_same, y_dopG, guardD_b, guardD_u, resR_ret, resR_n, y_pure, viewR_some, spR_nil, spR0_true, spR1_nil, put_eq, put_ne, put_none, upd_at, upd_off, app_nil, app_cons, shownIds, ids_undef, ids_bool, ids_int, ids_str, ids_agg, ids_tup, ids_nilptr, ids_ptr, ids_vptr, ids_sl, ids_vsl, ids_nilfunc, ids_func, ids_nilmap, ids_map, ids_niliface, ids_iface, idsL_nil, idsL_cons, view_64, runOp, AOpd.ev, argF, noA, AV.cellsOf, AV.isCell, cellsAt, fieldAddrOf, fieldOf, partOf, binOf, ib_add, ib_sub, ib_mul, ib_quo, ib_rem, ib_and, ib_or, ib_xor, ib_andNot, ib_eql, ib_neq, ib_lss, ib_leq, ib_gtr, ib_geq, un_neg, un_xor, un_not, intShift, strBin, aeq, eqCells, eqLeaf, eqRes, clash, AOp.silent, AOp.opds, optL, idsTop, addK, noK, viewL, viewAV, resRV, tupOf, fillParts, splice, foldMinMax, indexOf, indexAddrOf, lenIs, Fw.lenOf, convOf, bound, sliceOf, srcOf, bytesSrc, elemsOf, appendOf, capFits, growCap, nro, blkIds, flat, flatL, flatB, strOf, chunks, w1, w2, w3, w4, i64max, appB, sizeB, ByteArray.toList_eq, y_loop, y_loopE, fi14, l1, ga, gb, gc, gd, gd', wa, wb, wc, resP]
          · have wd : IntKind.u8.wrap d = d := wrap_u8' (by omega) (by omega)
            have gd' : d ≤ 255 := by omega
            have hB : bytes4 a b c d = true := by
              unfold bytes4
              simp only [Bool.and_eq_true, isB_iff]
              omega
            have l2 := call18 a b c d hB
            simp only [ga', gb', gc', gd', true_and]
            by_cases hT : textL a b c d = l
            · rw [if_pos hT]
              rw [hT] at l2
              simp [y_fn, y_seq, bindN_n, bindN_ret, bindN_exit, y_ops, mapN_some, y_skip, y_ret, y_exit, y_block, blockR_n, blockR_ret, blockR_exit, y_cond, condR_t, condR_f, condR_b, y_opsCons, bindO_some, y_opsNil, y_op0, evOp0, putR_some, callR_some, y_opG, guardR_b, guardR_u, y_drawn, mapD_some, y_drawnNil, y_drawnCons, drR_some, chkL_nil, chkL_cons, y_dop0, evDOp0, recR_some, dcallR_nil, dres_same, y_dopG, guardD_b, guardD_u, resR_ret, resR_n, y_pure, viewR_some, spR_nil, spR0_true, spR1_nil, put_eq, put_ne, put_none, upd_at, upd_off, app_nil, app_cons, shownIds, ids_undef, ids_bool, ids_int, ids_str, ids_agg, ids_tup, ids_nilptr, ids_ptr, ids_vptr, ids_sl, ids_vsl, ids_nilfunc, ids_func, ids_nilmap, ids_map, ids_niliface, ids_iface, idsL_nil, idsL_cons, view_64, runOp, AOpd.ev, argF, noA, AV.cellsOf, AV.isCell, cellsAt, fieldAddrOf, fieldOf, partOf, binOf, ib_add, ib_sub, ib_mul, ib_quo, ib_rem, ib_and, ib_or, ib_xor, ib_andNot, ib_eql, ib_neq, ib_lss, ib_leq, ib_gtr, ib_geq, un_neg, un_xor, un_not, intShift, strBin, aeq, eqCells, eqLeaf, eqRes, clash, AOp.silent, AOp.opds, optL, idsTop, addK, noK, viewL, viewAV, resRV, tupOf, fillParts, splice, foldMinMax, indexOf, indexAddrOf, lenIs, Fw.lenOf, convOf, bound, sliceOf, srcOf, bytesSrc, elemsOf, appendOf, capFits, growCap, nro, blkIds, flat, flatL, flatB, strOf, chunks, w1, w2, w3, w4, i64max, appB, sizeB, ByteArray.toList_eq, y_loop, y_loopE, fi14, l1, l2, ga, gb, gc, gd, wa, wb, wc, wd, resP]
            · rw [if_neg hT]
              simp [y_fn, y_seq, bindN_n, bindN_ret, bindN_exit, y_ops, mapN_some, y_skip, y_ret, y_exit, y_block, blockR_n, blockR_ret, blockR_exit, y_cond, condR_t, condR_f, condR_b, y_opsCons, bindO_some, y_opsNil, y_op0, evOp0, putR_some, callR_some, y_opG, guardR_b, guardR_u, y_drawn, mapD_some, y_drawnNil, y_drawnCons, drR_some, chkL_nil, chkL_cons, y_dop0, evDOp0, recR_some, dcallR_nil, dres_same, y_dopG, guardD_b, guardD_u, resR_ret, resR_n, y_pure, viewR_some, spR_nil, spR0_true, spR1_nil, put_eq, put_ne, put_none, upd_at, upd_off, app_nil, app_cons, shownIds, ids_undef, ids_bool, ids_int, ids_str, ids_agg, ids_tup, ids_nilptr, ids_ptr, ids_vptr, ids_sl, ids_vsl, ids_nilfunc, ids_func, ids_nilmap, ids_map, ids_niliface, ids_iface, idsL_nil, idsL_cons, view_64, runOp, AOpd.ev, argF, noA, AV.cellsOf, AV.isCell, cellsAt, fieldAddrOf, fieldOf, partOf, binOf, ib_add, ib_sub, ib_mul, ib_quo, ib_rem, ib_and, ib_or, ib_xor, ib_andNot, ib_eql, ib_neq, ib_lss, ib_leq, ib_gtr, ib_geq, un_neg, un_xor, un_not, intShift, strBin, aeq, eqCells, eqLeaf, eqRes, clash, AOp.silent, AOp.opds, optL, idsTop, addK, noK, viewL, viewAV, resRV, tupOf, fillParts, splice, foldMinMax, indexOf, indexAddrOf, lenIs, Fw.lenOf, convOf, bound, sliceOf, srcOf, bytesSrc, elemsOf, appendOf, capFits, growCap, nro, blkIds, flat, flatL, flatB, strOf, chunks, w1, w2, w3, w4, i64max, appB, sizeB, ByteArray.toList_eq, y_loop, y_loopE, fi14, l1, l2, ga, gb, gc, gd, wa, wb, wc, wd, hT, resP]
  · have er : refP l = none := by
      unfold refP
      split
      · rename_i h; rw [h] at h4; exact absurd rfl h4
      · rfl
    rw [er]
    have g : ¬ ((((numsP l).1.length : Int) + 1) = 4) := by omega
    simp [y_fn, y_seq, bindN_n, bindN_ret, bindN_exit, y_ops, mapN_some, y_skip, y_ret, y_exit, y_block, blockR_n, blockR_ret, blockR_exit, y_cond, condR_t, condR_f, condR_b, y_opsCons, bindO_some, y_opsNil, y_op0, evOp0, putR_some, callR_some, y_opG, guardR_b, guardR_u, y_drawn, mapD_some, y_drawnNil, y_drawnCons, drR_some, chkL_nil, chkL_cons, y_dop0, evDOp0, recR_some, dcallR_nil, dres_same, y_dopG, guardD_b, guardD_u, resR_ret, resR_n, y_pure, viewR_some, spR_nil, spR0_true, spR1_nil, put_eq, put_ne, put_none, upd_at, upd_off, app_nil, app_cons, shownIds, ids_undef, ids_bool, ids_int, ids_str, ids_agg, ids_tup, ids_nilptr, ids_ptr, ids_vptr, ids_sl, ids_vsl, ids_nilfunc, ids_func, ids_nilmap, ids_map, ids_niliface, ids_iface, idsL_nil, idsL_cons, view_64, runOp, AOpd.ev, argF, noA, AV.cellsOf, AV.isCell, cellsAt, fieldAddrOf, fieldOf, partOf, binOf, ib_add, ib_sub, ib_mul, ib_quo, ib_rem, ib_and, ib_or, ib_xor, ib_andNot, ib_eql, ib_neq, ib_lss, ib_leq, ib_gtr, ib_geq, un_neg, un_xor, un_not, intShift, strBin, aeq, eqCells, eqLeaf, eqRes, clash, AOp.silent, AOp.opds, optL, idsTop, addK, noK, viewL, viewAV, resRV, tupOf, fillParts, splice, foldMinMax, indexOf, indexAddrOf, lenIs, Fw.lenOf, convOf, bound, sliceOf, srcOf, bytesSrc, elemsOf, appendOf, capFits, growCap, nro, blkIds, flat, flatL, flatB, strOf, chunks, w1, w2, w3, w4, i64max, appB, sizeB, ByteArray.toList_eq, fi14, l1, g, resP]

set_option maxHeartbeats 4000000 in
theorem refNet_run (l : List UInt8) (hl : l.length ≤ 200) : ∃ h' n', runFn K20 1000 fi16 [.str ⟨l.toArray⟩] noA 0 = some (resN (refN l), h', n') := by
  have l1 := call26 l hl
  obtain ⟨hall, hd0, hd1⟩ := nums_all l
  by_cases h4 : (numsP l).1.length = 4
  · obtain ⟨a, b, c, d, hp⟩ : ∃ a b c d, (numsP l).1 = [a, b, c, d] := by
      match hq : (numsP l).1, h4 with
      | [a, b, c, d], _ => exact ⟨a, b, c, d, rfl⟩
    obtain ⟨n, hn0⟩ : ∃ n, (numsP l).2 = n := ⟨_, rfl⟩
    have hn : numsP l = ([a, b, c, d], n) := by rw [← hp, ← hn0]
    rw [hp] at hall l1
    rw [hn0] at hd0 hd1 l1
    have ha := hall a (by simp)
    have hb := hall b (by simp)
    have hc := hall c (by simp)
    have hd := hall d (by simp)
    have er : refN l = if a ≤ 255 ∧ b ≤ 255 ∧ c ≤ 255 ∧ d ≤ 255 ∧ netTextL a b c d n = l then some (a, b, c, d, n) else none := by simp only [refN, hn]
    rw [er]
    simp only [cellsN, capN, List.map, List.length, List.cons_append, List.nil_append] at l1
    by_cases ga : 255 < a
    · have ga' : ¬ a ≤ 255 := by omega
      simp [y_fn, y_seq, bindN_n, bindN_ret, bindN_exit, y_ops, mapN_some, y_skip, y_ret, y_exit, y_block, blockR_n, blockR_ret, blockR_exit, y_cond, condR_t, condR_f, condR_b, y_opsCons, bindO_some, y_opsNil, y_op0, evOp0, putR_some, callR_some, y_opG, guardR_b, guardR_u, y_drawn, mapD_some, y_drawnNil, y_drawnCons, drR_some, chkL_nil, chkL_cons, y_dop0, evDOp0, recR_some, dcallR_nil, dres_same, y_dopG, guardD_b, guardD_u, resR_ret, resR_n, y_pure, viewR_some, spR_nil, spR0_true, spR1_nil, put_eq, put_ne, put_none, upd_at, upd_off, app_nil, app_cons, shownIds, ids_undef, ids_bool, ids_int, ids_str, ids_agg, ids_tup, ids_nilptr, ids_ptr, ids_vptr, ids_sl, ids_vsl, ids_nilfunc, ids_func, ids_nilmap, ids_map, ids_niliface, ids_iface, idsL_nil, idsL_cons, view_64, runOp, AOpd.ev, argF, noA, AV.cellsOf, AV.isCell, cellsAt, fieldAddrOf, fieldOf, partOf, binOf, ib_add, ib_sub, ib_mul, ib_quo, ib_rem, ib_and, ib_or, ib_xor, ib_andNot, ib_eql, ib_neq, ib_lss, ib_leq, ib_gtr, ib_geq, un_neg, un_xor, un_not, intShift, strBin, aeq, eqCells, eqLeaf, eqRes, clash, AOp.silent, AOp.opds, optL, idsTop, addK, noK, viewL, viewAV, resRV, tupOf, fillParts, splice, foldMinMax, indexOf, indexAddrOf, lenIs, Fw.lenOf, convOf, bound, sliceOf, srcOf, bytesSrc, elemsOf, appendOf, capFits, growCap, nro, blkIds, flat, flatL, flatB, strOf, chunks, w1, w2, w3, w4, i64max, appB, sizeB, ByteArray.toList_eq, y_loop, y_loopE, fi16, l1, ga, ga', resN]
    · have wa : IntKind.u8.wrap a = a := wrap_u8' (by omega) (by omega)
      have ga' : a ≤ 255 := by omega
      by_cases gb : 255 < b
      · have gb' : ¬ b ≤ 255 := by omega
        simp [y_fn, y_seq, bindN_n, bindN_ret, bindN_exit, y_ops, mapN_some, y_skip, y_ret, y_exit, y_block, blockR_n, blockR_ret, blockR_exit, y_cond, condR_t, condR_f, condR_b, y_opsCons, bindO_some, y_opsNil, y_op0, evOp0, putR_some, callR_some, y_opG, guardR_b, guardR_u, y_drawn, mapD_some, y_drawnNil, y_drawnCons, drR_some, chkL_nil, chkL_cons, y_dop0, evDOp0, recR_some, dcallR_nil, dres_same, y_dopG, guardD_b, guardD_u, resR_ret, resR_n, y_pure, viewR_some, spR_nil, spR0_true, spR1_nil, put_eq, put_ne, put_none, upd_at, upd_off, app_nil, app_cons, shownIds, ids_undef, ids_bool, ids_int, ids_str, ids_agg, ids_tup, ids_nilptr, ids_ptr, ids_vptr, ids_sl, ids_vsl, ids_nilfunc, ids_func, ids_nilmap, ids_map, ids_niliface, ids_iface, idsL_nil, idsL_cons, view_64, runOp, AOpd.ev, argF, noA, AV.cellsOf, AV.isCell, cellsAt, fieldAddrOf, fieldOf, partOf, binOf, ib_add, ib_sub, ib_mul, ib_quo, ib_rem, ib_and, ib_or, ib_xor, ib_andNot, ib_eql, ib_neq, ib_lss, ib_leq, ib_gtr, ib_geq, un_neg, un_xor, un_not, intShift, strBin, aeq, eqCells, eqLeaf, eqRes, clash, AOp.silent, AOp.opds, optL, idsTop, addK, noK, viewL, viewAV, resRV, tupOf, fillParts, splice, foldMinMax, indexOf, indexAddrOf, lenIs, Fw.lenOf, convOf, bound, sliceOf, srcOf, bytesSrc, elemsOf, appendOf, capFits, growCap, nro, blkIds, flat, flatL, flatB, strOf, chunks, w1, w2, w3, w4, i64max, appB, sizeB, ByteArray.toList_eq, y_loop, y_loopE, fi16, l1, ga, gb, gb', wa, resN]
      · have wb : IntKind.u8.wrap b = b := wrap_u8' (by omega) (by omega)
        have gb' : b ≤ 255 := by omega
        by_cases gc : 255 < c
        · have gc' : ¬ c ≤ 255 := by omega
          simp [y_fn, y_seq, bindN_n, bindN_ret, bindN_exit, y_ops, mapN_some, y_skip, y_ret, y_exit, y_block, blockR_n, blockR_ret, blockR_exit, y_cond, condR_t, condR_f, condR_b, y_opsCons, bindO_some, y_opsNil, y_op0, evOp0, putR_some, callR_some, y_opG, guardR_b, guardR_u, y_drawn, mapD_some, y_drawnNil, y_drawnCons, drR_some, chkL_nil, chkL_cons, y_dop0, evDOp0, recR_some, dcallR_nil, dres_same, y_dopG, guardD_b, guardD_u, resR_ret, resR_n, y_pure, viewR_some, spR_nil, spR0_true, spR1_nil, put_eq, put_ne, put_none, upd_at, upd_off, app_nil, app_cons, shownIds, ids_undef, ids_bool, ids_int, ids_str, ids_agg, ids_tup, ids_nilptr, ids_ptr, ids_vptr, ids_sl, ids_vsl, ids_nilfunc, ids_func, ids_nilmap, ids_map, ids_niliface, ids_iface, idsL_nil, idsL_cons, view_64, runOp, AOpd.ev, argF, noA, AV.cellsOf, AV.isCell, cellsAt, fieldAddrOf, fieldOf, partOf, binOf, ib_add, ib_sub, ib_mul, ib_quo, ib_rem, ib_and, ib_or, ib_xor, ib_andNot, ib_eql, ib_neq, ib_lss, ib_leq, ib_gtr, ib_geq, un_neg, un_xor, un_not, intShift, strBin, aeq, eqCells, eqLeaf, eqRes, clash, AOp.silent, AOp.opds, optL, idsTop, addK, noK, viewL, viewAV, resRV, tupOf, fillParts, splice, foldMinMax, indexOf, indexAddrOf, lenIs, Fw.lenOf, convOf, bound, sliceOf, srcOf, bytesSrc, elemsOf, appendOf, capFits, growCap, nro, blkIds, flat, flatL, flatB, strOf, chunks, w1, w2, w3, w4, i64max, appB, sizeB, ByteArray.toList_eq, y_loop, y_loopE, fi16, l1, ga, gb, gc, gc', wa, wb, resN]
        · have wc : IntKind.u8.wrap c = c := wrap_u8' (by omega) (by omega)
          have gc' : c ≤ 255 := by omega
          by_cases gd : 255 < d
          · have gd' : ¬ d ≤ 255 := by omega
            simp [y_fn, y_seq, bindN_n, bindN_ret, bindN_exit, y_ops, mapN_some, y_skip, y_ret, y_exit, y_block, blockR_n, blockR_ret, blockR_exit, y_cond, condR_t, condR_f, condR_b, y_opsCons, bindO_some, y_opsNil, y_op0, evOp0, putR_some, callR_some, y_opG, guardR_b, guardR_u, y_drawn, mapD_some, y_drawnNil, y_drawnCons, drR_some, chkL_nil, chkL_cons, y_dop0, evDOp0, recR_some, dcallR_nil, dres_same, y_dopG, guardD_b, guardD_u, resR_ret, resR_n, y_pure, viewR_some, spR_nil, spR0_true, spR1_nil, put_eq, put_ne, put_none, upd_at, upd_off, app_nil, app_cons, shownIds, ids_undef, ids_bool, ids_int, ids_str, ids_agg, ids_tup, ids_nilptr, ids_ptr, ids_vptr, ids_sl, ids_vsl, ids_nilfunc, ids_func, ids_nilmap, ids_map, ids_niliface, ids_iface, idsL_nil, idsL_cons, view_64, runOp, AOpd.ev, argF, noA, AV.cellsOf, AV.isCell, cellsAt, fieldAddrOf, fieldOf, partOf, binOf, ib_add, ib_sub, ib_mul, ib_quo, ib_rem, ib_and, ib_or, ib_xor, ib_andNot, ib_eql, ib_neq, ib_lss, ib_leq, ib_gtr, ib_geq, un_neg, un_xor, un_not, intShift, strBin, aeq, eqCells, eqLeaf, eqRes, clash, AOp.silent, AOp.opds, optL, idsTop, addK, noK, viewL, viewAV, resRV, tupOf, fillParts, splice, foldMinMax, indexOf, indexAddrOf, lenIs, Fw.lenOf, convOf, bound, sliceOf, srcOf, bytesSrc, elemsOf, appendOf, capFits, growCap, nro, blkIds, flat, flatL, flatB, strOf, chunks, w1, w2, w3, w4, i64max, appB, sizeB, ByteArray.toList_eq, y_loop, y_loopE, fi16, l1, ga, gb, gc, gd, gd', wa, wb, wc, resN]
          · have wd : IntKind.u8.wrap d = d := wrap_u8' (by omega) (by omega)
            have gd' : d ≤ 255 := by omega
            have hB : bytes4 a b c d = true := by
              unfold bytes4
              simp only [Bool.and_eq_true, isB_iff]
              omega
            have l2 := call20 a b c d n hB
            have hne : ¬ l = [] := by
              intro h; rw [h] at h4; exact absurd h4 (by decide)
            simp only [ga', gb', gc', gd', true_and]
            by_cases hT : netTextL a b c d n = l
            · rw [if_pos hT]
              rw [hT] at l2
              simp [y_fn, y_seq, bindN_n, bindN_ret, bindN_exit, y_ops, mapN_some, y_skip, y_ret, y_exit, y_block, blockR_n, blockR_ret, blockR_exit, y_cond, condR_t, condR_f, condR_b, y_opsCons, bindO_some, y_opsNil, y_op0, evOp0, putR_some, callR_some, y_opG, guardR_b, guardR_u, y_drawn, mapD_some, y_drawnNil, y_drawnCons, drR_some, chkL_nil, chkL_cons, y_dop0, evDOp0, recR_some, dcallR_nil, dres_same, y_dopG, guardD_b, guardD_u, resR_ret, resR_n, y_pure, viewR_some, spR_nil, spR0_true, spR1_nil, put_eq, put_ne, put_none, upd_at, upd_off, app_nil, app_cons, shownIds, ids_undef, ids_bool, ids_int, ids_str, ids_agg, ids_tup, ids_nilptr, ids_ptr, ids_vptr, ids_sl, ids_vsl, ids_nilfunc, ids_func, ids_nilmap, ids_map, ids_niliface, ids_iface, idsL_nil, idsL_cons, view_64, runOp, AOpd.ev, argF, noA, AV.cellsOf, AV.isCell, cellsAt, fieldAddrOf, fieldOf, partOf, binOf, ib_add, ib_sub, ib_mul, ib_quo, ib_rem, ib_and, ib_or, ib_xor, ib_andNot, ib_eql, ib_neq, ib_lss, ib_leq, ib_gtr, ib_geq, un_neg, un_xor, un_not, intShift, strBin, aeq, eqCells, eqLeaf, eqRes, clash, AOp.silent, AOp.opds, optL, idsTop, addK, noK, viewL, viewAV, resRV, tupOf, fillParts, splice, foldMinMax, indexOf, indexAddrOf, lenIs, Fw.lenOf, convOf, bound, sliceOf, srcOf, bytesSrc, elemsOf, appendOf, capFits, growCap, nro, blkIds, flat, flatL, flatB, strOf, chunks, w1, w2, w3, w4, i64max, appB, sizeB, ByteArray.toList_eq, y_loop, y_loopE, fi16, l1, l2, ga, gb, gc, gd, wa, wb, wc, wd, hne, resN]
            · rw [if_neg hT]
              simp [y_fn, y_seq, bindN_n, bindN_ret, bindN_exit, y_ops, mapN_some, y_skip, y_ret, y_exit, y_block, blockR_n, blockR_ret, blockR_exit, y_cond, condR_t, condR_f, condR_b, y_opsCons, bindO_some, y_opsNil, y_op0, evOp0, putR_some, callR_some, y_opG, guardR_b, guardR_u, y_drawn, mapD_some, y_drawnNil, y_drawnCons, drR_some, chkL_nil, chkL_cons, y_dop0, evDOp0, recR_some, dcallR_nil, dres_same, y_dopG, guardD_b, guardD_u, resR_ret, resR_n, y_pure, viewR_some, spR_nil, spR0_true, spR1_nil, put_eq, put_ne, put_none, upd_at, upd_off, app_nil, app_cons, shownIds, ids_undef, ids_bool, ids_int, ids_str, ids_agg, ids_tup, ids_nilptr, ids_ptr, ids_vptr, ids_sl, ids_vsl, ids_nilfunc, ids_func, ids_nilmap, ids_map, ids_niliface, ids_iface, idsL_nil, idsL_cons, view_64, runOp, AOpd.ev, argF, noA, AV.cellsOf, AV.isCell, cellsAt, fieldAddrOf, fieldOf, partOf, binOf, ib_add, ib_sub, ib_mul, ib_quo, ib_rem, ib_and, ib_or, ib_xor, ib_andNot, ib_eql, ib_neq, ib_lss, ib_leq, ib_gtr, ib_geq, un_neg, un_xor, un_not, intShift, strBin, aeq, eqCells, eqLeaf, eqRes, clash, AOp.silent, AOp.opds, optL, idsTop, addK, noK, viewL, viewAV, resRV, tupOf, fillParts, splice, foldMinMax, indexOf, indexAddrOf, lenIs, Fw.lenOf, convOf, bound, sliceOf, srcOf, bytesSrc, elemsOf, appendOf, capFits, growCap, nro, blkIds, flat, flatL, flatB, strOf, chunks, w1, w2, w3, w4, i64max, appB, sizeB, ByteArray.toList_eq, y_loop, y_loopE, fi16, l1, l2, ga, gb, gc, gd, wa, wb, wc, wd, hT, hne, resN]
  · have er : refN l = none := by
      unfold refN
      split
      · rename_i h; rw [h] at h4; exact absurd rfl h4
      · rfl
    rw [er]
    have g : ¬ ((((numsP l).1.length : Int) + 1) = 5) := by omega
    simp [y_fn, y_seq, bindN_n, bindN_ret, bindN_exit, y_ops, mapN_some, y_skip, y_ret, y_exit, y_block, blockR_n, blockR_ret, blockR_exit, y_cond, condR_t, condR_f, condR_b, y_opsCons, bindO_some, y_opsNil, y_op0, evOp0, putR_some, callR_some, y_opG, guardR_b, guardR_u, y_drawn, mapD_some, y_drawnNil, y_drawnCons, drR_some, chkL_nil, chkL_cons, y_dop0, evDOp0, recR_some, dcallR_nil, dres_same, y_dopG, guardD_b, guardD_u, resR_ret, resR_n, y_pure, viewR_some, spR_nil, spR0_true, spR1_nil, put_eq, put_ne, put_none, upd_at, upd_off, app_nil, app_cons, shownIds, ids_undef, ids_bool, ids_int, ids_str, ids_agg, ids_tup, ids_nilptr, ids_ptr, ids_vptr, ids_sl, ids_vsl, ids_nilfunc, ids_func, ids_nilmap, ids_map, ids_niliface, ids_iface, idsL_nil, idsL_cons, view_64, runOp, AOpd.ev, argF, noA, AV.cellsOf, AV.isCell, cellsAt, fieldAddrOf, fieldOf, partOf, binOf, ib_add, ib_sub, ib_mul, ib_quo, ib_rem, ib_and, ib_or, ib_xor, ib_andNot, ib_eql, ib_neq, ib_lss, ib_leq, ib_gtr, ib_geq, un_neg, un_xor, un_not, intShift, strBin, aeq, eqCells, eqLeaf, eqRes, clash, AOp.silent, AOp.opds, optL, idsTop, addK, noK, viewL, viewAV, resRV, tupOf, fillParts, splice, foldMinMax, indexOf, indexAddrOf, lenIs, Fw.lenOf, convOf, bound, sliceOf, srcOf, bytesSrc, elemsOf, appendOf, capFits, growCap, nro, blkIds, flat, flatL, flatB, strOf, chunks, w1, w2, w3, w4, i64max, appB, sizeB, ByteArray.toList_eq, fi16, l1, g, resN]
end Go.Fw.Sy.Ad
