/- Every contract of the reference of addr is met. -/
import Derived.Test.YtbhickepoifepaaDoorAddrSp
import Derived.Test.YtbhickepoifepaaDoorAddrT12
set_option maxRecDepth 100000
set_option linter.unusedVariables false
namespace Go.Fw.Sy.Ad
open Go.Proofs
theorem numR_ok (m : Int) : SpOk Tryd.prog (GA m) 45 (spNumR) := spOk_val (F := 1000) hmx (k12_ok m) (fnOk45 m) fun vs r bs hsp => by
  unfold spNumR at hsp
  split at hsp
  · split at hsp
    · rename_i hg
      simp only [Option.some.injEq, Prod.mk.injEq] at hsp
      obtain ⟨rfl, rfl⟩ := hsp
      exact ⟨rfl, rfl, numR_run _ _ _ _ _ hg⟩
    · cases hsp
  · cases hsp
theorem ofR_ok (m : Int) : SpOk Tryd.prog (GA m) 46 (spOfR) := spOk_val (F := 1000) hmx (k12_ok m) (fnOk46 m) fun vs r bs hsp => by
  unfold spOfR at hsp
  split at hsp
  · split at hsp
    · rename_i hg
      simp only [Option.some.injEq, Prod.mk.injEq] at hsp
      obtain ⟨rfl, rfl⟩ := hsp
      exact ⟨rfl, rfl, ofR_run _ _ hg.1 hg.2⟩
    · cases hsp
  · cases hsp
theorem bnd_ok (m : Int) : SpOk Tryd.prog (GA m) 37 (spBnd) := spOk_val (F := 1000) hmx (k12_ok m) (fnOk37 m) fun vs r bs hsp => by
  unfold spBnd at hsp
  split at hsp
  · simp only [Option.some.injEq, Prod.mk.injEq] at hsp
    obtain ⟨rfl, rfl⟩ := hsp
    exact ⟨rfl, rfl, bnd_run _ _⟩
  · cases hsp
theorem k13_ok (m : Int) : KOk Tryd.prog (GA m) K13 := addK_ok (addK_ok (addK_ok (k12_ok m) (pureK_ok (numR_ok m))) (pureK_ok (ofR_ok m))) (pureK_ok (bnd_ok m))
theorem cutR_ok (m : Int) : SpOk Tryd.prog (GA m) 38 (spCutR) := spOk_val (F := 1000) hmx (k13_ok m) (fnOk38 m) fun vs r bs hsp => by
  unfold spCutR at hsp
  split at hsp
  · split at hsp
    · rename_i hg
      simp only [Option.some.injEq, Prod.mk.injEq] at hsp
      obtain ⟨rfl, rfl⟩ := hsp
      exact ⟨rfl, rfl, cutR_run _ _ _ _ _ hg⟩
    · cases hsp
  · cases hsp
theorem k14_ok (m : Int) : KOk Tryd.prog (GA m) K14 := addK_ok (k13_ok m) (pureK_ok (cutR_ok m))
theorem rightR_ok (m : Int) : SpOk Tryd.prog (GA m) 30 (spRightR) := spOk_val (F := 1000) hmx (k14_ok m) (fnOk30 m) fun vs r bs hsp => by
  unfold spRightR at hsp
  split at hsp
  · split at hsp
    · rename_i hg
      simp only [Option.some.injEq, Prod.mk.injEq] at hsp
      obtain ⟨rfl, rfl⟩ := hsp
      exact ⟨rfl, rfl, rightR_run _ _ _ _ _ hg⟩
    · cases hsp
  · cases hsp
theorem dig1_ok (m : Int) : SpOk Tryd.prog (GA m) 29 (spDig 10) := spOk_val (F := 1000) hmx (k14_ok m) (fnOk29 m) fun vs r bs hsp => by
  unfold spDig at hsp
  split at hsp
  · split at hsp
    · rename_i hg
      simp only [Option.some.injEq, Prod.mk.injEq] at hsp
      obtain ⟨rfl, rfl⟩ := hsp
      exact ⟨rfl, rfl, dig_run1 _ hg.1 hg.2⟩
    · cases hsp
  · cases hsp
theorem k15_ok (m : Int) : KOk Tryd.prog (GA m) K15 := addK_ok (k14_ok m) (pureK_ok (dig1_ok m))
theorem dig2_ok (m : Int) : SpOk Tryd.prog (GA m) 29 (spDig 100) := spOk_val (F := 1000) hmx (k15_ok m) (fnOk29 m) fun vs r bs hsp => by
  unfold spDig at hsp
  split at hsp
  · split at hsp
    · rename_i hg
      simp only [Option.some.injEq, Prod.mk.injEq] at hsp
      obtain ⟨rfl, rfl⟩ := hsp
      exact ⟨rfl, rfl, dig2_run _ hg.1 hg.2⟩
    · cases hsp
  · cases hsp
theorem k16_ok (m : Int) : KOk Tryd.prog (GA m) K16 := addK_ok (k15_ok m) (pureK_ok (dig2_ok m))
theorem dig3_ok (m : Int) : SpOk Tryd.prog (GA m) 29 (spDig 1000) := spOk_val (F := 1000) hmx (k16_ok m) (fnOk29 m) fun vs r bs hsp => by
  unfold spDig at hsp
  split at hsp
  · split at hsp
    · rename_i hg
      simp only [Option.some.injEq, Prod.mk.injEq] at hsp
      obtain ⟨rfl, rfl⟩ := hsp
      exact ⟨rfl, rfl, dig3_run _ hg.1 hg.2⟩
    · cases hsp
  · cases hsp
theorem k17_ok (m : Int) : KOk Tryd.prog (GA m) K17 := addK_ok (k16_ok m) (pureK_ok (dig3_ok m))
theorem textR_ok (m : Int) : SpOk Tryd.prog (GA m) 18 (spTextR) := spOk_val (F := 1000) hmx (k17_ok m) (fnOk18 m) fun vs r bs hsp => by
  unfold spTextR at hsp
  split at hsp
  · split at hsp
    · rename_i hg
      simp only [Option.some.injEq, Prod.mk.injEq] at hsp
      obtain ⟨rfl, rfl⟩ := hsp
      unfold bytes4 at hg
      simp only [Bool.and_eq_true] at hg
      exact ⟨rfl, rfl, textR_run _ _ _ _ (isB_iff.1 hg.1) (isB_iff.1 hg.2.1) (isB_iff.1 hg.2.2.1) (isB_iff.1 hg.2.2.2)⟩
    · cases hsp
  · cases hsp
theorem k18_ok (m : Int) : KOk Tryd.prog (GA m) K18 := addK_ok (addK_ok (k17_ok m) (pureK_ok (textR_ok m))) (pureK_ok (rightR_ok m))
theorem netTextR_ok (m : Int) : SpOk Tryd.prog (GA m) 20 (spNetTextR) := spOk_val (F := 1000) hmx (k18_ok m) (fnOk20 m) fun vs r bs hsp => by
  unfold spNetTextR at hsp
  split at hsp
  · split at hsp
    · rename_i hg
      simp only [Option.some.injEq, Prod.mk.injEq] at hsp
      obtain ⟨rfl, rfl⟩ := hsp
      exact ⟨rfl, rfl, netTextR_run _ _ _ _ _ hg⟩
    · cases hsp
  · cases hsp
theorem k19_ok (m : Int) : KOk Tryd.prog (GA m) K19 := addK_ok (k18_ok m) (pureK_ok (netTextR_ok m))
theorem nums_ok (m : Int) : SpOk Tryd.prog (GA m) 26 spNums := spOk_of_run (F := 1000) hmx (k19_ok m) (fnOk26 m) fun vs r bs _ hsp => by
  unfold spNums at hsp
  split at hsp
  · rename_i t _
    split at hsp
    · rename_i hg
      simp only [Option.some.injEq, Prod.mk.injEq] at hsp
      obtain ⟨rfl, rfl⟩ := hsp
      obtain ⟨id, h', n', e, hc⟩ := nums_run t.data.toList hg
      refine ⟨.sl id 0 ((numsP t.data.toList).1.length + 1) (capN (numsP t.data.toList).1) 1, h', n', [id], e, List.nodup_cons.2 ⟨(fun h => by cases h), List.nodup_nil⟩, fun i hi => by simpa [AV.ids] using hi, fun i hi => ?_, ?_, ?_⟩
      · obtain rfl := List.mem_singleton.1 hi
        refine ⟨_, hc, rfl, fun j hj => ?_⟩
        have : blkIds (some (.cells (cellsN (numsP t.data.toList).1 (numsP t.data.toList).2) false)) = [] := cellsN_ids _ _
        rw [this] at hj; cases hj
      · simp [ren]
      · simp only [List.map_cons, List.map_nil, hc, Option.map_some, renB, idsL_nil_ren _ _ (cellsN_ids _ _)]
    · cases hsp
  · cases hsp
theorem k20_ok (m : Int) : KOk Tryd.prog (GA m) K20 := addK_ok (k19_ok m) (pureK_ok (nums_ok m))
theorem refP_ok (m : Int) : SpOk Tryd.prog (GA m) 14 (spRefP) := spOk_val (F := 1000) hmx (k20_ok m) (fnOk14 m) fun vs r bs hsp => by
  unfold spRefP at hsp
  split at hsp
  · split at hsp
    · rename_i hg
      simp only [Option.some.injEq, Prod.mk.injEq] at hsp
      obtain ⟨rfl, rfl⟩ := hsp
      exact ⟨rfl, resP_ids _, refP_run _ hg⟩
    · cases hsp
  · cases hsp
theorem refN_ok (m : Int) : SpOk Tryd.prog (GA m) 16 (spRefN) := spOk_val (F := 1000) hmx (k20_ok m) (fnOk16 m) fun vs r bs hsp => by
  unfold spRefN at hsp
  split at hsp
  · split at hsp
    · rename_i hg
      simp only [Option.some.injEq, Prod.mk.injEq] at hsp
      obtain ⟨rfl, rfl⟩ := hsp
      exact ⟨rfl, resN_ids _, refN_run _ hg⟩
    · cases hsp
  · cases hsp
theorem k21_ok (m : Int) : KOk Tryd.prog (GA m) K21 := addK_ok (addK_ok (k20_ok m) (pureK_ok (refP_ok m))) (pureK_ok (refN_ok m))
end Go.Fw.Sy.Ad
