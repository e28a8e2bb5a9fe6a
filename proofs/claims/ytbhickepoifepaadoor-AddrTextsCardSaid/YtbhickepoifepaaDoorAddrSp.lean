/- Every contract of addr is met. -/
import Derived.Test.YtbhickepoifepaaDoorAddrOk
set_option maxRecDepth 100000
namespace Go.Fw.Sy.Ad
open Go.Proofs
theorem kl_ok (m : Int) : KOk Tryd.prog (GA m) KL := addK_ok (addK_ok (addK_ok (addK_ok noK_ok (pureK_ok (cutS_ok m))) (pureK_ok (itoa_ok m))) (pureK_ok (join_ok m))) (pureK_ok (atoi_ok m))
theorem mask_ok (m : Int) : SpOk Tryd.prog (GA m) 23 spMask := spOk_val (F := 1000) hmx (kl_ok m) (fnOk23 m) fun vs r bs hsp => by
  unfold spMask at hsp
  split at hsp
  · simp only [Option.some.injEq, Prod.mk.injEq] at hsp
    obtain ⟨rfl, rfl⟩ := hsp
    exact ⟨rfl, rfl, mask_run _ _⟩
  · cases hsp
theorem num_ok (m : Int) : SpOk Tryd.prog (GA m) 12 spNum := spOk_val (F := 1000) hmx (kl_ok m) (fnOk12 m) fun vs r bs hsp => by
  unfold spNum at hsp
  split at hsp
  · simp only [Option.some.injEq, Prod.mk.injEq] at hsp
    obtain ⟨rfl, rfl⟩ := hsp
    exact ⟨rfl, rfl, num_run _ _ _ _ _⟩
  · cases hsp
theorem of_ok (m : Int) : SpOk Tryd.prog (GA m) 11 spOf := spOk_val (F := 1000) hmx (kl_ok m) (fnOk11 m) fun vs r bs hsp => by
  unfold spOf at hsp
  split at hsp
  · simp only [Option.some.injEq, Prod.mk.injEq] at hsp
    obtain ⟨rfl, rfl⟩ := hsp
    exact ⟨rfl, rfl, of_run _ _⟩
  · cases hsp
theorem k1_ok (m : Int) : KOk Tryd.prog (GA m) K1 := addK_ok (addK_ok (addK_ok (kl_ok m) (pureK_ok (mask_ok m))) (pureK_ok (num_ok m))) (pureK_ok (of_ok m))
theorem cut_ok (m : Int) : SpOk Tryd.prog (GA m) 8 spCut := spOk_val (F := 1000) hmx (k1_ok m) (fnOk8 m) fun vs r bs hsp => by
  unfold spCut at hsp
  split at hsp
  · simp only [Option.some.injEq, Prod.mk.injEq] at hsp
    obtain ⟨rfl, rfl⟩ := hsp
    exact ⟨rfl, rfl, cut_run _ _ _ _ _⟩
  · cases hsp
theorem k2_ok (m : Int) : KOk Tryd.prog (GA m) K2 := addK_ok (k1_ok m) (pureK_ok (cut_ok m))
theorem right_ok (m : Int) : SpOk Tryd.prog (GA m) 21 spRight := spOk_val (F := 1000) hmx (k2_ok m) (fnOk21 m) fun vs r bs hsp => by
  unfold spRight at hsp
  split at hsp
  · simp only [Option.some.injEq, Prod.mk.injEq] at hsp
    obtain ⟨rfl, rfl⟩ := hsp
    exact ⟨rfl, rfl, right_run _ _ _ _ _⟩
  · cases hsp
theorem k3_ok (m : Int) : KOk Tryd.prog (GA m) K3 := addK_ok (k2_ok m) (pureK_ok (right_ok m))
theorem in_ok (m : Int) : SpOk Tryd.prog (GA m) 10 spIn := spOk_val (F := 1000) hmx (k3_ok m) (fnOk10 m) fun vs r bs hsp => by
  unfold spIn at hsp
  split at hsp
  · simp only [Option.some.injEq, Prod.mk.injEq] at hsp
    obtain ⟨rfl, rfl⟩ := hsp
    exact ⟨rfl, rfl, in_run _ _ _ _ _ _ _ _ _⟩
  · cases hsp
theorem k4_ok (m : Int) : KOk Tryd.prog (GA m) K4 := addK_ok (k3_ok m) (pureK_ok (in_ok m))
theorem within_ok (m : Int) : SpOk Tryd.prog (GA m) 9 spWithin := spOk_val (F := 1000) hmx (k4_ok m) (fnOk9 m) fun vs r bs hsp => by
  unfold spWithin at hsp
  split at hsp
  · simp only [Option.some.injEq, Prod.mk.injEq] at hsp
    obtain ⟨rfl, rfl⟩ := hsp
    exact ⟨rfl, rfl, within_run _ _ _ _ _ _ _ _ _ _⟩
  · cases hsp
theorem k5_ok (m : Int) : KOk Tryd.prog (GA m) K5 := addK_ok (k4_ok m) (pureK_ok (within_ok m))
theorem maskA_ok (m : Int) : SpOk Tryd.prog (GA m) 22 spMaskA := spOk_val (F := 1000) hmx (k1_ok m) (fnOk22 m) fun vs r bs hsp => by
  unfold spMaskA at hsp
  split at hsp
  · simp only [Option.some.injEq, Prod.mk.injEq] at hsp
    obtain ⟨rfl, rfl⟩ := hsp
    exact ⟨rfl, rfl, mask2_run _⟩
  · cases hsp
theorem k6_ok (m : Int) : KOk Tryd.prog (GA m) K6 := addK_ok (k5_ok m) (pureK_ok (maskA_ok m))
theorem text_ok (m : Int) : SpOk Tryd.prog (GA m) 17 spText := spOk_val (F := 1000) hmx (kl_ok m) (fnOk17 m) fun vs r bs hsp => by
  unfold spText at hsp
  split at hsp
  · split at hsp
    · rename_i hg
      simp only [Option.some.injEq, Prod.mk.injEq] at hsp
      obtain ⟨rfl, rfl⟩ := hsp
      simp only [Bool.and_eq_true] at hg
      exact ⟨rfl, rfl, text_run _ _ _ _ (isB_iff.1 hg.1) (isB_iff.1 hg.2.1) (isB_iff.1 hg.2.2.1) (isB_iff.1 hg.2.2.2)⟩
    · cases hsp
  · cases hsp
theorem k7_ok (m : Int) : KOk Tryd.prog (GA m) K7 := addK_ok (k6_ok m) (pureK_ok (text_ok m))
theorem number_ok (m : Int) : SpOk Tryd.prog (GA m) 25 spNumber := spOk_val (F := 1000) hmx (kl_ok m) (fnOk25 m) fun vs r bs hsp => by
  unfold spNumber at hsp
  split at hsp
  · split at hsp
    · rename_i hg
      simp only [Option.some.injEq, Prod.mk.injEq] at hsp
      obtain ⟨rfl, rfl⟩ := hsp
      exact ⟨rfl, rfl, number_run _ _ hg.1 hg.2.1 hg.2.2⟩
    · cases hsp
  · cases hsp
theorem k8_ok (m : Int) : KOk Tryd.prog (GA m) K8 := addK_ok (k7_ok m) (pureK_ok (number_ok m))
theorem netText_ok (m : Int) : SpOk Tryd.prog (GA m) 19 spNetText := spOk_val (F := 1000) hmx (k8_ok m) (fnOk19 m) fun vs r bs hsp => by
  unfold spNetText at hsp
  split at hsp
  · split at hsp
    · rename_i hg
      simp only [Option.some.injEq, Prod.mk.injEq] at hsp
      obtain ⟨rfl, rfl⟩ := hsp
      simp only [Bool.and_eq_true] at hg
      exact ⟨rfl, rfl, netText_run _ _ _ _ _ hg.1 hg.2.1 hg.2.2.1 hg.2.2.2⟩
    · cases hsp
  · cases hsp
theorem k9_ok (m : Int) : KOk Tryd.prog (GA m) K9 := addK_ok (k8_ok m) (pureK_ok (netText_ok m))
theorem resP_ids (x : Option (Int × Int × Int × Int)) : (resP x).ids = [] := by
  cases x <;> rfl
theorem resN_ids (x : Option (Int × Int × Int × Int × Int)) : (resN x).ids = [] := by
  cases x <;> rfl
theorem parse_ok (m : Int) : SpOk Tryd.prog (GA m) 13 spParse := spOk_val (F := 1000) hmx (k8_ok m) (fnOk13 m) fun vs r bs hsp => by
  unfold spParse at hsp
  split at hsp
  · split at hsp
    · rename_i hg
      simp only [Option.some.injEq, Prod.mk.injEq] at hsp
      obtain ⟨rfl, rfl⟩ := hsp
      exact ⟨rfl, resP_ids _, parse_run _ hg⟩
    · cases hsp
  · cases hsp
theorem k10_ok (m : Int) : KOk Tryd.prog (GA m) K10 := addK_ok (k9_ok m) (pureK_ok (parse_ok m))
theorem net_ok (m : Int) : SpOk Tryd.prog (GA m) 15 spNet := spOk_val (F := 1000) hmx (k10_ok m) (fnOk15 m) fun vs r bs hsp => by
  unfold spNet at hsp
  split at hsp
  · split at hsp
    · rename_i hg
      simp only [Option.some.injEq, Prod.mk.injEq] at hsp
      obtain ⟨rfl, rfl⟩ := hsp
      exact ⟨rfl, resN_ids _, net_run _ hg⟩
    · cases hsp
  · cases hsp
theorem k11_ok (m : Int) : KOk Tryd.prog (GA m) K11 := addK_ok (k10_ok m) (pureK_ok (net_ok m))
theorem run_of_map {x : Option (AV × AHeap × Nat)} {r : AV} (h : x.map (·.1) = some r) : ∃ h' n', x = some (r, h', n') := by
  rw [Option.map_eq_some_iff] at h
  obtain ⟨⟨r', h', n'⟩, h1, h2⟩ := h
  simp only at h2; subst h2
  exact ⟨h', n', h1⟩
theorem alive_ok (m : Int) : SpOk Tryd.prog (GA m) 7 spAlive := spOk_val (F := 1000) hmx (k11_ok m) (fnOk7 m) fun vs r bs hsp => by
  unfold spAlive at hsp
  split at hsp
  · simp only [Option.some.injEq, Prod.mk.injEq] at hsp
    obtain ⟨rfl, rfl⟩ := hsp
    exact ⟨rfl, rfl, run_of_map alive_run⟩
  · cases hsp
theorem k12_ok (m : Int) : KOk Tryd.prog (GA m) K12 := addK_ok (k11_ok m) (pureK_ok (alive_ok m))
end Go.Fw.Sy.Ad
