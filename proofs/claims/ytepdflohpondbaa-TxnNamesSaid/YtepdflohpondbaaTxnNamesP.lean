/- TxnNames: the error and the limit have their numbers: the call returns true. -/
import Derived.Test.YtepdflohpondbaaTxnSp3
import Derived.Test.YtepdflohpondbaaTxnRun
import Derived.Test.YtepdflohpondbaaFwB2
import Derived.Test.YtepdflohpondbaaRows
import Derived.ProofKit
set_option linter.unusedSimpArgs false
set_option linter.unusedVariables false
set_option maxRecDepth 100000
namespace Go.Proofs.Ytepdflohpondbaa
open Go.Fw Go.Fw.Sy Go.Fw.Sy.Tx Go.ChangeShapes Go.WideShapes Go.ChangeAt Go.RowKit

theorem own : ownKnob Try.prog.godebug = none := by kernel_rfl
theorem laidOut : laidOutB Try.prog = true := by kernel_rfl
def spTrue0 : Sp
  | [] => some (.bool true, [])
  | _ => none
theorem names_ok : SpOk Try.prog G0 3 spTrue0 := spOk_val (F := 2000) hmx (kt_ok 12) fnOk3 fun vs r bs hsp => by
  unfold spTrue0 at hsp
  split at hsp
  · simp only [Option.some.injEq, Prod.mk.injEq] at hsp
    obtain ⟨rfl, rfl⟩ := hsp
    refine ⟨rfl, rfl, ?_⟩
    have h := names_run
    rw [Option.map_eq_some_iff] at h
    obtain ⟨⟨r', h', n'⟩, h1, h2⟩ := h
    simp only at h2; subst h2
    exact ⟨h', n', h1⟩
  · cases hsp
theorem g0_rel (W : World) : GRel G0 (allS W) W := fun g cs h => by cases h

theorem txnNames_lifted (os : Os) (started : os.Started) (H : Type) (enc : TypeId × Value → H) :
    ReturnsInHanded {} Try.checked os 3 .any (Rows.txnNamesSpec.pre6 enc Try.prog Try.f3 Rows.txnNamesRow.domain false) (Rows.txnNamesSpec.post enc Try.prog Try.f3 false true false false) := by
  refine returnsInHanded_of_change (C := Try.checked) own started (by kernel_rfl) Try.func3
    (ChangeSpec.witness6 (enc := enc) (C := Try.checked) false ⟨#[], #[], []⟩ 8 (by kernel_rfl) (by kernel_rfl) (by kernel_rfl) (by kernel_rfl)) ?_
  intro W base args ds gs before hval0 hW hcnd _
  have hA : ∃ p q, DataW.TrodAll enc Try.prog W 0 (fun _ => true) true Try.f3.params.toList args.toList ds p ∧ DataW.TrodVars enc Try.prog W (fun _ => true) [] gs q := by
    obtain ⟨p, q, hA, hV, _⟩ := hW; exact ⟨p, q, hA, hV⟩
  obtain ⟨p, q, hA, hV⟩ := hA
  rw [Try.params3] at hA
  obtain ⟨hargs, rfl⟩ : args.toList = [] ∧ ds = [] := by
    cases hx : args.toList with
    | nil => rw [hx] at hA; cases ds with
      | nil => exact ⟨rfl, rfl⟩
      | cons d r => exact absurd hA (by intro h; cases h)
    | cons v r => rw [hx] at hA; exact absurd hA (by intro h; cases h)
  have hgs : gs = [] := by
    cases gs with
    | nil => rfl
    | cons g r => exact absurd hV (by intro h; cases h)
  subst hgs
  refine (calls_of_sp names_ok (g0_rel W) (vs := []) (b := true) rfl rfl (by rw [hargs]; rfl) (fun i c v h1 h2 => by simp at h1)).mono ?_
  rintro e w' ⟨rfl, st⟩
  exact ⟨_, rfl, post_law laidOut hW rfl rfl (by kernel_rfl) Try.underlying4 (fun t ht => by rw [Try.params3] at ht; simp at ht) st⟩

theorem txnNames_holds : Rows.TxnNamesSaid :=
  OpenClaim.holds_of_wide 3 Try.f3 rfl rfl rfl rfl rfl rfl rfl ⟨rfl, rfl, rfl, rfl, rfl⟩ rfl rfl rfl rfl rfl (by kernel_rfl) Try.func3 (by kernel_rfl)
    (of_decide_eq_true (by kernel_rfl)) (by unfold Func.isWrapper; first | (rw [if_pos (by decide +kernel)]; kernel_rfl) | (rw [if_neg (by decide +kernel)]; exact ⟨rfl, rfl⟩))
    (fun os started H enc _ => txnNames_lifted os started H enc)
end Go.Proofs.Ytepdflohpondbaa
