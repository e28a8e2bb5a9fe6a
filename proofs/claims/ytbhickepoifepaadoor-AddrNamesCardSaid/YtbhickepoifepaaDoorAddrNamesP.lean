/- AddrNames: the error has its number, and masks have their ends: for every input the call returns true. -/
import Derived.Test.YtbhickepoifepaaDoorAddrRow
set_option linter.unusedSimpArgs false
set_option linter.unusedVariables false
set_option maxRecDepth 100000
namespace Go.Proofs.YtbhickepoifepaaDoor
open Go.Fw Go.Fw.Sy Go.Fw.Sy.Ad Go.ChangeShapes Go.WideShapes Go.ChangeAt Go.RowKit

theorem names_lifted (os : Os) (started : os.Started) (H : Type) (enc : TypeId × Value → H) :
    ReturnsInHanded {} Tryd.checked os 6 .any (fun w args => (Rows.addrNamesSpec.pre enc Tryd.prog Tryd.f6 Rows.addrNamesRow.domain false w args ∧ laidMetH Tryd.prog laidL w) ∧ sizedMet enc Tryd.prog Tryd.f6 (OpenSpec.ofChange Rows.addrNamesSpec) false w args)
      (Rows.addrNamesSpec.post enc Tryd.prog Tryd.f6 false true false false) := by
  refine handed_law (C := Tryd.checked) (X := fun w _ => laidMetH Tryd.prog laidL w) (fun _ _ _ hh h => h.of_heap hh) own started (by kernel_rfl) Tryd.func6
    (ChangeSpec.witness_shaped (enc := enc) (C := Tryd.checked) (os := os) (X := fun w _ => laidMetH Tryd.prog laidL w) false (World.laidAll Tryd.prog os laidL) #[] 8 (World.laidAll_os _ _ _)
      (World.shaped_of_ZipB (by kernel_rfl) (by kernel_rfl)) (by kernel_rfl) (by kernel_rfl) (by kernel_rfl)
      (by rw [MakeChecks.laidMetH_plain _ _ _ (by kernel_rfl)]; exact laidMet_laidAll _ (by kernel_rfl) (by kernel_rfl))) ?_
  intro W base args ds gs before hval0 hW hc _ hL hsh
  obtain ⟨m, hg⟩ := grel_of hL hsh
  have hA : ∃ p q, DataW.TrodAll enc Tryd.prog W 0 (fun _ => true) true Tryd.f6.params.toList args.toList ds p ∧ DataW.TrodVars enc Tryd.prog W (fun _ => true) [] gs q := by
    obtain ⟨p, q, hA, hV, _⟩ := hW; exact ⟨p, q, hA, hV⟩
  obtain ⟨p, q, hA, hV⟩ := hA
  rw [Tryd.params6] at hA
  obtain ⟨hargs, rfl⟩ : args.toList = [] ∧ ds = [] := by
    cases hx : args.toList with
    | nil => rw [hx] at hA; cases ds with
      | nil => exact ⟨rfl, rfl⟩
      | cons d r => exact absurd hA (by intro h; cases h)
    | cons v r => rw [hx] at hA; exact absurd hA (by intro h; cases h)
  have hgs : gs = [] := by
    cases gs with
    | nil => rfl
    | cons g r => exact absurd hV (by intro h; cases h)
  subst hgs
  refine (calls_of_sp (names_ok m) hg (vs := []) (b := true) rfl rfl (by rw [hargs]; rfl) (fun i c v h1 h2 => by simp at h1)).mono ?_
  rintro e w' ⟨rfl, st⟩
  exact ⟨_, rfl, post_law laidOut hW rfl rfl (by kernel_rfl) Tryd.underlying4 (fun t ht => by rw [Tryd.params6] at ht; simp at ht) st⟩

theorem names_holds : Rows.AddrNamesSaid :=
  OpenClaim.holds_of_wide 6 Tryd.f6 rfl rfl rfl rfl rfl rfl rfl ⟨rfl, rfl, rfl, rfl, rfl⟩ rfl rfl rfl rfl rfl (by kernel_rfl) Tryd.func6 (by kernel_rfl)
    (of_decide_eq_true (by kernel_rfl)) (by unfold Func.isWrapper; first | (rw [if_pos (by decide +kernel)]; kernel_rfl) | (rw [if_neg (by decide +kernel)]; exact ⟨rfl, rfl⟩))
    (fun os started H enc _ => names_lifted os started H enc)

theorem names_card : Rows.AddrNamesCardSaid :=
  Claim7.holds_tied_plain_at .later [] [.data, .data, .data, .sentinel, .sentinel] true (true, "8a31944e792992bbbc4cfe39f8db94a3ffd58e119836f2156c4330d23bf8fbac") true
    names_holds (fun _ h => by cases h) (by kernel_rfl) (fun _ h => by cases h) addrNames_row_tie rfl ⟨rfl, rfl⟩ (by kernel_rfl) rfl
    (fun f fn hf hfn => by
      obtain rfl : f = 6 := Option.some.inj ((show Tryd.prog.funcNamed "floodgate/floodgatelaw04.AddrNames" = some 6 by kernel_rfl).symm.trans hf) |>.symm
      obtain rfl : fn = Tryd.f6 := (Option.some.inj (Tryd.func6.symm.trans hfn)).symm
      exact ⟨by kernel_rfl, fun j t ht => by
        rw [Tryd.params6] at ht
        simp at ht⟩)
    (by kernel_rfl)
end Go.Proofs.YtbhickepoifepaaDoor
