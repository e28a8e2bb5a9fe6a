/- AddrBack: for every input the call returns true, and each argument reads behind it as it read before. -/
import Derived.Test.YtbhickepoifepaaDoorAddrArg
import Derived.Test.YtbhickepoifepaaDoorAddrT6
set_option linter.unusedSimpArgs false
set_option linter.unusedVariables false
set_option maxRecDepth 100000
namespace Go.Proofs.YtbhickepoifepaaDoor
open Go.Fw Go.Fw.Sy Go.Fw.Sy.Ad Go.ChangeShapes Go.WideShapes Go.ChangeAt Go.RowKit

def spBack : Sp
  | [.agg [.int .u8 a, .int .u8 b, .int .u8 c, .int .u8 d], .agg [.int .u8 x, .int .u8 y, .int .u8 z, .int .u8 u, .int .i64 _]] => if (isB a && (isB b && (isB c && isB d))) && (isB x && (isB y && (isB z && isB u))) then some (.bool true, []) else none
  | _ => none
theorem spBack_eq {a b c d x y z u : Nat} {n : Int} (ha : a < 256) (hb : b < 256) (hc : c < 256) (hd : d < 256) (hx : x < 256) (hy : y < 256) (hz : z < 256) (hu : u < 256) : spBack [.agg [.int .u8 a, .int .u8 b, .int .u8 c, .int .u8 d], .agg [.int .u8 x, .int .u8 y, .int .u8 z, .int .u8 u, .int .i64 n]] = some (.bool true, []) := by
  have q : ∀ {n : Nat}, n < 256 → isB (n : Int) = true := fun h => isB_iff.2 ⟨by omega, by omega⟩
  simp [spBack, q ha, q hb, q hc, q hd, q hx, q hy, q hz, q hu]
theorem addrBack_ok (m : Int) : SpOk Tryd.prog (GA m) 5 spBack := spOk_val (F := 1000) hmx (k12_ok m) (fnOk5 m) fun vs r bs hsp => by
  unfold spBack at hsp
  split at hsp
  · split at hsp
    · rename_i a b c d x y z u n hg
      simp only [Option.some.injEq, Prod.mk.injEq] at hsp
      obtain ⟨rfl, rfl⟩ := hsp
      simp only [Bool.and_eq_true, isB_iff] at hg
      obtain ⟨⟨⟨a0, a1⟩, ⟨b0, b1⟩, ⟨c0, c1⟩, d0, d1⟩, ⟨x0, x1⟩, ⟨y0, y1⟩, ⟨z0, z1⟩, u0, u1⟩ := hg
      obtain ⟨a, rfl⟩ := Int.eq_ofNat_of_zero_le a0
      obtain ⟨b, rfl⟩ := Int.eq_ofNat_of_zero_le b0
      obtain ⟨c, rfl⟩ := Int.eq_ofNat_of_zero_le c0
      obtain ⟨d, rfl⟩ := Int.eq_ofNat_of_zero_le d0
      obtain ⟨x, rfl⟩ := Int.eq_ofNat_of_zero_le x0
      obtain ⟨y, rfl⟩ := Int.eq_ofNat_of_zero_le y0
      obtain ⟨z, rfl⟩ := Int.eq_ofNat_of_zero_le z0
      obtain ⟨u, rfl⟩ := Int.eq_ofNat_of_zero_le u0
      exact ⟨rfl, rfl, back_run a b c d x y z u n (by omega) (by omega) (by omega) (by omega) (by omega) (by omega) (by omega) (by omega)⟩
    · cases hsp
  · cases hsp

theorem addrBack_lifted (os : Os) (started : os.Started) (H : Type) (enc : TypeId × Value → H) :
    ReturnsInHanded {} Tryd.checked os 5 .any (fun w args => (Rows.addrBackSpec.pre enc Tryd.prog Tryd.f5 Rows.addrBackRow.domain false w args ∧ laidMetH Tryd.prog laidL w) ∧ sizedMet enc Tryd.prog Tryd.f5 (OpenSpec.ofChange Rows.addrBackSpec) false w args)
      (Rows.addrBackSpec.post enc Tryd.prog Tryd.f5 false true false false) := by
  refine handed_law (C := Tryd.checked) (X := fun w _ => laidMetH Tryd.prog laidL w) (fun _ _ _ hh h => h.of_heap hh) own started (by kernel_rfl) Tryd.func5
    (ChangeSpec.witness_shaped (enc := enc) (C := Tryd.checked) (os := os) (X := fun w _ => laidMetH Tryd.prog laidL w) false (World.laidAll Tryd.prog os laidL) #[.agg #[.int .u8 0, .int .u8 0, .int .u8 0, .int .u8 0], .agg #[.int .u8 0, .int .u8 0, .int .u8 0, .int .u8 0, .int .i64 0]] 8 (World.laidAll_os _ _ _)
      (World.shaped_of_ZipB (by kernel_rfl) (by kernel_rfl)) (by kernel_rfl) (by kernel_rfl) (by kernel_rfl)
      (by rw [MakeChecks.laidMetH_plain _ _ _ (by kernel_rfl)]; exact laidMet_laidAll _ (by kernel_rfl) (by kernel_rfl))) ?_
  intro W base args ds gs before hval0 hW hc _ hL hsh
  obtain ⟨m, hg⟩ := grel_of hL hsh
  have hval : ∀ (j : Nat) t v, Tryd.f5.params[j]? = some t → args[j]? = some v → Value.okWide Tryd.prog W .any base t v := hval0
  have hA : ∃ p q, DataW.TrodAll enc Tryd.prog W 0 (fun _ => true) true Tryd.f5.params.toList args.toList ds p ∧ DataW.TrodVars enc Tryd.prog W (fun _ => true) [] gs q := by
    obtain ⟨p, q, hA, hV, _⟩ := hW; exact ⟨p, q, hA, hV⟩
  obtain ⟨p, q, hA, hV⟩ := hA
  rw [Tryd.params5] at hA hval
  have hgs : gs = [] := by
    cases gs with
    | nil => rfl
    | cons g r => exact absurd hV (by intro h; cases h)
  subst hgs
  obtain ⟨v0, v1, d0, d1, q0, q1, hargs, rfl, _, h0, h1⟩ := trodAll_two hA
  obtain ⟨a, b, c, d, ha, hb, hcc, hd, w0⟩ := arg_addr h0
  obtain ⟨x, y, z, u, n, hx, hy, hz, hu, _, w1⟩ := arg_net h1
  subst hargs
  refine (calls_of_sp (addrBack_ok m) hg (vs := [.agg [.int .u8 a, .int .u8 b, .int .u8 c, .int .u8 d], .agg [.int .u8 x, .int .u8 y, .int .u8 z, .int .u8 u, .int .i64 n]]) (b := true) (spBack_eq ha hb hcc hd hx hy hz hu) rfl rfl (fun i c v e1 e2 => ?_)).mono ?_
  ·   match i, e1, e2 with
    | 0, e1, e2 => simp at e1 e2; subst e1; subst e2; exact w0
    | 1, e1, e2 => simp at e1 e2; subst e1; subst e2; exact w1
  · rintro e w' ⟨rfl, st⟩
    exact ⟨_, rfl, post_law laidOut hW rfl (by simp [Rows.addrBackSpec]) (by kernel_rfl) Tryd.underlying4 (fun t ht => by
      rw [Tryd.params5] at ht
      have hall : (Tryd.f5.params.toList.all fun t => Tryd.prog.readableRec t && decide (t < Tryd.prog.types.size)) = true := by kernel_rfl
      rw [Tryd.params5] at hall
      simpa using List.all_eq_true.1 hall t ht) st⟩

theorem addrBack_holds : Rows.AddrBackSaid :=
  OpenClaim.holds_of_wide 5 Tryd.f5 rfl rfl rfl rfl rfl rfl rfl ⟨rfl, rfl, rfl, rfl, rfl⟩ rfl rfl rfl rfl rfl (by kernel_rfl) Tryd.func5 (by kernel_rfl)
    (of_decide_eq_true (by kernel_rfl)) (by unfold Func.isWrapper; first | (rw [if_pos (by decide +kernel)]; kernel_rfl) | (rw [if_neg (by decide +kernel)]; exact ⟨rfl, rfl⟩))
    (fun os started H enc _ => addrBack_lifted os started H enc)

theorem addrBack_card : Rows.AddrBackCardSaid :=
  Claim7.holds_tied_plain_at .later [] [.data, .data, .data, .sentinel, .sentinel] true (true, "8a31944e792992bbbc4cfe39f8db94a3ffd58e119836f2156c4330d23bf8fbac") true
    addrBack_holds (fun _ h => by cases h) (by kernel_rfl) (fun _ h => by cases h) addrBack_row_tie rfl ⟨rfl, rfl⟩ (by kernel_rfl) rfl
    (fun f fn hf hfn => by
      obtain rfl : f = 5 := Option.some.inj ((show Tryd.prog.funcNamed "floodgate/floodgatelaw04.AddrBack" = some 5 by kernel_rfl).symm.trans hf) |>.symm
      obtain rfl : fn = Tryd.f5 := (Option.some.inj (Tryd.func5.symm.trans hfn)).symm
      exact ⟨by kernel_rfl, fun j t ht => by
        have hall : (Tryd.f5.params.toList.all fun u => !Tryd.prog.wantsStandIn u) = true := by kernel_rfl
        have hm : t ∈ Tryd.f5.params.toList := by simpa using Array.mem_of_getElem? ht
        exact (show Tryd.prog.wantsStandIn t = false by simpa using List.all_eq_true.1 hall t hm)⟩)
    (by kernel_rfl)
end Go.Proofs.YtbhickepoifepaaDoor

