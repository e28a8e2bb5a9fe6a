/- AddrTexts: for every input the call returns true, and each argument reads behind it as it read before. -/
import Derived.Test.YtbhickepoifepaaDoorAddrArg
import Derived.Test.YtbhickepoifepaaDoorAddrSp2
set_option linter.unusedSimpArgs false
set_option linter.unusedVariables false
set_option maxRecDepth 100000
namespace Go.Proofs.YtbhickepoifepaaDoor
open Go.Fw Go.Fw.Sy Go.Fw.Sy.Ad Go.ChangeShapes Go.WideShapes Go.ChangeAt Go.RowKit

def spTexts : Sp
  | [.agg [.int .u8 a, .int .u8 b, .int .u8 c, .int .u8 d], .agg [.int .u8 x, .int .u8 y, .int .u8 z, .int .u8 u, .int .i64 _], .str _] => if bytes4 a b c d && bytes4 x y z u then some (.bool true, []) else none
  | _ => none
theorem spTexts_eq {a b c d x y z u : Nat} {n : Int} {t : ByteArray} (ha : a < 256) (hb : b < 256) (hc : c < 256) (hd : d < 256) (hx : x < 256) (hy : y < 256) (hz : z < 256) (hu : u < 256) : spTexts [.agg [.int .u8 a, .int .u8 b, .int .u8 c, .int .u8 d], .agg [.int .u8 x, .int .u8 y, .int .u8 z, .int .u8 u, .int .i64 n], .str t] = some (.bool true, []) := by
  simp [spTexts, nat_bytes4 ha hb hc hd, nat_bytes4 hx hy hz hu]
theorem addrTexts_ok (m : Int) : SpOk Tryd.prog (GA m) 4 spTexts := spOk_val (F := 1000) hmx (k21_ok m) (fnOk4 m) fun vs r bs hsp => by
  unfold spTexts at hsp
  split at hsp
  · split at hsp
    · rename_i a b c d x y z u n t hg
      simp only [Option.some.injEq, Prod.mk.injEq] at hsp
      obtain ⟨rfl, rfl⟩ := hsp
      rw [Bool.and_eq_true] at hg
      obtain ⟨a, b, c, d, rfl, rfl, rfl, rfl, ha, hb, hc, hd⟩ := bytes4_nat hg.1
      obtain ⟨x, y, z, u, rfl, rfl, rfl, rfl, hx, hy, hz, hu⟩ := bytes4_nat hg.2
      exact ⟨rfl, rfl, texts_run a b c d x y z u n t ha hb hc hd hx hy hz hu⟩
    · cases hsp
  · cases hsp

theorem addrTexts_lifted (os : Os) (started : os.Started) (H : Type) (enc : TypeId × Value → H) :
    ReturnsInHanded {} Tryd.checked os 4 .any (fun w args => (Rows.addrTextsSpec.pre enc Tryd.prog Tryd.f4 Rows.addrTextsRow.domain false w args ∧ laidMetH Tryd.prog laidL w) ∧ sizedMet enc Tryd.prog Tryd.f4 (OpenSpec.ofChange Rows.addrTextsSpec) false w args)
      (Rows.addrTextsSpec.post enc Tryd.prog Tryd.f4 false true false false) := by
  refine handed_law (C := Tryd.checked) (X := fun w _ => laidMetH Tryd.prog laidL w) (fun _ _ _ hh h => h.of_heap hh) own started (by kernel_rfl) Tryd.func4
    (ChangeSpec.witness_shaped (enc := enc) (C := Tryd.checked) (os := os) (X := fun w _ => laidMetH Tryd.prog laidL w) false (World.laidAll Tryd.prog os laidL) #[.agg #[.int .u8 0, .int .u8 0, .int .u8 0, .int .u8 0], .agg #[.int .u8 0, .int .u8 0, .int .u8 0, .int .u8 0, .int .i64 0], .string ⟨#[]⟩] 8 (World.laidAll_os _ _ _)
      (World.shaped_of_ZipB (by kernel_rfl) (by kernel_rfl)) (by kernel_rfl) (by kernel_rfl) (by kernel_rfl)
      (by rw [MakeChecks.laidMetH_plain _ _ _ (by kernel_rfl)]; exact laidMet_laidAll _ (by kernel_rfl) (by kernel_rfl))) ?_
  intro W base args ds gs before hval0 hW hc _ hL hsh
  obtain ⟨m, hg⟩ := grel_of hL hsh
  have hval : ∀ (j : Nat) t v, Tryd.f4.params[j]? = some t → args[j]? = some v → Value.okWide Tryd.prog W .any base t v := hval0
  have hA : ∃ p q, DataW.TrodAll enc Tryd.prog W 0 (fun _ => true) true Tryd.f4.params.toList args.toList ds p ∧ DataW.TrodVars enc Tryd.prog W (fun _ => true) [] gs q := by
    obtain ⟨p, q, hA, hV, _⟩ := hW; exact ⟨p, q, hA, hV⟩
  obtain ⟨p, q, hA, hV⟩ := hA
  rw [Tryd.params4] at hA hval
  have hgs : gs = [] := by
    cases gs with
    | nil => rfl
    | cons g r => exact absurd hV (by intro h; cases h)
  subst hgs
  obtain ⟨v0, v1, v2, d0, d1, d2, q0, q1, q2, hargs, rfl, _, h0, h1, h2⟩ := trodAll_three hA
  obtain ⟨a, b, c, d, ha, hb, hcc, hd, w0⟩ := arg_addr h0
  obtain ⟨x, y, z, u, n, hx, hy, hz, hu, _, w1⟩ := arg_net h1
  subst hargs
  obtain ⟨t, _, w2⟩ := arg_str h2 (okWide_string Tryd.underlying9 (hval 2 _ _ rfl rfl))
  refine (calls_of_sp (addrTexts_ok m) hg (vs := [.agg [.int .u8 a, .int .u8 b, .int .u8 c, .int .u8 d], .agg [.int .u8 x, .int .u8 y, .int .u8 z, .int .u8 u, .int .i64 n], .str t]) (b := true) (spTexts_eq ha hb hcc hd hx hy hz hu) rfl rfl (fun i c v e1 e2 => ?_)).mono ?_
  ·   match i, e1, e2 with
    | 0, e1, e2 => simp at e1 e2; subst e1; subst e2; exact w0
    | 1, e1, e2 => simp at e1 e2; subst e1; subst e2; exact w1
    | 2, e1, e2 => simp at e1 e2; subst e1; subst e2; exact w2
  · rintro e w' ⟨rfl, st⟩
    exact ⟨_, rfl, post_law laidOut hW rfl (by simp [Rows.addrTextsSpec]) (by kernel_rfl) Tryd.underlying4 (fun t ht => by
      rw [Tryd.params4] at ht
      have hall : (Tryd.f4.params.toList.all fun t => Tryd.prog.readableRec t && decide (t < Tryd.prog.types.size)) = true := by kernel_rfl
      rw [Tryd.params4] at hall
      simpa using List.all_eq_true.1 hall t ht) st⟩

theorem addrTexts_holds : Rows.AddrTextsSaid :=
  OpenClaim.holds_of_wide 4 Tryd.f4 rfl rfl rfl rfl rfl rfl rfl ⟨rfl, rfl, rfl, rfl, rfl⟩ rfl rfl rfl rfl rfl (by kernel_rfl) Tryd.func4 (by kernel_rfl)
    (of_decide_eq_true (by kernel_rfl)) (by unfold Func.isWrapper; first | (rw [if_pos (by decide +kernel)]; kernel_rfl) | (rw [if_neg (by decide +kernel)]; exact ⟨rfl, rfl⟩))
    (fun os started H enc _ => addrTexts_lifted os started H enc)

theorem addrTexts_card : Rows.AddrTextsCardSaid :=
  Claim7.holds_tied_plain_at .later [] [.data, .data, .data, .sentinel, .sentinel] true (true, "8a31944e792992bbbc4cfe39f8db94a3ffd58e119836f2156c4330d23bf8fbac") true
    addrTexts_holds (fun _ h => by cases h) (by kernel_rfl) (fun _ h => by cases h) addrTexts_row_tie rfl ⟨rfl, rfl⟩ (by kernel_rfl) rfl
    (fun f fn hf hfn => by
      obtain rfl : f = 4 := Option.some.inj ((show Tryd.prog.funcNamed "floodgate/floodgatelaw04.AddrTexts" = some 4 by kernel_rfl).symm.trans hf) |>.symm
      obtain rfl : fn = Tryd.f4 := (Option.some.inj (Tryd.func4.symm.trans hfn)).symm
      exact ⟨by kernel_rfl, fun j t ht => by
        have hall : (Tryd.f4.params.toList.all fun u => !Tryd.prog.wantsStandIn u) = true := by kernel_rfl
        have hm : t ∈ Tryd.f4.params.toList := by simpa using Array.mem_of_getElem? ht
        exact (show Tryd.prog.wantsStandIn t = false by simpa using List.all_eq_true.1 hall t hm)⟩)
    (by kernel_rfl)
end Go.Proofs.YtbhickepoifepaaDoor

