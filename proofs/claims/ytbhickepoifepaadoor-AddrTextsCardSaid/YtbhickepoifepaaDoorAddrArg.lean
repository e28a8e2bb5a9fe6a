/- The arguments of addr's laws. -/
import Derived.Test.YtbhickepoifepaaDoorAddrRow
import Derived.Test.YtbhickepoifepaaDoorFwV2
set_option linter.unusedSimpArgs false
set_option linter.unusedVariables false
set_option maxRecDepth 100000
namespace Go.Proofs.YtbhickepoifepaaDoor
open Go.Fw Go.Fw.Sy Go.Fw.Sy.Ad Go.ChangeShapes Go.WideShapes Go.ChangeAt Go.RowKit

theorem vt_u8 {l : List AV} (h : VT Tryd.prog 5 l) : ∃ a : Nat, a < 256 ∧ l = [.int .u8 a] := by
  cases h with
  | int ht n hn =>
    obtain rfl : _ = IntKind.u8 := by have := ht.symm.trans Tryd.underlying5; injection this with this; injection this
    have hw : 0 ≤ n ∧ n ≤ 255 := by simpa [Lit.wf, IntKind.min, IntKind.max, IntKind.signed, IntKind.bits] using hn
    exact ⟨n.toNat, by omega, by rw [Int.toNat_of_nonneg hw.1]⟩
  | bool ht => have := ht.symm.trans Tryd.underlying5; injection this with this; cases this
  | str ht => have := ht.symm.trans Tryd.underlying5; injection this with this; cases this
  | slice ht => have := ht.symm.trans Tryd.underlying5; injection this with this; cases this
  | struct ht => have := ht.symm.trans Tryd.underlying5; injection this with this; cases this
  | array ht => have := ht.symm.trans Tryd.underlying5; injection this with this; cases this
theorem vt_i64 {l : List AV} (h : VT Tryd.prog 3 l) : ∃ a : Int, (-9223372036854775808 ≤ a ∧ a ≤ 9223372036854775807) ∧ l = [.int .i64 a] := by
  cases h with
  | int ht n hn =>
    obtain rfl : _ = IntKind.i64 := by have := ht.symm.trans Tryd.underlying3; injection this with this; injection this
    have hw : -9223372036854775808 ≤ n ∧ n ≤ 9223372036854775807 := by simpa [Lit.wf, IntKind.min, IntKind.max, IntKind.signed, IntKind.bits] using hn
    exact ⟨n, hw, rfl⟩
  | bool ht => have := ht.symm.trans Tryd.underlying3; injection this with this; cases this
  | str ht => have := ht.symm.trans Tryd.underlying3; injection this with this; cases this
  | slice ht => have := ht.symm.trans Tryd.underlying3; injection this with this; cases this
  | struct ht => have := ht.symm.trans Tryd.underlying3; injection this with this; cases this
  | array ht => have := ht.symm.trans Tryd.underlying3; injection this with this; cases this
theorem vt_str {l : List AV} (h : VT Tryd.prog 9 l) : ∃ s : ByteArray, s.size ≤ maxLen ∧ l = [.str s] := by
  cases h with
  | int ht => have := ht.symm.trans Tryd.underlying9; injection this with this; cases this
  | bool ht => have := ht.symm.trans Tryd.underlying9; injection this with this; cases this
  | str ht s hs => exact ⟨s, hs, rfl⟩
  | slice ht => have := ht.symm.trans Tryd.underlying9; injection this with this; cases this
  | struct ht => have := ht.symm.trans Tryd.underlying9; injection this with this; cases this
  | array ht => have := ht.symm.trans Tryd.underlying9; injection this with this; cases this

theorem cells5 : Tryd.prog.cellsOf 5 = 1 := by kernel_rfl
theorem cells3 : Tryd.prog.cellsOf 3 = 1 := by kernel_rfl
theorem cells23 : Tryd.prog.cellsOf 23 = 4 := by kernel_rfl
theorem cells24 : Tryd.prog.cellsOf 24 = 2 := by kernel_rfl
theorem cells27 : Tryd.prog.cellsOf 27 = 5 := by kernel_rfl
theorem plain23 : plainT Tryd.prog 8 23 = true := by kernel_rfl
theorem plain24 : plainT Tryd.prog 8 24 = true := by kernel_rfl
theorem plain27 : plainT Tryd.prog 8 27 = true := by kernel_rfl
theorem plain9 : plainT Tryd.prog 8 9 = true := by kernel_rfl

theorem vt_addr {l : List AV} (h : VT Tryd.prog 23 l) : ∃ a b c d : Nat, a < 256 ∧ b < 256 ∧ c < 256 ∧ d < 256 ∧ l = [.int .u8 a, .int .u8 b, .int .u8 c, .int .u8 d] := by
  cases h with
  | array ht cs hl hf =>
    obtain ⟨rfl, rfl⟩ : _ = 4 ∧ _ = 5 := by have := ht.symm.trans Tryd.underlying23; injection this with this; injection this with h1 h2; exact ⟨h1, h2⟩
    rw [cells23] at hl
    match l, hl with
    | [w0, w1, w2, w3], _ =>
      have g0 := hf 0 (by decide); have g1 := hf 1 (by decide); have g2 := hf 2 (by decide); have g3 := hf 3 (by decide)
      rw [cells5] at g0 g1 g2 g3
      obtain ⟨a, ha, e0⟩ := vt_u8 g0; obtain ⟨b, hb, e1⟩ := vt_u8 g1; obtain ⟨c, hc, e2⟩ := vt_u8 g2; obtain ⟨d, hd, e3⟩ := vt_u8 g3
      simp at e0 e1 e2 e3
      exact ⟨a, b, c, d, ha, hb, hc, hd, by rw [e0, e1, e2, e3]⟩
  | int ht => have := ht.symm.trans Tryd.underlying23; injection this with this; cases this
  | bool ht => have := ht.symm.trans Tryd.underlying23; injection this with this; cases this
  | str ht => have := ht.symm.trans Tryd.underlying23; injection this with this; cases this
  | slice ht => have := ht.symm.trans Tryd.underlying23; injection this with this; cases this
  | struct ht => have := ht.symm.trans Tryd.underlying23; injection this with this; cases this
theorem vt_pair {l : List AV} (h : VT Tryd.prog 24 l) : ∃ x y : Int, l = [.int .i64 x, .int .i64 y] := by
  cases h with
  | array ht cs hl hf =>
    obtain ⟨rfl, rfl⟩ : _ = 2 ∧ _ = 3 := by have := ht.symm.trans Tryd.underlying24; injection this with this; injection this with h1 h2; exact ⟨h1, h2⟩
    rw [cells24] at hl
    match l, hl with
    | [w0, w1], _ =>
      have g0 := hf 0 (by decide); have g1 := hf 1 (by decide)
      rw [cells3] at g0 g1
      obtain ⟨a, ha, e0⟩ := vt_i64 g0; obtain ⟨b, hb, e1⟩ := vt_i64 g1
      simp at e0 e1
      exact ⟨a, b, by rw [e0, e1]⟩
  | int ht => have := ht.symm.trans Tryd.underlying24; injection this with this; cases this
  | bool ht => have := ht.symm.trans Tryd.underlying24; injection this with this; cases this
  | str ht => have := ht.symm.trans Tryd.underlying24; injection this with this; cases this
  | slice ht => have := ht.symm.trans Tryd.underlying24; injection this with this; cases this
  | struct ht => have := ht.symm.trans Tryd.underlying24; injection this with this; cases this
theorem vt_net {l : List AV} (h : VT Tryd.prog 27 l) : ∃ a b c d : Nat, ∃ n : Int, a < 256 ∧ b < 256 ∧ c < 256 ∧ d < 256 ∧ (-9223372036854775808 ≤ n ∧ n ≤ 9223372036854775807) ∧ l = [.int .u8 a, .int .u8 b, .int .u8 c, .int .u8 d, .int .i64 n] := by
  cases h with
  | struct ht cs hl hf =>
    have hfs := ht.symm.trans Tryd.underlying27
    injection hfs with hfs; injection hfs with hfs; subst hfs
    rw [cells27] at hl
    match l, hl with
    | [w0, w1, w2, w3, w4], _ =>
      have g0 := hf 0 _ rfl; have g1 := hf 1 _ rfl
      simp only [cells23, cells3] at g0 g1
      obtain ⟨a, b, c, d, ha, hb, hc, hd, e0⟩ := vt_addr g0
      obtain ⟨n, hn, e1⟩ := vt_i64 g1
      simp at e0 e1
      obtain ⟨e0, e2, e3, e4⟩ := e0
      exact ⟨a, b, c, d, n, ha, hb, hc, hd, hn, by rw [e0, e2, e3, e4, e1]⟩
  | int ht => have := ht.symm.trans Tryd.underlying27; injection this with this; cases this
  | bool ht => have := ht.symm.trans Tryd.underlying27; injection this with this; cases this
  | str ht => have := ht.symm.trans Tryd.underlying27; injection this with this; cases this
  | slice ht => have := ht.symm.trans Tryd.underlying27; injection this with this; cases this
  | array ht => have := ht.symm.trans Tryd.underlying27; injection this with this; cases this

theorem agg_of_len {v : Value} {n : Nat} (h : v.cells.toList.length = n) (hn : n ≠ 1) : ∃ xs, v = .agg xs := by
  cases v <;> first | exact ⟨_, rfl⟩ | (exfalso; apply hn; rw [← h]; rfl)

theorem arg_addr {H : Type} {enc : TypeId × Value → H} {w : World} {v : Value} {d : DataW H} {ps : List MemPlace} (h : DataW.Trod enc Tryd.prog w 0 (fun _ => true) true 23 v d ps) :
    ∃ a b c d : Nat, a < 256 ∧ b < 256 ∧ c < 256 ∧ d < 256 ∧ PVR (allS w) w (.agg [.int .u8 a, .int .u8 b, .int .u8 c, .int .u8 d]) v := by
  obtain ⟨l, hv, hr⟩ := arg_view plain23 h
  obtain ⟨a, b, c, d, ha, hb, hc, hd, rfl⟩ := vt_addr hv
  obtain ⟨xs, rfl⟩ := agg_of_len hr.1.symm (by simp)
  exact ⟨a, b, c, d, ha, hb, hc, hd, arg_agg hr⟩
theorem arg_pair {H : Type} {enc : TypeId × Value → H} {w : World} {v : Value} {d : DataW H} {ps : List MemPlace} (h : DataW.Trod enc Tryd.prog w 0 (fun _ => true) true 24 v d ps) :
    ∃ x y : Int, PVR (allS w) w (.agg [.int .i64 x, .int .i64 y]) v := by
  obtain ⟨l, hv, hr⟩ := arg_view plain24 h
  obtain ⟨x, y, rfl⟩ := vt_pair hv
  obtain ⟨xs, rfl⟩ := agg_of_len hr.1.symm (by simp)
  exact ⟨x, y, arg_agg hr⟩
theorem arg_net {H : Type} {enc : TypeId × Value → H} {w : World} {v : Value} {d : DataW H} {ps : List MemPlace} (h : DataW.Trod enc Tryd.prog w 0 (fun _ => true) true 27 v d ps) :
    ∃ a b c d : Nat, ∃ n : Int, a < 256 ∧ b < 256 ∧ c < 256 ∧ d < 256 ∧ (-9223372036854775808 ≤ n ∧ n ≤ 9223372036854775807) ∧ PVR (allS w) w (.agg [.int .u8 a, .int .u8 b, .int .u8 c, .int .u8 d, .int .i64 n]) v := by
  obtain ⟨l, hv, hr⟩ := arg_view plain27 h
  obtain ⟨a, b, c, d, n, ha, hb, hc, hd, hn, rfl⟩ := vt_net hv
  obtain ⟨xs, rfl⟩ := agg_of_len hr.1.symm (by simp)
  exact ⟨a, b, c, d, n, ha, hb, hc, hd, hn, arg_agg hr⟩
theorem arg_str {H : Type} {enc : TypeId × Value → H} {w : World} {v : Value} {d : DataW H} {ps : List MemPlace} (h : DataW.Trod enc Tryd.prog w 0 (fun _ => true) true 9 v d ps) (hok : ∃ s, v = .string s) :
    ∃ s : ByteArray, s.size ≤ maxLen ∧ PVR (allS w) w (.str s) v := by
  obtain ⟨s, rfl⟩ := hok
  obtain ⟨l, hv, hr⟩ := arg_view plain9 h
  obtain ⟨s', hs, rfl⟩ := vt_str hv
  exact ⟨s', hs, (hr.2 0 _ _ rfl rfl).2⟩
end Go.Proofs.YtbhickepoifepaaDoor
