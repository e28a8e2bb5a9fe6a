/- The rows of addr: what the listed variables hold; the laws called. -/
import Derived.Test.YtbhickepoifepaaDoorAddrSp
import Derived.Test.YtbhickepoifepaaDoorFwB2
import Derived.Test.YtbhickepoifepaaDoorCards
import Derived.Test.YtbhickepoifepaaDoorTie
import Derived.ProofKit
import Derived.OpenShut
import Derived.LaidMore
import Derived.Lay
import Derived.LaidSub
import Derived.SevenTiedAt
import Derived.Stop.Joined
import Derived.Shelf.Vars
set_option linter.unusedSimpArgs false
set_option linter.unusedVariables false
set_option maxRecDepth 100000
namespace Go.Proofs.YtbhickepoifepaaDoor
open Go.Fw Go.Fw.Sy Go.Fw.Sy.Ad Go.ChangeShapes Go.WideShapes Go.ChangeAt Go.RowKit

theorem own : ownKnob Tryd.prog.godebug = none := by kernel_rfl
theorem laidOut : laidOutB Tryd.prog = true := by kernel_rfl
abbrev laidL : List (String × DataW Unit) := [("math/bits.deBruijn32tab", Rows.laid_math_bits_deBruijn32tab), ("math/bits.deBruijn64tab", Rows.laid_math_bits_deBruijn64tab), ("internal/strconv.uint64pow10", Rows.laid_internal_strconv_uint64pow10), ("strconv.ErrRange", Rows.laid_strconv_ErrRange), ("strconv.ErrSyntax", Rows.laid_strconv_ErrSyntax)]
theorem gErrS : Tryd.prog.globalNamed "strconv.ErrSyntax" = some 1 := by kernel_rfl
theorem gErrR : Tryd.prog.globalNamed "strconv.ErrRange" = some 2 := by kernel_rfl
theorem gPow : Tryd.prog.globalNamed "internal/strconv.uint64pow10" = some 3 := by kernel_rfl
theorem tErrS : (Tryd.prog.globals[1]?).map (·.type) = some 61 := by kernel_rfl
theorem tErrR : (Tryd.prog.globals[2]?).map (·.type) = some 61 := by kernel_rfl
theorem tPow : (Tryd.prog.globals[3]?).map (·.type) = some 100 := by kernel_rfl
theorem star : "*" ++ "errors.errorString" = "*errors.errorString" := by decide
theorem row106 (u : TypeId) (h : Tryd.prog.typeName? 3 u = some "*errors.errorString") : u = 106 :=
  typeName_ptr_named (nm := "errors.errorString") (by rw [star]; kernel_rfl) (by kernel_rfl) (by decide) u (by rw [star]; exact h)

theorem var_heap {W : World} {n : String} {g : Nat} {cs : Array Value} (hg : Tryd.prog.globalNamed n = some g) (h : W.var? Tryd.prog n = some cs) : ∃ ty fz, W.heap[g]? = some (.cells cs ty fz) := by
  unfold World.var? at h
  rw [hg] at h
  simp only [Option.bind_some] at h
  split at h
  · rename_i cs' ty fz hh
    injection h with h; subst h
    exact ⟨ty, fz, hh⟩
  · cases h

/-- A listed error. -/
theorem err_of_laid {W : World} {n : String} {g : Nat} {text : List UInt8} {d : DataW Unit} (hg : Tryd.prog.globalNamed n = some g) (ht : (Tryd.prog.globals[g]?).map (·.type) = some 61)
    (hd : d = .iface "*errors.errorString" (.ptr (.agg [.lit (.string text)]))) (h : laidMet Tryd.prog [(n, d)] W) :
    ∃ (b o : Nat) (ty : TypeId) (fz : Nat × Nat), W.heap[g]? = some (.cells #[.iface 106 (.pointer (some ⟨b, o, none⟩))] ty fz) ∧ b < W.heap.size := by
  obtain ⟨ps, ⟨g0, t0, cs0, f0, p0, q0, hg0, ht0, hv0, hd0, _, e0⟩, hnd, hrows⟩ := h
  obtain rfl := Option.some.inj (hg.symm.trans hg0)
  obtain rfl := Option.some.inj (ht.symm.trans ht0)
  subst hd
  obtain ⟨l0⟩ := cs0
  have ok0 : ∀ u v, l0 = [.iface u v] → Value.okWide Tryd.prog W .any 0 u v := fun u v e => by
    subst e; subst e0
    exact (hrows g 0 (by simp [MemPlace.row])).2 u v (by simpa using World.var?_cell hg0 hv0 0)
  obtain ⟨a0, s0, rfl, hc0, hs0, hz0, rfl⟩ := errorString_of_trod Tryd.underlying61 row106 Tryd.underlying106 Tryd.underlying108 rfl rfl Tryd.underlying9 (by kernel_rfl) (by kernel_rfl) hd0 ok0
  obtain ⟨ty, fz, hh⟩ := var_heap hg0 hv0
  obtain ⟨b, o, sp⟩ := a0
  have hsp : sp = none := by
    cases sp with
    | none => rfl
    | some k =>
      simp only [World.cell?] at hc0
      split at hc0 <;> simp at hc0
  subst hsp
  refine ⟨b, o, ty, fz, hh, ?_⟩
  simp only [World.cell?] at hc0
  split at hc0
  · rename_i hx
    exact (Array.getElem?_eq_some_iff.1 hx).1
  · cases hc0

theorem grel_of {W : World} (h : laidMetH Tryd.prog laidL W) (hs : W.ShapedOpen Tryd.prog) : ∃ m, GRel (GA m) (allS W) W := by
  rw [MakeChecks.laidMetH_plain _ _ _ (by kernel_rfl)] at h
  obtain ⟨m, hm⟩ := Go.Proofs.cell_of_shapedOpen_int (zero := #[.int .i64 0]) (t := 3) (g := 0) hs (of_decide_eq_true (by kernel_rfl)) (by kernel_rfl) rfl (by kernel_rfl) (by kernel_rfl) Tryd.underlying3
  obtain ⟨cs0, hh0, hz0, _⟩ := hs.1 0 #[.int .i64 0] 3 (of_decide_eq_true (by kernel_rfl)) (by kernel_rfl)
  obtain ⟨b1, o1, ty1, fz1, hh1, hb1⟩ := err_of_laid gErrS tErrS rfl (h.filter fun x => x.1 == "strconv.ErrSyntax")
  obtain ⟨b2, o2, ty2, fz2, hh2, hb2⟩ := err_of_laid gErrR tErrR rfl (h.filter fun x => x.1 == "strconv.ErrRange")
  have htab : Lib.TabIs Tryd.prog W "internal/strconv.uint64pow10" .u64 Lib.pow10Tab :=
    Lib.tabIs_of_head (rest := []) gPow tPow Tryd.underlying100 Tryd.underlying83 (by kernel_rfl) (by kernel_rfl) (h.filter fun x => x.1 == "internal/strconv.uint64pow10")
  obtain ⟨ty3, fz3, hh3⟩ := var_heap gPow htab
  have hlt : ∀ {g : Nat} {o : Obj}, W.heap[g]? = some o → allS W g := fun h => (Array.getElem?_eq_some_iff.1 h).1
  refine ⟨m, fun g cs hg => ?_⟩
  match g, hg with
  | 0, hg =>
    injection hg with hg; subst hg
    refine ⟨.vptr _ 0 0 (fun _ => .int .i64 m) (hlt hh0) (fun i c hc => ?_) (fun i c hc => ?_), hlt hh0, cs0, 3, _, hh0, hz0⟩
    · match i, hc with
      | 0, hc => simp at hc; subst hc; exact ⟨rfl, hm⟩
    · match i, hc with
      | 0, hc => simp at hc; subst hc; exact .int _ _
  | 1, hg =>
    injection hg with hg; subst hg
    refine ⟨.vptr _ 1 0 (fun _ => .iface 106 (.pointer (some ⟨b1, o1, none⟩))) (hlt hh1) (fun i c hc => ?_) (fun i c hc => ?_), hlt hh1, _, ty1, fz1, hh1, rfl⟩
    · match i, hc with
      | 0, hc => simp at hc; subst hc; exact ⟨rfl, by rw [cell_of_heap hh1]; rfl⟩
    · match i, hc with
      | 0, hc => simp at hc; subst hc; exact .iface _ _ _ (.vptr [] b1 o1 (fun _ => Go.undef) hb1 (fun i c h => by simp at h) (fun i c h => by simp at h))
  | 2, hg =>
    injection hg with hg; subst hg
    refine ⟨.vptr _ 2 0 (fun _ => .iface 106 (.pointer (some ⟨b2, o2, none⟩))) (hlt hh2) (fun i c hc => ?_) (fun i c hc => ?_), hlt hh2, _, ty2, fz2, hh2, rfl⟩
    · match i, hc with
      | 0, hc => simp at hc; subst hc; exact ⟨rfl, by rw [cell_of_heap hh2]; rfl⟩
    · match i, hc with
      | 0, hc => simp at hc; subst hc; exact .iface _ _ _ (.vptr [] b2 o2 (fun _ => Go.undef) hb2 (fun i c h => by simp at h) (fun i c h => by simp at h))
  | 3, hg =>
    injection hg with hg; subst hg
    refine ⟨.vptr _ 3 0 (fun i => .int .u64 (Lib.pow10Tab.getD i 0)) (hlt hh3) (fun i c hc => ?_) (fun i c hc => ?_), hlt hh3, _, ty3, fz3, hh3, by simp⟩
    · rw [List.getElem?_map, Option.map_eq_some_iff] at hc
      obtain ⟨z, hz, rfl⟩ := hc
      refine ⟨rfl, ?_⟩
      rw [cell_of_heap hh3]
      simp [hz]
    · rw [List.getElem?_map, Option.map_eq_some_iff] at hc
      obtain ⟨z, hz, rfl⟩ := hc
      simp only [List.getD_eq_getElem?_getD, hz, Option.getD_some]
      exact .int _ _
  | n + 4, hg => cases hg

def spTrue0 : Sp
  | [] => some (.bool true, [])
  | _ => none
theorem names_ok (m : Int) : SpOk Tryd.prog (GA m) 6 spTrue0 := spOk_val (F := 1000) hmx (k12_ok m) (fnOk6 m) fun vs r bs hsp => by
  unfold spTrue0 at hsp
  split at hsp
  · simp only [Option.some.injEq, Prod.mk.injEq] at hsp
    obtain ⟨rfl, rfl⟩ := hsp
    exact ⟨rfl, rfl, run_of_map names_run⟩
  · cases hsp
end Go.Proofs.YtbhickepoifepaaDoor
