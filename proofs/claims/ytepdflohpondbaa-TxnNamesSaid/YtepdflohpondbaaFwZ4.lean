/- Single operations under a condition. -/
import Derived.Test.YtepdflohpondbaaFwZ3
set_option linter.unusedSimpArgs false
set_option linter.unusedVariables false
namespace Go.Fw.Sy
section
variable {K : CallK} {F : Nat} {s : FS} {dst : Option Nat} {g : Option (Nat × Bool)} {chk : List Nat}

theorem evOp_run {op : AOp} {a : AV} {U : List (Nat × Option Blk)} (hg : wantedA g s.sl = some true) (hc : callOf s.sl op = none) (h : runOp op s.sl s.h s.n = some (a, U)) :
    evOp K ⟨dst, op, g, chk⟩ s = some { sl := putSl s.sl dst a, h := app s.h U, n := s.n + 1 } := by
  unfold evOp
  rw [hg]; simp only
  rw [hc]; simp only [h]

theorem evOp_call {op : AOp} {f : FuncId} {as : List AV} {r : AV} {h' : AHeap} {n' : Nat} (hg : wantedA g s.sl = some true) (hc : callOf s.sl op = some (f, as)) (h : K f as s.h s.n = some (r, h', n')) (hn : s.n ≤ n') :
    evOp K ⟨dst, op, g, chk⟩ s = some { sl := putSl s.sl dst r, h := h', n := n' } := by
  unfold evOp
  rw [hg]; simp only
  rw [hc]; simp only [h, if_pos hn]

theorem evOp_bin {op : BinOp} {e : EqTy} {x y : AOpd} {a b c : AV} (hg : wantedA g s.sl = some true) (hx : x.ev s.sl = a) (hy : y.ev s.sl = b) (h : binOf op e a b = some c) :
    evOp K ⟨dst, .bin op e x y, g, chk⟩ s = some { sl := putSl s.sl dst c, h := s.h, n := s.n + 1 } :=
  evOp_run (U := []) hg rfl (by simp only [runOp, hx, hy, h, Option.map_some])

theorem shl_ok {k k' : IntKind} {e : EqTy} {a b : Int} (hb : 0 ≤ b) : binOf .shl e (.int k a) (.int k' b) = some (.int k (k.wrap (a * 2 ^ (min b.toNat k.bits)))) := by
  simp only [binOf, true_or, if_true, intShift]
  rw [if_neg (by omega)]
theorem shr_ok {k k' : IntKind} {e : EqTy} {a b : Int} (hb : 0 ≤ b) : binOf .shr e (.int k a) (.int k' b) = some (.int k (a.fdiv (2 ^ (min b.toNat k.bits)))) := by
  simp only [binOf, or_true, if_true, intShift]
  rw [if_neg (by omega)]
theorem quo_ok {k : IntKind} {e : EqTy} {a b : Int} (hb : b ≠ 0) : binOf .quo e (.int k a) (.int k b) = some (.int k (k.wrap (a.tdiv b))) := by
  simp [binOf, intBin, hb]
theorem rem_ok {k : IntKind} {e : EqTy} {a b : Int} (hb : b ≠ 0) : binOf .rem e (.int k a) (.int k b) = some (.int k (a.tmod b)) := by
  simp [binOf, intBin, hb]

/-- An element of an array that is a value. -/
theorem evOp_indexArr {n z : Nat} {k : Pt} {x i : AOpd} {cs : List AV} {ki : IntKind} {j : Nat} {a : AV} (hg : wantedA g s.sl = some true) (hx : x.ev s.sl = .agg cs) (hi : i.ev s.sl = .int ki j) (hj : j < n) (h : partOf k (cs.drop (j * z)) = some a) :
    evOp K ⟨dst, .index (.array n z) k x i, g, chk⟩ s = some { sl := putSl s.sl dst a, h := s.h, n := s.n + 1 } :=
  evOp_run (U := []) hg rfl (by simp [runOp, hx, hi, indexOf, hj, h])

theorem i64_wrap {x : Int} (h0 : -9223372036854775808 ≤ x) (h1 : x ≤ 9223372036854775807) : IntKind.i64.wrap x = x := by
  simp only [IntKind.wrap, IntKind.bits, IntKind.signed]; simp; omega
end
end Go.Fw.Sy
namespace Go.Fw.Sy
section
variable {K : CallK} {F : Nat} {s : FS} {dst : Option Nat} {chk : List Nat} {t : Nat} {want b : Bool} {op : AOp}

theorem wanted_on (hs : s.sl t = .bool b) (hb : b = want) : wantedA (some (t, want)) s.sl = some true := by
  simp [wantedA, hs, hb]
theorem wanted_off (hs : s.sl t = .bool b) (hb : b = !want) : wantedA (some (t, want)) s.sl = some false := by
  simp [wantedA, hs, hb]
theorem wanted_undef (hs : s.sl t = .undef) : wantedA (some (t, want)) s.sl = some false := by
  simp [wantedA, hs]
theorem evOp_skip {g : Option (Nat × Bool)} (hg : wantedA g s.sl = some false) : evOp K ⟨dst, op, g, chk⟩ s = some { s with sl := putSl s.sl dst .undef } := by
  unfold evOp; rw [hg]

theorem evDOp_skip {g : Option (Nat × Bool)} (hg : wantedA g s.sl = some false) : evDOp K ⟨dst, op, g, chk⟩ s = some { c := .undef, U := [], n' := s.n, foot := [] } := by
  unfold evDOp; rw [hg]
theorem evDOp_run {g : Option (Nat × Bool)} {a : AV} {U : List (Nat × Option Blk)} (hg : wantedA g s.sl = some true) (hc : callOf s.sl op = none) (h : runOp op s.sl s.h s.n = some (a, U)) :
    evDOp K ⟨dst, op, g, chk⟩ s = some { c := a, U := U, n' := s.n + 1, foot := if op.silent then [] else op.opds.flatMap fun x => idsTop (x.ev (s.sl)) } := by
  unfold evDOp; rw [hg]; simp only; rw [hc]; simp only [h]
/-- A call with values without names, in a region that draws. -/
theorem evDOp_call {g : Option (Nat × Bool)} {f : FuncId} {as : List AV} {r : AV} (hg : wantedA g s.sl = some true) (hc : callOf s.sl op = some (f, as)) (hi : idsList as = []) (h : K f as (fun _ => none) s.n = some (r, (fun _ => none), s.n)) :
    evDOp K ⟨dst, op, g, chk⟩ s = some { c := r, U := [], n' := s.n, foot := [] } := by
  unfold evDOp; rw [hg]; simp only; rw [hc]; simp only [hi]
  have e : shownIds s.h 4096 [] [] = [] := by simp [shownIds]
  have e2 : shownT s.h [] = fun _ => none := by funext id; simp [shownT]
  unfold evDCall
  rw [e, e2, h]
  simp
theorem evOp_pick_t {g : Option (Nat × Bool)} {c x y : AOpd} {b : Bool} (hg : wantedA g s.sl = some true) (hc : c.ev s.sl = .bool b) (hb : b = true) :
    evOp K ⟨dst, .pick c x y, g, chk⟩ s = some { sl := putSl s.sl dst (x.ev s.sl), h := s.h, n := s.n + 1 } :=
  evOp_run (U := []) hg rfl (by simp [runOp, hc, hb])
theorem evOp_pick_f {g : Option (Nat × Bool)} {c x y : AOpd} {b : Bool} (hg : wantedA g s.sl = some true) (hc : c.ev s.sl = .bool b) (hb : b = false) :
    evOp K ⟨dst, .pick c x y, g, chk⟩ s = some { sl := putSl s.sl dst (y.ev s.sl), h := s.h, n := s.n + 1 } :=
  evOp_run (U := []) hg rfl (by simp [runOp, hc, hb])
theorem evDOp_pick_t {g : Option (Nat × Bool)} {c x y : AOpd} {b : Bool} (hg : wantedA g s.sl = some true) (hc : c.ev s.sl = .bool b) (hb : b = true) :
    evDOp K ⟨dst, .pick c x y, g, chk⟩ s = some { c := x.ev s.sl, U := [], n' := s.n + 1, foot := [] } :=
  evDOp_run (U := []) hg rfl (by simp [runOp, hc, hb])
theorem evDOp_pick_f {g : Option (Nat × Bool)} {c x y : AOpd} {b : Bool} (hg : wantedA g s.sl = some true) (hc : c.ev s.sl = .bool b) (hb : b = false) :
    evDOp K ⟨dst, .pick c x y, g, chk⟩ s = some { c := y.ev s.sl, U := [], n' := s.n + 1, foot := [] } :=
  evDOp_run (U := []) hg rfl (by simp [runOp, hc, hb])
end
end Go.Fw.Sy
