/- What of Go's library the functions of addr call, as contracts. -/
import Derived.Test.YtbhickepoifepaaDoorShelf
import Derived.Test.YtbhickepoifepaaDoorFwL2
import Derived.Lib.AtoiErrMem
set_option linter.unusedSimpArgs false
set_option linter.unusedVariables false
namespace Go.Fw.Sy.Ad
open Go.RowKit Go.Proofs

/-- The package-level variables: MaxLen, ErrSyntax, ErrRange, uint64pow10. -/
def GA (m : Int) : Glob := fun g => match g with
  | 0 => some [.int .i64 m]
  | 1 => some [.iface 106 (.vptr [])]
  | 2 => some [.iface 106 (.vptr [])]
  | 3 => some (Lib.pow10Tab.map fun z => .int .u64 z)
  | _ => none

theorem pvr_int' {S : Nat → Prop} {w : World} {k : IntKind} {n : Int} {v : Value} (h : PVR S w (.int k n) v) : v = .int k n := by cases h; rfl
theorem pvr_str' {S : Nat → Prop} {w : World} {s : ByteArray} {v : Value} (h : PVR S w (.str s) v) : v = .string s := by cases h; rfl

theorem glob_cell {G : Glob} {S : Nat → Prop} {w : World} (hg : GRel G S w) {g : Nat} {cs : List AV} (h : G g = some cs) {i : Nat} {c : AV} (hc : cs[i]? = some c) : ∃ v, w.cell? ⟨g, i, none⟩ = some v ∧ PVR S w c v := by
  have := (hg g cs h).1
  cases this with
  | vptr _ _ _ f hb h1 h2 =>
    have := h1 i c hc
    rw [Nat.zero_add] at this
    exact ⟨f i, this.2, h2 i c hc⟩

def spCutS : Sp
  | [.str s, .str sep] => if s.size < 4294967281 then
      some (.tup [.str ⟨(Lib.cut s.data.toList sep.data.toList).1.toArray⟩, .str ⟨(Lib.cut s.data.toList sep.data.toList).2.1.toArray⟩, .bool (Lib.cut s.data.toList sep.data.toList).2.2], []) else none
  | _ => none
def spItoa : Sp
  | [.int .i64 n] => if -9223372036854775808 ≤ n ∧ n ≤ 9223372036854775807 then some (.str ⟨(Lib.itoa n).toArray⟩, []) else none
  | _ => none
def strOf : List AV → Option ByteArray
  | [.str s] => some s
  | _ => none
def spJoin : Sp
  | [.vsl 1 es cap, .str sep] => match es.mapM strOf with
    | some xs => if xs ≠ [] ∧ xs.length ≤ 140737488355328 ∧ (Lib.join (xs.map (·.data.toList)) sep.data.toList).length ≤ 140737488355328 then
        some (.str ⟨(Lib.join (xs.map (·.data.toList)) sep.data.toList).toArray⟩, []) else none
    | none => none
  | _ => none
def spAtoi : Sp
  | [.str s] => if s.size ≤ 281474976710656 then match Lib.atoiAll s.data.toList with
      | .ok v => some (.tup [.int .i64 v, .niliface], [])
      | .range => some (.tup [.int .i64 (Lib.atoiSat s.data.toList), .iface 79 (.vptr [])], [])
      | _ => some (.tup [.int .i64 0, .iface 79 (.vptr [])], [])
    else none
  | _ => none

theorem callable_of {f : FuncId} {fn : Func} (h : Tryd.prog.funcs[f]? = some fn) (h1 : (fn.name == "runtime.NumGoroutine") = false) (h2 : fn.body.isSome = true) : Callable Tryd.prog f := ⟨fn, h, h1, h2⟩

theorem two_args {vs : List AV} {a b : AV} {xs : List Value} (h : [a, b].length = xs.length) : ∃ x y, xs = [x, y] := by
  match xs, h with
  | [x, y], _ => exact ⟨x, y, rfl⟩
theorem one_arg {a : AV} {xs : List Value} (h : [a].length = xs.length) : ∃ x, xs = [x] := by
  match xs, h with
  | [x], _ => exact ⟨x, rfl⟩

theorem cutS_ok (m : Int) : SpOk Tryd.prog (GA m) 24 spCutS := by
  refine spOk_flat (callable_of Tryd.func24 (by kernel_rfl) (by kernel_rfl)) fun vs r bs hids hsp => ?_
  unfold spCutS at hsp
  split at hsp
  · rename_i s sep
    split at hsp
    · rename_i hs
      simp only [Option.some.injEq, Prod.mk.injEq] at hsp
      obtain ⟨rfl, rfl⟩ := hsp
      refine ⟨rfl, rfl, fun S w xs hS hg hl ha => ?_⟩
      obtain ⟨x, y, rfl⟩ := two_args (vs := []) hl
      obtain rfl := pvr_str' (ha 0 _ x rfl rfl)
      obtain rfl := pvr_str' (ha 1 _ y rfl rfl)
      obtain ⟨v, hv, hp⟩ := glob_cell hg (g := 0) (cs := [.int .i64 m]) rfl (i := 0) rfl
      obtain rfl := pvr_int' hp
      refine (Tryd.strings_Cut s sep m w hs hv).mono ?_
      rintro e w' ⟨rfl, n, rfl⟩
      refine ⟨_, rfl, below_drewN w n, fun S' w' => .tup _ [_, _, _] rfl fun i c x h1 h2 => ?_⟩
      match i, h1, h2 with
      | 0, h1, h2 => simp at h1 h2; subst h1; subst h2; exact .str _
      | 1, h1, h2 => simp at h1 h2; subst h1; subst h2; exact .str _
      | 2, h1, h2 => simp at h1 h2; subst h1; subst h2; exact .bool _
    · cases hsp
  · cases hsp

theorem itoa_ok (m : Int) : SpOk Tryd.prog (GA m) 27 spItoa := by
  refine spOk_flat (callable_of Tryd.func27 (by kernel_rfl) (by kernel_rfl)) fun vs r bs hids hsp => ?_
  unfold spItoa at hsp
  split at hsp
  · rename_i n
    split at hsp
    · rename_i hn
      simp only [Option.some.injEq, Prod.mk.injEq] at hsp
      obtain ⟨rfl, rfl⟩ := hsp
      refine ⟨rfl, rfl, fun S w xs hS hg hl ha => ?_⟩
      obtain ⟨x, rfl⟩ := one_arg hl
      obtain rfl := pvr_int' (ha 0 _ x rfl rfl)
      have htab : Lib.TabIs Tryd.prog w "internal/strconv.uint64pow10" .u64 Lib.pow10Tab := by
        obtain ⟨h1, h2, arr, ty, fz, h3, h4⟩ := hg 3 _ rfl
        unfold Lib.TabIs World.var?
        rw [show Tryd.prog.globalNamed "internal/strconv.uint64pow10" = some 3 by kernel_rfl]
        simp only [Option.bind_some, h3, Option.some.injEq]
        apply Array.ext'
        refine List.ext_getElem? fun i => ?_
        rw [List.getElem?_map]
        by_cases hi : i < Lib.pow10Tab.length
        · obtain ⟨v, hv, hp⟩ := glob_cell hg (g := 3) (cs := Lib.pow10Tab.map fun z => .int .u64 z) rfl (i := i) (c := .int .u64 Lib.pow10Tab[i]) (by rw [List.getElem?_map, List.getElem?_eq_getElem hi]; rfl)
          rw [pvr_int' hp, cell_of_heap h3] at hv
          rw [List.getElem?_eq_getElem hi]
          simpa using hv
        · have h5 : arr.size = Lib.pow10Tab.length := by rw [h4, List.length_map]
          rw [List.getElem?_eq_none (by rw [Array.length_toList]; omega), List.getElem?_eq_none (by omega)]; rfl
      refine (Tryd.strconv_Itoa n hn.1 hn.2 w htab).mono ?_
      rintro e w' ⟨rfl, k, os, rfl⟩
      exact ⟨_, rfl, below_grow os (below_drewN w k), fun S' w' => .str _⟩
    · cases hsp
  · cases hsp

theorem mapM_strOf {es : List (List AV)} {xs : List ByteArray} (h : es.mapM strOf = some xs) : xs.length = es.length ∧ ∀ (j : Nat) (x : ByteArray), xs[j]? = some x → es[j]? = some [.str x] := by
  induction es generalizing xs with
  | nil => simp at h; subst h; exact ⟨rfl, fun j x hx => by simp at hx⟩
  | cons e es ih =>
    simp only [List.mapM_cons, Option.bind_eq_bind, Option.bind_eq_some_iff, Option.pure_def, Option.some.injEq] at h
    obtain ⟨s, hs, ys, hys, rfl⟩ := h
    obtain ⟨k1, k2⟩ := ih hys
    refine ⟨by simp [k1], fun j x hx => ?_⟩
    cases j with
    | zero =>
      simp at hx; subst hx
      unfold strOf at hs
      split at hs
      · injection hs with hs; subst hs; rfl
      · cases hs
    | succ j => simpa using k2 j x (by simpa using hx)

theorem join_ok (m : Int) : SpOk Tryd.prog (GA m) 28 spJoin := by
  refine spOk_flat (callable_of Tryd.func28 (by kernel_rfl) (by kernel_rfl)) fun vs r bs hids hsp => ?_
  unfold spJoin at hsp
  split at hsp
  · rename_i es cap sep
    split at hsp
    · rename_i ss hss
      split at hsp
      · rename_i hb
        obtain ⟨hne, hb1, hb2⟩ := hb
        simp only [Option.some.injEq, Prod.mk.injEq] at hsp
        obtain ⟨rfl, rfl⟩ := hsp
        refine ⟨rfl, rfl, fun S w xs hS hg hl ha => ?_⟩
        obtain ⟨x, y, rfl⟩ := two_args (vs := []) hl
        obtain rfl := pvr_str' (ha 1 _ y rfl rfl)
        obtain ⟨k1, k2⟩ := mapM_strOf hss
        have hx := ha 0 _ x rfl rfl
        cases hx with
        | vsl _ _ _ a n c b o f h1 h2 h3 h4 h5 h6 h7 =>
          have hne' : es ≠ [] := by rintro rfl; simp at k1; exact hne k1
          obtain ⟨rfl, hSb⟩ := h4 hne'
          subst h1
          rw [← k1]
          refine (Tryd.strings_Join b o c ss sep w (fun j x hx => ?_) (hS b hSb) hb1 (by omega) hb2).mono ?_
          · have he := k2 j x hx
            have q1 := (h6 j _ 0 (.str x) he rfl).2
            have q2 := h7 j _ 0 (.str x) he rfl
            rw [pvr_str' q2] at q1
            simpa using q1
          · rintro e w' ⟨rfl, hbel⟩
            exact ⟨_, rfl, hbel, fun S' w' => .str _⟩
      · cases hsp
    · cases hsp
  · cases hsp

theorem err_cell {m : Int} {S : Nat → Prop} {w : World} (hg : GRel (GA m) S w) {g : Nat} (h : GA m g = some [.iface 106 (.vptr [])]) : ∃ ev, w.cell? ⟨g, 0, none⟩ = some ev ∧ (ev = .nilIface ∨ ∃ te pe, ev = .iface te pe) := by
  obtain ⟨v, hv, hp⟩ := glob_cell hg h (i := 0) rfl
  refine ⟨v, hv, .inr ?_⟩
  cases hp with
  | iface t a u _ => exact ⟨_, _, rfl⟩

theorem atoi_ok (m : Int) : SpOk Tryd.prog (GA m) 32 spAtoi := by
  refine spOk_of_calls (callable_of Tryd.func32 (by kernel_rfl) (by kernel_rfl)) fun vs r bs hids hsp => ?_
  unfold spAtoi at hsp
  split at hsp
  · rename_i s
    split at hsp
    · rename_i hs
      split at hsp
      · rename_i v hv
        simp only [Option.some.injEq, Prod.mk.injEq] at hsp
        obtain ⟨rfl, rfl⟩ := hsp
        refine ⟨rfl, rfl, fun S w xs hS hg hl ha => ?_⟩
        obtain ⟨x, rfl⟩ := one_arg hl
        obtain rfl := pvr_str' (ha 0 _ x rfl rfl)
        refine (Tryd.strconv_Atoi_ok s (by omega) v hv w).mono ?_
        rintro e w' ⟨rfl, hw⟩
        refine ⟨_, S, rfl, ?_, fun _ h => h, fun _ h => .inl h, .tup _ [_, _] rfl fun i c x h1 h2 => ?_⟩
        · rcases hw with rfl | ⟨t, rfl⟩
          · exact Below.refl _ _
          · exact Lib.bytesWorld_below _ _ _
        · match i, h1, h2 with
          | 0, h1, h2 => simp at h1 h2; subst h1; subst h2; exact .int _ _
          | 1, h1, h2 => simp at h1 h2; subst h1; subst h2; exact .niliface
      · rename_i hv
        simp only [Option.some.injEq, Prod.mk.injEq] at hsp
        obtain ⟨rfl, rfl⟩ := hsp
        refine ⟨rfl, rfl, fun S w xs hS hg hl ha => ?_⟩
        obtain ⟨x, rfl⟩ := one_arg hl
        obtain rfl := pvr_str' (ha 0 _ x rfl rfl)
        obtain ⟨ev, h1, h2⟩ := err_cell (m := m) hg (g := 2) rfl
        refine (Tryd.strconv_Atoi_range s hs hv ev w h1 h2).mono ?_
        rintro e w' ⟨N, rfl, hN, hcell, hbel⟩
        have hlt : N < w'.heap.size := (Array.getElem?_eq_some_iff.1 hcell).1
        refine ⟨_, fun b => S b ∨ b = N, rfl, hbel, fun _ h => .inl h, fun b h => h.imp (fun h => h) fun h => by subst h; exact ⟨hN, hlt⟩, .tup _ [_, _] rfl fun i c x h1 h2 => ?_⟩
        match i, h1, h2 with
        | 0, h1, h2 => simp at h1 h2; subst h1; subst h2; exact .int _ _
        | 1, h1, h2 =>
          simp at h1 h2; subst h1; subst h2
          exact .iface _ _ _ (.vptr [] N 0 (fun _ => Go.undef) (.inr rfl) (fun i c h => by simp at h) (fun i c h => by simp at h))
      · rename_i hn1 hn2
        have hv : Lib.atoiAll s.data.toList = Lib.atoiAll [] := by
          cases hx : Lib.atoiAll s.data.toList with
          | ok v => exact absurd hx (hn1 v)
          | range => exact absurd hx hn2
          | _ => rfl
        simp only [Option.some.injEq, Prod.mk.injEq] at hsp
        obtain ⟨rfl, rfl⟩ := hsp
        refine ⟨rfl, rfl, fun S w xs hS hg hl ha => ?_⟩
        obtain ⟨x, rfl⟩ := one_arg hl
        obtain rfl := pvr_str' (ha 0 _ x rfl rfl)
        obtain ⟨ev, h1, h2⟩ := err_cell (m := m) hg (g := 1) rfl
        refine (Tryd.strconv_Atoi_syntax s hs hv ev w h1 h2).mono ?_
        rintro e w' ⟨N, rfl, hN, hcell, hbel⟩
        have hlt : N < w'.heap.size := (Array.getElem?_eq_some_iff.1 hcell).1
        refine ⟨_, fun b => S b ∨ b = N, rfl, hbel, fun _ h => .inl h, fun b h => h.imp (fun h => h) fun h => by subst h; exact ⟨hN, hlt⟩, .tup _ [_, _] rfl fun i c x h1 h2 => ?_⟩
        match i, h1, h2 with
        | 0, h1, h2 => simp at h1 h2; subst h1; subst h2; exact .int _ _
        | 1, h1, h2 =>
          simp at h1 h2; subst h1; subst h2
          exact .iface _ _ _ (.vptr [] N 0 (fun _ => Go.undef) (.inr rfl) (fun i c h => by simp at h) (fun i c h => by simp at h))
    · cases hsp
  · cases hsp
end Go.Fw.Sy.Ad
