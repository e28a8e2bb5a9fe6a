/- The evaluator over slots and heaps that are functions. -/
import Derived.Test.YtepdflohpondbaaFwW
set_option linter.unusedSimpArgs false
set_option linter.unusedVariables false
namespace Go.Fw.Sy

structure FS where
  sl : Nat → AV
  h : AHeap
  n : Nat
def FS.as (s : FS) (N m : Nat) : AS := { sl := s.sl, h := s.h, n := s.n, N := N, m := m }

/-! ### The evaluator -/

/-- What calls come to. -/
abbrev CallK := FuncId → List AV → AHeap → Nat → Option (AV × AHeap × Nat)

def evOp (K : CallK) (o : AOper) (s : FS) : Option FS :=
  match wantedA o.guard (s.sl) with
  | some true => match callOf (s.sl) o.op with
    | some (f, as) => match K f as s.h s.n with
      | some (r, h', n') => if s.n ≤ n' then some { sl := putSl s.sl o.dst r, h := h', n := n' } else none
      | none => none
    | none => match runOp o.op (s.sl) (s.h) s.n with
      | some (a, U) => some { sl := putSl s.sl o.dst a, h := app s.h U, n := s.n + 1 }
      | none => none
  | some false => some { s with sl := putSl s.sl o.dst .undef }
  | none => none

def evOps (K : CallK) : List AOper → FS → Option FS
  | [], s => some s
  | o :: r, s => match evOp K o s with
    | some s1 => evOps K r s1
    | none => none

/-- The blocks that can be come to. -/
def shownIds (h : AHeap) : Nat → List Nat → List Nat → List Nat
  | 0, acc, _ => acc
  | _, acc, [] => acc
  | f + 1, acc, id :: r => if acc.contains id then shownIds h f acc r else match h id with
    | none => shownIds h f acc r
    | some b => shownIds h f (id :: acc) (blkIds (some b) ++ r)

def shownT (h : AHeap) (L : List Nat) : AHeap := fun id => if L.contains id then h id else none

def evDCall (K : CallK) (s : FS) (f : FuncId) (as : List AV) (L : List Nat) : Option DRec :=
  match K f as (shownT s.h L) s.n with
  | some (r, h', n') => if s.n ≤ n' ∧ (L.all fun id => (s.h id).isSome) = true then
      some { c := r, U := (L ++ List.range' s.n (n' - s.n)).map (fun id => (id, nro (h' id))), n' := n', foot := L } else none
  | none => none

def evDOp (K : CallK) (o : AOper) (s : FS) : Option DRec :=
  match wantedA o.guard (s.sl) with
  | some true => match callOf (s.sl) o.op with
    | some (f, as) =>
      evDCall K s f as (shownIds s.h 4096 [] (idsList as))
    | none => match runOp o.op (s.sl) (s.h) s.n with
      | some (a, U) => some { c := a, U := U, n' := s.n + 1, foot := if o.op.silent then [] else o.op.opds.flatMap fun x => idsTop (x.ev (s.sl)) }
      | none => none
  | some false => some { c := .undef, U := [], n' := s.n, foot := [] }
  | none => none

def stepD (o : AOper) (d : DRec) (s : FS) : FS := { sl := putSl s.sl o.dst d.c, h := app s.h d.U, n := d.n' }

def evDrawn (K : CallK) : List AOper → List DRec → FS → Option (List DRec × FS)
  | [], ds, s => some (ds, s)
  | o :: r, ds, s => match evDOp K o s with
    | some d => if o.chk.all (fun i => match ds[i]? with
        | some x => !clash x d
        | none => false) then evDrawn K r (ds ++ [d]) (stepD o d s) else none
    | none => none

/-- The state ahead of an operation. -/
def stD (l : List AOper) (ds : List DRec) (s : FS) : Nat → FS
  | 0 => s
  | i + 1 => match l[i]?, ds[i]? with
    | some o, some d => stepD o d (stD l ds s i)
    | _, _ => stD l ds s i
/-- Does operation i say the same behind operation j? -/
def softOk (K : CallK) (l : List AOper) (i j : Nat) (ds : List DRec) (s : FS) : Bool :=
  match l[i]?, ds[i]?, ds[j]? with
  | some o, some d, some e => match d.U, d.foot, e.U with
    | [], [id], [(id', b)] => (id' == id) && (Nat.blt i j && ((List.range j).all (fun k => !Nat.blt i k || (match ds[k]? with
        | some x => (appAt x.U id).isNone
        | none => true)) && (match evDOp K o { stD l ds s i with h := upd (stD l ds s i).h id b } with
        | some d2 => match d2.U, d2.foot, d2.c, d.c with
          | [], [id2], .int q z, .int q' z' => (id2 == id) && (decide (q = q') && (z == z' && d2.n' == d.n'))
          | _, _, _, _ => false
        | none => false)))
    | _, _, _ => false
  | _, _, _ => false

def loopE (g : FS → Option (Exit × FS)) : Nat → FS → Option (Exit × FS)
  | 0, _ => none
  | f + 1, s => match g s with
    | some (.normal, s1) => loopE g f s1
    | x => x

def isLbl (l : Nat) : ACd → Bool
  | .label l' => l' == l
  | _ => false
/-- Passes from a label. -/
def jumpE (l : Nat) (g : FS → Option (Exit × FS)) : Nat → FS → Option (Exit × FS)
  | 0, _ => none
  | f + 1, s => match g s with
    | some (.goto l', s1) => if l' = l then jumpE l g f s1 else none
    | x => x

mutual
def evC (K : CallK) (F : Nat) : ACd → FS → Option (Exit × FS)
  | .skip, s => some (.normal, s)
  | .ops l, s => (evOps K l s).map fun s1 => (.normal, s1)
  | .drawn l, s => (evDrawn K l [] s).map fun x => (.normal, x.2)
  | .drawnM i j l, s => match evDrawn K l [] s with
    | some (ds, s') => if softOk K l i j ds s = true then some (.normal, s') else none
    | none => none
  | .seq a b, s => match evC K F a s with
    | some (.normal, s1) => evC K F b s1
    | x => x
  | .cond c a b, s => match c.ev (s.sl) with
    | .bool true => evC K F a s
    | .bool false => evC K F b s
    | _ => none
  | .block id a, s => match evC K F a s with
    | some (.exit id', s1) => if id' = id then some (.normal, s1) else some (.exit id', s1)
    | x => x
  | .loop a, s => loopE (evC K F a) F s
  | .exit id, s => some (.exit id, s)
  | .ret, s => some (.ret, s)
  | .label _, s => some (.normal, s)
  | .goto l, s => some (.goto l, s)
  | .scope l a, s => match evC K F a s with
    | some (.goto l', s1) => if l' = l then jumpE l (evR K F l a) F s1 else none
    | x => x
  | .bad, _ => none
/-- From a label on. -/
def evR (K : CallK) (F : Nat) (l : Nat) : ACd → FS → Option (Exit × FS)
  | .seq a b, s => bif isLbl l a then evC K F b s else evR K F l b s
  | .skip, _ => none
  | .ops _, _ => none
  | .drawn _, _ => none
  | .drawnM _ _ _, _ => none
  | .cond _ _ _, _ => none
  | .block _ _, _ => none
  | .loop _, _ => none
  | .exit _, _ => none
  | .ret, _ => none
  | .label _, _ => none
  | .goto _, _ => none
  | .scope _ _, _ => none
  | .bad, _ => none
end
end Go.Fw.Sy
