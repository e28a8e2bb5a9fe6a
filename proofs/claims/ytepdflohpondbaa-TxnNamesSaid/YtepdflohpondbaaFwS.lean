/- The code as data, and its evaluator. -/
import Derived.Test.YtepdflohpondbaaFwR
set_option linter.unusedSimpArgs false
set_option linter.unusedVariables false
namespace Go.Fw

inductive ACd where
  | skip
  | ops (l : List AOper)
  | drawn (l : List AOper)
  | drawnM (i j : Nat) (l : List AOper)
  | seq (a b : ACd)
  | cond (c : AOpd) (a b : ACd)
  | block (id : Nat) (a : ACd)
  | loop (a : ACd)
  | exit (id : Nat)
  | ret
  | label (l : Nat)
  | goto (l : Nat)
  | scope (l : Nat) (a : ACd)
  | bad
  deriving Inhabited

/-! ### The order of a region's operations -/
/-- The operations ahead of one, as the bits of a number. -/
def maskOf (ms : List Nat) (o : Oper) : Nat := o.after.toList.foldr (fun e acc => bif Region.binds .any e then Nat.lor (Nat.lor acc (Nat.shiftLeft 1 e.on)) (ms.getD e.on 0) else acc) 0
def masks (ms : List Nat) : List Oper → List Nat
  | [] => ms
  | o :: r => masks (ms ++ [maskOf ms o]) r
def reachB (ops : Array Oper) (_ i j : Nat) : Bool := ((masks [] ops.toList).getD j 0).testBit i

theorem maskOf_spec {ms : List Nat} {o : Oper} {i : Nat} (h : (maskOf ms o).testBit i = true) : ∃ e ∈ o.after, Region.binds .any e = true ∧ (i = e.on ∨ (ms.getD e.on 0).testBit i = true) := by
  unfold maskOf at h
  have key : ∀ l : List Edge, (l.foldr (fun e acc => bif Region.binds .any e then Nat.lor (Nat.lor acc (Nat.shiftLeft 1 e.on)) (ms.getD e.on 0) else acc) 0).testBit i = true → ∃ e ∈ l, Region.binds .any e = true ∧ (i = e.on ∨ (ms.getD e.on 0).testBit i = true) := by
    intro l
    induction l with
    | nil => intro h; simp at h
    | cons e r ih =>
      intro h
      rw [List.foldr_cons] at h
      cases hb : Region.binds .any e with
      | false =>
        rw [hb, cond_false] at h
        obtain ⟨e', h1, h2⟩ := ih h
        exact ⟨e', List.mem_cons_of_mem _ h1, h2⟩
      | true =>
        rw [hb, cond_true] at h
        have h' : ((List.foldr (fun e acc => bif Region.binds .any e then Nat.lor (Nat.lor acc (Nat.shiftLeft 1 e.on)) (ms.getD e.on 0) else acc) 0 r ||| (1 <<< e.on)) ||| (ms.getD e.on 0)).testBit i = true := h
        rw [Nat.testBit_or, Nat.testBit_or, Bool.or_eq_true, Bool.or_eq_true] at h'
        rcases h' with (h1 | h1) | h1
        · obtain ⟨e', k1, k2⟩ := ih h1
          exact ⟨e', List.mem_cons_of_mem _ k1, k2⟩
        · refine ⟨e, List.mem_cons_self, hb, .inl ?_⟩
          rw [Nat.one_shiftLeft, Nat.testBit_two_pow] at h1
          have := of_decide_eq_true h1; exact this.symm
        · exact ⟨e, List.mem_cons_self, hb, .inr h1⟩
  obtain ⟨e, h1, h2⟩ := key _ h
  exact ⟨e, by simpa using h1, h2⟩

theorem masks_spec {ops : Array Oper} : ∀ (l : List Oper) (ms : List Nat), (∀ k, l[k]? = ops[ms.length + k]?) → (∀ j i, (ms.getD j 0).testBit i = true → reach ops i j) → ∀ j i, ((masks ms l).getD j 0).testBit i = true → reach ops i j
  | [], ms, _, h => h
  | o :: r, ms, hl, h => by
    refine masks_spec r (ms ++ [maskOf ms o]) (fun k => ?_) fun j i hb => ?_
    · have := hl (k + 1)
      rw [List.getElem?_cons_succ] at this
      rw [this, List.length_append, List.length_singleton]
      congr 1; omega
    · by_cases hj : j < ms.length
      · refine h j i ?_
        rw [List.getD_eq_getElem?_getD, List.getElem?_append_left hj] at hb
        rw [List.getD_eq_getElem?_getD]; exact hb
      · by_cases he : j = ms.length
        · subst he
          rw [List.getD_eq_getElem?_getD, List.getElem?_append_right (Nat.le_refl _)] at hb
          simp only [Nat.sub_self, List.getElem?_cons_zero, Option.getD_some] at hb
          obtain ⟨e, h1, h2, h3⟩ := maskOf_spec hb
          have ho : ops[ms.length]? = some o := by have := hl 0; simpa using this.symm
          intro L hc hL
          have h4 := hc _ o ho hL e h1 h2
          rcases h3 with h3 | h3
          · rw [h3]; exact h4
          · exact h _ _ h3 L hc h4
        · rw [List.getD_eq_getElem?_getD, List.getElem?_eq_none (by simp; omega)] at hb
          simp at hb

theorem reachB_sound {ops : Array Oper} {f i j : Nat} (h : reachB ops f i j = true) : reach ops i j :=
  masks_spec ops.toList [] (fun k => by simp) (fun j i hb => by simp at hb) j i h

def slotsOf (xs : List AOpd) : List Nat := xs.filterMap fun
  | .t i => some i
  | .c _ => none

def looksOf (o : AOper) : List Nat := slotsOf o.op.opds ++ (match o.guard with
  | some (t, _) => [t]
  | none => [])

/-- Does it look at no block, and make none? -/
def AOp.silent : AOp → Bool
  | .mov _ | .pick .. | .build .. | .nilCheck _ | .bin .. | .un .. | .mkIface .. | .mkFunc .. | .fieldAddr .. | .field .. | .indexAddr .. | .index .. | .extract .. | .lenConst _ | .cap _ | .minmax .. => true
  | _ => false

def dstOk (m : Nat) : Option Nat → Bool
  | some d => decide (d < m)
  | none => true

def compOper (P : Program) (G : Glob) (m : Nat) (ops : Array Oper) (chk : List Nat) (o : Oper) : Option AOper :=
  match compOp P G o, compGuard ops o with
  | some op, some g => if dstOk m o.dst then some { dst := o.dst, op := op, guard := g, chk := chk } else none
  | _, _ => none

def compOpers (P : Program) (G : Glob) (m : Nat) (ops : Array Oper) (chk : Nat → List Nat) : Nat → List Oper → Option (List AOper)
  | _, [] => some []
  | i, o :: r => match compOper P G m ops (chk i) o, compOpers P G m ops chk (i + 1) r with
    | some a, some l => some (a :: l)
    | _, _ => none

def confl (x y : AOper) : Bool := (match x.dst with
    | some s => (looksOf y).contains s || y.dst == some s
    | none => false) ||
  (match y.dst with
    | some s => (looksOf x).contains s
    | none => false)

/-- Is each pair that meets in a slot in order, and are the others looked at when the region runs? -/
def pairsOk (ops : Array Oper) (l : List AOper) : Bool :=
  (List.range l.length).all fun j => (List.range j).all fun i =>
    reachB ops ops.size i j || (match l[i]?, l[j]? with
      | some x, some y => !confl x y && ((x.op.silent && y.op.silent) || y.chk.contains i)
      | _, _ => false)

def downOk (ops : Array Oper) : Bool := (List.range ops.size).all fun i => match ops[i]? with
  | some o => o.after.all fun e => !Region.binds .any e || decide (e.on < i)
  | none => true

def chkOf (ops : Array Oper) (l : List AOper) (j : Nat) : List Nat := (List.range j).filter fun i => !reachB ops ops.size i j && (match l[i]?, l[j]? with
  | some x, some y => !(x.op.silent && y.op.silent)
  | _, _ => true)

def compDrawn (P : Program) (G : Glob) (m : Nat) (ops : Array Oper) : Option (List AOper) :=
  match compOpers P G m ops (fun _ => []) 0 ops.toList with
  | some l0 => match compOpers P G m ops (chkOf ops l0) 0 ops.toList with
    | some l => if pairsOk ops l && downOk ops then some l else none
    | none => none
  | none => none

def softOps : AOp → AOp → Bool
  | .lookup _ _ _ _ false, .mapEntry .. => true
  | _, _ => false
/-- A look-up and an entry that is made for a store, in no order: the first such pair. -/
def softPair (ops : Array Oper) (l : List AOper) : Option (Nat × Nat) :=
  ((List.range l.length).flatMap fun j => (List.range j).map fun i => (i, j)).find? fun p => !reachB ops ops.size p.1 p.2 && (match l[p.1]?, l[p.2]? with
    | some x, some y => softOps x.op y.op
    | _, _ => false)
def pairsOkX (ops : Array Oper) (l : List AOper) (i0 j0 : Nat) : Bool :=
  (List.range l.length).all fun j => (List.range j).all fun i =>
    reachB ops ops.size i j || (match l[i]?, l[j]? with
      | some x, some y => !confl x y && ((x.op.silent && y.op.silent) || (y.chk.contains i || (i == i0 && j == j0)))
      | _, _ => false)
def compDrawnM (P : Program) (G : Glob) (m : Nat) (ops : Array Oper) : Option (Nat × Nat × List AOper) :=
  match compOpers P G m ops (fun _ => []) 0 ops.toList with
  | some l0 => match softPair ops l0 with
    | some (i, j) => match compOpers P G m ops (fun k => (chkOf ops l0 k).filter fun x => !(x == i && k == j)) 0 ops.toList with
      | some l => if pairsOkX ops l i j && downOk ops then some (i, j, l) else none
      | none => none
    | none => none
  | none => none

/-- The first label on the spine. -/
def spineL : Code → Option Nat
  | .seq a b => match a with
    | .label l => some l
    | _ => spineL b
  | _ => none
/-- On the spine, the label stands nowhere but as a step of its own. -/
def chkL (l : Nat) : Code → Bool
  | .seq a b => match a with
    | .label l' => (l' == l) || chkL l b
    | _ => (findLabel a l).isNone && chkL l b
  | _ => true
def compC (P : Program) (G : Glob) (m : Nat) : Code → ACd
  | .skip => .skip
  | .region _ ops false => match compOpers P G m ops (fun _ => []) 0 ops.toList with
    | some l => .ops l
    | none => .bad
  | .region _ ops true => match compDrawnM P G m ops with
    | some (i, j, l) => .drawnM i j l
    | none => match compDrawn P G m ops with
      | some l => .drawn l
      | none => .bad
  | .seq a b => .seq (compC P G m a) (compC P G m b)
  | .cond c a b => match opdOf G c with
    | some x => .cond x (compC P G m a) (compC P G m b)
    | none => .bad
  | .block id a => .block id (compC P G m a)
  | .loop a => .loop (compC P G m a)
  | .exit id => .exit id
  | .ret => .ret
  | .label l => .label l
  | .goto l => .goto l
  | .scope c => match spineL c with
    | some l => if chkL l c = true then .scope l (compC P G m c) else .bad
    | none => .bad
  | _ => .bad

/-! ### The evaluator -/

/-- What calls come to. -/
abbrev CallK := FuncId → List AV → Tr (Option Blk) → Nat → Option (AV × Tr (Option Blk) × Nat)

def callOf (sl : Nat → AV) : AOp → Option (FuncId × List AV)
  | .call f xs => some (f, xs.map (·.ev sl))
  | .callv g xs => match g.ev sl with
    | .func (.func f) first captured => some (f, first ++ xs.map (·.ev sl) ++ captured)
    | _ => none
  | _ => none

def idsLt (U : List (Nat × Option Blk)) : Bool := U.all fun x => decide (x.1 + 1 < 2 ^ 24)

def evOp (K : CallK) (o : AOper) (s : ES) : Option ES :=
  match wantedA o.guard (slT s.sl) with
  | some true => match callOf (slT s.sl) o.op with
    | some (f, as) => match K f as s.h s.n with
      | some (r, h', n') => if s.n ≤ n' then some { sl := putT s.sl o.dst r, h := h', n := n' } else none
      | none => none
    | none => match runOp o.op (slT s.sl) (hT s.h) s.n with
      | some (a, U) => if idsLt U = true then some { sl := putT s.sl o.dst a, h := appT s.h U, n := s.n + 1 } else none
      | none => none
  | some false => some { s with sl := putT s.sl o.dst .undef }
  | none => none

def evOps (K : CallK) : List AOper → ES → Option ES
  | [], s => some s
  | o :: r, s => match evOp K o s with
    | some s1 => evOps K r s1
    | none => none

mutual
def AV.ids : AV → List Nat
  | .ptr id _ => [id]
  | .sl id _ _ _ _ => [id]
  | .map id => [id]
  | .agg cs => idsList cs
  | .tup cs => idsList cs
  | .func _ as bs => idsList as ++ idsList bs
  | .iface _ a => a.ids
  | _ => []
def idsList : List AV → List Nat
  | [] => []
  | a :: r => a.ids ++ idsList r
end

def blkIds : Option Blk → List Nat
  | some (.cells cs _) => idsList cs
  | some (.map es _) => es.flatMap fun e => e.1.ids ++ e.2.1.ids
  | none => []

/-- The blocks that can be come to. -/
def shownIds (h : Tr (Option Blk)) : Nat → List Nat → List Nat → List Nat
  | 0, acc, _ => acc
  | _, acc, [] => acc
  | f + 1, acc, id :: r => if acc.contains id then shownIds h f acc r else match h.get none id with
    | none => shownIds h f acc r
    | some b => shownIds h f (id :: acc) (blkIds (some b) ++ r)

def shownT (h : Tr (Option Blk)) : List Nat → Tr (Option Blk)
  | [] => .nil
  | id :: r => Tr.set none (h.get none id) 24 (shownT h r) id

/-- One operation of a region that draws: what it puts, what it turns, how far the names go, what it looks at. -/
structure DRec where
  c : AV
  U : List (Nat × Option Blk)
  n' : Nat
  foot : List Nat

def evDCall (K : CallK) (s : ES) (f : FuncId) (as : List AV) (L : List Nat) : Option DRec :=
  match K f as (shownT s.h L) s.n with
  | some (r, h', n') => if s.n ≤ n' ∧ (L.all fun id => decide (id + 1 < 2 ^ 24) && ((s.h.get none id).isSome)) = true ∧ n' + 1 < 2 ^ 24 then
      some { c := r, U := (L ++ List.range' s.n (n' - s.n)).map (fun id => (id, nro (h'.get none id))), n' := n', foot := L } else none
  | none => none

def evDOp (K : CallK) (o : AOper) (s : ES) : Option DRec :=
  match wantedA o.guard (slT s.sl) with
  | some true => match callOf (slT s.sl) o.op with
    | some (f, as) =>
      evDCall K s f as (shownIds s.h 4096 [] (idsList as))
    | none => match runOp o.op (slT s.sl) (hT s.h) s.n with
      | some (a, U) => if idsLt U = true then some { c := a, U := U, n' := s.n + 1, foot := if o.op.silent then [] else o.op.opds.flatMap fun x => idsTop (x.ev (slT s.sl)) } else none
      | none => none
  | some false => some { c := .undef, U := [], n' := s.n, foot := [] }
  | none => none

def clash (x y : DRec) : Bool := x.U.any (fun p => y.foot.contains p.1 || y.U.any fun q => q.1 == p.1) || y.U.any (fun p => x.foot.contains p.1)

def stepD (o : AOper) (d : DRec) (s : ES) : ES := { sl := putT s.sl o.dst d.c, h := appT s.h d.U, n := d.n' }

def evDrawn (K : CallK) : List AOper → List DRec → ES → Option (List DRec × ES)
  | [], ds, s => some (ds, s)
  | o :: r, ds, s => match evDOp K o s with
    | some d => if o.chk.all (fun i => match ds[i]? with
        | some x => !clash x d
        | none => false) then evDrawn K r (ds ++ [d]) (stepD o d s) else none
    | none => none

def loopE (g : ES → Option (Exit × ES)) : Nat → ES → Option (Exit × ES)
  | 0, _ => none
  | f + 1, s => match g s with
    | some (.normal, s1) => loopE g f s1
    | x => x

def evC (K : CallK) (F : Nat) : ACd → ES → Option (Exit × ES)
  | .skip, s => some (.normal, s)
  | .ops l, s => (evOps K l s).map fun s1 => (.normal, s1)
  | .drawn l, s => (evDrawn K l [] s).map fun x => (.normal, x.2)
  | .drawnM _ _ _, _ => none
  | .seq a b, s => match evC K F a s with
    | some (.normal, s1) => evC K F b s1
    | x => x
  | .cond c a b, s => match c.ev (slT s.sl) with
    | .bool true => evC K F a s
    | .bool false => evC K F b s
    | _ => none
  | .block id a, s => match evC K F a s with
    | some (.exit id', s1) => if id' = id then some (.normal, s1) else some (.exit id', s1)
    | x => x
  | .loop a, s => loopE (evC K F a) F s
  | .exit id, s => some (.exit id, s)
  | .ret, s => some (.ret, s)
  | .label _, _ => none
  | .goto _, _ => none
  | .scope _ _, _ => none
  | .bad, _ => none
end Go.Fw
