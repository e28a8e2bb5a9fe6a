/- The words of a symbolic run: nothing is looked into before it is known from which state. -/
import Derived.Test.YtbhickepoifepaaDoorFwL2
set_option linter.unusedSimpArgs false
set_option linter.unusedVariables false
namespace Go.Fw.Sy
section
variable {K : CallK} {F : Nat} {s s1 : FS} {dst : Option Nat} {chk : List Nat}

def bindN (x : Option (Exit × FS)) (f : FS → Option (Exit × FS)) : Option (Exit × FS) := match x with
  | some (.normal, s) => f s
  | x => x
theorem bindN_n (f : FS → Option (Exit × FS)) : bindN (some (.normal, s)) f = f s := rfl
theorem bindN_ret (f : FS → Option (Exit × FS)) : bindN (some (.ret, s)) f = some (.ret, s) := rfl
theorem bindN_exit (id : Nat) (f : FS → Option (Exit × FS)) : bindN (some (.exit id, s)) f = some (.exit id, s) := rfl
theorem y_seq (a b : ACd) : evC K F (.seq a b) s = bindN (evC K F a s) (evC K F b) := rfl

def mapN (x : Option FS) : Option (Exit × FS) := x.map fun s => (.normal, s)
theorem mapN_some : mapN (some s) = some (.normal, s) := rfl
theorem y_ops (l : List AOper) : evC K F (.ops l) s = mapN (evOps K l s) := rfl
theorem y_skip : evC K F .skip s = some (.normal, s) := rfl
theorem y_ret : evC K F .ret s = some (.ret, s) := rfl
theorem y_exit (id : Nat) : evC K F (.exit id) s = some (.exit id, s) := rfl

def blockR (id : Nat) (x : Option (Exit × FS)) : Option (Exit × FS) := match x with
  | some (.exit id', s) => if id' = id then some (.normal, s) else some (.exit id', s)
  | x => x
theorem blockR_n (id : Nat) : blockR id (some (.normal, s)) = some (.normal, s) := rfl
theorem blockR_ret (id : Nat) : blockR id (some (.ret, s)) = some (.ret, s) := rfl
theorem blockR_exit (id i : Nat) : blockR id (some (.exit i, s)) = if i = id then some (.normal, s) else some (.exit i, s) := rfl
theorem y_block (id : Nat) (a : ACd) : evC K F (.block id a) s = blockR id (evC K F a s) := rfl

def condR (v : AV) (f g : FS → Option (Exit × FS)) (s : FS) : Option (Exit × FS) := match v with
  | .bool true => f s
  | .bool false => g s
  | _ => none
theorem condR_t (f g : FS → Option (Exit × FS)) : condR (.bool true) f g s = f s := rfl
theorem condR_f (f g : FS → Option (Exit × FS)) : condR (.bool false) f g s = g s := rfl
theorem condR_b (b : Bool) (f g : FS → Option (Exit × FS)) : condR (.bool b) f g s = if b = true then f s else g s := by cases b <;> rfl
theorem y_cond (c : AOpd) (a b : ACd) : evC K F (.cond c a b) s = condR (c.ev s.sl) (evC K F a) (evC K F b) s := rfl
theorem y_loop (a : ACd) : evC K F (.loop a) s = loopE (evC K F a) F s := rfl
theorem y_loopE (g : FS → Option (Exit × FS)) (f : Nat) : loopE g (f + 1) s = bindN (g s) (loopE g f) := rfl

def bindO (x : Option FS) (f : FS → Option FS) : Option FS := match x with
  | some s => f s
  | none => none
theorem bindO_some (f : FS → Option FS) : bindO (some s) f = f s := rfl
theorem y_opsCons (o : AOper) (r : List AOper) : evOps K (o :: r) s = bindO (evOp K o s) (evOps K r) := rfl
theorem y_opsNil : evOps K [] s = some s := rfl

def putR (dst : Option Nat) (s : FS) (x : Option (AV × List (Nat × Option Blk))) : Option FS := match x with
  | some (a, U) => some { sl := putSl s.sl dst a, h := app s.h U, n := s.n + 1 }
  | none => none
theorem putR_some (a : AV) (U : List (Nat × Option Blk)) : putR dst s (some (a, U)) = some { sl := putSl s.sl dst a, h := app s.h U, n := s.n + 1 } := rfl
def callR (dst : Option Nat) (s : FS) (x : Option (AV × AHeap × Nat)) : Option FS := match x with
  | some (r, h', n') => if s.n ≤ n' then some { sl := putSl s.sl dst r, h := h', n := n' } else none
  | none => none
theorem callR_some (r : AV) (h' : AHeap) (n' : Nat) : callR dst s (some (r, h', n')) = if s.n ≤ n' then some { sl := putSl s.sl dst r, h := h', n := n' } else none := rfl
def evOp0 (K : CallK) (dst : Option Nat) (s : FS) : AOp → Option FS
  | .call f xs => callR dst s (K f (xs.map (·.ev s.sl)) s.h s.n)
  | .callv g xs => match g.ev s.sl with
    | .func (.func f) first captured => callR dst s (K f (first ++ xs.map (·.ev s.sl) ++ captured) s.h s.n)
    | _ => none
  | op => putR dst s (runOp op s.sl s.h s.n)
theorem y_op0 (op : AOp) : evOp K ⟨dst, op, none, chk⟩ s = evOp0 K dst s op := by
  unfold evOp
  simp only [wantedA]
  cases op
  case call f xs => rfl
  case callv g xs =>
    simp only [callOf, evOp0]
    cases hg : g.ev s.sl
    case func fn a b => cases fn <;> rfl
    all_goals rfl
  all_goals (simp only [callOf, evOp0, putR]; rfl)
def guardR (v : AV) (want : Bool) (f : AOp → Option FS) (op : AOp) (z : Option FS) : Option FS := match v with
  | .bool b => if b = want then f op else z
  | .undef => z
  | _ => none
theorem guardR_b (b want : Bool) (f : AOp → Option FS) (op : AOp) (z : Option FS) : guardR (.bool b) want f op z = if b = want then f op else z := rfl
theorem guardR_u (want : Bool) (f : AOp → Option FS) (op : AOp) (z : Option FS) : guardR .undef want f op z = z := rfl
theorem y_opG (op : AOp) (t : Nat) (want : Bool) : evOp K ⟨dst, op, some (t, want), chk⟩ s = guardR (s.sl t) want (evOp0 K dst s) op (some { sl := putSl s.sl dst .undef, h := s.h, n := s.n }) := by
  have e := y_op0 (K := K) (s := s) (dst := dst) (chk := chk) op
  unfold evOp at e ⊢
  simp only [wantedA] at e ⊢
  unfold guardR
  cases s.sl t <;> try rfl
  rename_i b
  cases b <;> cases want
  all_goals first
    | rfl
    | (simp only [beq_self_eq_true, if_true]; exact e)
end

section
variable {K : CallK} {F : Nat} {s s1 : FS} {dst : Option Nat} {chk : List Nat}
/-! Regions that draw. -/
def mapD (x : Option (List DRec × FS)) : Option (Exit × FS) := x.map fun x => (.normal, x.2)
theorem mapD_some (ds : List DRec) : mapD (some (ds, s)) = some (.normal, s) := rfl
theorem y_drawn (l : List AOper) : evC K F (.drawn l) s = mapD (evDrawn K l [] s) := rfl
theorem y_drawnNil (ds : List DRec) : evDrawn K [] ds s = some (ds, s) := rfl
def chkL (chk : List Nat) (ds : List DRec) (d : DRec) : Bool := chk.all (fun i => match ds[i]? with
  | some x => !clash x d
  | none => false)
theorem chkL_nil (ds : List DRec) (d : DRec) : chkL [] ds d = true := rfl
theorem chkL_cons (i : Nat) (r : List Nat) (ds : List DRec) (d : DRec) : chkL (i :: r) ds d = ((match ds[i]? with
  | some x => !clash x d
  | none => false) && chkL r ds d) := rfl
def drR (dst : Option Nat) (chk : List Nat) (ds : List DRec) (s : FS) (x : Option DRec) (f : List DRec → FS → Option (List DRec × FS)) : Option (List DRec × FS) := match x with
  | some d => if chkL chk ds d = true then f (ds ++ [d]) { sl := putSl s.sl dst d.c, h := app s.h d.U, n := d.n' } else none
  | none => none
theorem drR_some (ds : List DRec) (d : DRec) (f : List DRec → FS → Option (List DRec × FS)) : drR dst chk ds s (some d) f = if chkL chk ds d = true then f (ds ++ [d]) { sl := putSl s.sl dst d.c, h := app s.h d.U, n := d.n' } else none := rfl
theorem y_drawnCons (op : AOp) (g : Option (Nat × Bool)) (r : List AOper) (ds : List DRec) : evDrawn K (⟨dst, op, g, chk⟩ :: r) ds s = drR dst chk ds s (evDOp K ⟨dst, op, g, chk⟩ s) (evDrawn K r) := rfl
def recR (s : FS) (op : AOp) (x : Option (AV × List (Nat × Option Blk))) : Option DRec := match x with
  | some (a, U) => some { c := a, U := U, n' := s.n + 1, foot := if op.silent then [] else op.opds.flatMap fun x => idsTop (x.ev (s.sl)) }
  | none => none
theorem recR_some (op : AOp) (a : AV) (U : List (Nat × Option Blk)) : recR s op (some (a, U)) = some { c := a, U := U, n' := s.n + 1, foot := if op.silent then [] else op.opds.flatMap fun x => idsTop (x.ev (s.sl)) } := rfl
/-- A call in a region that draws. -/
def dcallR (K : CallK) (s : FS) (f : FuncId) (as : List AV) (L : List Nat) : Option DRec := match L with
  | [] => match K f as (fun _ => none) s.n with
    | some (r, h', n') => if s.n ≤ n' then some { c := r, U := (List.range' s.n (n' - s.n)).map (fun id => (id, nro (h' id))), n' := n', foot := [] } else none
    | none => none
  | L => evDCall K s f as L
theorem dcallR_eq (f : FuncId) (as : List AV) (L : List Nat) : evDCall K s f as L = dcallR K s f as L := by
  cases L with
  | nil =>
    have e2 : shownT s.h [] = fun _ => none := by funext id; simp [shownT]
    simp only [dcallR, evDCall, e2, List.all_nil, and_true, List.nil_append]
    rfl
  | cons i r => rfl
def dres (s : FS) (x : Option (AV × AHeap × Nat)) : Option DRec := match x with
  | some (r, h', n') => if s.n ≤ n' then some { c := r, U := (List.range' s.n (n' - s.n)).map (fun id => (id, nro (h' id))), n' := n', foot := [] } else none
  | none => none
theorem dcallR_nil (f : FuncId) (as : List AV) : dcallR K s f as [] = dres s (K f as (fun _ => none) s.n) := rfl
theorem dres_same (r : AV) (h' : AHeap) (n' : Nat) (hn : n' = s.n) : dres s (some (r, h', n')) = some { c := r, U := [], n' := s.n, foot := [] } := by
  subst hn; simp [dres]
def evDOp0 (K : CallK) (s : FS) : AOp → Option DRec
  | .call f xs => dcallR K s f (xs.map (·.ev s.sl)) (shownIds s.h 4096 [] (idsList (xs.map (·.ev s.sl))))
  | .callv g xs => match g.ev s.sl with
    | .func (.func f) first captured => dcallR K s f (first ++ xs.map (·.ev s.sl) ++ captured) (shownIds s.h 4096 [] (idsList (first ++ xs.map (·.ev s.sl) ++ captured)))
    | _ => none
  | op => recR s op (runOp op s.sl s.h s.n)
theorem y_dop0 (op : AOp) : evDOp K ⟨dst, op, none, chk⟩ s = evDOp0 K s op := by
  unfold evDOp
  simp only [wantedA]
  cases op
  case call f xs => simp only [callOf, evDOp0, dcallR_eq]
  case callv g xs =>
    simp only [callOf, evDOp0]
    cases hg : g.ev s.sl
    case func fn a b => cases fn <;> first | rfl | exact dcallR_eq _ _ _
    all_goals rfl
  all_goals (simp only [callOf, evDOp0, recR]; rfl)
def guardD (v : AV) (want : Bool) (f : AOp → Option DRec) (op : AOp) (z : Option DRec) : Option DRec := match v with
  | .bool b => if b = want then f op else z
  | .undef => z
  | _ => none
theorem guardD_b (b want : Bool) (f : AOp → Option DRec) (op : AOp) (z : Option DRec) : guardD (.bool b) want f op z = if b = want then f op else z := rfl
theorem guardD_u (want : Bool) (f : AOp → Option DRec) (op : AOp) (z : Option DRec) : guardD .undef want f op z = z := rfl
theorem y_dopG (op : AOp) (t : Nat) (want : Bool) : evDOp K ⟨dst, op, some (t, want), chk⟩ s = guardD (s.sl t) want (evDOp0 K s) op (some { c := .undef, U := [], n' := s.n, foot := [] }) := by
  have e := y_dop0 (K := K) (s := s) (dst := dst) (chk := chk) op
  unfold evDOp at e ⊢
  simp only [wantedA] at e ⊢
  unfold guardD
  cases s.sl t <;> try rfl
  rename_i b
  cases b <;> cases want
  all_goals first
    | rfl
    | (simp only [beq_self_eq_true, if_true]; exact e)

/-! Functions. -/
def resR (rs : List RV) (x : Option (Exit × FS)) : Option (AV × AHeap × Nat) := match x with
  | some (.normal, s) => (rs.mapM (resRV s)).map fun rs => (tupOf rs, s.h, s.n)
  | some (.ret, s) => (rs.mapM (resRV s)).map fun rs => (tupOf rs, s.h, s.n)
  | _ => none
theorem resR_ret (rs : List RV) : resR rs (some (.ret, s)) = (rs.mapM (resRV s)).map fun rs => (tupOf rs, s.h, s.n) := rfl
theorem resR_n (rs : List RV) : resR rs (some (.normal, s)) = (rs.mapM (resRV s)).map fun rs => (tupOf rs, s.h, s.n) := rfl
theorem y_fn {fi : FnInfo} {as : List AV} {h : AHeap} {n : Nat} : runFn K F fi as h n = if as.length ≤ fi.m then resR fi.res (evC K F fi.ac { sl := argF as, h := h, n := n }) else none := by
  unfold runFn resR
  split <;> rfl

/-! Calls by contract. -/
def spR (as : List AV) (h : AHeap) (n : Nat) (x : Option (AV × List Blk)) : Option (AV × AHeap × Nat) := match x with
  | some (r, bs) => if (idsList as).isEmpty || (flat r && bs.all flatB) then match bs with
      | [] => match r.ids with
        | [] => some (r, h, n)
        | _ => none
      | b :: bs => some (ren (n + ·) r, hAdd h n (b :: bs), n + (b :: bs).length)
    else none
  | none => none
def viewR (as : List AV) (h : AHeap) (n : Nat) (sp : Sp) (x : Option (List AV)) : Option (AV × AHeap × Nat) := match x with
  | some vs => spR as h n (sp vs)
  | none => none
theorem viewR_some (as : List AV) (h : AHeap) (n : Nat) (sp : Sp) (vs : List AV) : viewR as h n sp (some vs) = spR as h n (sp vs) := rfl
theorem y_pure (sp : Sp) (as : List AV) (h : AHeap) (n : Nat) : pureK sp as h n = viewR as h n sp (viewL h 64 as) := by
  unfold pureK viewR spR
  rfl
def spR0 (c : Bool) (r : AV) (h : AHeap) (n : Nat) : Option (AV × AHeap × Nat) := if c then match r.ids with
  | [] => some (r, h, n)
  | _ => none
  else none
theorem spR_nil (as : List AV) (h : AHeap) (n : Nat) (r : AV) : spR as h n (some (r, [])) = spR0 ((idsList as).isEmpty || (flat r && true)) r h n := by
  simp only [spR, spR0, List.all_nil]
  rfl
def spR1 (l : List Nat) (r : AV) (h : AHeap) (n : Nat) : Option (AV × AHeap × Nat) := match l with
  | [] => some (r, h, n)
  | _ => none
theorem spR0_true (r : AV) (h : AHeap) (n : Nat) : spR0 true r h n = spR1 r.ids r h n := by
  unfold spR0 spR1; rfl
theorem spR1_nil (r : AV) (h : AHeap) (n : Nat) : spR1 [] r h n = some (r, h, n) := rfl
theorem spR_cons (as : List AV) (h : AHeap) (n : Nat) (r : AV) (b : Blk) (bs : List Blk) : spR as h n (some (r, b :: bs)) = if (idsList as).isEmpty || (flat r && (b :: bs).all flatB) then some (ren (n + ·) r, hAdd h n (b :: bs), n + (b :: bs).length) else none := rfl

theorem put_eq (sl : Nat → AV) (d : Nat) (a : AV) : putSl sl (some d) a d = a := by simp [putSl]
theorem put_ne (sl : Nat → AV) (d i : Nat) (a : AV) (h : i ≠ d) : putSl sl (some d) a i = sl i := by simp [putSl, h]
theorem put_none (sl : Nat → AV) (a : AV) : putSl sl none a = sl := rfl
theorem upd_at (f : AHeap) (i : Nat) (x : Option Blk) : upd f i x i = x := by simp [upd]
theorem upd_off (f : AHeap) (i j : Nat) (x : Option Blk) (h : j ≠ i) : upd f i x j = f j := by simp [upd, h]
theorem app_nil (h : AHeap) : app h [] = h := rfl
theorem app_cons (h : AHeap) (i : Nat) (b : Option Blk) (r : List (Nat × Option Blk)) : app h ((i, b) :: r) = app (upd h i b) r := rfl
end
theorem ids_undef : AV.undef.ids = [] := rfl
theorem ids_bool (b : Bool) : (AV.bool b).ids = [] := rfl
theorem ids_int (k : IntKind) (n : Int) : (AV.int k n).ids = [] := rfl
theorem ids_str (s : ByteArray) : (AV.str s).ids = [] := rfl
theorem ids_agg (cs : List AV) : (AV.agg cs).ids = idsList cs := rfl
theorem ids_tup (cs : List AV) : (AV.tup cs).ids = idsList cs := rfl
theorem ids_nilptr : AV.nilptr.ids = [] := rfl
theorem ids_ptr (id off : Nat) : (AV.ptr id off).ids = [id] := rfl
theorem ids_vptr (cs : List AV) : (AV.vptr cs).ids = [] := rfl
theorem ids_sl (id off len : Nat) (cap : Option Nat) (z : Nat) : (AV.sl id off len cap z).ids = [id] := rfl
theorem ids_vsl (z : Nat) (es : List (List AV)) (cap : Option Nat) : (AV.vsl z es cap).ids = [] := rfl
theorem ids_nilfunc : AV.nilfunc.ids = [] := rfl
theorem ids_func (f : Fn) (a b : List AV) : (AV.func f a b).ids = idsList a ++ idsList b := rfl
theorem ids_nilmap : AV.nilmap.ids = [] := rfl
theorem ids_map (id : Nat) : (AV.map id).ids = [id] := rfl
theorem ids_niliface : AV.niliface.ids = [] := rfl
theorem ids_iface (t : TypeId) (a : AV) : (AV.iface t a).ids = a.ids := rfl
theorem idsL_nil : idsList [] = [] := rfl
theorem idsL_cons (a : AV) (r : List AV) : idsList (a :: r) = a.ids ++ idsList r := rfl
theorem view_nil (h : AHeap) (f : Nat) (l : List AV) (hl : idsList l = []) : viewL h (f + 1) l = some l := viewL_nil h f l hl
theorem view_64 (h : AHeap) (l : List AV) (hl : idsList l = []) : viewL h 64 l = some l := viewL_nil h 63 l hl

def orZ (k : IntKind) (a b : Int) : Int := k.wrap (BitVec.ofInt k.bits a ||| BitVec.ofInt k.bits b).toNat
def andZ (k : IntKind) (a b : Int) : Int := k.wrap (BitVec.ofInt k.bits a &&& BitVec.ofInt k.bits b).toNat
def xorZ (k : IntKind) (a b : Int) : Int := k.wrap (BitVec.ofInt k.bits a ^^^ BitVec.ofInt k.bits b).toNat
def andNotZ (k : IntKind) (a b : Int) : Int := k.wrap (BitVec.ofInt k.bits a &&& ~~~BitVec.ofInt k.bits b).toNat
def notZ (k : IntKind) (n : Int) : Int := k.wrap (BitVec.ofInt k.bits (if k.signed then -1 else k.max) ^^^ BitVec.ofInt k.bits n).toNat
section
variable (k : IntKind) (a b : Int)
theorem ib_add : intBin .add k a b = some (.int k (k.wrap (a + b))) := rfl
theorem ib_sub : intBin .sub k a b = some (.int k (k.wrap (a - b))) := rfl
theorem ib_mul : intBin .mul k a b = some (.int k (k.wrap (a * b))) := rfl
theorem ib_quo : intBin .quo k a b = if b = 0 then none else some (.int k (k.wrap (a.tdiv b))) := rfl
theorem ib_rem : intBin .rem k a b = if b = 0 then none else some (.int k (a.tmod b)) := rfl
theorem ib_and : intBin .and k a b = some (.int k (andZ k a b)) := rfl
theorem ib_or : intBin .or k a b = some (.int k (orZ k a b)) := rfl
theorem ib_xor : intBin .xor k a b = some (.int k (xorZ k a b)) := rfl
theorem ib_andNot : intBin .andNot k a b = some (.int k (andNotZ k a b)) := rfl
theorem ib_eql : intBin .eql k a b = some (.bool (a == b)) := rfl
theorem ib_neq : intBin .neq k a b = some (.bool (a != b)) := rfl
theorem ib_lss : intBin .lss k a b = some (.bool (decide (a < b))) := rfl
theorem ib_leq : intBin .leq k a b = some (.bool (decide (a ≤ b))) := rfl
theorem ib_gtr : intBin .gtr k a b = some (.bool (decide (a > b))) := rfl
theorem ib_geq : intBin .geq k a b = some (.bool (decide (a ≥ b))) := rfl
theorem un_neg : unOf .neg (.int k a) = some (.int k (k.wrap (0 - a))) := rfl
theorem un_xor : unOf .xor (.int k a) = some (.int k (notZ k a)) := rfl
theorem un_not (x : Bool) : unOf .not (.bool x) = some (.bool !x) := rfl
end
end Go.Fw.Sy
