/- An operation of the model as an abstract one; each is sound. -/
import Derived.Test.YtepdflohpondbaaFwJ
set_option linter.unusedSimpArgs false
set_option linter.unusedVariables false
namespace Go.Fw

abbrev Glob := Nat → Option (List AV)

def opdOf (G : Glob) : Operand → Option AOpd
  | .tmp t => some (.t t)
  | .const v => (constAV v).map .c
  | .global g => (G g).map fun cs => .c (.vptr cs)
  | .func f => some (.c (.func (.func f) [] []))

def opds (G : Glob) : List Operand → Option (List AOpd)
  | [] => some []
  | x :: r => match opdOf G x, opds G r with
    | some a, some b => some (a :: b)
    | _, _ => none

def opdO (G : Glob) : Option Operand → Option (Option AOpd)
  | none => some none
  | some x => (opdOf G x).map some

def cvOf (P : Program) (src dst : TypeId) : Option Cv :=
  match P.underlying src, P.underlying dst with
  | some (.int _), some (.int k) => some (.int k)
  | some .string, some .string => some .str
  | some (.slice e), some .string => match P.underlying e with
    | some (.int .u8) => some .bytesStr
    | _ => none
  | _, _ => none

def isIntK : Operand → Bool
  | .const (.int _ _) => true
  | _ => false

/-- Are the types of an append fine? -/
def appT? (P : Program) (sT xT : TypeId) : Option (Nat × Nat) :=
  match P.underlying sT, P.underlying xT with
  | some (.slice e), some d => match d with
    | .int _ => none
    | _ => match P.info? e with
      | some i => match i.zero with
        | some z => if z.cells.size = i.size ∧ i.size ≠ 0 ∧ i.bytes ≠ 0 then some (i.size, i.bytes) else none
        | none => none
      | none => none
  | _, _ => none

def sliceT? (P : Program) (t : TypeId) : Option Nat :=
  match P.underlying t with
  | some (.slice e) => match P.info? e with
    | some i => if i.size ≠ 0 then some i.size else none
    | none => none
  | _ => none
def elemOf? (P : Program) (t : TypeId) : Option TypeId :=
  match P.underlying t with
  | some (.slice e) => some e
  | _ => none

/-- A type's zero value. -/
def zeroAV (P : Program) (t : TypeId) : Option AV := match P.info? t with
  | some i => match i.zero with
    | some (.agg cs) => (cs.toList.mapM constAV).map .agg
    | some v => constAV v
    | none => none
  | none => none

def compBuiltin (P : Program) (G : Glob) (b : Builtin) (args : List Operand) (ts : List TypeId) : Option AOp :=
  match b, args, ts with
  | .len, [x], [t] => match P.underlying t with
    | some (.slice e) => (opdOf G x).map (.len .sl)
    | some .string => (opdOf G x).map (.len .str)
    | some (.map _ _) => (opdOf G x).map (.len .map)
    | some (.array m _) => some (.lenConst m)
    | some (.pointer a) => match P.underlying a with
      | some (.array m _) => some (.lenConst m)
      | _ => none
    | _ => none
  | .cap, [x], [t] => match P.underlying t with
    | some (.slice _) => (opdOf G x).map .cap
    | _ => none
  | .append, [s, x], [sT, xT] => match appT? P sT xT, opdOf G s, opdOf G x with
    | some (z, bytes), some s, some x => some (.append z bytes s x)
    | _, _, _ => none
  | .copy, [d, s], [dT, sT] => match sliceT? P dT, opdOf G d, opdOf G s with
    | some z, some d, some s => some (.copy z d s)
    | _, _, _ => none
  | .clear, [x], [t] => match sliceT? P t, (elemOf? P t).bind (zerosOf P), opdOf G x with
    | some z, some zs, some x => if zs.length = z then some (.clear z zs x) else none
    | _, _, _ => none
  | .min, xs, _ => (opds G xs).map (.minmax false)
  | .max, xs, _ => (opds G xs).map (.minmax true)
  | _, _, _ => none

def compOp (P : Program) (G : Glob) (o : Oper) : Option AOp :=
  match o.op with
  | .move x | .assign x => (opdOf G x).map .mov
  | .pick c a b => match opdOf G c, opdOf G a, opdOf G b with
    | some c, some a, some b => some (.pick c a b)
    | _, _, _ => none
  | .alloc e => (zerosOf P e).map .alloc
  | .box _ x => (opdOf G x).map .box
  | .build t ps => if placesFine P t then match zerosOf P t, compParts (opdOf G) (placeOf P t) ps.toList with
      | some zs, some qs => some (.build zs qs)
      | _, _ => none
    else none
  | .buildSlice t len ps => match P.underlying t with
    | some (.slice e) => match zerosOf P e, compParts (opdOf G) (fun i => some (i * P.cellsOf e, P.cellsOf e)) ps.toList with
      | some zs, some qs => if zs.length = P.cellsOf e ∧ P.cellsOf e ≠ 0 ∧ len * P.cellsOf e ≤ 2 ^ 24 then some (.buildSlice (P.cellsOf e) len (List.replicate len zs).flatten qs) else none
      | _, _ => none
    | _ => none
  | .load t a => match tyPt P t, opdOf G a with
    | some k, some a => some (.load k a)
    | _, _ => none
  | .store t a x => if (P.info? t).isSome then match opdOf G a, opdOf G x with
      | some a, some x => some (.store (P.cellsOf t) a x)
      | _, _ => none
    else none
  | .nilCheck x => (opdOf G x).map .nilCheck
  | .binOp op t x y _ => match opdOf G x, opdOf G y with
    | some a, some b => some (.bin op (eqTyOf P t (isC x || isC y)) a b)
    | _, _ => none
  | .unOp op _ x => (opdOf G x).map (.un op)
  | .convert src dst x => match cvOf P src dst, opdOf G x with
    | some c, some x => some (.conv c x)
    | _, _ => none
  | .makeInterface t x => match P.underlying t with
    | some (.interface _) | none => none
    | _ => (opdOf G x).map (.mkIface t)
  | .makeFunc fn as bs => match opds G as.toList, opds G bs.toList with
    | some as, some bs => some (.mkFunc fn as bs)
    | _, _ => none
  | .makeMap t r => match P.underlying t with
    | some (.map _ _) => match r with
      | none => some .mkMap
      | some x => if isIntK x then some .mkMap else none
    | _ => none
  | .makeSlice t l c => match (elemOf? P t).bind (zerosOf P), (elemOf? P t).bind (fun e => P.info? e), opdOf G l, opdOf G c with
    | some zs, some i, some l, some c => if zs.length = i.size ∧ i.size ≠ 0 then some (.mkSlice i.size i.bytes zs l c) else none
    | _, _, _, _ => none
  | .slice t x lo hi mx => match skOf P t, opdOf G x, opdO G lo, opdO G hi, opdO G mx with
    | some s, some x, some lo, some hi, some mx => if mx.isSome && hi.isNone then none else some (.slice s x lo hi mx)
    | _, _, _, _, _ => none
  | .fieldAddr s x f => match P.underlying s, opdOf G x with
    | some (.struct fs), some x => match fs[f]? with
      | some f => if P.cellsOf f.type ≠ 0 then some (.fieldAddr f.offset x) else none
      | none => none
    | _, _ => none
  | .field t x f => match P.underlying t, opdOf G x with
    | some (.struct fs), some x => match fs[f]? with
      | some f => (tyPt P f.type).map fun k => .field f.offset k x
      | none => none
    | _, _ => none
  | .indexAddr t x i => match ixOf P t, opdOf G x, opdOf G i with
    | some (s, _), some x, some i => some (.indexAddr s x i)
    | _, _, _ => none
  | .index t x i => match ixOf P t, opdOf G x, opdOf G i with
    | some (.str, _), some x, some i => some (.index .str none x i)
    | some (s, e), some x, some i => (tyPt P e).map fun k => .index s k x i
    | _, _, _ => none
  | .lookup t x k ok => match P.underlying t, opdOf G x, opdOf G k with
    | some (.map kT eT), some x, some k => match ktOf P kT, zeroAV P eT with
      | some kt, some z => some (.lookup kt z x k ok)
      | _, _ => none
    | _, _, _ => none
  | .mapUpdate t m k x | .insert t m k x => match P.underlying t, opdOf G m, opdOf G k, opdOf G x with
    | some (.map kT _), some m, some k, some x => (ktOf P kT).map fun kt => .mapUpdate kt m k x
    | _, _, _, _ => none
  | .mapEntry t m k => match P.underlying t, opdOf G m, opdOf G k with
    | some (.map kT eT), some m, some k => match ktOf P kT, zeroAV P eT with
      | some kt, some z => some (.mapEntry kt z m k)
      | _, _ => none
    | _, _, _ => none
  | .entryStore _ m s x => match opdOf G m, opdOf G s, opdOf G x with
    | some m, some s, some x => some (.entryStore m s x)
    | _, _, _ => none
  | .extract x i => (opdOf G x).map fun x => .extract x i
  | .call c => match c.callee with
    | .builtin b => compBuiltin P G b c.args.toList c.argTypes.toList
    | .value (.func f) => (opds G c.args.toList).map (.call f)
    | .value x => match opdOf G x, opds G c.args.toList with
      | some x, some as => some (.callv x as)
      | _, _ => none
    | _ => none
  | _ => none

section
variable {P : Program} {ρ : Nat → Option (Nat × Nat)} {S : Nat → Prop} {h : AHeap} {w : World} {n : Nat} {G : Glob} {sl : Nat → AV} {ev : Operand → Value}

/-- The slots stand for the frame's values. -/
def Evs (G : Glob) (ρ : Nat → Option (Nat × Nat)) (S : Nat → Prop) (w : World) (sl : Nat → AV) (ev : Operand → Value) : Prop := ∀ x y, opdOf G x = some y → AVR ρ S w (y.ev sl) (ev x)

theorem Evs.list (he : Evs G ρ S w sl ev) : ∀ {xs : List Operand} {ys : List AOpd}, opds G xs = some ys → (ys.map (·.ev sl)).length = (xs.map ev).length ∧
    ∀ (i : Nat) (c : AV) (v : Value), (ys.map (·.ev sl))[i]? = some c → (xs.map ev)[i]? = some v → AVR ρ S w c v
  | [], ys, h => by simp [opds] at h; subst h; exact ⟨rfl, fun i c v h => by simp at h⟩
  | x :: xs, ys, h => by
    simp only [opds] at h
    split at h
    · rename_i a b h1 h2
      injection h with h; subst h
      obtain ⟨i1, i2⟩ := he.list h2
      refine ⟨by simpa using i1, fun i c v hc hv => ?_⟩
      cases i with
      | zero => simp at hc hv; subst hc; subst hv; exact he x a h1
      | succ i => exact i2 i c v (by simpa using hc) (by simpa using hv)
    · cases h

/-- What an operation comes to. -/
def OpOk (P : Program) (ρ : Nat → Option (Nat × Nat)) (S : Nat → Prop) (h : AHeap) (w : World) (n : Nat) (res : Result Next) (a : AV) (U : List (Nat × Option Blk)) : Prop :=
  ∃ u w', (res = .ok (.value u) w' ∨ (res = .ok .skip w' ∧ u = Go.undef)) ∧ Good ρ S h w n u w' a U

theorem OpOk.quiet (r : RelH ρ S h w) {s : Sem Value} {a : AV} (hs : ∃ z, s.run P w = .ok z w ∧ AVR ρ S w a z) : OpOk P ρ S h w n ((do pure (.value (← s)) : Sem Next).run P w) a [] := by
  obtain ⟨z, h1, h2⟩ := hs
  exact ⟨z, w, .inl (by simp [h1]), Good.quiet r h2⟩
theorem OpOk.value {s : Sem Value} {a : AV} {U : List (Nat × Option Blk)} (hs : ∃ z w', s.run P w = .ok z w' ∧ Good ρ S h w n z w' a U) : OpOk P ρ S h w n ((do pure (.value (← s)) : Sem Next).run P w) a U := by
  obtain ⟨z, w', h1, h2⟩ := hs
  exact ⟨z, w', .inl (by simp [h1]), h2⟩
theorem OpOk.unit {s : Sem Unit} {U : List (Nat × Option Blk)} (hs : ∃ w', s.run P w = .ok () w' ∧ Good ρ S h w n Go.undef w' .undef U) : OpOk P ρ S h w n ((do s; pure .skip : Sem Next).run P w) .undef U := by
  obtain ⟨w', h1, h2⟩ := hs
  exact ⟨Go.undef, w', .inr ⟨by simp [h1], rfl⟩, h2⟩
end
end Go.Fw
