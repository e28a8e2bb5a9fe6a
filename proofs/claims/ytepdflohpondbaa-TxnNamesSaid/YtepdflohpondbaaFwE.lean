/- Equality, numbers, conversions. -/
import Derived.Test.YtepdflohpondbaaFwD
import Derived.Laws.StructEq
import Derived.ChangeKeysEq
set_option linter.unusedSimpArgs false
set_option linter.unusedVariables false
namespace Go.Fw

def eqLeafV : LK → Value → Value → Option Bool
  | .int, .int k a, .int k' b => if k = k' then some (a == b) else none
  | .bool, .bool a, .bool b => some (a == b)
  | .str, .string a, .string b => some (a.toList == b.toList)
  | _, _, _ => none
def eqCellsV : List LK → List Value → List Value → Option Bool
  | [], [], [] => some true
  | k :: ks, a :: as, b :: bs => match eqLeafV k a b, eqCellsV ks as bs with
    | some x, some y => some (x && y)
    | _, _ => none
  | _, _, _ => none

theorem eqCellsV_length : ∀ {ks : List LK} {xs ys : List Value} {r : Bool}, eqCellsV ks xs ys = some r → xs.length = ks.length ∧ ys.length = ks.length
  | [], [], [], _, _ => ⟨rfl, rfl⟩
  | [], [], _ :: _, _, h => by simp [eqCellsV] at h
  | [], _ :: _, _, _, h => by simp [eqCellsV] at h
  | _ :: _, [], _, _, h => by simp [eqCellsV] at h
  | _ :: _, _ :: _, [], _, h => by simp [eqCellsV] at h
  | k :: ks, a :: as, b :: bs, r, h => by
    simp only [eqCellsV] at h
    split at h
    · rename_i h1 h2
      have := eqCellsV_length h2
      simp; omega
    · cases h

theorem eqCellsV_append : ∀ {ks ls : List LK} {xs ys : List Value} {r : Bool}, eqCellsV (ks ++ ls) xs ys = some r →
    ∃ a b, eqCellsV ks (xs.take ks.length) (ys.take ks.length) = some a ∧ eqCellsV ls (xs.drop ks.length) (ys.drop ks.length) = some b ∧ r = (a && b)
  | [], ls, xs, ys, r, h => ⟨true, r, by simp [eqCellsV], by simpa using h, by simp⟩
  | k :: ks, ls, [], ys, r, h => by simp [eqCellsV] at h
  | k :: ks, ls, x :: xs, [], r, h => by simp [eqCellsV] at h
  | k :: ks, ls, x :: xs, y :: ys, r, h => by
    simp only [List.cons_append, eqCellsV] at h
    split at h
    · rename_i u v h1 h2
      injection h with h
      obtain ⟨a, b, e1, e2, e3⟩ := eqCellsV_append h2
      refine ⟨u && a, b, ?_, by simpa using e2, by rw [← h, e3, Bool.and_assoc]⟩
      simp only [List.length_cons, List.take_succ_cons, eqCellsV, h1, e1]
    · cases h

section
variable {P : Program} {ρ : Nat → Option (Nat × Nat)} {S : Nat → Prop} {h : AHeap} {w : World} {n : Nat}

/-- The kinds of a type's cells, if it is made of whole numbers, bools and strings. -/
def flatFs (fl : TypeId → Option (List LK)) (sz : TypeId → Nat) : List Field → Nat → Option (List LK)
  | [], _ => some []
  | f :: r, off => if f.name ≠ "_" ∧ f.offset = off then
      match fl f.type with
      | some ks => if sz f.type = ks.length ∧ ks ≠ [] then (flatFs fl sz r (off + ks.length)).map (ks ++ ·) else none
      | none => none
    else none
def flatK (P : Program) : Nat → TypeId → Option (List LK)
  | 0, _ => none
  | d + 1, t => match P.underlying t with
    | some .bool => some [.bool]
    | some (.int _) => some [.int]
    | some .string => some [.str]
    | some (.array m e) => match flatK P d e with
      | some ks => if P.cellsOf e = ks.length ∧ ks ≠ [] then some (List.replicate m ks).flatten else none
      | none => none
    | some (.struct fs) => if P.stoodInHeld t then none else flatFs (flatK P d) P.cellsOf fs.toList 0
    | _ => none

def isAggT (P : Program) (t : TypeId) : Bool := match P.underlying t with
  | some (.struct _) | some (.array _ _) => true
  | _ => false
/-- Cells as a value of a type. -/
def mkV (P : Program) (t : TypeId) (xs : List Value) : Value := if isAggT P t then .agg xs.toArray else xs.headD Go.undef

theorem run_part_mk {t : TypeId} {d : TypeDesc} (off : Nat) (xs : List Value) (hx : P.underlying t = some d) (hl : off + P.cellsOf t ≤ xs.length) (h1 : isAggT P t = false → P.cellsOf t = 1) :
    (part t xs.toArray off).run P w = .ok (mkV P t ((xs.drop off).take (P.cellsOf t))) w := by
  obtain ⟨i, hi⟩ := info_of_underlying hx
  have hc : P.cellsOf t = i.size := by simp [Program.cellsOf, hi]
  unfold part
  cases e : isAggT P t with
  | true =>
    have hs : (sizeOf t).run P w = .ok i.size w := by simp [sizeOf, typeInfo, hi]
    have ha : (isAgg t).run P w = .ok true w := by
      unfold isAggT at e
      cases d <;> simp [hx] at e <;> simp [isAgg, underlying, hx]
    simp only [Sem.run_bind, ha, Result.andThen_ok, if_true, hs, Sem.run_pure]
    have ex : xs.toArray.extract off (off + i.size) = ((xs.drop off).take i.size).toArray := by simp [List.extract_toArray, List.extract_eq_take_drop]
    rw [ex]
    simp [mkV, e, hc]
  | false =>
    have ha : (isAgg t).run P w = .ok false w := by
      unfold isAggT at e
      cases d <;> simp [hx] at e <;> simp [isAgg, underlying, hx]
    have hlt : off < xs.length := by have := h1 e; omega
    simp only [Sem.run_bind, ha, Result.andThen_ok, Bool.false_eq_true, if_false]
    have hd : List.drop off xs = xs[off] :: List.drop (off + 1) xs := List.drop_eq_getElem_cons hlt
    rw [mkV, e, h1 e, hd]
    simp only [List.take_succ_cons, List.headD_cons, Bool.false_eq_true, if_false]
    simp [hlt]

theorem flatK_underlying {d : Nat} {t : TypeId} {ks : List LK} (hk : flatK P d t = some ks) : ∃ x, P.underlying t = some x := by
  cases d with
  | zero => simp [flatK] at hk
  | succ d =>
    unfold flatK at hk
    cases hx : P.underlying t with
    | none => simp [hx] at hk
    | some x => exact ⟨x, rfl⟩
theorem flatK_scalar {d : Nat} {t : TypeId} {ks : List LK} (hk : flatK P d t = some ks) (ha : isAggT P t = false) : ∃ k, ks = [k] := by
  cases d with
  | zero => simp [flatK] at hk
  | succ d =>
    unfold flatK at hk
    unfold isAggT at ha
    cases hx : P.underlying t with
    | none => simp [hx] at hk
    | some x => cases x <;> simp [hx] at hk ha <;> exact ⟨_, hk.symm⟩

/-- What is asked of equality at a type. -/
def EqIn (P : Program) (d : Nat) (t : TypeId) (ks : List LK) : Prop :=
  ∀ (w : World) (xs ys : List Value) (r : Bool), eqCellsV ks xs ys = some r → (Op.equalIn d t (mkV P t xs) (mkV P t ys)).run P w = .ok r w

theorem run_eqFields_flat (d D : Nat) (IH : ∀ t ks, flatK P d t = some ks → EqIn P D t ks) (xs ys : List Value) : ∀ (fs : List Field) (off : Nat) (ks : List LK) (r : Bool) (w : World),
    flatFs (flatK P d) P.cellsOf fs off = some ks → eqCellsV ks (xs.drop off) (ys.drop off) = some r → (Op.eqFields D xs.toArray ys.toArray fs).run P w = .ok r w
  | [], off, ks, r, w, hk, he => by
    simp [flatFs] at hk; subst hk
    have := eqCellsV_length he
    generalize xs.drop off = a at *
    generalize ys.drop off = b at *
    cases a <;> cases b <;> simp at this
    simp [eqCellsV] at he; subst he
    simp [Op.eqFields]
  | f :: fs, off, ks, r, w, hk, he => by
    simp only [flatFs] at hk
    split at hk
    · rename_i hf
      obtain ⟨hn, rfl⟩ := hf
      split at hk
      · rename_i k1 hk1
        split at hk
        · rename_i hs'
          obtain ⟨hs, hne⟩ := hs'
          have hpos := List.length_pos_iff.2 hne
          simp only [Option.map_eq_some_iff] at hk
          obtain ⟨k2, hk2, rfl⟩ := hk
          obtain ⟨a, b, e1, e2, rfl⟩ := eqCellsV_append he
          obtain ⟨dd, hu⟩ := flatK_underlying hk1
          have h1 : isAggT P f.type = false → P.cellsOf f.type = 1 := fun ha => by
            obtain ⟨k, rfl⟩ := flatK_scalar hk1 ha
            simpa using hs
          have l1 := eqCellsV_length e1
          simp only [List.length_take, List.length_drop] at l1
          have p1 := run_part_mk (w := w) f.offset xs hu (by rw [hs]; omega) h1
          have p2 := run_part_mk (w := w) f.offset ys hu (by rw [hs]; omega) h1
          have p3 := IH f.type k1 hk1 w _ _ a e1
          have p4 := run_eqFields_flat d D IH xs ys fs (f.offset + k1.length) k2 b w hk2 (by simpa [List.drop_drop] using e2)
          simp only [Op.eqFields, hn, ne_eq, not_false_eq_true, if_true, Sem.run_bind, p1, p2, Result.andThen_ok, hs, p3]
          cases a <;> simp [p4]
        · cases hk
      · cases hk
    · cases hk

theorem run_eqItems_flat (d D : Nat) {e : TypeId} {ks : List LK} (hk : flatK P d e = some ks) (hs : P.cellsOf e = ks.length) (hne : ks ≠ []) (IH : EqIn P D e ks) (xs ys : List Value) : ∀ (m i : Nat) (r : Bool) (w : World),
    eqCellsV (List.replicate m ks).flatten (xs.drop (i * ks.length)) (ys.drop (i * ks.length)) = some r → (Op.eqItems D e (P.cellsOf e) xs.toArray ys.toArray (List.range' i m)).run P w = .ok r w
  | 0, i, r, w, he => by
    have := eqCellsV_length he
    generalize xs.drop (i * ks.length) = a at *
    generalize ys.drop (i * ks.length) = b at *
    cases a <;> cases b <;> simp at this
    simp [eqCellsV] at he; subst he
    simp [Op.eqItems]
  | m + 1, i, r, w, he => by
    rw [List.replicate_succ, List.flatten_cons] at he
    obtain ⟨a, b, e1, e2, rfl⟩ := eqCellsV_append he
    obtain ⟨dd, hu⟩ := flatK_underlying hk
    have h1 : isAggT P e = false → P.cellsOf e = 1 := fun ha => by
      obtain ⟨k, rfl⟩ := flatK_scalar hk ha
      simpa using hs
    have l1 := eqCellsV_length e1
    simp only [List.length_take, List.length_drop] at l1
    have hl : ks.length ≤ xs.length - i * ks.length ∧ ks.length ≤ ys.length - i * ks.length := by omega
    have hpos := List.length_pos_iff.2 hne
    have p1 := run_part_mk (w := w) (i * ks.length) xs hu (by rw [hs]; omega) h1
    have p2 := run_part_mk (w := w) (i * ks.length) ys hu (by rw [hs]; omega) h1
    have p3 := IH w _ _ a e1
    have p4 := run_eqItems_flat d D hk hs hne IH xs ys m (i + 1) b w (by simpa [List.drop_drop, Nat.succ_mul] using e2)
    rw [← hs] at p1 p2 p3
    simp only [List.range'_succ, Op.eqItems, Sem.run_bind, p1, p2, Result.andThen_ok, p3]
    cases a <;> simp [p4]

theorem eqIn_flat (D : Nat) : ∀ (m : Nat) (t : TypeId) (ks : List LK), flatK P m t = some ks → EqIn P (D + m) t ks
  | 0, t, ks, hk => by simp [flatK] at hk
  | m + 1, t, ks, hk => by
    intro w xs ys r he
    have hk' := hk
    unfold flatK at hk
    have hl := eqCellsV_length he
    have scal : ∀ k, ks = [k] → ∃ x y, xs = [x] ∧ ys = [y] ∧ eqLeafV k x y = some r := by
      rintro k rfl
      match xs, ys, hl with
      | [x], [y], _ =>
        refine ⟨x, y, rfl, rfl, ?_⟩
        simp only [eqCellsV] at he
        split at he
        · rename_i u v h1 h2; injection h2 with h2; subst h2; injection he with he; rw [h1, ← he]; simp
        · cases he
    cases hx : P.underlying t with
    | none => simp [hx] at hk
    | some x =>
      have ag : isAggT P t = (match x with | .struct _ | .array _ _ => true | _ => false) := by simp only [isAggT, hx]; cases x <;> rfl
      cases x <;> simp only [hx] at hk <;> try (cases hk; done)
      case bool =>
        injection hk with hk
        obtain ⟨a, b, rfl, rfl, e⟩ := scal _ hk.symm
        simp only [mkV, ag, Bool.false_eq_true, if_false, List.headD_cons]
        cases a <;> cases b <;> simp only [eqLeafV, reduceCtorEq] at e
        injection e with e; subst e
        simp [← Nat.add_assoc, Op.equalIn, hx, underlying]
      case int k =>
        injection hk with hk
        obtain ⟨a, b, rfl, rfl, e⟩ := scal _ hk.symm
        simp only [mkV, ag, Bool.false_eq_true, if_false, List.headD_cons]
        cases a <;> cases b <;> simp only [eqLeafV, reduceCtorEq] at e
        split at e
        · rename_i hkk; subst hkk; injection e with e; subst e
          simp [← Nat.add_assoc, Op.equalIn, hx, underlying]
        · cases e
      case string =>
        injection hk with hk
        obtain ⟨a, b, rfl, rfl, e⟩ := scal _ hk.symm
        simp only [mkV, ag, Bool.false_eq_true, if_false, List.headD_cons]
        cases a <;> cases b <;> simp only [eqLeafV, reduceCtorEq] at e
        injection e with e; subst e
        simp [← Nat.add_assoc, Op.equalIn, hx, underlying, beq_toListBytes]
      case array l e =>
        split at hk
        · rename_i k1 hk1
          split at hk
          · rename_i hc
            injection hk with hk; subst hk
            obtain ⟨dd, hu⟩ := flatK_underlying hk1
            obtain ⟨i, hi⟩ := info_of_underlying hu
            simp only [mkV, ag, if_true]
            rw [show D + (m + 1) = (D + m) + 1 from rfl, run_equalIn_array w (D + m) _ _ hx hi, List.range_eq_range']
            exact run_eqItems_flat m (D + m) hk1 hc.1 hc.2 (eqIn_flat D m e k1 hk1) xs ys l 0 r w (by simpa using he)
          · cases hk
        · cases hk
      case struct fs =>
        split at hk
        · cases hk
        · rename_i hst
          have hf : P.fieldsOf t = fs := by simp [Program.fieldsOf, hx]
          simp only [mkV, ag, if_true]
          rw [show D + (m + 1) = (D + m) + 1 from rfl, run_equalIn_struct w (D + m) t _ _ (by rw [hf]; exact hx) (by simpa using hst), hf]
          exact run_eqFields_flat m (D + m) (fun t ks h => eqIn_flat D m t ks h) xs ys fs.toList 0 ks r w hk (by simpa using he)

theorem eqLeaf_V {k : LK} {x y : AV} {u v : Value} {r : Bool} (hx : AVR ρ S w x u) (hy : AVR ρ S w y v) (he : eqLeaf k x y = some r) : eqLeafV k u v = some r := by
  cases k <;> cases x <;> cases y <;> simp only [eqLeaf, reduceCtorEq] at he
  · rw [avr_bool hx, avr_bool hy]; exact he
  · rw [avr_int hx, avr_int hy]; exact he
  · rw [avr_str hx, avr_str hy]; exact he

theorem eqCells_V : ∀ {ks : List LK} {cs ds : List AV} {xs ys : List Value} {r : Bool}, cs.length = xs.length → ds.length = ys.length → (∀ (i : Nat) (c : AV) (x : Value), cs[i]? = some c → xs[i]? = some x → AVR ρ S w c x) →
    (∀ (i : Nat) (c : AV) (x : Value), ds[i]? = some c → ys[i]? = some x → AVR ρ S w c x) → eqCells ks cs ds = some r → eqCellsV ks xs ys = some r
  | [], [], [], xs, ys, r, h1, h2, _, _, he => by
    cases xs <;> cases ys <;> simp at h1 h2
    simpa [eqCells, eqCellsV] using he
  | [], [], _ :: _, _, _, _, _, _, _, _, he => by simp [eqCells] at he
  | [], _ :: _, _, _, _, _, _, _, _, _, he => by simp [eqCells] at he
  | _ :: _, [], _, _, _, _, _, _, _, _, he => by simp [eqCells] at he
  | _ :: _, _ :: _, [], _, _, _, _, _, _, _, he => by simp [eqCells] at he
  | k :: ks, c :: cs, d :: ds, [], _, _, h1, _, _, _, _ => by simp at h1
  | k :: ks, c :: cs, d :: ds, _ :: _, [], _, _, h2, _, _, _ => by simp at h2
  | k :: ks, c :: cs, d :: ds, x :: xs, y :: ys, r, h1, h2, h3, h4, he => by
    simp only [eqCells] at he
    split at he
    · rename_i a b e1 e2
      injection he with he
      have l1 := eqLeaf_V (h3 0 c x (by simp) (by simp)) (h4 0 d y (by simp) (by simp)) e1
      have l2 := eqCells_V (by simpa using h1) (by simpa using h2) (fun i c x hc hx => h3 (i + 1) c x (by simpa using hc) (by simpa using hx)) (fun i c x hc hx => h4 (i + 1) c x (by simpa using hc) (by simpa using hx)) e2
      simp only [eqCellsV, l1, l2, he]
    · cases he

def isC : Operand → Bool
  | .const _ => true
  | _ => false
/-- What is known of the type of what is compared. -/
def eqTyOf (P : Program) (t : TypeId) (c : Bool) : EqTy :=
  match P.underlying t with
  | some .bool => .bool
  | some (.pointer _) => .ptr
  | some (.interface _) => if c then .iface else .none
  | some (.map _ _) => .map
  | some (.func _ _ _) => .func
  | some (.slice _) => .sl
  | some (.struct _) | some (.array _ _) => match flatK P 100 t with
    | some ks => if P.eqGuardType P.depth t then .none else .agg ks
    | none => .none
  | _ => .none

theorem snd_intBin {op : BinOp} {k : IntKind} {a b : Int} {t : TypeId} {r : AV} (hs : ¬ (op = .shl ∨ op = .shr)) (he : intBin op k a b = some r) :
    ∃ u, (binOp op t (.int k a) (.int k b)).run P w = .ok u w ∧ AVR ρ S w r u := by
  cases op <;> simp only [intBin, reduceCtorEq, not_true_eq_false, or_false, or_true] at he hs <;> try (split at he <;> try (cases he; done))
  all_goals
    injection he with he; subst he
    first
    | (refine ⟨_, ?_, .int _ _⟩; simp only [binOp, Op.intArith, ne_eq, not_true_eq_false, if_false, Sem.run_pure]; done)
    | (refine ⟨_, ?_, .int _ _⟩; simp only [binOp, Op.intDiv, ne_eq, not_true_eq_false, if_false, Sem.run_pure]; rw [if_neg (by assumption)]; rfl)
    | (refine ⟨_, ?_, .int _ _⟩; simp only [binOp, Op.intBits, ne_eq, not_true_eq_false, if_false, Sem.run_pure]; done)
    | (refine ⟨_, ?_, .bool _⟩; simp only [binOp, Op.intCmp, ne_eq, not_true_eq_false, if_false, Sem.run_pure]; done)

theorem snd_intShift {op : BinOp} {k k' : IntKind} {a b : Int} {t : TypeId} {r : AV} (he : intShift op k a b = some r) :
    ∃ u, (binOp op t (.int k a) (.int k' b)).run P w = .ok u w ∧ AVR ρ S w r u := by
  cases op <;> simp only [intShift, reduceCtorEq] at he
  all_goals
    split at he
    · cases he
    · rename_i hb
      injection he with he; subst he
      exact ⟨_, by simp [binOp, Op.shift, hb], .int _ _⟩

theorem snd_strBin {op : BinOp} {a b : ByteArray} {t : TypeId} {r : AV} (he : strBin op a b = some r) :
    ∃ u, (binOp op t (.string a) (.string b)).run P w = .ok u w ∧ AVR ρ S w r u := by
  cases op <;> simp only [strBin, reduceCtorEq] at he
  case add =>
    split at he
    · cases he
    · rename_i hb
      injection he with he; subst he
      refine ⟨_, ?_, .str _⟩
      simp only [binOp, Op.stringOp]
      rw [if_neg hb]; rfl
  all_goals (injection he with he; subst he; exact ⟨_, by simp [binOp, Op.stringOp], .bool _⟩)

theorem equalIn_succ_bool (d : Nat) (t : TypeId) (a b : Bool) (hu : P.underlying t = some .bool) : (Op.equalIn (d + 1) t (.bool a) (.bool b)).run P w = .ok (a == b) w := by
  simp [Op.equalIn, underlying, hu]
theorem equalIn_ptr_nn (d : Nat) (t e : TypeId) (hu : P.underlying t = some (.pointer e)) (q : Option Addr) : (Op.equalIn (d + 1) t (.pointer none) (.pointer q)).run P w = .ok q.isNone w := by
  simp [Op.equalIn, underlying, hu]
theorem equalIn_ptr_sn (d : Nat) (t e : TypeId) (hu : P.underlying t = some (.pointer e)) (p : Addr) : (Op.equalIn (d + 1) t (.pointer (some p)) (.pointer none)).run P w = .ok false w := by
  simp [Op.equalIn, underlying, hu]
theorem equalIn_if_nn (d : Nat) (t : TypeId) (ms : Array (String × TypeId)) (hu : P.underlying t = some (.interface ms)) : (Op.equalIn (d + 1) t .nilIface .nilIface).run P w = .ok true w := by
  simp [Op.equalIn, underlying, hu]
theorem equalIn_if_ns (d : Nat) (t : TypeId) (ms : Array (String × TypeId)) (hu : P.underlying t = some (.interface ms)) (x : TypeId) (v : Value) : (Op.equalIn (d + 1) t .nilIface (.iface x v)).run P w = .ok false w := by
  simp [Op.equalIn, underlying, hu]
theorem equalIn_if_sn (d : Nat) (t : TypeId) (ms : Array (String × TypeId)) (hu : P.underlying t = some (.interface ms)) (x : TypeId) (v : Value) : (Op.equalIn (d + 1) t (.iface x v) .nilIface).run P w = .ok false w := by
  simp [Op.equalIn, underlying, hu]
theorem equalIn_map_nn (d : Nat) (t k e : TypeId) (hu : P.underlying t = some (.map k e)) (q : Option Nat) : (Op.equalIn (d + 1) t (.map none) (.map q)).run P w = .ok q.isNone w := by
  simp [Op.equalIn, underlying, hu]
theorem equalIn_map_sn (d : Nat) (t k e : TypeId) (hu : P.underlying t = some (.map k e)) (p : Nat) : (Op.equalIn (d + 1) t (.map (some p)) (.map none)).run P w = .ok false w := by
  simp [Op.equalIn, underlying, hu]
theorem equalIn_fn_nn (d : Nat) (t : TypeId) (a b : Array TypeId) (c : Bool) (hu : P.underlying t = some (.func a b c)) : (Op.equalIn (d + 1) t .nilFunc .nilFunc).run P w = .ok true w := by
  simp [Op.equalIn, underlying, hu]
theorem equalIn_fn_ns (d : Nat) (t : TypeId) (a b : Array TypeId) (c : Bool) (hu : P.underlying t = some (.func a b c)) (f : Fn) (x y : Array Value) : (Op.equalIn (d + 1) t .nilFunc (.func f x y)).run P w = .ok false w := by
  simp [Op.equalIn, underlying, hu]
theorem equalIn_fn_sn (d : Nat) (t : TypeId) (a b : Array TypeId) (c : Bool) (hu : P.underlying t = some (.func a b c)) (f : Fn) (x y : Array Value) : (Op.equalIn (d + 1) t (.func f x y) .nilFunc).run P w = .ok false w := by
  simp [Op.equalIn, underlying, hu]

theorem equalIn_sl (d : Nat) (t e : TypeId) (hu : P.underlying t = some (.slice e)) (a : Option Addr) (n c n' c' : Nat) : (Op.equalIn (d + 1) t (.slice a n c) (.slice none n' c')).run P w = .ok a.isNone w := by
  cases a <;> simp [Op.equalIn, underlying, hu]

theorem snd_aeq {t : TypeId} {c : Bool} {x y : AV} {u v : Value} {b : Bool} (hx : AVR ρ S w x u) (hy : AVR ρ S w y v) (he : aeq (eqTyOf P t c) x y = some b) :
    (Op.equal t u v).run P w = .ok b w := by
  unfold eqTyOf at he
  have agg : ∀ ks, flatK P 100 t = some ks → isAggT P t = true → (if P.eqGuardType P.depth t = true then EqTy.none else EqTy.agg ks) = (if P.eqGuardType P.depth t = true then EqTy.none else EqTy.agg ks) →
      aeq (if P.eqGuardType P.depth t = true then EqTy.none else EqTy.agg ks) x y = some b → (Op.equal t u v).run P w = .ok b w := by
    intro ks hk ha _ he
    split at he
    · cases x <;> cases y <;> simp [aeq] at he
    · cases x <;> cases y <;> simp only [aeq, reduceCtorEq] at he
      obtain ⟨xs, rfl, a1, a2, a3⟩ := avr_agg hx
      obtain ⟨ys, rfl, b1, b2, b3⟩ := avr_agg hy
      have := eqIn_flat (P := P) 9900 100 t ks hk w xs ys b (eqCells_V a1 b1 a3 b3 he)
      simpa [mkV, ha, Op.equal, Op.maxDepth] using this
  cases hu : P.underlying t with
  | none => simp only [hu] at he; cases x <;> cases y <;> simp [aeq] at he
  | some d =>
    simp only [hu] at he
    cases d <;> simp only at he
    case struct fs =>
      cases hk : flatK P 100 t with
      | none => simp only [hk] at he; cases x <;> cases y <;> simp [aeq] at he
      | some ks => simp only [hk] at he; exact agg ks hk (by simp [isAggT, hu]) rfl he
    case array l e =>
      cases hk : flatK P 100 t with
      | none => simp only [hk] at he; cases x <;> cases y <;> simp [aeq] at he
      | some ks => simp only [hk] at he; exact agg ks hk (by simp [isAggT, hu]) rfl he
    case bool =>
      cases x <;> cases y <;> simp only [aeq, reduceCtorEq] at he
      injection he with he; subst he
      rw [avr_bool hx, avr_bool hy]
      exact equalIn_succ_bool 9999 t _ _ hu
    case pointer e =>
      cases x <;> cases y <;> simp only [aeq, reduceCtorEq] at he <;> (injection he with he; subst he)
      · rw [avr_nilptr hx, avr_nilptr hy]; exact equalIn_ptr_nn 9999 t e hu _
      · rw [avr_nilptr hx]; obtain ⟨_, _, rfl, _⟩ := avr_ptr hy; exact equalIn_ptr_nn 9999 t e hu _
      · rw [avr_nilptr hx]; obtain ⟨_, _, rfl, _⟩ := avr_vptr hy; exact equalIn_ptr_nn 9999 t e hu _
      · rw [avr_nilptr hy]; obtain ⟨_, _, rfl, _⟩ := avr_ptr hx; exact equalIn_ptr_sn 9999 t e hu _
      · rw [avr_nilptr hy]; obtain ⟨_, _, rfl, _⟩ := avr_vptr hx; exact equalIn_ptr_sn 9999 t e hu _
    case interface ms =>
      split at he
      · cases x <;> cases y <;> simp only [aeq, reduceCtorEq] at he <;> (injection he with he; subst he)
        · rw [avr_niliface hx, avr_niliface hy]; exact equalIn_if_nn 9999 t ms hu
        · rw [avr_niliface hx]; obtain ⟨_, rfl, _⟩ := avr_iface hy; exact equalIn_if_ns 9999 t ms hu _ _
        · rw [avr_niliface hy]; obtain ⟨_, rfl, _⟩ := avr_iface hx; exact equalIn_if_sn 9999 t ms hu _ _
      · cases x <;> cases y <;> simp [aeq] at he
    case map k e =>
      cases x <;> cases y <;> simp only [aeq, reduceCtorEq] at he <;> (injection he with he; subst he)
      · rw [avr_nilmap hx, avr_nilmap hy]; exact equalIn_map_nn 9999 t k e hu _
      · rw [avr_nilmap hx]; obtain ⟨_, rfl, _⟩ := avr_map hy; exact equalIn_map_nn 9999 t k e hu _
      · rw [avr_nilmap hy]; obtain ⟨_, rfl, _⟩ := avr_map hx; exact equalIn_map_sn 9999 t k e hu _
    case func ps rs vd =>
      cases x <;> cases y <;> simp only [aeq, reduceCtorEq] at he <;> (injection he with he; subst he)
      · rw [avr_nilfunc hx, avr_nilfunc hy]; exact equalIn_fn_nn 9999 t ps rs vd hu
      · rw [avr_nilfunc hx]; obtain ⟨_, _, rfl, _⟩ := avr_func hy; exact equalIn_fn_ns 9999 t ps rs vd hu _ _ _
      · rw [avr_nilfunc hy]; obtain ⟨_, _, rfl, _⟩ := avr_func hx; exact equalIn_fn_sn 9999 t ps rs vd hu _ _ _
    case slice e =>
      cases x <;> cases y <;> simp only [aeq, reduceCtorEq] at he
      case sl.vsl =>
        split at he
        · rename_i h0
          injection he with he; subst he
          obtain ⟨_, _, _, _, _, _, rfl, _⟩ := avr_sl hx
          obtain ⟨a', _, _, _, rfl, _⟩ := avr_vsl hy
          obtain rfl := (avr_vsl_z hy).1 h0
          exact equalIn_sl 9999 t e hu _ _ _ _ _
        · cases he
      case vsl.vsl =>
        split at he
        · rename_i h0
          injection he with he; subst he
          obtain ⟨a1, _, _, _, rfl, _⟩ := avr_vsl hx
          obtain ⟨a', _, _, _, rfl, _⟩ := avr_vsl hy
          obtain rfl := (avr_vsl_z hy).1 h0
          have hz := avr_vsl_z hx
          have e1 : ∀ {z : Nat}, (z = 0 ↔ a1 = none) → (z == 0) = a1.isNone := fun h => by
            rw [Bool.eq_iff_iff]; simp [h]
          rw [e1 hz]
          exact equalIn_sl 9999 t e hu _ _ _ _ _
        · cases he
    all_goals (cases x <;> cases y <;> simp [aeq] at he)

theorem run_eqGuard_agg {op : BinOp} {t : TypeId} {x y : Operand} (hg : P.eqGuardType P.depth t = false) (xs ys : Array Value) : (eqGuard op t x y (.agg xs) (.agg ys)).run P w = .ok () w := by
  cases op <;> simp [eqGuard, hg]
theorem run_eqGuard_nil {op : BinOp} {t : TypeId} {x y : Operand} (hc : (isC x || isC y) = true) : (eqGuard op t x y .nilIface .nilIface).run P w = .ok () w := by
  unfold eqGuard
  cases x <;> cases y <;> simp only [isC, Bool.or_self, Bool.or_false, Bool.or_true, Bool.false_eq_true] at hc <;> cases op <;> rfl
theorem run_eqGuard_of {op : BinOp} {t : TypeId} {x y : Operand} {u v : Value} (h1 : ∀ a, u ≠ .agg a) (h2 : u ≠ .nilIface ∨ v ≠ .nilIface) : (eqGuard op t x y u v).run P w = .ok () w := by
  cases op <;> (unfold eqGuard; simp only [Bool.not_true, Bool.not_false, Bool.false_eq_true, if_false, if_true]) <;> first
    | rfl
    | (cases u <;> first | rfl | exact (h1 _ rfl).elim | (cases v <;> first | rfl | simp at h2))

theorem bin_fin {op : BinOp} {t : TypeId} {x y : Operand} {u v : Value} {q : Bool} {a b r : AV} {e : EqTy} (hq : aeq e a b = some q) (hr : eqRes op (aeq e a b) = some r)
    (hg : (eqGuard op t x y u v).run P w = .ok () w) (heq : (Op.equal t u v).run P w = .ok q w) (h1 : binOp .eql t u v = (do pure (.bool (← Op.equal t u v)))) (h2 : binOp .neq t u v = (do pure (.bool (!(← Op.equal t u v))))) :
    ∃ z, (do eqGuard op t x y u v; binOp op t u v : Sem Value).run P w = .ok z w ∧ AVR ρ S w r z := by
  rw [hq] at hr
  cases op <;> simp only [eqRes, Option.map_some, Option.some.injEq, reduceCtorEq] at hr <;> subst hr
  · exact ⟨_, by simp [hg, h1, heq], .bool _⟩
  · exact ⟨_, by simp [hg, h2, heq], .bool _⟩

/-- 'x op y'. c: one of both is a constant. -/
theorem snd_bin {op : BinOp} {t : TypeId} {x y : Operand} {a b r : AV} {u v : Value} (ha : AVR ρ S w a u) (hb : AVR ρ S w b v)
    (he : binOf op (eqTyOf P t (isC x || isC y)) a b = some r) :
    ∃ z, (do eqGuard op t x y u v; binOp op t u v : Sem Value).run P w = .ok z w ∧ AVR ρ S w r z := by
  by_cases hii : ∃ k m k' m', a = .int k m ∧ b = .int k' m'
  · obtain ⟨k, m, k', m', rfl, rfl⟩ := hii
    rw [avr_int ha, avr_int hb]
    simp only [Sem.run_bind, run_eqGuard_of (P := P) (w := w) (u := .int k m) (v := .int k' m') (by simp) (by simp), Result.andThen_ok]
    simp only [binOf] at he
    split at he
    · exact snd_intShift he
    · rename_i hs
      split at he
      · rename_i hk; subst hk; exact snd_intBin hs he
      · cases he
  by_cases hss : ∃ m m', a = .str m ∧ b = .str m'
  · obtain ⟨m, m', rfl, rfl⟩ := hss
    rw [avr_str ha, avr_str hb]
    simp only [Sem.run_bind, run_eqGuard_of (P := P) (w := w) (u := .string m) (v := .string m') (by simp) (by simp), Result.andThen_ok]
    exact snd_strBin (by simpa [binOf] using he)
  have he' : eqRes op (aeq (eqTyOf P t (isC x || isC y)) a b) = some r := by
    unfold binOf at he
    split at he
    · exact absurd ⟨_, _, _, _, rfl, rfl⟩ hii
    · exact absurd ⟨_, _, rfl, rfl⟩ hss
    · exact he
  clear he
  cases hq : aeq (eqTyOf P t (isC x || isC y)) a b with
  | none => rw [hq] at he'; cases op <;> simp [eqRes] at he'
  | some q =>
    have heq := snd_aeq ha hb hq
    have hq' := hq
    have hagg : ∀ ks, eqTyOf P t (isC x || isC y) = .agg ks → P.eqGuardType P.depth t = false := by
      intro ks h
      unfold eqTyOf at h
      (repeat' split at h) <;> first | (cases h; done) | (rename_i hh; simpa using hh)
    have hif : eqTyOf P t (isC x || isC y) = .iface → (isC x || isC y) = true := by
      intro h
      unfold eqTyOf at h
      (repeat' split at h) <;> first | (cases h; done) | assumption
    generalize eqTyOf P t (isC x || isC y) = e at *
    cases e <;> cases a <;> cases b <;> simp only [aeq, reduceCtorEq] at hq'
    case bool.bool.bool => rw [avr_bool ha, avr_bool hb] at heq ⊢; exact bin_fin hq he' (run_eqGuard_of (by simp) (by simp)) heq rfl rfl
    case agg.agg.agg => obtain ⟨_, rfl, _⟩ := avr_agg ha; obtain ⟨_, rfl, _⟩ := avr_agg hb; exact bin_fin hq he' (run_eqGuard_agg (hagg _ rfl) _ _) heq rfl rfl
    case ptr.nilptr.nilptr => rw [avr_nilptr ha, avr_nilptr hb] at heq ⊢; exact bin_fin hq he' (run_eqGuard_of (by simp) (by simp)) heq rfl rfl
    case ptr.nilptr.ptr => rw [avr_nilptr ha] at heq ⊢; obtain ⟨_, _, rfl, _⟩ := avr_ptr hb; exact bin_fin hq he' (run_eqGuard_of (by simp) (by simp)) heq rfl rfl
    case ptr.nilptr.vptr => rw [avr_nilptr ha] at heq ⊢; obtain ⟨_, _, rfl, _⟩ := avr_vptr hb; exact bin_fin hq he' (run_eqGuard_of (by simp) (by simp)) heq rfl rfl
    case ptr.ptr.nilptr => rw [avr_nilptr hb] at heq ⊢; obtain ⟨_, _, rfl, _⟩ := avr_ptr ha; exact bin_fin hq he' (run_eqGuard_of (by simp) (by simp)) heq rfl rfl
    case ptr.vptr.nilptr => rw [avr_nilptr hb] at heq ⊢; obtain ⟨_, _, rfl, _⟩ := avr_vptr ha; exact bin_fin hq he' (run_eqGuard_of (by simp) (by simp)) heq rfl rfl
    case iface.niliface.niliface => rw [avr_niliface ha, avr_niliface hb] at heq ⊢; exact bin_fin hq he' (run_eqGuard_nil (hif rfl)) heq rfl rfl
    case iface.niliface.iface => rw [avr_niliface ha] at heq ⊢; obtain ⟨_, rfl, _⟩ := avr_iface hb; exact bin_fin hq he' (run_eqGuard_of (by simp) (by simp)) heq rfl rfl
    case iface.iface.niliface => rw [avr_niliface hb] at heq ⊢; obtain ⟨_, rfl, _⟩ := avr_iface ha; exact bin_fin hq he' (run_eqGuard_of (by simp) (by simp)) heq rfl rfl
    case map.nilmap.nilmap => rw [avr_nilmap ha, avr_nilmap hb] at heq ⊢; exact bin_fin hq he' (run_eqGuard_of (by simp) (by simp)) heq rfl rfl
    case map.nilmap.map => rw [avr_nilmap ha] at heq ⊢; obtain ⟨_, rfl, _⟩ := avr_map hb; exact bin_fin hq he' (run_eqGuard_of (by simp) (by simp)) heq rfl rfl
    case map.map.nilmap => rw [avr_nilmap hb] at heq ⊢; obtain ⟨_, rfl, _⟩ := avr_map ha; exact bin_fin hq he' (run_eqGuard_of (by simp) (by simp)) heq rfl rfl
    case func.nilfunc.nilfunc => rw [avr_nilfunc ha, avr_nilfunc hb] at heq ⊢; exact bin_fin hq he' (run_eqGuard_of (by simp) (by simp)) heq rfl rfl
    case func.nilfunc.func => rw [avr_nilfunc ha] at heq ⊢; obtain ⟨_, _, rfl, _⟩ := avr_func hb; exact bin_fin hq he' (run_eqGuard_of (by simp) (by simp)) heq rfl rfl
    case func.func.nilfunc => rw [avr_nilfunc hb] at heq ⊢; obtain ⟨_, _, rfl, _⟩ := avr_func ha; exact bin_fin hq he' (run_eqGuard_of (by simp) (by simp)) heq rfl rfl
    case sl.sl.vsl => obtain ⟨_, _, _, _, _, _, rfl, _⟩ := avr_sl ha; obtain ⟨_, _, _, _, rfl, _⟩ := avr_vsl hb; exact bin_fin hq he' (run_eqGuard_of (by simp) (by simp)) heq rfl rfl
    case sl.vsl.vsl => obtain ⟨_, _, _, _, rfl, _⟩ := avr_vsl ha; obtain ⟨_, _, _, _, rfl, _⟩ := avr_vsl hb; exact bin_fin hq he' (run_eqGuard_of (by simp) (by simp)) heq rfl rfl
end
end Go.Fw
