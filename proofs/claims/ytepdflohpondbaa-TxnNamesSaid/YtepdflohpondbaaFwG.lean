/- Elements, tuples, interfaces, functions, lengths, least and greatest, looking into a map. -/
import Derived.Test.YtepdflohpondbaaFwF
import Derived.DeepKeys3
set_option linter.unusedSimpArgs false
set_option linter.unusedVariables false
namespace Go.Fw
section
variable {P : Program} {ρ : Nat → Option (Nat × Nat)} {S : Nat → Prop} {h : AHeap} {w : World} {n : Nat}

/-- What is indexed, by its type. -/
def ixOf (P : Program) (t : TypeId) : Option (Sk × TypeId) :=
  match P.underlying t with
  | some .string => some (.str, 0)
  | some (.slice e) => if (P.info? e).isSome then some (.slice (P.cellsOf e), e) else none
  | some (.array m e) => if (P.info? e).isSome then some (.array m (P.cellsOf e), e) else none
  | _ => none

theorem snd_indexAddr {t e : TypeId} {s : Sk} {a b x : AV} {u v : Value} (hs : ixOf P t = some (s, e)) (ha : AVR ρ S w a u) (hb : AVR ρ S w b v) (he : indexAddrOf s a b = some x) :
    ∃ z, (Instr.indexAt t u v).run P w = .ok z w ∧ AVR ρ S w x z := by
  unfold indexAddrOf at he
  split at he
  · rename_i k i
    rw [avr_int hb]
    split at he
    · rename_i h0
      unfold ixOf at hs
      cases hu : P.underlying t with
      | none => simp [hu] at hs
      | some d =>
        cases d <;> simp only [hu, reduceCtorEq] at hs
        case string =>
          injection hs with hs; injection hs with hs _; subst hs
          cases a <;> simp at he
        case slice e' =>
          split at hs
          · rename_i hi'
            injection hs with hs; injection hs with hs _; subst hs
            have hsz := run_sizeOf_cells (P := P) (w := w) hi'
            have run : ∀ bb oo len c, i.toNat < len → (Instr.indexAt t (.slice (some ⟨bb, oo, none⟩) len c) (.int k i)).run P w = .ok (.pointer (some ⟨bb, oo + i.toNat * P.cellsOf e', none⟩)) w := by
              intro bb oo len c hl
              unfold Instr.indexAt
              simp only [Sem.run_bind, asIntOf, Sem.run_pure, Result.andThen_ok, run_underlying hu]
              rw [if_pos (by omega)]
              simp only [Sem.run_bind, hsz, Result.andThen_ok, Sem.run_pure, addr_add]
            cases a <;> simp only [reduceCtorEq] at he
            · rename_i id off len cap z'
              split at he
              · rename_i hz
                obtain ⟨hz, hl⟩ := hz
                injection he with he; subst he
                obtain ⟨bb, o, c, arr, ty, fz, rfl, f1, _⟩ := avr_sl ha
                refine ⟨_, run _ _ _ _ hl, ?_⟩
                rw [Nat.add_assoc]
                exact .ptr _ _ _ _ f1
              · cases he
            · rename_i z' es cap
              split at he
              · rename_i el hel
                split at he
                · rename_i hz
                  subst hz
                  injection he with he; subst he
                  cases ha with
                  | pv _ _ hp => cases hp with
                    | vsl _ _ _ a0 n c bb o g hn hz g1 g2 g3 g4 g5 g6 =>
                      subst hn
                      have hne : es ≠ [] := by rintro rfl; simp at hel
                      obtain ⟨rfl, hS⟩ := g3 hne
                      have hl : i.toNat < es.length := (List.getElem?_eq_some_iff.1 hel).1
                      exact ⟨_, run _ _ _ _ hl, .pv _ _ (.vptr el bb (o + i.toNat * P.cellsOf e') (fun j => g i.toNat j) hS (fun j x hx => g5 _ _ j x hel hx) (fun j x hx => g6 _ _ j x hel hx))⟩
                · cases he
              · cases he
          · cases hs
        case array m e' =>
          split at hs
          · rename_i hi'
            injection hs with hs; injection hs with hs _; subst hs
            have hsz := run_sizeOf_cells (P := P) (w := w) hi'
            have run : ∀ bb oo, i.toNat < m → (Instr.indexAt t (.pointer (some ⟨bb, oo, none⟩)) (.int k i)).run P w = .ok (.pointer (some ⟨bb, oo + i.toNat * P.cellsOf e', none⟩)) w := by
              intro bb oo hl
              unfold Instr.indexAt
              simp only [Sem.run_bind, asIntOf, Sem.run_pure, Result.andThen_ok, run_underlying hu, Instr.sureAddr]
              rw [if_pos (by omega)]
              simp only [Sem.run_bind, hsz, Result.andThen_ok, Sem.run_pure, addr_add]
            cases a <;> simp only [reduceCtorEq] at he
            · rename_i id off
              split at he
              · rename_i hl
                injection he with he; subst he
                obtain ⟨bb, o, rfl, f1⟩ := avr_ptr ha
                refine ⟨_, run _ _ hl, ?_⟩
                rw [Nat.add_assoc]
                exact .ptr _ _ _ _ f1
              · cases he
            · rename_i cs
              split at he
              · rename_i hl
                injection he with he; subst he
                cases ha with
                | pv _ _ hp => cases hp with
                  | vptr _ bb o g hS g1 g2 =>
                    refine ⟨_, run _ _ hl, .pv _ _ (.vptr _ bb (o + i.toNat * P.cellsOf e') (fun j => g (i.toNat * P.cellsOf e' + j)) hS (fun j c hc => ?_) (fun j c hc => ?_))⟩
                    · rw [List.getElem?_drop] at hc
                      rw [Nat.add_assoc]; exact g1 _ c hc
                    · rw [List.getElem?_drop] at hc
                      exact g2 _ c hc
              · cases he
          · cases hs
    · cases he
  · cases he

theorem snd_index {t e : TypeId} {s : Sk} {k : Pt} {a b x : AV} {u v : Value} (hs : ixOf P t = some (s, e)) (hk : s = .str ∨ tyPt P e = some k) (ha : AVR ρ S w a u) (hb : AVR ρ S w b v) (he : indexOf s k a b = some x) :
    ∃ z, (Instr.index t u v).run P w = .ok z w ∧ AVR ρ S w x z := by
  unfold indexOf at he
  split at he
  · rename_i kk i
    rw [avr_int hb]
    split at he
    · rename_i h0
      unfold ixOf at hs
      cases hu : P.underlying t with
      | none => simp [hu] at hs
      | some d =>
        cases d <;> simp only [hu, reduceCtorEq] at hs
        case string =>
          injection hs with hs; injection hs with hs _; subst hs
          cases a <;> simp only [reduceCtorEq] at he
          rename_i s
          rw [avr_str ha]
          split at he
          · rename_i bt hbt
            injection he with he; subst he
            refine ⟨_, ?_, .int _ _⟩
            unfold Instr.index
            simp only [Sem.run_bind, asIntOf, Sem.run_pure, Result.andThen_ok, run_underlying hu]
            rw [if_pos h0, hbt]
            rfl
          · cases he
        case slice e' =>
          split at hs
          · injection hs with hs; injection hs with hs _; subst hs
            cases a <;> simp at he
          · cases hs
        case array m e' =>
          split at hs
          · rename_i hi'
            injection hs with hs; injection hs with hs hs2; subst hs; subst hs2
            have hk := hk.resolve_left (by simp)
            cases a <;> simp only [reduceCtorEq] at he
            rename_i cs
            split at he
            · rename_i hl
              obtain ⟨xs, rfl, h1, h2, h3⟩ := avr_agg ha
              obtain ⟨z, e1, e2⟩ := snd_part (P := P) hk h1 h2 h3 he
              refine ⟨z, ?_, e2⟩
              unfold Instr.index
              simp only [Sem.run_bind, asIntOf, Sem.run_pure, Result.andThen_ok, run_underlying hu]
              rw [if_pos (by omega)]
              simp only [Sem.run_bind, run_sizeOf_cells (P := P) (w := w) hi', Result.andThen_ok, e1]
            · cases he
          · cases hs
    · cases he
  · cases he

theorem snd_extract {vs : List AV} {x : AV} {u : Value} {i : Nat} (ha : AVR ρ S w (.tup vs) u) (he : vs[i]? = some x) : ∃ z, (Instr.extract u i).run P w = .ok z w ∧ AVR ρ S w x z := by
  obtain ⟨xs, rfl, h1, h3⟩ := avr_tup ha
  have hl : i < xs.length := by rw [← h1]; exact (List.getElem?_eq_some_iff.1 he).1
  refine ⟨xs[i], ?_, h3 i x _ he (by simp [hl])⟩
  unfold Instr.extract
  simp [hl]

theorem avr_list {f : AOpd → AV} {g : Operand → Value} {xs : List AOpd} {ys : List Operand} (hl : xs.length = ys.length) (hf : ∀ (i : Nat) x y, xs[i]? = some x → ys[i]? = some y → AVR ρ S w (f x) (g y)) :
    (xs.map f).length = (ys.map g).length ∧ ∀ (i : Nat) (c : AV) (v : Value), (xs.map f)[i]? = some c → (ys.map g)[i]? = some v → AVR ρ S w c v := by
  refine ⟨by simpa using hl, fun i c v hc hv => ?_⟩
  rw [List.getElem?_map] at hc hv
  cases hx : xs[i]? with
  | none => simp [hx] at hc
  | some x =>
    cases hy : ys[i]? with
    | none => simp [hy] at hv
    | some y =>
      simp [hx] at hc; simp [hy] at hv
      subst hc; subst hv
      exact hf i x y hx hy

/-- A number of elements. -/
theorem snd_len_slice {t : TypeId} {ty : TypeId} {a : AV} {u : Value} {m : Nat} {d : TypeDesc} (hu : P.underlying t = some d) (hd : (∃ e, d = .slice e) ∨ d = .string) (ha : AVR ρ S w a u)
    (he : (∃ z es cap, a = .vsl z es cap ∧ m = es.length ∧ ∃ e, d = .slice e) ∨ (∃ id off cap z, a = .sl id off m cap z ∧ ∃ e, d = .slice e) ∨ (∃ s, a = .str s ∧ m = s.size ∧ d = .string)) :
    (Builtin.len_ #[t] ty #[u]).run P w = .ok (.int .i64 m) w := by
  unfold Builtin.len_
  rcases he with ⟨z, es, cap, rfl, rfl, e, rfl⟩ | ⟨id, off, cap, z, rfl, e, rfl⟩ | ⟨s, rfl, rfl, rfl⟩
  · obtain ⟨a0, c, b, o, rfl, _⟩ := avr_vsl ha
    simp [run_underlying hu, goInt]
  · obtain ⟨b, o, c, arr, ty, fz, rfl, _⟩ := avr_sl ha
    simp [run_underlying hu, goInt]
  · rw [avr_str ha]
    simp [run_underlying hu, goInt]

theorem snd_min2 {k : IntKind} {x y : Int} : (Builtin.min2 (.int k x) (.int k y)).run P w = .ok (.int k (if y < x then y else x)) w := rfl
theorem snd_max2 {k : IntKind} {x y : Int} : (Builtin.max2 (.int k x) (.int k y)).run P w = .ok (.int k (if y > x then y else x)) w := rfl

theorem snd_foldMinMax {isMax : Bool} : ∀ {as : List AV} {us : List Value} {k : IntKind} {m : Int} {x : AV}, as.length = us.length → (∀ (i : Nat) (c : AV) (v : Value), as[i]? = some c → us[i]? = some v → AVR ρ S w c v) →
    foldMinMax isMax (.int k m) as = some x → ∃ z, (us.foldlM (if isMax then Builtin.max2 else Builtin.min2) (.int k m) : Sem Value).run P w = .ok z w ∧ AVR ρ S w x z
  | [], [], k, m, x, _, _, he => by
    simp [foldMinMax] at he; subst he
    exact ⟨_, rfl, .int _ _⟩
  | [], _ :: _, _, _, _, hl, _, _ => by simp at hl
  | _ :: _, [], _, _, _, hl, _, _ => by simp at hl
  | a :: as, u :: us, k, m, x, hl, hf, he => by
    cases a <;> simp only [foldMinMax, reduceCtorEq] at he
    rename_i k' y
    split at he
    · rename_i hk; subst hk
      have hu := avr_int (hf 0 _ _ rfl rfl)
      obtain ⟨z, e1, e2⟩ := snd_foldMinMax (as := as) (us := us) (by simpa using hl) (fun i c v hc hv => hf (i + 1) c v (by simpa using hc) (by simpa using hv)) he
      refine ⟨z, ?_, e2⟩
      subst hu
      cases isMax
      · simpa [List.foldlM_cons, snd_min2] using e1
      · simpa [List.foldlM_cons, snd_max2] using e1
    · cases he

/-! ### Maps -/
def ktOf (P : Program) (t : TypeId) : Option KTy :=
  match P.underlying t with
  | some (.int _) => some (.leaf .int)
  | some .string => some (.leaf .str)
  | some .bool => some (.leaf .bool)
  | some (.struct _) | some (.array _ _) => match flatK P 100 t with
    | some ks => if P.keyTypeAt 100 t then some (.agg ks) else none
    | none => none
  | _ => none

def ChkIn (P : Program) (em : Bool) (d : Nat) (t : TypeId) (m : Nat) : Prop := ∀ (w : World) (xs : List Value), xs.length = m → (Instr.checkKey em d t (mkV P t xs)).run P w = .ok () w

theorem chk_struct (em : Bool) (D : Nat) (fl : TypeId → Option (List LK)) (hu : ∀ t ks, fl t = some ks → ∃ d, P.underlying t = some d) (hs : ∀ t ks, fl t = some ks → isAggT P t = false → ks.length = 1)
    (IH : ∀ t ks, fl t = some ks → ChkIn P em D t ks.length) (xs : List Value) : ∀ (fs : List Field) (off : Nat) (ks : List LK) (w : World), flatFs fl P.cellsOf fs off = some ks → off + ks.length ≤ xs.length →
      (forIn fs PUnit.unit (fun f (r : PUnit) => if f.name ≠ "_" then (do Instr.checkKey em D f.type (← part f.type xs.toArray f.offset); pure (ForInStep.yield PUnit.unit)) else pure (ForInStep.yield PUnit.unit)) : Sem PUnit).run P w = .ok PUnit.unit w
  | [], off, ks, w, hk, hl => by simp
  | f :: fs, off, ks, w, hk, hl => by
    simp only [flatFs] at hk
    split at hk
    · rename_i hf
      obtain ⟨hn, rfl⟩ := hf
      split at hk
      · rename_i k1 hk1
        split at hk
        · rename_i hs'
          obtain ⟨hsz, hne⟩ := hs'
          simp only [Option.map_eq_some_iff] at hk
          obtain ⟨k2, hk2, rfl⟩ := hk
          simp only [List.length_append] at hl
          obtain ⟨d, hd⟩ := hu _ _ hk1
          have p1 := run_part_mk (w := w) f.offset xs hd (by rw [hsz]; omega) (fun ha => by rw [hsz]; exact hs _ _ hk1 ha)
          have p2 := IH f.type k1 hk1 w ((xs.drop f.offset).take (P.cellsOf f.type)) (by rw [hsz]; simp; omega)
          have p3 := chk_struct em D fl hu hs IH xs fs (f.offset + k1.length) k2 w hk2 (by omega)
          simp only [List.forIn_cons, hn, ne_eq, not_false_eq_true, if_true, Sem.run_bind, p1, Result.andThen_ok, p2, Sem.run_pure]
          exact p3
        · cases hk
      · cases hk
    · cases hk

theorem chk_flat (em : Bool) (D : Nat) : ∀ (m : Nat) (t : TypeId) (ks : List LK), flatK P m t = some ks → ChkIn P em (D + m) t ks.length
  | 0, t, ks, hk => by simp [flatK] at hk
  | m + 1, t, ks, hk => by
    intro w xs hl
    have hk0 := hk
    unfold flatK at hk
    cases hx : P.underlying t with
    | none => simp [hx] at hk
    | some x =>
      have ag : isAggT P t = (match x with | .struct _ | .array _ _ => true | _ => false) := by simp only [isAggT, hx]; cases x <;> rfl
      cases x <;> simp only [hx] at hk <;> try (cases hk; done)
      case bool => simp [← Nat.add_assoc, Instr.checkKey, run_underlying hx]
      case int k => simp [← Nat.add_assoc, Instr.checkKey, run_underlying hx]
      case string => simp [← Nat.add_assoc, Instr.checkKey, run_underlying hx]
      case array l e =>
        split at hk
        · rename_i k1 hk1
          split at hk
          · rename_i hc
            injection hk with hk; subst hk
            obtain ⟨dd, hu⟩ := flatK_underlying hk1
            obtain ⟨i, hi⟩ := info_of_underlying hu
            have hpos := List.length_pos_iff.2 hc.2
            have h1 : isAggT P e = false → P.cellsOf e = 1 := fun ha => by
              obtain ⟨k, rfl⟩ := flatK_scalar hk1 ha
              simpa using hc.1
            simp only [mkV, ag, if_true]
            rw [show D + (m + 1) = (D + m) + 1 from rfl, Instr.checkKey]
            simp only [Sem.run_bind, run_underlying hx, Result.andThen_ok]
            simp only [Std.Legacy.Range.forIn_eq_forIn_range', Std.Legacy.Range.size, Nat.sub_zero, Nat.add_one_sub_one, Nat.div_one]
            have hlen : xs.length = l * k1.length := by simpa using hl
            have each : ∀ j ∈ List.range' 0 l, j * k1.length + k1.length ≤ xs.length := by
              intro j hj
              simp at hj
              rw [hlen, ← Nat.succ_mul]
              exact Nat.mul_le_mul_right _ hj
            generalize List.range' 0 l = is at each
            induction is with
            | nil => simp
            | cons j is ih =>
              have hj := each j (by simp)
              have p1 := run_part_mk (w := w) (j * P.cellsOf e) xs hu (by rw [hc.1]; exact hj) h1
              have p2 := chk_flat em D m e k1 hk1 w ((xs.drop (j * P.cellsOf e)).take (P.cellsOf e)) (by rw [hc.1]; simp; omega)
              simp only [List.forIn_cons, Sem.run_bind, run_sizeOf_cells (P := P) (w := w) (show (P.info? e).isSome by simp [hi]), Result.andThen_ok, p1, p2, Sem.run_pure]
              exact ih (fun y hy => each y (by simp [hy]))
          · cases hk
        · cases hk
      case struct fs =>
        split at hk
        · cases hk
        · rename_i hst
          simp only [mkV, ag, if_true]
          rw [show D + (m + 1) = (D + m) + 1 from rfl, Instr.checkKey]
          simp only [Sem.run_bind, run_underlying hx, Result.andThen_ok]
          rw [← Array.forIn_toList]
          rw [chk_struct em (D + m) (flatK P m) (fun t ks h => flatK_underlying h) (fun t ks h ha => by obtain ⟨k, rfl⟩ := flatK_scalar h ha; rfl) (fun t ks h => chk_flat em D m t ks h) xs fs.toList 0 ks w hk (by omega)]
          rfl

/-- A map's entries. -/
def Ents (ρ : Nat → Option (Nat × Nat)) (S : Nat → Prop) (w : World) (es : List (AV × AV × Nat)) (ms : List MapEntry) : Prop :=
  ms.length = es.length ∧ ∀ (i : Nat) (k x : AV) (n : Nat), es[i]? = some (k, x, n) → ∃ m : MapEntry, ms[i]? = some m ∧ AVR ρ S w k m.key ∧ AVR ρ S w x m.val ∧ m.born = n

theorem Ents.cons {e : AV × AV × Nat} {es : List (AV × AV × Nat)} {ms : List MapEntry} (h : Ents ρ S w (e :: es) ms) : ∃ m r, ms = m :: r ∧ AVR ρ S w e.1 m.key ∧ AVR ρ S w e.2.1 m.val ∧ m.born = e.2.2 ∧ Ents ρ S w es r := by
  obtain ⟨h1, h2⟩ := h
  cases ms with
  | nil => simp at h1
  | cons m r =>
    obtain ⟨m', e1, e2, e3, e4⟩ := h2 0 e.1 e.2.1 e.2.2 (by simp)
    simp at e1; subst e1
    exact ⟨m, r, rfl, e2, e3, e4, by simpa using h1, fun i k x n hi => by simpa using h2 (i + 1) k x n (by simpa using hi)⟩

def EqKeyV : KTy → Value → Value → Option Bool
  | .leaf l, a, b => eqLeafV l a b
  | .agg ks, .agg xs, .agg ys => eqCellsV ks xs.toList ys.toList
  | _, _, _ => none
theorem eqKey_V {kt : KTy} {x y : AV} {u v : Value} {r : Bool} (hx : AVR ρ S w x u) (hy : AVR ρ S w y v) (he : eqKey kt x y = some r) : EqKeyV kt u v = some r := by
  cases kt with
  | leaf l => exact eqLeaf_V hx hy he
  | agg ks =>
    cases x <;> cases y <;> simp only [eqKey, reduceCtorEq] at he
    obtain ⟨xs, rfl, a1, _, a3⟩ := avr_agg hx
    obtain ⟨ys, rfl, b1, _, b3⟩ := avr_agg hy
    exact eqCells_V a1 b1 a3 b3 he

theorem snd_findNow {kd : TypeDesc} {l : LK} (hkd : (∃ k, kd = .int k) ∧ l = .int ∨ kd = .string ∧ l = .str ∨ kd = .bool ∧ l = .bool) {k : AV} {kv : Value} (hk : AVR ρ S w k kv) : ∀ {es : List (AV × AV × Nat)} {ms : List MapEntry} {i : Nat} {r : Option (Nat × AV × Nat)},
    Ents ρ S w es ms → Fw.findKey (.leaf l) k es i = some r → match r with
      | none => Instr.findNow kd kv ms i = some none
      | some (j, x, b) => i ≤ j ∧ ∃ m, ms[j - i]? = some m ∧ AVR ρ S w x m.val ∧ m.born = b ∧ Instr.findNow kd kv ms i = some (some (j, m.val)) ∧ ∃ k', es[j - i]? = some (k', x, b) ∧ eqKey (.leaf l) k k' = some true
  | [], ms, i, r, he, hf => by
    simp [Fw.findKey] at hf; subst hf
    have := he.1
    cases ms with
    | nil => rfl
    | cons => simp at this
  | e :: es, ms, i, r, he, hf => by
    obtain ⟨m, ms', rfl, h1, h2, h3, h4⟩ := he.cons
    obtain ⟨k', x, n⟩ := e
    simp only [Fw.findKey] at hf
    have same : ∀ q, eqKey (.leaf l) k k' = some q → Instr.sameNow kd kv m.key = some q := by
      intro q hq
      have hq := eqKey_V hk h1 hq
      generalize m.key = y at hq
      simp only [EqKeyV] at hq
      rcases hkd with ⟨⟨kk, rfl⟩, rfl⟩ | ⟨rfl, rfl⟩ | ⟨rfl, rfl⟩ <;> cases kv <;> cases y <;> simp only [eqLeafV, reduceCtorEq] at hq
      · exact hq
      · simp only [Instr.sameNow, beq_toListBytes]; exact hq
      · exact hq
    split at hf
    · rename_i hq
      injection hf with hf; subst hf
      refine ⟨Nat.le_refl _, m, by simp, h2, h3, ?_, k', by simp, hq⟩
      simp [Instr.findNow, same _ hq]
    · rename_i hq
      have ih := snd_findNow hkd hk (i := i + 1) h4 hf
      cases r with
      | none => simpa [Instr.findNow, same _ hq] using ih
      | some r =>
        obtain ⟨j, x', b⟩ := r
        obtain ⟨q1, m', q2, q3, q4, q5, k2, q6, q7⟩ := ih
        refine ⟨by omega, m', ?_, q3, q4, by simpa [Instr.findNow, same _ hq] using q5, k2, ?_, q7⟩
        · rw [show j - i = (j - (i + 1)) + 1 by omega]; simpa using q2
        · rw [show j - i = (j - (i + 1)) + 1 by omega]; simpa using q6
    · cases hf

theorem snd_findAsking {t : TypeId} {ks : List LK} (ht : flatK P 100 t = some ks) (ha : isAggT P t = true) {k : AV} {kv : Value} (hk : AVR ρ S w k kv) : ∀ {es : List (AV × AV × Nat)} {ms : List MapEntry} {i : Nat} {r : Option (Nat × AV × Nat)},
    Ents ρ S w es ms → Fw.findKey (.agg ks) k es i = some r → match r with
      | none => (Instr.findAsking t kv ms i).run P w = .ok none w
      | some (j, x, b) => i ≤ j ∧ ∃ m, ms[j - i]? = some m ∧ AVR ρ S w x m.val ∧ m.born = b ∧ (Instr.findAsking t kv ms i).run P w = .ok (some (j, m.val)) w ∧ ∃ k', es[j - i]? = some (k', x, b) ∧ eqKey (.agg ks) k k' = some true
  | [], ms, i, r, he, hf => by
    simp [Fw.findKey] at hf; subst hf
    have := he.1
    cases ms with
    | nil => simp [Instr.findAsking]
    | cons => simp at this
  | e :: es, ms, i, r, he, hf => by
    obtain ⟨m, ms', rfl, h1, h2, h3, h4⟩ := he.cons
    obtain ⟨k', x, n⟩ := e
    simp only [Fw.findKey] at hf
    have same : ∀ q, eqKey (.agg ks) k k' = some q → (Op.equal t kv m.key).run P w = .ok q w := by
      intro q hq
      cases k <;> cases k' <;> simp only [eqKey, reduceCtorEq] at hq
      obtain ⟨xs, rfl, a1, _, a3⟩ := avr_agg hk
      obtain ⟨ys, e2, b1, _, b3⟩ := avr_agg h1
      rw [e2]
      have := eqIn_flat (P := P) 9900 100 t ks ht w xs ys q (eqCells_V a1 b1 a3 b3 hq)
      simpa only [mkV, ha, if_true, Op.equal, Op.maxDepth] using this
    split at hf
    · rename_i hq
      injection hf with hf; subst hf
      refine ⟨Nat.le_refl _, m, by simp, h2, h3, ?_, k', by simp, hq⟩
      simp [Instr.findAsking, same _ hq]
    · rename_i hq
      have ih := snd_findAsking ht ha hk (i := i + 1) h4 hf
      cases r with
      | none => simpa [Instr.findAsking, same _ hq] using ih
      | some r =>
        obtain ⟨j, x', b⟩ := r
        obtain ⟨q1, m', q2, q3, q4, q5, k2, q6, q7⟩ := ih
        refine ⟨by omega, m', ?_, q3, q4, by simpa [Instr.findAsking, same _ hq] using q5, k2, ?_, q7⟩
        · rw [show j - i = (j - (i + 1)) + 1 by omega]; simpa using q2
        · rw [show j - i = (j - (i + 1)) + 1 by omega]; simpa using q6
    · cases hf

/-- A key is found, or not. -/
def Found (P : Program) (ρ : Nat → Option (Nat × Nat)) (S : Nat → Prop) (w : World) (t : TypeId) (kt : KTy) (k : AV) (kv : Value) (es : List (AV × AV × Nat)) (ms : List MapEntry) : Option (Nat × AV × Nat) → Prop
  | none => (Instr.findKey t kv ms).run P w = .ok none w
  | some (j, x, b) => ∃ m : MapEntry, ms[j]? = some m ∧ AVR ρ S w x m.val ∧ m.born = b ∧ (Instr.findKey t kv ms).run P w = .ok (some (j, m.val)) w ∧ ∃ k', es[j]? = some (k', x, b) ∧ eqKey kt k k' = some true

theorem snd_findKey {t : TypeId} {kt : KTy} (ht : ktOf P t = some kt) {k : AV} {kv : Value} (hk : AVR ρ S w k kv) {es : List (AV × AV × Nat)} {ms : List MapEntry} {r : Option (Nat × AV × Nat)} (he : Ents ρ S w es ms) (hf : Fw.findKey kt k es 0 = some r) : Found P ρ S w t kt k kv es ms r := by
  unfold ktOf at ht
  have leaf : ∀ kd l, P.underlying t = some kd → ((∃ k, kd = .int k) ∧ l = .int ∨ kd = .string ∧ l = .str ∨ kd = .bool ∧ l = .bool) → kt = .leaf l → Found P ρ S w t kt k kv es ms r := by
    rintro kd l hu hkd rfl
    have := snd_findNow hkd hk he hf
    unfold Found Instr.findKey
    cases r with
    | none => simp [run_underlying hu, this]
    | some r =>
      obtain ⟨j, x, b⟩ := r
      obtain ⟨_, m, q2, q3, q4, q5, k2, q6, q7⟩ := this
      exact ⟨m, by simpa using q2, q3, q4, by simp [run_underlying hu, q5], k2, by simpa using q6, q7⟩
  have agg : ∀ kd ks, P.underlying t = some kd → isAggT P t = true → flatK P 100 t = some ks → kt = .agg ks → Found P ρ S w t kt k kv es ms r := by
    rintro kd ks hu ha hfl rfl
    have := snd_findAsking hfl ha hk he hf
    have now : Instr.findNow kd kv ms 0 = if ms = [] then some none else none := by
      cases ms with
      | nil => rfl
      | cons m r =>
        simp only [Instr.findNow, reduceCtorEq, if_false]
        unfold isAggT at ha
        rw [hu] at ha
        cases kd <;> simp at ha <;> rfl
    unfold Found Instr.findKey
    cases r with
    | none =>
      simp only [Sem.run_bind, run_underlying hu, Result.andThen_ok, now]
      by_cases h0 : ms = []
      · subst h0; simp
      · simp only [if_neg h0]; exact this
    | some r =>
      obtain ⟨j, x, b⟩ := r
      obtain ⟨_, m, q2, q3, q4, q5, k2, q6, q7⟩ := this
      have h0 : ms ≠ [] := by rintro rfl; simp at q2
      exact ⟨m, by simpa using q2, q3, q4, by simp only [Sem.run_bind, run_underlying hu, Result.andThen_ok, now, if_neg h0]; exact q5, k2, by simpa using q6, q7⟩
  cases hu : P.underlying t with
  | none => simp [hu] at ht
  | some kd =>
    cases kd <;> simp only [hu, reduceCtorEq] at ht
    case int q => injection ht with ht; exact leaf _ .int hu (.inl ⟨⟨q, rfl⟩, rfl⟩) ht.symm
    case string => injection ht with ht; exact leaf _ .str hu (.inr (.inl ⟨rfl, rfl⟩)) ht.symm
    case bool => injection ht with ht; exact leaf _ .bool hu (.inr (.inr ⟨rfl, rfl⟩)) ht.symm
    case struct fs =>
      split at ht
      · rename_i ks hks
        split at ht
        · injection ht with ht; exact agg _ ks hu (by simp [isAggT, hu]) hks ht.symm
        · cases ht
      · cases ht
    case array m e =>
      split at ht
      · rename_i ks hks
        split at ht
        · injection ht with ht; exact agg _ ks hu (by simp [isAggT, hu]) hks ht.symm
        · cases ht
      · cases ht
end
end Go.Fw
