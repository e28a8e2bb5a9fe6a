/- Single values: fields, indexes, slices, conversions, and what else only reads. -/
import Derived.Test.YtepdflohpondbaaFwE
set_option linter.unusedSimpArgs false
set_option linter.unusedVariables false
namespace Go.Fw
section
variable {P : Program} {ρ : Nat → Option (Nat × Nat)} {S : Nat → Prop} {h : AHeap} {w : World} {n : Nat}

theorem snd_un {op : UnOp} {a r : AV} {u : Value} (ha : AVR ρ S w a u) (he : unOf op a = some r) : ∃ z, (Op.unary op u).run P w = .ok z w ∧ AVR ρ S w r z := by
  cases op <;> cases a <;> simp only [unOf, reduceCtorEq] at he <;> (injection he with he; subst he)
  all_goals first
    | (rw [avr_int ha]; exact ⟨_, rfl, .int _ _⟩)
    | (rw [avr_bool ha]; exact ⟨_, rfl, .bool _⟩)

theorem snd_convInt {src dst : TypeId} {k k' : IntKind} {m : Int} (hs : (P.underlying src).isSome) (hd : P.underlying dst = some (.int k)) :
    (convert src dst (.int k' m)).run P w = .ok (.int k (k.wrap m)) w := by
  obtain ⟨d, hs⟩ := Option.isSome_iff_exists.1 hs
  unfold convert
  simp [underlying, hs, hd, Conv.intToInt]
theorem snd_convStr {src dst : TypeId} {s : ByteArray} (hs : P.underlying src = some .string) (hd : P.underlying dst = some .string) :
    (convert src dst (.string s)).run P w = .ok (.string s) w := by
  unfold convert
  simp [underlying, hs, hd]

theorem snd_field {t : TypeId} {fs : Array Field} {f : Field} {fi : Nat} {k : Pt} {cs : List AV} {r : AV} {u : Value} (hu : P.underlying t = some (.struct fs)) (hf : fs[fi]? = some f) (hk : tyPt P f.type = some k)
    (ha : AVR ρ S w (.agg cs) u) (he : partOf k (cs.drop f.offset) = some r) : ∃ z, (Instr.field t u fi).run P w = .ok z w ∧ AVR ρ S w r z := by
  obtain ⟨xs, rfl, h1, h2, h3⟩ := avr_agg ha
  obtain ⟨z, e1, e2⟩ := snd_part (P := P) hk h1 h2 h3 he
  refine ⟨z, ?_, e2⟩
  unfold Instr.field
  simp [underlying, hu, hf, asAgg, e1]

theorem run_fieldPlace {b o : Nat} {f : Field} (hs : P.cellsOf f.type ≠ 0) : (fieldPlace ⟨b, o, none⟩ f).run P w = .ok ⟨b, o + f.offset, none⟩ w := by
  unfold fieldPlace sizeOf typeInfo
  unfold Program.cellsOf at hs
  cases hi : P.info? f.type with
  | none => simp [hi] at hs
  | some i =>
    simp [hi] at hs
    simp [hi, hs, addr_add]

theorem snd_fieldAddr (r : RelH ρ S h w) {t : TypeId} {fs : Array Field} {f : Field} {fi : Nat} {a x : AV} {u : Value} (hu : P.underlying t = some (.struct fs)) (hf : fs[fi]? = some f) (hs : P.cellsOf f.type ≠ 0)
    (ha : AVR ρ S w a u) (he : fieldAddrOf f.offset a = some x) :
    ∃ z, (Instr.fieldAt t u fi).run P w = .ok z w ∧ AVR ρ S w x z := by
  have key : ∀ b o, u = .pointer (some ⟨b, o, none⟩) → (Instr.fieldAt t u fi).run P w = .ok (.pointer (some ⟨b, o + f.offset, none⟩)) w := by
    rintro b o rfl
    unfold Instr.fieldAt
    simp [underlying, hu, hf, Instr.sureAddr, run_fieldPlace hs]
  cases a <;> simp only [fieldAddrOf, reduceCtorEq] at he <;> (injection he with he; subst he)
  · rename_i id o
    obtain ⟨b, o', e1, e2⟩ := avr_ptr ha
    refine ⟨_, key _ _ e1, ?_⟩
    rw [Nat.add_assoc]
    exact .ptr _ _ _ _ e2
  · rename_i cs
    cases ha with
    | pv _ _ hp => cases hp with
      | vptr _ b o g hb h1 h2 =>
        refine ⟨_, key _ _ rfl, .pv _ _ (.vptr _ b (o + f.offset) (fun i => g (f.offset + i)) hb (fun i c hc => ?_) (fun i c hc => ?_))⟩
        · rw [List.getElem?_drop] at hc
          rw [Nat.add_assoc]; exact h1 _ c hc
        · rw [List.getElem?_drop] at hc
          exact h2 _ c hc

/-! ### Slices of values that stay -/
theorem pvr_vsl {es : List (List AV)} {cap : Option Nat} {a : Option Addr} {c b o z : Nat} (h1 : ∀ k, cap = some k → c = k) (h2 : es.length ≤ c) (h3 : es ≠ [] → a = some ⟨b, o, none⟩ ∧ S b)
    (h4 : ∀ (i : Nat) (e : List AV), es[i]? = some e → e.length = z)
    (h5 : ∀ (i : Nat) (e : List AV) (j : Nat) (x : AV), es[i]? = some e → e[j]? = some x → x.isCell = true ∧ ∃ u, w.cell? ⟨b, o + i * z + j, none⟩ = some u ∧ PVR S w x u) (hz : z = 0 ↔ a = none) : PVR S w (.vsl z es cap) (.slice a es.length c) := by
  refine .vsl z es cap a es.length c b o (fun i j => (w.cell? ⟨b, o + i * z + j, none⟩).getD Go.undef) rfl hz h1 h2 h3 h4 (fun i e j x hi hj => ?_) (fun i e j x hi hj => ?_)
  · obtain ⟨e1, u, e2, _⟩ := h5 i e j x hi hj
    exact ⟨e1, by simp [e2]⟩
  · obtain ⟨_, u, e2, e3⟩ := h5 i e j x hi hj
    simpa [e2] using e3

theorem pvr_empty (S : Nat → Prop) (w : World) (z : Nat) (cap : Option Nat) (a : Option Addr) (c : Nat) (h : ∀ k, cap = some k → c = k) (hz : z = 0 ↔ a = none) : PVR S w (.vsl z [] cap) (.slice a 0 c) :=
  pvr_vsl (es := []) (b := 0) (o := 0) (z := z) h (Nat.zero_le _) (fun h => absurd rfl h) (fun i e h => by simp at h) (fun i e j x h => by simp at h) hz

theorem bound_run {x : Option AOpd} {sl : Nat → AV} {dflt m : Nat} (hb : bound x sl dflt = some m) : (x = none ∧ m = dflt) ∨ ∃ y k i, x = some y ∧ y.ev sl = .int k i ∧ 0 ≤ i ∧ i.toNat = m := by
  unfold bound at hb
  cases x with
  | none => injection hb with hb; exact .inl ⟨rfl, hb.symm⟩
  | some y =>
    simp only at hb
    split at hb
    · rename_i k i he
      split at hb
      · rename_i h0; injection hb with hb; exact .inr ⟨y, k, i, rfl, he, h0, hb⟩
      · cases hb
    · cases hb

/-- The three bounds of a slice expression. -/
def Bnd (ρ : Nat → Option (Nat × Nat)) (S : Nat → Prop) (w : World) (sl : Nat → AV) (x : Option AOpd) (v : Option Value) : Prop :=
  match x, v with
  | none, none => True
  | some y, some u => AVR ρ S w (y.ev sl) u
  | _, _ => False

theorem run_sliceBounds {isSlice : Bool} {len cap l hh m : Nat} {lo hi mx : Option AOpd} {vl vh vm : Option Value} {sl : Nat → AV} (b1 : Bnd ρ S w sl lo vl) (b2 : Bnd ρ S w sl hi vh) (b3 : Bnd ρ S w sl mx vm)
    (e1 : bound lo sl 0 = some l) (e2 : bound hi sl len = some hh) (e3 : bound mx sl cap = some m) (hmx : mx ≠ none → hi ≠ none) (h1 : l ≤ hh) (h2 : hh ≤ m) (h3 : m ≤ cap) :
    (Instr.sliceBounds isSlice len cap vl vh vm).run P w = .ok (l, hh, m) w := by
  have one : ∀ (k : IntKind) (i : Int) (y : Nat) (c : BoundsCode), 0 ≤ i → i.toNat ≤ y → (Instr.sliceBound (.int k i) y c).run P w = .ok i.toNat w := by
    intro k i y c h0 hy
    unfold Instr.sliceBound
    simp [asIntOf, h0, show i ≤ (y : Int) by omega]
  have getv : ∀ {x : Option AOpd} {v : Option Value} {y : AOpd} {k : IntKind} {i : Int}, Bnd ρ S w sl x v → x = some y → y.ev sl = .int k i → v = some (.int k i) := by
    intro x v y k i hb hx hy
    subst hx
    cases v with
    | none => simp [Bnd] at hb
    | some u => simp only [Bnd, hy] at hb; rw [avr_int hb]
  have getn : ∀ {x : Option AOpd} {v : Option Value}, Bnd ρ S w sl x v → x = none → v = none := by
    intro x v hb hx
    subst hx
    cases v with
    | none => rfl
    | some u => simp [Bnd] at hb
  unfold Instr.sliceBounds
  rcases bound_run e3 with ⟨rfl, rfl⟩ | ⟨y3, k3, i3, hx3, hy3, p3, rfl⟩
  · rw [getn b3 rfl]
    rcases bound_run e2 with ⟨rfl, rfl⟩ | ⟨y2, k2, i2, hx2, hy2, p2, rfl⟩
    · rw [getn b2 rfl]
      rcases bound_run e1 with ⟨rfl, rfl⟩ | ⟨y1, k1, i1, hx1, hy1, p1, rfl⟩
      · rw [getn b1 rfl]; simp
      · rw [getv b1 hx1 hy1]; simp [one _ _ _ _ p1 h1]
    · rw [getv b2 hx2 hy2]
      rcases bound_run e1 with ⟨rfl, rfl⟩ | ⟨y1, k1, i1, hx1, hy1, p1, rfl⟩
      · rw [getn b1 rfl]; simp [one _ _ _ _ p2 h2]
      · rw [getv b1 hx1 hy1]; simp [one _ _ _ _ p1 h1, one _ _ _ _ p2 h2]
  · rw [getv b3 hx3 hy3]
    rcases bound_run e2 with ⟨rfl, rfl⟩ | ⟨y2, k2, i2, hx2, hy2, p2, rfl⟩
    · exact absurd rfl (hmx (by rw [hx3]; simp))
    · rw [getv b2 hx2 hy2]
      rcases bound_run e1 with ⟨rfl, rfl⟩ | ⟨y1, k1, i1, hx1, hy1, p1, rfl⟩
      · rw [getn b1 rfl]; simp [one _ _ _ _ p2 h2, one _ _ _ _ p3 h3]
      · rw [getv b1 hx1 hy1]; simp [one _ _ _ _ p1 h1, one _ _ _ _ p2 h2, one _ _ _ _ p3 h3]

/-- The part of a slice of values that stay. -/
theorem pvr_sub {es : List (List AV)} {a : Option Addr} {b o z l hh m : Nat} {cap' : Option Nat} (h3 : es ≠ [] → a = some ⟨b, o, none⟩ ∧ S b)
    (h4 : ∀ (i : Nat) (e : List AV), es[i]? = some e → e.length = z)
    (h5 : ∀ (i : Nat) (e : List AV) (j : Nat) (x : AV), es[i]? = some e → e[j]? = some x → x.isCell = true ∧ ∃ u, w.cell? ⟨b, o + i * z + j, none⟩ = some u ∧ PVR S w x u)
    (h1 : l ≤ hh) (h2 : hh ≤ m) (hl : hh ≤ es.length) (sz : Nat) (hsz : (sz = z ∨ es = []) ∧ sz ≠ 0) (hz : z = 0 ↔ a = none) (hc : ∀ k, cap' = some k → m - l = k) :
    PVR S w (.vsl (if z = 0 then 0 else sz) ((es.take hh).drop l) cap') (.slice (if m = l then a else a.map (·.add (l * sz))) (hh - l) (m - l)) := by
  have hlen : ((es.take hh).drop l).length = hh - l := by simp; omega
  by_cases hne : (es.take hh).drop l = []
  · have e0 : hh - l = 0 := by rw [← hlen, hne]; rfl
    rw [hne, e0]
    refine pvr_empty S w _ _ _ _ hc ?_
    by_cases hz0 : z = 0
    · rw [if_pos hz0, hz.1 hz0]; simp
    · rw [if_neg hz0]
      have : a ≠ none := fun h => hz0 (hz.2 h)
      obtain ⟨x, rfl⟩ := Option.ne_none_iff_exists'.1 this
      simp [hsz.2]; split <;> simp
  · have hes : es ≠ [] := by rintro rfl; simp at hne
    obtain ⟨rfl, hb⟩ := h3 hes
    have hpos : 0 < hh - l := by rw [← hlen]; exact List.length_pos_iff.2 hne
    have hml : m ≠ l := by omega
    rw [if_neg hml, ← hlen]
    have hget : ∀ i e, ((es.take hh).drop l)[i]? = some e → es[l + i]? = some e := by
      intro i e hi
      rw [List.getElem?_drop, List.getElem?_take] at hi
      split at hi
      · exact hi
      · cases hi
    have hs := hsz.1.resolve_right hes; subst hs
    rw [if_neg hsz.2]
    refine pvr_vsl (b := b) (o := o + l * sz) (z := sz) hc (by omega) (fun _ => ⟨by simp [addr_add], hb⟩) (fun i e hi => h4 _ e (hget i e hi)) (fun i e j x hi hj => ?_) (by simp [hsz.2])
    have := h5 (l + i) e j x (hget i e hi) hj
    rw [show o + l * sz + i * sz + j = o + (l + i) * sz + j by rw [Nat.add_mul]; omega]
    exact this

theorem chunks_length (z : Nat) : ∀ (n : Nat) (cs : List AV), (chunks z n cs).length = n
  | 0, _ => rfl
  | n + 1, cs => by simp [chunks, chunks_length z n]
theorem chunks_get {z : Nat} : ∀ {n : Nat} {cs : List AV} {i : Nat} {e : List AV}, (chunks z n cs)[i]? = some e → i < n ∧ e = (cs.drop (i * z)).take z
  | 0, cs, i, e, h => by simp [chunks] at h
  | n + 1, cs, 0, e, h => by simp [chunks] at h; exact ⟨by omega, by simp [h]⟩
  | n + 1, cs, i + 1, e, h => by
    simp only [chunks, List.getElem?_cons_succ] at h
    obtain ⟨h1, h2⟩ := chunks_get h
    exact ⟨by omega, by rw [h2, List.drop_drop, Nat.succ_mul, Nat.add_comm]⟩

/-- What is sliced, by its type. -/
def skOf (P : Program) (t : TypeId) : Option Sk :=
  match P.underlying t with
  | some .string => some .str
  | some (.slice e) => if (P.info? e).isSome then some (.slice (P.cellsOf e)) else none
  | some (.array m e) => if (P.info? e).isSome then some (.array m (P.cellsOf e)) else none
  | some (.pointer arr) => match P.underlying arr with
    | some (.array m e) => if (P.info? e).isSome then some (.array m (P.cellsOf e)) else none
    | _ => none
  | _ => none

theorem run_sizeOf_cells {e : TypeId} (hi : (P.info? e).isSome) : (sizeOf e).run P w = .ok (P.cellsOf e) w := by
  obtain ⟨i, hi⟩ := Option.isSome_iff_exists.1 hi
  simp [sizeOf, typeInfo, hi, Program.cellsOf]

theorem avr_sub {id off l hh m z c : Nat} {cap' : Option Nat} {b o : Nat} {arr : Array Value} {ty : TypeId} {fz : Nat × Nat} (h1 : ρ id = some (b, o)) (h2 : w.heap[b]? = some (.cells arr ty fz))
    (h4 : cap' = none → o + off + c * z = arr.size ∧ m = c) (h5 : o + off + c * z ≤ arr.size) (e1 : l ≤ hh) (e2 : hh ≤ m) (e3 : m ≤ c) (hc : ∀ k, cap' = some k → m - l = k) (hz0 : z ≠ 0) :
    AVR ρ S w (if l = hh ∧ l ≠ 0 then .vsl z [] cap' else .sl id (off + l * z) (hh - l) cap' z) (.slice (some (if m = l then ⟨b, o + off, none⟩ else (⟨b, o + off, none⟩ : Addr).add (l * z))) (hh - l) (m - l)) := by
  have hmul : l * z + (m - l) * z = m * z := by rw [← Nat.add_mul]; congr 1; omega
  have hmc : m * z ≤ c * z := Nat.mul_le_mul_right _ e3
  by_cases hz : l = hh ∧ l ≠ 0
  · rw [if_pos hz]
    have : hh - l = 0 := by omega
    rw [this]
    exact .pv _ _ (pvr_empty S w _ _ _ _ hc (by simp [hz0]))
  · rw [if_neg hz]
    have key : AVR ρ S w (.sl id (off + l * z) (hh - l) cap' z) (.slice (some ⟨b, o + (off + l * z), none⟩) (hh - l) (m - l)) :=
      .sl id (off + l * z) (hh - l) cap' z b o (m - l) arr ty fz h1 h2 hc (fun hn => by
        obtain ⟨q1, q2⟩ := h4 hn
        rw [q2] at hmul ⊢
        omega) (by omega) (by omega)
    by_cases hml : m = l
    · have hl0 : l = 0 := by omega
      rw [if_pos hml, hl0]
      rw [hl0] at key
      simpa using key
    · rw [if_neg hml, addr_add, Nat.add_assoc]
      exact key

theorem snd_slice (r : RelH ρ S h w) {t : TypeId} {s : Sk} {a x : AV} {u : Value} {lo hi mx : Option AOpd} {vl vh vm : Option Value} {sl : Nat → AV} (hs : skOf P t = some s) (ha : AVR ρ S w a u)
    (b1 : Bnd ρ S w sl lo vl) (b2 : Bnd ρ S w sl hi vh) (b3 : Bnd ρ S w sl mx vm) (hmx : mx ≠ none → hi ≠ none) (he : sliceOf h s a lo hi mx sl = some x) :
    ∃ z, (Instr.sliceAt t u vl vh vm).run P w = .ok z w ∧ AVR ρ S w x z := by
  have arrCase : ∀ (m : Nat) (e : TypeId), (P.info? e).isSome → s = .array m (P.cellsOf e) → (∀ b o, u = .pointer (some ⟨b, o, none⟩) → ∀ l hh mm, (Instr.sliceBounds false m m vl vh vm).run P w = .ok (l, hh, mm) w →
      (Instr.sliceAt t u vl vh vm).run P w = .ok (.slice (some (if mm = l then ⟨b, o, none⟩ else (⟨b, o, none⟩ : Addr).add (l * P.cellsOf e))) (hh - l) (mm - l)) w) → ∃ z, (Instr.sliceAt t u vl vh vm).run P w = .ok z w ∧ AVR ρ S w x z := by
    rintro m e hi' rfl hrun
    cases a <;> simp only [sliceOf, reduceCtorEq] at he
    · rename_i id off
      obtain ⟨b, o, rfl, f1⟩ := avr_ptr ha
      split at he
      · rename_i l hh e1 e2
        have vmn : vm = none := by cases vm with
          | none => rfl
          | some u => simp [Bnd] at b3
        subst vmn
        split at he
        · rename_i cs ro hx
          split at he
          · rename_i hb
            obtain ⟨hz0, hb1, hb2, hb3⟩ := hb
            injection he with he; subst he
            have hr := run_sliceBounds (P := P) (isSlice := false) (cap := m) (m := m) b1 b2 (mx := none) (vm := none) (by simp [Bnd]) e1 e2 (by simp [bound]) (by simp) hb1 hb2 (Nat.le_refl _)
            obtain ⟨b', o', arr, ty, fz, g1, g2, hle, g3, _⟩ := r.live id _ hx
            rw [f1] at g1; injection g1 with g1; injection g1 with g1 g1'; subst g1; subst g1'
            exact ⟨_, hrun _ _ rfl _ _ _ hr, avr_sub f1 g2 (fun hn => by simp at hn) (by omega) hb1 hb2 (Nat.le_refl _) (fun k hk => by injection hk) hz0⟩
          · cases he
        · cases he
      · cases he
    · rename_i cs
      obtain ⟨b, o, rfl, hb, f1⟩ := avr_vptr ha
      split at he
      · rename_i l hh e1 e2
        have vmn : vm = none := by cases vm with
          | none => rfl
          | some u => simp [Bnd] at b3
        subst vmn
        split at he
        · rename_i hbb
          obtain ⟨hz0, hb1, hb2, hb3⟩ := hbb
          injection he with he; subst he
          have hr := run_sliceBounds (P := P) (isSlice := false) (cap := m) (m := m) b1 b2 (mx := none) (vm := none) (by simp [Bnd]) e1 e2 (by simp [bound]) (by simp) hb1 hb2 (Nat.le_refl _)
          refine ⟨_, hrun _ _ rfl _ _ _ hr, .pv _ _ ?_⟩
          have := pvr_sub (S := S) (w := w) (es := chunks (P.cellsOf e) m cs) (a := some ⟨b, o, none⟩) (b := b) (o := o) (z := P.cellsOf e) (m := m) (cap' := some (m - l)) (fun _ => ⟨rfl, hb⟩) (fun i e' hi => ?_) (fun i e' j x hi hj => ?_) hb1 hb2 (by rw [chunks_length]; exact hb2) (P.cellsOf e) ⟨.inl rfl, hz0⟩ (by simp [hz0]) (fun k hk => by injection hk)
          · rw [if_neg hz0] at this
            by_cases hml : m = l
            · rw [if_pos hml] at this ⊢; exact this
            · rw [if_neg hml] at this ⊢; exact this
          · obtain ⟨h1, rfl⟩ := chunks_get hi
            have : (i + 1) * P.cellsOf e ≤ m * P.cellsOf e := Nat.mul_le_mul_right _ h1
            rw [Nat.succ_mul] at this
            simp; omega
          · obtain ⟨h1, rfl⟩ := chunks_get hi
            rw [List.getElem?_take] at hj
            split at hj
            · rw [List.getElem?_drop] at hj
              have := f1 _ x hj
              rw [← Nat.add_assoc] at this
              exact this
            · cases hj
        · cases he
      · cases he
  unfold skOf at hs
  cases hu : P.underlying t with
  | none => simp [hu] at hs
  | some d =>
    cases d <;> simp only [hu, reduceCtorEq] at hs
    case string =>
      injection hs with hs; subst hs
      cases a <;> simp only [sliceOf, reduceCtorEq] at he
      rename_i s
      rw [avr_str ha]
      split at he
      · rename_i l hh e1 e2
        split at he
        · rename_i hb
          injection he with he; subst he
          have vmn : vm = none := by cases vm with
            | none => rfl
            | some u => simp [Bnd] at b3
          subst vmn
          have hr := run_sliceBounds (P := P) (isSlice := false) (cap := s.size) (m := s.size) b1 b2 (mx := none) (vm := none) (by simp [Bnd]) e1 e2 (by simp [bound]) (by simp) hb.1 hb.2 (Nat.le_refl _)
          refine ⟨_, ?_, .str _⟩
          unfold Instr.sliceAt Instr.slice
          simp [underlying, hu, hr]
        · cases he
      · cases he
    case slice e =>
      split at hs
      · rename_i hi'
        injection hs with hs; subst hs
        have hsz := run_sizeOf_cells (P := P) (w := w) hi'
        cases a <;> simp only [sliceOf, reduceCtorEq] at he
        · rename_i id off len cap z'
          obtain ⟨b, o, c, arr, ty, fz, rfl, f1, f2, f3, f4, f5, f6⟩ := avr_sl ha
          have hcap : cap.getD len ≤ c := by cases cap with
            | none => exact f6
            | some k => have := f3 k rfl; subst this; exact Nat.le_refl _
          have run : ∀ l hh m, (Instr.sliceBounds true len c vl vh vm).run P w = .ok (l, hh, m) w → (Instr.sliceAt t (.slice (some ⟨b, o + off, none⟩) len c) vl vh vm).run P w =
              .ok (.slice (some (if m = l then ⟨b, o + off, none⟩ else (⟨b, o + off, none⟩ : Addr).add (l * P.cellsOf e))) (hh - l) (m - l)) w := by
            intro l hh m hr
            unfold Instr.sliceAt Instr.slice
            simp only [Sem.run_bind, run_underlying hu, Result.andThen_ok, hr, hsz, Sem.run_pure]
            split <;> simp [*]
          split at he
          · rename_i l hh e1 e2
            split at he
            · rename_i hb
              obtain ⟨⟨rfl, hz0⟩, hb1, hb2⟩ := hb
              injection he with he; subst he
              have vmn : vm = none := by cases vm with
                | none => rfl
                | some u => simp [Bnd] at b3
              subst vmn
              have hr := run_sliceBounds (P := P) (isSlice := true) (cap := c) (m := c) b1 b2 (mx := none) (vm := none) (by simp [Bnd]) e1 e2 (by simp [bound]) (by simp) hb1 (by omega) (Nat.le_refl _)
              refine ⟨_, run _ _ _ hr, avr_sub f1 f2 (fun hn => ?_) f5 hb1 (by omega) (Nat.le_refl _) (fun k hk => ?_) hz0⟩
              · cases cap with
                | none => exact ⟨f4 rfl, rfl⟩
                | some _ => simp at hn
              · cases cap with
                | none => simp at hk
                | some q => simp at hk; have := f3 q rfl; omega
            · cases he
          · rename_i l hh mm e1 e2
            split at he
            · rename_i m e3
              split at he
              · rename_i hb
                obtain ⟨⟨rfl, hz0⟩, hb1, hb2, hb3⟩ := hb
                injection he with he; subst he
                have hr := run_sliceBounds (P := P) (isSlice := true) (cap := c) (m := m) b1 b2 b3 e1 e2 (by simpa [bound] using e3) hmx hb1 hb2 (by omega)
                exact ⟨_, run _ _ _ hr, avr_sub f1 f2 (fun hn => by simp at hn) f5 hb1 hb2 (by omega) (fun k hk => by injection hk) hz0⟩
              · cases he
            · cases he
          · cases he
        · rename_i z es cap
          obtain ⟨a0, c, b, o, rfl, f1, f2, f3, f4, f5⟩ := avr_vsl ha
          have run : ∀ l hh m, (Instr.sliceBounds true es.length c vl vh vm).run P w = .ok (l, hh, m) w → (Instr.sliceAt t (.slice a0 es.length c) vl vh vm).run P w =
              .ok (.slice (if m = l then a0 else a0.map (·.add (l * P.cellsOf e))) (hh - l) (m - l)) w := by
            intro l hh m hr
            unfold Instr.sliceAt Instr.slice
            simp only [Sem.run_bind, run_underlying hu, Result.andThen_ok, hr, hsz, Sem.run_pure]
          split at he
          · rename_i l hh e1 e2
            split at he
            · rename_i hb
              obtain ⟨hz, hb1, hb2⟩ := hb
              injection he with he; subst he
              have vmn : vm = none := by cases vm with
                | none => rfl
                | some u => simp [Bnd] at b3
              subst vmn
              have hr := run_sliceBounds (P := P) (isSlice := true) (cap := c) (m := c) b1 b2 (mx := none) (vm := none) (by simp [Bnd]) e1 e2 (by simp [bound]) (by simp) hb1 (by omega) (Nat.le_refl _)
              refine ⟨_, run _ _ _ hr, .pv _ _ (pvr_sub f3 f4 f5 hb1 (by omega) hb2 _ hz (avr_vsl_z ha) (fun k hk => ?_))⟩
              cases cap with
              | none => simp at hk
              | some q => simp at hk; have := f1 q rfl; omega
            · cases he
          · rename_i l hh mm e1 e2
            split at he
            · rename_i m e3
              split at he
              · rename_i hb
                obtain ⟨hz, hb1, hb2, hb3, hb4⟩ := hb
                injection he with he; subst he
                have hcap : cap.getD es.length ≤ c := by cases cap with
                  | none => exact f2
                  | some k => have := f1 k rfl; subst this; exact Nat.le_refl _
                have hr := run_sliceBounds (P := P) (isSlice := true) (cap := c) (m := m) b1 b2 b3 e1 e2 (by simpa [bound] using e3) hmx hb1 hb2 (by omega)
                exact ⟨_, run _ _ _ hr, .pv _ _ (pvr_sub f3 f4 f5 hb1 hb2 hb3 _ hz (avr_vsl_z ha) (fun k hk => by injection hk))⟩
              · cases he
            · cases he
          · cases he
      · cases hs
    case array m e =>
      split at hs
      · rename_i hi'
        injection hs with hs
        refine arrCase m e hi' hs.symm ?_
        rintro b o rfl l hh mm hr
        unfold Instr.sliceAt
        simp only [Sem.run_bind, run_underlying hu, Result.andThen_ok, Instr.sureAddr, Sem.run_pure, hr, run_sizeOf_cells (P := P) (w := w) hi']
      · cases hs
    case pointer arr =>
      cases hu2 : P.underlying arr with
      | none => simp [hu2] at hs
      | some d2 =>
        cases d2 <;> simp only [hu2, reduceCtorEq] at hs
        rename_i m e
        split at hs
        · rename_i hi'
          injection hs with hs
          refine arrCase m e hi' hs.symm ?_
          rintro b o rfl l hh mm hr
          unfold Instr.sliceAt Instr.slice
          simp only [Sem.run_bind, run_underlying hu, run_underlying hu2, Result.andThen_ok, asAddr, Sem.run_pure, hr, run_sizeOf_cells (P := P) (w := w) hi']
        · cases hs
end
end Go.Fw
