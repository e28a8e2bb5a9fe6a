/- What comes in, read as views, with its type. -/
import Derived.Test.YtbhickepoifepaaDoorFwB2
import Derived.OpenShut
set_option linter.unusedSimpArgs false
set_option linter.unusedVariables false
namespace Go.Fw.Sy

/-- Cells of a type. -/
inductive VT (P : Program) : TypeId → List AV → Prop
  | bool {t : TypeId} (ht : P.underlying t = some .bool) (b : Bool) : VT P t [.bool b]
  | int {t : TypeId} {k : IntKind} (ht : P.underlying t = some (.int k)) (n : Int) (hn : (Lit.int k n).wf = true) : VT P t [.int k n]
  | str {t : TypeId} (ht : P.underlying t = some .string) (s : ByteArray) (hs : s.size ≤ maxLen) : VT P t [.str s]
  | slice {t e : TypeId} (ht : P.underlying t = some (.slice e)) (es : List (List AV)) (c : Nat) (h1 : es.length ≤ c) (h2 : c ≤ maxLen) (h3 : ∀ (i : Nat) (x : List AV), es[i]? = some x → VT P e x) : VT P t [.vsl (P.cellsOf e) es (some c)]
  | struct {t : TypeId} {fs : Array Field} (ht : P.underlying t = some (.struct fs)) (cs : List AV) (hl : cs.length = P.cellsOf t) (hf : ∀ (i : Nat) (f : Field), fs.toList[i]? = some f → VT P f.type ((cs.drop f.offset).take (P.cellsOf f.type))) : VT P t cs
  | array {t e : TypeId} {n : Nat} (ht : P.underlying t = some (.array n e)) (cs : List AV) (hl : cs.length = P.cellsOf t) (hf : ∀ i, i < n → VT P e ((cs.drop (i * P.cellsOf e)).take (P.cellsOf e))) : VT P t cs

/-- Consecutive fields. -/
def tiles (P : Program) : Nat → List Field → Nat → Bool
  | o, [], n => o == n
  | o, f :: r, n => f.offset == o && tiles P (o + P.cellsOf f.type) r n

/-- Plain data. -/
def plainT (P : Program) : Nat → TypeId → Bool
  | 0, _ => false
  | f + 1, t => match P.underlying t with
    | some .bool | some (.int _) | some .string => true
    | some (.slice e) => plainT P f e && !(P.cellsOf e == 0)
    | some (.struct fs) => tiles P 0 fs.toList (P.cellsOf t) && fs.toList.all fun x => plainT P f x.type
    | some (.array n e) => (P.cellsOf t == n * P.cellsOf e) && plainT P f e
    | _ => false

def Rl (w : World) (l : List AV) (cs : List Value) : Prop := l.length = cs.length ∧ ∀ (i : Nat) (c : AV) (v : Value), l[i]? = some c → cs[i]? = some v → c.isCell = true ∧ PVR (allS w) w c v

theorem Rl.append {w : World} {l m : List AV} {cs ds : List Value} (h : Rl w l cs) (h' : Rl w m ds) : Rl w (l ++ m) (cs ++ ds) := by
  refine ⟨by simp [h.1, h'.1], fun i c v h1 h2 => ?_⟩
  rcases Nat.lt_or_ge i l.length with hi | hi
  · rw [List.getElem?_append_left hi] at h1
    rw [List.getElem?_append_left (by rw [← h.1]; exact hi)] at h2
    exact h.2 i c v h1 h2
  · rw [List.getElem?_append_right hi] at h1
    rw [List.getElem?_append_right (by rw [← h.1]; exact hi), ← h.1] at h2
    exact h'.2 _ c v h1 h2
theorem Rl.one {w : World} {c : AV} {v : Value} (h1 : c.isCell = true) (h2 : PVR (allS w) w c v) : Rl w [c] [v] :=
  ⟨rfl, fun i c' v' e1 e2 => by
    cases i with
    | zero => simp at e1 e2; subst e1; subst e2; exact ⟨h1, h2⟩
    | succ i => simp at e1⟩

theorem mapM_get {α β : Type} {f : α → Option β} : ∀ {l : List α} {ys : List β}, l.mapM f = some ys → ys.length = l.length ∧ ∀ (i : Nat) (a : α), l[i]? = some a → ∃ y, ys[i]? = some y ∧ f a = some y
  | [], ys, h => by simp at h; subst h; exact ⟨rfl, fun i a h => by simp at h⟩
  | x :: l, ys, h => by
    simp only [List.mapM_cons, Option.bind_eq_bind, Option.bind_eq_some_iff, Option.pure_def, Option.some.injEq] at h
    obtain ⟨y, hy, zs, hz, rfl⟩ := h
    obtain ⟨k1, k2⟩ := mapM_get hz
    refine ⟨by simp [k1], fun i a ha => ?_⟩
    cases i with
    | zero => simp at ha; subst ha; exact ⟨y, rfl, hy⟩
    | succ i => simpa using k2 i a (by simpa using ha)

section
variable {H : Type} {enc : TypeId × Value → H} {P : Program} {w : World} {base : Nat} {sp : Nat → Bool} {held : Bool}

theorem cells_get {a : Addr} {n : Nat} {cs : List Value} (h : w.cells? base a n = some cs) : cs.length = n ∧ ∀ i, i < n → ∃ v, cs[i]? = some v ∧ w.cell? (a.add i) = some v := by
  unfold World.cells? at h
  split at h
  · obtain ⟨k1, k2⟩ := mapM_get h
    refine ⟨by simpa using k1, fun i hi => ?_⟩
    obtain ⟨y, h1, h2⟩ := k2 i i (by simp [hi])
    exact ⟨y, h1, h2⟩
  · cases h

theorem cell_spot {a : Addr} {v : Value} (h : w.cell? a = some v) : a = ⟨a.block, a.off, none⟩ ∧ a.block < w.heap.size := by
  obtain ⟨b, o, s⟩ := a
  simp only [World.cell?] at h
  split at h
  · rename_i hx
    cases s with
    | none => exact ⟨rfl, (Array.getElem?_eq_some_iff.1 hx).1⟩
    | some k => simp at h
  · cases h

/-- Pieces set side by side. -/
theorem tiles_view {fs : List Field} {cs : List Value} : ∀ {o n : Nat}, tiles P o fs n = true → cs.length = n → o ≤ n → (∀ f ∈ fs, ∃ l, VT P f.type l ∧ Rl w l ((cs.drop f.offset).take (P.cellsOf f.type))) →
    ∃ l, Rl w l (cs.drop o) ∧ ∀ f ∈ fs, o ≤ f.offset ∧ VT P f.type ((l.drop (f.offset - o)).take (P.cellsOf f.type)) := by
  induction fs with
  | nil =>
    intro o n ht hl ho _
    simp only [tiles, beq_iff_eq] at ht
    subst ht
    refine ⟨[], ?_, fun f hf => by cases hf⟩
    rw [List.drop_of_length_le (by omega)]
    exact ⟨rfl, fun i c v h => by simp at h⟩
  | cons f r ih =>
    intro o n ht hl ho hf
    simp only [tiles, Bool.and_eq_true, beq_iff_eq] at ht
    obtain ⟨he, ht⟩ := ht
    have hle : o + P.cellsOf f.type ≤ n := by
      have : ∀ (r : List Field) (o n : Nat), tiles P o r n = true → o ≤ n := by
        intro r
        induction r with
        | nil => intro o n h; simp only [tiles, beq_iff_eq] at h; omega
        | cons g r ih => intro o n h; simp only [tiles, Bool.and_eq_true] at h; have := ih _ _ h.2; omega
      exact this r _ _ ht
    obtain ⟨l1, v1, r1⟩ := hf f List.mem_cons_self
    obtain ⟨l2, r2, v2⟩ := ih ht hl hle (fun g hg => hf g (List.mem_cons_of_mem _ hg))
    rw [he] at r1
    have hl1 : l1.length = P.cellsOf f.type := by
      rw [r1.1, List.length_take, List.length_drop]; omega
    refine ⟨l1 ++ l2, ?_, fun g hg => ?_⟩
    · have e : cs.drop o = (cs.drop o).take (P.cellsOf f.type) ++ cs.drop (o + P.cellsOf f.type) := by
        rw [← List.drop_drop]; exact (List.take_append_drop _ _).symm
      rw [e]; exact r1.append r2
    · rcases List.mem_cons.1 hg with rfl | hg
      · refine ⟨by omega, ?_⟩
        rw [he, Nat.sub_self, List.drop_zero, ← hl1, List.take_left']
        · exact v1
        · rfl
      · obtain ⟨k1, k2⟩ := v2 g hg
        refine ⟨by omega, ?_⟩
        have e : g.offset - o = l1.length + (g.offset - (o + P.cellsOf f.type)) := by omega
        rw [e, ← List.drop_drop, List.drop_left']
        · exact k2
        · rfl

theorem rows_view {cs : List Value} {z : Nat} {Q : List AV → Prop} : ∀ {n o : Nat}, cs.length = o + n * z → (∀ i, i < n → ∃ l, Q l ∧ Rl w l ((cs.drop (o + i * z)).take z)) →
    ∃ l, Rl w l (cs.drop o) ∧ ∀ i, i < n → Q ((l.drop (i * z)).take z) := by
  intro n
  induction n with
  | zero =>
    intro o hl _
    refine ⟨[], ?_, fun i hi => by omega⟩
    rw [List.drop_of_length_le (by omega)]
    exact ⟨rfl, fun i c v h => by simp at h⟩
  | succ n ih =>
    intro o hl hf
    rw [Nat.add_mul, Nat.one_mul] at hl
    obtain ⟨l1, v1, r1⟩ := hf 0 (by omega)
    obtain ⟨l2, r2, v2⟩ := ih (o := o + z) (by omega) (fun i hi => by
      have := hf (i + 1) (by omega)
      rw [Nat.add_mul, Nat.one_mul, show o + (i * z + z) = o + z + i * z by omega] at this
      exact this)
    rw [Nat.zero_mul, Nat.add_zero] at r1
    have hl1 : l1.length = z := by
      rw [r1.1, List.length_take, List.length_drop]; omega
    refine ⟨l1 ++ l2, ?_, fun i hi => ?_⟩
    · have e : cs.drop o = (cs.drop o).take z ++ cs.drop (o + z) := by
        rw [← List.drop_drop]; exact (List.take_append_drop _ _).symm
      rw [e]; exact r1.append r2
    · cases i with
      | zero =>
        rw [Nat.zero_mul, List.drop_zero, ← hl1, List.take_left']
        · exact v1
        · rfl
      | succ i =>
        have e : (i + 1) * z = l1.length + i * z := by rw [Nat.add_mul, hl1]; omega
        rw [e, ← List.drop_drop, List.drop_left']
        · exact v2 i (by omega)
        · rfl

theorem vt_len {t : TypeId} {l : List AV} {cs : List Value} (h : Rl w l cs) : l.length = cs.length := h.1

theorem trod_view : ∀ (g fuel : Nat) (t : TypeId) (cs : List Value) (x : DataW H × List MemPlace), plainT P g t = true → DataW.trod enc P w base sp held fuel t cs = some x → ∃ l, VT P t l ∧ Rl w l cs
  | 0, fuel, t, cs, x, hp, h => by simp [plainT] at hp
  | g + 1, fuel, t, cs, x, hp, h => by
    simp only [plainT] at hp
    cases hu : P.underlying t with
    | none => simp [hu] at hp
    | some d =>
      rw [hu] at hp
      cases d <;> simp only [Bool.false_eq_true] at hp
      case bool =>
        obtain ⟨b, rfl, _⟩ := DataW.trod_bool hu h
        exact ⟨[.bool b], .bool hu b, .one rfl (.bool b)⟩
      case int k =>
        obtain ⟨n, rfl, _, hn⟩ := DataW.trod_int hu h
        exact ⟨[.int k n], .int hu n hn, .one rfl (.int k n)⟩
      case string =>
        obtain ⟨s, rfl, _, hs⟩ := DataW.trod_string hu h
        exact ⟨[.str s], .str hu s hs, .one rfl (.str s)⟩
      case slice e =>
        simp only [Bool.and_eq_true, Bool.not_eq_true', beq_eq_false_iff_ne] at hp
        rcases DataW.trod_slice hu h with ⟨rfl, _⟩ | ⟨a, len, cap, elems, rest, n, _, rfl, _, _, h1, h2, h3, h4, _⟩
        · exact ⟨[.vsl (P.cellsOf e) [] (some 0)], .slice hu [] 0 (Nat.le_refl _) (by unfold maxLen; omega) (fun i x hx => by simp at hx), .one rfl (.vsl _ [] (some 0) none 0 0 0 0 (fun _ _ => Go.undef) rfl (fun k hk => (by injection hk)) (Nat.le_refl _) (fun h => absurd rfl h) (fun i e h => by simp at h) (fun i e j x h => by simp at h) (fun i e j x h => by simp at h))⟩
        · -- each element
          have hel : ∀ i, i < len → ∃ (l : List AV) (ds : List Value), VT P e l ∧ Rl w l ds ∧ w.cells? base (a.add (i * P.cellsOf e)) (P.cellsOf e) = some ds := by
            intro i hi
            have := h4 i hi
            rw [List.getElem?_eq_getElem (by omega : i < elems.length), Option.bind_eq_some_iff] at this
            obtain ⟨ds, hd1, hd2⟩ := this
            obtain ⟨l, hl1, hl2⟩ := trod_view g n e ds _ hp.1 hd2
            exact ⟨l, ds, hl1, hl2, hd1⟩
          let es : List (List AV) := (List.range len).map fun i => if hi : i < len then Classical.choose (hel i hi) else []
          have hes : ∀ (i : Nat) (x : List AV), es[i]? = some x → ∃ hi : i < len, x = Classical.choose (hel i hi) := by
            intro i x hx
            have hi : i < len := by
              have := (List.getElem?_eq_some_iff.1 hx).1
              simpa [es] using this
            refine ⟨hi, ?_⟩
            simp only [es, List.getElem?_map, List.getElem?_range hi, Option.map_some, hi, dif_pos, Option.some.injEq] at hx
            exact hx.symm
          have hlen : es.length = len := by simp [es]
          have hsp : len ≠ 0 → a = ⟨a.block, a.off, none⟩ ∧ a.block < w.heap.size := by
            intro h0
            obtain ⟨ds, _, _, hd⟩ := Classical.choose_spec (hel 0 (by omega))
            obtain ⟨k1, k2⟩ := cells_get hd
            obtain ⟨v, _, hv⟩ := k2 0 (by omega)
            have : (a.add (0 * P.cellsOf e)).add 0 = a := by simp [Addr.add]
            rw [this] at hv
            exact cell_spot hv
          have hcell : ∀ i (hi : i < len) j, j < P.cellsOf e → ∀ x v, (Classical.choose (hel i hi))[j]? = some x → w.cell? ⟨a.block, a.off + i * P.cellsOf e + j, none⟩ = some v → x.isCell = true ∧ PVR (allS w) w x v := by
            intro i hi j hj x v hx hv
            obtain ⟨ds, _, hr, hd⟩ := Classical.choose_spec (hel i hi)
            obtain ⟨k1, k2⟩ := cells_get hd
            obtain ⟨v', hv1, hv2⟩ := k2 j hj
            have ha := (hsp (by omega)).1
            rw [ha, addr_add, addr_add] at hv2
            rw [hv2] at hv; injection hv with hv; subst hv
            exact hr.2 j x v' hx hv1
          have hex : ∀ i, i < len → ∀ j, j < P.cellsOf e → ∃ v, w.cell? ⟨a.block, a.off + i * P.cellsOf e + j, none⟩ = some v := by
            intro i hi j hj
            obtain ⟨ds, _, hr, hd⟩ := Classical.choose_spec (hel i hi)
            obtain ⟨k1, k2⟩ := cells_get hd
            obtain ⟨v', hv1, hv2⟩ := k2 j hj
            have ha := (hsp (by omega)).1
            rw [ha, addr_add, addr_add] at hv2
            exact ⟨v', hv2⟩
          have hz : ∀ (i : Nat) (x : List AV), es[i]? = some x → x.length = P.cellsOf e := by
            intro i x hx
            obtain ⟨hi, rfl⟩ := hes i x hx
            obtain ⟨ds, _, hr, hd⟩ := Classical.choose_spec (hel i hi)
            rw [hr.1]; exact (cells_get hd).1
          refine ⟨[.vsl (P.cellsOf e) es (some cap)], .slice hu es cap (by omega) h2 (fun i x hx => ?_), .one rfl ?_⟩
          · obtain ⟨hi, rfl⟩ := hes i x hx
            obtain ⟨ds, hv, _, _⟩ := Classical.choose_spec (hel i hi)
            exact hv
          · refine .vsl _ es (some cap) (some a) len cap a.block a.off (fun i j => (w.cell? ⟨a.block, a.off + i * P.cellsOf e + j, none⟩).getD Go.undef) hlen.symm (fun k hk => by injection hk) (by omega) (fun hne => ?_) hz (fun i x j y hx hy => ?_) (fun i x j y hx hy => ?_)
            · have : len ≠ 0 := by
                intro h0
                apply hne
                rw [h0] at hlen
                exact List.eq_nil_of_length_eq_zero hlen
              obtain ⟨k1, k2⟩ := hsp this
              exact ⟨by rw [k1], k2⟩
            · have hj : j < P.cellsOf e := by
                have := (List.getElem?_eq_some_iff.1 hy).1
                rw [hz i x hx] at this; exact this
              obtain ⟨hi, rfl⟩ := hes i x hx
              obtain ⟨v, hv⟩ := hex i hi j hj
              rw [hv]
              exact ⟨(hcell i hi j hj y v hy hv).1, rfl⟩
            · have hj : j < P.cellsOf e := by
                have := (List.getElem?_eq_some_iff.1 hy).1
                rw [hz i x hx] at this; exact this
              obtain ⟨hi, rfl⟩ := hes i x hx
              obtain ⟨v, hv⟩ := hex i hi j hj
              rw [hv]
              exact (hcell i hi j hj y v hy hv).2
      case struct fs =>
        simp only [Bool.and_eq_true, List.all_eq_true] at hp
        obtain ⟨xs, n, _, _, hl, hlen, hf⟩ := DataW.trod_struct hu h
        have hfs : ∀ f ∈ fs.toList, ∃ l, VT P f.type l ∧ Rl w l ((cs.drop f.offset).take (P.cellsOf f.type)) := by
          intro f hmem
          obtain ⟨i, hi, he⟩ := List.getElem_of_mem hmem
          have hi' : i < fs.size := by simpa using hi
          have hfi : fs[i]? = some f := by rw [Array.getElem?_eq_getElem hi']; simpa using he
          have := hf i f hfi
          rw [List.getElem?_eq_getElem (by omega : i < xs.length)] at this
          exact trod_view g n f.type _ _ (hp.2 f hmem) this
        obtain ⟨l, hr, hv⟩ := tiles_view hp.1 hl (Nat.zero_le _) hfs
        rw [List.drop_zero] at hr
        refine ⟨l, .struct hu l (by rw [hr.1]; exact hl) fun i f hif => ?_, hr⟩
        have := (hv f (List.mem_of_getElem? hif)).2
        rw [Nat.sub_zero] at this; exact this
      case array n e =>
        simp only [Bool.and_eq_true, beq_iff_eq] at hp
        obtain ⟨xs, m, _, _, hl, hlen, hf⟩ := DataW.trod_array hu h
        have hfs : ∀ i, i < n → ∃ l, VT P e l ∧ Rl w l ((cs.drop (0 + i * P.cellsOf e)).take (P.cellsOf e)) := by
          intro i hi
          have := hf i hi
          rw [List.getElem?_eq_getElem (by omega : i < xs.length)] at this
          rw [Nat.zero_add]
          exact trod_view g m e _ _ hp.2 this
        obtain ⟨l, hr, hv⟩ := rows_view (o := 0) (by rw [hl, hp.1, Nat.zero_add]) hfs
        rw [List.drop_zero] at hr
        exact ⟨l, .array hu l (by rw [hr.1]; exact hl) hv, hr⟩

/-- An argument: one cell, or an aggregate. -/
theorem arg_view {g : Nat} {t : TypeId} {v : Value} {d : DataW H} {ps : List MemPlace} (hp : plainT P g t = true) (h : DataW.Trod enc P w base sp held t v d ps) : ∃ l, VT P t l ∧ Rl w l v.cells.toList := by
  obtain ⟨fuel, h⟩ := h
  exact trod_view g fuel t _ _ hp h
theorem arg_agg {l : List AV} {xs : Array Value} (h : Rl w l (Value.agg xs).cells.toList) : PVR (allS w) w (.agg l) (.agg xs) := by
  have h' : Rl w l xs.toList := h
  have := PVR.agg (S := allS w) (w := w) l xs.toList h'.1 (fun i c hc => by
    have hi : i < xs.toList.length := by rw [← h'.1]; exact (List.getElem?_eq_some_iff.1 hc).1
    exact (h'.2 i c _ hc (List.getElem?_eq_getElem hi)).1) (fun i c v h1 h2 => (h'.2 i c v h1 h2).2)
  simpa using this
end
end Go.Fw.Sy
