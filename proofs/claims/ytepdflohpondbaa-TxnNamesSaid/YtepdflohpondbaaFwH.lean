/- What makes and writes memory. -/
import Derived.Test.YtepdflohpondbaaFwG
set_option linter.unusedSimpArgs false
set_option linter.unusedVariables false
namespace Go.Fw
section
variable {P : Program} {ρ : Nat → Option (Nat × Nat)} {S : Nat → Prop} {h : AHeap} {w : World} {n : Nat}

/-- Cells and their values. -/
structure CR (ρ : Nat → Option (Nat × Nat)) (S : Nat → Prop) (w : World) (cs : List AV) (xs : List Value) : Prop where
  len : cs.length = xs.length
  one : ∀ (i : Nat) (c : AV), cs[i]? = some c → c.isCell = true
  rel : ∀ (i : Nat) (c : AV) (x : Value), cs[i]? = some c → xs[i]? = some x → AVR ρ S w c x

theorem CR.nil : CR ρ S w [] [] := ⟨rfl, fun i c h => by simp at h, fun i c x h => by simp at h⟩
theorem CR.append {cs ds : List AV} {xs ys : List Value} (a : CR ρ S w cs xs) (b : CR ρ S w ds ys) : CR ρ S w (cs ++ ds) (xs ++ ys) := by
  refine ⟨by simp [a.len, b.len], fun i c hi => ?_, fun i c x hi hx => ?_⟩
  · rw [List.getElem?_append] at hi
    split at hi
    · exact a.one i c hi
    · exact b.one _ c hi
  · rw [List.getElem?_append] at hi hx
    rw [← a.len] at hx
    split at hi
    · rename_i hl; rw [if_pos hl] at hx; exact a.rel i c x hi hx
    · rename_i hl; rw [if_neg hl] at hx; exact b.rel _ c x hi hx
theorem CR.take {cs : List AV} {xs : List Value} (a : CR ρ S w cs xs) (k : Nat) : CR ρ S w (cs.take k) (xs.take k) := by
  refine ⟨by simp [a.len], fun i c hi => ?_, fun i c x hi hx => ?_⟩
  · rw [List.getElem?_take] at hi; split at hi
    · exact a.one i c hi
    · cases hi
  · rw [List.getElem?_take] at hi hx; split at hi
    · rename_i hl; rw [if_pos hl] at hx; exact a.rel i c x hi hx
    · cases hi
theorem CR.drop {cs : List AV} {xs : List Value} (a : CR ρ S w cs xs) (k : Nat) : CR ρ S w (cs.drop k) (xs.drop k) := by
  refine ⟨by simp [a.len], fun i c hi => ?_, fun i c x hi hx => ?_⟩
  · rw [List.getElem?_drop] at hi; exact a.one _ c hi
  · rw [List.getElem?_drop] at hi hx; exact a.rel _ c x hi hx
theorem CR.ext {ρ' : Nat → Option (Nat × Nat)} {S' : Nat → Prop} {w' : World} {cs : List AV} {xs : List Value} (a : CR ρ S w cs xs) (he : Ext S w w') (hS : ∀ b, S b → S' b) (hρ : ∀ id x, ρ id = some x → ρ' id = some x) : CR ρ' S' w' cs xs :=
  ⟨a.len, a.one, fun i c x hi hx => (a.rel i c x hi hx).ext he hS hρ⟩
theorem CR.of_cells {b o : Nat} {cs : List AV} (hc : Cells ρ S w b o cs) : ∃ xs, CR ρ S w cs xs ∧ (∀ (j : Nat) v, xs[j]? = some v → w.cell? ((⟨b, o, none⟩ : Addr).add j) = some v) := by
  obtain ⟨xs, h1, h2, h3⟩ := hc.vals
  exact ⟨xs, ⟨h1, fun i c hi => (hc i c hi).1, h3⟩, h2⟩
theorem CR.oneCell {cs : List AV} {xs : List Value} (a : CR ρ S w cs xs) : ∀ v ∈ xs, v.oneCell' = true := by
  intro v hv
  obtain ⟨i, hi, rfl⟩ := List.mem_iff_getElem.1 hv
  have hl : i < cs.length := by rw [a.len]; exact hi
  exact (a.rel i cs[i] xs[i] (by simp [hl]) (by simp [hi])).oneCell (a.one i cs[i] (by simp [hl]))
theorem CR.agg {cs : List AV} {xs : List Value} (a : CR ρ S w cs xs) : AVR ρ S w (.agg cs) (.agg xs.toArray) := .agg cs xs a.len a.one a.rel
theorem CR.of_agg {cs : List AV} {v : Value} (hv : AVR ρ S w (.agg cs) v) : ∃ xs : List Value, v = .agg xs.toArray ∧ CR ρ S w cs xs := by
  obtain ⟨xs, rfl, h1, h2, h3⟩ := avr_agg hv
  exact ⟨xs, rfl, h1, h2, h3⟩
theorem CR.of_cellsOf {a : AV} {v : Value} {cs : List AV} (hv : AVR ρ S w a v) (hc : a.cellsOf = some cs) : ∃ xs : List Value, v.cells = xs.toArray ∧ CR ρ S w cs xs := by
  obtain ⟨xs, h0, h1, h2, h3⟩ := cellsOf_cells hv hc
  exact ⟨xs, h0, h1, h2, h3⟩

/-- A new row of cells. -/
theorem relB_new (r : RelH ρ S h w) (hn : ρ n = none) {cs : List AV} {xs : List Value} (hc : CR ρ S w cs xs) (extra : List Value) (ty : TypeId) :
    RelB (upd ρ n (some (w.heap.size, 0))) S (w.alloc (.cells (xs ++ extra).toArray ty)) n (.cells cs false) := by
  refine ⟨w.heap.size, 0, (xs ++ extra).toArray, ty, (0, 0), by simp, heap_alloc_self _ _, by simp [hc.len], fun i c hi => ⟨hc.one i c hi, ?_⟩, fun i _ => by simp, ?_⟩
  · have hl : i < xs.length := by rw [← hc.len]; exact (List.getElem?_eq_some_iff.1 hi).1
    refine ⟨xs[i], by simp [List.getElem?_append_left hl], (hc.rel i c xs[i] hi (by simp [hl])).ext (Ext.alloc r _) (fun _ h => h) (upd_some hn)⟩
  · simp only [Bool.false_eq_true, if_false]
    intro hs; have := r.bound _ hs; omega

theorem good_new (r : RelH ρ S h w) (hn : ρ n = none) {cs : List AV} {xs : List Value} (hc : CR ρ S w cs xs) (extra : List Value) (ty : TypeId) :
    Good ρ S h w n (.pointer (some ⟨w.heap.size, 0, none⟩)) (w.alloc (.cells (xs ++ extra).toArray ty)) (.ptr n 0) [(n, some (.cells cs false))] := by
  obtain ⟨r', d⟩ := r.new hn (.cells (xs ++ extra).toArray ty) (fun _ _ _ h => by injection h with _ _ h; exact h.symm) (.cells cs false) (relB_new r hn hc extra ty)
  exact ⟨_, S, .ptr n 0 w.heap.size 0 (by simp), r', d, fun id hid => upd_ne _ _ hid⟩

theorem good_newSl (r : RelH ρ S h w) (hn : ρ n = none) {cs : List AV} {xs : List Value} (hc : CR ρ S w cs xs) (extra : List Value) (ty : TypeId) (len c z : Nat) (cap : Option Nat) (h1 : ∀ k, cap = some k → c = k) (h2 : (xs ++ extra).length = c * z) (h3 : len ≤ c) :
    Good ρ S h w n (.slice (some ⟨w.heap.size, 0, none⟩) len c) (w.alloc (.cells (xs ++ extra).toArray ty)) (.sl n 0 len cap z) [(n, some (.cells cs false))] := by
  obtain ⟨r', d⟩ := r.new hn (.cells (xs ++ extra).toArray ty) (fun _ _ _ h => by injection h with _ _ h; exact h.symm) (.cells cs false) (relB_new r hn hc extra ty)
  refine ⟨_, S, .sl n 0 len cap z w.heap.size 0 c (xs ++ extra).toArray ty (0, 0) (by simp) (heap_alloc_self _ _) h1 (fun _ => ?_) ?_ h3, r', d, fun id hid => upd_ne _ _ hid⟩
  · rw [← h2]; simp
  · rw [← h2]; simp

/-- Constants. -/
def constAV : Value → Option AV
  | .bool b => some (.bool b)
  | .int k n => some (.int k n)
  | .string s => some (.str s)
  | .pointer none => some .nilptr
  | .slice none 0 0 => some (.vsl 0 [] (some 0))
  | .nilFunc => some .nilfunc
  | .nilIface => some .niliface
  | .map none => some .nilmap
  | _ => none
theorem constAV_rel {v : Value} {a : AV} (hc : constAV v = some a) : PVR S w a v ∧ a.isCell = true := by
  unfold constAV at hc
  split at hc <;> first | (cases hc; done) | (injection hc with hc; subst hc)
  · exact ⟨.bool _, rfl⟩
  · exact ⟨.int _ _, rfl⟩
  · exact ⟨.str _, rfl⟩
  · exact ⟨.nilptr, rfl⟩
  · exact ⟨pvr_empty S w _ _ _ _ (fun k hk => by injection hk) (by simp), rfl⟩
  · exact ⟨.nilfunc, rfl⟩
  · exact ⟨.niliface, rfl⟩
  · exact ⟨.nilmap, rfl⟩
theorem constAVs_rel : ∀ {vs : List Value} {as : List AV}, vs.mapM constAV = some as → CR ρ S w as vs
  | [], as, h => by simp at h; subst h; exact .nil
  | v :: vs, as, h => by
    rw [List.mapM_cons] at h
    simp only [bind, Option.bind_eq_some_iff, pure, Option.some.injEq] at h
    obtain ⟨a, h1, as', h2, rfl⟩ := h
    have ih := constAVs_rel h2
    obtain ⟨p, q⟩ := constAV_rel (S := S) (w := w) h1
    refine ⟨by simp [ih.len], fun i c hi => ?_, fun i c x hi hx => ?_⟩
    · cases i with
      | zero => simp at hi; subst hi; exact q
      | succ i => exact ih.one i c (by simpa using hi)
    · cases i with
      | zero => simp at hi hx; subst hi; subst hx; exact .pv _ _ p
      | succ i => exact ih.rel i c x (by simpa using hi) (by simpa using hx)

/-- A type's zero cells. -/
def zerosOf (P : Program) (t : TypeId) : Option (List AV) := match P.info? t with
  | some i => match i.zero with
    | some z => z.cells.toList.mapM constAV
    | none => none
  | none => none
theorem zerosOf_run {t : TypeId} {zs : List AV} (hz : zerosOf P t = some zs) : ∃ z, (zeroValue t).run P w = .ok z w ∧ CR ρ S w zs z.cells.toList := by
  unfold zerosOf at hz
  cases hi : P.info? t with
  | none => simp [hi] at hz
  | some i =>
    simp only [hi] at hz
    cases hzz : i.zero with
    | none => simp [hzz] at hz
    | some z =>
      simp only [hzz] at hz
      refine ⟨z, ?_, constAVs_rel hz⟩
      unfold zeroValue typeInfo
      simp [hi, hzz]

theorem snd_alloc (r : RelH ρ S h w) (hn : ρ n = none) {t : TypeId} {zs : List AV} (hz : zerosOf P t = some zs) : ∃ u w', (Instr.alloc t true (.tuple #[])).run P w = .ok u w' ∧ Good ρ S h w n u w' (.ptr n 0) [(n, some (.cells zs false))] := by
  obtain ⟨z, h1, h2⟩ := zerosOf_run (P := P) (ρ := ρ) (S := S) (w := w) hz
  refine ⟨_, _, ?_, good_new r hn h2 [] t⟩
  unfold Instr.alloc newVar newRow
  simp [h1]

theorem snd_box (r : RelH ρ S h w) (hn : ρ n = none) {t : TypeId} {a : AV} {u : Value} {cs : List AV} (ha : AVR ρ S w a u) (hc : a.cellsOf = some cs) :
    ∃ z w', (Instr.box t u).run P w = .ok z w' ∧ Good ρ S h w n z w' (.ptr n 0) [(n, some (.cells cs false))] := by
  obtain ⟨xs, h0, h1⟩ := CR.of_cellsOf ha hc
  refine ⟨_, _, ?_, good_new r hn h1 [] t⟩
  unfold Instr.box newVar newRow
  simp [h0]

/-! ### Parts -/
theorem foldl_set (off : Nat) : ∀ (vs : List Value) (j : Nat) (cs : Array Value), (vs.zipIdx j).foldl (fun cs (x : Value × Nat) => cs.setIfInBounds (off + x.2) x.1) cs = setList cs (off + j) vs
  | [], _, _ => rfl
  | v :: vs, j, cs => by
    rw [List.zipIdx_cons, List.foldl_cons, foldl_set off vs (j + 1)]
    rfl

theorem splice_len {cs xs : List AV} {off : Nat} (h : off + xs.length ≤ cs.length) : (splice cs off xs).length = cs.length := by
  simp [splice]; omega
theorem splice_get {cs xs : List AV} {off : Nat} (h : off + xs.length ≤ cs.length) (i : Nat) : (splice cs off xs)[i]? = if off ≤ i ∧ i < off + xs.length then xs[i - off]? else cs[i]? := by
  unfold splice
  rw [List.append_assoc, List.getElem?_append, List.length_take, Nat.min_eq_left (by omega)]
  by_cases h1 : i < off
  · rw [if_pos h1, if_neg (by omega), List.getElem?_take, if_pos h1]
  · rw [if_neg h1, List.getElem?_append]
    by_cases h2 : i < off + xs.length
    · rw [if_pos (by omega), if_pos (by omega)]
    · rw [if_neg (by omega), if_neg (by omega), List.getElem?_drop]
      congr 1
      omega

theorem CR.set {cs ds : List AV} {arr : Array Value} {ys : List Value} {off : Nat} (a : CR ρ S w cs arr.toList) (b : CR ρ S w ds ys) (h : off + ds.length ≤ cs.length) : CR ρ S w (splice cs off ds) (setList arr off ys).toList := by
  refine ⟨by rw [splice_len h, a.len]; simp [setList_size], fun i c hi => ?_, fun i c x hi hx => ?_⟩
  · rw [splice_get h] at hi
    split at hi
    · exact b.one _ c hi
    · exact a.one _ c hi
  · rw [splice_get h] at hi
    rw [Array.getElem?_toList, setList_get] at hx
    have l1 := a.len; have l2 := b.len
    have l3 : arr.toList.length = arr.size := Array.length_toList
    split at hi
    · rename_i hh
      rw [if_pos (by omega)] at hx
      exact b.rel _ c x hi hx
    · rename_i hh
      rw [if_neg (by omega)] at hx
      exact a.rel i c x hi (by rw [Array.getElem?_toList]; exact hx)

/-- The parts of an aggregate, each with its place. -/
def compParts (opd : Operand → Option AOpd) (place : Nat → Option (Nat × Nat)) : List (Nat × Operand) → Option (List (Nat × Nat × AOpd))
  | [] => some []
  | (i, x) :: r => match place i, opd x, compParts opd place r with
    | some (off, k), some y, some r' => some ((off, k, y) :: r')
    | _, _, _ => none

theorem snd_fill {opd : Operand → Option AOpd} {place : Nat → Option (Nat × Nat)} {sl : Nat → AV} {ev : Operand → Value} (hev : ∀ x y, opd x = some y → AVR ρ S w (y.ev sl) (ev x)) :
    ∀ {ps : List (Nat × Operand)} {qs : List (Nat × Nat × AOpd)} {cs ds : List AV} {arr : Array Value}, compParts opd place ps = some qs → CR ρ S w cs arr.toList → fillParts sl cs qs = some ds →
      ∃ out, Instr.fill place arr (ps.map fun x => (x.1, ev x.2)) = some out ∧ CR ρ S w ds out.toList
  | [], qs, cs, ds, arr, hq, hc, hf => by
    simp [compParts] at hq; subst hq
    simp [fillParts] at hf; subst hf
    exact ⟨arr, rfl, hc⟩
  | (i, x) :: ps, qs, cs, ds, arr, hq, hc, hf => by
    simp only [compParts] at hq
    split at hq
    · rename_i off k y r' e1 e2 e3
      injection hq with hq; subst hq
      simp only [fillParts] at hf
      split at hf
      · rename_i xs hx
        split at hf
        · rename_i hb
          obtain ⟨hb1, hb2⟩ := hb
          obtain ⟨vs, g0, g1⟩ := CR.of_cellsOf (hev x y e2) hx
          have hc' := CR.set (off := off) hc g1 (by omega)
          obtain ⟨out, o1, o2⟩ := snd_fill hev (ps := ps) e3 hc' hf
          refine ⟨out, ?_, o2⟩
          have l1 := hc.len; have l2 := g1.len
          simp only [Array.length_toList] at l1
          simp only [List.map_cons, Instr.fill, e1, g0]
          rw [if_neg (by simp; omega)]
          rw [← o1]
          congr 1
          rw [← Array.foldl_toList]
          have := foldl_set off vs 0 arr
          simp only [Nat.add_zero] at this
          rw [← this]
          simp
        · cases hf
      · cases hf
    · cases hq

/-- A place in a type, by number. -/
def placeOf (P : Program) (t : TypeId) : Nat → Option (Nat × Nat) := fun i => match P.underlying t with
  | some (.struct fs) => (fs[i]?).map fun f => (f.offset, P.cellsOf f.type)
  | some (.array _ e) => some (i * P.cellsOf e, P.cellsOf e)
  | _ => none
def placesFine (P : Program) (t : TypeId) : Bool := match P.underlying t with
  | some (.struct fs) => fs.toList.all fun f => (P.info? f.type).isSome
  | some (.array _ e) => (P.info? e).isSome
  | _ => false

theorem run_places (fs : List Field) (hf : fs.all (fun f => (P.info? f.type).isSome) = true) (w : World) : (fs.mapM (fun f => do pure (f.offset, ← sizeOf f.type)) : Sem (List (Nat × Nat))).run P w = .ok (fs.map fun f => (f.offset, P.cellsOf f.type)) w := by
  induction fs with
  | nil => rfl
  | cons f fs ih =>
    simp only [List.all_cons, Bool.and_eq_true] at hf
    rw [List.mapM_cons]
    simp only [Sem.run_bind, run_sizeOf_cells (P := P) (w := w) hf.1, Result.andThen_ok, Sem.run_pure, ih hf.2, List.map_cons]

theorem snd_build {opd : Operand → Option AOpd} {sl : Nat → AV} {ev : Operand → Value} (hev : ∀ x y, opd x = some y → AVR ρ S w (y.ev sl) (ev x)) {t : TypeId} {parts : Array (Nat × Operand)} {qs : List (Nat × Nat × AOpd)} {zs ds : List AV}
    (hz : zerosOf P t = some zs) (hp : placesFine P t = true) (hq : compParts opd (placeOf P t) parts.toList = some qs) (hf : fillParts sl zs qs = some ds) :
    ∃ u, (Instr.build t (parts.map fun (i, x) => (i, ev x))).run P w = .ok u w ∧ AVR ρ S w (.agg ds) u := by
  obtain ⟨z, h1, h2⟩ := zerosOf_run (P := P) (ρ := ρ) (S := S) (w := w) hz
  obtain ⟨out, o1, o2⟩ := snd_fill (arr := z.cells) hev hq h2 hf
  have o1' : Instr.fill (placeOf P t) z.cells (parts.map fun (i, x) => (i, ev x)).toList = some out := by rw [← o1]; simp
  refine ⟨.agg out, ?_, by have := o2.agg; simpa using this⟩
  unfold Instr.build
  unfold placesFine at hp
  cases hu : P.underlying t with
  | none => simp [hu] at hp
  | some d =>
    cases d <;> simp only [hu, Bool.false_eq_true] at hp
    case struct fs =>
      have e : placeOf P t = fun i => ((fs.toList.map fun f => (f.offset, P.cellsOf f.type)).toArray)[i]? := by
        funext i
        simp [placeOf, hu]
      rw [e] at o1'
      have hm := run_places (P := P) fs.toList hp w
      have hm' : (fs.mapM (fun f => do pure (f.offset, ← sizeOf f.type)) : Sem (Array (Nat × Nat))).run P w = .ok (fs.toList.map fun f => (f.offset, P.cellsOf f.type)).toArray w := by
        rw [Array.mapM_eq_mapM_toList, Sem.run_map, hm]
        rfl
      simp only [Sem.run_bind, h1, Result.andThen_ok, run_underlying hu, hm', o1', Sem.run_pure]
    case array m e =>
      have e : placeOf P t = fun i => some (i * P.cellsOf e, P.cellsOf e) := by
        funext i
        simp [placeOf, hu]
      rw [e] at o1'
      simp only [Sem.run_bind, h1, Result.andThen_ok, run_underlying hu, run_sizeOf_cells (P := P) (w := w) hp, o1', Sem.run_pure]

/-! ### Rows of zeros -/
theorem CR.replicate {zs : List AV} {z : List Value} (a : CR ρ S w zs z) : ∀ m, CR ρ S w (List.replicate m zs).flatten (List.replicate m z).flatten
  | 0 => .nil
  | m + 1 => by rw [List.replicate_succ, List.flatten_cons, List.replicate_succ, List.flatten_cons]; exact a.append (CR.replicate a m)

theorem flatten_replicate_get (z : List Value) (m i : Nat) (hi : i < m * z.length) : (List.replicate m z).flatten[i]? = z[i % z.length]? := by
  induction m generalizing i with
  | zero => simp at hi
  | succ m ih =>
    rw [List.replicate_succ, List.flatten_cons, List.getElem?_append]
    split
    · rename_i h; rw [Nat.mod_eq_of_lt h]
    · rename_i h
      rw [ih _ (by rw [Nat.succ_mul] at hi; omega)]
      congr 1
      rw [Nat.mod_eq_sub_mod (a := i) (by omega)]

theorem zeros_eq (z : Array Value) (m : Nat) : ((Array.range (m * z.size)).map (z[· % z.size]!)) = ((List.replicate m z.toList).flatten).toArray := by
  apply Array.ext'
  apply List.ext_getElem?
  intro i
  rw [Array.getElem?_toList]
  by_cases hi : i < m * z.size
  · have hpos : 0 < z.size := by
      rcases Nat.eq_zero_or_pos z.size with h0 | h0
      · rw [h0] at hi; simp at hi
      · exact h0
    rw [flatten_replicate_get _ _ _ (by simpa using hi)]
    have hm : i % z.size < z.size := Nat.mod_lt _ hpos
    simp [hi, hm, getElem!_pos]
  · rw [Array.getElem?_eq_none (by simpa using hi), List.getElem?_eq_none (by simpa using hi)]

theorem snd_buildSlice (r : RelH ρ S h w) (hn : ρ n = none) {opd : Operand → Option AOpd} {sl : Nat → AV} {ev : Operand → Value} (hev : ∀ x y, opd x = some y → AVR ρ S w (y.ev sl) (ev x)) {t e : TypeId} {len z : Nat} {parts : Array (Nat × Operand)}
    {qs : List (Nat × Nat × AOpd)} {zs ds : List AV} (hu : P.underlying t = some (.slice e)) (hz : zerosOf P e = some zs) (hzl : zs.length = z) (hsz : P.cellsOf e = z) (hz0 : z ≠ 0) (hb : len * z ≤ 2 ^ 24)
    (hq : compParts opd (fun i => some (i * z, z)) parts.toList = some qs) (hf : fillParts sl (List.replicate len zs).flatten qs = some ds) :
    ∃ u w', (Instr.buildSlice t len (parts.map fun (i, x) => (i, ev x))).run P w = .ok u w' ∧ Good ρ S h w n u w' (.sl n 0 len (some len) z) [(n, some (.cells ds false))] := by
  obtain ⟨zv, h1, h2⟩ := zerosOf_run (P := P) (ρ := ρ) (S := S) (w := w) hz
  have hi : (P.info? e).isSome := by
    cases hi : P.info? e with
    | none => simp [Program.cellsOf, hi] at hsz; omega
    | some _ => rfl
  have hzs : zv.cells.size = z := by have := h2.len; simp at this; omega
  obtain ⟨out, o1, o2⟩ := snd_fill (arr := ((List.replicate len zv.cells.toList).flatten).toArray) hev hq (by simpa using h2.replicate len) hf
  have o1' : Instr.fill (fun i => some (i * z, z)) ((List.replicate len zv.cells.toList).flatten).toArray (parts.map fun (i, x) => (i, ev x)).toList = some out := by rw [← o1]; simp
  have hlen : out.size = len * z := by
    have h3 := o2.len
    have h4 : ∀ {cs ds : List AV} {qs : List (Nat × Nat × AOpd)}, fillParts sl cs qs = some ds → ds.length = cs.length := by
      intro cs ds qs
      induction qs generalizing cs with
      | nil => intro h; simp [fillParts] at h; rw [h]
      | cons q qs ih =>
        obtain ⟨off, k, x⟩ := q
        intro h
        simp only [fillParts] at h
        split at h
        · split at h
          · rename_i hb; rw [ih h, splice_len (by omega)]
          · cases h
        · cases h
    have h5 := h4 hf
    simp [hzl] at h5
    simp at h3
    omega
  have hg := good_newSl r hn o2 [] e len len z (some len) (fun k hk => by injection hk) (by simpa using hlen) (Nat.le_refl _)
  refine ⟨_, _, ?_, hg⟩
  unfold Instr.buildSlice
  simp only [Sem.run_bind, run_underlying hu, Result.andThen_ok, run_sizeOf_cells (P := P) (w := w) hi, hsz]
  rw [if_neg (by omega)]
  have key : ((Array.range (len * z)).map (zv.cells[· % zv.cells.size]!)) = ((List.replicate len zv.cells.toList).flatten).toArray := by
    have := zeros_eq zv.cells len
    rw [hzs] at this
    rw [← this, hzs]
  by_cases hl : len * z = 0
  · have hl0 : len = 0 := (Nat.mul_eq_zero.1 hl).resolve_right hz0
    subst hl0
    simp at o1'
    simp [o1', newRow, show Array.range 0 = #[] from rfl]
  · simp only [hl, if_false, Sem.run_bind, h1, Result.andThen_ok, Sem.run_pure, key, o1']
    simp [newRow]

/-! ### Writing -/
theorem live_cells (r : RelH ρ S h w) {id b o : Nat} {cs : List AV} {ro : Bool} (hx : h id = some (.cells cs ro)) (hρ : ρ id = some (b, o)) : ∃ arr ty fz, w.heap[b]? = some (.cells arr ty fz) ∧ o + cs.length ≤ arr.size ∧
    (∀ (i : Nat) (c : AV), cs[i]? = some c → c.isCell = true ∧ ∃ v, arr[o + i]? = some v ∧ AVR ρ S w c v) ∧ (∀ i, i < arr.size → ¬ (fz.1 ≤ i ∧ i < fz.2)) ∧ (if ro then S b else ¬ S b) := by
  obtain ⟨b', o', arr, ty, fz, g1, g2, g3, g4, g5, g6⟩ := r.live id _ hx
  rw [hρ] at g1; injection g1 with g1; injection g1 with g1 g1'; subst g1; subst g1'
  exact ⟨arr, ty, fz, g2, g3, g4, g5, g6⟩

theorem frozen_of_heap {b : Nat} {arr : Array Value} {ty : TypeId} {fz : Nat × Nat} (hb : w.heap[b]? = some (.cells arr ty fz)) (hz : ∀ i, i < arr.size → ¬ (fz.1 ≤ i ∧ i < fz.2)) {i : Nat} (hi : i < arr.size) : w.frozen? ⟨b, i, none⟩ = false := by
  have := hz i hi
  obtain ⟨lo, hi'⟩ := fz
  simp only [World.frozen?, hb]
  simp at this ⊢
  omega

/-- Cells of a live block are written. -/
theorem good_write (r : RelH ρ S h w) {id b o off : Nat} {cs ds : List AV} {ys : List Value} (hx : h id = some (.cells cs false)) (hρ : ρ id = some (b, o)) (hd : CR ρ S w ds ys) (hl : off + ds.length ≤ cs.length) :
    (storeCells ⟨b, o + off, none⟩ ys).run P w = .ok () (w.setCells b (o + off) ys) ∧ RelH ρ S (upd h id (some (.cells (splice cs off ds) false))) (w.setCells b (o + off) ys) ∧
      Adv ρ S h w ρ S (upd h id (some (.cells (splice cs off ds) false))) (w.setCells b (o + off) ys) := by
  obtain ⟨arr, ty, fz, g2, g3, g4, g5, g6⟩ := live_cells r hx hρ
  have hlen := hd.len
  refine ⟨?_, ?_⟩
  · have := run_storeCells_cells (P := P) b (o + off) ys 0 w (fun j hj => by
        rw [cell_of_heap g2]
        have : o + off + 0 + j < arr.size := by omega
        rw [Array.getElem?_eq_getElem this]; rfl) (fun j hj => frozen_of_heap g2 g5 (by omega)) hd.oneCell
    simpa using this
  · refine r.put hx rfl hρ (setCells_turned w b (o + off) ys) (fun he => ?_)
    refine ⟨b, o, setList arr (o + off) ys, ty, fz, hρ, setCells_heap w b (o + off) ys g2, by rw [splice_len hl, setList_size]; exact g3, fun i c hi => ?_, by rw [setList_size]; exact g5, g6⟩
    rw [splice_get hl] at hi
    rw [setList_get]
    split at hi
    · rename_i hh
      refine ⟨hd.one _ c hi, ?_⟩
      have hlt : i - off < ys.length := by omega
      rw [if_pos (by omega)]
      refine ⟨ys[i - off], by rw [show o + i - (o + off) = i - off by omega]; simp [hlt], (hd.rel _ c _ hi (by simp [hlt])).ext he (fun _ h => h) (fun _ _ h => h)⟩
    · rename_i hh
      obtain ⟨q1, v, q2, q3⟩ := g4 i c hi
      refine ⟨q1, v, ?_, q3.ext he (fun _ h => h) (fun _ _ h => h)⟩
      rw [if_neg (by omega)]; exact q2

theorem snd_store (r : RelH ρ S h w) {t : TypeId} {k id off : Nat} {x : AV} {u v : Value} {cs xs : List AV} (hi : (P.info? t).isSome) (hk : P.cellsOf t = k) (ha : AVR ρ S w (.ptr id off) u) (hx : AVR ρ S w x v) (hc : x.cellsOf = some xs)
    (hh : h id = some (.cells cs false)) (h1 : xs.length = k) (h2 : off + k ≤ cs.length) :
    ∃ w', (Instr.storeAt t u v).run P w = .ok () w' ∧ Good ρ S h w n Go.undef w' .undef [(id, some (.cells (splice cs off xs) false))] := by
  obtain ⟨b, o, rfl, f1⟩ := avr_ptr ha
  obtain ⟨ys, e1, e2⟩ := CR.of_cellsOf hx hc
  obtain ⟨g1, g2, g3⟩ := good_write (P := P) r hh f1 e2 (by rw [h1]; exact h2)
  refine ⟨_, ?_, ρ, S, .undef, g2, g3, fun _ _ => rfl⟩
  unfold Instr.storeAt storeVar
  have hl : v.cells.size = k := by rw [e1]; have := e2.len; simp; omega
  simp only [Sem.run_bind, Instr.sureAddr, Sem.run_pure, Result.andThen_ok, run_sizeOf_cells (P := P) (w := w) hi, hk]
  rw [if_neg (by omega), e1]
  exact g1

/-! ### What is appended and copied -/
/-- The cells of the first elements of a source. -/
theorem CR.flatten_vsl {z : Nat} {es : List (List AV)} {b o : Nat} (h4 : ∀ (i : Nat) (e : List AV), es[i]? = some e → e.length = z)
    (h5 : ∀ (i : Nat) (e : List AV) (j : Nat) (x : AV), es[i]? = some e → e[j]? = some x → x.isCell = true ∧ ∃ u, w.cell? ⟨b, o + i * z + j, none⟩ = some u ∧ PVR S w x u) : Cells ρ S w b o es.flatten := by
  have key : ∀ (es : List (List AV)) (o : Nat), (∀ (i : Nat) (e : List AV), es[i]? = some e → e.length = z) →
      (∀ (i : Nat) (e : List AV) (j : Nat) (x : AV), es[i]? = some e → e[j]? = some x → x.isCell = true ∧ ∃ u, w.cell? ⟨b, o + i * z + j, none⟩ = some u ∧ PVR S w x u) → Cells ρ S w b o es.flatten := by
    intro es
    induction es with
    | nil => intro o _ _ i c hi; simp at hi
    | cons e es ih =>
      intro o h4 h5 i c hi
      rw [List.flatten_cons, List.getElem?_append] at hi
      have hel := h4 0 e (by simp)
      split at hi
      · obtain ⟨q1, u, q2, q3⟩ := h5 0 e i c (by simp) hi
        exact ⟨q1, u, by simpa using q2, .pv _ _ q3⟩
      · rename_i hl
        have := ih (o + z) (fun i e' h => h4 (i + 1) e' (by simpa using h)) (fun i e' j x h h' => by
          have := h5 (i + 1) e' j x (by simpa using h) h'
          rwa [Nat.succ_mul, show o + (i * z + z) + j = o + z + i * z + j by omega] at this) (i - e.length) c hi
        rwa [show o + z + (i - e.length) = o + i by omega] at this
  exact key es o h4 h5

theorem chunks_flatten (z : Nat) : ∀ (n : Nat) (cs : List AV), n * z ≤ cs.length → (chunks z n cs).flatten = cs.take (n * z)
  | 0, cs, _ => by simp [chunks]
  | n + 1, cs, h => by
    rw [Nat.succ_mul] at h
    simp only [chunks, List.flatten_cons]
    rw [chunks_flatten z n (cs.drop z) (by simp; omega), Nat.succ_mul, Nat.add_comm, List.take_add]

theorem chunks_take (z : Nat) : ∀ (n m : Nat) (cs : List AV), m ≤ n → (chunks z n cs).take m = chunks z m cs
  | _, 0, _, _ => by simp [chunks]
  | 0, m + 1, _, h => by omega
  | n + 1, m + 1, cs, h => by simp [chunks, chunks_take z n m (cs.drop z) (by omega)]

theorem flatten_take_length {z : Nat} : ∀ {es : List (List AV)} {m : Nat}, (∀ e ∈ es, e.length = z) → m ≤ es.length → (es.take m).flatten.length = m * z
  | _, 0, _, _ => by simp
  | [], m + 1, _, h => by simp at h
  | e :: es, m + 1, hz, h => by
    simp only [List.take_succ_cons, List.flatten_cons, List.length_append]
    rw [flatten_take_length (fun e h => hz e (by simp [h])) (by simpa using h), hz e (by simp), Nat.succ_mul, Nat.add_comm]

/-- What the first m elements of a source come to. -/
theorem snd_first (r : RelH ρ S h w) {z m : Nat} {a : AV} {u : Value} {es : List (List AV)} (ha : AVR ρ S w a u) (he : srcOf h z a = some es) (hm : m ≤ es.length) :
    (∀ e ∈ es, e.length = z) ∧ ∃ xs, CR ρ S w (es.take m).flatten xs ∧ (Builtin.firstCells z m u).run P w = .ok xs.toArray w ∧ (Builtin.lenOf u).run P w = .ok es.length w := by
  cases a with
  | str t =>
    simp only [srcOf] at he
    split at he
    case isFalse => cases he
    rename_i hz1; subst hz1
    injection he with he; subst he
    refine ⟨by simp, ?_⟩
    rw [avr_str ha]
    have hlen : ∀ (l : List UInt8), (l.map fun (b : UInt8) => [AV.int .u8 b.toNat]).flatten = l.map fun (b : UInt8) => AV.int .u8 b.toNat := by
      intro l; induction l with
      | nil => rfl
      | cons a l ih => simp [ih]
    refine ⟨(t.data.toList.take m).map fun b => Value.int .u8 b.toNat, ?_, ?_, ?_⟩
    · rw [← List.map_take, hlen]
      refine ⟨by simp, fun i c hi => ?_, fun i c x hi hx => ?_⟩
      · rw [List.getElem?_map] at hi
        cases hq : (t.data.toList.take m)[i]? with
        | none => simp [hq] at hi
        | some q => simp [hq] at hi; subst hi; rfl
      · rw [List.getElem?_map] at hi hx
        cases hq : (t.data.toList.take m)[i]? with
        | none => simp [hq] at hi
        | some q => simp [hq] at hi hx; subst hi; subst hx; exact .int _ _
    · unfold Builtin.firstCells
      simp only [Sem.run_pure]
      congr 1
      apply Array.ext'
      simp only [Array.toList_map]
      congr 1
      simp [ByteArray.data_extract]
    · simp [Builtin.lenOf]
  | vsl z' es' cap =>
    simp only [srcOf] at he
    split at he
    case isFalse => cases he
    rename_i hzs
    injection he with he; subst he
    obtain ⟨a0, c, b, o, rfl, f1, f2, f3, f4, f5⟩ := avr_vsl ha
    have hz : ∀ e ∈ es', e.length = z := by
      intro e hi
      rcases hzs with rfl | rfl
      · obtain ⟨i, hi, rfl⟩ := List.mem_iff_getElem.1 hi
        exact f4 i _ (by simp [hi])
      · simp at hi
    refine ⟨hz, ?_⟩
    have hl : (Builtin.lenOf (.slice a0 es'.length c)).run P w = .ok es'.length w := rfl
    by_cases hne : es' = []
    · subst hne
      have hm0 : m = 0 := by simpa using hm
      subst hm0
      refine ⟨[], .nil, ?_, hl⟩
      cases a0 <;> simp [Builtin.firstCells, loadCells, loadCellsFrom]
    · obtain ⟨rfl, hb⟩ := f3 hne
      have hzz := hzs.resolve_right hne
      subst hzz
      have hc : Cells ρ S w b o (es'.take m).flatten := CR.flatten_vsl (z := z') (fun i e h => f4 i e (by
          rw [List.getElem?_take] at h; split at h
          · exact h
          · cases h)) (fun i e j x h h' => f5 i e j x (by
          rw [List.getElem?_take] at h; split at h
          · exact h
          · cases h) h')
      obtain ⟨xs, g1, g2⟩ := CR.of_cells hc
      refine ⟨xs, g1, ?_, hl⟩
      have hlen : xs.length = m * z' := by
        rw [← g1.len, flatten_take_length hz hm]
      have := run_loadCells_list (P := P) w ⟨b, o, none⟩ xs g2
      rw [hlen] at this
      simpa [Builtin.firstCells] using this
  | sl id off len cap z' =>
    simp only [srcOf] at he
    split at he
    case isFalse => cases he
    rename_i hzs; subst hzs
    simp only [elemsOf] at he
    obtain ⟨b, o, c, arr, ty, fz, rfl, f1, f2, f3, f4, f5, f6⟩ := avr_sl ha
    split at he
    · rename_i cs ro hx
      split at he
      · rename_i hl
        injection he with he; subst he
        rw [chunks_length] at hm
        have hz : ∀ e ∈ chunks z' len (cs.drop off), e.length = z' := by
          intro e hi
          obtain ⟨i, hi', rfl⟩ := List.mem_iff_getElem.1 hi
          obtain ⟨q1, q2⟩ := chunks_get (z := z') (n := len) (cs := cs.drop off) (i := i) (e := (chunks z' len (cs.drop off))[i]) (by simp [hi'])
          rw [q2]
          have : (i + 1) * z' ≤ len * z' := Nat.mul_le_mul_right _ q1
          rw [Nat.succ_mul] at this
          simp; omega
        refine ⟨hz, ?_⟩
        obtain ⟨arr', ty', fz', g2, g3, g4, _⟩ := live_cells r hx f1
        have hc : Cells ρ S w b (o + off) ((chunks z' len (cs.drop off)).take m).flatten := by
          have hmz : m * z' ≤ len * z' := Nat.mul_le_mul_right _ hm
          rw [chunks_take _ _ _ _ hm, chunks_flatten _ _ _ (by simp; omega)]
          refine Cells.take (Cells.drop (fun i c hi => ?_) off) _
          obtain ⟨q1, v, q2, q3⟩ := g4 i c hi
          exact ⟨q1, v, by rw [cell_of_heap g2]; exact q2, q3⟩
        obtain ⟨xs, k1, k2⟩ := CR.of_cells hc
        refine ⟨xs, k1, ?_, by rw [chunks_length]; rfl⟩
        have hlen : xs.length = m * z' := by
          have hmz : m * z' ≤ len * z' := Nat.mul_le_mul_right _ hm
          rw [← k1.len, chunks_take _ _ _ _ hm, chunks_flatten _ _ _ (by simp; omega)]
          simp; omega
        have := run_loadCells_list (P := P) w ⟨b, o + off, none⟩ xs k2
        rw [hlen] at this
        simpa [Builtin.firstCells] using this
      · cases he
    · cases he
  | _ => simp [srcOf] at he
end
end Go.Fw
