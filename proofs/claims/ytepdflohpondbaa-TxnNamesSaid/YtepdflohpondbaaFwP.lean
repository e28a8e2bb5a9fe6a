/- What an operation looks at: its slots, and the blocks that its operands name. -/
import Derived.Test.YtepdflohpondbaaFwO
set_option linter.unusedSimpArgs false
set_option linter.unusedVariables false
namespace Go.Fw

def optL : Option AOpd → List AOpd
  | none => []
  | some x => [x]

def AOp.opds : AOp → List AOpd
  | .mov x | .box x | .load _ x | .nilCheck x | .un _ x | .conv _ x | .mkIface _ x | .fieldAddr _ x | .field _ _ x | .extract x _ | .len _ x | .cap x | .clear _ _ x => [x]
  | .pick c a b => [c, a, b]
  | .alloc _ | .mkMap | .lenConst _ => []
  | .build _ ps | .buildSlice _ _ _ ps => ps.map (·.2.2)
  | .store _ a x | .bin _ _ a x | .mkSlice _ _ _ a x | .indexAddr _ a x | .index _ _ a x | .lookup _ _ a x _ | .mapEntry _ _ a x | .append _ _ a x | .copy _ a x => [a, x]
  | .mkFunc _ as bs => as ++ bs
  | .slice _ x lo hi mx => x :: (optL lo ++ optL hi ++ optL mx)
  | .mapUpdate _ m k x | .entryStore m k x => [m, k, x]
  | .minmax _ xs | .call _ xs => xs
  | .callv f xs => f :: xs

theorem fillParts_slots {sl sl' : Nat → AV} : ∀ {ps : List (Nat × Nat × AOpd)} {cs : List AV}, (∀ x ∈ ps.map (·.2.2), x.ev sl = x.ev sl') → fillParts sl cs ps = fillParts sl' cs ps
  | [], _, _ => rfl
  | (off, k, x) :: r, cs, h => by
    have h1 : x.ev sl = x.ev sl' := h x (by simp)
    simp only [fillParts, h1]
    split
    · split
      · exact fillParts_slots (fun y hy => h y (by simp only [List.map_cons]; exact List.mem_cons_of_mem _ hy))
      · rfl
    · rfl

theorem bound_slots {sl sl' : Nat → AV} {x : Option AOpd} {d : Nat} (h : ∀ y ∈ optL x, y.ev sl = y.ev sl') : bound x sl d = bound x sl' d := by
  cases x with
  | none => rfl
  | some y => simp only [bound, h y (by simp [optL])]

theorem sliceOf_slots {sl sl' : Nat → AV} {h : AHeap} {s : Sk} {x : AV} {lo hi mx : Option AOpd} (hs : ∀ y ∈ optL lo ++ optL hi ++ optL mx, y.ev sl = y.ev sl') : sliceOf h s x lo hi mx sl = sliceOf h s x lo hi mx sl' := by
  have h1 : ∀ d, bound lo sl d = bound lo sl' d := fun d => bound_slots fun y hy => hs y (by simp [hy])
  have h2 : ∀ d, bound hi sl d = bound hi sl' d := fun d => bound_slots fun y hy => hs y (by simp [hy])
  have h3 : ∀ m, mx = some m → ∀ d, bound (some m) sl d = bound (some m) sl' d := fun m hm d => bound_slots fun y hy => hs y (by subst hm; simp [hy])
  have h5 : ∀ d d', bound lo sl d = bound lo sl' d ∧ bound hi sl d' = bound hi sl' d' := fun d d' => ⟨h1 d, h2 d'⟩
  cases s <;> cases x <;> simp only [sliceOf, h1, h2]
  all_goals
    generalize bound lo sl' 0 = A
    generalize bound hi sl' _ = B
    cases A <;> cases B <;> cases mx <;> first | rfl | simp only [h3 _ rfl]

theorem runOp_slots {op : AOp} {sl sl' : Nat → AV} {h : AHeap} {n : Nat} (hs : ∀ x ∈ op.opds, x.ev sl = x.ev sl') : runOp op sl h n = runOp op sl' h n := by
  have hmap : ∀ xs : List AOpd, (∀ x ∈ xs, x.ev sl = x.ev sl') → xs.map (·.ev sl) = xs.map (·.ev sl') := fun xs hx => List.map_congr_left hx
  cases op
  case build zs ps => simp only [runOp, fillParts_slots (ps := ps) hs]
  case buildSlice z len zs ps => simp only [runOp, fillParts_slots (ps := ps) hs]
  case mkFunc fn as bs => simp only [runOp, hmap as (fun x hx => hs x (List.mem_append_left _ hx)), hmap bs (fun x hx => hs x (List.mem_append_right _ hx))]
  case minmax m xs => simp only [runOp, hmap xs hs]
  case slice s x lo hi mx =>
    simp only [AOp.opds, List.mem_cons, forall_eq_or_imp] at hs
    simp only [runOp, hs.1, sliceOf_slots hs.2]
  all_goals (simp only [AOp.opds, List.mem_cons, List.not_mem_nil, or_false, forall_eq_or_imp, forall_eq] at hs; simp only [runOp, hs])

/-- The blocks that a value names itself. -/
def idsTop : AV → List Nat
  | .ptr id _ => [id]
  | .sl id _ _ _ _ => [id]
  | .map id => [id]
  | _ => []

section
variable {h h' : AHeap}
theorem cellsAt_heap {a : AV} (hh : ∀ id ∈ idsTop a, h id = h' id) : cellsAt h a = cellsAt h' a := by
  cases a <;> simp only [cellsAt]
  rw [hh _ (by simp [idsTop])]
theorem elemsOf_heap {a : AV} (hh : ∀ id ∈ idsTop a, h id = h' id) : elemsOf h a = elemsOf h' a := by
  cases a <;> simp only [elemsOf]
  rw [hh _ (by simp [idsTop])]
theorem srcOf_heap {z : Nat} {a : AV} (hh : ∀ id ∈ idsTop a, h id = h' id) : srcOf h z a = srcOf h' z a := by
  cases a <;> simp only [srcOf]
  rw [elemsOf_heap hh]
theorem bytesSrc_heap {a : AV} (hh : ∀ id ∈ idsTop a, h id = h' id) : bytesSrc h a = bytesSrc h' a := by
  cases a <;> simp only [bytesSrc] <;> exact srcOf_heap hh
theorem convOf_heap {c : Cv} {a : AV} (hh : ∀ id ∈ idsTop a, h id = h' id) : convOf h c a = convOf h' c a := by
  cases c
  · cases a <;> rfl
  · cases a <;> rfl
  · cases a <;> simp only [convOf] <;> rw [bytesSrc_heap hh]
theorem lenOf_heap {a : AV} (hh : ∀ id ∈ idsTop a, h id = h' id) : Fw.lenOf h a = Fw.lenOf h' a := by
  cases a <;> simp only [Fw.lenOf]
  rw [hh _ (by simp [idsTop])]
theorem mapOf_heap {a : AV} (hh : ∀ id ∈ idsTop a, h id = h' id) : mapOf h a = mapOf h' a := by
  cases a <;> simp only [mapOf]
  rw [hh _ (by simp [idsTop])]
theorem appendOf_heap {z bytes n : Nat} {a : AV} {xs : List (List AV)} (hh : ∀ id ∈ idsTop a, h id = h' id) : appendOf z bytes a xs h n = appendOf z bytes a xs h' n := by
  cases a <;> simp only [appendOf]
  rw [hh _ (by simp [idsTop])]
theorem sliceOf_heap {s : Sk} {a : AV} {lo hi mx : Option AOpd} {sl : Nat → AV} (hh : ∀ id ∈ idsTop a, h id = h' id) : sliceOf h s a lo hi mx sl = sliceOf h' s a lo hi mx sl := by
  cases a
  case ptr id off =>
    have := hh id (by simp [idsTop])
    cases s <;> simp only [sliceOf, this]
  all_goals (cases s <;> rfl)

theorem runOp_heap {op : AOp} {sl : Nat → AV} {n : Nat} (hh : ∀ x ∈ op.opds, ∀ id ∈ idsTop (x.ev sl), h id = h' id) : runOp op sl h n = runOp op sl h' n := by
  cases op <;> simp only [AOp.opds, List.mem_cons, List.not_mem_nil, or_false, forall_eq_or_imp, forall_eq] at hh <;> simp only [runOp]
  case load k x => rw [cellsAt_heap hh]
  case store k a x =>
    have e0 := hh.1
    cases hq : a.ev sl <;> rw [hq] at e0 <;> first | rfl | (have e1 := e0 _ (List.Mem.head _); cases (x.ev sl).cellsOf <;> first | rfl | simp only [e1])
  case conv c x => rw [convOf_heap hh]
  case slice s x lo hi mx => rw [sliceOf_heap hh.1]
  case lookup kt zs x k ok => rw [mapOf_heap hh.1]
  case mapUpdate kt m k x =>
    have e0 := hh.1
    cases hq : m.ev sl <;> rw [hq] at e0 <;> first | rfl | (have e1 := e0 _ (List.Mem.head _); first | simp only [e1] | (cases k.ev sl <;> first | rfl | simp only [e1]))
  case mapEntry kt zs m k =>
    have e0 := hh.1
    cases hq : m.ev sl <;> rw [hq] at e0 <;> first | rfl | (have e1 := e0 _ (List.Mem.head _); first | simp only [e1] | (cases k.ev sl <;> first | rfl | simp only [e1]))
  case entryStore m k x =>
    have e0 := hh.1
    cases hq : m.ev sl <;> rw [hq] at e0 <;> first | rfl | (have e1 := e0 _ (List.Mem.head _); first | simp only [e1] | (cases k.ev sl <;> first | rfl | simp only [e1]))
  case len k x => rw [lenOf_heap hh]
  case append z bytes s x => rw [srcOf_heap hh.2]; cases srcOf h' z (x.ev sl) <;> simp only [appendOf_heap hh.1]
  case copy z d s =>
    rw [srcOf_heap hh.2]
    have e0 := hh.1
    cases hq : d.ev sl <;> rw [hq] at e0 <;> first | rfl | (rename_i z0 es0 cap0; cases es0 <;> cases srcOf h' z (s.ev sl) <;> rfl) | (have e1 := e0 _ (List.Mem.head _); cases srcOf h' z (s.ev sl) <;> first | rfl | simp only [e1])
  case clear z zs x =>
    have e0 := hh
    cases hq : x.ev sl <;> rw [hq] at e0 <;> first | rfl | (rename_i z0 es0 cap0; cases es0 <;> rfl) | (have e1 := e0 _ (List.Mem.head _); simp only [e1])
end
end Go.Fw
