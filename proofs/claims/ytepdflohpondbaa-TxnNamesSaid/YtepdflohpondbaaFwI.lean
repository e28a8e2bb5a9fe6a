/- append, copy, clear, make. -/
import Derived.Test.YtepdflohpondbaaFwH
set_option linter.unusedSimpArgs false
set_option linter.unusedVariables false
namespace Go.Fw
section
variable {P : Program} {ρ : Nat → Option (Nat × Nat)} {S : Nat → Prop} {h : AHeap} {w : World} {n : Nat}

theorem Ext.drew (S : Nat → Prop) (w : World) : Ext S w w.drew := ⟨fun _ _ => rfl, fun _ arr _ fz h => ⟨arr, fz, h, rfl⟩⟩
theorem Fr.drew (o : Nat → Prop) (w : World) : Fr o w w.drew := ⟨rfl, rfl, rfl, Nat.le_refl _, fun _ _ _ => rfl, fun _ arr _ fz h => ⟨arr, fz, h, rfl⟩, fun _ _ => rfl⟩
theorem RelH.drew (r : RelH ρ S h w) : RelH ρ S h w.drew ∧ Adv ρ S h w ρ S h w.drew :=
  ⟨⟨fun id b hx => (r.live id b hx).keep (Ext.drew S w) (fun _ h => h) (fun _ _ h => h) (fun _ _ _ => rfl) (fun _ _ _ _ h => h), r.inj, r.bound, r.dom, r.zero⟩,
    ⟨Fr.drew _ w, fun _ h => h, fun _ h => .inl h, fun _ h => .inl h, fun _ _ h => h⟩⟩
theorem AVR.drew {a : AV} {v : Value} (hv : AVR ρ S w a v) : AVR ρ S w.drew a v := hv.ext (Ext.drew S w) (fun _ h => h) (fun _ _ h => h)

theorem Good.after {w1 w' : World} {h1 : AHeap} {u : Value} {a : AV} {U V : List (Nat × Option Blk)} (d : Adv ρ S h w ρ S h1 w1) (g : Good ρ S h1 w1 n u w' a U) (e : app h1 U = app h V) : Good ρ S h w n u w' a V := by
  obtain ⟨ρ', S', g1, g2, g3, g4⟩ := g
  exact ⟨ρ', S', g1, e ▸ g2, e ▸ d.trans g3, g4⟩

theorem nextslicecap_le' (need : Nat) (c : Nat) (hc : c < need) : Builtin.nextslicecap need c ≤ growCap need (some c) ∧ Builtin.nextslicecap need c ≤ growCap need none := by
  have h1 := nextslicecap_le hc
  unfold growCap
  refine ⟨?_, h1⟩
  simp only
  split
  · rename_i h2
    unfold Builtin.nextslicecap
    rw [if_pos (by omega)]
    exact Nat.le_refl _
  · exact h1

/-- An append that makes a new row. -/
theorem run_append_grows {sT xT ty e : TypeId} {z bytes len c m : Nat} {base : Option Addr} {x : Value} {old new : List Value} {zv : Value} {d : TypeDesc} {i : TypeInfo} (hu : P.underlying sT = some (.slice e)) (hux : P.underlying xT = some d) (hd : ∀ k, d ≠ .int k)
    (hi : P.info? e = some i) (hz : i.size = z) (hb : i.bytes = bytes) (hzv : i.zero = some zv) (hzs : zv.cells.size = z) (hl : (Builtin.lenOf x).run P w = .ok m w) (hc : c < len + m) (hbig : Builtin.nextslicecap (len + m) c * bytes ≤ 2 ^ 48) (hbz : bytes ≠ 0)
    (h1 : (Builtin.firstCells z len (.slice base len c)).run P w.drew = .ok old.toArray w.drew) (h2 : (Builtin.firstCells z m x).run P w.drew = .ok new.toArray w.drew) :
    ∃ q, len + m ≤ q ∧ (Builtin.append_ #[sT, xT] ty #[.slice base len c, x]).run P w = .ok (.slice (some ⟨w.heap.size, 0, none⟩) (len + m) q) (w.drew.alloc (.cells ((old ++ new) ++ (List.replicate (q - (len + m)) zv.cells.toList).flatten).toArray e)) := by
  refine ⟨(Question.appendCap (len + m) c e).cut (w.tape w.drawn (Question.appendCap (len + m) c e)), by simp [Question.cut], ?_⟩
  have hs : (sizeOf e).run P w = .ok z w := by simp [sizeOf, typeInfo, hi, hz]
  have ht : ∀ w, (typeInfo e).run P w = .ok i w := fun w => by simp [typeInfo, hi]
  have hzr : ∀ w, (zeroValue e).run P w = .ok zv w := fun w => by simp [zeroValue, typeInfo, hi, hzv]
  have hf : (Question.appendCap (len + m) c e).forced = false := rfl
  have hint : (match d with | .int _ => true | _ => false) = false := by
    cases d <;> first | rfl | exact absurd rfl (hd _)
  have hzero : ∀ q, Builtin.zeroCells zv.cells q = (List.replicate q zv.cells.toList).flatten.toArray := fun q => zeros_eq zv.cells q
  unfold Builtin.append_
  simp only [List.getElem?_toArray, List.getElem?_cons_zero, List.getElem?_cons_succ, Sem.run_bind, run_underlying hu, Result.andThen_ok, hs, Sem.run_pure, run_underlying hux]
  cases d <;> first
    | exact absurd rfl (hd _)
    | (simp only [Bool.false_eq_true, if_false, hl, Sem.run_bind, Result.andThen_ok]
       rw [if_neg (by omega)]
       simp only [Sem.run_bind, ht, Result.andThen_ok, Sem.run_ite, Bool.not_false, if_true]
       rw [if_neg (by rintro ⟨_, h⟩; rcases h with h | h; exact absurd h (by simp); exact absurd (hb.symm.trans h) hbz)]
       rw [if_neg (by rw [hb]; omega)]
       simp only [Sem.run_bind, run_choose, hf, Bool.false_eq_true, if_false, Result.andThen_ok, ht, run_askRoom, World.drew_eq, h1, h2, hzr, Sem.run_pure, hzero, newRow, run_newObj, World.alloc_eq]
       simp)

/-- An append for which there is room. -/
theorem run_append_room' {sT xT ty e : TypeId} {z len c m : Nat} {base : Option Addr} {x : Value} {new : List Value} {d : TypeDesc} {i : TypeInfo} {w' : World} (hu : P.underlying sT = some (.slice e)) (hux : P.underlying xT = some d) (hd : ∀ k, d ≠ .int k)
    (hi : P.info? e = some i) (hz : i.size = z) (hl : (Builtin.lenOf x).run P w = .ok m w) (hc : len + m ≤ c)
    (h2 : (Builtin.firstCells z m x).run P w = .ok new.toArray w) (h3 : match base with | some a => (storeCells (a.add (len * z)) new).run P w = .ok () w' | none => w' = w) :
    (Builtin.append_ #[sT, xT] ty #[.slice base len c, x]).run P w = .ok (.slice base (len + m) c) w' := by
  have hs : (sizeOf e).run P w = .ok z w := by simp [sizeOf, typeInfo, hi, hz]
  unfold Builtin.append_
  simp only [List.getElem?_toArray, List.getElem?_cons_zero, List.getElem?_cons_succ, Sem.run_bind, run_underlying hu, Result.andThen_ok, hs, Sem.run_pure, run_underlying hux]
  cases d <;> first
    | exact absurd rfl (hd _)
    | (simp only [Bool.false_eq_true, if_false, hl, Sem.run_bind, Result.andThen_ok]
       rw [if_pos hc]
       simp only [Sem.run_ite, Bool.not_false, if_true, Sem.run_bind, h2, Result.andThen_ok]
       cases base with
       | none => simp only at h3; subst h3; rfl
       | some a => simp only at h3; simp only [h3, Sem.run_bind, Result.andThen_ok, Sem.run_pure])

theorem firstCells_zero (z : Nat) (base : Option Addr) (len c : Nat) : (Builtin.firstCells z 0 (.slice base len c)).run P w = .ok #[] w := by
  cases base <;> simp [Builtin.firstCells, loadCells, loadCellsFrom]

/-- What append needs to know of the types. -/
structure AppT (P : Program) (sT xT e : TypeId) (z bytes : Nat) : Prop where
  hu : P.underlying sT = some (.slice e)
  hux : ∃ d, P.underlying xT = some d ∧ ∀ k, d ≠ .int k
  hi : ∃ i zv, P.info? e = some i ∧ i.size = z ∧ i.bytes = bytes ∧ i.zero = some zv ∧ zv.cells.size = z
  hz : z ≠ 0
  hb : bytes ≠ 0

theorem good_grow (r : RelH ρ S h w) (hn : ρ n = none) {sT xT ty e : TypeId} {z bytes len c m : Nat} (T : AppT P sT xT e z bytes) {base : Option Addr} {x : Value} {cs ds : List AV} {old new : List Value}
    (hl : (Builtin.lenOf x).run P w = .ok m w) (hc : c < len + m) (hbig : Builtin.nextslicecap (len + m) c * bytes ≤ 2 ^ 48) (ho : CR ρ S w.drew cs old) (hnw : CR ρ S w.drew ds new) (l1 : old.length = len * z) (l2 : new.length = m * z)
    (h1 : (Builtin.firstCells z len (.slice base len c)).run P w.drew = .ok old.toArray w.drew) (h2 : (Builtin.firstCells z m x).run P w.drew = .ok new.toArray w.drew) :
    ∃ u w', (Builtin.append_ #[sT, xT] ty #[.slice base len c, x]).run P w = .ok u w' ∧ Good ρ S h w n u w' (.sl n 0 (len + m) none z) [(n, some (.cells (cs ++ ds) false))] := by
  obtain ⟨d, hux, hd⟩ := T.hux
  obtain ⟨i, zv, hi, hz, hb, hzv, hzs⟩ := T.hi
  obtain ⟨q, hq, hrun⟩ := run_append_grows (P := P) (w := w) (ty := ty) T.hu hux hd hi hz hb hzv hzs hl hc hbig T.hb h1 h2
  obtain ⟨r', dv⟩ := r.drew
  refine ⟨_, _, hrun, Good.after (h1 := h) dv (good_newSl r' hn (ho.append hnw) _ e (len + m) q z none (fun k hk => by cases hk) ?_ hq) rfl⟩
  have : ∀ k, (List.replicate k zv.cells.toList).flatten.length = k * z := fun k => by simp [hzs]
  rw [List.length_append, this, List.length_append, l1, l2, ← Nat.add_mul, ← Nat.add_mul]
  congr 1; omega

theorem snd_append (r : RelH ρ S h w) (hn : ρ n = none) {sT xT ty e : TypeId} {z bytes : Nat} (T : AppT P sT xT e z bytes) {s x a : AV} {u v : Value} {xs : List (List AV)} {U : List (Nat × Option Blk)}
    (ha : AVR ρ S w s u) (hb : AVR ρ S w x v) (hx : srcOf h z x = some xs) (he : appendOf z bytes s xs h n = some (a, U)) :
    ∃ o w', (Builtin.append_ #[sT, xT] ty #[u, v]).run P w = .ok o w' ∧ Good ρ S h w n o w' a U := by
  obtain ⟨d, hux, hd⟩ := T.hux
  obtain ⟨i, zv, hi, hz, hby, hzv, hzs⟩ := T.hi
  obtain ⟨hxz, xs0, c0, f0, l0⟩ := snd_first (P := P) r hb hx (Nat.le_refl xs.length)
  rw [List.take_length] at c0
  obtain ⟨r', dv⟩ := r.drew
  obtain ⟨_, xs1, c1, f1, _⟩ := snd_first (P := P) r' hb.drew hx (Nat.le_refl xs.length)
  rw [List.take_length] at c1
  have lx : xs.flatten.length = xs.length * z := by have := flatten_take_length hxz (Nat.le_refl xs.length); rwa [List.take_length] at this
  have hzp : 0 < z := Nat.pos_of_ne_zero T.hz
  unfold appendOf at he
  cases s <;> simp only [reduceCtorEq] at he
  · -- a block of ours
    rename_i id off len cap z'
    split at he
    · rename_i cs ro hh
      split at he
      · rename_i hb1
        obtain ⟨rfl, hoff⟩ := hb1
        have ha' := ha
        obtain ⟨b, o, c, arr, ty', fz, rfl, g1, g2, g3, g4, g5, g6⟩ := avr_sl ha
        obtain ⟨arr', ty2, fz', k2, k3, k4, k5, k6⟩ := live_cells r hh g1
        rw [g2] at k2; injection k2 with k2; injection k2 with k2 k2' k2''; subst k2; subst k2'; subst k2''
        have hsrc : srcOf h z (.sl id off len cap z) = some (chunks z len (cs.drop off)) := by simp [srcOf, elemsOf, hh, hoff]
        have hfl : (chunks z len (cs.drop off)).flatten = (cs.drop off).take (len * z) := chunks_flatten _ _ _ (by simp; omega)
        split at he
        · -- in place
          rename_i hb2
          obtain ⟨rfl, hroom, hcap⟩ := hb2
          injection he with he; injection he with he1 he2; subst he1; subst he2
          have hmul : (len + xs.length) * z = len * z + xs.length * z := Nat.add_mul _ _ _
          have hle : len + xs.length ≤ c := by
            cases cap with
            | some k => have := g3 k rfl; subst this; simpa [capFits] using hcap
            | none =>
              have := g4 rfl
              rcases Nat.lt_or_ge c (len + xs.length) with hlt | hge
              · have : c * z + z ≤ (len + xs.length) * z := by rw [← Nat.succ_mul]; exact Nat.mul_le_mul_right _ hlt
                omega
              · exact hge
          obtain ⟨w1, w2, w3⟩ := good_write (P := P) (off := off + len * z) r hh g1 c0 (by omega)
          refine ⟨_, _, run_append_room' (P := P) (w := w) (ty := ty) T.hu hux hd hi hz l0 hle f0 (by
            simp only; rw [addr_add, Nat.add_assoc]; exact w1), ρ, S, ?_, w2, w3, fun _ _ => rfl⟩
          have hrow := setCells_heap w b (o + (off + len * z)) xs0 g2
          exact .sl id off (len + xs.length) cap z b o c _ ty' fz g1 hrow g3 (fun hnn => by rw [setList_size]; exact g4 hnn) (by rw [setList_size]; exact g5) hle
        · rename_i hb2
          split at he
          · rename_i hbig
            obtain ⟨_, ys, y1, y2, _⟩ := snd_first (P := P) r' ha'.drew hsrc (Nat.le_refl _)
            rw [List.take_length, hfl] at y1
            rw [chunks_length] at y2
            have ly : ys.length = len * z := by rw [← y1.len]; simp; omega
            have lx1 : xs1.length = xs.length * z := by rw [← c1.len, lx]
            split at he
            · -- a known capacity
              rename_i k
              have hk := g3 k rfl; subst hk
              split at he
              · rename_i hlt
                injection he with he; injection he with he1 he2; subst he1; subst he2
                exact good_grow r hn T l0 hlt (Nat.le_trans (Nat.mul_le_mul_right _ (nextslicecap_le' _ _ hlt).1) hbig) y1 c1 ly lx1 y2 f1
              · cases he
            · -- whatever capacity: this block goes on, or a new one
              split at he
              · rename_i hro
                obtain ⟨hro, hoff⟩ := hro
                subst hro
                injection he with he; injection he with he1 he2; subst he1; subst he2
                by_cases hlt : c < len + xs.length
                · obtain ⟨rd, dd⟩ := r.drop id
                  obtain ⟨o', w', e1, e2⟩ := good_grow (ty := ty) rd hn T l0 hlt (Nat.le_trans (Nat.mul_le_mul_right _ (nextslicecap_le' _ _ hlt).2) hbig) y1 c1 ly lx1 y2 f1
                  exact ⟨o', w', e1, Good.after dd e2 rfl⟩
                · have hle : len + xs.length ≤ c := by omega
                  have hmul : (len + xs.length) * z ≤ c * z := Nat.mul_le_mul_right _ hle
                  rw [Nat.add_mul] at hmul
                  have hsz := g4 rfl
                  have lx0 : xs0.length = xs.length * z := by rw [← c0.len, lx]
                  have hst := run_storeCells_cells (P := P) b (o + (off + len * z)) xs0 0 w (fun j hj => by
                      rw [cell_of_heap g2]
                      have : o + (off + len * z) + 0 + j < arr.size := by omega
                      rw [Array.getElem?_eq_getElem this]; rfl) (fun j hj => frozen_of_heap g2 k5 (by omega)) c0.oneCell
                  obtain ⟨m1, m2⟩ := r.move (n := n) (o' := o + off) (blk := .cells ((cs.drop off).take (len * z) ++ xs.flatten) false) hh rfl g1 hn (setCells_turned w b (o + (off + len * z)) xs0) (by have := r.zero _ _ _ g1; omega) (fun hex => by
                    refine ⟨b, o + off, _, ty', fz, by simp, setCells_heap w b (o + (off + len * z)) xs0 g2, by rw [setList_size, List.length_append, List.length_take, List.length_drop, lx]; omega, fun j cc hj => ?_, by rw [setList_size]; exact k5, k6⟩
                    rw [setList_get]
                    rw [List.getElem?_append, List.length_take, List.length_drop] at hj
                    split at hj
                    · rename_i hj1
                      rw [List.getElem?_take, if_pos (by omega), List.getElem?_drop] at hj
                      obtain ⟨p1, p2, p3, p4⟩ := k4 _ cc hj
                      rw [if_neg (by omega)]
                      exact ⟨p1, p2, by rw [Nat.add_assoc]; exact p3, p4.ext hex (fun _ h => h) (upd_some hn)⟩
                    · rename_i hj1
                      have hjl := (List.getElem?_eq_some_iff.1 hj).1
                      rw [if_pos (by omega)]
                      have hidx : o + off + j - (o + (off + len * z)) = j - min (len * z) (cs.length - off) := by omega
                      rw [hidx]
                      have hlt2 : j - min (len * z) (cs.length - off) < xs0.length := by rw [← c0.len]; exact hjl
                      exact ⟨c0.one _ cc hj, _, List.getElem?_eq_getElem hlt2, (c0.rel _ cc _ hj (List.getElem?_eq_getElem hlt2)).ext hex (fun _ h => h) (upd_some hn)⟩)
                  refine ⟨_, _, run_append_room' (P := P) (w := w) (ty := ty) T.hu hux hd hi hz l0 hle f0 (by
                    simp only; rw [addr_add, Nat.add_assoc]; simpa using hst), _, S, ?_, m1, m2, fun id hid => upd_ne _ _ hid⟩
                  have hrow := setCells_heap w b (o + (off + len * z)) xs0 g2
                  have := AVR.sl (ρ := upd ρ n (some (b, o + off))) (S := S) (w := w.setCells b (o + (off + len * z)) xs0) n 0 (len + xs.length) none z b (o + off) c _ ty' fz (by simp) hrow (fun k hk => by cases hk) (fun _ => by rw [setList_size]; omega) (by rw [setList_size]; omega) hle
                  simpa using this
              · cases he
          · cases he
      · cases he
    · cases he
  · -- values that stay
    rename_i z' es cap
    have ha' := ha
    obtain ⟨a0, c, b, o, rfl, g1, g2, g3, g4, g5⟩ := avr_vsl ha
    split at he
    · rename_i h0
      injection he with he; injection he with he1 he2; subst he1; subst he2
      have f0' : (Builtin.firstCells z 0 v).run P w = .ok (#[] : Array Value) w := by
        rw [h0] at f0
        have : xs0 = [] := by
          have := c0.len
          rw [lx, h0] at this
          simpa using this.symm
        rw [this] at f0; exact f0
      refine ⟨_, _, run_append_room' (P := P) (w := w) (w' := w) (ty := ty) (m := 0) (new := []) T.hu hux hd hi hz (by rw [← h0]; exact l0) (by omega) f0' (by
        cases a0 <;> simp [storeCells]), Good.quiet r (by simpa using ha')⟩
    · split at he
      · rename_i k
        have hk := g1 k rfl; subst hk
        split at he
        · rename_i hb1
          obtain ⟨hz1, hlt, hbig⟩ := hb1
          injection he with he; injection he with he1 he2; subst he1; subst he2
          have hsrc : srcOf h z (.vsl z' es (some c)) = some es := by
            simp only [srcOf]
            rw [if_pos (by rcases hz1 with h | h; exact .inl h.symm; exact .inr h)]
          obtain ⟨q1, ys, y1, y2, _⟩ := snd_first (P := P) r' ha'.drew hsrc (Nat.le_refl _)
          rw [List.take_length] at y1
          have ly : ys.length = es.length * z := by rw [← y1.len]; have := flatten_take_length q1 (Nat.le_refl es.length); rwa [List.take_length] at this
          have lx1 : xs1.length = xs.length * z := by rw [← c1.len, lx]
          exact good_grow r hn T l0 hlt (Nat.le_trans (Nat.mul_le_mul_right _ (nextslicecap_le' _ _ hlt).1) hbig) y1 c1 ly lx1 y2 f1
        · cases he
      · cases he
end
end Go.Fw
