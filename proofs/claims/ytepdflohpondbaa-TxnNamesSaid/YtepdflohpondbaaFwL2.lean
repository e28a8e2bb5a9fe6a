/- Contracts from outside; tables over contracts. -/
import Derived.Test.YtepdflohpondbaaFwZ4
import Derived.Deep.Draws
import Derived.Sort.Grow
import Derived.Lib.ConvBytes
set_option linter.unusedSimpArgs false
set_option linter.unusedVariables false
namespace Go.Fw.Sy
open Go.RowKit

theorem frozen_of_block {w w' : World} {a : Addr} (h : w'.heap[a.block]? = w.heap[a.block]?) : w'.frozen? a = w.frozen? a := by
  simp only [World.frozen?, h]

theorem fr_of_below {w w' : World} (h : Below w.heap.size w w') (o : Nat → Prop) : Fr o w w' :=
  ⟨h.os, h.tape, h.output, h.size, fun b hb _ => h.block b hb, fun b arr ty fz hx => ⟨arr, fz, by rw [h.block b (Array.getElem?_eq_some_iff.1 hx).1]; exact hx, rfl⟩, fun x hx => frozen_of_block (h.block _ hx)⟩

theorem below_drewN (w : World) (n : Nat) : Below w.heap.size w (w.drewN n) := ⟨rfl, rfl, rfl, Nat.le_refl _, fun _ _ => rfl⟩
theorem below_grow {W w : World} (os : Array Obj) (h : Below W.heap.size W w) : Below W.heap.size W (Sort.grow w os) :=
  ⟨h.os, h.tape, h.output, Nat.le_trans h.size (by simp [Sort.grow]), fun k hk => by
    rw [← h.block k hk]
    have : k < w.heap.size := Nat.lt_of_lt_of_le hk h.size
    simp [Sort.grow, Array.getElem?_append_left this]⟩
section
variable {P : Program} {G : Glob}

/-- A contract that was proved outside: a value without names. -/
theorem spOk_of_calls {f : FuncId} {sp : Sp} (hc : Callable P f)
    (h : ∀ vs r bs, idsList vs = [] → sp vs = some (r, bs) → bs = [] ∧ r.ids = [] ∧ ∀ (S : Nat → Prop) (w : World) (xs : List Value), (∀ b, S b → b < w.heap.size) → GRel G S w → vs.length = xs.length → (∀ (i : Nat) (c : AV) (v : Value), vs[i]? = some c → xs[i]? = some v → PVR S w c v) →
      Calls P f xs.toArray w (fun e w' => ∃ v S', e = .returned v ∧ Below w.heap.size w w' ∧ (∀ b, S b → S' b) ∧ (∀ b, S' b → S b ∨ w.heap.size ≤ b ∧ b < w'.heap.size) ∧ PVR S' w' r v)) : SpOk P G f sp := by
  intro vs r bs hids hsp
  obtain ⟨rfl, hr, hcalls⟩ := h vs r bs hids hsp
  refine ⟨hc, r, noA, 0, [], fun N _ => ?_, List.nodup_nil, (fun id hid => by rw [hr] at hid; cases hid), (fun id hid => by cases hid), (ids_nil_ren _ r hr).symm, rfl⟩
  intro ρ S w xs rh hf hg hl ha
  refine (hcalls S w xs rh.bound hg hl fun i c v h1 h2 => avr_pvr (ha i c v h1 h2) ?_).mono ?_
  · rw [List.eq_nil_iff_forall_not_mem]; intro id hid
    have := idsList_get h1 hid
    rw [hids] at this; cases this
  · rintro e w' ⟨v, S', rfl, hb, h1, h2, h3⟩
    have hbd : ∀ b, S' b → b < w'.heap.size := fun b hb' => by
      rcases h2 b hb' with h4 | h4
      · exact Nat.lt_of_lt_of_le (rh.bound b h4) hb.size
      · exact h4.2
    refine ⟨v, r, noA, 0, ρ, S', rfl, .pv _ _ h3, ⟨fun id b hx => (by cases hx), fun id id' b b' x y x' y' hx => (by cases hx), hbd, fun id b o hx => Nat.lt_of_lt_of_le (rh.dom id b o hx) hb.size, rh.zero⟩,
      ⟨fr_of_below hb _, h1, fun b hb' => ?_, fun b hb' => ?_, fun _ _ h => h⟩, fun _ _ => rfl, Nat.le_refl _, rfl, rfl, rfl⟩
    · exact (h2 b hb').imp (fun h => h) fun h => .inr h.1
    · obtain ⟨i, bi, o, e, _⟩ := hb'
      cases e

/-- The same, where the value holds no view. -/
theorem spOk_flat {f : FuncId} {sp : Sp} (hc : Callable P f)
    (h : ∀ vs r bs, idsList vs = [] → sp vs = some (r, bs) → bs = [] ∧ r.ids = [] ∧ ∀ (S : Nat → Prop) (w : World) (xs : List Value), (∀ b, S b → b < w.heap.size) → GRel G S w → vs.length = xs.length → (∀ (i : Nat) (c : AV) (v : Value), vs[i]? = some c → xs[i]? = some v → PVR S w c v) →
      Calls P f xs.toArray w (fun e w' => ∃ v, e = .returned v ∧ Below w.heap.size w w' ∧ ∀ S' w', PVR S' w' r v)) : SpOk P G f sp :=
  spOk_of_calls hc fun vs r bs hids hsp => by
    obtain ⟨h1, h2, h3⟩ := h vs r bs hids hsp
    refine ⟨h1, h2, fun S w xs hb hg hl ha => (h3 S w xs hb hg hl ha).mono ?_⟩
    rintro e w' ⟨v, rfl, k1, k2⟩
    exact ⟨v, S, rfl, k1, fun _ h => h, fun _ h => .inl h, k2 S w'⟩

/-- Calls of a table over contracts, so deep. -/
def callsB (K0 : CallK) (tbl : FuncId → Option FnInfo) (F : Nat) : Nat → CallK
  | 0 => K0
  | d + 1 => fun f as h n => match tbl f with
    | some fi => runFn (callsB K0 tbl F d) F fi as h n
    | none => K0 f as h n

theorem callsB_ok (hmx : P.follows .mixedOrders = true) {K0 : CallK} (h0 : KOk P G K0) {F : Nat} {tbl : FuncId → Option FnInfo} (ht : ∀ f fi, tbl f = some fi → FnOk P G f fi) : ∀ d, KOk P G (callsB K0 tbl F d)
  | 0 => h0
  | d + 1 => fun f as h n r h' n' he hn => by
    simp only [callsB] at he
    split at he
    · rename_i fi hfi
      obtain ⟨q1, _, q2⟩ := runFn_sound hmx (callsB_ok hmx h0 ht d) (ht f fi hfi) he
      exact ⟨q1, q2⟩
    · exact h0 f as h n r h' n' he hn
end
end Go.Fw.Sy
