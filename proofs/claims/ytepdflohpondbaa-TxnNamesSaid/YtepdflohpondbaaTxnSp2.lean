/- slices.Sorted over maps.Keys: the call of the evaluator is met. -/
import Derived.Test.YtepdflohpondbaaTxnSp
set_option linter.unusedSimpArgs false
set_option linter.unusedVariables false
namespace Go.Fw.Sy.Tx
open Go.Proofs Go.RowKit Go.Maps Go.WideElems

/-- A map's block, told by its keys. -/
theorem map_owned {ρ : Nat → Option (Nat × Nat)} {S : Nat → Prop} {w : World} {es : List (AV × AV × Nat)} {clock b : Nat} {ents : Array MapEntry} {ks : List Int}
    (hh : w.heap[b]? = some (.map ents clock)) (hsz : ents.size = es.length)
    (hes : ∀ (i : Nat) (k x : AV) (n : Nat), es[i]? = some (k, x, n) → ∃ m : MapEntry, ents[i]? = some m ∧ AVR ρ S w k m.key ∧ AVR ρ S w x m.val ∧ m.born = n)
    (hks : es.mapM (fun e => keyI e.1) = some ks) (hst : stampsOk es clock ks = true) :
    ∃ D0 : DataW Unit, w.ownsMap Try.prog 3 RK b ents.size D0 ∧ (intKeys D0).Perm ks ∧ Maps.size D0 = ks.length ∧ ks.length ≤ 1000000 := by
  obtain ⟨kl, kg⟩ := mapM_keyI hks
  unfold stampsOk at hst
  simp only [Bool.and_eq_true, decide_eq_true_eq] at hst
  obtain ⟨s1, s2, s3, s4⟩ := hst
  have s4' : es.length ≤ 1000000 := by simpa using s4
  have at_ : ∀ (i : Nat) (m : MapEntry), ents.toList[i]? = some m → ∃ z e, ks[i]? = some z ∧ es[i]? = some e ∧ m.key = .int .i64 z ∧ m.born = e.2.2 ∧ -9223372036854775808 ≤ z ∧ z ≤ 9223372036854775807 := by
    intro i m hm
    have hi : i < es.length := by
      have := (List.getElem?_eq_some_iff.1 hm).1
      rw [Array.length_toList] at this; omega
    have he : es[i]? = some es[i] := List.getElem?_eq_getElem hi
    have hz : ks[i]? = some (ks[i]'(by omega)) := List.getElem?_eq_getElem _
    obtain ⟨m', h1, h2, _, h4⟩ := hes i es[i].1 es[i].2.1 es[i].2.2 he
    rw [← Array.getElem?_toList] at h1
    rw [hm] at h1; injection h1 with h1; subst h1
    obtain ⟨q1, q2, q3⟩ := keyI_some (kg i _ _ he hz)
    rw [q1] at h2
    exact ⟨_, _, hz, he, avr_int h2, h4, q2, q3⟩
  have hlen : ents.toList.length = ks.length := by rw [Array.length_toList]; omega
  have hkeys : ents.toList.map (·.key) = ks.map (Value.int .i64) := by
    refine List.ext_getElem? fun i => ?_
    rw [List.getElem?_map, List.getElem?_map]
    cases hm : ents.toList[i]? with
    | none =>
      rw [List.getElem?_eq_none_iff] at hm
      rw [List.getElem?_eq_none (by omega)]; rfl
    | some m =>
      obtain ⟨z, e, h1, _, h3, _⟩ := at_ i m hm
      rw [h1]; simp [h3]
  have hborn : ents.toList.map (·.born) = es.map (·.2.2) := by
    refine List.ext_getElem? fun i => ?_
    rw [List.getElem?_map, List.getElem?_map]
    cases hm : ents.toList[i]? with
    | none =>
      rw [List.getElem?_eq_none_iff] at hm
      rw [List.getElem?_eq_none (by omega)]; rfl
    | some m =>
      obtain ⟨z, e, _, h2, _, h4, _⟩ := at_ i m hm
      rw [h2]; simp [h4]
  have hrd : ∀ x ∈ ents.toList, ∃ z, x.key = .int .i64 z ∧ rd Try.prog 3 RK x = some (.int .i64 z, .nil) := by
    intro x hx
    obtain ⟨i, hi⟩ := List.mem_iff_getElem?.1 hx
    obtain ⟨z, e, _, _, h3, _, h5, h6⟩ := at_ i x hi
    refine ⟨z, h3, ?_⟩
    have hk : keyOf Try.prog 3 x.key = some (.int .i64 z) := by
      rw [h3]
      exact keyOf_int_mk Try.underlying3 (by simp [Lit.wf, IntKind.min, IntKind.max, IntKind.signed, IntKind.bits]; omega)
    cases x with
    | mk key val born => exact rd_mk hk (show RK val = some (.nil, []) from rfl)
  have hmap : (ents.toList.map (rg Try.prog 3 RK)).map (fun p => intOf p.1) = ks := by
    have e : ∀ l : List MapEntry, (∀ x ∈ l, ∃ z, x.key = .int .i64 z ∧ rd Try.prog 3 RK x = some (.int .i64 z, .nil)) → (l.map (rg Try.prog 3 RK)).map (fun p => Value.int .i64 (intOf p.1)) = l.map (·.key) := by
      intro l
      induction l with
      | nil => intro _; rfl
      | cons x l ih =>
        intro h
        obtain ⟨z, h1, h2⟩ := h x (by simp)
        have hih := ih (fun y hy => h y (List.mem_cons_of_mem _ hy))
        rw [List.map_cons, List.map_cons, List.map_cons, hih, rg_of h2, h1]
        rfl
    have := e _ hrd
    rw [hkeys] at this
    have inj : ∀ a b : List Int, a.map (Value.int .i64) = b.map (Value.int .i64) → a = b := fun a b h => (List.map_inj_right (fun x y h => by simpa using h)).1 h
    exact inj _ _ (by rw [← this]; simp)
  refine ⟨_, ⟨ents, clock, hh, ⟨by unfold maxLen; omega, ⟨fun x hx => ?_, by rw [hborn]; exact s2, ?_⟩, fun x hx => ?_⟩, Nat.le_refl _, rfl⟩, ?_, ?_, by omega⟩
  · obtain ⟨i, hi⟩ := List.mem_iff_getElem?.1 hx
    obtain ⟨z, e, _, h2, _, h4, _⟩ := at_ i x hi
    have := List.all_eq_true.1 s1 e (List.mem_of_getElem? h2)
    rw [h4]; simpa using this
  · rw [hkeys]
    exact List.pairwise_map.2 (s3.imp fun h e => h (by simpa using e))
  · obtain ⟨z, _, h⟩ := hrd x hx; exact ⟨_, h⟩
  · show (List.map (fun p => intOf p.1) ((ents.toList.map (rg Try.prog 3 RK)).foldr DataW.insert [])).Perm ks
    rw [← hmap]
    exact (Go.WideShapes.sorted_perm _).map _
  · show ((ents.toList.map (rg Try.prog 3 RK)).foldr DataW.insert []).length = ks.length
    rw [(Go.WideShapes.sorted_perm _).length_eq, List.length_map, hlen]
end Go.Fw.Sy.Tx
