/- slices.Sorted over maps.Keys: the call of the evaluator is met. -/
import Derived.Test.YtepdflohpondbaaTxnSort
set_option linter.unusedSimpArgs false
set_option linter.unusedVariables false
namespace Go.Fw.Sy.Tx
open Go.Proofs Go.RowKit Go.Maps

theorem insI_perm (a : Int) : ∀ l, (insI a l).Perm (a :: l)
  | [] => .refl _
  | b :: l => by
    unfold insI
    split
    · exact .refl _
    · exact ((insI_perm a l).cons b).trans (.swap a b l)
theorem sortI_perm : ∀ l, (sortI l).Perm l
  | [] => .refl _
  | a :: l => (insI_perm a _).trans ((sortI_perm l).cons a)
theorem insI_sorted (a : Int) : ∀ l, l.Pairwise (· ≤ ·) → (insI a l).Pairwise (· ≤ ·)
  | [], _ => by simp [insI]
  | b :: l, h => by
    rw [List.pairwise_cons] at h
    unfold insI
    split
    · rename_i hab
      rw [List.pairwise_cons, List.pairwise_cons]
      exact ⟨fun x hx => by
        rcases List.mem_cons.1 hx with rfl | hx
        · exact hab
        · exact Int.le_trans hab (h.1 x hx), h⟩
    · rename_i hab
      rw [List.pairwise_cons]
      refine ⟨fun x hx => ?_, insI_sorted a l h.2⟩
      rcases List.mem_cons.1 ((insI_perm a l).mem_iff.1 hx) with rfl | hx
      · omega
      · exact h.1 x hx
theorem sortI_sorted : ∀ l, (sortI l).Pairwise (· ≤ ·)
  | [] => .nil
  | a :: l => insI_sorted a _ (sortI_sorted l)
theorem sortI_eq {ss ks : List Int} (h : ss.Perm ks) : ss.mergeSort (fun x y => decide (x ≤ y)) = sortI ks := by
  have tr : ∀ a b c : Int, decide (a ≤ b) = true → decide (b ≤ c) = true → decide (a ≤ c) = true := fun a b c h1 h2 => by simp only [decide_eq_true_eq] at *; exact Int.le_trans h1 h2
  have to : ∀ a b : Int, (decide (a ≤ b) || decide (b ≤ a)) = true := fun a b => by simp only [Bool.or_eq_true, decide_eq_true_eq]; exact Int.le_total a b
  refine List.Perm.eq_of_pairwise (le := fun a b : Int => a ≤ b) (fun a b _ _ h1 h2 => Int.le_antisymm h1 h2) ?_ (sortI_sorted ks) (((List.mergeSort_perm ss _).trans h).trans (sortI_perm ks).symm)
  exact (List.pairwise_mergeSort tr to ss).imp (fun h => by simpa using h)

theorem keyI_some {a : AV} {z : Int} (h : keyI a = some z) : a = .int .i64 z ∧ -9223372036854775808 ≤ z ∧ z ≤ 9223372036854775807 := by
  unfold keyI at h
  split at h
  · split at h
    · rename_i hb
      injection h with h; subst h; exact ⟨rfl, hb⟩
    · cases h
  · cases h
theorem mapM_keyI : ∀ {es : List (AV × AV × Nat)} {ks : List Int}, es.mapM (fun e => keyI e.1) = some ks → ks.length = es.length ∧ ∀ (i : Nat) (e : AV × AV × Nat) (z : Int), es[i]? = some e → ks[i]? = some z → keyI e.1 = some z
  | [], ks, h => by simp at h; subst h; exact ⟨rfl, fun i e z h => by simp at h⟩
  | e :: es, ks, h => by
    simp only [List.mapM_cons, Option.bind_eq_bind, Option.bind_eq_some_iff, Option.pure_def, Option.some.injEq] at h
    obtain ⟨z, hz, zs, hzs, rfl⟩ := h
    obtain ⟨k1, k2⟩ := mapM_keyI hzs
    refine ⟨by simp [k1], fun i e' z' h1 h2 => ?_⟩
    cases i with
    | zero => simp at h1 h2; subst h1; subst h2; exact hz
    | succ i => exact k2 i e' z' (by simpa using h1) (by simpa using h2)

/-- What is told of a map: its keys alone. -/
def RK : Value → Option (DataW Unit × List MemPlace) := fun _ => some (.nil, [])

/-- A world that goes on above: what was related is. -/
theorem rel_below {ρ : Nat → Option (Nat × Nat)} {S : Nat → Prop} {h : AHeap} {w w' : World} (r : RelH ρ S h w) (hb : Below w.heap.size w w') : Ext S w w' ∧ (∀ id b o, ρ id = some (b, o) → w'.heap[b]? = w.heap[b]?) :=
  ⟨⟨fun b hS => hb.block b (r.bound b hS), fun b arr ty fz hx => ⟨arr, fz, by rw [hb.block b (Array.getElem?_eq_some_iff.1 hx).1]; exact hx, rfl⟩⟩, fun id b o hi => hb.block b (r.dom id b o hi)⟩
end Go.Fw.Sy.Tx
