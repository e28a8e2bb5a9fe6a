/- slices.Sorted over maps.Keys: the call of the evaluator is met. -/
import Derived.Test.YtepdflohpondbaaTxnSp2
set_option linter.unusedSimpArgs false
set_option linter.unusedVariables false
namespace Go.Fw.Sy.Tx
open Go.Proofs Go.RowKit Go.Maps

theorem one_val {xs : List Value} (h : 1 = xs.length) : ∃ x, xs = [x] := by
  match xs, h with
  | [x], _ => exact ⟨x, rfl⟩

theorem callable16 : Callable Try.prog 16 := ⟨Try.f16, Try.func16, by kernel_rfl, by kernel_rfl⟩

theorem sortK_ok (vs0 : List AV) (h : AHeap) (n : Nat) (r : AV) (h' : AHeap) (n' : Nat) (he : sortK vs0 h n = some (r, h', n')) (hn : n ≤ n') :
    Callable Try.prog 16 ∧ ∀ N, n' ≤ N → AFn Try.prog G0 16 vs0 h n N (fun r' h'' n'' => r' = r ∧ h'' = h' ∧ n'' = n') := by
  refine ⟨callable16, fun N hN => ?_⟩
  unfold sortK at he
  split at he
  case h_2 => cases he
  rename_i b
  split at he
  case h_2 => cases he
  rename_i m rest ro hb
  split at he
  case h_2 => cases he
  rename_i es clock hm
  split at he
  case h_2 => cases he
  rename_i ks hks
  split at he
  case isFalse => cases he
  rename_i hst
  intro ρ S w vs rh hf hg hl ha
  obtain ⟨v, rfl⟩ := one_val hl
  obtain ⟨xs, ys, rfl, e1, e2, _, e3⟩ := avr_func (ha 0 _ v rfl rfl)
  obtain rfl : xs = [] := List.eq_nil_of_length_eq_zero (by simpa using e1.symm)
  obtain ⟨y, rfl⟩ := one_val e2
  obtain ⟨B, o, rfl, hρ⟩ := avr_ptr (e3 0 _ y rfl rfl)
  obtain rfl := rh.zero _ _ _ hρ
  obtain ⟨B', o', arr, ty, fz, g1, g2, g3, g4, _, _⟩ := rh.live b _ hb
  rw [hρ] at g1; injection g1 with g1; injection g1 with g1 g1'; subst g1; subst g1'
  obtain ⟨_, u, hu, hur⟩ := g4 0 _ rfl
  obtain ⟨bm, rfl, hρm⟩ := avr_map hur
  obtain ⟨bm', ents, k1, k2, k3, k4, _⟩ := rh.live m _ hm
  rw [hρm] at k1; injection k1 with k1; injection k1 with k1 _; subst k1
  obtain ⟨D0, hown, hperm, hsize, hsm⟩ := map_owned k2 k3 k4 hks hst
  have hBlt : B < w.heap.size := rh.dom _ _ _ hρ
  have hcell : w.cell? ⟨B, 0, none⟩ = some (.map (some bm)) := by
    rw [cell_of_heap g2]; simpa using hu
  refine (Try.sortedKeys B bm ents.size D0 RK w hBlt (by simpa using hcell) hown (by rw [hsize]; unfold maxLen; omega) (by rw [hsize]; omega)).mono ?_
  rintro e w' ⟨v, ss, rfl, hp, hrow, hnil, hbel⟩
  obtain ⟨hex, hkept⟩ := rel_below rh hbel
  have hpk : ss.Perm ks := hp.trans hperm
  rw [sortI_eq hpk] at hrow
  have hlen : ss.length = (sortI ks).length := (hpk.trans (sortI_perm ks).symm).length_eq
  have hrel : RelH ρ S h w' := ⟨fun id blk hx => (rh.live id blk hx).keep hex (fun _ h => h) (fun _ _ h => h) (fun b o hi => hkept id b o hi) (fun _ _ _ _ h => h), rh.inj, fun b hS => Nat.lt_of_lt_of_le (rh.bound b hS) hbel.size, fun id b o hi => Nat.lt_of_lt_of_le (rh.dom id b o hi) hbel.size, rh.zero⟩
  split at he
  · rename_i hs
    simp only [Option.some.injEq, Prod.mk.injEq] at he
    obtain ⟨rfl, rfl, rfl⟩ := he
    have hss : ss = [] := List.eq_nil_of_length_eq_zero (by rw [hlen, hs]; rfl)
    obtain rfl := hnil.2 hss
    exact ⟨_, _, h, n, ρ, S, rfl, .pv _ _ (pvr_empty S w' 0 (some 0) none 0 (fun k hk => by injection hk) (by simp)), hrel, ⟨fr_of_below hbel _, fun _ h => h, fun _ h => .inl h, fun _ h => .inl h, fun _ _ h => h⟩, fun _ _ => rfl, Nat.le_refl _, rfl, rfl, rfl⟩
  · rename_i a l hs
    simp only [Option.some.injEq, Prod.mk.injEq] at he
    obtain ⟨rfl, rfl, rfl⟩ := he
    have hne : ss ≠ [] := by rintro rfl; rw [hs] at hlen; simp at hlen
    rw [hlen, hs] at hrow
    obtain ⟨_, hrow⟩ := hrow
    rcases hrow with ⟨hv, _⟩ | ⟨g, cap, cur, rfl, hg0, hg1, hg2, hg3, hg4, hg5⟩
    · exact absurd (hnil.1 hv) hne
    have hρn : ρ n = none := hf n (Nat.le_refl _) (by omega)
    have up := upd_some hρn (x := (g, 0))
    have hSg : ¬ S g := fun h => by have := rh.bound g h; omega
    have hcur : ∀ (i : Nat) (c : AV), ((a :: l).map fun z => AV.int .i64 z)[i]? = some c → c.isCell = true ∧ ∃ v, cur[0 + i]? = some v ∧ AVR (upd ρ n (some (g, 0))) S w' c v := by
      intro i c hc
      rw [List.getElem?_map, Option.map_eq_some_iff] at hc
      obtain ⟨z, hz, rfl⟩ := hc
      refine ⟨rfl, .int .i64 z, ?_, .pv _ _ (.int _ _)⟩
      have hi : i < (a :: l).length := (List.getElem?_eq_some_iff.1 hz).1
      have := congrArg (fun q => q[i]?) hg5
      rw [List.getElem?_take, if_pos (by omega), List.getElem?_map, hz, Array.getElem?_toList] at this
      rw [Nat.zero_add]; exact this
    refine ⟨_, _, _, n + 1, upd ρ n (some (g, 0)), S, rfl, .sl n 0 (l.length + 1) none 1 g 0 cap cur 3 (0, 0) (upd_eq _ _ _) hg1 (fun k hk => by cases hk) (fun _ => by omega) (by omega) (by simpa using hg2),
      ⟨fun id blk hx => ?_, fun id id' blk blk' x y x' y' hx hx' hi hi' hne' => ?_, hrel.bound, fun id x y hi => ?_, fun id x y hi => ?_⟩, ⟨fr_of_below hbel _, fun _ h => h, fun _ h => .inl h, fun x hx => ?_, up⟩, fun id hid => ?_, by omega, rfl, rfl, rfl⟩
    · by_cases e : id = n
      · subst e; rw [upd_eq] at hx; injection hx with hx; subst hx
        exact ⟨g, 0, cur, 3, (0, 0), upd_eq _ _ _, hg1, by simp at hg2 ⊢; omega, hcur, fun i hi h => by omega, by simpa using hSg⟩
      · rw [upd_ne _ _ e] at hx
        exact (rh.live id blk hx).keep hex (fun _ h => h) up (fun b o hi => hkept id b o hi) (fun _ _ _ _ h => h)
    · have low : ∀ i x y, ρ i = some (x, y) → x ≠ g := fun i x y h e => by have := rh.dom _ _ _ h; omega
      by_cases e : id = n
      · subst e
        rw [upd_eq] at hi; injection hi with hi; injection hi with hi _; subst hi
        rw [upd_ne _ _ (Ne.symm hne')] at hi'
        exact (low _ _ _ hi').symm
      · rw [upd_ne _ _ e] at hi hx
        by_cases e' : id' = n
        · subst e'
          rw [upd_eq] at hi'; injection hi' with hi'; injection hi' with hi' _; subst hi'
          exact low _ _ _ hi
        · rw [upd_ne _ _ e'] at hi' hx'
          exact rh.inj id id' blk blk' x y x' y' hx hx' hi hi' hne'
    · by_cases e : id = n
      · subst e; rw [upd_eq] at hi; injection hi with hi; injection hi with hi _; subst hi
        exact (Array.getElem?_eq_some_iff.1 hg1).1
      · rw [upd_ne _ _ e] at hi; exact Nat.lt_of_lt_of_le (rh.dom _ _ _ hi) hbel.size
    · by_cases e : id = n
      · subst e; rw [upd_eq] at hi; injection hi with hi; injection hi with _ hi; exact hi.symm
      · rw [upd_ne _ _ e] at hi; exact rh.zero _ _ _ hi
    · obtain ⟨i, bi, y, q1, q2, q3⟩ := hx
      by_cases e : i = n
      · subst e; rw [upd_eq] at q3; injection q3 with q3; injection q3 with q3 _; subst q3; exact .inr hg0
      · rw [upd_ne _ _ e] at q1 q3; exact .inl ⟨i, bi, y, q1, q2, q3⟩
    · rw [upd_ne _ _ (by omega)]

theorem k0_ok : KOk Try.prog G0 K0 := addK_ok noK_ok (fun a0 h n r h' n' he hn => sortK_ok a0 h n r h' n' he hn)
theorem kt_ok (d : Nat) : KOk Try.prog G0 (KT d) := callsB_ok hmx k0_ok tbl_ok d
end Go.Fw.Sy.Tx
