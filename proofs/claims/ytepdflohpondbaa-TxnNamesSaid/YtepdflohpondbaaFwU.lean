/- The evaluator is sound: regions that draw their order. -/
import Derived.Test.YtepdflohpondbaaFwT
set_option linter.unusedSimpArgs false
set_option linter.unusedVariables false
namespace Go.Fw

theorem runOp_silent {op : AOp} (hs : op.silent = true) {sl : Nat → AV} {h h' : AHeap} {n : Nat} : runOp op sl h n = runOp op sl h' n := by
  cases op <;> simp only [AOp.silent, Bool.false_eq_true] at hs <;> rfl

theorem appAt_map {g : Nat → Option Blk} : ∀ {l : List Nat} {id : Nat}, appAt (l.map fun i => (i, g i)) id = if id ∈ l then some (g id) else none
  | [], id => by simp [appAt]
  | i :: r, id => by
    simp only [List.map_cons, appAt]
    rw [appAt_map (l := r)]
    by_cases h : id ∈ r
    · simp [h]
    · by_cases e : i = id
      · subst e; simp [h]
      · have e2 : id ≠ i := fun e' => e e'.symm
        simp [h, e, e2]

theorem shownT_h {t : Tr (Option Blk)} : ∀ {L : List Nat} {id : Nat}, (∀ x ∈ L, x + 1 < 2 ^ 24) → hT (shownT t L) id = if id ∈ L then hT t id else none
  | [], id, _ => by simp [shownT, hT, Tr.get]
  | i :: r, id, h => by
    simp only [shownT, hT]
    rw [Tr.get_set _ _ _ _ _ _ (h i List.mem_cons_self)]
    by_cases e : id = i
    · subst e; simp
    · have := shownT_h (t := t) (L := r) (id := id) (fun x hx => h x (List.mem_cons_of_mem _ hx))
      simp only [hT] at this
      simp [e, this]

theorem mem_slotsOf {xs : List AOpd} {i : Nat} (h : AOpd.t i ∈ xs) : i ∈ slotsOf xs := by
  simp only [slotsOf, List.mem_filterMap]
  exact ⟨.t i, h, rfl⟩

theorem ev_looks {o : AOper} {sl sl' : Nat → AV} (h : ∀ t ∈ looksOf o, sl t = sl' t) : ∀ x ∈ o.op.opds, x.ev sl = x.ev sl' := by
  intro x hx
  cases x with
  | t i => exact h i (List.mem_append_left _ (mem_slotsOf hx))
  | c a => rfl

theorem wanted_looks {o : AOper} {sl sl' : Nat → AV} (h : ∀ t ∈ looksOf o, sl t = sl' t) : wantedA o.guard sl = wantedA o.guard sl' := by
  unfold wantedA
  cases hg : o.guard with
  | none => rfl
  | some g =>
    obtain ⟨t, want⟩ := g
    have := h t (by simp [looksOf, hg])
    simp only [this]

theorem callOf_looks {o : AOper} {sl sl' : Nat → AV} (h : ∀ t ∈ looksOf o, sl t = sl' t) : callOf sl o.op = callOf sl' o.op := by
  have he := ev_looks h
  have hmap : ∀ xs : List AOpd, (∀ x ∈ xs, x.ev sl = x.ev sl') → xs.map (·.ev sl) = xs.map (·.ev sl') := fun xs hx => List.map_congr_left hx
  cases hop : o.op <;> simp only [callOf]
  case call f xs =>
    rw [hmap xs (fun x hx => he x (by rw [hop]; exact hx))]
  case callv g xs =>
    rw [he g (by rw [hop]; exact List.mem_cons_self), hmap xs (fun x hx => he x (by rw [hop]; exact List.mem_cons_of_mem _ hx))]

section
variable {P : Program} {G : Glob} {K : CallK} {N m : Nat} {ops : Array Oper}

theorem evDOp_sound (hK : KOk P G K) {chk : List Nat} {o : Oper} {ao : AOper} {s : ES} {d : DRec} (hc : compOper P G m ops chk o = some ao) (he : evDOp K ao s = some d) :
    s.n ≤ d.n' ∧ (∀ x ∈ d.U, x.1 + 1 < 2 ^ 24) ∧ ∃ b, ∀ sl h, (∀ t ∈ looksOf ao, sl t = slT s.sl t) → (∀ id ∈ d.foot, h id = hT s.h id) →
      wantedA ao.guard sl = some b ∧ (b = true → Yields P G o sl h s.n d.n' d.n' d.c (app h d.U)) ∧ (b = false → d.c = .undef ∧ d.U = []) := by
  obtain ⟨h1, h2, h3, h4, h5⟩ := compOper_parts hc
  unfold evDOp at he
  split at he
  · rename_i hw
    split at he
    · rename_i f as hco
      unfold evDCall at he
      generalize shownIds s.h 4096 [] (idsList as) = L at he
      split at he
      · rename_i r h' n' hk
        split at he
        · rename_i hb
          obtain ⟨hb1, hb2, hb3⟩ := hb
          injection he with he; subst he
          have hLs : ∀ x ∈ L, x + 1 < 2 ^ 24 ∧ (hT s.h x).isSome = true := by
            intro x hx
            have := List.all_eq_true.1 hb2 x hx
            simpa [hT] using this
          refine ⟨hb1, ?_, true, fun sl h hsl hh => ⟨by rw [wanted_looks hsl]; exact hw, fun _ => ?_, fun hf => by cases hf⟩⟩
          · intro x hx
            simp only [List.mem_map, List.mem_append, List.mem_range'_1] at hx
            obtain ⟨id, hid, rfl⟩ := hx
            rcases hid with hid | hid
            · exact (hLs id hid).1
            · simp only; omega
          · obtain ⟨hf, hcall⟩ := hK _ _ _ _ _ _ _ hk hb1
            have hsh : ∀ id, hT (shownT s.h L) id = if id ∈ L then hT s.h id else none := fun id => shownT_h fun x hx => (hLs x hx).1
            have hfr := afn_frame (h := h) (hcall n' (Nat.le_refl _)) (fun id b hb => by
              rw [hsh] at hb
              split at hb
              · rename_i hid
                rw [hh id hid]; exact hb
              · cases hb)
            refine yields_callOf h1 (by rw [callOf_looks hsl]; exact hco) hf (hfr.mono ?_)
            rintro c' h'' n'' ⟨h0, ⟨rfl, rfl, rfl⟩, rfl⟩
            refine ⟨rfl, ?_, rfl⟩
            funext id
            rw [app_at, appAt_map]
            simp only [mixH, hsh, List.mem_append, List.mem_range'_1]
            by_cases hid : id ∈ L
            · simp only [hid, if_true, (hLs id hid).2, true_or]; rfl
            · simp only [hid, if_false, Option.isSome_none, Bool.false_eq_true, false_or]
              by_cases hr : s.n ≤ id ∧ id < n''
              · rw [if_pos hr, if_pos (by omega)]; rfl
              · rw [if_neg hr, if_neg (by omega)]; rfl
        · cases he
      · cases he
    · split at he
      · rename_i hco a U hr
        split at he
        · rename_i hu
          injection he with he; subst he
          refine ⟨Nat.le_succ _, idsLt_spec hu, true, fun sl h hsl hh => ⟨by rw [wanted_looks hsl]; exact hw, fun _ => ?_, fun hf => by cases hf⟩⟩
          refine yields_op (Nat.lt_succ_self _) h1 ?_
          rw [runOp_slots (sl' := slT s.sl) (ev_looks hsl)]
          simp only at hh
          by_cases hsil : ao.op.silent = true
          · rw [runOp_silent hsil (h' := hT s.h)]; exact hr
          · rw [if_neg hsil] at hh
            rw [runOp_heap (h' := hT s.h) (fun x hx id hid => hh id (List.mem_flatMap.2 ⟨x, hx, hid⟩))]
            exact hr
        · cases he
      · cases he
  · rename_i hw
    injection he with he; subst he
    exact ⟨Nat.le_refl _, fun x hx => by simp at hx, false, fun sl h hsl hh => ⟨by rw [wanted_looks hsl]; exact hw, fun hf => (by cases hf), fun _ => ⟨rfl, rfl⟩⟩⟩
  · cases he

/-! ### The run in the order of the text -/
def stD (l : List AOper) (ds : List DRec) (s : ES) : Nat → ES
  | 0 => s
  | i + 1 => match l[i]?, ds[i]? with
    | some o, some d => stepD o d (stD l ds s i)
    | _, _ => stD l ds s i

theorem stD_congr {l : List AOper} {ds ds' : List DRec} {s : ES} : ∀ {i : Nat}, (∀ j, j < i → ds[j]? = ds'[j]?) → stD l ds s i = stD l ds' s i
  | 0, _ => rfl
  | i + 1, h => by
    simp only [stD, h i (Nat.lt_succ_self i)]
    rw [stD_congr (i := i) (fun j hj => h j (by omega))]

theorem evDrawn_spec {l0 : List AOper} {s0 : ES} : ∀ {l : List AOper} {ds ds' : List DRec} {s s' : ES}, l0 = l0.take ds.length ++ l → ds.length ≤ l0.length → s = stD l0 ds s0 ds.length → evDrawn K l ds s = some (ds', s') →
    (∀ (i : Nat) (o : AOper) (d : DRec), i < ds.length → l0[i]? = some o → ds[i]? = some d → evDOp K o (stD l0 ds s0 i) = some d ∧ ∀ j ∈ o.chk, ∃ x, ds[j]? = some x ∧ j < i ∧ clash x d = false) →
    ds'.length = l0.length ∧ s' = stD l0 ds' s0 l0.length ∧ ∀ (i : Nat) (o : AOper) (d : DRec), l0[i]? = some o → ds'[i]? = some d → evDOp K o (stD l0 ds' s0 i) = some d ∧ ∀ j ∈ o.chk, ∃ x, ds'[j]? = some x ∧ j < i ∧ clash x d = false
  | [], ds, ds', s, s', hl, hle, hs, he, hp => by
    simp only [evDrawn, Option.some.injEq, Prod.mk.injEq] at he
    obtain ⟨rfl, rfl⟩ := he
    have hlen : ds.length = l0.length := by
      have := congrArg List.length hl
      simp at this; omega
    refine ⟨hlen, by rw [← hlen]; exact hs, fun i o d h1 h2 => hp i o d ?_ h1 h2⟩
    rcases Nat.lt_or_ge i ds.length with h | h
    · exact h
    · rw [List.getElem?_eq_none h] at h2; cases h2
  | o :: r, ds, ds', s, s', hl, hle, hs, he, hp => by
    have hlt : ds.length < l0.length := by
      have := congrArg List.length hl
      simp at this; omega
    have ho : l0[ds.length]? = some o := by
      rw [hl, List.getElem?_append_right (by rw [List.length_take]; exact Nat.min_le_left _ _)]
      simp [Nat.min_eq_left hle]
    simp only [evDrawn] at he
    split at he
    · rename_i d hd
      split at he
      · rename_i hchk
        have hcg : ∀ i, i ≤ ds.length → stD l0 (ds ++ [d]) s0 i = stD l0 ds s0 i := fun i hi => stD_congr fun j hj => List.getElem?_append_left (by omega)
        refine evDrawn_spec (l := r) (ds := ds ++ [d]) ?_ (by simp; omega) ?_ he ?_
        · rw [List.length_append, List.length_singleton, List.take_add_one, ho]
          simp only [Option.toList_some, List.append_assoc, List.singleton_append]
          exact hl
        · rw [List.length_append, List.length_singleton]
          simp only [stD, ho, List.getElem?_append_right (Nat.le_refl ds.length), Nat.sub_self, List.getElem?_cons_zero]
          rw [hcg _ (Nat.le_refl _), ← hs]
        · intro i o' d' hi h1 h2
          rw [List.length_append, List.length_singleton] at hi
          rcases Nat.lt_or_ge i ds.length with h | h
          · rw [List.getElem?_append_left h] at h2
            obtain ⟨p1, p2⟩ := hp i o' d' h h1 h2
            rw [hcg i (by omega)]
            refine ⟨p1, fun j hj => ?_⟩
            obtain ⟨x, q1, q2, q3⟩ := p2 j hj
            exact ⟨x, by rw [List.getElem?_append_left (by omega)]; exact q1, q2, q3⟩
          · have : i = ds.length := by omega
            subst this
            rw [ho] at h1; injection h1 with h1; subst h1
            rw [List.getElem?_append_right (Nat.le_refl _)] at h2
            simp at h2; subst h2
            rw [hcg _ (Nat.le_refl _), ← hs]
            refine ⟨hd, fun j hj => ?_⟩
            have := List.all_eq_true.1 hchk j hj
            split at this
            · rename_i x hx
              have hjl : j < ds.length := by
                rcases Nat.lt_or_ge j ds.length with h | h
                · exact h
                · rw [List.getElem?_eq_none h] at hx; cases hx
              exact ⟨x, by rw [List.getElem?_append_left hjl]; exact hx, hjl, by simpa using this⟩
            · cases this
      · cases he
    · cases he
end
end Go.Fw
