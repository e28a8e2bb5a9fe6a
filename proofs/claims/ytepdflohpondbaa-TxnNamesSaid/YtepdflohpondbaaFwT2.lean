/- The evaluator over functions is sound. -/
import Derived.Test.YtepdflohpondbaaFwS2
import Derived.ScopeJumps
set_option linter.unusedSimpArgs false
set_option linter.unusedVariables false
namespace Go.Fw.Sy

def KOk (P : Program) (G : Glob) (K : CallK) : Prop := ∀ f as h n r h' n', K f as h n = some (r, h', n') → n ≤ n' →
  Callable P f ∧ ∀ N, n' ≤ N → AFn P G f as (h) n N (fun r' h'' n'' => r' = r ∧ h'' = h' ∧ n'' = n')

section
variable {P : Program} {G : Glob} {ρ : Nat → Option (Nat × Nat)} {S : Nat → Prop} {w : World} {K : CallK} {N m : Nat} {ops : Array Oper}

theorem evOp_sound (hK : KOk P G K) (hm : m + 1 < 2 ^ 24) {chk : List Nat} {o : Oper} {ao : AOper} {s s' : FS} (hc : compOper P G m ops chk o = some ao) (he : evOp K ao s = some s') :
    s.n ≤ s'.n ∧ ∀ N, s'.n ≤ N → Steps1 P G ops o (s.as N m) (s'.as N m) := by
  obtain ⟨h1, h2, h3, h4, h5⟩ := compOper_parts hc
  have hput : ∀ a, (putSl s.sl ao.dst a) = putSl (s.sl) o.dst a := fun a => by rw [h3]
  unfold evOp at he
  split at he
  · rename_i hw
    split at he
    · rename_i f as hco
      split at he
      · rename_i r h' n' hk
        split at he
        · rename_i hn
          injection he with he; subst he
          obtain ⟨hf, hcall⟩ := hK _ _ _ _ _ _ _ hk hn
          refine ⟨hn, fun N hN => ⟨h5, ao.guard, h2, .inr ⟨hw, r, h', n', hn, yields_callOf h1 hco hf (hcall N hN), ?_⟩⟩⟩
          simp only [FS.as, hput]
        · cases he
      · cases he
    · split at he
      · rename_i a U hr
        injection he with he; subst he
        refine ⟨Nat.le_succ _, fun N hN => ⟨h5, ao.guard, h2, .inr ⟨hw, a, app s.h U, s.n + 1, Nat.le_succ _, yields_op hN h1 hr, ?_⟩⟩⟩
        simp only [FS.as, hput]
      · cases he
  · rename_i hw
    injection he with he; subst he
    refine ⟨Nat.le_refl _, fun N hN => ⟨h5, ao.guard, h2, .inl ⟨hw, ?_⟩⟩⟩
    simp only [FS.as, hput]
  · cases he

theorem evOps_sound (hK : KOk P G K) (hm : m + 1 < 2 ^ 24) {chk : Nat → List Nat} : ∀ {l : List Oper} {i : Nat} {al : List AOper} {s s' : FS}, compOpers P G m ops chk i l = some al → evOps K al s = some s' →
    s.n ≤ s'.n ∧ ∀ N, s'.n ≤ N → Runs P G ops l (s.as N m) (s'.as N m)
  | [], i, al, s, s', hc, he => by
    simp only [compOpers, Option.some.injEq] at hc; subst hc
    simp only [evOps, Option.some.injEq] at he; subst he
    exact ⟨Nat.le_refl _, fun N _ => rfl⟩
  | o :: r, i, al, s, s', hc, he => by
    simp only [compOpers] at hc
    split at hc
    · rename_i ao al' h1 h2
      injection hc with hc; subst hc
      simp only [evOps] at he
      split at he
      · rename_i s1 hs
        obtain ⟨l1, p1⟩ := evOp_sound hK hm h1 hs
        obtain ⟨l2, p2⟩ := evOps_sound hK hm h2 he
        exact ⟨Nat.le_trans l1 l2, fun N hN => ⟨s1.as N m, p1 N (Nat.le_trans l2 hN), p2 N hN⟩⟩
      · cases he
    · cases hc
end

theorem shownT_h {t : AHeap} {L : List Nat} {id : Nat} : shownT t L id = if id ∈ L then t id else none := by
  simp only [shownT, List.contains_iff_mem]

section
variable {P : Program} {G : Glob} {K : CallK} {N m : Nat} {ops : Array Oper}

theorem evDOp_sound (hK : KOk P G K) {chk : List Nat} {o : Oper} {ao : AOper} {s : FS} {d : DRec} (hc : compOper P G m ops chk o = some ao) (he : evDOp K ao s = some d) :
    s.n ≤ d.n' ∧ ∃ b, ∀ sl h, (∀ t ∈ looksOf ao, sl t = s.sl t) → (∀ id ∈ d.foot, h id = s.h id) →
      wantedA ao.guard sl = some b ∧ (b = true → Yields P G o sl h s.n d.n' d.n' d.c (app h d.U)) ∧ (b = false → d.c = .undef ∧ d.U = []) := by
  obtain ⟨h1, h2, h3, h4, h5⟩ := compOper_parts hc
  unfold evDOp at he
  split at he
  · rename_i hw
    split at he
    · rename_i f as hco
      unfold evDCall at he
      generalize shownIds s.h 4096 [] (idsList as) = L at he
      split at he
      · rename_i r h' n' hk
        split at he
        · rename_i hb
          obtain ⟨hb1, hb2⟩ := hb
          injection he with he; subst he
          have hLs : ∀ x ∈ L, (s.h x).isSome = true := fun x hx => List.all_eq_true.1 hb2 x hx
          refine ⟨hb1, true, fun sl h hsl hh => ⟨by rw [wanted_looks hsl]; exact hw, fun _ => ?_, fun hf => by cases hf⟩⟩
          · obtain ⟨hf, hcall⟩ := hK _ _ _ _ _ _ _ hk hb1
            have hsh : ∀ id, (shownT s.h L) id = if id ∈ L then s.h id else none := fun id => shownT_h
            have hfr := afn_frame (h := h) (hcall n' (Nat.le_refl _)) (fun id b hb => by
              rw [hsh] at hb
              split at hb
              · rename_i hid
                rw [hh id hid]; exact hb
              · cases hb)
            refine yields_callOf h1 (by rw [callOf_looks hsl]; exact hco) hf (hfr.mono ?_)
            rintro c' h'' n'' ⟨h0, ⟨rfl, rfl, rfl⟩, rfl⟩
            refine ⟨rfl, ?_, rfl⟩
            funext id
            rw [app_at, appAt_map]
            simp only [mixH, hsh, List.mem_append, List.mem_range'_1]
            by_cases hid : id ∈ L
            · simp only [hid, if_true, (hLs id hid), true_or]; rfl
            · simp only [hid, if_false, Option.isSome_none, Bool.false_eq_true, false_or]
              by_cases hr : s.n ≤ id ∧ id < n''
              · rw [if_pos hr, if_pos (by omega)]; rfl
              · rw [if_neg hr, if_neg (by omega)]; rfl
        · cases he
      · cases he
    · split at he
      · rename_i hco a U hr
        injection he with he; subst he
        refine ⟨Nat.le_succ _, true, fun sl h hsl hh => ⟨by rw [wanted_looks hsl]; exact hw, fun _ => ?_, fun hf => by cases hf⟩⟩
        refine yields_op (Nat.lt_succ_self _) h1 ?_
        rw [runOp_slots (sl' := s.sl) (ev_looks hsl)]
        simp only at hh
        by_cases hsil : ao.op.silent = true
        · rw [runOp_silent hsil (h' := s.h)]; exact hr
        · rw [if_neg hsil] at hh
          rw [runOp_heap (h' := s.h) (fun x hx id hid => hh id (List.mem_flatMap.2 ⟨x, hx, hid⟩))]
          exact hr
      · cases he
  · rename_i hw
    injection he with he; subst he
    exact ⟨Nat.le_refl _, false, fun sl h hsl hh => ⟨by rw [wanted_looks hsl]; exact hw, fun hf => (by cases hf), fun _ => ⟨rfl, rfl⟩⟩⟩
  · cases he

/-! ### The run in the order of the text -/
theorem stD_congr {l : List AOper} {ds ds' : List DRec} {s : FS} : ∀ {i : Nat}, (∀ j, j < i → ds[j]? = ds'[j]?) → stD l ds s i = stD l ds' s i
  | 0, _ => rfl
  | i + 1, h => by
    simp only [stD, h i (Nat.lt_succ_self i)]
    rw [stD_congr (i := i) (fun j hj => h j (by omega))]

theorem evDrawn_spec {l0 : List AOper} {s0 : FS} : ∀ {l : List AOper} {ds ds' : List DRec} {s s' : FS}, l0 = l0.take ds.length ++ l → ds.length ≤ l0.length → s = stD l0 ds s0 ds.length → evDrawn K l ds s = some (ds', s') →
    (∀ (i : Nat) (o : AOper) (d : DRec), i < ds.length → l0[i]? = some o → ds[i]? = some d → evDOp K o (stD l0 ds s0 i) = some d ∧ ∀ j ∈ o.chk, ∃ x, ds[j]? = some x ∧ j < i ∧ clash x d = false) →
    ds'.length = l0.length ∧ s' = stD l0 ds' s0 l0.length ∧ ∀ (i : Nat) (o : AOper) (d : DRec), l0[i]? = some o → ds'[i]? = some d → evDOp K o (stD l0 ds' s0 i) = some d ∧ ∀ j ∈ o.chk, ∃ x, ds'[j]? = some x ∧ j < i ∧ clash x d = false
  | [], ds, ds', s, s', hl, hle, hs, he, hp => by
    simp only [evDrawn, Option.some.injEq, Prod.mk.injEq] at he
    obtain ⟨rfl, rfl⟩ := he
    have hlen : ds.length = l0.length := by
      have := congrArg List.length hl
      simp at this; omega
    refine ⟨hlen, by rw [← hlen]; exact hs, fun i o d h1 h2 => hp i o d ?_ h1 h2⟩
    rcases Nat.lt_or_ge i ds.length with h | h
    · exact h
    · rw [List.getElem?_eq_none h] at h2; cases h2
  | o :: r, ds, ds', s, s', hl, hle, hs, he, hp => by
    have hlt : ds.length < l0.length := by
      have := congrArg List.length hl
      simp at this; omega
    have ho : l0[ds.length]? = some o := by
      rw [hl, List.getElem?_append_right (by rw [List.length_take]; exact Nat.min_le_left _ _)]
      simp [Nat.min_eq_left hle]
    simp only [evDrawn] at he
    split at he
    · rename_i d hd
      split at he
      · rename_i hchk
        have hcg : ∀ i, i ≤ ds.length → stD l0 (ds ++ [d]) s0 i = stD l0 ds s0 i := fun i hi => stD_congr fun j hj => List.getElem?_append_left (by omega)
        refine evDrawn_spec (l := r) (ds := ds ++ [d]) ?_ (by simp; omega) ?_ he ?_
        · rw [List.length_append, List.length_singleton, List.take_add_one, ho]
          simp only [Option.toList_some, List.append_assoc, List.singleton_append]
          exact hl
        · rw [List.length_append, List.length_singleton]
          simp only [stD, ho, List.getElem?_append_right (Nat.le_refl ds.length), Nat.sub_self, List.getElem?_cons_zero]
          rw [hcg _ (Nat.le_refl _), ← hs]
        · intro i o' d' hi h1 h2
          rw [List.length_append, List.length_singleton] at hi
          rcases Nat.lt_or_ge i ds.length with h | h
          · rw [List.getElem?_append_left h] at h2
            obtain ⟨p1, p2⟩ := hp i o' d' h h1 h2
            rw [hcg i (by omega)]
            refine ⟨p1, fun j hj => ?_⟩
            obtain ⟨x, q1, q2, q3⟩ := p2 j hj
            exact ⟨x, by rw [List.getElem?_append_left (by omega)]; exact q1, q2, q3⟩
          · have : i = ds.length := by omega
            subst this
            rw [ho] at h1; injection h1 with h1; subst h1
            rw [List.getElem?_append_right (Nat.le_refl _)] at h2
            simp at h2; subst h2
            rw [hcg _ (Nat.le_refl _), ← hs]
            refine ⟨hd, fun j hj => ?_⟩
            have := List.all_eq_true.1 hchk j hj
            split at this
            · rename_i x hx
              have hjl : j < ds.length := by
                rcases Nat.lt_or_ge j ds.length with h | h
                · exact h
                · rw [List.getElem?_eq_none h] at hx; cases hx
              exact ⟨x, by rw [List.getElem?_append_left hjl]; exact hx, hjl, by simpa using this⟩
            · cases this
      · cases he
    · cases he
end

theorem evDOp_silent {K : CallK} {ao : AOper} {s : FS} {d : DRec} (hs : ao.op.silent = true) (he : evDOp K ao s = some d) : d.U = [] ∧ d.foot = [] := by
  unfold evDOp at he
  rw [callOf_silent hs] at he
  split at he
  · split at he
    · rename_i hq; cases hq
    · split at he
      · rename_i a U hr
        injection he with he; subst he
        exact ⟨runOp_silent_U hs hr, by simp [hs]⟩
      · cases he
  · injection he with he; subst he
    exact ⟨rfl, rfl⟩
  · cases he

section
variable {P : Program} {G : Glob} {K : CallK} {m : Nat} {ops : Array Oper}

def txOf (l : List AOper) (ds : List DRec) (s : FS) : Tx :=
  { c := fun i => ((ds[i]?).map (·.c)).getD .undef, U := fun i => ((ds[i]?).map (·.U)).getD [], lo := fun i => (stD l ds s i).n,
    looks := fun i => ((l[i]?).map looksOf).getD [], foot := fun i => ((ds[i]?).map (·.foot)).getD [] }

theorem softOk_spec {K : CallK} {l : List AOper} {i j : Nat} {ds : List DRec} {s : FS} (h : softOk K l i j ds s = true) : ∃ o d e id b d2, l[i]? = some o ∧ ds[i]? = some d ∧ ds[j]? = some e ∧ d.U = [] ∧ d.foot = [id] ∧ e.U = [(id, b)] ∧ i < j ∧
    (∀ k x, i < k → k < j → ds[k]? = some x → appAt x.U id = none) ∧ evDOp K o { stD l ds s i with h := upd (stD l ds s i).h id b } = some d2 ∧ d2.U = [] ∧ d2.foot = [id] ∧ d2.c = d.c ∧ d2.n' = d.n' := by
  unfold softOk at h
  split at h
  case h_2 => cases h
  rename_i o d e h1 h2 h3
  split at h
  case h_2 => cases h
  rename_i id id' b q1 q2 q3
  simp only [Bool.and_eq_true, beq_iff_eq] at h
  obtain ⟨rfl, h4, h5, h6⟩ := h
  split at h6
  case h_2 => cases h6
  rename_i d2 h7
  split at h6
  case h_2 => cases h6
  rename_i id2 q z q' z' p1 p2 p3 p4
  simp only [Bool.and_eq_true, beq_iff_eq, decide_eq_true_eq] at h6
  obtain ⟨rfl, rfl, rfl, p5⟩ := h6
  refine ⟨o, d, e, _, b, d2, h1, h2, h3, q1, q2, q3, by simpa using h4, fun k x hk hkj hx => ?_, h7, p1, p2, by rw [p3, p4], p5⟩
  have := List.all_eq_true.1 h5 k (List.mem_range.2 hkj)
  rw [hx] at this
  have hb : Nat.blt i k = true := by simpa using hk
  simpa [hb] using this

theorem drawn_core (hK : KOk P G K) (hm : m + 1 < 2 ^ 24) {l' : List AOper} {ds : List DRec} {s s' : FS} (hsz : l'.length = ops.size)
    (hcomp' : ∀ (i : Nat) (o : Oper), ops[i]? = some o → ∃ ao chk, l'[i]? = some ao ∧ compOper P G m ops chk o = some ao) (hdown : downOk ops = true) (X : Option (Nat × Nat))
    (pairs : ∀ i j, i < j → j < ops.size → ¬ reach ops i j → ∃ x y, l'[i]? = some x ∧ l'[j]? = some y ∧ confl x y = false ∧ ((x.op.silent = true ∧ y.op.silent = true) ∨ (i ∈ y.chk ∨ X = some (i, j))))
    (soft : ∀ i j, X = some (i, j) → softOk K l' i j ds s = true) (he : evDrawn K l' [] s = some (ds, s')) :
    Drawn P G ops (txOf l' ds s) (s.sl) (s.h) s.n s'.n m ∧ s'.sl = slL ops (txOf l' ds s) (s.sl) ops.size (fun _ => true) ∧ s'.h = hL (txOf l' ds s) (s.h) ops.size (fun _ => true) ∧ (txOf l' ds s).lo ops.size = s'.n ∧ s.n ≤ s'.n := by
  obtain ⟨dlen, hs', hrun⟩ := evDrawn_spec (K := K) (l0 := l') (s0 := s) (l := l') (ds := []) (by simp) (by simp) rfl he (fun i o d hi => by simp at hi)
  -- each operation's record
  have rec_ : ∀ i, i < ops.size → ∃ o ao d, ops[i]? = some o ∧ l'[i]? = some ao ∧ ds[i]? = some d ∧ (∃ chk, compOper P G m ops chk o = some ao) ∧ evDOp K ao (stD l' ds s i) = some d ∧ (∀ j ∈ ao.chk, ∃ x, ds[j]? = some x ∧ j < i ∧ clash x d = false) ∧ dstOf ops i = ao.dst := by
    intro i hi
    have ho : ops[i]? = some ops[i] := Array.getElem?_eq_getElem hi
    obtain ⟨ao, chk, q1, q2⟩ := hcomp' i _ ho
    have hd : ds[i]? = some ds[i] := List.getElem?_eq_getElem (by omega)
    obtain ⟨r1, r2⟩ := hrun i ao _ q1 hd
    exact ⟨_, ao, _, ho, q1, hd, ⟨chk, q2⟩, r1, r2, by simp [dstOf, ho, (compOper_parts q2).2.2.1]⟩
  have hstep : ∀ i ao d, l'[i]? = some ao → ds[i]? = some d → stD l' ds s (i + 1) = stepD ao d (stD l' ds s i) := fun i ao d h1 h2 => by simp only [stD, h1, h2]
  -- the states
  have hst : ∀ i, i ≤ ops.size → (stD l' ds s i).sl = slL ops (txOf l' ds s) (s.sl) ops.size (fun x => decide (x < i)) ∧ (stD l' ds s i).h = hL (txOf l' ds s) (s.h) ops.size (fun x => decide (x < i)) ∧ s.n ≤ (stD l' ds s i).n := by
    intro i
    induction i with
    | zero => intro _; exact ⟨slL_zero.symm, hL_zero.symm, Nat.le_refl _⟩
    | succ i ih =>
      intro hi
      obtain ⟨e1, e2, e3⟩ := ih (by omega)
      obtain ⟨o, ao, d, ho, h1, h2, ⟨chk, h3⟩, h4, h5, h6⟩ := rec_ i (by omega)
      obtain ⟨n1, _⟩ := evDOp_sound hK h3 h4
      rw [hstep i ao d h1 h2, slL_succ (by omega), hL_succ (by omega), ← e1, ← e2, h6]
      refine ⟨?_, ?_, Nat.le_trans e3 n1⟩
      · simp only [stepD]; simp [txOf, h2]
      · simp only [stepD]; simp [txOf, h2]
  have hall : ∀ k, (fun x : Nat => decide (x < ops.size)) k = true → True := fun _ _ => trivial
  have hlast := hst ops.size (Nat.le_refl _)
  have hs2 : s' = stD l' ds s ops.size := by rw [hs', hsz]
  have slotsH : ∀ i j, i < j → j < ops.size → (∃ t, dstOf ops i = some t ∧ (t ∈ (txOf l' ds s).looks j ∨ dstOf ops j = some t)) ∨ (∃ t, dstOf ops j = some t ∧ t ∈ (txOf l' ds s).looks i) → reach ops i j := by
    intro i j hij hj hcf
    refine Classical.byContradiction fun hn => ?_
    obtain ⟨x, y, hx, hy, hcf', _⟩ := pairs i j hij hj hn
    obtain ⟨_, ao, _, _, h1, _, _, _, _, h6⟩ := rec_ i (by omega)
    obtain ⟨_, ao', _, _, h1', _, _, _, _, h6'⟩ := rec_ j hj
    rw [h1] at hx; injection hx with hx; subst hx
    rw [h1'] at hy; injection hy with hy; subst hy
    have lx : (txOf l' ds s).looks i = looksOf ao := by simp [txOf, h1]
    have ly : (txOf l' ds s).looks j = looksOf ao' := by simp [txOf, h1']
    rw [lx, ly, h6, h6'] at hcf
    simp only [confl, Bool.or_eq_false_iff] at hcf'
    rcases hcf with ⟨t, ht, hh⟩ | ⟨t, ht, hh⟩
    · rw [ht] at hcf'
      have := hcf'.1
      simp only [Bool.or_eq_false_iff] at this
      rcases hh with hh | hh
      · have h9 := this.1; simp at h9; exact h9 hh
      · have h9 := this.2; rw [hh] at h9; simp at h9
    · rw [ht] at hcf'
      have h9 := hcf'.2; simp at h9; exact h9 hh
  have blksH : ∀ i j, i < j → j < ops.size → X ≠ some (i, j) → (∃ id, (appAt ((txOf l' ds s).U i) id).isSome ∧ (id ∈ (txOf l' ds s).foot j ∨ (appAt ((txOf l' ds s).U j) id).isSome)) ∨ (∃ id, (appAt ((txOf l' ds s).U j) id).isSome ∧ id ∈ (txOf l' ds s).foot i) → reach ops i j := by
    intro i j hij hj hX hcf
    refine Classical.byContradiction fun hn => ?_
    obtain ⟨x, y, hx, hy, _, hsil⟩ := pairs i j hij hj hn
    obtain ⟨_, ao, d, _, h1, h2, _, h4, _, _⟩ := rec_ i (by omega)
    obtain ⟨_, ao', d', _, h1', h2', _, h4', h5', _⟩ := rec_ j hj
    rw [h1] at hx; injection hx with hx; subst hx
    rw [h1'] at hy; injection hy with hy; subst hy
    have ux : (txOf l' ds s).U i = d.U := by simp [txOf, h2]
    have uy : (txOf l' ds s).U j = d'.U := by simp [txOf, h2']
    have fx : (txOf l' ds s).foot i = d.foot := by simp [txOf, h2]
    have fy : (txOf l' ds s).foot j = d'.foot := by simp [txOf, h2']
    rw [ux, uy, fx, fy] at hcf
    rcases hsil with ⟨sx, sy⟩ | hin | hin
    · have e1 := evDOp_silent sx h4
      have e2 := evDOp_silent sy h4'
      rw [e1.1, e1.2, e2.1, e2.2] at hcf
      rcases hcf with ⟨t, ht, hh⟩ | ⟨t, ht, hh⟩ <;> simp [appAt] at ht
    · obtain ⟨x, q1, q2, q3⟩ := h5' i hin
      rw [h2] at q1; injection q1 with q1; subst q1
      obtain ⟨c1, c2⟩ := clash_spec q3
      rcases hcf with ⟨t, ht, hh⟩ | ⟨t, ht, hh⟩
      · rcases hh with hh | hh
        · exact (c1 t ht).1 hh
        · exact (c1 t ht).2 hh
      · exact c2 t ht hh
    · exact hX hin
  have softU : ∀ i j, X = some (i, j) → (txOf l' ds s).U i = [] := by
    intro i j h
    obtain ⟨o, d, e, id, b, d2, h1, h2, h3, h4, _⟩ := softOk_spec (soft i j h)
    simp [txOf, h2, h4]
  refine ⟨⟨fun i o d ho hd => ?_, Nat.le_refl _, fun i => ?_, ?_, fun i o ho e he hb => ?_, fun i o ho => ?_, slotsH, fun i j hij hj ⟨id, u1, u2⟩ => ?_⟩, ?_, ?_, ?_, ?_⟩
  · obtain ⟨ao, _, _, q2⟩ := hcomp' i o ho
    exact (compOper_parts q2).2.2.2.2 d hd
  · show (stD l' ds s i).n ≤ (stD l' ds s (i + 1)).n
    rcases Nat.lt_or_ge i ops.size with hi | hi
    · obtain ⟨o, ao, d, ho, h1, h2, ⟨chk, h3⟩, h4, h5, h6⟩ := rec_ i hi
      rw [hstep i ao d h1 h2]
      exact (evDOp_sound hK h3 h4).1
    · have : l'[i]? = none := List.getElem?_eq_none (by omega)
      simp [stD, this]
  · rw [hs2]; exact Nat.le_refl _
  · have hi : i < ops.size := by
      rcases Nat.lt_or_ge i ops.size with h | h
      · exact h
      · rw [Array.getElem?_eq_none h] at ho; cases ho
    have h1 := List.all_eq_true.1 hdown i (List.mem_range.2 hi)
    rw [ho] at h1
    have h2 := Array.all_eq_true'.1 h1 e he
    simpa [hb] using h2
  · have hi : i < ops.size := by
      rcases Nat.lt_or_ge i ops.size with h | h
      · exact h
      · rw [Array.getElem?_eq_none h] at ho; cases ho
    obtain ⟨o', ao, d, ho', h1, h2, ⟨chk, h3⟩, h4, h5, h6⟩ := rec_ i hi
    rw [ho] at ho'; injection ho' with ho'; subst ho'
    obtain ⟨_, b, hb⟩ := evDOp_sound hK h3 h4
    obtain ⟨e1, e2, _⟩ := hst i (by omega)
    have e3 : (txOf l' ds s).lo (i + 1) = d.n' := by
      show (stD l' ds s (i + 1)).n = d.n'
      rw [hstep i ao d h1 h2]; rfl
    have e4 : (txOf l' ds s).c i = d.c := by simp [txOf, h2]
    have e5 : (txOf l' ds s).U i = d.U := by simp [txOf, h2]
    have hfoot : (txOf l' ds s).foot i = d.foot := by simp [txOf, h2]
    have hlook : (txOf l' ds s).looks i = looksOf ao := by simp [txOf, h1]
    -- in the heap of the text's order
    have plain : ∀ L, closed ops L → L i = false → (∀ e ∈ o.after, Region.binds .any e = true → L e.on = true) → (∀ id ∈ (txOf l' ds s).foot i, hL (txOf l' ds s) s.h ops.size L id = hL (txOf l' ds s) s.h ops.size (fun x => decide (x < i)) id) →
        wantedA ao.guard (slL ops (txOf l' ds s) s.sl ops.size L) = some b ∧ (b = true → Yields P G o (slL ops (txOf l' ds s) s.sl ops.size L) (hL (txOf l' ds s) s.h ops.size L) ((txOf l' ds s).lo i) ((txOf l' ds s).lo (i + 1)) ((txOf l' ds s).lo (i + 1)) ((txOf l' ds s).c i) (app (hL (txOf l' ds s) s.h ops.size L) ((txOf l' ds s).U i))) ∧ (b = false → (txOf l' ds s).c i = .undef ∧ (txOf l' ds s).U i = []) := by
      intro L hc hL0 hr hh
      rw [e3, e4, e5]
      exact hb _ _ (fun t ht => by rw [e1]; exact slL_local slotsH hc hi ho hr hL0 (by rw [hlook]; exact ht)) (fun id hid => by rw [e2]; exact hh id (by rw [hfoot]; exact hid))
    by_cases hX : ∃ j, X = some (i, j)
    · obtain ⟨j, hX⟩ := hX
      obtain ⟨o9, d9, dj, id0, b0, d2, k1, k2, k3, k4, k5, k6, k7, k8, k9, k10, k11, k12, k13⟩ := softOk_spec (soft i j hX)
      rw [h1] at k1; injection k1 with k1; subst k1
      rw [h2] at k2; injection k2 with k2; subst k2
      have hjs : j < ops.size := by
        rcases Nat.lt_or_ge j ops.size with h | h
        · exact h
        · rw [List.getElem?_eq_none (by omega)] at k3; cases k3
      have uj : (txOf l' ds s).U j = [(id0, b0)] := by simp [txOf, k3, k6]
      have ui : (txOf l' ds s).U i = [] := by rw [e5, k4]
      obtain ⟨_, b', hb'⟩ := evDOp_sound hK h3 k9
      -- the guard says the same
      have hbb : b' = b := by
        have w1 := (hb s.sl s.h) 
        have g1 := (hb (stD l' ds s i).sl (stD l' ds s i).h (fun t _ => rfl) (fun id _ => rfl)).1
        have g2 := (hb' (stD l' ds s i).sl (upd (stD l' ds s i).h id0 b0) (fun t _ => rfl) (fun id _ => rfl)).1
        rw [g1] at g2; injection g2 with g2; exact g2.symm
      refine ⟨ao.guard, b, (compOper_parts h3).2.1, fun L hc hL0 hr => ?_⟩
      have wrt : ∀ k, k < ops.size → L k = true → (appAt ((txOf l' ds s).U k) id0).isSome = true → k < i ∨ k = j := by
        intro k hk hLk hw
        rcases Nat.lt_trichotomy k i with h | h | h
        · exact .inl h
        · subst h; rw [ui] at hw; simp [appAt] at hw
        · rcases Nat.lt_trichotomy k j with h' | h' | h'
          · obtain ⟨_, _, dk, _, _, hdk, _⟩ := rec_ k hk
            have := k8 k dk h h' hdk
            have uk : (txOf l' ds s).U k = dk.U := by simp [txOf, hdk]
            rw [uk, this] at hw; simp at hw
          · exact .inr h'
          · exfalso
            have hre := blksH i k h hk (by rw [hX]; intro e; injection e with e; injection e with e e'; omega) (.inr ⟨id0, hw, by rw [hfoot, k5]; simp⟩)
            have := hre L hc hLk
            rw [this] at hL0; cases hL0
      have below : ∀ k, k < i → (appAt ((txOf l' ds s).U k) id0).isSome = true → L k = true := by
        intro k hk hw
        exact reach_listed hc ho hr (by omega) (blksH k i hk hi (fun e => by rw [hX] at e; injection e with e; injection e with e e'; omega) (.inl ⟨id0, hw, .inl (by rw [hfoot, k5]; simp)⟩))
      cases hLj : L j with
      | false =>
        refine plain L hc hL0 hr fun id hid => ?_
        rw [hfoot, k5] at hid
        obtain rfl := List.mem_singleton.1 hid
        have : lw (fun k => L k && (appAt ((txOf l' ds s).U k) id).isSome) ops.size = lw (fun k => decide (k < i) && (appAt ((txOf l' ds s).U k) id).isSome) ops.size := by
          refine lw_congr fun k hk => ?_
          cases hw : (appAt ((txOf l' ds s).U k) id).isSome with
          | false => simp
          | true =>
            simp only [Bool.and_true]
            by_cases hki : k < i
            · rw [below k hki hw]; simp [hki]
            · cases hLk : L k with
              | false => simp; omega
              | true =>
                rcases wrt k hk hLk hw with h | h
                · exact absurd h hki
                · subst h; rw [hLk] at hLj; cases hLj
        simp only [hL, this]
      | true =>
        have hlast : lw (fun k => L k && (appAt ((txOf l' ds s).U k) id0).isSome) ops.size = some j := by
          refine lw_last (by simp [hLj, uj, appAt]) hjs fun k hjk hk => ?_
          cases hLk : L k with
          | false => simp
          | true =>
            cases hw : (appAt ((txOf l' ds s).U k) id0).isSome with
            | false => simp
            | true =>
              rcases wrt k hk hLk hw with h | h
              · omega
              · omega
        have hval : hL (txOf l' ds s) s.h ops.size L id0 = b0 := by
          simp only [hL, hlast, uj]; simp [appAt]
        obtain ⟨w1, w2, w3⟩ := hb' (slL ops (txOf l' ds s) s.sl ops.size L) (hL (txOf l' ds s) s.h ops.size L) (fun t ht => by
            show _ = (stD l' ds s i).sl t
            rw [e1]; exact slL_local slotsH hc hi ho hr hL0 (by rw [hlook]; exact ht)) (fun id hid => by
            rw [k11] at hid
            obtain rfl := List.mem_singleton.1 hid
            rw [hval]; simp [upd])
        rw [hbb] at w1 w2 w3
        rw [e3, e4, e5, k4, ← k12, ← k13]
        rw [k10] at w2 w3
        exact ⟨w1, w2, w3⟩
    · refine ⟨ao.guard, b, (compOper_parts h3).2.1, fun L hc hL0 hr => plain L hc hL0 hr fun id hid => ?_⟩
      refine hL_local hc (fun k hk ⟨id, h7, h8⟩ => ?_) (fun k hk hks ⟨id, h7, h8⟩ => blksH i k hk hks (fun e => hX ⟨k, e⟩) (.inr ⟨id, h7, h8⟩)) hi ho hr hL0 hid
      by_cases hX2 : X = some (k, i)
      · rw [softU k i hX2] at h7; simp [appAt] at h7
      · exact blksH k i hk hi hX2 (.inl ⟨id, h7, .inl h8⟩)
  · by_cases hX2 : X = some (i, j)
    · rw [softU i j hX2] at u1; simp [appAt] at u1
    · exact blksH i j hij hj hX2 (.inl ⟨id, u1, .inr u2⟩)
  · rw [hs2, hlast.1]
    funext t; simp only [slL]; rw [lw_congr (fun i hi => by rw [show decide (i < ops.size) = true by simpa using hi])]
  · rw [hs2, hlast.2.1]
    funext t; simp only [hL]; rw [lw_congr (fun i hi => by rw [show decide (i < ops.size) = true by simpa using hi])]
  · rw [hs2]; rfl
  · rw [hs2]; exact hlast.2.2
theorem drawn_of (hK : KOk P G K) (hm : m + 1 < 2 ^ 24) {l : List AOper} {ds : List DRec} {s s' : FS} (hc : compDrawn P G m ops = some l) (he : evDrawn K l [] s = some (ds, s')) :
    Drawn P G ops (txOf l ds s) (s.sl) (s.h) s.n s'.n m ∧ s'.sl = slL ops (txOf l ds s) (s.sl) ops.size (fun _ => true) ∧ s'.h = hL (txOf l ds s) (s.h) ops.size (fun _ => true) ∧ (txOf l ds s).lo ops.size = s'.n ∧ s.n ≤ s'.n := by
  unfold compDrawn at hc
  split at hc
  case h_2 => cases hc
  rename_i l0 hl0
  split at hc
  case h_2 => cases hc
  rename_i l' hl'
  split at hc
  case isFalse => cases hc
  rename_i hok
  injection hc with hc; subst hc
  simp only [Bool.and_eq_true] at hok
  obtain ⟨hpair, hdown⟩ := hok
  obtain ⟨hlen, hcomp⟩ := compOpers_spec hl'
  have hsz : l'.length = ops.size := by rw [hlen]; simp
  refine drawn_core hK hm hsz (fun i o ho => ?_) hdown none (fun i j hij hj hn => ?_) (fun i j h => by cases h) he
  · obtain ⟨ao, h1, h2⟩ := hcomp i o (by simpa using ho)
    exact ⟨ao, _, h1, h2⟩
  · have h1 := List.all_eq_true.1 hpair j (List.mem_range.2 (by omega))
    have h2 := List.all_eq_true.1 h1 i (List.mem_range.2 hij)
    simp only [Bool.or_eq_true] at h2
    rcases h2 with h2 | h2
    · exact absurd (reachB_sound h2) hn
    · split at h2
      · rename_i x y hx hy
        simp only [Bool.and_eq_true, Bool.or_eq_true, Bool.not_eq_true'] at h2
        exact ⟨x, y, hx, hy, h2.1, h2.2.imp (fun h => h) (fun h => .inl (by simpa using h))⟩
      · cases h2
theorem drawnM_of (hK : KOk P G K) (hm : m + 1 < 2 ^ 24) {i0 j0 : Nat} {l : List AOper} {ds : List DRec} {s s' : FS} (hc : compDrawnM P G m ops = some (i0, j0, l)) (he : evDrawn K l [] s = some (ds, s')) (hsoft : softOk K l i0 j0 ds s = true) :
    Drawn P G ops (txOf l ds s) (s.sl) (s.h) s.n s'.n m ∧ s'.sl = slL ops (txOf l ds s) (s.sl) ops.size (fun _ => true) ∧ s'.h = hL (txOf l ds s) (s.h) ops.size (fun _ => true) ∧ (txOf l ds s).lo ops.size = s'.n ∧ s.n ≤ s'.n := by
  unfold compDrawnM at hc
  split at hc
  case h_2 => cases hc
  rename_i l0 hl0
  split at hc
  case h_2 => cases hc
  rename_i a b hab
  split at hc
  case h_2 => cases hc
  rename_i l' hl'
  split at hc
  case isFalse => cases hc
  rename_i hok
  injection hc with hc; injection hc with e1 e2; injection e2 with e2 e3; subst e1; subst e2; subst e3
  simp only [Bool.and_eq_true] at hok
  obtain ⟨hpair, hdown⟩ := hok
  obtain ⟨hlen, hcomp⟩ := compOpers_spec hl'
  have hsz : l'.length = ops.size := by rw [hlen]; simp
  refine drawn_core hK hm hsz (fun i o ho => ?_) hdown (some (a, b)) (fun i j hij hj hn => ?_) (fun i j h => ?_) he
  · obtain ⟨ao, h1, h2⟩ := hcomp i o (by simpa using ho)
    exact ⟨ao, _, h1, h2⟩
  · have h1 := List.all_eq_true.1 hpair j (List.mem_range.2 (by omega))
    have h2 := List.all_eq_true.1 h1 i (List.mem_range.2 hij)
    simp only [Bool.or_eq_true] at h2
    rcases h2 with h2 | h2
    · exact absurd (reachB_sound h2) hn
    · split at h2
      · rename_i x y hx hy
        simp only [Bool.and_eq_true, Bool.or_eq_true, Bool.not_eq_true', beq_iff_eq] at h2
        refine ⟨x, y, hx, hy, h2.1, h2.2.imp (fun h => h) (fun h => h.imp (fun h => by simpa using h) fun h => by rw [h.1, h.2])⟩
      · cases h2
  · injection h with h; injection h with h1 h2; subst h1; subst h2; exact hsoft

end

section
variable {P : Program} {G : Glob} {K : CallK} {F m : Nat} {ops : Array Oper}

theorem ac_drawn (hmx : P.follows .mixedOrders = true) {id : Nat} {T : Tx} {s s' : FS} {N : Nat} {Q : Exit → AS → Prop} (D : Drawn P G ops T (s.sl) (s.h) s.n s'.n m) (e1 : s'.sl = slL ops T (s.sl) ops.size (fun _ => true))
    (e2 : s'.h = hL T (s.h) ops.size (fun _ => true)) (e3 : T.lo ops.size = s'.n) (e4 : s.n ≤ s'.n) (hN : s'.n ≤ N) (hQ : Q .normal (s'.as N m)) : AC P G (.region id ops true) (s.as N m) Q := by
  intro ρ S a w R
  refine wp_region_any hmx ?_
  have hd := R.heap.drew
  have el : lst (Array.replicate ops.size false) = fun _ => false := by
    funext i
    simp only [lst, Array.getD_eq_getD_getElem?, Array.getElem?_replicate]
    split <;> rfl
  refine wpAny_drawn D (Q := fun e a' w' => ∃ ρ' S' σ', After G ρ S (s.as N m) w ρ' S' σ' a' w' ∧ Q e σ') (ρ0 := ρ) (S0 := S) (w0 := w.drew) ?_ ops.size _ ρ S a w.drew (by simp) ?_ ?_
  · intro ρ' S' a' w' I
    refine ⟨ρ', S', s'.as N m, ⟨⟨?_, I.size, fun i => ?_, fun i h1 h2 => ?_, I.glob, I.defers⟩, ?_, ?_, e4, rfl, rfl⟩, hQ⟩
    · show RelH ρ' S' (s'.h) w'
      rw [e2]; exact I.heap
    · show AVR ρ' S' w' (s'.sl i) _
      rw [e1]; exact I.slots i
    · have h1' : s'.n ≤ i := h1
      rw [I.keep i (.inr (by rw [e3]; exact h1'))]
      exact R.fresh i (Nat.le_trans e4 h1') h2
    · show Adv ρ S (s.h) w ρ' S' (s'.h) w'
      rw [e2]; exact hd.2.trans I.adv
    · intro i hi
      refine I.keep i (hi.imp (fun h => h) fun h => ?_)
      rw [e3]; exact h
  · rw [el]
    refine ⟨fun j o ho hj => (by cases hj), by rw [hL_none]; exact hd.1, R.size, fun i => by rw [slL_none]; exact (R.slots i).drew, fun i h1 h2 h3 => ?_, R.glob.adv R.heap hd.2, R.defers, by rw [hL_none]; exact .refl _ _ _ _, fun _ _ => rfl⟩
    exact absurd (R.fresh i h1 (Nat.lt_of_lt_of_le h2 hN)) h3
  · rw [el]
    have : ∀ n, cnt (fun _ => false) n = n := by
      intro n
      induction n with
      | zero => rfl
      | succ n ih => simp [cnt, ih]
    rw [this]; exact Nat.le_refl _

theorem loopE_mono {g : FS → Option (Exit × FS)} (hg : ∀ s e s', g s = some (e, s') → s.n ≤ s'.n) : ∀ {f : Nat} {s s' : FS} {e : Exit}, loopE g f s = some (e, s') → s.n ≤ s'.n
  | 0, s, s', e, h => by simp [loopE] at h
  | f + 1, s, s', e, h => by
    simp only [loopE] at h
    split at h
    · rename_i s1 h1
      exact Nat.le_trans (hg _ _ _ h1) (loopE_mono hg h)
    · exact hg _ _ _ h

/-! ### Labels -/
theorem least_ex {p : Nat → Prop} : ∀ n, p n → ∃ k, p k ∧ ∀ m, p m → k ≤ m := by
  intro n
  induction n using Nat.strongRecOn with
  | _ n ih =>
    intro hn
    by_cases h : ∃ m, m < n ∧ p m
    · obtain ⟨m, hm, hp⟩ := h
      exact ih m hm hp
    · exact ⟨n, hn, fun m hp => Nat.le_of_not_lt fun hlt => h ⟨m, hlt, hp⟩⟩
open Classical in
noncomputable def leastN (p : Nat → Prop) : Nat := if h : ∃ k, p k ∧ ∀ m, p m → k ≤ m then Classical.choose h else 0
theorem leastN_spec {p : Nat → Prop} {n : Nat} (h : p n) : p (leastN p) ∧ ∀ m, p m → leastN p ≤ m := by
  have hex := least_ex n h
  unfold leastN
  rw [dif_pos hex]
  exact Classical.choose_spec hex

def jumpA (l : Nat) (J : AS → Prop) (Q : Exit → AS → Prop) : Exit → AS → Prop
  | .goto l', σ => l' = l ∧ J σ
  | e, σ => Q e σ
theorem ac_scope {c rest : Code} {l : Nat} {σ : AS} {Q : Exit → AS → Prop} (hf : findLabel c l = some rest) (I : Nat → AS → Prop) (first : AC P G c σ (jumpA l (fun σ' => ∃ n, I n σ') Q))
    (pass : ∀ n σ, I n σ → AC P G rest σ (jumpA l (fun σ' => ∃ n', n' < n ∧ I n' σ') Q)) : AC P G (.scope c) σ Q := by
  intro ρ S a w R
  let JJ : Act → World → Nat → Prop := fun a' w' n => ∃ ρ' S' σ', After G ρ S σ w ρ' S' σ' a' w' ∧ I n σ'
  refine wp_scope_jumps l (fun a' w' => ∃ n, JJ a' w' n) (fun a' w' => leastN (JJ a' w')) hf ?_ ?_
  · refine wp_mono (first ρ S a w R) ?_
    intro e a1 w1 ⟨ρ1, S1, σ1, A, q⟩
    cases e with
    | goto l' =>
      obtain ⟨rfl, n, hI⟩ := q
      exact ⟨rfl, n, ρ1, S1, σ1, A, hI⟩
    | _ => exact ⟨ρ1, S1, σ1, A, q⟩
  · rintro a1 w1 ⟨n, hn⟩
    obtain ⟨hl, _⟩ := leastN_spec (p := JJ a1 w1) hn
    obtain ⟨ρ1, S1, σ1, A, hI⟩ := hl
    refine wp_mono (pass _ σ1 hI ρ1 S1 a1 w1 A.rel) ?_
    intro e a2 w2 ⟨ρ2, S2, σ2, B, q⟩
    cases e with
    | goto l' =>
      obtain ⟨rfl, n', hlt, hI'⟩ := q
      have hJ : JJ a2 w2 n' := ⟨ρ2, S2, σ2, A.trans B, hI'⟩
      exact ⟨rfl, ⟨n', hJ⟩, Nat.lt_of_le_of_lt ((leastN_spec hJ).2 n' hJ) hlt⟩
    | _ => exact ⟨ρ2, S2, σ2, A.trans B, q⟩

theorem jumpE_mono {l : Nat} {g : FS → Option (Exit × FS)} (hg : ∀ s e s', g s = some (e, s') → s.n ≤ s'.n) : ∀ {f : Nat} {s s' : FS} {e : Exit}, jumpE l g f s = some (e, s') → s.n ≤ s'.n
  | 0, s, s', e, h => by simp [jumpE] at h
  | f + 1, s, s', e, h => by
    simp only [jumpE] at h
    split at h
    · rename_i l' s1 h1
      split at h
      · exact Nat.le_trans (hg _ _ _ h1) (jumpE_mono hg h)
      · cases h
    · exact hg _ _ _ h

theorem spine_find {l : Nat} : ∀ {c : Code}, spineL c = some l → ∃ r, findLabel c l = some r := by
  intro c
  induction c with
  | seq a b _ ihb =>
    intro h
    have : (a = .label l) ∨ spineL b = some l := by
      cases a <;> simp only [spineL] at h <;> first | exact .inr h | (injection h with h; subst h; exact .inl rfl)
    rcases this with rfl | hb
    · exact ⟨.seq .skip b, by simp [findLabel]⟩
    · obtain ⟨r, hr⟩ := ihb hb
      cases ha : findLabel a l with
      | none => exact ⟨r, by simp [findLabel, ha, hr]⟩
      | some q => exact ⟨.seq q b, by simp [findLabel, ha]⟩
  | _ => intro h; simp [spineL] at h
def Snd (P : Program) (G : Glob) (m : Nat) (K : CallK) (F : Nat) (c : Code) : Prop := ∀ {s s' : FS} {e : Exit}, evC K F (compC P G m c) s = some (e, s') →
    s.n ≤ s'.n ∧ ∀ N, s'.n ≤ N → AC P G c (s.as N m) (fun e' σ' => e' = e ∧ σ' = s'.as N m)
/-- From a label of the spine on. -/
def SndR (P : Program) (G : Glob) (m : Nat) (K : CallK) (F : Nat) (c : Code) : Prop := ∀ {l : Nat} {s s' : FS} {e : Exit}, chkL l c = true → evR K F l (compC P G m c) s = some (e, s') →
    s.n ≤ s'.n ∧ ∃ r, findLabel c l = some r ∧ ∀ N, s'.n ≤ N → AC P G r (s.as N m) (fun e' σ' => e' = e ∧ σ' = s'.as N m)
theorem evC_both (hmx : P.follows .mixedOrders = true) (hK : KOk P G K) (hm : m + 1 < 2 ^ 24) : ∀ (c : Code), Snd P G m K F c ∧ SndR P G m K F c := by
  intro c
  induction c with
  | skip =>
    constructor
    · intro s s' e h
      simp only [compC, evC, Option.some.injEq, Prod.mk.injEq] at h
      obtain ⟨rfl, rfl⟩ := h
      exact ⟨Nat.le_refl _, fun N _ => ac_skip ⟨rfl, rfl⟩⟩
    · intro l s s' e _ h; simp [compC, evR] at h
  | region id ops dr =>
    constructor
    · intro s s' e h
      cases dr with
      | false =>
        simp only [compC] at h
        split at h
        · rename_i l hl
          simp only [evC, Option.map_eq_some_iff, Prod.mk.injEq] at h
          obtain ⟨s1, h1, rfl, rfl⟩ := h
          obtain ⟨p1, p2⟩ := evOps_sound hK hm hl h1
          exact ⟨p1, fun N hN => ac_region (p2 N hN) ⟨rfl, rfl⟩⟩
        · simp [evC] at h
      | true =>
        simp only [compC] at h
        split at h
        · rename_i i j l hl
          simp only [evC] at h
          split at h
          · rename_i ds s1 h1
            split at h
            · rename_i hsoft
              injection h with h; injection h with h2 h3; subst h2; subst h3
              obtain ⟨D, e1, e2, e3, e4⟩ := drawnM_of hK hm hl h1 hsoft
              exact ⟨e4, fun N hN => ac_drawn hmx D e1 e2 e3 e4 hN ⟨rfl, rfl⟩⟩
            · cases h
          · cases h
        · split at h
          · rename_i l hl
            simp only [evC, Option.map_eq_some_iff, Prod.mk.injEq] at h
            obtain ⟨⟨ds, s1⟩, h1, rfl, rfl⟩ := h
            obtain ⟨D, e1, e2, e3, e4⟩ := drawn_of hK hm hl h1
            exact ⟨e4, fun N hN => ac_drawn hmx D e1 e2 e3 e4 hN ⟨rfl, rfl⟩⟩
          · simp [evC] at h
    · intro l s s' e _ h
      cases dr <;> (simp only [compC] at h; (repeat' split at h) <;> simp [evR] at h)
  | seq a b iha ihb =>
    constructor
    · intro s s' e h
      simp only [compC, evC] at h
      split at h
      · rename_i s1 h1
        obtain ⟨p1, p2⟩ := iha.1 h1
        obtain ⟨q1, q2⟩ := ihb.1 h
        refine ⟨Nat.le_trans p1 q1, fun N hN => ac_seq ((p2 N (Nat.le_trans q1 hN)).mono ?_)⟩
        rintro e' σ' ⟨rfl, rfl⟩
        exact q2 N hN
      · rename_i hne
        obtain ⟨p1, p2⟩ := iha.1 h
        refine ⟨p1, fun N hN => ac_seq ((p2 N hN).mono ?_)⟩
        rintro e' σ' ⟨rfl, rfl⟩
        cases e' with
        | normal => exact absurd h (hne s')
        | _ => exact ⟨rfl, rfl⟩
    · intro l s s' e hk h
      simp only [compC, evR] at h
      simp only [chkL] at hk
      by_cases hl : a = .label l
      · subst hl
        simp only [compC, isLbl, beq_self_eq_true, cond_true] at h
        obtain ⟨q1, q2⟩ := ihb.1 h
        refine ⟨q1, .seq .skip b, by simp [findLabel], fun N hN => ac_seq (ac_skip ?_)⟩
        exact q2 N hN
      · have h0 : isLbl l (compC P G m a) = false ∧ findLabel a l = none ∧ chkL l b = true := by
          cases a with
          | label l' =>
            have hne : l' ≠ l := fun e => hl (by rw [e])
            simp only [Bool.or_eq_true, beq_iff_eq] at hk
            refine ⟨by simpa [compC, isLbl] using hne, by simp [findLabel, hne], hk.resolve_left hne⟩
          | _ =>
            simp only [Bool.and_eq_true, Option.isNone_iff_eq_none] at hk
            refine ⟨?_, hk.1, hk.2⟩
            unfold compC
            (repeat' split) <;> first | rfl | contradiction
        rw [h0.1, cond_false] at h
        obtain ⟨q1, r, q2, q3⟩ := ihb.2 h0.2.2 h
        exact ⟨q1, r, by simp [findLabel, h0.2.1, q2], q3⟩
  | cond c a b iha ihb =>
    constructor
    · intro s s' e h
      simp only [compC] at h
      split at h
      · rename_i x hx
        simp only [evC] at h
        split at h
        · rename_i hb
          obtain ⟨p1, p2⟩ := iha.1 h
          exact ⟨p1, fun N hN => ac_cond (t := true) hx hb (p2 N hN)⟩
        · rename_i hb
          obtain ⟨p1, p2⟩ := ihb.1 h
          exact ⟨p1, fun N hN => ac_cond (t := false) hx hb (p2 N hN)⟩
        · cases h
      · simp [evC] at h
    · intro l s s' e _ h
      simp only [compC] at h; split at h <;> simp [evR] at h
  | block id a iha =>
    constructor
    · intro s s' e h
      simp only [compC, evC] at h
      split at h
      · rename_i id' s1 h1
        obtain ⟨p1, p2⟩ := iha.1 h1
        split at h
        · rename_i hid
          simp only [Option.some.injEq, Prod.mk.injEq] at h
          obtain ⟨rfl, rfl⟩ := h
          refine ⟨p1, fun N hN => ac_block ((p2 N hN).mono ?_)⟩
          rintro e' σ' ⟨rfl, rfl⟩
          simp [blockA, hid]
        · rename_i hid
          simp only [Option.some.injEq, Prod.mk.injEq] at h
          obtain ⟨rfl, rfl⟩ := h
          refine ⟨p1, fun N hN => ac_block ((p2 N hN).mono ?_)⟩
          rintro e' σ' ⟨rfl, rfl⟩
          simp [blockA, hid]
      · rename_i hne
        obtain ⟨p1, p2⟩ := iha.1 h
        refine ⟨p1, fun N hN => ac_block ((p2 N hN).mono ?_)⟩
        rintro e' σ' ⟨rfl, rfl⟩
        cases e' with
        | exit id' => exact absurd h (hne id' s')
        | _ => exact ⟨rfl, rfl⟩
    · intro l s s' e _ h; simp [compC, evR] at h
  | loop a iha =>
    constructor
    · intro s s' e h
      simp only [compC, evC] at h
      have hmono := loopE_mono (fun s e s' h => (iha.1 h).1) h
      refine ⟨hmono, fun N hN => ?_⟩
      refine ac_loop (fun n σ => ∃ s1, σ = s1.as N m ∧ loopE (evC K F (compC P G m a)) n s1 = some (e, s')) F ⟨s, rfl, h⟩ ?_
      rintro n σ ⟨s1, rfl, h1⟩
      cases n with
      | zero => simp [loopE] at h1
      | succ n =>
        simp only [loopE] at h1
        split at h1
        · rename_i s2 h2
          obtain ⟨p1, p2⟩ := iha.1 h2
          have q1 := loopE_mono (fun s e s' h => (iha.1 h).1) h1
          refine (p2 N (Nat.le_trans q1 hN)).mono ?_
          rintro e' σ' ⟨rfl, rfl⟩
          exact ⟨n, Nat.lt_succ_self n, s2, rfl, h1⟩
        · rename_i hne
          obtain ⟨p1, p2⟩ := iha.1 h1
          refine (p2 N hN).mono ?_
          rintro e' σ' ⟨rfl, rfl⟩
          cases e' with
          | normal => exact absurd h1 (hne s')
          | _ => exact ⟨rfl, rfl⟩
    · intro l s s' e _ h; simp [compC, evR] at h
  | exit id =>
    constructor
    · intro s s' e h
      simp only [compC, evC, Option.some.injEq, Prod.mk.injEq] at h
      obtain ⟨rfl, rfl⟩ := h
      exact ⟨Nat.le_refl _, fun N _ => ac_exit ⟨rfl, rfl⟩⟩
    · intro l s s' e _ h; simp [compC, evR] at h
  | ret =>
    constructor
    · intro s s' e h
      simp only [compC, evC, Option.some.injEq, Prod.mk.injEq] at h
      obtain ⟨rfl, rfl⟩ := h
      exact ⟨Nat.le_refl _, fun N _ => ac_ret ⟨rfl, rfl⟩⟩
    · intro l s s' e _ h; simp [compC, evR] at h
  | label l0 =>
    constructor
    · intro s s' e h
      simp only [compC, evC, Option.some.injEq, Prod.mk.injEq] at h
      obtain ⟨rfl, rfl⟩ := h
      exact ⟨Nat.le_refl _, fun N _ => ac_label ⟨rfl, rfl⟩⟩
    · intro l s s' e _ h; simp [compC, evR] at h
  | goto l0 =>
    constructor
    · intro s s' e h
      simp only [compC, evC, Option.some.injEq, Prod.mk.injEq] at h
      obtain ⟨rfl, rfl⟩ := h
      exact ⟨Nat.le_refl _, fun N _ => ac_goto ⟨rfl, rfl⟩⟩
    · intro l s s' e _ h; simp [compC, evR] at h
  | scope c ihc =>
    constructor
    · intro s s' e h
      simp only [compC] at h
      split at h
      case h_2 => simp [evC] at h
      rename_i l hl
      split at h
      case isFalse => simp [evC] at h
      rename_i hk
      simp only [evC] at h
      have gm : ∀ s e s', evR K F l (compC P G m c) s = some (e, s') → s.n ≤ s'.n := fun s e s' h => (ihc.2 hk h).1
      split at h
      · rename_i l' s1 h1
        split at h
        · rename_i hl'
          subst hl'
          obtain ⟨p1, p2⟩ := ihc.1 h1
          have q1 := jumpE_mono gm h
          refine ⟨Nat.le_trans p1 q1, fun N hN => ?_⟩
          -- the rest behind the label
          obtain ⟨r, hf⟩ : ∃ r, findLabel c l' = some r := by
            cases F with
            | zero => simp [jumpE] at h
            | succ F =>
              simp only [jumpE] at h
              split at h
              · rename_i h2
                obtain ⟨_, r, hr, _⟩ := ihc.2 hk h2
                exact ⟨r, hr⟩
              · obtain ⟨_, r, hr, _⟩ := ihc.2 hk h
                exact ⟨r, hr⟩
          refine ac_scope hf (fun n σ => ∃ s2, σ = s2.as N m ∧ jumpE l' (evR K F l' (compC P G m c)) n s2 = some (e, s')) ?_ ?_
          · refine (p2 N (Nat.le_trans q1 hN)).mono ?_
            rintro e' σ' ⟨rfl, rfl⟩
            exact ⟨rfl, F, s1, rfl, h⟩
          · rintro n σ ⟨s2, rfl, h2⟩
            cases n with
            | zero => simp [jumpE] at h2
            | succ n =>
              simp only [jumpE] at h2
              split at h2
              · rename_i l2 s3 h3
                split at h2
                · rename_i hl2
                  subst hl2
                  obtain ⟨t1, r', hr', t2⟩ := ihc.2 hk h3
                  rw [hf] at hr'; injection hr' with hr'; subst hr'
                  refine (t2 N (Nat.le_trans (jumpE_mono gm h2) hN)).mono ?_
                  rintro e' σ' ⟨rfl, rfl⟩
                  exact ⟨rfl, n, Nat.lt_succ_self n, s3, rfl, h2⟩
                · cases h2
              · rename_i hne
                obtain ⟨t1, r', hr', t2⟩ := ihc.2 hk h2
                rw [hf] at hr'; injection hr' with hr'; subst hr'
                refine (t2 N hN).mono ?_
                rintro e' σ' ⟨rfl, rfl⟩
                cases e' with
                | goto l2 => exact absurd h2 (hne l2 s')
                | _ => exact ⟨rfl, rfl⟩
        · cases h
      · rename_i hne
        obtain ⟨p1, p2⟩ := ihc.1 h
        refine ⟨p1, fun N hN => ?_⟩
        obtain ⟨r, hf⟩ := spine_find hl
        refine ac_scope hf (fun _ _ => False) ((p2 N hN).mono ?_) (fun n σ h => h.elim)
        rintro e' σ' ⟨rfl, rfl⟩
        cases e' with
        | goto l2 => exact absurd h (hne l2 s')
        | _ => exact ⟨rfl, rfl⟩
    · intro l s s' e _ h
      simp only [compC] at h; (repeat' split at h) <;> simp [evR] at h
  | _ =>
    constructor
    · intro s s' e h
      simp [compC, evC] at h
    · intro l s s' e _ h; simp [compC, evR] at h
theorem evC_sound (hmx : P.follows .mixedOrders = true) (hK : KOk P G K) (hm : m + 1 < 2 ^ 24) (c : Code) {s s' : FS} {e : Exit} (h : evC K F (compC P G m c) s = some (e, s')) :
    s.n ≤ s'.n ∧ ∀ N, s'.n ≤ N → AC P G c (s.as N m) (fun e' σ' => e' = e ∧ σ' = s'.as N m) := (evC_both hmx hK hm c).1 h

end

def resRV (s : FS) : RV → Option AV
  | .tmp t => some (s.sl t)
  | .cell p k => match cellsAt (s.h) (s.sl p) with
    | some cs => partOf k cs
    | none => none

def argF (as : List AV) : Nat → AV := fun i => as.getD i .undef

def runFn (K : CallK) (F : Nat) (fi : FnInfo) (as : List AV) (h : AHeap) (n : Nat) : Option (AV × AHeap × Nat) :=
  if as.length ≤ fi.m then match evC K F fi.ac { sl := argF as, h := h, n := n } with
    | some (.normal, s) => (fi.res.mapM (resRV s)).map fun rs => (tupOf rs, s.h, s.n)
    | some (.ret, s) => (fi.res.mapM (resRV s)).map fun rs => (tupOf rs, s.h, s.n)
    | _ => none
  else none

section
variable {P : Program} {G : Glob} {K : CallK} {F : Nat}

theorem res_list {s : FS} {N m : Nat} : ∀ {l : List ResultVar} {rv : List RV} {rs : List AV}, l.mapM (compRV P) = some rv → rv.mapM (resRV s) = some rs → l.mapM (resOne P (s.as N m)) = some rs
  | [], rv, rs, h1, h2 => by
    simp at h1; subst h1
    simpa using h2
  | x :: l, rv, rs, h1, h2 => by
    simp only [List.mapM_cons, Option.bind_eq_bind, Option.bind_eq_some_iff, Option.pure_def, Option.some.injEq] at h1
    obtain ⟨v, hv, rv', hrv, rfl⟩ := h1
    simp only [List.mapM_cons, Option.bind_eq_bind, Option.bind_eq_some_iff, Option.pure_def, Option.some.injEq] at h2
    obtain ⟨r, hr, rs', hrs, rfl⟩ := h2
    have ih := res_list (N := N) (m := m) hrv hrs
    have h0 : resOne P (s.as N m) x = some r := by
      cases x with
      | tmp t =>
        simp only [compRV, Option.some.injEq] at hv; subst hv
        exact hr
      | cell p t =>
        simp only [compRV, Option.map_eq_some_iff] at hv
        obtain ⟨k, hk, rfl⟩ := hv
        simp only [resRV] at hr
        simp only [resOne, hk]
        split at hr
        · rename_i cs hcs
          have : cellsAt (s.as N m).h ((s.as N m).sl p) = some cs := hcs
          simp [this, hr]
        · cases hr
    simp [h0, ih]

theorem runFn_sound (hmx : P.follows .mixedOrders = true) (hK : KOk P G K) {f : FuncId} {fi : FnInfo} (ho : FnOk P G f fi) {as : List AV} {h h' : AHeap} {n n' : Nat} {r : AV} (he : runFn K F fi as h n = some (r, h', n')) :
    Callable P f ∧ n ≤ n' ∧ ∀ N, n' ≤ N → AFn P G f as (h) n N (fun r' h'' n'' => r' = r ∧ h'' = h' ∧ n'' = n') := by
  obtain ⟨fn, c, hf, hb, hname, hm, hm2, hc, hres⟩ := ho.ok
  unfold runFn at he
  split at he
  case isFalse => cases he
  rename_i hlen
  have key : ∃ e s, evC K F fi.ac { sl := argF as, h := h, n := n } = some (e, s) ∧ (e = .normal ∨ e = .ret) ∧ (fi.res.mapM (resRV s)).map (fun rs => (tupOf rs, s.h, s.n)) = some (r, h', n') := by
    split at he
    · rename_i s hs; exact ⟨_, s, hs, .inl rfl, he⟩
    · rename_i s hs; exact ⟨_, s, hs, .inr rfl, he⟩
    · cases he
  obtain ⟨e, s, hs, hex, hr⟩ := key
  simp only [Option.map_eq_some_iff, Prod.mk.injEq] at hr
  obtain ⟨rs, hrs, rfl, rfl, rfl⟩ := hr
  rw [← hc] at hs
  obtain ⟨p1, p2⟩ := evC_sound hmx hK hm2 c hs
  refine ⟨⟨fn, hf, hname, by simp [hb]⟩, p1, fun N hN => afn_of_ac hf hb ?_⟩
  have hst : ({ sl := fun i => as.getD i .undef, h := h, n := n, N := N, m := as.length + (fn.ntmps - as.length) } : AS) = ({ sl := argF as, h := h, n := n } : FS).as N fi.m := by
    simp only [FS.as, AS.mk.injEq, true_and]
    refine ⟨?_, by omega⟩
    rfl
  rw [hst]
  refine (p2 N hN).mono ?_
  rintro e' σ' ⟨rfl, rfl⟩
  refine ⟨hex, tupOf rs, ?_, rfl, rfl, rfl⟩
  simp only [resA, res_list hres hrs, Option.map_some]

end
end Go.Fw.Sy
