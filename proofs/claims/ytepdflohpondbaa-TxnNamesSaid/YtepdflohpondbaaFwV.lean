/- The evaluator is sound: a region that draws, joined; the code. -/
import Derived.Test.YtepdflohpondbaaFwU
set_option linter.unusedSimpArgs false
set_option linter.unusedVariables false
namespace Go.Fw

theorem runOp_silent_U {op : AOp} (hs : op.silent = true) {sl : Nat → AV} {h : AHeap} {n : Nat} {a : AV} {U : List (Nat × Option Blk)} (hr : runOp op sl h n = some (a, U)) : U = [] := by
  cases op <;> simp only [AOp.silent, Bool.false_eq_true] at hs <;> simp only [runOp] at hr
  all_goals (repeat' split at hr)
  all_goals first
    | (cases hr; done)
    | (simp only [Option.some.injEq, Prod.mk.injEq] at hr; exact hr.2.symm)
    | (simp only [Option.map_eq_some_iff, Prod.mk.injEq] at hr; obtain ⟨_, _, _, h2⟩ := hr; exact h2.symm)

theorem callOf_silent {op : AOp} (hs : op.silent = true) {sl : Nat → AV} : callOf sl op = none := by
  cases op <;> simp only [AOp.silent, Bool.false_eq_true] at hs <;> rfl

theorem evDOp_silent {K : CallK} {ao : AOper} {s : ES} {d : DRec} (hs : ao.op.silent = true) (he : evDOp K ao s = some d) : d.U = [] ∧ d.foot = [] := by
  unfold evDOp at he
  rw [callOf_silent hs] at he
  split at he
  · split at he
    · rename_i hq; cases hq
    · split at he
      · rename_i a U hr
        split at he
        · injection he with he; subst he
          exact ⟨runOp_silent_U hs hr, by simp [hs]⟩
        · cases he
      · cases he
  · injection he with he; subst he
    exact ⟨rfl, rfl⟩
  · cases he

theorem appAt_mem : ∀ {U : List (Nat × Option Blk)} {id : Nat}, (appAt U id).isSome = true → ∃ p ∈ U, p.1 = id
  | [], id, h => by simp [appAt] at h
  | (i, b) :: r, id, h => by
    simp only [appAt] at h
    cases hr : appAt r id with
    | some x =>
      obtain ⟨p, hp, e⟩ := appAt_mem (U := r) (id := id) (by simp [hr])
      exact ⟨p, List.mem_cons_of_mem _ hp, e⟩
    | none =>
      rw [hr] at h
      by_cases e : i = id
      · exact ⟨(i, b), List.mem_cons_self, e⟩
      · simp [e] at h

theorem clash_spec {x d : DRec} (h : clash x d = false) : (∀ id, (appAt x.U id).isSome = true → id ∉ d.foot ∧ ¬ (appAt d.U id).isSome = true) ∧ ∀ id, (appAt d.U id).isSome = true → id ∉ x.foot := by
  simp only [clash, Bool.or_eq_false_iff] at h
  obtain ⟨h1, h2⟩ := h
  rw [List.any_eq_false] at h1 h2
  refine ⟨fun id hid => ?_, fun id hid hf => ?_⟩
  · obtain ⟨p, hp, rfl⟩ := appAt_mem hid
    have := h1 p hp
    simp only [Bool.or_eq_true, not_or, Bool.not_eq_true] at this
    refine ⟨fun hf => ?_, fun hq => ?_⟩
    · have h3 := this.1
      simp at h3; exact h3 hf
    · obtain ⟨q, hq1, hq2⟩ := appAt_mem hq
      have h3 := List.any_eq_false.1 this.2 q hq1
      simp at h3; exact h3 hq2
  · obtain ⟨p, hp, rfl⟩ := appAt_mem hid
    have := h2 p hp
    simp at this; exact this hf

section
variable {P : Program} {G : Glob} {K : CallK} {m : Nat} {ops : Array Oper}

theorem compOpers_spec {chk : Nat → List Nat} : ∀ {L : List Oper} {i : Nat} {al : List AOper}, compOpers P G m ops chk i L = some al → al.length = L.length ∧ ∀ (j : Nat) (o : Oper), L[j]? = some o → ∃ ao, al[j]? = some ao ∧ compOper P G m ops (chk (i + j)) o = some ao
  | [], i, al, h => by
    simp only [compOpers, Option.some.injEq] at h; subst h
    exact ⟨rfl, fun j o hj => by simp at hj⟩
  | o :: r, i, al, h => by
    simp only [compOpers] at h
    split at h
    · rename_i a l h1 h2
      injection h with h; subst h
      obtain ⟨p1, p2⟩ := compOpers_spec h2
      refine ⟨by simp [p1], fun j o' hj => ?_⟩
      cases j with
      | zero => simp at hj; subst hj; exact ⟨a, rfl, h1⟩
      | succ j =>
        obtain ⟨ao, q1, q2⟩ := p2 j o' (by simpa using hj)
        exact ⟨ao, by simpa using q1, by rw [show i + (j + 1) = i + 1 + j by omega]; exact q2⟩
    · cases h

def txOf (l : List AOper) (ds : List DRec) (s : ES) : Tx :=
  { c := fun i => ((ds[i]?).map (·.c)).getD .undef, U := fun i => ((ds[i]?).map (·.U)).getD [], lo := fun i => (stD l ds s i).n,
    looks := fun i => ((l[i]?).map looksOf).getD [], foot := fun i => ((ds[i]?).map (·.foot)).getD [] }

theorem lw_false : ∀ n, lw (fun _ => false) n = none
  | 0 => rfl
  | n + 1 => by simp [lw, lw_false n]

theorem slL_zero {T : Tx} {sl0 : Nat → AV} {k : Nat} : slL ops T sl0 k (fun x => decide (x < 0)) = sl0 := by
  have : ∀ n s, lw (fun i => decide (i < 0) && decide (dstOf ops i = some s)) n = none := by
    intro n s
    rw [lw_congr (q := fun _ => false) (fun i _ => by simp)]
    exact lw_false n
  funext s
  simp only [slL, this]
theorem hL_zero {T : Tx} {h0 : AHeap} {k : Nat} : hL T h0 k (fun x => decide (x < 0)) = h0 := by
  have : ∀ n id, lw (fun i => decide (i < 0) && (appAt (T.U i) id).isSome) n = none := by
    intro n s
    rw [lw_congr (q := fun _ => false) (fun i _ => by simp)]
    exact lw_false n
  funext s
  simp only [hL, this]

theorem slL_succ {T : Tx} {sl0 : Nat → AV} {k j : Nat} (hj : j < k) : slL ops T sl0 k (fun x => decide (x < j + 1)) = putSl (slL ops T sl0 k (fun x => decide (x < j))) (dstOf ops j) (T.c j) := by
  funext s
  by_cases hd : dstOf ops j = some s
  · have h1 : lw (fun i => decide (i < j + 1) && decide (dstOf ops i = some s)) k = some j :=
      lw_last (by simp [hd]) hj fun i (h1 : j < i) h2 => by
        have : ¬ i < j + 1 := by omega
        simp [this]
    rw [hd]
    simp [slL, h1, putSl]
  · have h1 : lw (fun i => decide (i < j + 1) && decide (dstOf ops i = some s)) k = lw (fun i => decide (i < j) && decide (dstOf ops i = some s)) k := by
      refine lw_congr fun i _ => ?_
      by_cases e : i = j
      · subst e; simp [hd]
      · have : (i < j + 1) ↔ (i < j) := by omega
        simp [this]
    have h2 : putSl (slL ops T sl0 k (fun x => decide (x < j))) (dstOf ops j) (T.c j) s = slL ops T sl0 k (fun x => decide (x < j)) s := by
      cases hx : dstOf ops j with
      | none => rfl
      | some d =>
        have : s ≠ d := by rintro rfl; exact hd hx
        simp [putSl, this]
    rw [h2]
    simp only [slL, h1]
theorem hL_succ {T : Tx} {h0 : AHeap} {k j : Nat} (hj : j < k) : hL T h0 k (fun x => decide (x < j + 1)) = app (hL T h0 k (fun x => decide (x < j))) (T.U j) := by
  funext id
  rw [app_at]
  cases hd : appAt (T.U j) id with
  | some x =>
    have h1 : lw (fun i => decide (i < j + 1) && (appAt (T.U i) id).isSome) k = some j :=
      lw_last (by simp [hd]) hj fun i (h1 : j < i) h2 => by
        have : ¬ i < j + 1 := by omega
        simp [this]
    simp [hL, h1, hd]
  | none =>
    have h1 : lw (fun i => decide (i < j + 1) && (appAt (T.U i) id).isSome) k = lw (fun i => decide (i < j) && (appAt (T.U i) id).isSome) k := by
      refine lw_congr fun i _ => ?_
      by_cases e : i = j
      · subst e; simp [hd]
      · have : (i < j + 1) ↔ (i < j) := by omega
        simp [this]
    simp only [hL, h1, Option.getD_none]

theorem drawn_of (hK : KOk P G K) (hm : m + 1 < 2 ^ 24) {l : List AOper} {ds : List DRec} {s s' : ES} (hc : compDrawn P G m ops = some l) (he : evDrawn K l [] s = some (ds, s')) :
    Drawn P G ops (txOf l ds s) (slT s.sl) (hT s.h) s.n s'.n m ∧ slT s'.sl = slL ops (txOf l ds s) (slT s.sl) ops.size (fun _ => true) ∧ hT s'.h = hL (txOf l ds s) (hT s.h) ops.size (fun _ => true) ∧ (txOf l ds s).lo ops.size = s'.n ∧ s.n ≤ s'.n := by
  unfold compDrawn at hc
  split at hc
  case h_2 => cases hc
  rename_i l0 hl0
  split at hc
  case h_2 => cases hc
  rename_i l' hl'
  split at hc
  case isFalse => cases hc
  rename_i hok
  injection hc with hc; subst hc
  simp only [Bool.and_eq_true] at hok
  obtain ⟨hpair, hdown⟩ := hok
  obtain ⟨hlen, hcomp⟩ := compOpers_spec hl'
  have hsz : l'.length = ops.size := by rw [hlen]; simp
  obtain ⟨dlen, hs', hrun⟩ := evDrawn_spec (K := K) (l0 := l') (s0 := s) (l := l') (ds := []) (by simp) (by simp) rfl he (fun i o d hi => by simp at hi)
  have hcomp' : ∀ (i : Nat) (o : Oper), ops[i]? = some o → ∃ ao, l'[i]? = some ao ∧ compOper P G m ops (chkOf ops l0 (0 + i)) o = some ao := fun i o ho => hcomp i o (by simpa using ho)
  -- each operation's record
  have rec_ : ∀ i, i < ops.size → ∃ o ao d, ops[i]? = some o ∧ l'[i]? = some ao ∧ ds[i]? = some d ∧ compOper P G m ops (chkOf ops l0 (0 + i)) o = some ao ∧ evDOp K ao (stD l' ds s i) = some d ∧ (∀ j ∈ ao.chk, ∃ x, ds[j]? = some x ∧ j < i ∧ clash x d = false) ∧ dstOf ops i = ao.dst := by
    intro i hi
    have ho : ops[i]? = some ops[i] := Array.getElem?_eq_getElem hi
    obtain ⟨ao, q1, q2⟩ := hcomp' i _ ho
    have hd : ds[i]? = some ds[i] := List.getElem?_eq_getElem (by omega)
    obtain ⟨r1, r2⟩ := hrun i ao _ q1 hd
    exact ⟨_, ao, _, ho, q1, hd, q2, r1, r2, by simp [dstOf, ho, (compOper_parts q2).2.2.1]⟩
  have hstep : ∀ i ao d, l'[i]? = some ao → ds[i]? = some d → stD l' ds s (i + 1) = stepD ao d (stD l' ds s i) := fun i ao d h1 h2 => by simp only [stD, h1, h2]
  -- the states
  have hst : ∀ i, i ≤ ops.size → slT (stD l' ds s i).sl = slL ops (txOf l' ds s) (slT s.sl) ops.size (fun x => decide (x < i)) ∧ hT (stD l' ds s i).h = hL (txOf l' ds s) (hT s.h) ops.size (fun x => decide (x < i)) ∧ s.n ≤ (stD l' ds s i).n := by
    intro i
    induction i with
    | zero => intro _; exact ⟨slL_zero.symm, hL_zero.symm, Nat.le_refl _⟩
    | succ i ih =>
      intro hi
      obtain ⟨e1, e2, e3⟩ := ih (by omega)
      obtain ⟨o, ao, d, ho, h1, h2, h3, h4, h5, h6⟩ := rec_ i (by omega)
      obtain ⟨n1, n2, _⟩ := evDOp_sound hK h3 h4
      have hdl := (compOper_parts h3).2.2.2.2
      have hdm : ∀ d, ao.dst = some d → d + 1 < 2 ^ 24 := fun d hx => by have := hdl d ((compOper_parts h3).2.2.1 ▸ hx); omega
      rw [hstep i ao d h1 h2, slL_succ (by omega), hL_succ (by omega), ← e1, ← e2, h6]
      refine ⟨?_, ?_, Nat.le_trans e3 n1⟩
      · simp only [stepD]; rw [putT_sl hdm]; simp [txOf, h2]
      · simp only [stepD]; rw [appT_h n2]; simp [txOf, h2]
  have pairs : ∀ i j, i < j → j < ops.size → ¬ reach ops i j → ∃ x y, l'[i]? = some x ∧ l'[j]? = some y ∧ confl x y = false ∧ ((x.op.silent = true ∧ y.op.silent = true) ∨ i ∈ y.chk) := by
    intro i j hij hj hn
    have h1 := List.all_eq_true.1 hpair j (List.mem_range.2 (by omega))
    have h2 := List.all_eq_true.1 h1 i (List.mem_range.2 hij)
    simp only [Bool.or_eq_true] at h2
    rcases h2 with h2 | h2
    · exact absurd (reachB_sound h2) hn
    · split at h2
      · rename_i x y hx hy
        simp only [Bool.and_eq_true, Bool.or_eq_true, Bool.not_eq_true'] at h2
        exact ⟨x, y, hx, hy, h2.1, h2.2.imp (fun h => h) (fun h => by simpa using h)⟩
      · cases h2
  have hall : ∀ k, (fun x : Nat => decide (x < ops.size)) k = true → True := fun _ _ => trivial
  have hlast := hst ops.size (Nat.le_refl _)
  have hs2 : s' = stD l' ds s ops.size := by rw [hs', hsz]
  refine ⟨Drawn.of_plain (fun i o d ho hd => ?_) (Nat.le_refl _) (fun i => ?_) ?_ (fun i o ho e he hb => ?_) (fun i o ho => ?_) (fun i j hij hj hcf => ?_) (fun i j hij hj hcf => ?_), ?_, ?_, ?_, ?_⟩
  · obtain ⟨ao, _, q2⟩ := hcomp' i o ho
    exact (compOper_parts q2).2.2.2.2 d hd
  · show (stD l' ds s i).n ≤ (stD l' ds s (i + 1)).n
    rcases Nat.lt_or_ge i ops.size with hi | hi
    · obtain ⟨o, ao, d, ho, h1, h2, h3, h4, h5, h6⟩ := rec_ i hi
      rw [hstep i ao d h1 h2]
      exact (evDOp_sound hK h3 h4).1
    · have : l'[i]? = none := List.getElem?_eq_none (by omega)
      simp [stD, this]
  · rw [hs2]; exact Nat.le_refl _
  · have hi : i < ops.size := by
      rcases Nat.lt_or_ge i ops.size with h | h
      · exact h
      · rw [Array.getElem?_eq_none h] at ho; cases ho
    have h1 := List.all_eq_true.1 hdown i (List.mem_range.2 hi)
    rw [ho] at h1
    have h2 := Array.all_eq_true'.1 h1 e he
    simpa [hb] using h2
  · have hi : i < ops.size := by
      rcases Nat.lt_or_ge i ops.size with h | h
      · exact h
      · rw [Array.getElem?_eq_none h] at ho; cases ho
    obtain ⟨o', ao, d, ho', h1, h2, h3, h4, h5, h6⟩ := rec_ i hi
    rw [ho] at ho'; injection ho' with ho'; subst ho'
    obtain ⟨_, _, b, hb⟩ := evDOp_sound hK h3 h4
    obtain ⟨e1, e2, _⟩ := hst i (by omega)
    refine ⟨ao.guard, b, (compOper_parts h3).2.1, fun sl h hs hh => ?_⟩
    have key := hb sl h (fun t ht => by rw [e1]; exact hs t (by simp [txOf, h1, ht])) (fun id hid => by rw [e2]; exact hh id (by simp [txOf, h2, hid]))
    have e3 : (txOf l' ds s).lo (i + 1) = d.n' := by
      show (stD l' ds s (i + 1)).n = d.n'
      rw [hstep i ao d h1 h2]; rfl
    have e4 : (txOf l' ds s).c i = d.c := by simp [txOf, h2]
    have e5 : (txOf l' ds s).U i = d.U := by simp [txOf, h2]
    rw [e3, e4, e5]
    exact key
  · refine Classical.byContradiction fun hn => ?_
    obtain ⟨x, y, hx, hy, hcf', _⟩ := pairs i j hij hj hn
    obtain ⟨_, ao, _, _, h1, _, _, _, _, h6⟩ := rec_ i (by omega)
    obtain ⟨_, ao', _, _, h1', _, _, _, _, h6'⟩ := rec_ j hj
    rw [h1] at hx; injection hx with hx; subst hx
    rw [h1'] at hy; injection hy with hy; subst hy
    have lx : (txOf l' ds s).looks i = looksOf ao := by simp [txOf, h1]
    have ly : (txOf l' ds s).looks j = looksOf ao' := by simp [txOf, h1']
    rw [lx, ly, h6, h6'] at hcf
    simp only [confl, Bool.or_eq_false_iff] at hcf'
    rcases hcf with ⟨t, ht, hh⟩ | ⟨t, ht, hh⟩
    · rw [ht] at hcf'
      have := hcf'.1
      simp only [Bool.or_eq_false_iff] at this
      rcases hh with hh | hh
      · have h9 := this.1; simp at h9; exact h9 hh
      · have h9 := this.2; rw [hh] at h9; simp at h9
    · rw [ht] at hcf'
      have h9 := hcf'.2; simp at h9; exact h9 hh
  · refine Classical.byContradiction fun hn => ?_
    obtain ⟨x, y, hx, hy, _, hsil⟩ := pairs i j hij hj hn
    obtain ⟨_, ao, d, _, h1, h2, _, h4, _, _⟩ := rec_ i (by omega)
    obtain ⟨_, ao', d', _, h1', h2', _, h4', h5', _⟩ := rec_ j hj
    rw [h1] at hx; injection hx with hx; subst hx
    rw [h1'] at hy; injection hy with hy; subst hy
    have ux : (txOf l' ds s).U i = d.U := by simp [txOf, h2]
    have uy : (txOf l' ds s).U j = d'.U := by simp [txOf, h2']
    have fx : (txOf l' ds s).foot i = d.foot := by simp [txOf, h2]
    have fy : (txOf l' ds s).foot j = d'.foot := by simp [txOf, h2']
    rw [ux, uy, fx, fy] at hcf
    rcases hsil with ⟨sx, sy⟩ | hin
    · have e1 := evDOp_silent sx h4
      have e2 := evDOp_silent sy h4'
      rw [e1.1, e1.2, e2.1, e2.2] at hcf
      rcases hcf with ⟨t, ht, hh⟩ | ⟨t, ht, hh⟩ <;> simp [appAt] at ht
    · obtain ⟨x, q1, q2, q3⟩ := h5' i hin
      rw [h2] at q1; injection q1 with q1; subst q1
      obtain ⟨c1, c2⟩ := clash_spec q3
      rcases hcf with ⟨t, ht, hh⟩ | ⟨t, ht, hh⟩
      · rcases hh with hh | hh
        · exact (c1 t ht).1 hh
        · exact (c1 t ht).2 hh
      · exact c2 t ht hh
  · rw [hs2, hlast.1]
    funext t; simp only [slL]; rw [lw_congr (fun i hi => by rw [show decide (i < ops.size) = true by simpa using hi])]
  · rw [hs2, hlast.2.1]
    funext t; simp only [hL]; rw [lw_congr (fun i hi => by rw [show decide (i < ops.size) = true by simpa using hi])]
  · rw [hs2]; rfl
  · rw [hs2]; exact hlast.2.2
end
end Go.Fw
