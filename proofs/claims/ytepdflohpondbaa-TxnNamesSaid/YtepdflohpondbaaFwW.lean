/- The evaluator is sound: code, functions, programs. -/
import Derived.Test.YtepdflohpondbaaFwV
set_option linter.unusedSimpArgs false
set_option linter.unusedVariables false
namespace Go.Fw

section
variable {P : Program} {G : Glob} {K : CallK} {F m : Nat} {ops : Array Oper}

theorem slL_none {T : Tx} {sl0 : Nat → AV} {k : Nat} : slL ops T sl0 k (fun _ => false) = sl0 := by
  funext s; simp only [slL, Bool.false_and]; rw [lw_false]
theorem hL_none {T : Tx} {h0 : AHeap} {k : Nat} : hL T h0 k (fun _ => false) = h0 := by
  funext s; simp only [hL, Bool.false_and]; rw [lw_false]

theorem ac_drawn (hmx : P.follows .mixedOrders = true) {id : Nat} {T : Tx} {s s' : ES} {N : Nat} {Q : Exit → AS → Prop} (D : Drawn P G ops T (slT s.sl) (hT s.h) s.n s'.n m) (e1 : slT s'.sl = slL ops T (slT s.sl) ops.size (fun _ => true))
    (e2 : hT s'.h = hL T (hT s.h) ops.size (fun _ => true)) (e3 : T.lo ops.size = s'.n) (e4 : s.n ≤ s'.n) (hN : s'.n ≤ N) (hQ : Q .normal (s'.as N m)) : AC P G (.region id ops true) (s.as N m) Q := by
  intro ρ S a w R
  refine wp_region_any hmx ?_
  have hd := R.heap.drew
  have el : lst (Array.replicate ops.size false) = fun _ => false := by
    funext i
    simp only [lst, Array.getD_eq_getD_getElem?, Array.getElem?_replicate]
    split <;> rfl
  refine wpAny_drawn D (Q := fun e a' w' => ∃ ρ' S' σ', After G ρ S (s.as N m) w ρ' S' σ' a' w' ∧ Q e σ') (ρ0 := ρ) (S0 := S) (w0 := w.drew) ?_ ops.size _ ρ S a w.drew (by simp) ?_ ?_
  · intro ρ' S' a' w' I
    refine ⟨ρ', S', s'.as N m, ⟨⟨?_, I.size, fun i => ?_, fun i h1 h2 => ?_, I.glob, I.defers⟩, ?_, ?_, e4, rfl, rfl⟩, hQ⟩
    · show RelH ρ' S' (hT s'.h) w'
      rw [e2]; exact I.heap
    · show AVR ρ' S' w' (slT s'.sl i) _
      rw [e1]; exact I.slots i
    · have h1' : s'.n ≤ i := h1
      rw [I.keep i (.inr (by rw [e3]; exact h1'))]
      exact R.fresh i (Nat.le_trans e4 h1') h2
    · show Adv ρ S (hT s.h) w ρ' S' (hT s'.h) w'
      rw [e2]; exact hd.2.trans I.adv
    · intro i hi
      refine I.keep i (hi.imp (fun h => h) fun h => ?_)
      rw [e3]; exact h
  · rw [el]
    refine ⟨fun j o ho hj => (by cases hj), by rw [hL_none]; exact hd.1, R.size, fun i => by rw [slL_none]; exact (R.slots i).drew, fun i h1 h2 h3 => ?_, R.glob.adv R.heap hd.2, R.defers, by rw [hL_none]; exact .refl _ _ _ _, fun _ _ => rfl⟩
    exact absurd (R.fresh i h1 (Nat.lt_of_lt_of_le h2 hN)) h3
  · rw [el]
    have : ∀ n, cnt (fun _ => false) n = n := by
      intro n
      induction n with
      | zero => rfl
      | succ n ih => simp [cnt, ih]
    rw [this]; exact Nat.le_refl _

theorem loopE_mono {g : ES → Option (Exit × ES)} (hg : ∀ s e s', g s = some (e, s') → s.n ≤ s'.n) : ∀ {f : Nat} {s s' : ES} {e : Exit}, loopE g f s = some (e, s') → s.n ≤ s'.n
  | 0, s, s', e, h => by simp [loopE] at h
  | f + 1, s, s', e, h => by
    simp only [loopE] at h
    split at h
    · rename_i s1 h1
      exact Nat.le_trans (hg _ _ _ h1) (loopE_mono hg h)
    · exact hg _ _ _ h

theorem evC_sound (hmx : P.follows .mixedOrders = true) (hK : KOk P G K) (hm : m + 1 < 2 ^ 24) : ∀ (c : Code) {s s' : ES} {e : Exit}, evC K F (compC P G m c) s = some (e, s') →
    s.n ≤ s'.n ∧ ∀ N, s'.n ≤ N → AC P G c (s.as N m) (fun e' σ' => e' = e ∧ σ' = s'.as N m) := by
  intro c
  induction c with
  | skip =>
    intro s s' e h
    simp only [compC, evC, Option.some.injEq, Prod.mk.injEq] at h
    obtain ⟨rfl, rfl⟩ := h
    exact ⟨Nat.le_refl _, fun N _ => ac_skip ⟨rfl, rfl⟩⟩
  | region id ops dr =>
    intro s s' e h
    cases dr with
    | false =>
      simp only [compC] at h
      split at h
      · rename_i l hl
        simp only [evC, Option.map_eq_some_iff, Prod.mk.injEq] at h
        obtain ⟨s1, h1, rfl, rfl⟩ := h
        obtain ⟨p1, p2⟩ := evOps_sound hK hm hl h1
        exact ⟨p1, fun N hN => ac_region (p2 N hN) ⟨rfl, rfl⟩⟩
      · simp [evC] at h
    | true =>
      simp only [compC] at h
      split at h
      case h_1 => simp [evC] at h
      split at h
      · rename_i l hl
        simp only [evC, Option.map_eq_some_iff, Prod.mk.injEq] at h
        obtain ⟨⟨ds, s1⟩, h1, rfl, rfl⟩ := h
        obtain ⟨D, e1, e2, e3, e4⟩ := drawn_of hK hm hl h1
        exact ⟨e4, fun N hN => ac_drawn hmx D e1 e2 e3 e4 hN ⟨rfl, rfl⟩⟩
      · simp [evC] at h
  | seq a b iha ihb =>
    intro s s' e h
    simp only [compC, evC] at h
    split at h
    · rename_i s1 h1
      obtain ⟨p1, p2⟩ := iha h1
      obtain ⟨q1, q2⟩ := ihb h
      refine ⟨Nat.le_trans p1 q1, fun N hN => ac_seq ((p2 N (Nat.le_trans q1 hN)).mono ?_)⟩
      rintro e' σ' ⟨rfl, rfl⟩
      exact q2 N hN
    · rename_i hne
      obtain ⟨p1, p2⟩ := iha h
      refine ⟨p1, fun N hN => ac_seq ((p2 N hN).mono ?_)⟩
      rintro e' σ' ⟨rfl, rfl⟩
      cases e' with
      | normal => exact absurd h (hne s')
      | _ => exact ⟨rfl, rfl⟩
  | cond c a b iha ihb =>
    intro s s' e h
    simp only [compC] at h
    split at h
    · rename_i x hx
      simp only [evC] at h
      split at h
      · rename_i hb
        obtain ⟨p1, p2⟩ := iha h
        exact ⟨p1, fun N hN => ac_cond (t := true) hx hb (p2 N hN)⟩
      · rename_i hb
        obtain ⟨p1, p2⟩ := ihb h
        exact ⟨p1, fun N hN => ac_cond (t := false) hx hb (p2 N hN)⟩
      · cases h
    · simp [evC] at h
  | block id a iha =>
    intro s s' e h
    simp only [compC, evC] at h
    split at h
    · rename_i id' s1 h1
      obtain ⟨p1, p2⟩ := iha h1
      split at h
      · rename_i hid
        simp only [Option.some.injEq, Prod.mk.injEq] at h
        obtain ⟨rfl, rfl⟩ := h
        refine ⟨p1, fun N hN => ac_block ((p2 N hN).mono ?_)⟩
        rintro e' σ' ⟨rfl, rfl⟩
        simp [blockA, hid]
      · rename_i hid
        simp only [Option.some.injEq, Prod.mk.injEq] at h
        obtain ⟨rfl, rfl⟩ := h
        refine ⟨p1, fun N hN => ac_block ((p2 N hN).mono ?_)⟩
        rintro e' σ' ⟨rfl, rfl⟩
        simp [blockA, hid]
    · rename_i hne
      obtain ⟨p1, p2⟩ := iha h
      refine ⟨p1, fun N hN => ac_block ((p2 N hN).mono ?_)⟩
      rintro e' σ' ⟨rfl, rfl⟩
      cases e' with
      | exit id' => exact absurd h (hne id' s')
      | _ => exact ⟨rfl, rfl⟩
  | loop a iha =>
    intro s s' e h
    simp only [compC, evC] at h
    have hmono := loopE_mono (fun s e s' h => (iha h).1) h
    refine ⟨hmono, fun N hN => ?_⟩
    refine ac_loop (fun n σ => ∃ s1, σ = s1.as N m ∧ loopE (evC K F (compC P G m a)) n s1 = some (e, s')) F ⟨s, rfl, h⟩ ?_
    rintro n σ ⟨s1, rfl, h1⟩
    cases n with
    | zero => simp [loopE] at h1
    | succ n =>
      simp only [loopE] at h1
      split at h1
      · rename_i s2 h2
        obtain ⟨p1, p2⟩ := iha h2
        have q1 := loopE_mono (fun s e s' h => (iha h).1) h1
        refine (p2 N (Nat.le_trans q1 hN)).mono ?_
        rintro e' σ' ⟨rfl, rfl⟩
        exact ⟨n, Nat.lt_succ_self n, s2, rfl, h1⟩
      · rename_i hne
        obtain ⟨p1, p2⟩ := iha h1
        refine (p2 N hN).mono ?_
        rintro e' σ' ⟨rfl, rfl⟩
        cases e' with
        | normal => exact absurd h1 (hne s')
        | _ => exact ⟨rfl, rfl⟩
  | exit id =>
    intro s s' e h
    simp only [compC, evC, Option.some.injEq, Prod.mk.injEq] at h
    obtain ⟨rfl, rfl⟩ := h
    exact ⟨Nat.le_refl _, fun N _ => ac_exit ⟨rfl, rfl⟩⟩
  | ret =>
    intro s s' e h
    simp only [compC, evC, Option.some.injEq, Prod.mk.injEq] at h
    obtain ⟨rfl, rfl⟩ := h
    exact ⟨Nat.le_refl _, fun N _ => ac_ret ⟨rfl, rfl⟩⟩
  | scope c =>
    intro s s' e h
    simp only [compC] at h
    (repeat' split at h) <;> simp [evC] at h
  | _ =>
    intro s s' e h
    simp [compC, evC] at h
end

/-! ### Functions -/
inductive RV where
  | tmp (t : Nat)
  | cell (p : Nat) (k : Pt)
  deriving Inhabited

def compRV (P : Program) : ResultVar → Option RV
  | .tmp t => some (.tmp t)
  | .cell p t => (tyPt P t).map (.cell p)

def resRV (s : ES) : RV → Option AV
  | .tmp t => some (slT s.sl t)
  | .cell p k => match cellsAt (hT s.h) (slT s.sl p) with
    | some cs => partOf k cs
    | none => none

structure FnInfo where
  m : Nat
  ac : ACd
  res : List RV
  deriving Inhabited

def argT : Nat → List AV → Tr AV
  | _, [] => .nil
  | i, a :: r => Tr.set .undef a 24 (argT (i + 1) r) i

def runFn (K : CallK) (F : Nat) (fi : FnInfo) (as : List AV) (h : Tr (Option Blk)) (n : Nat) : Option (AV × Tr (Option Blk) × Nat) :=
  if as.length ≤ fi.m then match evC K F fi.ac { sl := argT 0 as, h := h, n := n } with
    | some (.normal, s) => (fi.res.mapM (resRV s)).map fun rs => (tupOf rs, s.h, s.n)
    | some (.ret, s) => (fi.res.mapM (resRV s)).map fun rs => (tupOf rs, s.h, s.n)
    | _ => none
  else none

/-- The calls of a table, so deep. -/
def callsK (tbl : FuncId → Option FnInfo) (F : Nat) : Nat → CallK
  | 0 => fun _ _ _ _ => none
  | d + 1 => fun f as h n => match tbl f with
    | some fi => runFn (callsK tbl F d) F fi as h n
    | none => none

structure FnOk (P : Program) (G : Glob) (f : FuncId) (fi : FnInfo) : Prop where
  ok : ∃ fn c, P.funcs[f]? = some fn ∧ fn.body = some c ∧ (fn.name == "runtime.NumGoroutine") = false ∧ fi.m = fn.ntmps ∧ fi.m + 1 < 2 ^ 24 ∧ compC P G fi.m c = fi.ac ∧ fn.results.toList.mapM (compRV P) = some fi.res

section
variable {P : Program} {G : Glob} {K : CallK} {F : Nat}

theorem argT_sl : ∀ {as : List AV} {i j : Nat}, i + as.length + 1 < 2 ^ 24 → slT (argT i as) j = if i ≤ j then (as[j - i]?).getD .undef else .undef
  | [], i, j, _ => by simp [argT, slT, Tr.get]
  | a :: r, i, j, h => by
    simp only [List.length_cons] at h
    simp only [argT, slT]
    rw [Tr.get_set _ _ _ _ _ _ (by omega)]
    have ih := argT_sl (as := r) (i := i + 1) (j := j) (by omega)
    simp only [slT] at ih
    rw [ih]
    by_cases e : j = i
    · subst e; simp
    · rw [if_neg e]
      by_cases h1 : i + 1 ≤ j
      · rw [if_pos h1, if_pos (by omega), show j - i = (j - (i + 1)) + 1 by omega]; simp
      · rw [if_neg h1, if_neg (by omega)]

theorem res_list {s : ES} {N m : Nat} : ∀ {l : List ResultVar} {rv : List RV} {rs : List AV}, l.mapM (compRV P) = some rv → rv.mapM (resRV s) = some rs → l.mapM (resOne P (s.as N m)) = some rs
  | [], rv, rs, h1, h2 => by
    simp at h1; subst h1
    simpa using h2
  | x :: l, rv, rs, h1, h2 => by
    simp only [List.mapM_cons, Option.bind_eq_bind, Option.bind_eq_some_iff, Option.pure_def, Option.some.injEq] at h1
    obtain ⟨v, hv, rv', hrv, rfl⟩ := h1
    simp only [List.mapM_cons, Option.bind_eq_bind, Option.bind_eq_some_iff, Option.pure_def, Option.some.injEq] at h2
    obtain ⟨r, hr, rs', hrs, rfl⟩ := h2
    have ih := res_list (N := N) (m := m) hrv hrs
    have h0 : resOne P (s.as N m) x = some r := by
      cases x with
      | tmp t =>
        simp only [compRV, Option.some.injEq] at hv; subst hv
        exact hr
      | cell p t =>
        simp only [compRV, Option.map_eq_some_iff] at hv
        obtain ⟨k, hk, rfl⟩ := hv
        simp only [resRV] at hr
        simp only [resOne, hk]
        split at hr
        · rename_i cs hcs
          have : cellsAt (s.as N m).h ((s.as N m).sl p) = some cs := hcs
          simp [this, hr]
        · cases hr
    simp [h0, ih]

theorem runFn_sound (hmx : P.follows .mixedOrders = true) (hK : KOk P G K) {f : FuncId} {fi : FnInfo} (ho : FnOk P G f fi) {as : List AV} {h h' : Tr (Option Blk)} {n n' : Nat} {r : AV} (he : runFn K F fi as h n = some (r, h', n')) :
    Callable P f ∧ n ≤ n' ∧ ∀ N, n' ≤ N → AFn P G f as (hT h) n N (fun r' h'' n'' => r' = r ∧ h'' = hT h' ∧ n'' = n') := by
  obtain ⟨fn, c, hf, hb, hname, hm, hm2, hc, hres⟩ := ho.ok
  unfold runFn at he
  split at he
  case isFalse => cases he
  rename_i hlen
  have key : ∃ e s, evC K F fi.ac { sl := argT 0 as, h := h, n := n } = some (e, s) ∧ (e = .normal ∨ e = .ret) ∧ (fi.res.mapM (resRV s)).map (fun rs => (tupOf rs, s.h, s.n)) = some (r, h', n') := by
    split at he
    · rename_i s hs; exact ⟨_, s, hs, .inl rfl, he⟩
    · rename_i s hs; exact ⟨_, s, hs, .inr rfl, he⟩
    · cases he
  obtain ⟨e, s, hs, hex, hr⟩ := key
  simp only [Option.map_eq_some_iff, Prod.mk.injEq] at hr
  obtain ⟨rs, hrs, rfl, rfl, rfl⟩ := hr
  rw [← hc] at hs
  obtain ⟨p1, p2⟩ := evC_sound hmx hK hm2 c hs
  refine ⟨⟨fn, hf, hname, by simp [hb]⟩, p1, fun N hN => afn_of_ac hf hb ?_⟩
  have hst : ({ sl := fun i => as.getD i .undef, h := hT h, n := n, N := N, m := as.length + (fn.ntmps - as.length) } : AS) = ({ sl := argT 0 as, h := h, n := n } : ES).as N fi.m := by
    simp only [ES.as, AS.mk.injEq, true_and]
    refine ⟨?_, by omega⟩
    funext i
    rw [argT_sl (by omega)]
    simp
  rw [hst]
  refine (p2 N hN).mono ?_
  rintro e' σ' ⟨rfl, rfl⟩
  refine ⟨hex, tupOf rs, ?_, rfl, rfl, rfl⟩
  simp only [resA, res_list hres hrs, Option.map_some]

theorem callsK_ok (hmx : P.follows .mixedOrders = true) {tbl : FuncId → Option FnInfo} (ht : ∀ f fi, tbl f = some fi → FnOk P G f fi) : ∀ d, KOk P G (callsK tbl F d)
  | 0 => fun f as h n r h' n' he => by simp [callsK] at he
  | d + 1 => fun f as h n r h' n' he hn => by
    simp only [callsK] at he
    split at he
    · rename_i fi hfi
      obtain ⟨q1, _, q2⟩ := runFn_sound hmx (callsK_ok hmx ht d) (ht f fi hfi) he
      exact ⟨q1, q2⟩
    · cases he
end
end Go.Fw
