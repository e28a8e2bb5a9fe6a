/- The evaluator is sound: operations and calls in the order of the text. -/
import Derived.Test.YtepdflohpondbaaFwS
set_option linter.unusedSimpArgs false
set_option linter.unusedVariables false
namespace Go.Fw

def Callable (P : Program) (f : FuncId) : Prop := ∃ fn, P.funcs[f]? = some fn ∧ (fn.name == "runtime.NumGoroutine") = false ∧ fn.body.isSome = true

def KOk (P : Program) (G : Glob) (K : CallK) : Prop := ∀ f as h n r h' n', K f as h n = some (r, h', n') → n ≤ n' →
  Callable P f ∧ ∀ N, n' ≤ N → AFn P G f as (hT h) n N (fun r' h'' n'' => r' = r ∧ h'' = hT h' ∧ n'' = n')

section
variable {P : Program} {G : Glob} {ρ : Nat → Option (Nat × Nat)} {S : Nat → Prop} {w : World} {K : CallK} {N m : Nat} {ops : Array Oper}

theorem compBuiltin_call {b : Builtin} {args : List Operand} {ts : List TypeId} {f : FuncId} {xs : List AOpd} (h : compBuiltin P G b args ts = some (.call f xs)) : False := by
  unfold compBuiltin at h
  repeat' split at h
  all_goals simp_all
theorem compBuiltin_callv {b : Builtin} {args : List Operand} {ts : List TypeId} {f : AOpd} {xs : List AOpd} (h : compBuiltin P G b args ts = some (.callv f xs)) : False := by
  unfold compBuiltin at h
  repeat' split at h
  all_goals simp_all

theorem compOp_call {o : Oper} {f : FuncId} {xs : List AOpd} (h : compOp P G o = some (.call f xs)) : ∃ c, o.op = .call c ∧ c.callee = .value (.func f) ∧ opds G c.args.toList = some xs := by
  unfold compOp at h
  cases hop : o.op <;> simp only [hop] at h
  case call c =>
    split at h
    · exact (compBuiltin_call h).elim
    · rename_i f' hcal
      simp only [Option.map_eq_some_iff] at h
      obtain ⟨ys, h1, h2⟩ := h
      injection h2 with h2 h3
      subst h2; subst h3
      exact ⟨c, rfl, hcal, h1⟩
    · split at h <;> simp at h
    · cases h
  all_goals (repeat' split at h)
  all_goals first | (cases h; done) | (simp at h; done)

theorem compOp_callv {o : Oper} {x : AOpd} {xs : List AOpd} (h : compOp P G o = some (.callv x xs)) : ∃ c y, o.op = .call c ∧ c.callee = .value y ∧ opdOf G y = some x ∧ opds G c.args.toList = some xs := by
  unfold compOp at h
  cases hop : o.op <;> simp only [hop] at h
  case call c =>
    split at h
    · exact (compBuiltin_callv h).elim
    · simp at h
    · rename_i y hne hcal
      split at h
      · rename_i x' ys h1 h2
        injection h with h
        injection h with h3 h4
        subst h3; subst h4
        exact ⟨c, _, rfl, hcal, h1, h2⟩
      · cases h
    · cases h
  all_goals (repeat' split at h)
  all_goals first | (cases h; done) | (simp at h; done)

theorem exec_callOf {a : Act} {sl : Nat → AV} (he : Evs G ρ S w sl a.eval) {o : Oper} {op : AOp} {f : FuncId} {as : List AV} (hc : compOp P G o = some op) (hco : callOf sl op = some (f, as)) (hf : Callable P f) :
    ∃ vs : List Value, (execOp a.eval o).run P w = .ok (.enter f vs.toArray) w ∧ as.length = vs.length ∧ ∀ (i : Nat) (c : AV) (v : Value), as[i]? = some c → vs[i]? = some v → AVR ρ S w c v := by
  obtain ⟨fn, hf, hn, hb⟩ := hf
  have hn' : fn.name ≠ "runtime.NumGoroutine" := by simpa using hn
  have hb2 : fn.body ≠ none := by intro hx; simp [hx] at hb
  cases op <;> simp only [callOf, reduceCtorEq] at hco
  case call f' xs =>
    injection hco with hco; injection hco with h1 h2
    subst h1; subst h2
    obtain ⟨c, hop, hcal, hxs⟩ := compOp_call hc
    obtain ⟨i1, i2⟩ := he.list hxs
    refine ⟨c.args.toList.map a.eval, ?_, i1, i2⟩
    rw [exec_call (P := P) hop hcal (by rfl) hf hn hb]
    have e : c.args.map a.eval = (c.args.toList.map a.eval).toArray := by apply Array.ext'; simp
    rw [e]
  case callv x xs =>
    split at hco
    · rename_i f' first captured hx
      injection hco with hco; injection hco with h1 h2
      subst h1; subst h2
      obtain ⟨c, y, hop, hcal, hy, hxs⟩ := compOp_callv hc
      obtain ⟨i1, i2⟩ := he.list hxs
      have hv := he y x hy
      rw [hx] at hv
      obtain ⟨us, vs, e, l1, l2, p1, p2⟩ := avr_func hv
      refine ⟨us ++ c.args.toList.map a.eval ++ vs, ?_, by simp only [List.length_append]; omega, ?_⟩
      · have e2 : us.toArray ++ c.args.map a.eval ++ vs.toArray = (us ++ c.args.toList.map a.eval ++ vs).toArray := by apply Array.ext'; simp
        simp [execOp, hop, resolve, hcal, e, Deferred.ofValue, invoke, callFunc, hf, hn', hb2, ← e2]
      · intro i c' v' g1 g2
        rcases Nat.lt_or_ge i us.length with h | h
        · rw [List.append_assoc, List.getElem?_append_left (by omega)] at g1
          rw [List.append_assoc, List.getElem?_append_left h] at g2
          exact p1 i c' v' g1 g2
        · rw [List.append_assoc, List.getElem?_append_right (by omega)] at g1
          rw [List.append_assoc, List.getElem?_append_right h] at g2
          rcases Nat.lt_or_ge (i - us.length) (c.args.toList.map a.eval).length with h' | h'
          · rw [List.getElem?_append_left (by omega), l1] at g1
            rw [List.getElem?_append_left h'] at g2
            exact i2 _ c' v' g1 g2
          · rw [List.getElem?_append_right (by omega), l1, i1] at g1
            rw [List.getElem?_append_right h'] at g2
            exact p2 _ c' v' g1 g2
    · cases hco

theorem yields_callOf {o : Oper} {op : AOp} {sl : Nat → AV} {f : FuncId} {as : List AV} {h h' : AHeap} {n n' : Nat} {r : AV} (hc : compOp P G o = some op) (hco : callOf sl op = some (f, as)) (hf : Callable P f)
    (hcall : AFn P G f as h n N (fun r' h'' n'' => r' = r ∧ h'' = h' ∧ n'' = n')) : Yields P G o sl h n N n' r h' := by
  intro ρ S w a rh hfr he hg next Q hnext
  obtain ⟨vs, e1, e2, e3⟩ := exec_callOf he hc hco hf
  have hcl := hcall ρ S w vs rh hfr hg e2 e3
  unfold Oper.wp
  rw [e1, Oper.upon_enter]
  refine hcl.mono ?_
  rintro e' w' ⟨v, c', h1, n1, ρ', S', rfl, g1, g2, g3, g4, g5, rfl, rfl, rfl⟩
  exact hnext v w' ρ' S' g1 g2 g3 g4

theorem compOper_parts {chk : List Nat} {o : Oper} {ao : AOper} (hc : compOper P G m ops chk o = some ao) : compOp P G o = some ao.op ∧ compGuard ops o = some ao.guard ∧ ao.dst = o.dst ∧ ao.chk = chk ∧ ∀ d : Nat, o.dst = some d → d < m := by
  unfold compOper at hc
  split at hc
  · rename_i op g h1 h2
    split at hc
    · rename_i hd
      injection hc with hc; subst hc
      refine ⟨h1, h2, rfl, rfl, fun d hx => ?_⟩
      rw [hx] at hd
      simpa [dstOk] using hd
    · cases hc
  · cases hc

theorem idsLt_spec {U : List (Nat × Option Blk)} (h : idsLt U = true) : ∀ x ∈ U, x.1 + 1 < 2 ^ 24 := by
  intro x hx
  have := List.all_eq_true.1 h x hx
  simpa using this

theorem evOp_sound (hK : KOk P G K) (hm : m + 1 < 2 ^ 24) {chk : List Nat} {o : Oper} {ao : AOper} {s s' : ES} (hc : compOper P G m ops chk o = some ao) (he : evOp K ao s = some s') :
    s.n ≤ s'.n ∧ ∀ N, s'.n ≤ N → Steps1 P G ops o (s.as N m) (s'.as N m) := by
  obtain ⟨h1, h2, h3, h4, h5⟩ := compOper_parts hc
  have hd : ∀ d, ao.dst = some d → d + 1 < 2 ^ 24 := fun d hx => by have := h5 d (h3 ▸ hx); omega
  have hput : ∀ a, slT (putT s.sl ao.dst a) = putSl (slT s.sl) o.dst a := fun a => by rw [putT_sl hd, h3]
  unfold evOp at he
  split at he
  · rename_i hw
    split at he
    · rename_i f as hco
      split at he
      · rename_i r h' n' hk
        split at he
        · rename_i hn
          injection he with he; subst he
          obtain ⟨hf, hcall⟩ := hK _ _ _ _ _ _ _ hk hn
          refine ⟨hn, fun N hN => ⟨h5, ao.guard, h2, .inr ⟨hw, r, hT h', n', hn, yields_callOf h1 hco hf (hcall N hN), ?_⟩⟩⟩
          simp only [ES.as, hput]
        · cases he
      · cases he
    · split at he
      · rename_i a U hr
        split at he
        · rename_i hu
          injection he with he; subst he
          refine ⟨Nat.le_succ _, fun N hN => ⟨h5, ao.guard, h2, .inr ⟨hw, a, app (hT s.h) U, s.n + 1, Nat.le_succ _, yields_op hN h1 hr, ?_⟩⟩⟩
          simp only [ES.as, hput, appT_h (idsLt_spec hu)]
        · cases he
      · cases he
  · rename_i hw
    injection he with he; subst he
    refine ⟨Nat.le_refl _, fun N hN => ⟨h5, ao.guard, h2, .inl ⟨hw, ?_⟩⟩⟩
    simp only [ES.as, hput]
  · cases he

theorem evOps_sound (hK : KOk P G K) (hm : m + 1 < 2 ^ 24) {chk : Nat → List Nat} : ∀ {l : List Oper} {i : Nat} {al : List AOper} {s s' : ES}, compOpers P G m ops chk i l = some al → evOps K al s = some s' →
    s.n ≤ s'.n ∧ ∀ N, s'.n ≤ N → Runs P G ops l (s.as N m) (s'.as N m)
  | [], i, al, s, s', hc, he => by
    simp only [compOpers, Option.some.injEq] at hc; subst hc
    simp only [evOps, Option.some.injEq] at he; subst he
    exact ⟨Nat.le_refl _, fun N _ => rfl⟩
  | o :: r, i, al, s, s', hc, he => by
    simp only [compOpers] at hc
    split at hc
    · rename_i ao al' h1 h2
      injection hc with hc; subst hc
      simp only [evOps] at he
      split at he
      · rename_i s1 hs
        obtain ⟨l1, p1⟩ := evOp_sound hK hm h1 hs
        obtain ⟨l2, p2⟩ := evOps_sound hK hm h2 he
        exact ⟨Nat.le_trans l1 l2, fun N hN => ⟨s1.as N m, p1 N (Nat.le_trans l2 hN), p2 N hN⟩⟩
      · cases he
    · cases hc
end
end Go.Fw
