/- Functions and calls. -/
import Derived.Test.YtepdflohpondbaaFwM
set_option linter.unusedSimpArgs false
set_option linter.unusedVariables false
namespace Go.Fw

/-- A call, and what it leaves. -/
def AFn (P : Program) (G : Glob) (f : FuncId) (args : List AV) (h : AHeap) (n N : Nat) (Q : AV → AHeap → Nat → Prop) : Prop :=
  ∀ (ρ : Nat → Option (Nat × Nat)) (S : Nat → Prop) (w : World) (vs : List Value), RelH ρ S h w → (∀ id, n ≤ id → id < N → ρ id = none) → GRel G S w → args.length = vs.length →
    (∀ (i : Nat) (c : AV) (v : Value), args[i]? = some c → vs[i]? = some v → AVR ρ S w c v) →
    Calls P f vs.toArray w (fun e w' => ∃ v c h' n' ρ' S', e = .returned v ∧ AVR ρ' S' w' c v ∧ RelH ρ' S' h' w' ∧ Adv ρ S h w ρ' S' h' w' ∧ (∀ id, id < n ∨ n' ≤ id → ρ' id = ρ id) ∧ n ≤ n' ∧ Q c h' n')

section
variable {P : Program} {G : Glob} {ρ : Nat → Option (Nat × Nat)} {S : Nat → Prop} {σ : AS} {a : Act} {w : World} {h : AHeap} {n N : Nat}

theorem AFn.mono {f : FuncId} {args : List AV} {Q Q' : AV → AHeap → Nat → Prop} (x : AFn P G f args h n N Q) (hq : ∀ c h' n', Q c h' n' → Q' c h' n') : AFn P G f args h n N Q' := by
  intro ρ S w vs r hf hg hl ha
  refine Calls.mono (x ρ S w vs r hf hg hl ha) ?_
  rintro e w' ⟨v, c, h', n', ρ', S', h1, h2, h3, h4, h5, h6, h7⟩
  exact ⟨v, c, h', n', ρ', S', h1, h2, h3, h4, h5, h6, hq _ _ _ h7⟩

def resOne (P : Program) (σ : AS) : ResultVar → Option AV
  | .tmp t => some (σ.sl t)
  | .cell p t => match tyPt P t, cellsAt σ.h (σ.sl p) with
    | some k, some cs => partOf k cs
    | _, _ => none

def tupOf : List AV → AV
  | [a] => a
  | as => .tup as

def resA (P : Program) (rs : Array ResultVar) (σ : AS) : Option AV := (rs.toList.mapM (resOne P σ)).map tupOf

theorem results_one (R : RelSt G ρ S σ a w) {r : ResultVar} {c : AV} (hr : resOne P σ r = some c) :
    ∃ v, ((match r with
    | .tmp t => pure (a.tmps.getD t Go.undef)
    | .cell p t => do loadVar t (← asAddr (a.tmps.getD p Go.undef)) : Sem Value)).run P w = .ok v w ∧ AVR ρ S w c v := by
  cases r with
  | tmp t =>
    simp only [resOne, Option.some.injEq] at hr; subst hr
    exact ⟨_, rfl, R.slots t⟩
  | cell p t =>
    simp only [resOne] at hr
    split at hr
    · rename_i k cs hk hcs
      obtain ⟨b, o, e, h1⟩ := cellsAt_cells R.heap (R.slots p) hcs
      obtain ⟨u, e1, e2⟩ := run_loadVar_cells (P := P) hk h1 hr
      exact ⟨u, by simp [e, asAddr, e1], e2⟩
    · cases hr

theorem results_list (R : RelSt G ρ S σ a w) : ∀ {rs : List ResultVar} {cs : List AV}, rs.mapM (resOne P σ) = some cs →
    ∃ vs : List Value, (rs.mapM (fun r => (match r with
    | .tmp t => pure (a.tmps.getD t Go.undef)
    | .cell p t => do loadVar t (← asAddr (a.tmps.getD p Go.undef)) : Sem Value))).run P w = .ok vs w ∧ cs.length = vs.length ∧ ∀ (i : Nat) (c : AV) (v : Value), cs[i]? = some c → vs[i]? = some v → AVR ρ S w c v
  | [], cs, h => by
    simp at h; subst h
    exact ⟨[], by simp, rfl, fun i c v h => by simp at h⟩
  | r :: rs, cs, h => by
    simp only [List.mapM_cons, Option.bind_eq_bind, Option.bind_eq_some_iff, Option.pure_def, Option.some.injEq] at h
    obtain ⟨c, hc, cs', hcs, rfl⟩ := h
    obtain ⟨v, e1, e2⟩ := results_one R hc
    obtain ⟨vs, e3, e4, e5⟩ := results_list R hcs
    refine ⟨v :: vs, ?_, by simp [e4], fun i c' v' h1 h2 => ?_⟩
    · rw [List.mapM_cons, Sem.run_bind, e1, Result.andThen_ok, Sem.run_bind, e3, Result.andThen_ok]; rfl
    · cases i with
      | zero => simp at h1 h2; subst h1; subst h2; exact e2
      | succ i => exact e5 i c' v' (by simpa using h1) (by simpa using h2)

theorem results_rel (R : RelSt G ρ S σ a w) {fn : Func} {c : AV} (hr : resA P fn.results σ = some c) : ∃ v, (results fn a.tmps).run P w = .ok v w ∧ AVR ρ S w c v := by
  simp only [resA, Option.map_eq_some_iff] at hr
  obtain ⟨cs, hcs, rfl⟩ := hr
  obtain ⟨vs, e1, e2, e3⟩ := results_list R hcs
  refine ⟨if h : vs.toArray.size = 1 then vs.toArray[0] else .tuple vs.toArray, ?_, ?_⟩
  · unfold results
    rw [Array.mapM_eq_mapM_toList, map_eq_pure_bind, Sem.run_bind, Sem.run_bind]
    erw [e1]
    rfl
  · match cs, vs, e2, e3 with
    | [c], [v], _, e3 => exact e3 0 c v rfl rfl
    | [], [], _, e3 => exact .pv _ _ (.tup [] [] rfl (fun i c x h => by simp at h))
    | c1 :: c2 :: cs, v1 :: v2 :: vs, e2, e3 =>
      have : ¬ (v1 :: v2 :: vs).toArray.size = 1 := by simp
      rw [dif_neg this]
      exact .tup _ _ e2 e3

/-- A function, by its body. -/
theorem afn_of_ac {f : FuncId} {fn : Func} {c : Code} {args : List AV} {Q : AV → AHeap → Nat → Prop} (hf : P.funcs[f]? = some fn) (hb : fn.body = some c)
    (x : AC P G c { sl := fun i => args.getD i .undef, h := h, n := n, N := N, m := args.length + (fn.ntmps - args.length) } (fun e σ' => (e = .normal ∨ e = .ret) ∧ ∃ r, resA P fn.results σ' = some r ∧ Q r σ'.h σ'.n)) :
    AFn P G f args h n N Q := by
  intro ρ S w vs r hf' hg hl ha
  refine calls_of_wp hf hb (wp_mono (x ρ S _ w ⟨r, by simp [hl], fun i => ?_, hf', hg, rfl⟩) ?_)
  · simp only [List.getD_eq_getElem?_getD, Array.getD_eq_getD_getElem?]
    by_cases hi : i < vs.length
    · rw [Array.getElem?_append_left (by simpa using hi)]
      have hi' : i < args.length := by omega
      rw [List.getElem?_eq_getElem hi', List.getElem?_toArray, List.getElem?_eq_getElem hi]
      exact ha i _ _ (List.getElem?_eq_getElem hi') (List.getElem?_eq_getElem hi)
    · rw [Array.getElem?_append_right (by simpa using hi), List.getElem?_eq_none (by omega)]
      simp only [Option.getD_none]
      rw [Array.getElem?_replicate]
      split <;> exact .pv _ _ .undef
  · rintro e a' w' ⟨ρ', S', σ', A, he, c', hc', hQ⟩
    obtain ⟨v, e1, e2⟩ := results_rel A.rel hc'
    have key : a'.defers = [] ∧ ∃ v, (results fn a'.tmps).run P w' = .ok v w' ∧ (∃ v' c h' n' ρ' S', Ending.returned v = .returned v' ∧ AVR ρ' S' w' c v' ∧ RelH ρ' S' h' w' ∧ Adv ρ S h w ρ' S' h' w' ∧ (∀ id, id < n ∨ n' ≤ id → ρ' id = ρ id) ∧ n ≤ n' ∧ Q c h' n') :=
      ⟨A.rel.defers, v, e1, v, c', σ'.h, σ'.n, ρ', S', rfl, e2, A.rel.heap, A.adv, A.keep, A.le, hQ⟩
    rcases he with rfl | rfl
    · exact key
    · exact key

/-- A call of a function, as an operation. -/
theorem exec_call {o : Oper} {c : Call} {f : FuncId} {fn : Func} {ev : Operand → Value} (ho : o.op = .call c) (hc : c.callee = .value (.func f)) (hev : ev (.func f) = .func (.func f) #[] #[]) (hf : P.funcs[f]? = some fn) (hn : (fn.name == "runtime.NumGoroutine") = false) (hb : fn.body.isSome) :
    (execOp ev o).run P w = .ok (.enter f (c.args.map ev)) w := by
  have hb' : fn.body.isNone = false := by cases hx : fn.body <;> simp [hx] at hb ⊢
  have hn' : fn.name ≠ "runtime.NumGoroutine" := by simpa using hn
  have hb2 : fn.body ≠ none := by intro hx; simp [hx] at hb
  simp [execOp, ho, resolve, hc, hev, Deferred.ofValue, invoke, callFunc, hf, hn', hb2]

theorem yields_call {o : Oper} {c : Call} {f : FuncId} {fn : Func} {xs : List AOpd} {sl : Nat → AV} {n' : Nat} {r : AV} {h' : AHeap} (ho : o.op = .call c) (hc : c.callee = .value (.func f)) (hf : P.funcs[f]? = some fn)
    (hn : (fn.name == "runtime.NumGoroutine") = false) (hb : fn.body.isSome) (hx : opds G c.args.toList = some xs) (hcall : AFn P G f (xs.map (·.ev sl)) h n N (fun r' h'' n'' => r' = r ∧ h'' = h' ∧ n'' = n')) : Yields P G o sl h n N n' r h' := by
  intro ρ S w a rh hfr he hg next Q hnext
  obtain ⟨i1, i2⟩ := he.list hx
  have hcl := hcall ρ S w (c.args.toList.map a.eval) rh hfr hg i1 i2
  unfold Oper.wp
  rw [exec_call (P := P) ho hc (by rfl) hf hn hb, Oper.upon_enter]
  have e : c.args.map a.eval = (c.args.toList.map a.eval).toArray := by apply Array.ext'; simp
  rw [e]
  refine hcl.mono ?_
  rintro e' w' ⟨v, c', h1, n1, ρ', S', rfl, g1, g2, g3, g4, g5, rfl, rfl, rfl⟩
  exact hnext v w' ρ' S' g1 g2 g3 g4
end
end Go.Fw
