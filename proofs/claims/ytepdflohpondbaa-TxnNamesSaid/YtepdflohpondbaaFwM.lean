/- States; one operation in a state; the regions that run in the order of their text. -/
import Derived.Test.YtepdflohpondbaaFwL
import Derived.Deep.LoopGhost
set_option linter.unusedSimpArgs false
set_option linter.unusedVariables false
namespace Go.Fw

/-- Slots, heap, the next free name of a block, the end of the free names, how many slots. -/
structure AS where
  sl : Nat → AV
  h : AHeap
  n : Nat
  N : Nat
  m : Nat

def putSl (sl : Nat → AV) (dst : Option Nat) (a : AV) : Nat → AV := match dst with
  | some d => fun i => if i = d then a else sl i
  | none => sl

/-- The blocks of the globals. -/
def GRel (G : Glob) (S : Nat → Prop) (w : World) : Prop := ∀ g cs, G g = some cs → PVR S w (.vptr cs) (.pointer (some ⟨g, 0, none⟩)) ∧ S g ∧ ∃ (arr : Array Value) (ty : TypeId) (fz : Nat × Nat), w.heap[g]? = some (.cells arr ty fz) ∧ arr.size = cs.length

theorem GRel.ext {G : Glob} {S S' : Nat → Prop} {w w' : World} (g : GRel G S w) (he : Ext S w w') (hS : ∀ b, S b → S' b) : GRel G S' w' := fun i cs hi => by
  obtain ⟨h1, h2, arr, ty, fz, h3, h4⟩ := g i cs hi
  exact ⟨h1.ext he hS, hS _ h2, arr, ty, fz, by rw [he.stab i h2]; exact h3, h4⟩

structure RelSt (G : Glob) (ρ : Nat → Option (Nat × Nat)) (S : Nat → Prop) (σ : AS) (a : Act) (w : World) : Prop where
  heap : RelH ρ S σ.h w
  size : a.tmps.size = σ.m
  slots : ∀ i, AVR ρ S w (σ.sl i) (a.tmps.getD i Go.undef)
  fresh : ∀ id, σ.n ≤ id → id < σ.N → ρ id = none
  glob : GRel G S w
  defers : a.defers = []

/-- A state gone on. -/
structure After (G : Glob) (ρ : Nat → Option (Nat × Nat)) (S : Nat → Prop) (σ : AS) (w : World) (ρ' : Nat → Option (Nat × Nat)) (S' : Nat → Prop) (σ' : AS) (a' : Act) (w' : World) : Prop where
  rel : RelSt G ρ' S' σ' a' w'
  adv : Adv ρ S σ.h w ρ' S' σ'.h w'
  keep : ∀ id, id < σ.n ∨ σ'.n ≤ id → ρ' id = ρ id
  le : σ.n ≤ σ'.n
  m : σ'.m = σ.m
  N : σ'.N = σ.N

section
variable {P : Program} {G : Glob} {ρ ρ1 ρ2 : Nat → Option (Nat × Nat)} {S S1 S2 : Nat → Prop} {σ σ1 σ2 : AS} {a a1 a2 : Act} {w w1 w2 : World}

theorem After.refl (R : RelSt G ρ S σ a w) : After G ρ S σ w ρ S σ a w := ⟨R, .refl _ _ _ _, fun _ _ => rfl, Nat.le_refl _, rfl, rfl⟩

theorem After.trans (x : After G ρ S σ w ρ1 S1 σ1 a1 w1) (y : After G ρ1 S1 σ1 w1 ρ2 S2 σ2 a2 w2) : After G ρ S σ w ρ2 S2 σ2 a2 w2 :=
  ⟨y.rel, x.adv.trans y.adv, fun id h => (y.keep id (h.imp (fun h => Nat.lt_of_lt_of_le h x.le) fun h => h)).trans (x.keep id (h.imp (fun h => h) fun h => Nat.le_trans y.le h)), Nat.le_trans x.le y.le, y.m.trans x.m, y.N.trans x.N⟩

theorem GRel.adv (g : GRel G S w) {h h' : AHeap} {ρ' : Nat → Option (Nat × Nat)} {S' : Nat → Prop} {w' : World} (r : RelH ρ S h w) (d : Adv ρ S h w ρ' S' h' w') : GRel G S' w' := g.ext (r.ext d.fr) d.up

theorem RelSt.evs (R : RelSt G ρ S σ a w) : Evs G ρ S w σ.sl a.eval := by
  intro x y hxy
  cases x with
  | tmp t => simp [opdOf] at hxy; subst hxy; exact R.slots t
  | const v =>
    simp only [opdOf, Option.map_eq_some_iff] at hxy
    obtain ⟨c, hc, rfl⟩ := hxy
    exact .pv _ _ (constAV_rel hc).1
  | global g =>
    simp only [opdOf, Option.map_eq_some_iff] at hxy
    obtain ⟨cs, hc, rfl⟩ := hxy
    exact .pv _ _ (R.glob g cs hc).1
  | func f =>
    simp [opdOf] at hxy; subst hxy
    exact .pv _ _ (.func _ [] [] [] [] rfl rfl (fun i c x h => by simp at h) (fun i c x h => by simp at h))

/-- An operation, run where slots and heap are these, hands back this. -/
def Yields (P : Program) (G : Glob) (o : Oper) (sl : Nat → AV) (h : AHeap) (n N n' : Nat) (c : AV) (h' : AHeap) : Prop :=
  ∀ (ρ : Nat → Option (Nat × Nat)) (S : Nat → Prop) (w : World) (a : Act), RelH ρ S h w → (∀ id, n ≤ id → id < N → ρ id = none) → Evs G ρ S w sl a.eval → GRel G S w →
    ∀ (next : Act → World → Prop) (Q : Exit → Act → World → Prop),
      (∀ v w' ρ' S', AVR ρ' S' w' c v → RelH ρ' S' h' w' → Adv ρ S h w ρ' S' h' w' → (∀ id, id < n ∨ n' ≤ id → ρ' id = ρ id) → next (a.put o.dst v) w') → o.wp P a w next Q

theorem yields_op {o : Oper} {op : AOp} {sl : Nat → AV} {h : AHeap} {n N : Nat} {c : AV} {U : List (Nat × Option Blk)} (hN : n < N) (hc : compOp P G o = some op) (hr : runOp op sl h n = some (c, U)) : Yields P G o sl h n N (n + 1) c (app h U) := by
  intro ρ S w a r hf he hg next Q hn
  obtain ⟨u, w', hex, ρ', S', g1, g2, g3, g4⟩ := snd_op (P := P) r (hf n (Nat.le_refl _) hN) he hc hr
  have := hn u w' ρ' S' g1 g2 g3 (fun id hid => g4 id (by omega))
  unfold Oper.wp
  rcases hex with e | ⟨e, hu⟩
  · rw [e]; exact this
  · rw [e]; subst hu; exact this

def wantedA (g : Option (Nat × Bool)) (sl : Nat → AV) : Option Bool := match g with
  | none => some true
  | some (t, want) => match sl t with
    | .bool b => some (b == want)
    | .undef => some false
    | _ => none

def compGuard (ops : Array Oper) (o : Oper) : Option (Option (Nat × Bool)) := match o.guard with
  | none => some none
  | some (j, want) => match (ops[j]?).bind (·.dst) with
    | some t => some (some (t, want))
    | none => none

theorem wanted_rel {ops : Array Oper} {o : Oper} {g : Option (Nat × Bool)} {b : Bool} {sl : Nat → AV} (hg : compGuard ops o = some g) (hw : wantedA g sl = some b) (hs : ∀ i, AVR ρ S w (sl i) (a.tmps.getD i Go.undef)) :
    Region.wanted o (yielded ops a.tmps) = b := by
  unfold compGuard at hg
  unfold Region.wanted
  split at hg
  · rename_i h0
    injection hg with hg; subst hg
    simp [wantedA] at hw
    simp [h0, hw]
  · rename_i j want h0
    split at hg
    · rename_i t ht
      injection hg with hg; subst hg
      simp only [wantedA] at hw
      have hy : yielded ops a.tmps j = match a.tmps[t]? with
          | some (.bool b) => some b
          | _ => none := by unfold yielded; rw [ht]; rfl
      simp only [h0]
      have hst := hs t
      split at hw
      · rename_i b' hb
        injection hw with hw
        rw [hb] at hst
        have := avr_bool hst
        rw [Array.getD_eq_getD_getElem?] at this
        rw [hy]
        cases hq : a.tmps[t]? with
        | none => rw [hq] at this; simp [Go.undef] at this
        | some v =>
          rw [hq] at this
          simp only [Option.getD_some] at this
          subst this
          simpa using hw
      · rename_i hb
        injection hw with hw
        rw [hb] at hst
        have := avr_undef hst
        rw [Array.getD_eq_getD_getElem?] at this
        rw [hy]
        cases hq : a.tmps[t]? with
        | none => simp [← hw]
        | some v =>
          rw [hq] at this
          simp only [Option.getD_some] at this
          subst this
          simp [Go.undef, ← hw]
      · cases hw
    · cases hg

theorem put_slots {dst : Option Nat} {c : AV} {v : Value} {sl : Nat → AV} (hd : ∀ d, dst = some d → d < a.tmps.size) (hs : ∀ i, AVR ρ S w (sl i) (a.tmps.getD i Go.undef)) (hc : AVR ρ S w c v) (i : Nat) :
    AVR ρ S w (putSl sl dst c i) ((a.put dst v).tmps.getD i Go.undef) := by
  cases dst with
  | none => exact hs i
  | some d =>
    simp only [putSl, Act.put, Array.getD_eq_getD_getElem?, Array.getElem?_setIfInBounds]
    have h := hs i
    rw [Array.getD_eq_getD_getElem?] at h
    have h2 := hd d rfl
    by_cases hi : i = d
    · subst hi
      simp [h2, hc]
    · rw [if_neg hi, if_neg (fun e => hi e.symm)]
      exact h

/-- One operation of a region, in a state. -/
def Steps1 (P : Program) (G : Glob) (ops : Array Oper) (o : Oper) (σ σ' : AS) : Prop :=
  (∀ d, o.dst = some d → d < σ.m) ∧ ∃ g, compGuard ops o = some g ∧
    ((wantedA g σ.sl = some false ∧ σ' = { σ with sl := putSl σ.sl o.dst .undef }) ∨
     (wantedA g σ.sl = some true ∧ ∃ c h' n', σ.n ≤ n' ∧ Yields P G o σ.sl σ.h σ.n σ.N n' c h' ∧ σ' = { σ with sl := putSl σ.sl o.dst c, h := h', n := n' }))

theorem act_put_size (a : Act) (dst : Option Tmp) (v : Value) : (a.put dst v).tmps.size = a.tmps.size := by
  cases dst <;> simp [Act.put]
theorem act_put_defers (a : Act) (dst : Option Tmp) (v : Value) : (a.put dst v).defers = a.defers := by
  cases dst <;> simp [Act.put]

theorem wpOp_steps1 {ops : Array Oper} {i : Nat} {o : Oper} {Q : Exit → Act → World → Prop} {K : Act → World → Prop} (ho : ops[i]? = some o) (h : Steps1 P G ops o σ σ1) (R : RelSt G ρ S σ a w)
    (hK : ∀ ρ' S' a' w', After G ρ S σ w ρ' S' σ1 a' w' → K a' w') : wpOp P ops Q i K a w := by
  obtain ⟨hd, g, hg, hh⟩ := h
  unfold wpOp
  simp only [ho]
  have hd' : ∀ d, o.dst = some d → d < a.tmps.size := fun d hx => by rw [R.size]; exact hd d hx
  rcases hh with ⟨hw, rfl⟩ | ⟨hw, c, h', k, hk, hy, rfl⟩
  · rw [wanted_rel hg hw R.slots]
    simp only [Bool.false_eq_true, if_false]
    exact hK ρ S _ w ⟨⟨R.heap, by rw [act_put_size]; exact R.size, put_slots hd' R.slots (.pv _ _ .undef), R.fresh, R.glob, by rw [act_put_defers]; exact R.defers⟩, .refl _ _ _ _, fun _ _ => rfl, Nat.le_refl _, rfl, rfl⟩
  · rw [wanted_rel hg hw R.slots]
    simp only [if_true]
    refine .inl (hy ρ S w a R.heap R.fresh R.evs R.glob _ _ fun v w' ρ' S' g1 g2 g3 g4 => ?_)
    refine hK ρ' S' _ w' ⟨⟨g2, by rw [act_put_size]; exact R.size, put_slots hd' (fun i => (R.slots i).adv R.heap g3) g1, fun id hid hid2 => ?_, R.glob.adv R.heap g3, by rw [act_put_defers]; exact R.defers⟩, g3, g4, hk, rfl, rfl⟩
    have : k ≤ id := hid
    rw [g4 id (.inr this)]; exact R.fresh id (by omega) hid2

def Runs (P : Program) (G : Glob) (ops : Array Oper) : List Oper → AS → AS → Prop
  | [], σ, σ' => σ' = σ
  | o :: r, σ, σ' => ∃ σ1, Steps1 P G ops o σ σ1 ∧ Runs P G ops r σ1 σ'

theorem wpOps_runs {ops : Array Oper} {Q : Exit → Act → World → Prop} : ∀ (l : List Oper) (i : Nat) {σ σ' : AS} {ρ : Nat → Option (Nat × Nat)} {S : Nat → Prop} {a : Act} {w : World}, (∀ j, l[j]? = ops[i + j]?) → Runs P G ops l σ σ' → RelSt G ρ S σ a w →
    (∀ ρ' S' a' w', After G ρ S σ w ρ' S' σ' a' w' → Q .normal a' w') → wpOps P ops Q (List.range' i l.length) a w
  | [], i, σ, σ', ρ, S, a, w, hl, h, R, hQ => by
    simp only [Runs] at h; subst h
    exact hQ ρ S a w (.refl R)
  | o :: r, i, σ, σ', ρ, S, a, w, hl, h, R, hQ => by
    obtain ⟨σ1, h1, h2⟩ := h
    rw [List.length_cons, List.range'_succ, wpOps_cons]
    refine wpOp_steps1 (by simpa using (hl 0).symm) h1 R fun ρ1 S1 a1 w1 A => ?_
    exact wpOps_runs r (i + 1) (fun j => by have := hl (j + 1); simpa [Nat.add_assoc, Nat.add_comm 1 j] using this) h2 A.rel fun ρ2 S2 a2 w2 B => hQ ρ2 S2 a2 w2 (A.trans B)

/-! ### The code -/

/-- A piece of code, from a state: how it ends. -/
def AC (P : Program) (G : Glob) (c : Code) (σ : AS) (Q : Exit → AS → Prop) : Prop :=
  ∀ (ρ : Nat → Option (Nat × Nat)) (S : Nat → Prop) (a : Act) (w : World), RelSt G ρ S σ a w → c.wp P (fun e a' w' => ∃ ρ' S' σ', After G ρ S σ w ρ' S' σ' a' w' ∧ Q e σ') a w

theorem AC.mono {c : Code} {Q Q' : Exit → AS → Prop} (h : AC P G c σ Q) (hq : ∀ e σ', Q e σ' → Q' e σ') : AC P G c σ Q' :=
  fun ρ S a w R => wp_mono (h ρ S a w R) fun e a' w' ⟨ρ', S', σ', A, q⟩ => ⟨ρ', S', σ', A, hq e σ' q⟩

theorem ac_skip {Q : Exit → AS → Prop} (h : Q .normal σ) : AC P G .skip σ Q := fun ρ S a w R => wp_skip ⟨ρ, S, σ, .refl R, h⟩
theorem ac_exit {Q : Exit → AS → Prop} {id : Nat} (h : Q (.exit id) σ) : AC P G (.exit id) σ Q := fun ρ S a w R => wp_exit ⟨ρ, S, σ, .refl R, h⟩
theorem ac_ret {Q : Exit → AS → Prop} (h : Q .ret σ) : AC P G .ret σ Q := fun ρ S a w R => wp_ret ⟨ρ, S, σ, .refl R, h⟩
theorem ac_goto {Q : Exit → AS → Prop} {l : Nat} (h : Q (.goto l) σ) : AC P G (.goto l) σ Q := fun ρ S a w R => wp_goto ⟨ρ, S, σ, .refl R, h⟩
theorem ac_label {Q : Exit → AS → Prop} {l : Nat} (h : Q .normal σ) : AC P G (.label l) σ Q := fun ρ S a w R => wp_label ⟨ρ, S, σ, .refl R, h⟩

def thenA (K : AS → Prop) (Q : Exit → AS → Prop) : Exit → AS → Prop
  | .normal, σ => K σ
  | e, σ => Q e σ

theorem ac_seq {x y : Code} {Q : Exit → AS → Prop} (h : AC P G x σ (thenA (fun σ1 => AC P G y σ1 Q) Q)) : AC P G (.seq x y) σ Q := by
  intro ρ S a w R
  refine wp_seq (wp_mono (h ρ S a w R) ?_)
  intro e a1 w1 ⟨ρ1, S1, σ1, A, q⟩
  cases e with
  | normal => exact wp_mono (q ρ1 S1 a1 w1 A.rel) fun e a2 w2 ⟨ρ2, S2, σ2, B, q2⟩ => ⟨ρ2, S2, σ2, A.trans B, q2⟩
  | exit id => exact ⟨ρ1, S1, σ1, A, q⟩
  | goto l => exact ⟨ρ1, S1, σ1, A, q⟩
  | ret => exact ⟨ρ1, S1, σ1, A, q⟩
  | panic ch => exact ⟨ρ1, S1, σ1, A, q⟩
  | outgrown => exact ⟨ρ1, S1, σ1, A, q⟩

theorem ac_cond {c : Operand} {x y : Code} {Q : Exit → AS → Prop} {p : AOpd} {t : Bool} (hc : opdOf G c = some p) (hp : p.ev σ.sl = .bool t) (h : AC P G (if t then x else y) σ Q) : AC P G (.cond c x y) σ Q := by
  intro ρ S a w R
  have := R.evs c p hc
  rw [hp] at this
  exact wp_cond (avr_bool this) (h ρ S a w R)

def blockA (id : Nat) (Q : Exit → AS → Prop) : Exit → AS → Prop
  | .exit id', σ => if id' = id then Q .normal σ else Q (.exit id') σ
  | e, σ => Q e σ

theorem ac_block {id : Nat} {c : Code} {Q : Exit → AS → Prop} (h : AC P G c σ (blockA id Q)) : AC P G (.block id c) σ Q := by
  intro ρ S a w R
  refine wp_block (wp_mono (h ρ S a w R) ?_)
  intro e a1 w1 ⟨ρ1, S1, σ1, A, q⟩
  cases e with
  | normal => exact ⟨ρ1, S1, σ1, A, q⟩
  | exit id' =>
    simp only [Exit.inBlock, blockA] at q ⊢
    split <;> rename_i hid <;> simp only [hid, if_true, if_false] at q
    · exact ⟨ρ1, S1, σ1, A, q⟩
    · exact ⟨ρ1, S1, σ1, A, q⟩
  | goto l => exact ⟨ρ1, S1, σ1, A, q⟩
  | ret => exact ⟨ρ1, S1, σ1, A, q⟩
  | panic ch => exact ⟨ρ1, S1, σ1, A, q⟩
  | outgrown => exact ⟨ρ1, S1, σ1, A, q⟩

theorem ac_loop {c : Code} {Q : Exit → AS → Prop} (I : Nat → AS → Prop) (n0 : Nat) (h0 : I n0 σ) (round : ∀ n σ, I n σ → AC P G c σ (thenA (fun σ' => ∃ n', n' < n ∧ I n' σ') Q)) : AC P G (.loop c) σ Q := by
  intro ρ S a w R
  refine wp_loop_ghost (fun n a' w' => ∃ ρ' S' σ', After G ρ S σ w ρ' S' σ' a' w' ∧ I n σ') n0 ⟨ρ, S, σ, .refl R, h0⟩ ?_
  intro n a1 w1 ⟨ρ1, S1, σ1, A, hI⟩
  refine wp_mono (round n σ1 hI ρ1 S1 a1 w1 A.rel) ?_
  intro e a2 w2 ⟨ρ2, S2, σ2, B, q⟩
  cases e with
  | normal =>
    obtain ⟨n', hn, hI'⟩ := q
    exact ⟨n', hn, ρ2, S2, σ2, A.trans B, hI'⟩
  | exit id => exact ⟨ρ2, S2, σ2, A.trans B, q⟩
  | goto l => exact ⟨ρ2, S2, σ2, A.trans B, q⟩
  | ret => exact ⟨ρ2, S2, σ2, A.trans B, q⟩
  | panic ch => exact ⟨ρ2, S2, σ2, A.trans B, q⟩
  | outgrown => exact ⟨ρ2, S2, σ2, A.trans B, q⟩

theorem ac_region {id : Nat} {ops : Array Oper} {Q : Exit → AS → Prop} (h : Runs P G ops ops.toList σ σ1) (hQ : Q .normal σ1) : AC P G (.region id ops false) σ Q := by
  intro ρ S a w R
  refine wp_region ?_
  rw [List.range_eq_range']
  have := wpOps_runs (P := P) (Q := fun e a' w' => ∃ ρ' S' σ', After G ρ S σ w ρ' S' σ' a' w' ∧ Q e σ') ops.toList 0 (by simp) h R (fun ρ' S' a' w' A => ⟨ρ', S', σ1, A, hQ⟩)
  simpa using this
end
end Go.Fw
