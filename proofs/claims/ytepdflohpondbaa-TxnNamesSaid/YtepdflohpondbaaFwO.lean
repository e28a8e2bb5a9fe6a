/- Trees for slots and heaps; the evaluator of a region in the order of its text. -/
import Derived.Test.YtepdflohpondbaaFwN
set_option linter.unusedSimpArgs false
set_option linter.unusedVariables false
namespace Go.Fw

inductive Tr (α : Type) where
  | nil
  | node (v : α) (l r : Tr α)

def Tr.get {α : Type} (d : α) : Tr α → Nat → α
  | .nil, _ => d
  | .node v l r, n => bif n == 0 then v else bif n % 2 == 1 then l.get d (n / 2) else r.get d (n / 2 - 1)

def Tr.set {α : Type} (d a : α) : Nat → Tr α → Nat → Tr α
  | 0, t, _ => t
  | f + 1, .nil, n => bif n == 0 then .node a .nil .nil else bif n % 2 == 1 then .node d (Tr.set d a f .nil (n / 2)) .nil else .node d .nil (Tr.set d a f .nil (n / 2 - 1))
  | f + 1, .node v l r, n => bif n == 0 then .node a l r else bif n % 2 == 1 then .node v (Tr.set d a f l (n / 2)) r else .node v l (Tr.set d a f r (n / 2 - 1))

theorem Tr.get_set {α : Type} (d a : α) : ∀ (f : Nat) (t : Tr α) (n m : Nat), n + 1 < 2 ^ f → (Tr.set d a f t n).get d m = if m = n then a else t.get d m
  | 0, t, n, m, h => by simp at h
  | f + 1, t, n, m, h => by
    have h2 : 2 ^ (f + 1) = 2 * 2 ^ f := by rw [Nat.pow_succ, Nat.mul_comm]
    have nilget : ∀ k, (Tr.nil : Tr α).get d k = d := fun k => rfl
    cases t with
    | nil =>
      simp only [Tr.set]
      by_cases h0 : n = 0
      · subst h0
        simp only [beq_self_eq_true, cond_true, Tr.get]
        by_cases hm : m = 0
        · subst hm; simp
        · rw [if_neg hm]
          have : (m == 0) = false := by simpa using hm
          simp only [this, cond_false]
          cases (m % 2 == 1) <;> simp
      · have e0 : (n == 0) = false := by simpa using h0
        simp only [e0, cond_false]
        by_cases h1 : n % 2 = 1
        · have e1 : (n % 2 == 1) = true := by simpa using h1
          simp only [e1, cond_true, Tr.get]
          by_cases hm : m = 0
          · subst hm; rw [if_neg (by omega)]; simp
          · have em : (m == 0) = false := by simpa using hm
            simp only [em, cond_false]
            by_cases hm1 : m % 2 = 1
            · have em1 : (m % 2 == 1) = true := by simpa using hm1
              simp only [em1, cond_true]
              rw [Tr.get_set d a f .nil (n / 2) (m / 2) (by omega)]
              by_cases hmn : m = n
              · subst hmn; simp
              · rw [if_neg hmn, if_neg (by omega)]; rfl
            · have em1 : (m % 2 == 1) = false := by simpa using hm1
              simp only [em1, cond_false]
              rw [if_neg (by rintro rfl; exact hm1 h1)]
        · have e1 : (n % 2 == 1) = false := by simpa using h1
          simp only [e1, cond_false, Tr.get]
          by_cases hm : m = 0
          · subst hm; rw [if_neg (by omega)]; simp
          · have em : (m == 0) = false := by simpa using hm
            simp only [em, cond_false]
            by_cases hm1 : m % 2 = 1
            · have em1 : (m % 2 == 1) = true := by simpa using hm1
              simp only [em1, cond_true]
              rw [if_neg (by rintro rfl; exact h1 hm1)]
            · have em1 : (m % 2 == 1) = false := by simpa using hm1
              simp only [em1, cond_false]
              rw [Tr.get_set d a f .nil (n / 2 - 1) (m / 2 - 1) (by omega)]
              by_cases hmn : m = n
              · subst hmn; simp
              · rw [if_neg hmn, if_neg (by omega)]; rfl
    | node v l r =>
      simp only [Tr.set]
      by_cases h0 : n = 0
      · subst h0
        simp only [beq_self_eq_true, cond_true, Tr.get]
        by_cases hm : m = 0
        · subst hm; simp
        · rw [if_neg hm]
          have : (m == 0) = false := by simpa using hm
          simp only [this, cond_false]
      · have e0 : (n == 0) = false := by simpa using h0
        simp only [e0, cond_false]
        by_cases h1 : n % 2 = 1
        · have e1 : (n % 2 == 1) = true := by simpa using h1
          simp only [e1, cond_true, Tr.get]
          by_cases hm : m = 0
          · subst hm; rw [if_neg (by omega)]; simp
          · have em : (m == 0) = false := by simpa using hm
            simp only [em, cond_false]
            by_cases hm1 : m % 2 = 1
            · have em1 : (m % 2 == 1) = true := by simpa using hm1
              simp only [em1, cond_true]
              rw [Tr.get_set d a f l (n / 2) (m / 2) (by omega)]
              by_cases hmn : m = n
              · subst hmn; simp
              · rw [if_neg hmn, if_neg (by omega)]
            · have em1 : (m % 2 == 1) = false := by simpa using hm1
              simp only [em1, cond_false]
              rw [if_neg (by rintro rfl; exact hm1 h1)]
        · have e1 : (n % 2 == 1) = false := by simpa using h1
          simp only [e1, cond_false, Tr.get]
          by_cases hm : m = 0
          · subst hm; rw [if_neg (by omega)]; simp
          · have em : (m == 0) = false := by simpa using hm
            simp only [em, cond_false]
            by_cases hm1 : m % 2 = 1
            · have em1 : (m % 2 == 1) = true := by simpa using hm1
              simp only [em1, cond_true]
              rw [if_neg (by rintro rfl; exact h1 hm1)]
            · have em1 : (m % 2 == 1) = false := by simpa using hm1
              simp only [em1, cond_false]
              rw [Tr.get_set d a f r (n / 2 - 1) (m / 2 - 1) (by omega)]
              by_cases hmn : m = n
              · subst hmn; simp
              · rw [if_neg hmn, if_neg (by omega)]

/-- The state of the evaluator. -/
structure ES where
  sl : Tr AV
  h : Tr (Option Blk)
  n : Nat

def slT (t : Tr AV) : Nat → AV := fun i => t.get .undef i
def hT (t : Tr (Option Blk)) : AHeap := fun i => t.get none i
def ES.as (s : ES) (N m : Nat) : AS := { sl := slT s.sl, h := hT s.h, n := s.n, N := N, m := m }

def putT (t : Tr AV) (dst : Option Nat) (a : AV) : Tr AV := match dst with
  | some d => Tr.set .undef a 24 t d
  | none => t
def appT (t : Tr (Option Blk)) : List (Nat × Option Blk) → Tr (Option Blk)
  | [] => t
  | (i, b) :: r => appT (Tr.set none b 24 t i) r

theorem putT_sl {t : Tr AV} {dst : Option Nat} {a : AV} (hd : ∀ d, dst = some d → d + 1 < 2 ^ 24) : slT (putT t dst a) = putSl (slT t) dst a := by
  cases dst with
  | none => rfl
  | some d =>
    funext i
    simp only [slT, putT, putSl]
    rw [Tr.get_set _ _ _ _ _ _ (hd d rfl)]

theorem appT_h : ∀ {U : List (Nat × Option Blk)} {t : Tr (Option Blk)}, (∀ x ∈ U, x.1 + 1 < 2 ^ 24) → hT (appT t U) = app (hT t) U
  | [], t, _ => rfl
  | (i, b) :: r, t, hu => by
    simp only [appT, app]
    rw [appT_h (fun x hx => hu x (List.mem_cons_of_mem _ hx))]
    congr 1
    funext j
    simp only [hT, upd]
    rw [Tr.get_set _ _ _ _ _ _ (hu _ List.mem_cons_self)]
end Go.Fw
