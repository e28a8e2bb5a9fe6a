/- Regions that draw their order: one run in the order of the text serves every order. -/
import Derived.Test.YtepdflohpondbaaFwP
set_option linter.unusedSimpArgs false
set_option linter.unusedVariables false
namespace Go.Fw

/-! ### The last one that wrote -/
def lw (p : Nat → Bool) : Nat → Option Nat
  | 0 => none
  | n + 1 => if p n then some n else lw p n

theorem lw_congr {p q : Nat → Bool} : ∀ {n : Nat}, (∀ i, i < n → p i = q i) → lw p n = lw q n
  | 0, _ => rfl
  | n + 1, h => by
    simp only [lw, h n (by omega)]
    rw [lw_congr (n := n) (fun i hi => h i (by omega))]

theorem lw_last {p : Nat → Bool} {j : Nat} (hj : p j = true) : ∀ {n : Nat}, j < n → (∀ i, j < i → i < n → p i = false) → lw p n = some j
  | 0, h, _ => by omega
  | n + 1, h, hl => by
    simp only [lw]
    by_cases e : n = j
    · subst e; simp [hj]
    · rw [hl n (by omega) (by omega)]
      simpa using lw_last hj (n := n) (by omega) (fun i h1 h2 => hl i h1 (by omega))

def appAt : List (Nat × Option Blk) → Nat → Option (Option Blk)
  | [], _ => none
  | (i, b) :: r, id => match appAt r id with
    | some x => some x
    | none => if i = id then some b else none

theorem app_at : ∀ {U : List (Nat × Option Blk)} {h : AHeap} {id : Nat}, app h U id = (appAt U id).getD (h id)
  | [], h, id => rfl
  | (i, b) :: r, h, id => by
    simp only [app, appAt]
    rw [app_at (U := r)]
    cases appAt r id with
    | some x => rfl
    | none =>
      by_cases e : i = id
      · subst e; simp
      · have e2 : id ≠ i := fun e' => e e'.symm
        simp [e, upd, e2]

/-! ### Counting -/
def cnt (L : Nat → Bool) : Nat → Nat
  | 0 => 0
  | n + 1 => cnt L n + if L n then 0 else 1

def addL (L : Nat → Bool) (j : Nat) : Nat → Bool := fun i => if i = j then true else L i

theorem cnt_ge {L : Nat → Bool} {j : Nat} : ∀ {n : Nat}, n ≤ j → cnt (addL L j) n = cnt L n
  | 0, _ => rfl
  | n + 1, h => by
    have e : n ≠ j := by omega
    have ih := cnt_ge (L := L) (j := j) (n := n) (by omega)
    simp only [cnt, ih, addL, if_neg e]

theorem cnt_add {L : Nat → Bool} {j : Nat} (hj : L j = false) : ∀ {n : Nat}, j < n → cnt L n = cnt (addL L j) n + 1
  | 0, h => by omega
  | n + 1, h => by
    by_cases e : n = j
    · subst e
      simp only [cnt, cnt_ge (Nat.le_refl n), hj, addL]
      simp
    · have ih := cnt_add hj (n := n) (by omega)
      have : addL L j n = L n := by simp [addL, e]
      simp only [cnt, this, ih]; omega

theorem cnt_zero {L : Nat → Bool} : ∀ {n : Nat}, cnt L n = 0 → ∀ i, i < n → L i = true
  | 0, _, i, hi => by omega
  | n + 1, h, i, hi => by
    simp only [cnt] at h
    by_cases e : i = n
    · subst e
      cases hL : L i with
      | true => rfl
      | false => rw [hL] at h; simp at h
    · exact cnt_zero (n := n) (by omega) i (by omega)

/-! ### The data of a run in the order of the text -/
structure Tx where
  c : Nat → AV
  U : Nat → List (Nat × Option Blk)
  lo : Nat → Nat
  looks : Nat → List Nat
  foot : Nat → List Nat

def dstOf (ops : Array Oper) (i : Nat) : Option Nat := (ops[i]?).bind (·.dst)

def slL (ops : Array Oper) (T : Tx) (sl0 : Nat → AV) (k : Nat) (L : Nat → Bool) : Nat → AV := fun s =>
  match lw (fun i => L i && decide (dstOf ops i = some s)) k with
  | some i => T.c i
  | none => sl0 s
def hL (T : Tx) (h0 : AHeap) (k : Nat) (L : Nat → Bool) : AHeap := fun id =>
  match lw (fun i => L i && (appAt (T.U i) id).isSome) k with
  | some i => (appAt (T.U i) id).getD none
  | none => h0 id

/-- What is done in the order of its edges. -/
def closed (ops : Array Oper) (L : Nat → Bool) : Prop := ∀ (j : Nat) (o : Oper), ops[j]? = some o → L j = true → ∀ e ∈ o.after, Region.binds .any e = true → L e.on = true
def reach (ops : Array Oper) (i j : Nat) : Prop := ∀ L, closed ops L → L j = true → L i = true

structure Drawn (P : Program) (G : Glob) (ops : Array Oper) (T : Tx) (sl0 : Nat → AV) (h0 : AHeap) (n N m : Nat) : Prop where
  dst : ∀ (i : Nat) (o : Oper) (d : Nat), ops[i]? = some o → o.dst = some d → d < m
  lo0 : n ≤ T.lo 0
  mono : ∀ i, T.lo i ≤ T.lo (i + 1)
  hi : T.lo ops.size ≤ N
  down : ∀ (i : Nat) (o : Oper), ops[i]? = some o → ∀ e ∈ o.after, Region.binds .any e = true → e.on < i
  exec : ∀ (i : Nat) (o : Oper), ops[i]? = some o → ∃ g b, compGuard ops o = some g ∧ (∀ L, closed ops L → L i = false → (∀ e ∈ o.after, Region.binds .any e = true → L e.on = true) →
    wantedA g (slL ops T sl0 ops.size L) = some b ∧ (b = true → Yields P G o (slL ops T sl0 ops.size L) (hL T h0 ops.size L) (T.lo i) (T.lo (i + 1)) (T.lo (i + 1)) (T.c i) (app (hL T h0 ops.size L) (T.U i))) ∧ (b = false → T.c i = .undef ∧ T.U i = []))
  slots : ∀ i j, i < j → j < ops.size → (∃ s, dstOf ops i = some s ∧ (s ∈ T.looks j ∨ dstOf ops j = some s)) ∨ (∃ s, dstOf ops j = some s ∧ s ∈ T.looks i) → reach ops i j
  wr : ∀ i j, i < j → j < ops.size → (∃ id, (appAt (T.U i) id).isSome ∧ (appAt (T.U j) id).isSome) → reach ops i j

section
variable {P : Program} {G : Glob} {ops : Array Oper} {T : Tx} {sl0 : Nat → AV} {h0 : AHeap} {n N m : Nat} {L : Nat → Bool}

theorem Drawn.lo_le (D : Drawn P G ops T sl0 h0 n N m) {i j : Nat} (h : i ≤ j) : T.lo i ≤ T.lo j := by
  induction h with
  | refl => exact Nat.le_refl _
  | step _ ih => exact Nat.le_trans ih (D.mono _)

theorem closed_add (hc : closed ops L) {j : Nat} {o : Oper} (ho : ops[j]? = some o) (hr : ∀ e ∈ o.after, Region.binds .any e = true → L e.on = true) : closed ops (addL L j) := by
  intro i o' ho' hi e he hb
  simp only [addL] at hi ⊢
  by_cases e1 : i = j
  · subst e1
    rw [ho] at ho'; injection ho' with ho'; subst ho'
    rw [hr e he hb]; simp
  · rw [if_neg e1] at hi
    rw [hc i o' ho' hi e he hb]; simp

theorem reach_listed (hc : closed ops L) {i j : Nat} {o : Oper} (ho : ops[j]? = some o) (hr : ∀ e ∈ o.after, Region.binds .any e = true → L e.on = true) (hij : i ≠ j) (h : reach ops i j) : L i = true := by
  have := h _ (closed_add hc ho hr) (by simp [addL])
  simpa [addL, hij] using this

theorem slL_put (D : Drawn P G ops T sl0 h0 n N m) (hc : closed ops L) {j : Nat} (hj : j < ops.size) (hL : L j = false) : slL ops T sl0 ops.size (addL L j) = putSl (slL ops T sl0 ops.size L) (dstOf ops j) (T.c j) := by
  funext s
  by_cases hd : dstOf ops j = some s
  · have h1 : lw (fun i => addL L j i && decide (dstOf ops i = some s)) ops.size = some j := by
      refine lw_last (by simp [addL, hd]) hj fun i (h1 : j < i) (h2 : i < ops.size) => ?_
      by_cases h3 : dstOf ops i = some s
      · have := D.slots j i h1 h2 (.inl ⟨s, hd, .inr h3⟩) L hc
        cases hLi : L i with
        | false => simp [addL, hLi]; omega
        | true => rw [this hLi] at hL; cases hL
      · simp [h3]
    rw [hd]
    simp [slL, h1, putSl]
  · have h1 : lw (fun i => addL L j i && decide (dstOf ops i = some s)) ops.size = lw (fun i => L i && decide (dstOf ops i = some s)) ops.size := by
      refine lw_congr fun i _ => ?_
      by_cases e : i = j
      · subst e; simp [hd]
      · simp [addL, e]
    have h2 : putSl (slL ops T sl0 ops.size L) (dstOf ops j) (T.c j) s = slL ops T sl0 ops.size L s := by
      cases hx : dstOf ops j with
      | none => rfl
      | some d =>
        have : s ≠ d := by rintro rfl; exact hd hx
        simp [putSl, this]
    rw [h2]
    simp only [slL, h1]

theorem hL_app (D : Drawn P G ops T sl0 h0 n N m) (hc : closed ops L) {j : Nat} (hj : j < ops.size) (hL0 : L j = false) : hL T h0 ops.size (addL L j) = app (hL T h0 ops.size L) (T.U j) := by
  funext id
  rw [app_at]
  cases hd : appAt (T.U j) id with
  | some x =>
    have h1 : lw (fun i => addL L j i && (appAt (T.U i) id).isSome) ops.size = some j := by
      refine lw_last (by simp [addL, hd]) hj fun i (h1 : j < i) (h2 : i < ops.size) => ?_
      cases h3 : (appAt (T.U i) id).isSome with
      | true =>
        have := D.wr j i h1 h2 ⟨id, by simp [hd], h3⟩ L hc
        cases hLi : L i with
        | false => simp [addL, hLi]; omega
        | true => rw [this hLi] at hL0; cases hL0
      | false => simp
    simp [hL, h1, hd]
  | none =>
    have h1 : lw (fun i => addL L j i && (appAt (T.U i) id).isSome) ops.size = lw (fun i => L i && (appAt (T.U i) id).isSome) ops.size := by
      refine lw_congr fun i _ => ?_
      by_cases e : i = j
      · subst e; simp [hd]
      · simp [addL, e]
    simp only [hL, h1, Option.getD_none]

theorem slL_local (hsl : ∀ i j, i < j → j < ops.size → (∃ s, dstOf ops i = some s ∧ (s ∈ T.looks j ∨ dstOf ops j = some s)) ∨ (∃ s, dstOf ops j = some s ∧ s ∈ T.looks i) → reach ops i j) (hc : closed ops L) {j : Nat} {o : Oper} (hj : j < ops.size) (ho : ops[j]? = some o) (hr : ∀ e ∈ o.after, Region.binds .any e = true → L e.on = true) (hL0 : L j = false) {s : Nat} (hs : s ∈ T.looks j) :
    slL ops T sl0 ops.size L s = slL ops T sl0 ops.size (fun x => decide (x < j)) s := by
  have h1 : lw (fun i => L i && decide (dstOf ops i = some s)) ops.size = lw (fun i => decide (i < j) && decide (dstOf ops i = some s)) ops.size := by
    refine lw_congr fun i hi => ?_
    by_cases h3 : dstOf ops i = some s
    · simp only [h3, decide_true, Bool.and_true]
      rcases Nat.lt_trichotomy i j with h | h | h
      · rw [reach_listed hc ho hr (by omega) (hsl i j h hj (.inl ⟨s, h3, .inl hs⟩))]; simp [h]
      · subst h; simp [hL0]
      · have := hsl j i h hi (.inr ⟨s, h3, hs⟩) L hc
        cases hLi : L i with
        | false => simp; omega
        | true => rw [this hLi] at hL0; cases hL0
    · simp [h3]
  simp only [slL, h1]

theorem hL_local (hc : closed ops L) {j : Nat} (hb1 : ∀ i, i < j → (∃ id, (appAt (T.U i) id).isSome ∧ id ∈ T.foot j) → reach ops i j) (hb2 : ∀ i, j < i → i < ops.size → (∃ id, (appAt (T.U i) id).isSome ∧ id ∈ T.foot j) → reach ops j i) {o : Oper} (hj : j < ops.size) (ho : ops[j]? = some o) (hr : ∀ e ∈ o.after, Region.binds .any e = true → L e.on = true) (hL0 : L j = false) {id : Nat} (hs : id ∈ T.foot j) :
    hL T h0 ops.size L id = hL T h0 ops.size (fun x => decide (x < j)) id := by
  have h1 : lw (fun i => L i && (appAt (T.U i) id).isSome) ops.size = lw (fun i => decide (i < j) && (appAt (T.U i) id).isSome) ops.size := by
    refine lw_congr fun i hi => ?_
    cases h3 : (appAt (T.U i) id).isSome with
    | true =>
      simp only [Bool.and_true]
      rcases Nat.lt_trichotomy i j with h | h | h
      · rw [reach_listed hc ho hr (by omega) (hb1 i h ⟨id, h3, hs⟩)]; simp [h]
      · subst h; simp [hL0]
      · have := hb2 i h hi ⟨id, h3, hs⟩ L hc
        cases hLi : L i with
        | false => simp; omega
        | true => rw [this hLi] at hL0; cases hL0
    | false => simp
  simp only [hL, h1]

/-- By what is looked at. -/
theorem Drawn.of_plain (dst : ∀ (i : Nat) (o : Oper) (d : Nat), ops[i]? = some o → o.dst = some d → d < m) (lo0 : n ≤ T.lo 0) (mono : ∀ i, T.lo i ≤ T.lo (i + 1)) (hi : T.lo ops.size ≤ N)
    (down : ∀ (i : Nat) (o : Oper), ops[i]? = some o → ∀ e ∈ o.after, Region.binds .any e = true → e.on < i)
    (exec : ∀ (i : Nat) (o : Oper), ops[i]? = some o → ∃ g b, compGuard ops o = some g ∧ (∀ sl h, (∀ s ∈ T.looks i, sl s = slL ops T sl0 ops.size (fun x => decide (x < i)) s) → (∀ id ∈ T.foot i, h id = hL T h0 ops.size (fun x => decide (x < i)) id) →
      wantedA g sl = some b ∧ (b = true → Yields P G o sl h (T.lo i) (T.lo (i + 1)) (T.lo (i + 1)) (T.c i) (app h (T.U i))) ∧ (b = false → T.c i = .undef ∧ T.U i = [])))
    (slots : ∀ i j, i < j → j < ops.size → (∃ s, dstOf ops i = some s ∧ (s ∈ T.looks j ∨ dstOf ops j = some s)) ∨ (∃ s, dstOf ops j = some s ∧ s ∈ T.looks i) → reach ops i j)
    (blks : ∀ i j, i < j → j < ops.size → (∃ id, (appAt (T.U i) id).isSome ∧ (id ∈ T.foot j ∨ (appAt (T.U j) id).isSome)) ∨ (∃ id, (appAt (T.U j) id).isSome ∧ id ∈ T.foot i) → reach ops i j) : Drawn P G ops T sl0 h0 n N m := by
  refine ⟨dst, lo0, mono, hi, down, fun i o ho => ?_, slots, fun i j hij hj ⟨id, h1, h2⟩ => blks i j hij hj (.inl ⟨id, h1, .inr h2⟩)⟩
  obtain ⟨g, b, hg, hx⟩ := exec i o ho
  have hlt : i < ops.size := by
    rcases Nat.lt_or_ge i ops.size with h | h
    · exact h
    · rw [Array.getElem?_eq_none h] at ho; cases ho
  refine ⟨g, b, hg, fun L hc hL0 hr => ?_⟩
  exact hx _ _ (fun s hs => slL_local slots hc hlt ho hr hL0 hs)
    (fun id hid => hL_local hc (fun k hk ⟨id, h1, h2⟩ => blks k i hk hlt (.inl ⟨id, h1, .inl h2⟩)) (fun k hk hks ⟨id, h1, h2⟩ => blks i k hk hks (.inr ⟨id, h1, h2⟩)) hlt ho hr hL0 hid)

/-- Where a schedule stands. -/
structure InvD (G : Glob) (ops : Array Oper) (T : Tx) (sl0 : Nat → AV) (h0 : AHeap) (m n N : Nat) (ρ0 : Nat → Option (Nat × Nat)) (S0 : Nat → Prop) (w0 : World) (L : Nat → Bool) (ρ : Nat → Option (Nat × Nat)) (S : Nat → Prop) (a : Act) (w : World) : Prop where
  cl : closed ops L
  heap : RelH ρ S (hL T h0 ops.size L) w
  size : a.tmps.size = m
  slots : ∀ i, AVR ρ S w (slL ops T sl0 ops.size L i) (a.tmps.getD i Go.undef)
  fresh : ∀ id, n ≤ id → id < N → ρ id ≠ none → ∃ i, L i = true ∧ T.lo i ≤ id ∧ id < T.lo (i + 1)
  glob : GRel G S w
  defers : a.defers = []
  adv : Adv ρ0 S0 h0 w0 ρ S (hL T h0 ops.size L) w
  keep : ∀ id, id < n ∨ T.lo ops.size ≤ id → ρ id = ρ0 id

theorem lo_inj (D : Drawn P G ops T sl0 h0 n N m) {i j id : Nat} (h1 : T.lo i ≤ id) (h2 : id < T.lo (i + 1)) (h3 : T.lo j ≤ id) (h4 : id < T.lo (j + 1)) : i = j := by
  rcases Nat.lt_trichotomy i j with h | h | h
  · have := D.lo_le (show i + 1 ≤ j from h); omega
  · exact h
  · have := D.lo_le (show j + 1 ≤ i from h); omega

def lst (listed : Array Bool) : Nat → Bool := fun i => listed.getD i false

theorem wpAny_drawn (D : Drawn P G ops T sl0 h0 n N m) {Q : Exit → Act → World → Prop} {ρ0 : Nat → Option (Nat × Nat)} {S0 : Nat → Prop} {w0 : World}
    (hQ : ∀ ρ S a w, InvD G ops T sl0 h0 m n N ρ0 S0 w0 (fun _ => true) ρ S a w → Q .normal a w) :
    ∀ (fuel : Nat) (listed : Array Bool) (ρ : Nat → Option (Nat × Nat)) (S : Nat → Prop) (a : Act) (w : World), listed.size = ops.size → InvD G ops T sl0 h0 m n N ρ0 S0 w0 (lst listed) ρ S a w → cnt (lst listed) ops.size ≤ fuel →
      wpAny P .any ops Q fuel listed a w := by
  have done : ∀ (listed : Array Bool) ρ S a w, listed.size = ops.size → InvD G ops T sl0 h0 m n N ρ0 S0 w0 (lst listed) ρ S a w → (∀ i, i < ops.size → lst listed i = true) → Q .normal a w := by
    intro listed ρ S a w hsz I hall
    refine hQ ρ S a w ?_
    have e1 : slL ops T sl0 ops.size (lst listed) = slL ops T sl0 ops.size (fun _ => true) := by
      funext s; simp only [slL]; rw [lw_congr (fun i hi => by rw [hall i hi])]
    have e2 : hL T h0 ops.size (lst listed) = hL T h0 ops.size (fun _ => true) := by
      funext s; simp only [hL]; rw [lw_congr (fun i hi => by rw [hall i hi])]
    refine ⟨fun j o ho hj e he hb => rfl, e2 ▸ I.heap, I.size, fun i => e1 ▸ I.slots i, fun id h1 h2 h3 => ?_, I.glob, I.defers, e2 ▸ I.adv, I.keep⟩
    obtain ⟨i, _, x, y⟩ := I.fresh id h1 h2 h3
    exact ⟨i, rfl, x, y⟩
  have stuck : ∀ (listed : Array Bool), listed.size = ops.size → Region.ready .any ops listed = [] → ∀ i, i < ops.size → lst listed i = true := by
    intro listed hsz hnil i
    induction i using Nat.strongRecOn with
    | _ i ih =>
      intro hi
      cases hx : lst listed i with
      | true => rfl
      | false =>
        exfalso
        have ho : ops[i]? = some ops[i] := Array.getElem?_eq_getElem hi
        have : i ∈ Region.ready .any ops listed := by
          refine mem_ready.2 ⟨?_, ops[i], ho, fun e he hb => ?_⟩
          · have : listed.getD i false = false := hx
            rw [Array.getD_eq_getD_getElem?] at this ⊢
            rw [Array.getElem?_eq_getElem (by omega)] at this ⊢
            simpa using this
          · exact ih e.on (D.down i _ ho e he hb) (Nat.lt_trans (D.down i _ ho e he hb) hi)
        rw [hnil] at this; cases this
  intro fuel
  induction fuel with
  | zero =>
    intro listed ρ S a w hsz I hcnt
    have hall := cnt_zero (Nat.le_zero.1 hcnt)
    refine ⟨?_, done listed ρ S a w hsz I hall⟩
    cases hr : Region.ready .any ops listed with
    | nil => rfl
    | cons x r =>
      have hx : x ∈ Region.ready .any ops listed := by rw [hr]; exact List.mem_cons_self
      obtain ⟨h1, o, ho, _⟩ := mem_ready.1 hx
      have hlt : x < ops.size := by
        rcases Nat.lt_or_ge x ops.size with h | h
        · exact h
        · rw [Array.getElem?_eq_none h] at ho; cases ho
      have h2 := hall x hlt
      simp only [lst, Array.getD_eq_getD_getElem?] at h2
      rw [Array.getD_eq_getD_getElem?, Array.getElem?_eq_getElem (by omega)] at h1
      rw [Array.getElem?_eq_getElem (by omega)] at h2
      simp only [Option.getD_some] at h1 h2
      rw [h1] at h2; cases h2
  | succ fuel ih =>
    intro listed ρ S a w hsz I hcnt
    refine ⟨fun hnil => done listed ρ S a w hsz I (stuck listed hsz hnil), fun j hj => ?_⟩
    obtain ⟨hun, o, ho, hall⟩ := mem_ready.1 hj
    have hlt : j < ops.size := by
      rcases Nat.lt_or_ge j ops.size with h | h
      · exact h
      · rw [Array.getElem?_eq_none h] at ho; cases ho
    have hLj : lst listed j = false := by
      simp only [lst, Array.getD_eq_getD_getElem?] at hun ⊢
      rw [Array.getElem?_eq_getElem (by omega)] at hun ⊢
      simpa using hun
    have hr : ∀ e ∈ o.after, Region.binds .any e = true → lst listed e.on = true := fun e he hb => hall e he hb
    have hset : lst (listed.setIfInBounds j true) = addL (lst listed) j := by
      funext i
      simp only [lst, addL, Array.getD_eq_getD_getElem?, Array.getElem?_setIfInBounds]
      by_cases e : i = j
      · subst e; simp [hsz, hlt]
      · rw [if_neg (fun h => e h.symm), if_neg e]
    have hd : dstOf ops j = o.dst := by simp [dstOf, ho]
    have hd' : ∀ d, o.dst = some d → d < a.tmps.size := fun d hx => by rw [I.size]; exact D.dst j o d ho hx
    have hsl := slL_put D I.cl hlt hLj
    have hhp := hL_app D I.cl hlt hLj
    obtain ⟨g, b, hg, hex⟩ := D.exec j o ho
    obtain ⟨hw, ht, hf⟩ := hex (lst listed) I.cl hLj hr
    have hsz' : (listed.setIfInBounds j true).size = ops.size := by simpa using hsz
    have hcnt' : cnt (lst (listed.setIfInBounds j true)) ops.size ≤ fuel := by
      rw [hset]; have := cnt_add hLj hlt; omega
    unfold wpOp
    simp only [ho]
    rw [wanted_rel hg hw I.slots]
    cases b with
    | false =>
      simp only [Bool.false_eq_true, if_false]
      obtain ⟨hc0, hU0⟩ := hf rfl
      refine ih _ ρ S _ w hsz' ?_ hcnt'
      rw [hset]
      rw [hU0] at hhp
      simp only [app] at hhp
      refine ⟨closed_add I.cl ho hr, by rw [hhp]; exact I.heap, by rw [act_put_size]; exact I.size, fun i => ?_, fun id h1 h2 h3 => ?_, I.glob, by rw [act_put_defers]; exact I.defers, by rw [hhp]; exact I.adv, I.keep⟩
      · rw [hsl, hc0, hd]; exact put_slots hd' I.slots (.pv _ _ .undef) i
      · obtain ⟨i, x, y⟩ := I.fresh id h1 h2 h3
        exact ⟨i, by simp [addL, x], y⟩
    | true =>
      simp only [if_true]
      have hfr : ∀ id, T.lo j ≤ id → id < T.lo (j + 1) → ρ id = none := by
        intro id h1 h2
        cases hρ : ρ id with
        | none => rfl
        | some x =>
          have hb1 := D.lo_le (Nat.zero_le j)
          have hb2 := D.lo_le (show j + 1 ≤ ops.size from hlt)
          have hb3 := D.lo0
          have hb4 := D.hi
          obtain ⟨i, hi, h3, h4⟩ := I.fresh id (by omega) (by omega) (by rw [hρ]; simp)
          have := lo_inj D h3 h4 h1 h2
          subst this
          rw [hLj] at hi; cases hi
      refine .inl (ht rfl ρ S w a I.heap hfr ?_ I.glob _ _ fun v w' ρ' S' g1 g2 g3 g4 => ?_)
      · -- the operands
        have R : RelSt G ρ S { sl := slL ops T sl0 ops.size (lst listed), h := hL T h0 ops.size (lst listed), n := 0, N := 0, m := m } a w := ⟨I.heap, I.size, I.slots, fun id _ h => by exact absurd h (Nat.not_lt_zero _), I.glob, I.defers⟩
        exact R.evs
      · refine ih _ ρ' S' _ w' hsz' ?_ hcnt'
        rw [hset]
        refine ⟨closed_add I.cl ho hr, by rw [hhp]; exact g2, by rw [act_put_size]; exact I.size, fun i => ?_, fun id h1 h2 h3 => ?_, I.glob.adv I.heap g3, by rw [act_put_defers]; exact I.defers, by rw [hhp]; exact I.adv.trans g3, fun id hid => ?_⟩
        · rw [hsl, hd]; exact put_slots hd' (fun i => (I.slots i).adv I.heap g3) g1 i
        · by_cases hin : T.lo j ≤ id ∧ id < T.lo (j + 1)
          · exact ⟨j, by simp [addL], hin⟩
          · rw [g4 id (by omega)] at h3
            obtain ⟨i, x, y⟩ := I.fresh id h1 h2 h3
            exact ⟨i, by simp [addL, x], y⟩
        · have hb1 := D.lo_le (Nat.zero_le j)
          have hb2 := D.lo_le (show j + 1 ≤ ops.size from hlt)
          have hb3 := D.lo0
          rw [g4 id (by omega)]
          exact I.keep id hid
end
end Go.Fw
